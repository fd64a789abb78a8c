/- docketref05: Bytes. -/
import Derived.Test.YtndhcimepgcfaaaSr3
namespace Go.Proofs.Ytndhcimepgcfaaa
open Go Go.RowKit
set_option linter.unusedSimpArgs false
set_option linter.unusedVariables false
set_option maxRecDepth 100000
theorem made512 (u : World) : (Instr.makeSlice 51 (.int .i64 512) (.int .i64 512)).run Try.prog u = .ok (.slice (some ⟨u.heap.size, 0, none⟩) 512 512) (u.alloc (.cells (bvs zeros512).toArray 5)) := by
  obtain ⟨i, hi, hz0, hz1, hz2⟩ := info_parts infoU8s
  have h := run_make (P := Try.prog) u 51 5 i _ Try.underlying51 hi hz0 .i64 .i64 512 512 (by omega) (Int.le_refl _) (by rw [hz2]; omega) (by omega)
  rw [hz1] at h
  refine h.trans ?_
  have e1 : ((512 : Int)).toNat = 512 := by omega
  have e2 : madeCells (Value.int .u8 0).cells (512 * 1) = (bvs zeros512).toArray := by
    rw [Nat.mul_one]
    have := toList_madeCells_one (.int .u8 0) 512
    apply Array.toList_inj.1
    rw [show (Value.int .u8 0).cells = #[.int .u8 0] from rfl, this]
    simp only [bvs, zeros512, List.map_replicate]
    rfl
  rw [e1, e2]
/-- The bytes so far. -/
structure PackM (w wr : World) (out : Nat) (now cur : Bytes) (k : Nat) : Prop where
  cells : CellsA wr out 5 (bvs cur)
  len : cur.length = 512
  has : ∀ c, c < 4096 → hasB cur c = (decide (c < k) && hasB now c)
  upd : Upd (fun _ => False) w wr
  lo : w.heap.size ≤ out
theorem PackM.step {w wr : World} {out k : Nat} {now cur : Bytes} (h : PackM w wr out now cur k) (hk : k < 4096) (hn : hasB now k = false) : PackM w wr out now cur (k + 1) := by
  refine ⟨h.cells, h.len, fun c hc => ?_, h.upd, h.lo⟩
  rw [h.has c hc]
  by_cases e : c = k
  · subst e; simp [hn]
  · have : c < k ↔ c < k + 1 := by omega
    simp [this]
theorem PackM.put {w wr : World} {out k : Nat} {now cur : Bytes} (h : PackM w wr out now cur k) (hk : k < 4096) (hn : hasB now k = true) : PackM w ((wr.drew).setCell ⟨out, k / 8, none⟩ (bv ((setB cur k).getD (k / 8) 0))) out now (setB cur k) (k + 1) := by
  refine ⟨?_, by rw [setB_length]; exact h.len, fun c hc => ?_, h.upd.drew.setCell _ (.inr h.lo), h.lo⟩
  · have h1 := (h.cells.upd ((Upd.refl (fun _ => False) wr).drew) (fun h => h)).set (k / 8) (bv ((setB cur k).getD (k / 8) 0))
    rw [bvs_set] at h1
    have e : cur.set (k / 8) ((setB cur k).getD (k / 8) 0) = setB cur k := by
      rw [setB, getD_set_same _ _ _ (by rw [h.len]; omega)]
    rw [e] at h1
    exact h1
  · rw [has_set cur h.len k c hk, h.has c hc]
    by_cases e : c = k
    · subst e; simp [hn]
    · have : c < k ↔ c < k + 1 := by omega
      simp [this, e]
theorem add_bits : ∀ (y : Fin 256) (r : Fin 8), y.val / 2 ^ r.val % 2 = 0 → IntKind.u8.wrap ((y.val : Int) + ((2 ^ r.val : Nat) : Int)) = ((y.val + 2 ^ r.val : Nat) : Int) := by decide +kernel
set_option maxHeartbeats 4000000 in
theorem rbytes_ok {w : World} {rb nb ob N nc oc : Nat} {f g : Nat → Bool} (h : RefM w rb nb ob N nc oc f g) (hN : N ≤ 4096) (now : Bytes) (hl : now.length = 512) (hf : ∀ c, c < N → f c = hasB now c) (hz : ∀ c, N ≤ c → c < 4096 → hasB now c = false) :
    Calls Try.prog 21 #[.pointer (some ⟨rb, 0, none⟩)] w fun e w' => e = .returned (.string (strV now)) ∧ Upd (fun _ => False) w w' := by
  have hNI : (N : Int) ≤ 4096 := by omega
  have hmk := made512
  have H := Lib.hid (And.intro h (And.intro hl (And.intro hf hz)))
  have HP0 : Hid (PackM w (w.alloc (.cells (bvs zeros512).toArray 5)) w.heap.size now zeros512 0) :=
    ⟨CellsA.new w _ _, by simp [zeros512], fun c hc => by rw [has_zeros]; simp, (Upd.refl _ w).alloc _, Nat.le_refl _⟩
  clear h hl hf hz
  go_enter Try.func21, Try.ntmps21
  go_wp2_with fail
  generalize w.alloc (.cells (bvs zeros512).toArray 5) = w1 at *
  generalize w.heap.size = out at *
  clear hmk
  go_loopw [4] (fun i wr => ∃ (k : Nat) (cur : Bytes), k ≤ N ∧ i = .int .i64 k ∧ Hid (PackM w wr out now cur k)) (fun i _ => N - (intOf i).toNat)
  case atStart => exact ⟨0, _, Nat.zero_le _, rfl, HP0⟩
  case round =>
    clear HP0
    obtain ⟨k, cur, hk, rfl, HP⟩ := hrel
    have hR := Lib.hid (H.out.1.upd HP.out.upd (fun _ _ h => h))
    have c0 := hR.out.cells.cell 0
    simp only [List.getElem?_cons_zero] at c0
    by_cases hlt : k < N
    · have hkI : (k : Int) < (N : Int) := by omega
      have d0 := hR.out.nowc k hlt
      have hfk := H.out.2.2.1 k hlt
      obtain ⟨v, hv⟩ : ∃ v, hasB now k = v := ⟨_, rfl⟩
      rw [hfk, hv] at d0
      cases v with
      | false =>
        have HPn := Lib.hid (HP.out.step (by omega) hv)
        clear HP hfk hv
        go_wp2_with fail
        exact ⟨⟨k + 1, _, by omega, by go_num, HPn⟩, by simp [intOf]; omega⟩
      | true =>
        have HPn := Lib.hid (HP.out.put (by omega) hv)
        have hbit := HP.out.has k (by omega)
        obtain ⟨q, hq⟩ : ∃ q, k / 8 = q := ⟨_, rfl⟩
        obtain ⟨r, hrr⟩ : ∃ r, k % 8 = r := ⟨_, rfl⟩
        have hq5 : q < 512 := by omega
        have hr8 : r < 8 := by omega
        have hcell := byte_cell (w := wr) (mb := out) (off := 0) (l := cur) HP.out.cells.range q (by rw [HP.out.len]; exact hq5)
        rw [Nat.zero_add] at hcell
        have hfz := HP.out.cells.frozen q
        obtain ⟨y, hy⟩ : ∃ y, (cur.getD q 0).toNat = y := ⟨_, rfl⟩
        have hy8 := (cur.getD q 0).toNat_lt
        rw [hy] at hcell hy8
        have e1 : (k : Int).tdiv 8 = (q : Int) := by rw [Int.tdiv_eq_ediv_of_nonneg (by omega)]; omega
        have e2 : (k : Int).tmod 8 = (r : Int) := by rw [Int.tmod_eq_emod_of_nonneg (by omega)]; omega
        have e3 : (k : Int) / 8 = (q : Int) := by omega
        have e4 : (k : Int) % 8 = (r : Int) := by omega
        have hqI : (q : Int) < 512 := by omega
        have hrI : (r : Int) < 8 := by omega
        have w1' : IntKind.i64.wrap (q : Int) = (q : Int) := by rw [IntKind.wrap_i64]; omega
        have w2' : IntKind.i64.wrap (r : Int) = (r : Int) := by rw [IntKind.wrap_i64]; omega
        have hq0 : (0 : Int) ≤ (q : Int) := by omega
        have hr0 : (0 : Int) ≤ (r : Int) := by omega
        have hyb : (y : Int) ≤ 255 := by omega
        have hz : y / 2 ^ r % 2 = 0 := by
          have hb2 : hasB cur k = false := by rw [hbit]; simp
          rw [hasB, hq, hrr, hy] at hb2
          have h3 : y / 2 ^ r % 2 = 0 ∨ y / 2 ^ r % 2 = 1 := by omega
          rcases h3 with h3 | h3
          · exact h3
          · rw [h3] at hb2; cases hb2
        have HX := Lib.hid (And.intro hq (And.intro hrr (And.intro hy (And.intro hy8 (And.intro hz (And.intro HP.out.len (And.intro hq5 hr8)))))))
        clear HP hfk hv hbit hq hrr hy hy8 hz
        go_wp2_with fail
        have HS : wr.drew.cell? ⟨out, q, none⟩ = some (.int .u8 y) := hcell
        refine wp_region_planD (fun u => u.cell? ⟨out, q, none⟩ = some (.int .u8 y)) 10 [(0, true), (1, true), (2, true), (3, true), (4, true), (5, true), (6, true), (7, true), (8, true), (9, true), (10, false)] (by kernel_rfl) (by kernel_rfl) (fun d _ _ _ _ h => by cases d <;> exact h) HS ?_
        iterate 10 (first | (apply planD_held rfl rfl rfl (by simp) HS; (intro w' hS K hK; go_simp; exact hK)) | (apply planD_wanted rfl rfl rfl (by simp) HS; (intro w' hS K hK; go_simp; exact hK)))
        refine planD_op rfl rfl (fun K hK => ?_)
        go_simp
        refine hK _ _ _ (fun u h => h) (fun h => absurd rfl h) ?_
        clear hK HS
        try (simp only [Act.put, List.setIfInBounds_toArray, List.set_cons_zero, List.set_cons_succ])
        refine planD_nil ?_
        have hX : IntKind.u8.wrap ((y : Int) + IntKind.u8.wrap (2 ^ r)) = ((y + 2 ^ r : Nat) : Int) := by
          rw [wrap_bit ⟨r, HX.out.2.2.2.2.2.2.2⟩]
          exact add_bits ⟨y, HX.out.2.2.2.1⟩ ⟨r, HX.out.2.2.2.2.2.2.2⟩ HX.out.2.2.2.2.1
        have hE : (setB cur k).getD (k / 8) 0 = UInt8.ofNat (y + 2 ^ r) := by
          obtain ⟨h2, h3, h4, h5, h6, h7, h8, h9⟩ := HX.out
          rw [setB, h2, h3, h4, if_neg (by omega), getD_set_same _ _ _ (by rw [h7]; exact h8)]
        have hlt8 : y + 2 ^ r < 256 := by
          have := add_bit ⟨y, HX.out.2.2.2.1⟩ ⟨r, HX.out.2.2.2.2.2.2.2⟩
          simp only at this
          rwa [if_neg (by have := HX.out.2.2.2.2.1; omega)] at this
        have hW : (wr.drew).setCell ⟨out, k / 8, none⟩ (bv ((setB cur k).getD (k / 8) 0)) = (wr.drew).setCell ⟨out, q, none⟩ (.int .u8 ((y + 2 ^ r : Nat) : Int)) := by
          rw [hE, HX.out.1, bv, u8_nat _ hlt8]
        rw [hW] at HPn
        rw [hX]
        clear hX hE hlt8 hW HX
        go_wp2_with fail
        exact ⟨⟨k + 1, _, by omega, by go_num, HPn⟩, by simp [intOf]; omega⟩
    · obtain rfl : k = N := by omega
      clear hlt
      have hfin : cur = now := has_ext HP.out.len H.out.2.1 (fun c hc => by
        rw [HP.out.has c hc]
        by_cases e : c < k
        · simp [e]
        · rw [H.out.2.2.2 c (by omega) hc]; simp)
      have hse : Sees wr 1 (.slice (some ⟨out, 0, none⟩) 512 512) now.length (bvs now) := by
        have h1 := Sees.at (w := wr) (size := 1) (n := 512) (c := 512) (xs := bvs cur) (b := out) (off := 0) (by rw [bvs_length, HP.out.len]) (by decide) HP.out.cells.range
        rw [hfin] at h1
        rw [H.out.2.1]
        exact h1
      have hcv := run_bytes_string (P := Try.prog) (w := wr) 51 5 9 Try.underlying51 Try.underlying5 Try.underlying9 _ now hse
      have HU := Lib.hid HP.out.upd
      clear hse hfin HP
      go_wp2_with fail
      go_ret
      exact ⟨rfl, HU.out⟩
end Go.Proofs.Ytndhcimepgcfaaa
