/- Package space: Used, Take. -/
import Derived.Test.YtndhcimepgcfaaaSp2
import Derived.Laws.Bits64b
namespace Go.Proofs.Ytndhcimepgcfaaa
open Go Go.RowKit
set_option linter.unusedSimpArgs false
set_option linter.unusedVariables false
set_option maxRecDepth 100000
def popC (v : Nat) : Nat := v % 2 + v / 2 % 2 + v / 4 % 2 + v / 8 % 2 + v / 16 % 2 + v / 32 % 2 + v / 64 % 2 + v / 128 % 2
def ntzC (v : Nat) : Nat := if v % 2 = 1 then 0 else if v / 2 % 2 = 1 then 1 else if v / 4 % 2 = 1 then 2 else if v / 8 % 2 = 1 then 3 else if v / 16 % 2 = 1 then 4 else if v / 32 % 2 = 1 then 5 else if v / 64 % 2 = 1 then 6 else if v / 128 % 2 = 1 then 7 else 8
set_option maxHeartbeats 2000000 in
theorem ones_ok (w : World) (v : Nat) (hv : v < 256) : Calls Try.prog 33 #[.int .u8 v] w fun e w' => e = .returned (.int .i64 (popC v : Nat)) ∧ w = w' := by
  have hvI : (v : Int) ≤ 255 := by omega
  go_enter Try.func33, Try.ntmps33
  go_wp2_with fail
  go_ret
  refine ⟨?_, rfl⟩
  refine congrArg (fun n => Ending.returned (Value.int IntKind.i64 n)) ?_
  clear hvI
  revert v
  decide +kernel
set_option maxHeartbeats 2000000 in
theorem ntz_ok (w : World) (v : Nat) (hv : v < 256) : Calls Try.prog 30 #[.int .u8 v] w fun e w' => e = .returned (.int .i64 (ntzC v : Nat)) ∧ w = w' := by
  have hvI : (v : Int) ≤ 255 := by omega
  go_enter Try.func30, Try.ntmps30
  go_wp2_with fail
  go_ret
  refine ⟨?_, rfl⟩
  refine congrArg (fun n => Ending.returned (Value.int IntKind.i64 n)) ?_
  clear hvI
  revert v
  decide +kernel
theorem sizeSet : (Try.prog.info? 69).map (·.size) = some 512 := by kernel_rfl
theorem infoU8s : (Try.prog.info? 5).map (fun i => (i.zero, i.size, i.bytes)) = some (some (.int .u8 0), 1, 1) := by kernel_rfl
theorem run_index_set (xs : List Value) (i : Nat) (x : UInt8) (hi : i < 512) (hx : xs[i]? = some (bv x)) (u : World) : (Instr.index 69 (.agg xs.toArray) (.int .i64 i)).run Try.prog u = .ok (bv x) u := by
  obtain ⟨j, hj, hz, hs, hb⟩ := info_parts infoU8s
  have hset : Try.prog.underlying 69 = some (.array 512 5) := Try.underlying69
  have hu8 : Try.prog.underlying 5 = some (.int .u8) := Try.underlying5
  have hi2 : (i : Int) < 512 := by omega
  simp [Instr.index, asIntOf, run_underlying hset, hi2, sizeOf, typeInfo, hj, hs, part, isAgg, run_underlying hu8, hx, Result.andThen]
  intro h
  omega
/-- How many bits are set. -/
def usedB (l : Bytes) : Nat := (l.map fun x => popC x.toNat).sum
theorem popC_le (v : Nat) : popC v ≤ 8 := by unfold popC; omega
theorem usedB_le (l : Bytes) : usedB l ≤ 8 * l.length := by
  induction l with
  | nil => simp [usedB]
  | cons x r ih =>
    have := popC_le x.toNat
    simp only [usedB, List.map_cons, List.sum_cons, List.length_cons] at ih ⊢
    omega
theorem usedB_succ (l : Bytes) (k : Nat) (hk : k < l.length) : usedB (l.take (k + 1)) = usedB (l.take k) + popC l[k].toNat := by
  rw [List.take_succ_eq_append_getElem hk, usedB, usedB, List.map_append, List.sum_append]
  simp
set_option maxHeartbeats 2000000 in
theorem mused_ok {w : World} {mb N : Nat} {now old : Bytes} (h : MapS w mb N now old) : Calls Try.prog 14 #[.pointer (some ⟨mb, 0, none⟩)] w fun e w' => e = .returned (.int .i64 (usedB now : Nat)) ∧ w = w' := by
  have hr := h.rnow
  have H := Lib.hid (And.intro h.l1 (usedB_le now))
  have hsz : (Try.prog.info? 69).map (·.size) = some (bvs now).length := by rw [bvs_length, h.l1]; exact sizeSet
  have Hsz := Lib.hid hsz
  clear h hsz
  go_enter Try.func14, Try.ntmps14
  go_wp2_with ((with_reducible apply wpl_load_mid mb 1 (bvs now)); exact rfl; exact hr; exact Try.underlying69; exact rfl; exact Hsz.out; try (simp only [Act.put, List.setIfInBounds_toArray, List.set_cons_zero, List.set_cons_succ]))
  go_loop [3, 12] (fun n i => ∃ k : Nat, k ≤ 512 ∧ i = .int .i64 k ∧ n = .int .i64 (usedB (now.take k) : Nat)) (fun _ i => 512 - (intOf i).toNat)
  case atStart => exact ⟨0, Nat.zero_le _, rfl, rfl⟩
  case round =>
    obtain ⟨k, hk, rfl, rfl⟩ := hrel
    obtain ⟨U, hU⟩ : ∃ U, usedB (now.take k) = U := ⟨_, rfl⟩
    have hUb : (U : Int) ≤ 4096 := by
      have := usedB_le (now.take k)
      rw [List.length_take] at this
      omega
    by_cases hlt : k < 512
    · have hkI : (k : Int) < 512 := by omega
      have hkl : k < now.length := by rw [H.out.1]; exact hlt
      obtain ⟨x, hx⟩ : ∃ x, now[k] = x := ⟨_, rfl⟩
      have hix : (bvs now).toArray[k]? = some (bv x) := by simp [bvs, hx, hkl]
      have hix2 : (bvs now)[k]? = some (bv x) := by simp [bvs, hx, hkl]
      have hrun := run_index_set (bvs now) k x hlt hix2
      rw [bv] at hrun
      have ho := ones_ok w x.toNat x.toNat_lt
      obtain ⟨v, hv⟩ : ∃ v, x.toNat = v := ⟨_, rfl⟩
      obtain ⟨pc, hpc⟩ : ∃ pc, popC v = pc := ⟨_, rfl⟩
      rw [hv] at hrun
      clear hix hix2
      rw [hv, hpc] at ho
      have hsn := usedB_succ now k hkl
      rw [hU, hx, hv, hpc] at hsn
      have hpb : (pc : Int) ≤ 8 := by rw [← hpc]; have := popC_le v; omega
      have Ho := Lib.hid (And.intro ho hsn)
      rw [hU]
      have hvb0 := x.toNat_lt
      rw [hv] at hvb0
      clear ho hsn hx hpc hkl hU hv
      have hvb : (v : Int) ≤ 255 := by omega
      clear hvb0
      go_wp2_with fail
      refine Ho.out.1.mono ?_
      rintro e w1 ⟨rfl, rfl⟩
      dsimp only
      go_wp2_with fail
      exact ⟨⟨k + 1, by omega, by go_num, by rw [Ho.out.2]; go_num⟩, by simp [intOf]; omega⟩
    · obtain rfl : k = 512 := by omega
      have hfull : now.take 512 = now := List.take_of_length_le (by rw [H.out.1]; exact Nat.le_refl _)
      rw [hfull] at hU
      rw [hfull]
      have HU := Lib.hid hU
      clear hlt hfull hU
      go_wp2_with fail
      go_ret
      exact ⟨rfl, rfl⟩
theorem or_u8 (a b : Nat) (ha : a < 256) (hb : b < 256) : bits BinOp.or IntKind.u8 (a : Int) (b : Int) = ((a ||| b : Nat) : Int) := by
  have hx : a ||| b < 2 ^ 8 := Nat.or_lt_two_pow ha hb
  have h1 : (BitVec.ofInt 8 (a : Int)).toNat = a := by
    rw [BitVec.ofInt_natCast, BitVec.toNat_ofNat]; exact Nat.mod_eq_of_lt (by omega)
  have h2 : (BitVec.ofInt 8 (b : Int)).toNat = b := by
    rw [BitVec.ofInt_natCast, BitVec.toNat_ofNat]; exact Nat.mod_eq_of_lt (by omega)
  show IntKind.u8.wrap ((BitVec.ofInt 8 (a : Int) ||| BitVec.ofInt 8 (b : Int)).toNat : Int) = _
  rw [BitVec.toNat_or, h1, h2, IntKind.wrap_u8]
  omega
theorem xor_u8 : ∀ o : Fin 256, bits BinOp.xor IntKind.u8 (if IntKind.u8.signed = true then -1 else IntKind.u8.max) (o.val : Int) = ((255 - o.val : Nat) : Int) := by decide +kernel
theorem comp_bit : ∀ (o : Fin 256) (r : Fin 8), (255 - o.val) / 2 ^ r.val % 2 = 1 - o.val / 2 ^ r.val % 2 := by decide +kernel
theorem ntz_spec : ∀ f : Fin 256, f.val ≠ 0 → ntzC f.val < 8 ∧ f.val / 2 ^ ntzC f.val % 2 = 1 ∧ ∀ r : Fin 8, r.val < ntzC f.val → f.val / 2 ^ r.val % 2 = 0 := by decide +kernel
/-- The free bits of a byte. -/
theorem free_bits (a c r : Nat) (ha : a < 256) (hc : c < 256) (hr : r < 8) : ((255 - (a ||| c)) / 2 ^ r % 2 = 1 ↔ a / 2 ^ r % 2 = 0 ∧ c / 2 ^ r % 2 = 0) := by
  have hx : a ||| c < 256 := Nat.or_lt_two_pow (n := 8) ha hc
  have h1 := comp_bit ⟨a ||| c, hx⟩ ⟨r, hr⟩
  have h2 := Nat.testBit_or a c r
  simp only [Nat.testBit_eq_decide_div_mod_eq] at h2
  simp only at h1
  rw [h1]
  by_cases ha1 : a / 2 ^ r % 2 = 1 <;> by_cases hc1 : c / 2 ^ r % 2 = 1 <;> simp [ha1, hc1] at h2 <;> omega
/-- A byte, as a cell of a row of bytes. -/
theorem byte_cell {w : World} {mb off : Nat} {l : Bytes} (hr : w.rangeAt mb off (bvs l)) (i : Nat) (hi : i < l.length) : w.cell? ⟨mb, off + i, none⟩ = some (.int .u8 ((l.getD i 0).toNat : Nat)) := by
  refine hr i _ ?_
  rw [bvs, List.getElem?_map, List.getElem?_eq_getElem hi]
  simp [List.getD, hi, bv]
def Free2 (now old : Bytes) (b : Nat) : Bool := !hasB now b && !hasB old b
/-- What a Take leaves. -/
def TakePost (w : World) (mb N : Nat) (now old : Bytes) (a r : Int) (w' : World) : Prop :=
  (∃ b : Nat, b < N ∧ Free2 now old b = true ∧ (∀ c, c < b → Free2 now old c = false) ∧ a = b ∧ r = 0 ∧ MapS w' mb N (setB now b) old ∧ Upd (fun q => q = mb) w w') ∨
  ((∀ c, c < N → Free2 now old c = false) ∧ a = 0 ∧ r = 12 ∧ Upd (fun _ => False) w w')
set_option maxHeartbeats 2000000 in
theorem mtake_ok {w : World} {mb N : Nat} {now old : Bytes} (h : MapS w mb N now old) (hN : N ≤ 4096) : Calls Try.prog 12 #[.pointer (some ⟨mb, 0, none⟩)] w fun e w' => ∃ a r, e = .returned (.tuple #[.int .i64 a, .int .i64 r]) ∧ TakePost w mb N now old a r w' := by
  have hNI : (N : Int) ≤ 4096 := by omega
  have H := Lib.hid h
  clear h
  go_enter Try.func12, Try.ntmps12
  go_wp2_with fail
  go_loopw [9] (fun i wr => ∃ k : Nat, k ≤ 512 ∧ i = .int .i64 k ∧ Hid (Upd (fun _ => False) w wr ∧ ∀ c, c < 8 * k → Free2 now old c = false)) (fun i _ => 512 - (intOf i).toNat)
  case atStart => exact ⟨0, Nat.zero_le _, rfl, Upd.refl _ _, fun c hc => by omega⟩
  case round =>
    obtain ⟨k, hk, rfl, HR⟩ := hrel
    have HM := Lib.hid (H.out.upd HR.out.1 (fun h => h))
    by_cases hlt : k < 512
    · have hkI : (k : Int) < 512 := by omega
      have hk0 : (0 : Int) ≤ (k : Int) := by omega
      have ca := byte_cell HM.out.rnow k (by rw [HM.out.l1]; exact hlt)
      have cc := byte_cell HM.out.rold k (by rw [HM.out.l2]; exact hlt)
      obtain ⟨a, ha⟩ : ∃ a, (now.getD k 0).toNat = a := ⟨_, rfl⟩
      obtain ⟨c, hc⟩ : ∃ c, (old.getD k 0).toNat = c := ⟨_, rfl⟩
      have ha8 := (now.getD k 0).toNat_lt
      have hc8 := (old.getD k 0).toNat_lt
      rw [ha] at ca ha8
      rw [hc] at cc hc8
      have Hac := Lib.hid (And.intro ha hc)
      clear ha hc
      go_wp2_with fail
      have HS : wr.drew.cell? ⟨mb, 1 + k, none⟩ = some (.int .u8 a) ∧ wr.drew.cell? ⟨mb, 513 + k, none⟩ = some (.int .u8 c) := ⟨ca, cc⟩
      refine wp_region_planD (fun u => u.cell? ⟨mb, 1 + k, none⟩ = some (.int .u8 a) ∧ u.cell? ⟨mb, 513 + k, none⟩ = some (.int .u8 c)) 15 [(0, true), (1, true), (2, true), (3, true), (4, true), (5, true), (6, true), (7, true), (8, true), (9, true), (10, true), (11, true), (12, true), (13, true), (14, true)] (by kernel_rfl) (by kernel_rfl) (fun d _ _ _ _ h => by cases d <;> exact h) HS ?_
      iterate 15 (first | (apply planD_held rfl rfl rfl (by simp) HS; (intro w' hS K hK; go_simp; exact hK)) | (apply planD_wanted rfl rfl rfl (by simp) HS; (intro w' hS K hK; go_simp; exact hK)))
      refine planD_nil ?_
      obtain ⟨f, hf⟩ : ∃ f, 255 - (a ||| c) = f := ⟨_, rfl⟩
      have hx : a ||| c < 256 := Nat.or_lt_two_pow (n := 8) ha8 hc8
      have e0 : bits BinOp.xor IntKind.u8 (if IntKind.u8.signed = true then -1 else IntKind.u8.max) (bits BinOp.or IntKind.u8 (a : Int) (c : Int)) = (f : Int) := by
        rw [or_u8 a c ha8 hc8, xor_u8 ⟨a ||| c, hx⟩, ← hf]
      rw [e0]
      have hf8 : f < 256 := by omega
      have hfI : (f : Int) ≤ 255 := by omega
      have hbit : ∀ r, r < 8 → (f / 2 ^ r % 2 = 1 ↔ Free2 now old (8 * k + r) = true) := by
        intro r hr
        rw [← hf, free_bits a c r ha8 hc8 hr]
        have d1 : (8 * k + r) / 8 = k := by omega
        have d2 : (8 * k + r) % 8 = r := by omega
        simp only [Free2, hasB, d1, d2, Hac.out.1, Hac.out.2]
        constructor
        · rintro ⟨h1, h2⟩
          simp [h1, h2]
        · intro h
          simp at h
          omega
      have Hbit := Lib.hid (And.intro hbit hf8)
      have HRd : Hid (Upd (fun _ => False) w wr.drew) := HR.out.1.drew
      clear e0 hf hx HS ca cc hf8 hbit
      by_cases hf0 : f = 0
      · subst hf0
        have HRn : Hid (Upd (fun _ => False) w wr.drew ∧ ∀ c, c < 8 * (k + 1) → Free2 now old c = false) := by
          refine ⟨HRd.out, fun c hc => ?_⟩
          by_cases hck : c < 8 * k
          · exact HR.out.2 c hck
          · have := Hbit.out.1 (c - 8 * k) (by omega)
            rw [show 8 * k + (c - 8 * k) = c by omega] at this
            cases hq : Free2 now old c with
            | false => rfl
            | true =>
              have h9 := this.2 hq
              rw [Nat.zero_div] at h9
              cases h9
        clear HR HRd
        go_wp2_with fail
        exact ⟨⟨k + 1, by omega, by go_num, HRn⟩, by simp [intOf]; omega⟩
      · have hne : ((f : Int) != 0) = true := by rw [bne_iff_ne]; omega
        have hz := ntz_ok wr.drew f Hbit.out.2
        obtain ⟨hz8, hz1, hz2⟩ := ntz_spec ⟨f, Hbit.out.2⟩ hf0
        simp only at hz8 hz1 hz2
        obtain ⟨z, hzz⟩ : ∃ z, ntzC f = z := ⟨_, rfl⟩
        rw [hzz] at hz hz8 hz1 hz2
        obtain ⟨b, hb⟩ : ∃ b, 8 * k + z = b := ⟨_, rfl⟩
        have hbI : 8 * (k : Int) + (z : Int) = (b : Int) := by omega
        have hzI : (z : Int) ≤ 7 := by omega
        have hbI2 : (b : Int) ≤ 4095 := by omega
        have HB : Hid (Free2 now old b = true ∧ (∀ c, c < b → Free2 now old c = false) ∧ b < 4096) := by
          refine ⟨by rw [← hb]; exact (Hbit.out.1 z hz8).1 hz1, fun c hc => ?_, by omega⟩
          by_cases hck : c < 8 * k
          · exact HR.out.2 c hck
          · have h8 := hz2 ⟨c - 8 * k, by omega⟩ (by show c - 8 * k < z; omega)
            have := Hbit.out.1 (c - 8 * k) (by omega)
            rw [show 8 * k + (c - 8 * k) = c by omega] at this
            simp only at h8
            cases hq : Free2 now old c with
            | false => rfl
            | true =>
              have h9 := this.2 hq
              omega
        have Hz := Lib.hid hz
        have hMd : Hid (MapS wr.drew mb N now old) := H.out.upd HRd.out (fun h => h)
        have cN := hMd.out.cells.cell 0
        simp only [List.getElem?_cons_zero] at cN
        clear hz hz8 hz1 hz2 hzz hf0 HR HM hb
        go_wp2_with fail
        refine Hz.out.mono ?_
        rintro e w2 ⟨rfl, rfl⟩
        dsimp only
        by_cases hbN : N ≤ b
        · have q1 : decide (N ≤ b) = true := by simpa using hbN
          go_wp2_with fail
          go_ret2
          exact ⟨0, 12, rfl, .inr ⟨fun c hc => HB.out.2.1 c (by omega), rfl, rfl, HRd.out⟩⟩
        · have q1 : decide (N ≤ b) = false := by simpa using hbN
          go_wp2_with fail
          have hput := put_bit wr.drew mb 1 now hMd.out.l1 hMd.out.rnow hMd.out.there b HB.out.2.2
          refine hput.mono ?_
          rintro e w3 ⟨rfl, hw3⟩
          dsimp only
          have HP : Hid (MapS w3 mb N (setB now b) old ∧ Upd (fun q => q = mb) w w3) := by
            rw [hw3]
            refine ⟨hMd.out.put b HB.out.2.2, ?_⟩
            have hset : Upd (fun q => q = mb) wr.drew (wr.drew.setCell ⟨mb, 1 + b / 8, none⟩ (bv ((setB now b).getD (b / 8) 0))) := (Upd.refl _ _).setCell _ (.inl rfl)
            exact ((HRd.out.mono (fun _ _ h => h.elim)).trans hset).drew
          clear hput hw3
          go_wp2_with fail
          go_ret2
          exact ⟨(b : Int), 0, rfl, .inl ⟨b, by omega, HB.out.1, HB.out.2.1, rfl, rfl, HP.out.1, HP.out.2⟩⟩
    · obtain rfl : k = 512 := by omega
      clear hlt
      go_wp2_with fail
      go_ret2
      exact ⟨0, 12, rfl, .inr ⟨fun c hc => HR.out.2 c (by omega), rfl, rfl, HR.out.1⟩⟩
end Go.Proofs.Ytndhcimepgcfaaa
