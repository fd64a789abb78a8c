/- Package blob: encode. -/
import Derived.Test.YtmefbbmjamdnjaaBb2
namespace Go.Proofs.Ytmefbbmjamdnjaa
open Go Go.RowKit
set_option linter.unusedSimpArgs false
set_option linter.unusedVariables false
set_option maxRecDepth 100000

def encR (r : Run) : Bytes := [UInt8.ofNat (r.1 % 256), UInt8.ofNat (r.1 / 256 % 256), UInt8.ofNat (r.2 % 256)]
def encRs (rs : List Run) : Bytes := rs.flatMap encR
def hdrB (size n : Nat) : Bytes := [177, UInt8.ofNat (size % 256), UInt8.ofNat (size / 256 % 256), UInt8.ofNat (n % 256)]
def encH (size : Nat) (rs : List Run) : Bytes := hdrB size rs.length ++ encRs rs
theorem encRs_length (rs : List Run) : (encRs rs).length = rs.length * 3 := by
  induction rs with
  | nil => rfl
  | cons r t ih => show (encR r ++ encRs t).length = _; rw [List.length_append, ih]; simp [encR]; omega
theorem encH_length (size : Nat) (rs : List Run) : (encH size rs).length = 4 + rs.length * 3 := by rw [encH, List.length_append, encRs_length]; rfl
theorem encRs_append (a b : List Run) : encRs (a ++ b) = encRs a ++ encRs b := by simp [encRs]
theorem bv_ofNat (n : Nat) : bv (UInt8.ofNat (n % 256)) = .int .u8 ((n % 256 : Nat) : Int) := by
  simp [bv]
/-- While it is encoded. -/
def EnR (w wr : World) (n : Nat) (out : Bytes) (y : Option Addr) (d : Nat) : Prop :=
  Mid wr 1 (.slice y n d) n (bvs out) ∧ (∀ q, (Value.slice y n d).ownBlock = some q → w.heap.size ≤ q) ∧ Upd (fun _ => False) w wr ∧ out.length = n
set_option maxHeartbeats 4000000 in
theorem encode_ok {w : World} {lb size : Nat} {rs : List Run} {x : Option Addr} {c : Nat} (h : ListAt w lb size rs x c) (hok : RunsOk rs) (hlen : rs.length ≤ 100) (hsz : size ≤ 65535) :
    Calls Try.prog 22 #[.pointer (some ⟨lb, 0, none⟩)] w fun e w' => ∃ (y : Option Addr) (d : Nat), e = .returned (.slice y (4 + rs.length * 3) d) ∧ EnR w w' (4 + rs.length * 3) (encH size rs) y d := by
  obtain ⟨n, hn⟩ : ∃ n, rs.length = n := ⟨_, rfl⟩
  have hnI : (n : Int) ≤ 100 := by omega
  have hsI : (size : Int) ≤ 65535 := by omega
  have hd : Upd (fun _ => False) w w.drew := (Upd.refl _ w).drew
  have hLd := h.upd hd (fun _ _ h => h)
  have c0 := hLd.cells.cell 0
  have c1 := hLd.cells.cell 1
  simp only [List.getElem?_cons_zero, List.getElem?_cons_succ] at c0 c1
  rw [hn] at c1
  have H := Lib.hid (And.intro hLd (And.intro hok (And.intro hn hd)))
  have HS : w.drew.cell? ⟨lb, 0, none⟩ = some (.int .i64 size) ∧ w.drew.cell? ⟨lb, 1, none⟩ = some (.slice x n c) := ⟨c0, c1⟩
  obtain ⟨s0, hs0⟩ : ∃ s0, size % 256 = s0 := ⟨_, rfl⟩
  obtain ⟨s1, hs1⟩ : ∃ s1, size / 256 % 256 = s1 := ⟨_, rfl⟩
  have q0 : IntKind.u8.wrap (size : Int) = (s0 : Int) := by rw [IntKind.wrap_u8]; omega
  have q1 : IntKind.u8.wrap ((size : Int) / 256) = (s1 : Int) := by rw [IntKind.wrap_u8]; omega
  have q2 : IntKind.u8.wrap (n : Int) = (n : Int) := by rw [IntKind.wrap_u8]; omega
  clear h hLd hok hlen hsz hn hd c0 c1
  go_enter Try.func22, Try.ntmps22
  go_wp2_with fail
  refine wp_region_planD (fun u => u.cell? ⟨lb, 0, none⟩ = some (.int .i64 size) ∧ u.cell? ⟨lb, 1, none⟩ = some (.slice x n c)) 19 [(0, true), (1, true), (2, true), (3, true), (4, true), (5, true), (6, true), (7, true), (8, true), (9, true), (10, true), (11, true), (12, true), (13, true), (14, true), (15, true), (16, true), (17, false), (18, true)] (by kernel_rfl) (by kernel_rfl) (fun d _ _ _ _ h => by cases d <;> exact h) HS ?_
  iterate 17 (first | (apply planD_held rfl rfl rfl (by simp) HS; (intro w' hS K hK; go_simp; exact hK)) | (apply planD_wanted rfl rfl rfl (by simp) HS; (intro w' hS K hK; go_simp; exact hK)))
  refine planD_op rfl rfl (fun KK hK => ?_)
  go_simp
  have hal : Upd (fun _ => False) w.drew (w.drew.alloc (.cells #[.int .u8 177, .int .u8 s0, .int .u8 s1, .int .u8 n] 5)) := (Upd.refl _ _).alloc _
  have HS2 : (w.drew.alloc (.cells #[.int .u8 177, .int .u8 s0, .int .u8 s1, .int .u8 n] 5)).cell? ⟨lb, 0, none⟩ = some (.int .i64 size) ∧ (w.drew.alloc (.cells #[.int .u8 177, .int .u8 s0, .int .u8 s1, .int .u8 n] 5)).cell? ⟨lb, 1, none⟩ = some (.slice x n c) := ⟨hal.cell_some HS.1 (fun h => h), hal.cell_some HS.2 (fun h => h)⟩
  have hcs : CellsA (w.drew.alloc (.cells #[.int .u8 177, .int .u8 s0, .int .u8 s1, .int .u8 n] 5)) w.drew.heap.size 5 [.int .u8 177, .int .u8 s0, .int .u8 s1, .int .u8 n] := CellsA.new _ _ _
  refine hK _ _ _ (fun u h => h) (fun _ => HS2) ?_
  clear hK HS
  try (simp only [Act.put, List.setIfInBounds_toArray, List.set_cons_zero, List.set_cons_succ])
  iterate 1 (first | (apply planD_held rfl rfl rfl (by simp) HS2; (intro w' hS K hK; go_simp; exact hK)) | (apply planD_wanted rfl rfl rfl (by simp) HS2; (intro w' hS K hK; go_simp; exact hK)))
  refine planD_nil ?_
  have hc1 := HS2.2
  clear HS2
  have hx0 : ([.int .u8 177, .int .u8 s0, .int .u8 s1, .int .u8 n] : List Value) = bvs (hdrB size n) := by
    show _ = [bv _, bv _, bv _, bv _]
    rw [bv_ofNat, bv_ofNat, bv_ofNat, hs0, hs1, Nat.mod_eq_of_lt (by omega : n < 256)]
    rfl
  have HQ : Hid (EnR w (w.alloc (.cells #[.int .u8 177, .int .u8 s0, .int .u8 s1, .int .u8 n] 5)).drew (4 + 0 * 3) (hdrB size n ++ encRs (rs.take 0)) (some ⟨w.heap.size, 0, none⟩) 4) := by
    refine ⟨mid_full (by simp [encRs, bvs, hdrB]) (by decide) hcs.lt ?_, fun q hq => by cases hq; exact Nat.le_refl _, H.out.2.2.2.trans hal, rfl⟩
    have e : bvs (hdrB size n ++ encRs (rs.take 0)) = [.int .u8 177, .int .u8 s0, .int .u8 s1, .int .u8 n] := by rw [hx0]; simp [encRs]
    rw [e]
    exact hcs.range
  have hc2 : (w.alloc (.cells #[.int .u8 177, .int .u8 s0, .int .u8 s1, .int .u8 n] 5)).drew.cell? ⟨lb, 1, none⟩ = some (.slice x n c) := hc1
  clear hcs hal hs0 hs1 hx0 hc1
  generalize (w.alloc (.cells #[.int .u8 177, .int .u8 s0, .int .u8 s1, .int .u8 n] 5)).drew = w2 at *
  go_wp2_with fail
  go_loopw [29, 3] (fun iv v wr => ∃ (k d : Nat) (y : Option Addr), k ≤ n ∧ iv = .int .i64 k ∧ v = .slice y (4 + k * 3) d ∧ Hid (EnR w wr (4 + k * 3) (hdrB size n ++ encRs (rs.take k)) y d)) (fun iv _ _ => n - (intOf iv).toNat)
  case atStart => exact ⟨0, 4, _, Nat.zero_le _, rfl, rfl, HQ⟩
  case round =>
    clear HQ
    obtain ⟨k, d, y, hk, rfl, rfl, HR⟩ := hrel
    by_cases hlt : k < n
    · have hltI : (k : Int) < (n : Int) := by omega
      have hkl : k < rs.length := by rw [H.out.2.2.1]; exact hlt
      obtain ⟨r, hr⟩ : ∃ r, rs[k] = r := ⟨_, rfl⟩
      have hro := H.out.2.1 r (hr ▸ List.getElem_mem _)
      obtain ⟨g, o, rfl, hrg⟩ := H.out.1.run k hkl
      rw [hr] at hrg
      have hst : encRs (rs.take (k + 1)) = encRs (rs.take k) ++ encR r := by rw [List.take_succ_eq_append_getElem hkl, encRs_append, hr]; simp [encRs]
      obtain ⟨f1, hf1⟩ : ∃ f1, r.1 = f1 := ⟨_, rfl⟩
      obtain ⟨n1, hn1⟩ : ∃ n1, r.2 = n1 := ⟨_, rfl⟩
      have hrw : wr.rangeAt g (o + k * 2) [.int .i64 f1, .int .i64 n1] := by
        have h0 : w.rangeAt g (o + k * 2) (runV r) := by
          have : w.drew.rangeAt g (o + k * 2) (runV r) := hrg
          exact this
        have := HR.out.2.2.1.range h0 (fun h => h)
        rw [runV, hf1, hn1] at this
        exact this
      rw [hf1, hn1] at hro
      have hf1I : (f1 : Int) ≤ 4096 := by omega
      have hn1I : (n1 : Int) ≤ 255 := by omega
      obtain ⟨a0, ha0⟩ : ∃ a0, f1 % 256 = a0 := ⟨_, rfl⟩
      obtain ⟨a1, ha1⟩ : ∃ a1, f1 / 256 % 256 = a1 := ⟨_, rfl⟩
      have p0 : IntKind.u8.wrap (f1 : Int) = (a0 : Int) := by rw [IntKind.wrap_u8]; omega
      have p1 : IntKind.u8.wrap ((f1 : Int) / 256) = (a1 : Int) := by rw [IntKind.wrap_u8]; omega
      have p2 : IntKind.u8.wrap (n1 : Int) = (n1 : Int) := by rw [IntKind.wrap_u8]; omega
      have hnew : bvs (encR r) = [.int .u8 a0, .int .u8 a1, .int .u8 n1] := by
        show [bv _, bv _, bv _] = _
        rw [hf1, hn1, bv_ofNat, bv_ofNat, bv_ofNat, ha0, ha1, Nat.mod_eq_of_lt (by omega : n1 < 256)]
      have hal : Upd (fun _ => False) wr (wr.alloc (.cells #[.int .i64 f1, .int .i64 n1] 86)) := (Upd.refl _ wr).alloc _
      have hcs := CellsA.new wr 86 [.int .i64 f1, .int .i64 n1]
      have hc0 := hcs.cell 0
      have hc1 := hcs.cell 1
      simp only [List.getElem?_cons_zero, List.getElem?_cons_succ] at hc0 hc1
      have HK := Lib.hid (And.intro hst hnew)
      have HR2 : Hid (EnR w (wr.alloc (.cells #[.int .i64 f1, .int .i64 n1] 86)) (4 + k * 3) (hdrB size n ++ encRs (rs.take k)) y d) := by
        obtain ⟨r1, r2, r3, r4⟩ := HR.out
        exact ⟨r1.upd hal (fun _ _ h => h), r2, r3.trans hal, r4⟩
      clear hr hrg hst hro hf1 hn1 hal hcs HR ha0 ha1 hnew
      go_wp2_with (first | ((with_reducible apply wpl_load_mid g (o + k * 2) [.int .i64 f1, .int .i64 n1]); exact rfl; exact hrw; exact Try.underlying86; exact rfl; exact sizeRun; try (simp only [Act.put, List.setIfInBounds_toArray, List.set_cons_zero, List.set_cons_succ])) | ((with_reducible apply wpl_store_new); exact rfl; exact rfl; exact sizeRun; exact rfl; exact rfl; try (simp only [Act.put, List.setIfInBounds_toArray, List.set_cons_zero, List.set_cons_succ])) | (with_reducible apply wpl_append_mid 5 1 1 _ (.slice y (4 + k * 3) d) (4 + k * 3) (bvs (hdrB size n ++ encRs (rs.take k))) 3 [.int .u8 a0, .int .u8 a1, .int .u8 n1]))
      · exact Try.underlying31
      · exact infoU8b
      · rfl
      · rfl
      · exact HR2.out.1.upd ((Upd.refl (fun _ => False) _).alloc _) (fun _ _ h => h)
      · have hz : (wr.alloc (.cells #[.int .i64 f1, .int .i64 n1] 86)).heap.size = wr.heap.size + 1 := by simp
        have hr9 := rangeAt_of_row (off := 0) (xs := [.int .u8 a0, .int .u8 a1, .int .u8 n1]) (heap_alloc_new (wr.alloc (.cells #[.int .i64 f1, .int .i64 n1] 86)) (.cells ([.int .u8 a0, .int .u8 a1, .int .u8 n1] : List Value).toArray 5)) rfl
        rw [hz] at hr9
        exact Sees.at rfl (by decide) hr9
      · intro u hu; simp at hu; rcases hu with rfl | rfl | rfl <;> rfl
      · unfold maxLen; omega
      · omega
      intro y' d' w4 hm4 hu4 hb4
      try (simp only [Act.put, List.setIfInBounds_toArray, List.set_cons_zero, List.set_cons_succ])
      have e4 : 4 + k * 3 + 3 = 4 + (k + 1) * 3 := by omega
      have hv4 : bvs (hdrB size n ++ encRs (rs.take k)) ++ [.int .u8 a0, .int .u8 a1, .int .u8 n1] = bvs (hdrB size n ++ encRs (rs.take (k + 1))) := by
        rw [HK.out.1, ← HK.out.2, ← bvs_append, List.append_assoc]
      rw [e4, hv4] at hm4
      have HJ : Hid (EnR w w4 (4 + (k + 1) * 3) (hdrB size n ++ encRs (rs.take (k + 1))) y' d') := by
        obtain ⟨r1, r2, r3, r4⟩ := HR2.out
        have ha : Upd (fun _ => False) (wr.alloc (.cells #[.int .i64 f1, .int .i64 n1] 86)) ((wr.alloc (.cells #[.int .i64 f1, .int .i64 n1] 86)).alloc (.cells #[.int .u8 a0, .int .u8 a1, .int .u8 n1] 5)) := (Upd.refl _ _).alloc _
        have hz := r3.size
        have hz2 := ha.size
        refine ⟨hm4, fun q hq => ?_, (r3.trans ha).then hu4 (fun q hq => .inr (r2 q hq)), ?_⟩
        · rw [e4] at hb4
          rcases hb4 with e | e
          · rw [e] at hq; exact r2 q hq
          · rw [e] at hq; cases hq; omega
        · rw [HK.out.1, ← List.append_assoc, List.length_append, r4]
          simp [encR]; omega
      clear hm4 hu4 hb4 hv4 HR2 hc0 hc1 hrw
      rw [e4]
      clear e4
      go_wp2_with fail
      exact ⟨⟨k + 1, d', y', by omega, by go_num, rfl, HJ⟩, by simp [intOf]; omega⟩
    · obtain rfl : k = n := by omega
      have HJ : Hid (EnR w wr (4 + rs.length * 3) (encH size rs) y d) := by
        have := HR.out
        rw [List.take_of_length_le (by rw [H.out.2.2.1]; exact Nat.le_refl _)] at this
        rw [encH, H.out.2.2.1]
        exact this
      have Hn := Lib.hid H.out.2.2.1
      clear HR
      go_wp2_with fail
      go_ret
      refine ⟨y, d, ?_, HJ.out⟩
      rw [Hn.out]
      rfl
end Go.Proofs.Ytmefbbmjamdnjaa
