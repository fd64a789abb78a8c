/- docketlaw05.pages; package space: has, put, cut. -/
import Derived.Test.YtndhcimepgcfaaaPg3
namespace Go.Proofs.Ytndhcimepgcfaaa
open Go Go.RowKit
set_option linter.unusedSimpArgs false
set_option linter.unusedVariables false
set_option maxRecDepth 100000

/-- Pages, all new. -/
def PagesPost (w : World) (N tb : Nat) (es : List (Int × Bytes)) (w' : World) : Prop :=
  ∃ (pb mb db lb fb : Nat) (ot : Option Addr) (D : DSt) (G : Nat → Prop), TxS w' tb pb mb db lb fb 4 3 N ot D es G ∧ Upd (fun _ => False) w w' ∧ (∀ q, ownT tb pb mb G q → w.heap.size ≤ q)
theorem pages_ok (N : Nat) (h1 : 1 ≤ N) (h2 : N ≤ 4092) (w : World) : Calls Try.prog 9 #[.int .i64 N] w fun e w' => ∃ pb tb : Nat, e = .returned (.tuple #[.pointer (some ⟨pb, 0, none⟩), .pointer (some ⟨tb, 0, none⟩)]) ∧ PagesPost w N tb [] w' := by
  have H := Lib.hid (And.intro h1 h2)
  have hb : (N : Int) ≤ 4092 := by omega
  obtain ⟨S, hS⟩ : ∃ S : Nat, N + 4 = S := ⟨_, rfl⟩
  have hSI : (N : Int) + 4 = (S : Int) := by omega
  have hnl : (DSt.new (S : Int)).secs.length = 4 + N := by rw [DSt.new, List.length_replicate]; omega
  have Hnl := Lib.hid hnl
  clear h1 h2 hnl hS
  go_enter Try.func9, Try.ntmps9
  go_wp2_with fail
  try rw [hSI]
  refine (new_disk (S : Int) w).mono ?_
  rintro e w1 ⟨db, F, rfl, hD, hu, hF⟩
  dsimp only
  have H1 := Lib.hid (And.intro hD (And.intro hu hF))
  clear hD hu hF
  go_wp2_with fail
  refine (make_pg H1.out.1 rfl rfl rfl 4 N (by decide) H.out.1 Hnl.out).mono ?_
  rintro e w2 ⟨pb, rfl, lb, fb, D2, G2, hP, hD2, hsz2, hG2, hpb, hu2, hG2'⟩
  dsimp only
  have H2 := Lib.hid (And.intro hP (And.intro hD2 (And.intro hsz2 (And.intro hG2 (And.intro hpb (And.intro hu2 hG2'))))))
  clear hP hD2 hsz2 hG2 hpb hu2 hG2'
  go_wp2_with fail
  refine (begin_ok H2.out.1 H2.out.2.1 H2.out.2.2.1 H2.out.2.2.2.1).mono ?_
  rintro e w3 ⟨tb, mb, rfl, htb, hmb, hT, hu3⟩
  dsimp only
  have hz1 := H1.out.2.1.size
  have hz2 := H2.out.2.2.2.2.2.1.size
  have hPP : Hid (PagesPost w N tb [] w3) := by
    refine ⟨pb, mb, db, lb, fb, _, D2, G2, hT, ?_, ?_⟩
    · refine (H1.out.2.1.then H2.out.2.2.2.2.2.1 (fun q hq => .inr (H1.out.2.2 q hq))).then hu3 (fun q hq => .inr ?_)
      have := H2.out.2.2.2.2.1
      omega
    · rintro q (rfl | rfl | rfl | hq)
      · omega
      · have := H2.out.2.2.2.2.1; omega
      · omega
      · rcases H2.out.2.2.2.2.2.2 q hq with e | e
        · exact H1.out.2.2 q e
        · omega
  clear htb hmb hT hu3 hz1 hz2
  go_wp2_with fail
  go_ret2
  exact ⟨pb, tb, rfl, hPP.out⟩
theorem and_one : ∀ y : Fin 256, bits BinOp.and IntKind.u8 (y.val : Int) 1 = ((y.val % 2 : Nat) : Int) := by decide +kernel
theorem or_bit : ∀ (y : Fin 256) (r : Fin 8), bits BinOp.or IntKind.u8 (y.val : Int) ((2 ^ r.val : Nat) : Int) = (((if y.val / 2 ^ r.val % 2 = 1 then y.val else y.val + 2 ^ r.val) : Nat) : Int) := by decide +kernel
theorem cut_bit : ∀ (y : Fin 256) (r : Fin 8), bits BinOp.andNot IntKind.u8 (y.val : Int) ((2 ^ r.val : Nat) : Int) = (((if y.val / 2 ^ r.val % 2 = 1 then y.val - 2 ^ r.val else y.val) : Nat) : Int) := by decide +kernel
theorem u8_nat (n : Nat) (h : n < 256) : (UInt8.ofNat n).toNat = n := by simp; omega
theorem wrap_bit : ∀ r : Fin 8, IntKind.u8.wrap ((2 : Int) ^ r.val) = ((2 ^ r.val : Nat) : Int) := by decide +kernel
theorem add_bit : ∀ (y : Fin 256) (r : Fin 8), (if y.val / 2 ^ r.val % 2 = 1 then y.val else y.val + 2 ^ r.val) < 256 := by decide +kernel
theorem sub_bit : ∀ (y : Fin 256) (r : Fin 8), (if y.val / 2 ^ r.val % 2 = 1 then y.val - 2 ^ r.val else y.val) < 256 := by decide +kernel
/-- Is bit b set in l? -/
def hasB (l : Bytes) (b : Nat) : Bool := (l.getD (b / 8) 0).toNat / 2 ^ (b % 8) % 2 == 1
set_option maxHeartbeats 1000000 in
theorem has_ok (w : World) (mb off : Nat) (l : Bytes) (hl : l.length = 512) (hr : w.rangeAt mb off (bvs l)) (b : Nat) (hb : b < 4096) : Calls Try.prog 29 #[.pointer (some ⟨mb, off, none⟩), .int .i64 b] w fun e w' => e = .returned (.bool (hasB l b)) ∧ w = w' := by
  obtain ⟨q, hq⟩ : ∃ q, b / 8 = q := ⟨_, rfl⟩
  obtain ⟨r, hrr⟩ : ∃ r, b % 8 = r := ⟨_, rfl⟩
  have hq5 : q < 512 := by omega
  have hr8 : r < 8 := by omega
  have hcell : w.cell? ⟨mb, off + q, none⟩ = some (bv (l.getD q 0)) := by
    refine hr q _ ?_
    rw [bvs, List.getElem?_map, List.getElem?_eq_getElem (by omega)]
    simp [List.getD, hl, hq5]
  obtain ⟨x, hx⟩ : ∃ x, l.getD q 0 = x := ⟨_, rfl⟩
  rw [hx, bv] at hcell
  have e1 : (b : Int).tdiv 8 = (q : Int) := by rw [Int.tdiv_eq_ediv_of_nonneg (by omega)]; omega
  have e2 : (b : Int).tmod 8 = (r : Int) := by rw [Int.tmod_eq_emod_of_nonneg (by omega)]; omega
  have e3 : (b : Int) / 8 = (q : Int) := by omega
  have e4 : (b : Int) % 8 = (r : Int) := by omega
  have hbI : (b : Int) ≤ 4095 := by omega
  have hqI : (q : Int) < 512 := by omega
  have hrI : (r : Int) < 8 := by omega
  obtain ⟨v, hv⟩ : ∃ v, x.toNat = v := ⟨_, rfl⟩
  have hvb : (v : Int) ≤ 255 := by have := x.toNat_lt; omega
  rw [hv] at hcell
  have H := Lib.hid (And.intro hq (And.intro hrr (And.intro hx hv)))
  clear hq hrr hx hv hr hl
  go_enter Try.func29, Try.ntmps29
  go_wp2_with fail
  go_ret
  refine ⟨?_, rfl⟩
  have hy : v / 2 ^ r < 256 := Nat.lt_of_le_of_lt (Nat.div_le_self _ _) (by omega)
  have h1 := and_one ⟨v / 2 ^ r, hy⟩
  have e5 : (v : Int) / 2 ^ r = ((v / 2 ^ r : Nat) : Int) := by rw [Int.natCast_ediv]; simp
  obtain ⟨h2, h3, h4, h5⟩ := H.out
  show Ending.returned (.bool (bits BinOp.and IntKind.u8 ((v : Int) / 2 ^ r) 1 == 1)) = _
  rw [e5, h1, hasB, h2, h3, h4, h5]
  congr 2
  have : v / 2 ^ r % 2 = 0 ∨ v / 2 ^ r % 2 = 1 := by omega
  rcases this with h | h <;> simp [h]
/-- Bit b set, bit b cut. -/
def setB (l : Bytes) (b : Nat) : Bytes := l.set (b / 8) (UInt8.ofNat (if (l.getD (b / 8) 0).toNat / 2 ^ (b % 8) % 2 = 1 then (l.getD (b / 8) 0).toNat else (l.getD (b / 8) 0).toNat + 2 ^ (b % 8)))
def cutB (l : Bytes) (b : Nat) : Bytes := l.set (b / 8) (UInt8.ofNat (if (l.getD (b / 8) 0).toNat / 2 ^ (b % 8) % 2 = 1 then (l.getD (b / 8) 0).toNat - 2 ^ (b % 8) else (l.getD (b / 8) 0).toNat))
set_option maxHeartbeats 1000000 in
theorem put_bit (w : World) (mb off : Nat) (l : Bytes) (hl : l.length = 512) (hr : w.rangeAt mb off (bvs l)) (hth : w.there mb off 512) (b : Nat) (hb : b < 4096) : Calls Try.prog 31 #[.pointer (some ⟨mb, off, none⟩), .int .i64 b] w fun e w' => e = .returned (.tuple #[]) ∧ w' = (w.setCell ⟨mb, off + b / 8, none⟩ (bv ((setB l b).getD (b / 8) 0))).drew := by
  obtain ⟨q, hq⟩ : ∃ q, b / 8 = q := ⟨_, rfl⟩
  obtain ⟨r, hrr⟩ : ∃ r, b % 8 = r := ⟨_, rfl⟩
  have hq5 : q < 512 := by omega
  have hr8 : r < 8 := by omega
  have hcell : w.cell? ⟨mb, off + q, none⟩ = some (bv (l.getD q 0)) := by
    refine hr q _ ?_
    rw [bvs, List.getElem?_map, List.getElem?_eq_getElem (by omega)]
    simp [List.getD, hl, hq5]
  have hfz := (hth q hq5).2
  obtain ⟨x, hx⟩ : ∃ x, l.getD q 0 = x := ⟨_, rfl⟩
  rw [hx, bv] at hcell
  have e1 : (b : Int).tdiv 8 = (q : Int) := by rw [Int.tdiv_eq_ediv_of_nonneg (by omega)]; omega
  have e2 : (b : Int).tmod 8 = (r : Int) := by rw [Int.tmod_eq_emod_of_nonneg (by omega)]; omega
  have e3 : (b : Int) / 8 = (q : Int) := by omega
  have e4 : (b : Int) % 8 = (r : Int) := by omega
  have hbI : (b : Int) ≤ 4095 := by omega
  have hqI : (q : Int) < 512 := by omega
  have hrI : (r : Int) < 8 := by omega
  obtain ⟨v, hv⟩ : ∃ v, x.toNat = v := ⟨_, rfl⟩
  have hvb : (v : Int) ≤ 255 := by have := x.toNat_lt; omega
  rw [hv] at hcell
  have H := Lib.hid (And.intro hq (And.intro hrr (And.intro hx hv)))
  have w1 : IntKind.i64.wrap (q : Int) = (q : Int) := by rw [IntKind.wrap_i64]; omega
  have w2 : IntKind.i64.wrap (r : Int) = (r : Int) := by rw [IntKind.wrap_i64]; omega
  have hq0 : (0 : Int) ≤ (q : Int) := by omega
  have hr0 : (0 : Int) ≤ (r : Int) := by omega
  have Hl := Lib.hid hl
  clear hq hrr hx hv hr hl hth
  go_enter Try.func31, Try.ntmps31
  go_wp2_with fail
  have HS : w.drew.cell? ⟨mb, off + q, none⟩ = some (.int .u8 v) := hcell
  refine wp_region_planD (fun u => u.cell? ⟨mb, off + q, none⟩ = some (.int .u8 v)) 12 [(0, true), (1, true), (2, true), (3, true), (4, true), (5, true), (6, true), (7, true), (8, true), (9, true), (10, true), (11, true), (12, false)] (by kernel_rfl) (by kernel_rfl) (fun d _ _ _ _ h => by cases d <;> exact h) HS ?_
  iterate 12 (first | (apply planD_held rfl rfl rfl (by simp) HS; (intro w' hS K hK; go_simp; exact hK)) | (apply planD_wanted rfl rfl rfl (by simp) HS; (intro w' hS K hK; go_simp; exact hK)))
  refine planD_op rfl rfl (fun K hK => ?_)
  go_simp
  refine hK _ _ _ (fun u h => h) (fun h => absurd rfl h) ?_
  clear hK HS
  try (simp only [Act.put, List.setIfInBounds_toArray, List.set_cons_zero, List.set_cons_succ])
  refine planD_nil ?_
  first | go_end0 | (simp only [Exit.inBlock, Exit.then]; refine bodyPost_ret (results_none rfl _ _ _) rfl ?_) | refine bodyPost_ret (results_none rfl _ _ _) rfl ?_
  refine ⟨rfl, ?_⟩
  obtain ⟨h2, h3, h4, h5⟩ := H.out
  have hor := or_bit ⟨v, by omega⟩ ⟨r, hr8⟩
  have hw := wrap_bit ⟨r, hr8⟩
  have e6 : bits BinOp.or IntKind.u8 (v : Int) (IntKind.u8.wrap (2 ^ r)) = (((if v / 2 ^ r % 2 = 1 then v else v + 2 ^ r) : Nat) : Int) := by rw [hw]; exact hor
  have hlt : (if v / 2 ^ r % 2 = 1 then v else v + 2 ^ r) < 256 := add_bit ⟨v, by omega⟩ ⟨r, hr8⟩
  have e7 : (setB l b).getD (b / 8) 0 = UInt8.ofNat (if v / 2 ^ r % 2 = 1 then v else v + 2 ^ r) := by
    rw [setB, h2, h3, h4, h5]
    simp [List.getD, Hl.out, hq5]
  rw [e7, h2, bv, e6]
  congr 4
  exact (u8_nat _ hlt).symm
set_option maxHeartbeats 1000000 in
theorem cut_ok (w : World) (mb off : Nat) (l : Bytes) (hl : l.length = 512) (hr : w.rangeAt mb off (bvs l)) (hth : w.there mb off 512) (b : Nat) (hb : b < 4096) : Calls Try.prog 32 #[.pointer (some ⟨mb, off, none⟩), .int .i64 b] w fun e w' => e = .returned (.tuple #[]) ∧ w' = (w.setCell ⟨mb, off + b / 8, none⟩ (bv ((cutB l b).getD (b / 8) 0))).drew := by
  obtain ⟨q, hq⟩ : ∃ q, b / 8 = q := ⟨_, rfl⟩
  obtain ⟨r, hrr⟩ : ∃ r, b % 8 = r := ⟨_, rfl⟩
  have hq5 : q < 512 := by omega
  have hr8 : r < 8 := by omega
  have hcell : w.cell? ⟨mb, off + q, none⟩ = some (bv (l.getD q 0)) := by
    refine hr q _ ?_
    rw [bvs, List.getElem?_map, List.getElem?_eq_getElem (by omega)]
    simp [List.getD, hl, hq5]
  have hfz := (hth q hq5).2
  obtain ⟨x, hx⟩ : ∃ x, l.getD q 0 = x := ⟨_, rfl⟩
  rw [hx, bv] at hcell
  have e1 : (b : Int).tdiv 8 = (q : Int) := by rw [Int.tdiv_eq_ediv_of_nonneg (by omega)]; omega
  have e2 : (b : Int).tmod 8 = (r : Int) := by rw [Int.tmod_eq_emod_of_nonneg (by omega)]; omega
  have e3 : (b : Int) / 8 = (q : Int) := by omega
  have e4 : (b : Int) % 8 = (r : Int) := by omega
  have hbI : (b : Int) ≤ 4095 := by omega
  have hqI : (q : Int) < 512 := by omega
  have hrI : (r : Int) < 8 := by omega
  obtain ⟨v, hv⟩ : ∃ v, x.toNat = v := ⟨_, rfl⟩
  have hvb : (v : Int) ≤ 255 := by have := x.toNat_lt; omega
  rw [hv] at hcell
  have H := Lib.hid (And.intro hq (And.intro hrr (And.intro hx hv)))
  have w1 : IntKind.i64.wrap (q : Int) = (q : Int) := by rw [IntKind.wrap_i64]; omega
  have w2 : IntKind.i64.wrap (r : Int) = (r : Int) := by rw [IntKind.wrap_i64]; omega
  have hq0 : (0 : Int) ≤ (q : Int) := by omega
  have hr0 : (0 : Int) ≤ (r : Int) := by omega
  have Hl := Lib.hid hl
  clear hq hrr hx hv hr hl hth
  go_enter Try.func32, Try.ntmps32
  go_wp2_with fail
  have HS : w.drew.cell? ⟨mb, off + q, none⟩ = some (.int .u8 v) := hcell
  refine wp_region_planD (fun u => u.cell? ⟨mb, off + q, none⟩ = some (.int .u8 v)) 12 [(0, true), (1, true), (2, true), (3, true), (4, true), (5, true), (6, true), (7, true), (8, true), (9, true), (10, true), (11, true), (12, false)] (by kernel_rfl) (by kernel_rfl) (fun d _ _ _ _ h => by cases d <;> exact h) HS ?_
  iterate 12 (first | (apply planD_held rfl rfl rfl (by simp) HS; (intro w' hS K hK; go_simp; exact hK)) | (apply planD_wanted rfl rfl rfl (by simp) HS; (intro w' hS K hK; go_simp; exact hK)))
  refine planD_op rfl rfl (fun K hK => ?_)
  go_simp
  refine hK _ _ _ (fun u h => h) (fun h => absurd rfl h) ?_
  clear hK HS
  try (simp only [Act.put, List.setIfInBounds_toArray, List.set_cons_zero, List.set_cons_succ])
  refine planD_nil ?_
  first | go_end0 | (simp only [Exit.inBlock, Exit.then]; refine bodyPost_ret (results_none rfl _ _ _) rfl ?_) | refine bodyPost_ret (results_none rfl _ _ _) rfl ?_
  refine ⟨rfl, ?_⟩
  obtain ⟨h2, h3, h4, h5⟩ := H.out
  have hcu := cut_bit ⟨v, by omega⟩ ⟨r, hr8⟩
  have hw := wrap_bit ⟨r, hr8⟩
  have e6 : bits BinOp.andNot IntKind.u8 (v : Int) (IntKind.u8.wrap (2 ^ r)) = (((if v / 2 ^ r % 2 = 1 then v - 2 ^ r else v) : Nat) : Int) := by rw [hw]; exact hcu
  have hlt : (if v / 2 ^ r % 2 = 1 then v - 2 ^ r else v) < 256 := sub_bit ⟨v, by omega⟩ ⟨r, hr8⟩
  have e7 : (cutB l b).getD (b / 8) 0 = UInt8.ofNat (if v / 2 ^ r % 2 = 1 then v - 2 ^ r else v) := by
    rw [cutB, h2, h3, h4, h5]
    simp [List.getD, Hl.out, hq5]
  rw [e7, h2, bv, e6]
  congr 4
  exact (u8_nat _ hlt).symm
end Go.Proofs.Ytndhcimepgcfaaa
