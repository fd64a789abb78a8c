/- docketlaw02.fixed. -/
import Derived.Test.YtlcbgcbocikkkaaDisk6
import Derived.Lib.SlBytesConst
namespace Go.Proofs.Ytlcbgcbocikkkaa
open Go.RowKit
set_option linter.unusedSimpArgs false
set_option maxRecDepth 100000

/-- The bytes of a slice written out, of one element, marked as a text's. -/
theorem sees_marked (w : World) (l : Bytes) (t : TypeId) (fr : Nat × Nat) (h : l.length ≤ maxLen) : Sees (w.alloc (.cells (bvs l).toArray t fr)) 1 (.slice (some ⟨w.heap.size, 0, none⟩) l.length l.length) l.length (bvs l) :=
  Sees.at (by simp [bvs_length]) h (rangeAt_of_row (heap_alloc_new w _) (by simp))

def d4 (ws : List (Nat × Bytes)) : DSt := ⟨List.replicate 4 zeros512, ws, -1, false⟩

set_option maxHeartbeats 1000000 in
theorem fixed_ok (w : World) : Calls Try.prog 15 #[] w fun e w' => e = .returned (.bool true) ∧ Upd (fun _ => False) w w' := by
  have kc := fun (w : World) (C : Array Value) (n c : Nat) => Lib.run_convert_bytes_const (P := Try.prog) w 22 5 C n c Try.underlying22 Try.underlying5
  go_enter Try.func15, Try.ntmps15
  go_wp2_with fail
  refine (new_disk 4 w).mono ?_
  rintro e w1 ⟨b, F, rfl, hD, hu, hF⟩
  dsimp only
  go_wp2_with fail
  have hD1 : DiskAt (w1.alloc (.cells #[.int .u8 97] 5 (1, 2))) b (d4 []) F := hD.upd ((Upd.refl (fun _ => False) w1).alloc _) (fun _ _ h => h)
  refine (write_disk hD1 1 _ _ [97] (sees_marked w1 [97] 5 (1, 2) (by decide)) (fun x hx _ h => by cases hx; exact Nat.lt_irrefl _ (hD.lt _ h)) (by decide) (DSt.write_eq rfl (by decide) (by decide) (by decide) (by decide))).mono ?_
  rintro e w2 ⟨rfl, F2, hD2, hu2, hF2⟩
  dsimp only
  have U2 : Upd (fun _ => False) w w2 := (hu.alloc _).then hu2 (fun i hi => .inr (hF i hi))
  have G2 : ∀ k, F2 k → w.heap.size ≤ k := fun k hk => (hF2 k hk).elim (hF k) (fun h => Nat.le_trans (hu.alloc _).size h)
  clear hD hD1 hu hu2 hF hF2
  go_wp2_with fail
  have hD3 := hD2.upd ((Upd.refl (fun _ => False) w2).alloc (.cells #[.int .u8 98] 5 (1, 2))) (fun _ _ h => h)
  refine (write_disk hD3 1 _ _ [98] (sees_marked w2 [98] 5 (1, 2) (by decide)) (fun x hx _ h => by cases hx; exact Nat.lt_irrefl _ (hD2.lt _ h)) (by decide) (DSt.write_eq rfl (by decide) (by decide) (by decide) (by decide))).mono ?_
  rintro e w3 ⟨rfl, F3, hD4, hu3, hF3⟩
  dsimp only
  have U3 : Upd (fun _ => False) w w3 := (U2.alloc _).then hu3 (fun i hi => .inr (G2 i hi))
  have G3 : ∀ k, F3 k → w.heap.size ≤ k := fun k hk => (hF3 k hk).elim (G2 k) (fun h => Nat.le_trans (U2.alloc _).size h)
  clear hD2 hD3 hu3 hF3 U2 G2
  go_wp2_with fail
  refine (pending_disk hD4).mono ?_
  rintro e w4 ⟨rfl, rfl⟩
  dsimp only
  have e2 : (((d4 []).waits ++ [((1 : Int).toNat, pad [97])] ++ [((1 : Int).toNat, pad [98])]).length : Int) = 2 := rfl
  go_wp2_with fail
  clear e2
  refine (read_disk hD4 (by decide) 1 (DSt.read_eq rfl (by decide) (by decide))).mono ?_
  rintro e w4 ⟨xa, xc, rfl, hr1, hu4, _, hl1⟩
  dsimp only
  have U4 := U3.trans hu4
  have hD5 := hD4.upd hu4 (fun _ _ h => h)
  have e3 : lastOf ((d4 []).waits ++ [((1 : Int).toNat, pad [97])] ++ [((1 : Int).toNat, pad [98])]) (1 : Int).toNat ((d4 []).secs.getD (1 : Int).toNat []) = pad [98] := rfl
  rw [e3] at hr1 hl1 ⊢
  have e4 : (pad [98]).length = 512 := pad_length (by decide)
  rw [e4] at hr1 ⊢
  obtain ⟨g, rfl, hgw, hgl, hgc⟩ := row_some hr1 (by decide)
  have hg0 := hgc 0 (.int .u8 98) rfl
  have hgF : ¬ F3 g := fun h => by have := hD4.lt g h; omega
  clear hD4 hu4 e3 hl1 U3 hgc hr1
  go_wp2_with fail
  have hD6 := hD5.upd ((Upd.refl (fun _ => False) w4).alloc (.cells #[.bool true] 4)) (fun _ _ h => h)
  refine (crash_disk hD6 (by decide) (some ⟨w4.heap.size, 0, none⟩) 1 [true] (Sees.at rfl (by decide) (rangeAt_of_row (heap_alloc_new w4 _) rfl)) (fun x hx _ h => by cases hx; exact Nat.lt_irrefl _ (hD5.lt _ h))).mono ?_
  rintro e w5 ⟨rfl, hD7, hu5⟩
  dsimp only
  have hg5 := hu5.cell_some ((World.cell?_alloc_lt _ _ _ hgl).trans hg0) hgF
  have U5 : Upd (fun _ => False) w w5 := (U4.alloc _).then hu5 (fun i hi => .inr (G3 i hi))
  clear hD5 hD6 hu5 U4 hg0
  go_wp2_with fail
  refine (read_disk hD7 (by decide) 1 (DSt.read_eq rfl (by decide) (by decide))).mono ?_
  rintro e w6 ⟨xb, xd, rfl, hr2, hu6, _, hl2⟩
  dsimp only
  have U6 := U5.trans hu6
  have hD8 := hD7.upd hu6 (fun _ _ h => h)
  have e5 : lastOf ((DSt.crash { (d4 []) with waits := (d4 []).waits ++ [((1 : Int).toNat, pad [97])] ++ [((1 : Int).toNat, pad [98])], fuel := burnt (burnt (d4 []).fuel) } [true])).waits (1 : Int).toNat ((DSt.crash { (d4 []) with waits := (d4 []).waits ++ [((1 : Int).toNat, pad [97])] ++ [((1 : Int).toNat, pad [98])], fuel := burnt (burnt (d4 []).fuel) } [true]).secs.getD (1 : Int).toNat []) = pad [97] := rfl
  rw [e5] at hr2 hl2 ⊢
  have e6 : (pad [97]).length = 512 := pad_length (by decide)
  rw [e6] at hr2 ⊢
  obtain ⟨g', rfl, hgw', hgl', hgc'⟩ := row_some hr2 (by decide)
  have hg6 := hgc' 0 (.int .u8 97) rfl
  have hg7 := hu6.cell_some hg5 (fun h => h)
  clear hD7 hu6 e5 hl2 U5 hgc' hr2 hg5 e6 e4
  go_wp2_with fail
  refine (write_disk hD8 4 none 0 [] (Sees.zero _ _ _ _) (fun x hx => by cases hx) (by decide) (r := 1) rfl).mono ?_
  rintro e w7 ⟨rfl, F7, hD9, hu7, hF7⟩
  dsimp only
  go_wp2_with fail
  go_ret
  exact ⟨rfl, U6.then hu7 (fun i hi => .inr (G3 i hi))⟩
end Go.Proofs.Ytlcbgcbocikkkaa
