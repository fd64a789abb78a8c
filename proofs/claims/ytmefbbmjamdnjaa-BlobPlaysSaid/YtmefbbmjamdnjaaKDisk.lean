/- Package disk: contracts. -/
import Derived.Test.YtmefbbmjamdnjaaRows
import Derived.WalkKit
import Derived.ProofKit
import Derived.Deep.QuietTactic
import Derived.BigQuiet
import Derived.Below
import Derived.Test.YtmefbbmjamdnjaaKBase
import Derived.Test.YtmefbbmjamdnjaaKPlain
import Derived.Lib.Hide
import Derived.Outline
import Derived.WalkSpells
import Derived.OpenShut
import Derived.ShutString
import Derived.ChangeOld
import Derived.Deep.Slices
set_option linter.unusedSimpArgs false
set_option linter.unusedVariables false
/- Contracts of package disk. -/
namespace Go.Proofs.Ytmefbbmjamdnjaa
open Go.RowKit

end Go.Proofs.Ytmefbbmjamdnjaa
/- Contracts of package disk. -/
namespace Go.Proofs.Ytmefbbmjamdnjaa
open Go.RowKit

def secsV (l : List Bytes) : List Value := l.flatMap bvs
def waitV (p : Nat × Bytes) : List Value := .int .i64 p.1 :: bvs p.2
def waitsV (l : List (Nat × Bytes)) : List Value := l.flatMap waitV

theorem bvs_all (l : Bytes) : (bvs l).toArray.all (·.oneCell') = true := by
  rw [List.all_toArray, List.all_eq_true]
  exact bvs_one l
theorem waitV_all (i : Int) (l : Bytes) : (Value.int .i64 i :: bvs l).toArray.all (·.oneCell') = true := by
  rw [List.all_toArray, List.all_cons, Bool.and_eq_true]
  exact ⟨rfl, List.all_eq_true.2 (bvs_one l)⟩

theorem pad_splice (i : Int) (l : Bytes) : splice (Value.int .i64 i :: bvs zeros512) 1 (bvs l) = Value.int .i64 i :: bvs (pad l) := by
  simp only [splice, pad, List.take_succ_cons, List.take_zero, bvs_append, bvs_length]
  rw [Nat.add_comm 1, List.drop_succ_cons]
  simp only [bvs, ← List.map_drop, zeros512, List.drop_replicate]
  rfl

theorem sizeB : (Try.prog.info? 5).map (·.size) = some 1 := by kernel_rfl
end Go.Proofs.Ytmefbbmjamdnjaa
/- Contracts of slices.Clone at three instances. -/
namespace Go.Proofs.Ytmefbbmjamdnjaa
open Go.RowKit
set_option linter.unusedSimpArgs false

theorem infoB : (Try.prog.info? 5).map (fun i => (i.zero, i.size, i.bytes)) = some (some (.int .u8 0), 1, 1) := by kernel_rfl
set_option maxRecDepth 100000 in
theorem cloneB_nil (w : World) : Calls Try.prog 72 #[.slice none 0 0] w fun e w' => e = .returned (.slice none 0 0) ∧ w = w' := by
  have hq : (binOp .eql 31 (.slice none 0 0) (.slice none 0 0)).run Try.prog w = .ok (.bool true) w := Lib.run_eql_slice_nil w _ _ none 0 0 0 0 Try.underlying31
  go_enter Try.func72, Try.ntmps72
  go_wp2_with fail
  go_ret
  exact ⟨rfl, rfl⟩
set_option maxRecDepth 100000 in
theorem cloneB_some (x : Addr) (m c : Nat) (news : List Value) (w : World) (hx : Sees w 1 (.slice (some x) m c) m news) (h1 : ∀ u ∈ news, u.oneCell' = true) (hm : m * 1 ≤ 140737488355328) :
    Calls Try.prog 72 #[.slice (some x) m c] w fun e w' => ∃ x' c', e = .returned (.slice (some x') m c') ∧ w'.ownsRow w.heap.size 5 1 (.slice (some x') m c') m news ∧ Upd (fun _ => False) w w' := by
  have hq : (binOp .eql 31 (.slice (some x) m c) (.slice none 0 0)).run Try.prog w = .ok (.bool false) w := Lib.run_eql_slice_nil w _ _ (some x) m c 0 0 Try.underlying31
  have Hm := Lib.hid hm
  clear hm
  go_enter Try.func72, Try.ntmps72
  go_wp2_with ((with_reducible apply wpl_append_sees w.heap.size 5 1 1 _ (.slice (some ⟨w.heap.size, 0, none⟩) 0 0) 0 [] m news))
  · exact Try.underlying31
  · exact infoB
  · rfl
  · decide
  · rfl
  · exact World.ownsRow_made w #[] 0 (Nat.le_refl _) (Nat.zero_le _) (by simp)
  · exact Sees.upd ((Upd.refl (fun _ => False) w).alloc _) hx (fun _ _ _ h => h)
  · exact h1
  · have := Hm.out; unfold maxLen; omega
  · have := Hm.out; omega
  · simp
  intro x' c' w' hown hg hb
  simp only [Act.put, List.setIfInBounds_toArray, List.set_cons_zero, List.set_cons_succ]
  simp only [Nat.zero_add, List.nil_append] at hown hb ⊢
  obtain ⟨y, rfl⟩ : ∃ y, x' = some y := by
    rcases hb with hb | hb <;> (cases x' with
      | none => simp [Value.ownBlock] at hb
      | some y => exact ⟨y, rfl⟩)
  go_wp2_with fail
  go_ret
  exact ⟨y, c', rfl, hown, ((Upd.refl (fun _ => False) w).alloc _).grown hg (fun k hk => .inr (by simp [Value.ownBlock] at hk; omega))⟩


end Go.Proofs.Ytmefbbmjamdnjaa
/- What came in, as lists of bytes and of truths. -/
namespace Go.Proofs.Ytmefbbmjamdnjaa
open Go.ChangeShapes Go.WideShapes Go.ChangeAt Go.RowKit Go.Deep
set_option linter.unusedSimpArgs false
set_option maxRecDepth 100000

def boolsV (l : List Bool) : List Value := l.map Value.bool

theorem Addr.add_none {x : Addr} {j : Nat} {v : Value} {w : World} (h : w.cell? (x.add j) = some v) (h0 : j = 0 → x.spot = none) : w.cell? ⟨x.block, x.off + j, none⟩ = some v := by
  obtain ⟨b, off, spot⟩ := x
  by_cases hj : j = 0
  · subst hj
    have : spot = none := h0 rfl
    subst this
    simpa [Addr.add] using h
  · simpa [Addr.add, hj] using h

/-- A slice of cells of one kind: what it shows. -/
theorem sees_of_cells {w : World} {a : Addr} {len cap : Nat} {V : Nat → Value} (hm : len ≤ maxLen) (hc : ∀ i, i < len → w.cell? (a.add i) = some (V i)) :
    Sees w 1 (.slice (some a) len cap) len ((List.range len).map V) ∧ (0 < len → a.block < w.heap.size) := by
  refine ⟨⟨by simp, hm, _, _, rfl, fun h0 => ?_⟩, fun h0 => ?_⟩
  · have hs : a.spot = none := by have := hc 0 h0; exact World.cell?_spot (by simpa [Addr.add] using this)
    refine ⟨a.block, a.off, ?_, fun j v hj => ?_⟩
    · obtain ⟨b, o, s⟩ := a; simp at hs; subst hs; rfl
    · have hjl : j < len := by
        rcases Nat.lt_or_ge j len with h | h
        · exact h
        · rw [List.getElem?_eq_none (by simpa using h)] at hj; cases hj
      have := hc j hjl
      simp [hjl] at hj
      subst hj
      exact Addr.add_none this (fun _ => hs)
  · have := hc 0 h0
    exact World.block_lt_of_cell? _ a (by simpa [Addr.add] using this)

section
variable {H : Type} {enc : TypeId × Value → H} {W : World} {base : Nat}

theorem open_bytes {v : Value} {d : DataW H} {p : List MemPlace} (hv : Value.okWide Try.prog W .any base 31 v) (h : DataW.Trod enc Try.prog W 0 (fun _ => true) true 31 v d p) :
    ∃ (a : Option Addr) (c : Nat) (bs : List UInt8), v = .slice a bs.length c ∧ Sees W 1 (.slice a bs.length c) bs.length (bvs bs) ∧ (∀ x, a = some x → 0 < bs.length → x.block < W.heap.size) ∧
      (d = .nil ∨ ∃ zs, zs.length = bs.length ∧ ∃ sp, d = .slice (lits .u8 zs) sp) := by
  obtain ⟨a0, len, cap, rfl⟩ := okWide_slice Try.underlying31 hv
  obtain ⟨fuel, hf⟩ := h
  rcases open_ints Try.underlying31 Try.underlying5 (by kernel_rfl) hf with ⟨hcs, hx⟩ | ⟨x, l, c, zs, hcs, _, hl, hm, hz, hx, hcell, hwz⟩
  · simp [Value.cells] at hcs
    obtain ⟨rfl, rfl, rfl⟩ := hcs
    simp only [Prod.mk.injEq] at hx
    exact ⟨none, 0, [], rfl, Sees.zero _ _ _ _, (fun x hx => by cases hx), .inl hx.1⟩
  · simp [Value.cells] at hcs
    obtain ⟨rfl, rfl, rfl⟩ := hcs
    have hz' : zs.length = cap := by simpa using hz
    simp only [Prod.mk.injEq] at hx
    have hlen : ((zs.take len).map (fun n => UInt8.ofNat n.toNat)).length = len := by simp; omega
    have hc : ∀ i, i < len → W.cell? (x.add i) = some (.int .u8 (zs.getD i 0)) := fun i hi => hcell i (by omega)
    obtain ⟨h1, h2⟩ := sees_of_cells (cap := cap) (Nat.le_trans hl hm) hc
    have e : (List.range len).map (fun i => Value.int .u8 (zs.getD i 0)) = bvs ((zs.take len).map (fun n => UInt8.ofNat n.toNat)) := by
      apply List.ext_getElem?
      intro i
      by_cases hi : i < len
      · have hiz : i < zs.length := by omega
        have hw := hwz zs[i] (List.getElem_mem hiz)
        have hb := bounds_u8 hw
        simp [bvs, hi, hiz, bv, List.getElem?_take]
        omega
      · rw [List.getElem?_eq_none (by simpa using hi), List.getElem?_eq_none (by rw [bvs_length, hlen]; omega)]
    rw [e] at h1
    exact ⟨some x, cap, _, by rw [hlen], by rw [hlen]; exact h1, (fun y hy h0 => by cases hy; exact h2 (by omega)), .inr ⟨zs.take len, by rw [hlen]; simp; omega, _, hx.1⟩⟩

theorem open_bools {v : Value} {d : DataW H} {p : List MemPlace} (hv : Value.okWide Try.prog W .any base 84 v) (h : DataW.Trod enc Try.prog W 0 (fun _ => true) true 84 v d p) :
    ∃ (a : Option Addr) (c : Nat) (bs : List Bool), v = .slice a bs.length c ∧ Sees W 1 (.slice a bs.length c) bs.length (boolsV bs) ∧ (∀ x, a = some x → 0 < bs.length → x.block < W.heap.size) := by
  obtain ⟨a0, len, cap, rfl⟩ := okWide_slice Try.underlying84 hv
  obtain ⟨fuel, hf⟩ := h
  rcases open_slice1 Try.underlying84 (by kernel_rfl) hf with ⟨hcs, _⟩ | ⟨x, l, c, m, n, V, D, Pl, hcs, _, hl, hm, hmm, _, hcell⟩
  · simp [Value.cells] at hcs
    obtain ⟨rfl, rfl, rfl⟩ := hcs
    exact ⟨none, 0, [], rfl, Sees.zero _ _ _ _, fun x hx => by cases hx⟩
  · simp [Value.cells] at hcs
    obtain ⟨rfl, rfl, rfl⟩ := hcs
    have hm' : m = cap := by simpa using hmm
    have hb : ∀ i, i < m → ∃ b, V i = .bool b := fun i hi => by
      obtain ⟨b, hb, _⟩ := DataW.trod_bool Try.underlying4 (hcell i hi).2
      exact ⟨b, by simpa using hb⟩
    obtain ⟨f, hf'⟩ := choose_lt hb
    have hc : ∀ i, i < len → W.cell? (x.add i) = some (.bool (f i)) := fun i hi => by rw [(hcell i (by omega)).1, hf' i (by omega)]
    obtain ⟨h1, h2⟩ := sees_of_cells (cap := cap) (Nat.le_trans hl hm) hc
    refine ⟨some x, cap, (List.range len).map f, by simp, ?_, fun y hy h0 => by cases hy; exact h2 (by simpa using h0)⟩
    have e : (List.range len).map (fun i => Value.bool (f i)) = boolsV ((List.range len).map f) := by simp [boolsV]
    rw [e] at h1
    simpa using h1
end
end Go.Proofs.Ytmefbbmjamdnjaa
/- Contracts of package disk: Flush. -/
namespace Go.Proofs.Ytmefbbmjamdnjaa
open Go.RowKit
set_option linter.unusedSimpArgs false
set_option maxRecDepth 100000

theorem secsV_length {l : List Bytes} (h : ∀ x ∈ l, x.length = 512) : (secsV l).length = l.length * 512 := flat_length bvs 512 l (fun x hx => by rw [bvs_length, h x hx])
theorem waitV_length {p : Nat × Bytes} (h : p.2.length = 512) : (waitV p).length = 513 := by simp [waitV, bvs_length, h]
theorem waits_piece {l : List (Nat × Bytes)} (h : ∀ p ∈ l, p.2.length = 512) (k : Nat) (hk : k < l.length) : ((waitsV l).drop (k * 513)).take (waitV l[k]).length = waitV l[k] := by
  rw [waitV_length (h _ (List.getElem_mem hk))]
  exact flat_piece waitV 513 l k hk (fun p hp => waitV_length (h p hp))
theorem secs_piece {l : List Bytes} (h : ∀ x ∈ l, x.length = 512) (k : Nat) (hk : k < l.length) : ((secsV l).drop (k * 512)).take 512 = bvs l[k] :=
  flat_piece bvs 512 l k hk (fun x hx => by rw [bvs_length, h x hx])
theorem done_take (s : List Bytes) (ws : List (Nat × Bytes)) (k : Nat) (hk : k < ws.length) : done s (ws.take (k + 1)) = (done s (ws.take k)).set ws[k].1 ws[k].2 := by
  rw [List.take_succ_eq_append_getElem hk, done_append]
  rfl

end Go.Proofs.Ytmefbbmjamdnjaa
/- Contracts of package disk: Crash. -/
namespace Go.Proofs.Ytmefbbmjamdnjaa
open Go.RowKit
set_option linter.unusedSimpArgs false
set_option maxRecDepth 100000

theorem kept_take (W : List (Nat × Bytes)) (keep : List Bool) (k : Nat) (hk : k < W.length) : kept (W.take (k + 1)) keep = kept (W.take k) keep ++ (if keep.getD k false then [W[k]] else []) := by
  induction W generalizing keep k with
  | nil => simp at hk
  | cons p r ih =>
    cases k with
    | zero =>
      cases keep with
      | nil => simp [kept]
      | cons b ks => cases b <;> simp [kept]
    | succ k =>
      cases keep with
      | nil => simp [kept]
      | cons b ks =>
        have := ih ks k (by simpa using hk)
        simp only [List.take_succ_cons, kept, this, List.getElem_cons_succ, List.getD_cons_succ]
        cases b <;> simp
theorem kept_mem {W : List (Nat × Bytes)} {keep : List Bool} : ∀ p ∈ kept W keep, p ∈ W := by
  induction W generalizing keep with
  | nil => intro p hp; simp [kept] at hp
  | cons q r ih =>
    intro p hp
    cases keep with
    | nil => simp [kept] at hp
    | cons b ks =>
      cases b
      · exact List.mem_cons_of_mem _ (ih p (by simpa [kept] using hp))
      · have : p = q ∨ p ∈ kept r ks := by simpa [kept] using hp
        rcases this with h | h
        · rw [h]; exact List.mem_cons_self ..
        · exact List.mem_cons_of_mem _ (ih p h)


end Go.Proofs.Ytmefbbmjamdnjaa
/- Contracts of package disk: Read, Durable. -/
namespace Go.Proofs.Ytmefbbmjamdnjaa
open Go.RowKit
set_option linter.unusedSimpArgs false
set_option maxRecDepth 100000

theorem lastOf_none (ws : List (Nat × Bytes)) (i : Nat) (was : Bytes) (h : ∀ p ∈ ws, p.1 ≠ i) : lastOf ws i was = was := by
  induction ws generalizing was with
  | nil => rfl
  | cons p r ih =>
    rw [lastOf, List.foldl_cons, if_neg (h p (List.mem_cons_self ..))]
    exact ih _ (fun q hq => h q (List.mem_cons_of_mem _ hq))
theorem lastOf_append (a b : List (Nat × Bytes)) (i : Nat) (was : Bytes) : lastOf (a ++ b) i was = lastOf b i (lastOf a i was) := by simp [lastOf]
theorem lastOf_hit (ws : List (Nat × Bytes)) (i : Nat) (was : Bytes) (k : Nat) (hk : k < ws.length) (he : ws[k].1 = i) (h : ∀ j (hj : j < ws.length), k < j → ws[j].1 ≠ i) : lastOf ws i was = ws[k].2 := by
  have e : ws = ws.take k ++ ws[k] :: ws.drop (k + 1) := by rw [← List.drop_eq_getElem_cons hk, List.take_append_drop]
  have e2 : lastOf ws i was = lastOf (ws.take k ++ ws[k] :: ws.drop (k + 1)) i was := congrArg (fun l => lastOf l i was) e
  rw [e2, lastOf_append, lastOf, List.foldl_cons, if_pos he]
  refine (lastOf_none _ i _ fun p hp => ?_).trans (by simp)
  obtain ⟨j, hj, rfl⟩ := List.getElem_of_mem hp
  simp only [List.length_drop] at hj
  rw [List.getElem_drop]
  exact h _ (by omega) (by omega)

end Go.Proofs.Ytmefbbmjamdnjaa
/- Contracts of package disk: New, Size, Pending, Fuel, Dead, Clone. -/
namespace Go.Proofs.Ytmefbbmjamdnjaa
open Go.RowKit
set_option linter.unusedSimpArgs false
set_option maxRecDepth 100000

theorem madeCells_flat (z : List Value) : ∀ (n : Nat), (madeCells z.toArray (n * z.length)).toList = (List.replicate n z).flatten := by
  intro n
  apply List.ext_getElem?
  intro k
  by_cases hz : z.length = 0
  · have : z = [] := List.eq_nil_of_length_eq_zero hz
    subst this
    simp [madeCells]
  · have hl : ((List.replicate n z).flatten).length = n * z.length := by simp
    by_cases hk : k < n * z.length
    · have h1 : (List.replicate n z).flatMap (fun x => x) = (List.replicate n z).flatten := by simp [List.flatMap]
      have hq : k / z.length < n := by rw [Nat.div_lt_iff_lt_mul (by omega)]; exact hk
      have h2 := flat_piece (fun x : List Value => x) z.length (List.replicate n z) (k / z.length) (by simpa using hq) (fun x hx => by rw [List.eq_of_mem_replicate hx])
      rw [h1] at h2
      simp only [List.getElem_replicate] at h2
      have hm : k % z.length < z.length := Nat.mod_lt _ (by omega)
      have h3 : ((List.replicate n z).flatten)[k]? = z[k % z.length]? := by
        rw [← h2, List.getElem?_take, if_pos (by rw [h2]; exact hm), List.getElem?_drop, h2]
        congr 1
        rw [Nat.mul_comm]; exact (Nat.div_add_mod k z.length).symm
      rw [h3]
      simp [madeCells, hk, hm]
    · rw [List.getElem?_eq_none (by simp [madeCells]; omega), List.getElem?_eq_none (by rw [hl]; omega)]
theorem secs_new (n : Nat) : (madeCells (bvs zeros512).toArray (n * 512)).toList = secsV (List.replicate n zeros512) := by
  have h := madeCells_flat (bvs zeros512) n
  rw [bvs_length, zeros512_length] at h
  rw [h, secsV, List.flatMap, List.map_replicate]
/-! ### The disk as its callers see it -/
end Go.Proofs.Ytmefbbmjamdnjaa
/- The disk as its callers see it: Flush, Crash, Read, Durable, Fuel. -/
namespace Go.Proofs.Ytmefbbmjamdnjaa
open Go.RowKit
set_option linter.unusedSimpArgs false
set_option maxRecDepth 100000

end Go.Proofs.Ytmefbbmjamdnjaa
