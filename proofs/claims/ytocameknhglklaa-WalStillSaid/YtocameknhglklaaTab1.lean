/- Contracts of package crc: the table, in the midst of a block: fill, sync.Once's Do, Sum, Calls. -/
import Derived.Test.YtocameknhglklaaCrc1
import Derived.Defers
import Derived.Laws.Pointers
import Derived.Laws.LoneSync
import Derived.RegionTactic
import Derived.RegionCalls
import Derived.ChangeAlike
namespace Go.Proofs.Ytocameknhglklaa
open Go.RowKit
set_option linter.unusedSimpArgs false
set_option maxRecDepth 100000

/-- A table as it lies: once (done, the lock's state, its semaphore), the rows, the calls. -/
def u32V (x : BitVec 32) : Value := .int .u32 x.toNat
def tabV (d m : Int) (rows : List (BitVec 32)) (c : Int) : List Value := .int .u32 d :: .int .i32 m :: .int .u32 0 :: (rows.map u32V ++ [.int .i64 c])
def TabAt (w : World) (b o : Nat) (pre post : List Value) (t : TypeId) (d m : Int) (rows : List (BitVec 32)) (c : Int) : Prop := pre.length = o ∧ rows.length = 256 ∧ w.heap[b]? = some (.cells (pre ++ tabV d m rows c ++ post).toArray t (0, 0))
def fullRows : List (BitVec 32) := (List.range 256).map (fun i => steps 8 (BitVec.ofNat 32 i))
theorem fullRows_length : fullRows.length = 256 := by simp [fullRows]

theorem tab_get {b o : Nat} {pre post : List Value} {t : TypeId} {w : World} {d m : Int} {rows : List (BitVec 32)} {c : Int} (h : TabAt w b o pre post t d m rows c) (i : Nat) (hi : i < 260) : w.cell? ⟨b, o + i, none⟩ = (tabV d m rows c)[i]? := by
  have hl : (tabV d m rows c).length = 260 := by simp [tabV, h.2.1]
  rw [cell_of_row _ _ _ _ _ _ h.2.2, ← h.1]
  simp only [List.getElem?_toArray]
  rw [List.append_assoc, List.getElem?_append_right (by omega), Nat.add_sub_cancel_left, List.getElem?_append_left (by omega)]
theorem tab_set {b o : Nat} {pre post : List Value} {t : TypeId} {w : World} {d m : Int} {rows : List (BitVec 32)} {c : Int} (h : TabAt w b o pre post t d m rows c) (i : Nat) (hi : i < 260) (v : Value) : (w.setCell ⟨b, o + i, none⟩ v).heap[b]? = some (.cells (pre ++ (tabV d m rows c).set i v ++ post).toArray t (0, 0)) := by
  have hl : (tabV d m rows c).length = 260 := by simp [tabV, h.2.1]
  rw [stored h.2.2, ← h.1, List.setIfInBounds_toArray]
  rw [List.append_assoc, List.set_append_right _ _ (by omega), Nat.add_sub_cancel_left, List.set_append_left _ _ (by omega), List.append_assoc]
theorem TabAt.heap {b o : Nat} {pre post : List Value} {t : TypeId} {w : World} {d m : Int} {rows : List (BitVec 32)} {c : Int} (h : TabAt w b o pre post t d m rows c) : w.heap[b]? = some (.cells (pre ++ tabV d m rows c ++ post).toArray t (0, 0)) := h.2.2
theorem TabAt.cell0 {w : World} {b o : Nat} {pre post : List Value} {t : TypeId} {d m : Int} {rows : List (BitVec 32)} {c : Int} (h : TabAt w b o pre post t d m rows c) : w.cell? ⟨b, o, none⟩ = some (.int .u32 d) := tab_get h 0 (by decide)
theorem TabAt.cell1 {w : World} {b o : Nat} {pre post : List Value} {t : TypeId} {d m : Int} {rows : List (BitVec 32)} {c : Int} (h : TabAt w b o pre post t d m rows c) : w.cell? ⟨b, o + 1, none⟩ = some (.int .i32 m) := tab_get h 1 (by decide)
theorem TabAt.cellR {w : World} {b o : Nat} {pre post : List Value} {t : TypeId} {d m : Int} {rows : List (BitVec 32)} {c : Int} (h : TabAt w b o pre post t d m rows c) (k : Nat) (hk : k < 256) : w.cell? ⟨b, o + 3 + k, none⟩ = some (u32V (rows[k]'(by rw [h.2.1]; exact hk))) := by
  rw [Nat.add_assoc, tab_get h (3 + k) (by omega), Nat.add_comm 3 k]
  have hl := h.2.1
  simp [tabV, hl, hk, List.getElem?_append]
theorem TabAt.cellC {w : World} {b o : Nat} {pre post : List Value} {t : TypeId} {d m : Int} {rows : List (BitVec 32)} {c : Int} (h : TabAt w b o pre post t d m rows c) : w.cell? ⟨b, o + 259, none⟩ = some (.int .i64 c) := by
  rw [tab_get h 259 (by decide)]
  have hl := h.2.1
  simp [tabV, hl]
theorem TabAt.set0 {w : World} {b o : Nat} {pre post : List Value} {t : TypeId} {d m : Int} {rows : List (BitVec 32)} {c : Int} (h : TabAt w b o pre post t d m rows c) (d' : Int) : TabAt (w.setCell ⟨b, o, none⟩ (.int .u32 d')) b o pre post t d' m rows c := ⟨h.1, h.2.1, tab_set h 0 (by decide) _⟩
theorem TabAt.set1 {w : World} {b o : Nat} {pre post : List Value} {t : TypeId} {d m : Int} {rows : List (BitVec 32)} {c : Int} (h : TabAt w b o pre post t d m rows c) (m' : Int) : TabAt (w.setCell ⟨b, o + 1, none⟩ (.int .i32 m')) b o pre post t d m' rows c := ⟨h.1, h.2.1, tab_set h 1 (by decide) _⟩
theorem TabAt.setC {w : World} {b o : Nat} {pre post : List Value} {t : TypeId} {d m : Int} {rows : List (BitVec 32)} {c : Int} (h : TabAt w b o pre post t d m rows c) (c' : Int) : TabAt (w.setCell ⟨b, o + 259, none⟩ (.int .i64 c')) b o pre post t d m rows c' :=
  ⟨h.1, h.2.1, by
    have hl := h.2.1
    rw [tab_set h 259 (by decide)]
    simp only [tabV]
    rw [List.set_cons_succ, List.set_cons_succ, List.set_cons_succ, List.set_append_right _ _ (by simp [hl])]
    simp [hl]⟩
theorem TabAt.setR {w : World} {b o : Nat} {pre post : List Value} {t : TypeId} {d m : Int} {rows : List (BitVec 32)} {c : Int} (h : TabAt w b o pre post t d m rows c) (k : Nat) (hk : k < 256) (x : BitVec 32) : TabAt (w.setCell ⟨b, o + 3 + k, none⟩ (u32V x)) b o pre post t d m (rows.set k x) c :=
  ⟨h.1, by rw [List.length_set]; exact h.2.1, by
    have hl := h.2.1
    rw [Nat.add_assoc, tab_set h (3 + k) (by omega), Nat.add_comm 3 k]
    simp only [tabV]
    rw [List.set_cons_succ, List.set_cons_succ, List.set_cons_succ, List.set_append_left _ _ (by simp [hl, hk])]
    simp⟩
theorem TabAt.upd {w w' : World} {b o : Nat} {pre post : List Value} {t : TypeId} {d m : Int} {rows : List (BitVec 32)} {c : Int} {F : Nat → Prop} (h : TabAt w b o pre post t d m rows c) (hu : Upd F w w') (hf : ¬ F b) : TabAt w' b o pre post t d m rows c := ⟨h.1, h.2.1, hu.heap h.2.2 hf⟩

/-- What fill has laid so far. -/
def FillR (w0 : World) (b o : Nat) (pre post : List Value) (t : TypeId) (d m c : Int) (k : Nat) (wr : World) : Prop := Upd (fun j => j = b) w0 wr ∧ ∃ rows, TabAt wr b o pre post t d m rows c ∧ ∀ j, j < k → rows[j]? = some (steps 8 (BitVec.ofNat 32 j))

set_option maxHeartbeats 2000000 in
theorem fill_ok (b o : Nat) (pre post : List Value) (t : TypeId) (d m : Int) (rows : List (BitVec 32)) (c : Int) (w : World) (h : TabAt w b o pre post t d m rows c) :
    Calls Try.prog 54 #[.pointer (some ⟨b, o, none⟩)] w fun e w' => e = .returned (.tuple #[]) ∧ Upd (fun j => j = b) w w' ∧ TabAt w' b o pre post t d m fullRows c := by
  have hR0 : FillR w b o pre post t d m c 0 w := ⟨Upd.refl _ _, rows, h, fun j hj => by omega⟩
  clear h
  go_enter Try.func54, Try.ntmps54
  go_wp2_with fail
  go_loopw [3] (fun v wr => ∃ k : Nat, k ≤ 256 ∧ v = .int .i64 k ∧ FillR w b o pre post t d m c k wr) (fun v _ => 256 - (intOf v).toNat)
  case atStart => exact ⟨0, by omega, rfl, hR0⟩
  case round =>
    clear hR0
    obtain ⟨k, hk, rfl, hU, rows, hT, hr⟩ := hrel
    by_cases h8 : k < 256
    · have h8' : (k : Int) < 256 := by omega
      obtain ⟨y, hy⟩ : ∃ y, BitVec.ofNat 32 k = y := ⟨_, rfl⟩
      have hyk : ((k : Int) % 4294967296) = (y.toNat : Int) := by rw [← hy, BitVec.toNat_ofNat]; omega
      have hyk2 : IntKind.u32.wrap (k : Int) = (y.toNat : Int) := by rw [IntKind.wrap_u32]; exact hyk
      have hfz := unfrozen hT.heap
      obtain ⟨x, hx⟩ : ∃ x, rows[k]'(by rw [hT.2.1]; exact h8) = x := ⟨_, rfl⟩
      have hcell := hT.cellR k h8
      rw [hx] at hcell
      have Hst : Hid (FillR w b o pre post t d m c (k + 1) (wr.drew.setCell ⟨b, o + 3 + k, none⟩ (u32V (steps 8 y)))) := by
        have hTd : TabAt wr.drew b o pre post t d m rows c := hT
        refine ⟨hU.drew.setCell _ (.inl rfl), _, hTd.setR k h8 (steps 8 y), fun j hj => ?_⟩
        by_cases e : j = k
        · subst e; rw [List.getElem?_set_self (by rw [hT.2.1]; exact h8), hy]
        · rw [List.getElem?_set_ne (fun h => e h.symm)]; exact hr j (by omega)
      clear hU hr hy hx hT
      go_wp2_with fail
      have HS : True := trivial
      refine wp_region_plan (fun _ => True) 8 [(0, true), (1, true), (2, true), (5, true), (6, true), (3, false), (4, false), (7, true), (8, false)] (by kernel_rfl) (by kernel_rfl) (fun d _ _ _ _ h => by cases d <;> exact h) HS ?_
      iterate 5 (apply plan_held rfl rfl rfl (by simp) HS; (intro w' hS K hK; go_simp; exact hK))
      refine plan_op rfl rfl (fun K hK => ?_)
      go_simp
      refine hK _ _ (fun _ => trivial) ?_
      try (simp only [Act.put, List.setIfInBounds_toArray, List.set_cons_zero, List.set_cons_succ])
      refine plan_op rfl rfl (fun K hK => ?_)
      go_simp
      refine (step_ok y _).mono ?_
      rintro e w' ⟨rfl, rfl⟩
      dsimp only
      refine hK _ _ (fun _ => trivial) ?_
      try (simp only [Act.put, List.setIfInBounds_toArray, List.set_cons_zero, List.set_cons_succ])
      (apply plan_held rfl rfl rfl (by simp) HS; (intro w' hS K hK; go_simp; exact hK))
      refine plan_op rfl rfl (fun K hK => ?_)
      go_simp
      refine hK _ _ (fun h => absurd rfl h) ?_
      refine plan_nil ?_
      go_wp2_with fail
      exact ⟨⟨k + 1, by omega, by go_num, Hst.out⟩, by simp [intOf]; omega⟩
    · obtain rfl : k = 256 := by omega
      have hre : rows = fullRows := by
        apply List.ext_getElem?
        intro j
        by_cases hj : j < 256
        · rw [hr j hj]; simp [fullRows, hj]
        · rw [List.getElem?_eq_none (by rw [hT.2.1]; omega), List.getElem?_eq_none (by rw [fullRows_length]; omega)]
      subst hre
      have HT := Lib.hid (And.intro hU hT)
      clear hU hT hr
      go_wp2_with fail
      go_end0
      exact ⟨rfl, HT.out⟩
end Go.Proofs.Ytocameknhglklaa
