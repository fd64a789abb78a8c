/- Contracts of package crc: the table: fill, sync.Once's Do, Sum, Calls. -/
import Derived.Test.YtlcbgcbocikkkaaCrc1
import Derived.Defers
import Derived.Laws.Pointers
import Derived.Laws.LoneSync
import Derived.RegionTactic
import Derived.RegionCalls
import Derived.ChangeAlike
namespace Go.Proofs.Ytlcbgcbocikkkaa
open Go.RowKit
set_option linter.unusedSimpArgs false
set_option maxRecDepth 100000

/-- A table as it lies: once (done, the lock's state, its semaphore), the rows, the calls. -/
def u32V (x : BitVec 32) : Value := .int .u32 x.toNat
def tabV (d m : Int) (rows : List (BitVec 32)) (c : Int) : List Value := .int .u32 d :: .int .i32 m :: .int .u32 0 :: (rows.map u32V ++ [.int .i64 c])
def TabAt (w : World) (b : Nat) (d m : Int) (rows : List (BitVec 32)) (c : Int) : Prop := rows.length = 256 ∧ w.heap[b]? = some (.cells (tabV d m rows c).toArray 81 (0, 0))
def fullRows : List (BitVec 32) := (List.range 256).map (fun i => steps 8 (BitVec.ofNat 32 i))
theorem fullRows_length : fullRows.length = 256 := by simp [fullRows]

theorem TabAt.cell0 {w : World} {b : Nat} {d m : Int} {rows : List (BitVec 32)} {c : Int} (h : TabAt w b d m rows c) : w.cell? ⟨b, 0, none⟩ = some (.int .u32 d) := by rw [cell_of_row _ _ _ _ _ _ h.2]; rfl
theorem TabAt.cell1 {w : World} {b : Nat} {d m : Int} {rows : List (BitVec 32)} {c : Int} (h : TabAt w b d m rows c) : w.cell? ⟨b, 1, none⟩ = some (.int .i32 m) := by rw [cell_of_row _ _ _ _ _ _ h.2]; rfl
theorem TabAt.cellR {w : World} {b : Nat} {d m : Int} {rows : List (BitVec 32)} {c : Int} (h : TabAt w b d m rows c) (k : Nat) (hk : k < 256) : w.cell? ⟨b, 3 + k, none⟩ = some (u32V (rows[k]'(by rw [h.1]; exact hk))) := by
  rw [cell_of_row _ _ _ _ _ _ h.2, Nat.add_comm 3 k]
  have hl := h.1
  simp [tabV, hl, hk, List.getElem?_append]
theorem TabAt.cellC {w : World} {b : Nat} {d m : Int} {rows : List (BitVec 32)} {c : Int} (h : TabAt w b d m rows c) : w.cell? ⟨b, 259, none⟩ = some (.int .i64 c) := by
  rw [cell_of_row _ _ _ _ _ _ h.2]
  have hl := h.1
  simp [tabV, hl]
theorem TabAt.set0 {w : World} {b : Nat} {d m : Int} {rows : List (BitVec 32)} {c : Int} (h : TabAt w b d m rows c) (d' : Int) : TabAt (w.setCell ⟨b, 0, none⟩ (.int .u32 d')) b d' m rows c := ⟨h.1, by rw [stored h.2]; simp [tabV]⟩
theorem TabAt.set1 {w : World} {b : Nat} {d m : Int} {rows : List (BitVec 32)} {c : Int} (h : TabAt w b d m rows c) (m' : Int) : TabAt (w.setCell ⟨b, 1, none⟩ (.int .i32 m')) b d m' rows c := ⟨h.1, by rw [stored h.2]; simp [tabV]⟩
theorem TabAt.setC {w : World} {b : Nat} {d m : Int} {rows : List (BitVec 32)} {c : Int} (h : TabAt w b d m rows c) (c' : Int) : TabAt (w.setCell ⟨b, 259, none⟩ (.int .i64 c')) b d m rows c' :=
  ⟨h.1, by
    have hl := h.1
    rw [stored h.2]
    simp only [tabV, List.setIfInBounds_toArray]
    rw [List.set_cons_succ, List.set_cons_succ, List.set_cons_succ, List.set_append_right _ _ (by simp [hl])]
    simp [hl]⟩
theorem TabAt.setR {w : World} {b : Nat} {d m : Int} {rows : List (BitVec 32)} {c : Int} (h : TabAt w b d m rows c) (k : Nat) (hk : k < 256) (x : BitVec 32) : TabAt (w.setCell ⟨b, 3 + k, none⟩ (u32V x)) b d m (rows.set k x) c :=
  ⟨by rw [List.length_set]; exact h.1, by
    have hl := h.1
    rw [stored h.2, Nat.add_comm 3 k]
    simp only [tabV, List.setIfInBounds_toArray]
    rw [List.set_cons_succ, List.set_cons_succ, List.set_cons_succ, List.set_append_left _ _ (by simp [hl, hk])]
    simp⟩
theorem TabAt.upd {w w' : World} {b : Nat} {d m : Int} {rows : List (BitVec 32)} {c : Int} {F : Nat → Prop} (h : TabAt w b d m rows c) (hu : Upd F w w') (hf : ¬ F b) : TabAt w' b d m rows c := ⟨h.1, hu.heap h.2 hf⟩

/-- What fill has laid so far. -/
def FillR (w0 : World) (b : Nat) (d m c : Int) (k : Nat) (wr : World) : Prop := Upd (fun j => j = b) w0 wr ∧ ∃ rows, TabAt wr b d m rows c ∧ ∀ j, j < k → rows[j]? = some (steps 8 (BitVec.ofNat 32 j))

set_option maxHeartbeats 2000000 in
theorem fill_ok (b : Nat) (d m : Int) (rows : List (BitVec 32)) (c : Int) (w : World) (h : TabAt w b d m rows c) :
    Calls Try.prog 52 #[.pointer (some ⟨b, 0, none⟩)] w fun e w' => e = .returned (.tuple #[]) ∧ Upd (fun j => j = b) w w' ∧ TabAt w' b d m fullRows c := by
  have hR0 : FillR w b d m c 0 w := ⟨Upd.refl _ _, rows, h, fun j hj => by omega⟩
  clear h
  go_enter Try.func52, Try.ntmps52
  go_wp2_with fail
  go_loopw [3] (fun v wr => ∃ k : Nat, k ≤ 256 ∧ v = .int .i64 k ∧ FillR w b d m c k wr) (fun v _ => 256 - (intOf v).toNat)
  case atStart => exact ⟨0, by omega, rfl, hR0⟩
  case round =>
    clear hR0
    obtain ⟨k, hk, rfl, hU, rows, hT, hr⟩ := hrel
    by_cases h8 : k < 256
    · have h8' : (k : Int) < 256 := by omega
      obtain ⟨y, hy⟩ : ∃ y, BitVec.ofNat 32 k = y := ⟨_, rfl⟩
      have hyk : ((k : Int) % 4294967296) = (y.toNat : Int) := by rw [← hy, BitVec.toNat_ofNat]; omega
      have hyk2 : IntKind.u32.wrap (k : Int) = (y.toNat : Int) := by rw [IntKind.wrap_u32]; exact hyk
      have hfz := unfrozen hT.2
      obtain ⟨x, hx⟩ : ∃ x, rows[k]'(by rw [hT.1]; exact h8) = x := ⟨_, rfl⟩
      have hcell := hT.cellR k h8
      rw [hx] at hcell
      have Hst : Hid (FillR w b d m c (k + 1) (wr.drew.setCell ⟨b, 3 + k, none⟩ (u32V (steps 8 y)))) := by
        have hTd : TabAt wr.drew b d m rows c := hT
        refine ⟨hU.drew.setCell _ (.inl rfl), _, hTd.setR k h8 (steps 8 y), fun j hj => ?_⟩
        by_cases e : j = k
        · subst e; rw [List.getElem?_set_self (by rw [hT.1]; exact h8), hy]
        · rw [List.getElem?_set_ne (fun h => e h.symm)]; exact hr j (by omega)
      clear hU hr hy hx hT
      go_wp2_with fail
      have HS : True := trivial
      refine wp_region_plan (fun _ => True) 8 [(0, true), (1, true), (2, true), (5, true), (6, true), (3, false), (4, false), (7, true), (8, false)] (by kernel_rfl) (by kernel_rfl) (fun d _ _ _ _ h => by cases d <;> exact h) HS ?_
      iterate 5 (apply plan_held rfl rfl rfl (by simp) HS; (intro w' hS K hK; go_simp; exact hK))
      refine plan_op rfl rfl (fun K hK => ?_)
      go_simp
      refine hK _ _ (fun _ => trivial) ?_
      try (simp only [Act.put, List.setIfInBounds_toArray, List.set_cons_zero, List.set_cons_succ])
      refine plan_op rfl rfl (fun K hK => ?_)
      go_simp
      refine (step_ok y _).mono ?_
      rintro e w' ⟨rfl, rfl⟩
      dsimp only
      refine hK _ _ (fun _ => trivial) ?_
      try (simp only [Act.put, List.setIfInBounds_toArray, List.set_cons_zero, List.set_cons_succ])
      (apply plan_held rfl rfl rfl (by simp) HS; (intro w' hS K hK; go_simp; exact hK))
      refine plan_op rfl rfl (fun K hK => ?_)
      go_simp
      refine hK _ _ (fun h => absurd rfl h) ?_
      refine plan_nil ?_
      go_wp2_with fail
      exact ⟨⟨k + 1, by omega, by go_num, Hst.out⟩, by simp [intOf]; omega⟩
    · obtain rfl : k = 256 := by omega
      have hre : rows = fullRows := by
        apply List.ext_getElem?
        intro j
        by_cases hj : j < 256
        · rw [hr j hj]; simp [fullRows, hj]
        · rw [List.getElem?_eq_none (by rw [hT.1]; omega), List.getElem?_eq_none (by rw [fullRows_length]; omega)]
      subst hre
      have HT := Lib.hid (And.intro hU hT)
      clear hU hT hr
      go_wp2_with fail
      go_end0
      exact ⟨rfl, HT.out⟩
end Go.Proofs.Ytlcbgcbocikkkaa
