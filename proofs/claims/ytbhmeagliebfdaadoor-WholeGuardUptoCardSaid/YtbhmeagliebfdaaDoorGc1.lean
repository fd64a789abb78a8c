/- cond: the reader's white, eat. -/
import Derived.Test.YtbhmeagliebfdaaDoorGu10
namespace Go.Proofs.YtbhmeagliebfdaaDoor
open Go Go.RowKit
set_option linter.unusedSimpArgs false
set_option linter.unusedVariables false
set_option maxRecDepth 100000
/-- A reader at rb, what is left of its text. -/
def RdAt (w : World) (rb : Nat) (s : By) : Prop := CellsA w rb 62 [.string (bs s)]
theorem RdAt.upd {F : Nat → Prop} {w w' : World} {rb : Nat} {s : By} (h : RdAt w rb s) (hu : Upd F w w') (hf : ¬ F rb) : RdAt w' rb s := CellsA.upd h hu hf
theorem rwhite_ok {w : World} {rb : Nat} {s : By} (h : RdAt w rb s) : Calls Tryd.prog 18 #[.pointer (some ⟨rb, 0, none⟩)] w fun e w' => e = .returned (.tuple #[]) ∧ RdAt w' rb (whiteP s) ∧ Upd (fun q => q = rb) w w' := by
  have c0 := h.cell 0
  have ht := white_ok' s w
  simp only [List.getElem?_cons_zero] at c0
  obtain ⟨S, hS⟩ : ∃ S, bs s = S := ⟨_, rfl⟩
  obtain ⟨T, hT⟩ : ∃ T, bs (whiteP s) = T := ⟨_, rfl⟩
  rw [hS] at c0 ht
  rw [hT] at ht
  have H := Lib.hid (And.intro ht (And.intro h hT))
  clear ht h hS hT
  go_enter Tryd.func18, Tryd.ntmps18
  go_wp2_with fail
  refine H.out.1.mono ?_
  rintro e w1 ⟨rfl, hu⟩
  dsimp only
  have h1 := H.out.2.1.upd hu (fun h => h)
  have d0 := h1.cell 0
  have f0 := h1.frozen 0
  simp only [List.getElem?_cons_zero] at d0
  have HF : Hid (RdAt (w1.setCell ⟨rb, 0, none⟩ (.string T)) rb (whiteP s) ∧ Upd (fun q => q = rb) w (w1.setCell ⟨rb, 0, none⟩ (.string T))) := Lib.hid ⟨by
      have := CellsA.set h1 0 (.string T)
      rw [RdAt, H.out.2.2]; exact this, (hu.mono (fun _ _ h => h.elim)).setCell _ (.inl rfl)⟩
  clear h1 hu H
  go_wp2_with fail
  go_end0
  exact ⟨rfl, HF.out⟩
theorem eat_ok {w : World} {rb : Nat} {s : By} (h : RdAt w rb s) (word : By) : Calls Tryd.prog 19 #[.pointer (some ⟨rb, 0, none⟩), .string (bs word)] w fun e w' => e = .returned (.bool (eatP word s).1) ∧ RdAt w' rb (eatP word s).2 ∧ Upd (fun q => q = rb) w w' := by
  have hw := rwhite_ok h
  have hc := cutPrefix_ok (whiteP s) word
  obtain ⟨S, hS⟩ : ∃ S, bs (whiteP s) = S := ⟨_, rfl⟩
  obtain ⟨W, hW⟩ : ∃ W, bs word = W := ⟨_, rfl⟩
  rw [hS, hW] at hc
  rw [hW]
  unfold eatP
  simp only []
  have hcase : Lib.hasPrefix (whiteP s) word = false → Lib.trimPrefix (whiteP s) word = whiteP s := fun h => by rw [Lib.trimPrefix, h, if_neg (by decide)]
  obtain ⟨R, hR⟩ : ∃ R, Lib.trimPrefix (whiteP s) word = R := ⟨_, rfl⟩
  obtain ⟨B, hB⟩ : ∃ B, Lib.hasPrefix (whiteP s) word = B := ⟨_, rfl⟩
  rw [hR, hB] at hc hcase ⊢
  have H := Lib.hid (And.intro hw (And.intro hc (And.intro hS hcase)))
  clear hw hc hS hW hcase hR hB h
  obtain ⟨T, hT⟩ : ∃ T, bs R = T := ⟨_, rfl⟩
  rw [hT] at H
  have HT := Lib.hid hT
  clear hT
  cases B
  · go_enter Tryd.func19, Tryd.ntmps19
    go_wp2_with fail
    refine H.out.1.mono ?_
    rintro e w1 ⟨rfl, h1, hu⟩
    dsimp only
    have c0 := h1.cell 0
    simp only [List.getElem?_cons_zero] at c0
    rw [H.out.2.2.1] at c0
    have HF := Lib.hid (And.intro h1 hu)
    clear h1 hu
    go_wp2_with fail
    refine (H.out.2.1 w1).mono ?_
    rintro e w2 ⟨rfl, rfl⟩
    dsimp only
    go_wp2_with fail
    go_ret
    exact ⟨rfl, by rw [H.out.2.2.2 (by first | trivial | rfl)]; exact HF.out.1, HF.out.2⟩
  · go_enter Tryd.func19, Tryd.ntmps19
    go_wp2_with fail
    refine H.out.1.mono ?_
    rintro e w1 ⟨rfl, h1, hu⟩
    dsimp only
    have c0 := h1.cell 0
    simp only [List.getElem?_cons_zero] at c0
    rw [H.out.2.2.1] at c0
    have HF := Lib.hid (And.intro h1 hu)
    clear h1 hu
    go_wp2_with fail
    refine (H.out.2.1 w1).mono ?_
    rintro e w2 ⟨rfl, rfl⟩
    dsimp only
    have f0 := CellsA.frozen HF.out.1 0
    have HG : Hid (RdAt (w2.setCell ⟨rb, 0, none⟩ (.string T)) rb R ∧ Upd (fun q => q = rb) w (w2.setCell ⟨rb, 0, none⟩ (.string T))) := Lib.hid ⟨by
      have := CellsA.set HF.out.1 0 (.string T)
      rw [RdAt, HT.out]; exact this, HF.out.2.setCell _ (.inl rfl)⟩
    clear HF H
    go_wp2_with fail
    go_ret
    exact ⟨rfl, HG.out⟩
end Go.Proofs.YtbhmeagliebfdaaDoor
