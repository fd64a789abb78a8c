/- WholeGuard: the document's examples; how much a header makes. -/
import Derived.Test.YtbhmeagliebfdaaDoorGc9
import Derived.Test.YtbhmeagliebfdaaDoorGp2
namespace Go.Proofs.YtbhmeagliebfdaaDoor
open Go Go.RowKit
set_option linter.unusedSimpArgs false
set_option linter.unusedVariables false
set_option maxRecDepth 100000
theorem between_len {e : UInt8} {bad : By} {low : Nat} {s t r : By} (h : betweenP e bad low s = some (t, r)) : t.length ≤ s.length := by
  unfold betweenP at h
  split at h
  · cases h
  · split at h
    · cases h
    · split at h
      · cases h
      · split at h
        · cases h
          rw [List.length_take]; omega
        · cases h
theorem list_count : ∀ (f : Nat) (s : By) (out cs : List Cnd) (r : By), listP f s out = some (cs, r) → cs.length + r.length < s.length + out.length
  | 0, _, _, _, _, h => by cases h
  | f + 1, s, out, cs, r, h => by
    rw [listP] at h
    split at h
    · rename_i he
      have := eat_lt he
      split at h
      · cases h
      · cases h
        simp only [List.length_cons, List.length_nil] at this
        omega
    · have h1 := eatP_le [41] s
      split at h
      · cases h
      · rename_i c r' hc
        have h2 := condi_lt hc
        have h3 := list_count f _ _ _ _ h
        simp only [List.length_append, List.length_cons, List.length_nil] at h3
        omega
def nCs (gs : List Grp) : Nat := (gs.map fun g => g.conds.length).sum
theorem nCs_add (gs : List Grp) (g : Grp) : nCs (gs ++ [g]) = nCs gs + g.conds.length := by simp [nCs]
theorem parse_bound (N : Nat) : ∀ (f : Nat) (s : By) (out : List Grp) (tag : By) (tagged fresh : Bool) (gs : List Grp), parseP f s out tag tagged fresh = some gs → s.length ≤ N → tag.length ≤ N → (∀ g ∈ out, g.tag.length ≤ N) →
    (∀ g ∈ gs, g.tag.length ≤ N) ∧ nCs gs ≤ nCs out + s.length
  | 0, _, _, _, _, _, _, h, _, _, _ => by cases h
  | f + 1, s, out, tag, tagged, fresh, gs, h, hs, ht, ho => by
    rw [parseP] at h
    split at h
    · split at h
      · cases h
      · cases h
        exact ⟨ho, Nat.le_add_right _ _⟩
    · split at h
      · have h1 := eatP_le [40] s
        split at h
        · cases h
        · rename_i cs r hl
          have h2 := list_count _ _ _ _ _ hl
          have h3 := whiteP_le r
          simp only [List.length_nil] at h2
          obtain ⟨k1, k2⟩ := parse_bound N f _ _ _ _ _ _ h (by omega) ht (fun g hg => by
            rcases List.mem_append.1 hg with hg | hg
            · exact ho g hg
            · rw [List.mem_singleton] at hg
              subst hg
              exact ht)
          rw [nCs_add] at k2
          exact ⟨k1, by simp only at k2; omega⟩
      · split at h
        · have h1 := eatP_le [40] s
          have h2 := eatP_le [60] (eatP [40] s).2
          split at h
          · cases h
          · rename_i t r hb
            have h3 := between_len hb
            have h4 := between_lt hb
            have h5 := whiteP_le r
            obtain ⟨k1, k2⟩ := parse_bound N f _ _ _ _ _ _ h (by omega) (by omega) ho
            exact ⟨k1, by omega⟩
        · cases h
theorem cond_bound {h : By} {gs : List Grp} (hc : condP h = some gs) : (∀ g ∈ gs, g.tag.length ≤ h.length) ∧ nCs gs ≤ h.length := by
  have h1 := whiteP_le h
  obtain ⟨k1, k2⟩ := parse_bound h.length _ _ _ _ _ _ _ hc h1 (by simp) (by simp)
  exact ⟨k1, by simp only [nCs, List.map_nil, List.sum_nil] at k2 ⊢; omega⟩
theorem nConds_eq (rs : List GrR) : nConds rs = nCs (rs.map (·.g)) := by
  unfold nConds nCs
  rw [List.map_map]; rfl
/-! The document's example. -/
def exH : By := [60, 47, 97, 62, 32, 40, 60, 116, 49, 62, 41]
def exL : Lk := ⟨[116, 49], [[97]], true, true, [], 10⟩
theorem exL_good : goodP exL = true := by decide
theorem exT : textP [[97]] = [47, 97] := by decide
theorem ex_cond : condP exH = some [grpOf exL] := by
  have : grpOf exL = ⟨true, [47, 97], [⟨false, [116, 49], []⟩]⟩ := by rw [grpOf]; show (⟨true, textP [[97]], _⟩ : Grp) = _; rw [exT]; rfl
  rw [this]
  rfl
theorem ex_free : freeP [exL] [[97], [98]] [] = false := by decide
theorem ex_subm : submP [grpOf exL] [] [⟨[[97]], [], [[116, 49]]⟩] = [[116, 49]] := by
  have hu : uriP (textP [[97]]) = some [[97]] := uri_text [[97]] (by decide)
  have ho : ofP (grpOf exL) [] [⟨[[97]], [], [[116, 49]]⟩] = ⟨[[97]], [], [[116, 49]]⟩ := by
    unfold ofP
    rw [if_pos (by rfl)]
    change (match uriP (textP [[97]]) with | none => (⟨[], [], []⟩ : Fct) | some p => findF [⟨[[97]], [], [[116, 49]]⟩] p) = _
    rw [hu]
    rfl
  unfold submP
  rw [List.foldl_cons, List.foldl_nil]
  unfold addG
  rw [ho]
  rfl
theorem ex_free2 : freeP [exL] [[97], [98]] [[116, 49]] = true := by decide
set_option maxHeartbeats 2000000 in
theorem frees_ok {w : World} (hG : Glob w) (hw : 3 ≤ w.heap.size) : Calls Tryd.prog 4 #[] w fun e w' => e = .returned (.bool true) ∧ Upd (fun _ => False) w w' := by
  have hal : Upd (fun _ => False) w ((w.alloc (.cells #[.string ⟨#[97]⟩] 9)).alloc (.cells #[.string ⟨#[116, 49]⟩, .slice (some ⟨w.heap.size, 0, none⟩) 1 1, .bool true, .bool true, .string ⟨#[]⟩, .int .i64 10] 28)) := ((Upd.refl _ w).alloc _).alloc _
  have hc1 : CellsA ((w.alloc (.cells #[.string ⟨#[97]⟩] 9)).alloc (.cells #[.string ⟨#[116, 49]⟩, .slice (some ⟨w.heap.size, 0, none⟩) 1 1, .bool true, .bool true, .string ⟨#[]⟩, .int .i64 10] 28)) w.heap.size 9 [.string ⟨#[97]⟩] := alloc_heap (CellsA.new w 9 [.string ⟨#[97]⟩]) _
  have hc2 : CellsA ((w.alloc (.cells #[.string ⟨#[97]⟩] 9)).alloc (.cells #[.string ⟨#[116, 49]⟩, .slice (some ⟨w.heap.size, 0, none⟩) 1 1, .bool true, .bool true, .string ⟨#[]⟩, .int .i64 10] 28)) (w.heap.size + 1) 28 [.string ⟨#[116, 49]⟩, .slice (some ⟨w.heap.size, 0, none⟩) 1 1, .bool true, .bool true, .string ⟨#[]⟩, .int .i64 10] := by
    have := CellsA.new (w.alloc (.cells #[.string ⟨#[97]⟩] 9)) 28 [.string ⟨#[116, 49]⟩, .slice (some ⟨w.heap.size, 0, none⟩) 1 1, .bool true, .bool true, .string ⟨#[]⟩, .int .i64 10]
    simpa using this
  have hL : LocksAt ((w.alloc (.cells #[.string ⟨#[97]⟩] 9)).alloc (.cells #[.string ⟨#[116, 49]⟩, .slice (some ⟨w.heap.size, 0, none⟩) 1 1, .bool true, .bool true, .string ⟨#[]⟩, .int .i64 10] 28)) (some ⟨w.heap.size + 1, 0, none⟩) 1 1 [⟨exL, some ⟨w.heap.size, 0, none⟩, 1⟩] := by
    refine ⟨Sees.at rfl (by decide) (rangeAt_of_row hc2 rfl), ?_⟩
    intro r hr
    rw [List.mem_singleton] at hr
    subst hr
    exact Sees.at rfl (show 1 ≤ maxLen by decide) (rangeAt_of_row hc1 rfl)
  have hpc := parse_cond exH (by decide) (hG.upd hal) (by simp; omega)
  have H := Lib.hid (And.intro hpc (And.intro hal (And.intro hL hG)))
  clear hpc hal hL hG hw hc1 hc2
  go_enter Tryd.func4, Tryd.ntmps4
  go_wp2_with fail
  refine H.out.1.mono ?_
  rintro en w2 ⟨x, n, c, rs, e, rfl, hu2, hcase⟩
  dsimp only
  rcases hcase with ⟨rfl, hc, hgr⟩ | ⟨-, hc⟩
  · rw [ex_cond] at hc
    have hc := Option.some.inj hc
    have hn := hgr.len
    have hl1 : rs.length = 1 := by
      have := congrArg List.length hc
      simpa using this.symm
    rw [hl1] at hn
    subst hn
    have hnc : nConds rs ≤ 1000000000 := by rw [nConds_eq, ← hc]; decide
    have htg : ∀ r ∈ rs, r.g.tag.length ≤ 100000000 := fun r hr => by
      have : r.g ∈ rs.map (·.g) := List.mem_map.2 ⟨r, hr, rfl⟩
      rw [← hc, List.mem_singleton] at this
      rw [this]
      show (textP [[97]]).length ≤ _
      rw [exT]; decide
    have hp2 : ∀ (u : World) (b : Nat), CellsA u b 9 [.string ⟨#[97]⟩, .string ⟨#[98]⟩] → Sees u 1 (.slice (some ⟨b, 0, none⟩) 2 2) 2 (strsV [[97], [98]]) := fun u b h => Sees.at rfl (by decide) (rangeAt_of_row h rfl)
    have hf1 := free_ok (toks := []) (w := w2.alloc (.cells #[.string ⟨#[97]⟩, .string ⟨#[98]⟩] 9)) (H.out.2.2.1.upd (hu2.alloc _)) (hp2 _ _ (CellsA.new w2 9 [.string ⟨#[97]⟩, .string ⟨#[98]⟩])) (Sees.zero _ _ none 0)
    rw [show freeP (List.map (fun r => r.l) [(⟨exL, some ⟨w.heap.size, 0, none⟩, 1⟩ : LkR)]) [[97], [98]] [] = false from ex_free] at hf1
    have H2 := Lib.hid (And.intro hf1 (And.intro hu2 (And.intro hgr (And.intro hnc (And.intro htg (And.intro hc hp2))))))
    clear hf1 hu2 hgr hnc htg hc hl1 hp2
    go_wp2_with fail
    refine H2.out.1.mono ?_
    rintro en w3 ⟨rfl, hu3⟩
    dsimp only
    go_wp2_with fail
    have a1 := CellsA.new w3 9 [.string ⟨#[97]⟩, .string ⟨#[98]⟩]
    have a2 := CellsA.new (w3.alloc (.cells #[.string ⟨#[97]⟩, .string ⟨#[98]⟩] 9)) 9 [.string ⟨#[97]⟩]
    have a3 := CellsA.new ((w3.alloc (.cells #[.string ⟨#[97]⟩, .string ⟨#[98]⟩] 9)).alloc (.cells #[.string ⟨#[97]⟩] 9)) 9 [.string ⟨#[116, 49]⟩]
    have a4 := CellsA.new (((w3.alloc (.cells #[.string ⟨#[97]⟩, .string ⟨#[98]⟩] 9)).alloc (.cells #[.string ⟨#[97]⟩] 9)).alloc (.cells #[.string ⟨#[116, 49]⟩] 9)) 31 [.slice (some ⟨w3.heap.size + 1, 0, none⟩) 1 1, .string ⟨#[]⟩, .slice (some ⟨w3.heap.size + 1 + 1, 0, none⟩) 1 1]
    have b1 : (w3.alloc (.cells #[.string ⟨#[97]⟩, .string ⟨#[98]⟩] 9)).heap.size = w3.heap.size + 1 := by simp
    have b2 : ((w3.alloc (.cells #[.string ⟨#[97]⟩, .string ⟨#[98]⟩] 9)).alloc (.cells #[.string ⟨#[97]⟩] 9)).heap.size = w3.heap.size + 1 + 1 := by simp
    have b3 : (((w3.alloc (.cells #[.string ⟨#[97]⟩, .string ⟨#[98]⟩] 9)).alloc (.cells #[.string ⟨#[97]⟩] 9)).alloc (.cells #[.string ⟨#[116, 49]⟩] 9)).heap.size = w3.heap.size + 1 + 1 + 1 := by simp
    rw [b1] at a2
    rw [b2] at a3
    rw [b3] at a4
    have a1 := alloc_heap (alloc_heap (alloc_heap a1 (.cells #[.string ⟨#[97]⟩] 9)) (.cells #[.string ⟨#[116, 49]⟩] 9)) (.cells #[.slice (some ⟨w3.heap.size + 1, 0, none⟩) 1 1, .string ⟨#[]⟩, .slice (some ⟨w3.heap.size + 1 + 1, 0, none⟩) 1 1] 31)
    have a2 := alloc_heap (alloc_heap a2 (.cells #[.string ⟨#[116, 49]⟩] 9)) (.cells #[.slice (some ⟨w3.heap.size + 1, 0, none⟩) 1 1, .string ⟨#[]⟩, .slice (some ⟨w3.heap.size + 1 + 1, 0, none⟩) 1 1] 31)
    have a3 := alloc_heap a3 (.cells #[.slice (some ⟨w3.heap.size + 1, 0, none⟩) 1 1, .string ⟨#[]⟩, .slice (some ⟨w3.heap.size + 1 + 1, 0, none⟩) 1 1] 31)
    have hu4 : Upd (fun _ => False) w3 ((((w3.alloc (.cells #[.string ⟨#[97]⟩, .string ⟨#[98]⟩] 9)).alloc (.cells #[.string ⟨#[97]⟩] 9)).alloc (.cells #[.string ⟨#[116, 49]⟩] 9)).alloc (.cells #[.slice (some ⟨w3.heap.size + 1, 0, none⟩) 1 1, .string ⟨#[]⟩, .slice (some ⟨w3.heap.size + 1 + 1, 0, none⟩) 1 1] 31)) := ((((Upd.refl _ w3).alloc _).alloc _).alloc _).alloc _
    obtain ⟨w4, hw4⟩ : ∃ w4, ((((w3.alloc (.cells #[.string ⟨#[97]⟩, .string ⟨#[98]⟩] 9)).alloc (.cells #[.string ⟨#[97]⟩] 9)).alloc (.cells #[.string ⟨#[116, 49]⟩] 9)).alloc (.cells #[.slice (some ⟨w3.heap.size + 1, 0, none⟩) 1 1, .string ⟨#[]⟩, .slice (some ⟨w3.heap.size + 1 + 1, 0, none⟩) 1 1] 31)) = w4 := ⟨_, rfl⟩
    rw [hw4] at a1 a2 a3 a4 hu4 ⊢
    clear b1 b2 b3 hw4
    have hu34 : Upd (fun _ => False) w2 w4 := ((Upd.refl _ w2).alloc (.cells #[.string ⟨#[97]⟩, .string ⟨#[98]⟩] 9)).trans (hu3.trans hu4)
    have hin : HIn w4 [] [⟨⟨[[97]], [], [[116, 49]]⟩, some ⟨w3.heap.size + 1, 0, none⟩, 1, some ⟨w3.heap.size + 1 + 1, 0, none⟩, 1⟩] none 0 0 (some ⟨w3.heap.size + 1 + 1 + 1, 0, none⟩) 1 1 := by
      refine ⟨Sees.zero _ _ _ _, ⟨Sees.at rfl (by decide) (rangeAt_of_row a4 rfl), ?_⟩, ?_, ?_⟩
      · intro r hr
        rw [List.mem_singleton] at hr
        subst hr
        exact ⟨Sees.at rfl (show 1 ≤ maxLen by decide) (rangeAt_of_row a2 rfl), Sees.at rfl (show 1 ≤ maxLen by decide) (rangeAt_of_row a3 rfl)⟩
      · intro f hf
        rw [List.map_cons, List.map_nil, List.mem_singleton] at hf
        subst hf
        rfl
      · exact ((H.out.2.2.2.upd H.out.2.1).upd H2.out.2.1).upd hu34
    have hsb := subm_ok (H2.out.2.2.1.upd hu34) H2.out.2.2.2.2.1 H2.out.2.2.2.1 hin
    have hp4 := H2.out.2.2.2.2.2.2 w4 _ a1
    have H3 := Lib.hid (And.intro hsb (And.intro hu34 hp4))
    clear hsb hu34 hp4 hin a1 a2 a3 a4 hu3 hu4
    refine H3.out.1.mono ?_
    rintro en w5 ⟨ox, on, oc, rfl, hse, hu5⟩
    dsimp only
    rw [← H2.out.2.2.2.2.2.1, List.map_cons, List.map_nil, ex_subm] at hse
    have hf2 := free_ok (w := w5) (H.out.2.2.1.upd (H2.out.2.1.trans (H3.out.2.1.trans hu5))) (Sees.upd hu5 H3.out.2.2 (fun _ _ _ h => h)) hse
    rw [show freeP (List.map (fun r => r.l) [(⟨exL, some ⟨w.heap.size, 0, none⟩, 1⟩ : LkR)]) [[97], [98]] [[116, 49]] = true from ex_free2] at hf2
    have H4 := Lib.hid (And.intro hf2 (H.out.2.1.trans (H2.out.2.1.trans (H3.out.2.1.trans hu5))))
    clear hf2 hse hu5 H2 H3
    go_wp2_with fail
    refine H4.out.1.mono ?_
    rintro en w6 ⟨rfl, hu6⟩
    dsimp only
    go_wp2_with fail
    go_ret
    exact ⟨rfl, H4.out.2.trans hu6⟩
  · rw [ex_cond] at hc
    cases hc
end Go.Proofs.YtbhmeagliebfdaaDoor
