/- Strings in memory; the library's contracts in the words of plain texts. -/
import Derived.Test.YtbhmeagliebfdaaDoorShG
import Derived.Test.YtbhmeagliebfdaaDoorGp1
import Derived.Lib.Builder
import Derived.Lib.UnsafeStr
import Derived.Lib.Hide
namespace Go.Proofs.YtbhmeagliebfdaaDoor
open Go Go.RowKit
set_option linter.unusedSimpArgs false
set_option linter.unusedVariables false
set_option maxRecDepth 100000

def CellsA (w : World) (b : Nat) (t : TypeId) (l : List Value) : Prop := w.heap[b]? = some (.cells l.toArray t (0, 0))
theorem CellsA.cell {w : World} {b : Nat} {t : TypeId} {l : List Value} (h : CellsA w b t l) (i : Nat) : w.cell? ⟨b, i, none⟩ = l[i]? := by
  rw [cell_of_row _ _ _ _ _ _ h]
  simp
theorem CellsA.lt {w : World} {b : Nat} {t : TypeId} {l : List Value} (h : CellsA w b t l) : b < w.heap.size := lt_of_block h
theorem CellsA.frozen {w : World} {b : Nat} {t : TypeId} {l : List Value} (h : CellsA w b t l) (i : Nat) : w.frozen? ⟨b, i, none⟩ = false := unfrozen h i
theorem CellsA.upd {w w' : World} {b : Nat} {t : TypeId} {l : List Value} {F : Nat → Prop} (h : CellsA w b t l) (hu : Upd F w w') (hf : ¬ F b) : CellsA w' b t l := hu.heap h hf
theorem CellsA.set {w : World} {b : Nat} {t : TypeId} {l : List Value} (h : CellsA w b t l) (i : Nat) (v : Value) : CellsA (w.setCell ⟨b, i, none⟩ v) b t (l.set i v) := by
  rw [CellsA, stored h, List.setIfInBounds_toArray]
theorem CellsA.new (w : World) (t : TypeId) (l : List Value) : CellsA (w.alloc (.cells l.toArray t)) w.heap.size t l := heap_alloc_new w _
theorem CellsA.range {w : World} {b : Nat} {t : TypeId} {l : List Value} (h : CellsA w b t l) : w.rangeAt b 0 l := rangeAt_of_row h (by simp)
/-- Texts as cells. -/
def strsV (l : List By) : List Value := l.map fun t => Value.string (bs t)
theorem strsV_length (l : List By) : (strsV l).length = l.length := by simp [strsV]
theorem strsV_at (l : List By) (k : Nat) (hk : k < l.length) : (strsV l)[k]? = some (.string (bs l[k])) := by
  rw [strsV, List.getElem?_map, List.getElem?_eq_getElem hk]; rfl
theorem strsV_append (a b : List By) : strsV (a ++ b) = strsV a ++ strsV b := by simp [strsV]
theorem strsV_one (l : List By) : ∀ u ∈ strsV l, u.oneCell' = true := fun u hu => by
  obtain ⟨t, _, rfl⟩ := List.mem_map.1 hu
  rfl
theorem sees_one {w : World} {n c : Nat} {xo : Option Addr} {xs : List Value} (h : Sees w 1 (.slice xo n c) n xs) (k : Nat) (hk : k < n) {v : Value} (hv : xs[k]? = some v) :
    ∃ g o, xo = some ⟨g, o, none⟩ ∧ w.cell? ⟨g, o + k, none⟩ = some v := by
  obtain ⟨_, _, x, c, hx, hc⟩ := h
  cases hx
  obtain ⟨b, o, rfl, hr⟩ := hc (by omega)
  exact ⟨b, o, rfl, hr k v hv⟩
/-- The library's variables. -/
def Glob (w : World) : Prop := Lib.Utf8Tabs 0 1 w ∧ ∃ m, w.cell? ⟨2, 0, none⟩ = some (.int .i64 m)
theorem Glob.upd {w w' : World} (h : Glob w) (hu : Upd (fun _ => False) w w') : Glob w' := by
  obtain ⟨h1, m, h2⟩ := h
  exact ⟨Utf8Tabs_below h1 hu.below0, m, hu.cell_some h2 (fun h => h)⟩
theorem drewN_upd (w : World) : ∀ q, Upd (fun _ => False) w (w.drewN q)
  | 0 => Upd.refl _ w
  | q + 1 => (drewN_upd w q).drew
theorem contains_map (l : List By) (t : By) : Lib.containsS (l.map bs) (bs t) = decide (t ∈ l) := by
  rw [Bool.eq_iff_iff, Lib.containsS_iff, decide_eq_true_eq, List.mem_map]
  constructor
  · rintro ⟨a, ha, e⟩
    rw [← bs_inj e]; exact ha
  · intro h; exact ⟨t, h, rfl⟩
theorem has_ok {w : World} {x : Option Addr} {n c : Nat} {l : List By} (h : Sees w 1 (.slice x n c) n (strsV l)) (t : By) :
    Calls Tryd.prog 26 #[.slice x n c, .string (bs t)] w fun e w' => e = .returned (.bool (decide (t ∈ l))) ∧ w' = w := by
  have hl : l.length = n := by have := h.1; rw [strsV_length] at this; omega
  rcases Nat.eq_zero_or_pos n with h0 | h0
  · subst h0
    have : l = [] := List.eq_nil_of_length_eq_zero hl
    subst this
    exact (Sh.slices_Contains_string_empty x c (bs t) w).mono fun e w' he => by simpa using he
  · obtain ⟨g, o, rfl, _⟩ := sees_one h 0 h0 (strsV_at l 0 (by omega))
    have hb := h.2.1
    have hc := Sh.slices_Contains_string g o n c (l.map bs) (bs t) w (by rw [List.length_map]; omega) (by unfold maxLen at hb; omega) (fun j hj => by
      rw [List.length_map] at hj
      obtain ⟨g', o', e, hc⟩ := sees_one h j (by omega) (strsV_at l j hj)
      cases e
      rw [hc]
      simp [List.getD, hj])
    rw [List.take_of_length_le (by rw [List.length_map]; omega), contains_map] at hc
    exact hc
theorem equal_ok {w : World} {x y : Option Addr} {n c m d : Nat} {a b : List By} (ha : Sees w 1 (.slice x n c) n (strsV a)) (hb : Sees w 1 (.slice y m d) m (strsV b)) :
    Calls Tryd.prog 37 #[.slice x n c, .slice y m d] w fun e w' => e = .returned (.bool (decide (a = b))) ∧ Upd (fun _ => False) w w' := by
  have hla : a.length = n := by have := ha.1; rw [strsV_length] at this; omega
  have hlb : b.length = m := by have := hb.1; rw [strsV_length] at this; omega
  have hna := ha.2.1
  have hnb := hb.2.1
  by_cases hnm : n = m
  · subst hnm
    rcases Nat.eq_zero_or_pos n with h0 | h0
    · subst h0
      have e1 : a = [] := List.eq_nil_of_length_eq_zero hla
      have e2 : b = [] := List.eq_nil_of_length_eq_zero hlb
      subst e1 e2
      refine (Sh.slices_Equal_string_empty x y c 0 d w (by omega)).mono ?_
      rintro e w' ⟨rfl, rfl⟩
      exact ⟨rfl, Upd.refl _ _⟩
    · obtain ⟨g, o, rfl, _⟩ := sees_one ha 0 h0 (strsV_at a 0 (by omega))
      obtain ⟨g2, o2, rfl, _⟩ := sees_one hb 0 h0 (strsV_at b 0 (by omega))
      have hc := Sh.slices_Equal_string g o n c g2 o2 n d (a.map bs) (b.map bs) w (by rw [List.length_map]; omega) (by rw [List.length_map]; omega) (by unfold maxLen at hna; omega) (by unfold maxLen at hna; omega) (fun j hj => by
        rw [List.length_map] at hj
        obtain ⟨g', o', e, hc⟩ := sees_one ha j (by omega) (strsV_at a j hj)
        cases e
        rw [hc]
        simp [List.getD, hj]) (fun j hj => by
        rw [List.length_map] at hj
        obtain ⟨g', o', e, hc⟩ := sees_one hb j (by omega) (strsV_at b j hj)
        cases e
        rw [hc]
        simp [List.getD, hj])
      rw [List.take_of_length_le (by rw [List.length_map]; omega), List.take_of_length_le (by rw [List.length_map]; omega)] at hc
      refine hc.mono ?_
      rintro e w' ⟨rfl, q, rfl⟩
      refine ⟨?_, drewN_upd w q⟩
      have : (a.map bs = b.map bs) ↔ a = b := ⟨fun h => (List.map_inj_right (fun _ _ e => bs_inj e)).1 h, fun h => by rw [h]⟩
      simp only [this]
  · refine (Sh.slices_Equal_string_lens x y n c m d w hnm).mono ?_
    rintro e w' ⟨rfl, rfl⟩
    refine ⟨?_, Upd.refl _ _⟩
    have : a ≠ b := fun e => hnm (by rw [← hla, ← hlb, e])
    simp [this]
theorem cutPrefix_ok (s p : By) (w : World) : Calls Tryd.prog 31 #[.string (bs s), .string (bs p)] w fun e w' => e = .returned (.tuple #[.string (bs (Lib.trimPrefix s p)), .bool (Lib.hasPrefix s p)]) ∧ w' = w := by
  have h := Sh.strings_CutPrefix (bs s) (bs p) w
  rw [bs_data, bs_data] at h
  exact h
theorem hasPrefix_ok (s p : By) (w : World) : Calls Tryd.prog 51 #[.string (bs s), .string (bs p)] w fun e w' => e = .returned (.bool (Lib.hasPrefix s p)) ∧ w' = w := by
  have h := Sh.strings_HasPrefix (bs s) (bs p) w
  rw [bs_data, bs_data] at h
  exact h
theorem infoSet : (Tryd.prog.info? 90).map (fun i => (i.zero, i.size)) = some (some (.agg (Array.replicate 256 (.bool false))), 256) := by kernel_rfl
theorem white_ok' (s : By) (w : World) : Calls Tryd.prog 30 #[.string (bs s), .string (bs [32, 9])] w fun e w' => e = .returned (.string (bs (whiteP s))) ∧ Upd (fun _ => False) w w' := by
  have h := Any.strings_TrimLeft_laid Sh.lays161 infoSet (bs s) (bs [32, 9]) w (by rw [bs_size]; decide) (fun j b hb => by
    rw [bs_data] at hb
    match j, hb with
    | 0, hb => cases hb; decide
    | 1, hb => cases hb; decide
    | j + 2, hb => simp at hb)
  rw [bs_data, bs_data] at h
  exact h.mono fun e w' ⟨h1, h2⟩ => ⟨h1, Upd.of_below h2 _⟩
theorem valid_ok {w : World} (s : By) (hs : s.length ≤ 9223372036854775807) (hG : Glob w) : Calls Tryd.prog 39 #[.string (bs s)] w fun e w' => e = .returned (.bool (Lib.validD s)) ∧ Upd (fun _ => False) w w' := by
  have h := Any.utf8_ValidString Sh.laysValid (bs s) w (by rw [bs_size]; exact hs) hG.1
  rw [bs_data] at h
  exact h.mono fun e w' ⟨h1, h2⟩ => ⟨h1, Upd.of_below h2 _⟩
theorem indexByte_ok (s : By) (c : UInt8) (w : World) : Calls Tryd.prog 29 #[.string (bs s), .int .u8 (c.toNat : Nat)] w fun e w' => e = .returned (.int .i64 (Lib.indexByte s c)) ∧ w' = w := by
  have h := Sh.strings_IndexByte (bs s) (c.toNat : Nat) w
  rw [bs_data] at h
  simpa using h
end Go.Proofs.YtbhmeagliebfdaaDoor
