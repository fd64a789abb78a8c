/- strings.IndexAny, strings.ContainsAny at whatever text. -/
import Derived.Test.YtbhmeagliebfdaaDoorGs2
namespace Go.Proofs.YtbhmeagliebfdaaDoor
open Go Go.RowKit Go.Lib
set_option linter.unusedSimpArgs false
set_option linter.unusedVariables false
set_option maxRecDepth 100000
theorem iterAt_upd (w : World) {k : Nat} (s : ByteArray) (pos : Nat) : Upd (fun q => q = k) w (w.iterAt k s pos) :=
  ⟨rfl, rfl, rfl, by rw [iterAt_size]; exact Nat.le_refl _, fun j hj hq => iterAt_other w k j s pos hq⟩
theorem rune_any (r : Nat) (h1 : 128 ≤ r) (hv : Lib.validRune (r : Int) = true) (w : World) : Calls Tryd.prog 61 #[.string ⟨#[47, 0]⟩, .int .i32 (r : Nat)] w fun e w' => e = .returned (.int .i64 (-1)) ∧ Upd (fun _ => False) w w' := by
  by_cases hne : r = 65533
  · subst hne
    exact rune_bad w
  · exact rune_high r h1 hv (valid_both _ hv) hne w
theorem rune_asc (r : UInt8) (hr : r.toNat < 128) (w : World) : Calls Tryd.prog 61 #[.string ⟨#[47, 0]⟩, .int .i32 (r.toNat : Nat)] w fun e w' => e = .returned (.int .i64 (Lib.indexByte [47, 0] r)) ∧ w' = w := by
  have h := Sh.strings_IndexRune_ascii ⟨#[47, 0]⟩ (r.toNat : Int) w (by omega) (by omega)
  simpa using h
/-- In the middle of the range over s. -/
def AnyR (w : World) (s : ByteArray) (k i : Nat) (wr : World) : Prop :=
  i ≤ s.size ∧ NoSl s i ∧ Upd (fun _ => False) w wr ∧ wr.heap[k]? = some (.stringIter s i) ∧ w.heap.size ≤ k
theorem indexAny_short (l : By) (h8 : l.length ≤ 8) (w : World) :
    Calls Tryd.prog 48 #[.string (bs l), .string ⟨#[47, 0]⟩] w fun e w' => ∃ z : Int, e = .returned (.int .i64 z) ∧ decide (0 ≤ z) = slP l ∧ Upd (fun _ => False) w w' := by
  obtain ⟨s, hs⟩ : ∃ s, bs l = s := ⟨_, rfl⟩
  have hsz := bs_size l
  rw [hs] at hsz ⊢
  have hsa := Sh.strings_shouldUseASCIISet (s.size : Int) w
  have h8z : decide ((8 : Int) < (s.size : Int)) = false := decide_eq_false (by omega)
  rw [h8z] at hsa
  have Hs := Lib.hid (And.intro hs (And.intro hsz hsa))
  have h8I : (s.size : Int) ≤ 8 := by omega
  clear hs hsz hsa h8 h8z
  go_enter Tryd.func48, Tryd.ntmps48
  go_wp2_with fail
  refine Hs.out.2.2.mono ?_
  rintro e w1 ⟨rfl, rfl⟩
  dsimp only
  go_wp2_with fail
  have HR0 : Hid (AnyR w1 s w1.heap.size 0 (w1.iter s 0)) := Lib.hid ⟨Nat.zero_le _, fun j hj => absurd hj (Nat.not_lt_zero _), iter_upd _ _ _, World.iter_heap _ _ _, Nat.le_refl _⟩
  obtain ⟨k, hk⟩ : ∃ k, w1.heap.size = k := ⟨_, rfl⟩
  rw [hk] at HR0 ⊢
  clear hk
  generalize w1.iter s 0 = w2 at HR0 ⊢
  go_loopw [9, 10] (fun _ _ wr => ∃ i : Nat, Hid (AnyR w1 s k i wr)) (fun _ _ wr => s.size - wr.iterPos k)
  case atStart => exact ⟨0, HR0⟩
  case round =>
    obtain ⟨i, HR⟩ := hrel
    clear HR0
    have hpos : wr.iterPos k = i := by simp [World.iterPos, HR.out.2.2.2.1]
    by_cases hi : i < s.size
    · by_cases ha : (s[i]'hi).toNat < 128
      · obtain ⟨x, hx⟩ : ∃ x, s[i]'hi = x := ⟨_, rfl⟩
        have hnx := fun ty => run_next_ascii_at (P := Tryd.prog) wr k s i ty HR.out.2.2.2.1 hi ha
        rw [hx] at hnx ha
        have hra := rune_asc x ha (wr.iterAt k s (i + 1))
        have hgi : s.get! i = x := by rw [← hx]; exact get_at s i hi
        have hk0 := HR.out.2.2.2.2
        have hu3 : Upd (fun _ => False) w1 (wr.iterAt k s (i + 1)) := HR.out.2.2.1.then (iterAt_upd wr s (i + 1)) (fun q hq => .inr (by rw [hq]; exact hk0))
        have hh3 := iterAt_heap wr k s i (i + 1) HR.out.2.2.2.1
        by_cases hf : x = 47 ∨ x = 0
        · obtain ⟨z, hz, hz0⟩ : ∃ z : Int, Lib.indexByte [47, 0] x = z ∧ 0 ≤ z := by
            rcases hf with rfl | rfl
            · exact ⟨0, rfl, by decide⟩
            · exact ⟨1, rfl, by decide⟩
          rw [hz] at hra
          have hsl : slP l = true := by
            have hl : i < l.length := by have := Hs.out.2.1; omega
            have hg := get_list l i hl
            rw [Hs.out.1, hgi] at hg
            exact slP_hit l i hl (by rw [← hg]; exact hf)
          have H3 := Lib.hid (And.intro hra (And.intro hu3 hsl))
          clear hra hu3 hh3 hz hf hgi hx hk0 hpos
          go_wp2_with fail
          refine H3.out.1.mono ?_
          rintro e w4 ⟨rfl, rfl⟩
          dsimp only
          go_wp2_with fail
          go_ret
          exact ⟨_, rfl, by rw [H3.out.2.2]; exact decide_eq_true (by omega), H3.out.2.1⟩
        · have hz : Lib.indexByte [47, 0] x = -1 := by
            simp at hf
            have e1 : ((47 : UInt8) == x) = false := by simp; exact fun e => hf.1 e.symm
            have e2 : ((0 : UInt8) == x) = false := by simp; exact fun e => hf.2 e.symm
            simp [Lib.indexByte, e1, e2]
          rw [hz] at hra
          have hno : NoSl s (i + 1) := HR.out.2.1.next (by rw [hgi]; exact fun e => hf (.inl e)) (by rw [hgi]; exact fun e => hf (.inr e))
          have H3 : Hid ((Calls Tryd.prog 61 #[.string ⟨#[47, 0]⟩, .int .i32 (x.toNat : Nat)] (wr.iterAt k s (i + 1)) fun e w' => e = .returned (.int .i64 (-1)) ∧ w' = wr.iterAt k s (i + 1)) ∧ AnyR w1 s k (i + 1) (wr.iterAt k s (i + 1))) := Lib.hid ⟨hra, by omega, hno, hu3, hh3, hk0⟩
          clear hra hu3 hh3 hz hf hgi hx hk0 hno
          go_wp2_with fail
          refine H3.out.1.mono ?_
          rintro e w4 ⟨rfl, rfl⟩
          dsimp only
          have HA := Lib.hid H3.out.2
          have hp2 : (wr.iterAt k s (i + 1)).iterPos k = i + 1 := by simp [World.iterPos, HA.out.2.2.2.1]
          clear H3
          go_wp2_with fail
          exact ⟨⟨i + 1, HA⟩, by rw [hp2, hpos]; omega⟩
      · have ha' : 128 ≤ (s[i]'hi).toNat := by omega
        have hnx := fun ty => run_next_any_at (P := Tryd.prog) wr k s i ty HR.out.2.2.2.1 hi
        have hdh := decode_high s i hi ha'
        have hdc := decode_cover s i hi ha'
        have hno := HR.out.2.1.step hi ha'
        have hdr := decode_rune s i
        obtain ⟨r, hr⟩ : ∃ r, (Utf8.decode s i).1 = r := ⟨_, rfl⟩
        obtain ⟨q, hq⟩ : ∃ q, (Utf8.decode s i).2 = q := ⟨_, rfl⟩
        rw [hr, hq] at hnx hdh
        rw [hq] at hdc hno
        rw [hr] at hdr
        have hk0 := HR.out.2.2.2.2
        have hu3 : Upd (fun _ => False) w1 (wr.iterAt k s (i + q)) := HR.out.2.2.1.then (iterAt_upd wr s (i + q)) (fun z hz => .inr (by rw [hz]; exact hk0))
        have hh3 := iterAt_heap wr k s i (i + q) HR.out.2.2.2.1
        have H3 := Lib.hid (And.intro (rune_any r hdh.1 hdr (wr.iterAt k s (i + q))) (And.intro hu3 (And.intro hh3 (And.intro hno (And.intro hdc.1 (And.intro hk0 hdh.2))))))
        clear hu3 hh3 hno hdc hk0 hdh hdr hr hq ha ha'
        go_wp2_with fail
        refine H3.out.1.mono ?_
        rintro e w4 ⟨rfl, hu⟩
        dsimp only
        have HA : Hid (AnyR w1 s k (i + q) w4) := Lib.hid ⟨H3.out.2.2.2.2.1, H3.out.2.2.2.1, H3.out.2.1.trans hu, hu.heap H3.out.2.2.1 (fun h => h), H3.out.2.2.2.2.2.1⟩
        have hp2 : w4.iterPos k = i + q := by simp [World.iterPos, HA.out.2.2.2.1]
        have hq1 := H3.out.2.2.2.2.2.2
        clear H3 hu
        go_wp2_with fail
        exact ⟨⟨i + q, HA⟩, by rw [hp2, hpos]; omega⟩
    · have hnx := fun ty => run_next_end_at (P := Tryd.prog) wr k s i ty HR.out.2.2.2.1 hi
      go_wp2_with fail
      go_ret
      refine ⟨_, rfl, ?_, HR.out.2.2.1⟩
      have h1 : i = l.length := by have := HR.out.1; have := Hs.out.2.1; omega
      have h2 : NoSl (bs l) l.length := by rw [Hs.out.1, ← h1]; exact HR.out.2.1
      rw [h2.none]; rfl
theorem indexAny_ok (l : By) (hl : l.length < 4294967281) (w : World) :
    Calls Tryd.prog 48 #[.string (bs l), .string ⟨#[47, 0]⟩] w fun e w' => ∃ z : Int, e = .returned (.int .i64 z) ∧ decide (0 ≤ z) = slP l ∧ Upd (fun _ => False) w w' := by
  by_cases h8 : l.length ≤ 8
  · exact indexAny_short l h8 w
  · have h := Sh.strings_IndexAny_long (zero_of_info infoSet).1 (bs l) (bs [47, 0]) w (by rw [bs_size]; decide) (by rw [bs_size]; omega) (by rw [bs_size]; exact hl) (by rw [bs_size]; decide) (fun j b hb => by
      rw [bs_data] at hb
      match j, hb with
      | 0, hb => cases hb; decide
      | 1, hb => cases hb; decide
      | j + 2, hb => simp at hb)
    rw [bs_data, bs_data] at h
    refine h.mono ?_
    rintro e w' ⟨rfl, rfl⟩
    exact ⟨_, rfl, slP_lib l, ((Upd.refl _ w).alloc _).alloc _⟩
theorem cany_sl (l : By) (hl : l.length < 4294967281) (w : World) :
    Calls Tryd.prog 34 #[.string (bs l), .string ⟨#[47, 0]⟩] w fun e w' => e = .returned (.bool (slP l)) ∧ Upd (fun _ => False) w w' := by
  have hi := indexAny_ok l hl w
  obtain ⟨s, hs⟩ : ∃ s, bs l = s := ⟨_, rfl⟩
  rw [hs] at hi ⊢
  have Hi := Lib.hid hi
  clear hi hs
  go_enter Tryd.func34, Tryd.ntmps34
  go_wp2_with fail
  refine Hi.out.mono ?_
  rintro e w1 ⟨z, rfl, hz, hu⟩
  dsimp only
  go_wp2_with fail
  go_ret
  exact ⟨rfl, hu⟩
theorem cany_lt (l : By) (w : World) : Calls Tryd.prog 34 #[.string (bs l), .string ⟨#[60]⟩] w fun e w' => e = .returned (.bool (Lib.containsAny l [60])) ∧ Upd (fun _ => False) w w' := by
  have h := Sh.strings_IndexAny_one (bs l) (bs [60]) w (by rw [bs_size]; rfl) (fun j b hb => by
      rw [bs_data] at hb
      match j, hb with
      | 0, hb => cases hb; decide
      | j + 1, hb => simp at hb)
  rw [bs_data, bs_data] at h
  obtain ⟨s, hs⟩ : ∃ s, bs l = s := ⟨_, rfl⟩
  rw [hs] at h ⊢
  unfold Lib.containsAny
  generalize Lib.indexAny l [60] = z at h ⊢
  have Hi := Lib.hid h
  clear h hs
  go_enter Tryd.func34, Tryd.ntmps34
  go_wp2_with fail
  refine Hi.out.mono ?_
  rintro e w1 ⟨rfl, rfl⟩
  dsimp only
  go_wp2_with fail
  go_ret
  exact ⟨rfl, Upd.refl _ _⟩
theorem cany_no (l : By) (w : World) : Calls Tryd.prog 34 #[.string (bs l), .string ⟨#[]⟩] w fun e w' => e = .returned (.bool (Lib.containsAny l [])) ∧ Upd (fun _ => False) w w' := by
  have h := Sh.strings_IndexAny_none (bs l) ⟨#[]⟩ w rfl
  rw [bs_data, show (⟨#[]⟩ : ByteArray).data.toList = [] from rfl] at h
  obtain ⟨s, hs⟩ : ∃ s, bs l = s := ⟨_, rfl⟩
  rw [hs] at h ⊢
  unfold Lib.containsAny
  generalize Lib.indexAny l [] = z at h ⊢
  have Hi := Lib.hid h
  clear h hs
  go_enter Tryd.func34, Tryd.ntmps34
  go_wp2_with fail
  refine Hi.out.mono ?_
  rintro e w1 ⟨rfl, rfl⟩
  dsimp only
  go_wp2_with fail
  go_ret
  exact ⟨rfl, Upd.refl _ _⟩
end Go.Proofs.YtbhmeagliebfdaaDoor
