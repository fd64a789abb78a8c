/- docketlaw03.WalMakes: its walk. -/
import Derived.Test.YtocameknhglklaaWalRound
namespace Go.Proofs.Ytocameknhglklaa
open Go.RowKit
set_option linter.unusedSimpArgs false
set_option linter.unusedVariables false
set_option maxRecDepth 100000

theorem new_secs (k : Nat) (hk : k ≤ 255) : (DSt.new (k : Int)).secs = List.replicate (max k 1) zeros512 := by
  have : (min (max (k : Int) 1) 4096).toNat = max k 1 := by omega
  rw [DSt.new, this]
set_option maxHeartbeats 2000000 in
theorem makes_bad (k : Nat) (hk : k ≤ 255) (fr n : Int) (hn : n ≤ 9223372036854775807) (hnl : -9223372036854775808 ≤ n) (hfl : -9223372036854775808 ≤ fr) (hfh : fr ≤ 9223372036854775807) (w : World) (h : fr < 0 ∨ 0 ≤ fr ∧ n < 2 ∨ 0 ≤ fr ∧ 2 ≤ n ∧ ((max k 1 : Nat) : Int) < n ∨ 0 ≤ fr ∧ 2 ≤ n ∧ n ≤ ((max k 1 : Nat) : Int) ∧ ((max k 1 : Nat) : Int) - n < fr) :
    Calls Try.prog 6 #[.int .u8 k, .int .i64 fr, .int .i64 n] w fun e w' => e = .returned (.bool true) ∧ Below w.heap.size w w' := by
  obtain ⟨S, hS⟩ : ∃ S, max k 1 = S := ⟨_, rfl⟩
  rw [hS] at h
  have hkb : (k : Int) ≤ 255 := by omega
  have hSb : (S : Int) ≤ 255 := by omega
  have hslen : (DSt.new (k : Int)).secs.length = S := by rw [new_secs k hk, List.length_replicate, hS]
  have H := Lib.hid (And.intro hslen (And.intro hS hk))
  clear hslen hS hk
  have rest : ∀ (K : Ending → World → Prop), True := fun _ => trivial
  rcases h with h | ⟨h1, h2⟩ | ⟨h1, h2, h3⟩ | ⟨h1, h2, h3, h4⟩
  all_goals
    first
    | (have q0 : decide (fr < 0) = true := by (first | (simp; omega)))
    | (have q0 : decide (fr < 0) = false := by (first | (simp; omega)))
    go_enter Try.func6, Try.ntmps6
    go_wp2_with fail
    refine (wal_fixed _).mono ?_
    rintro e w1 ⟨rfl, hu1⟩
    dsimp only
    have HU1 := Lib.hid hu1
    clear hu1
    go_wp2_with fail
    refine (new_disk (k : Int) w1).mono ?_
    rintro e w2 ⟨db, F, rfl, hD, hu, hF⟩
    dsimp only
    have hsz := size_disk hD
    rw [H.out.1] at hsz
    have Hsz := Lib.hid hsz
    have H2 := Lib.hid (And.intro hD (HU1.out.trans hu))
    clear hD hu hF hsz
    go_wp2_with fail
    refine Hsz.out.mono ?_
    rintro e w3 ⟨rfl, rfl⟩
    dsimp only
    have hreg := region_bad H2.out.1 fr n hn (by rw [H.out.1]; omega)
    have ho := open_err _ _ _ 1 _ (by decide) hreg
    have hm := make_err _ _ _ 1 _ (by decide) hreg
    have Hom := Lib.hid (And.intro ho hm)
    clear hreg ho hm
    go_wp2_with fail
    refine Hom.out.1.mono ?_
    rintro e w3 ⟨rfl, rfl⟩
    dsimp only
    go_wp2_with fail
    refine Hom.out.2.mono ?_
    rintro e w3 ⟨rfl, rfl⟩
    dsimp only
    go_wp2_with fail
    refine Hom.out.1.mono ?_
    rintro e w3 ⟨rfl, rfl⟩
    dsimp only
    go_wp2_with fail
    go_ret
    exact ⟨rfl, H2.out.2.below0⟩
/-- The steps up to the second Open, where the region is one. -/
theorem zeros_bad : (zeros512).take 12 ≠ magicB := by decide
set_option maxHeartbeats 4000000 in
theorem makes_good (k : Nat) (hk : k ≤ 255) (fr n : Nat) (h2 : 2 ≤ n) (hf : fr + n ≤ max k 1) (w : World) :
    Calls Try.prog 6 #[.int .u8 k, .int .i64 fr, .int .i64 n] w fun e w' => e = .returned (.bool true) ∧ Below w.heap.size w w' := by
  obtain ⟨S, hS⟩ : ∃ S, max k 1 = S := ⟨_, rfl⟩
  rw [hS] at hf
  have hkb : (k : Int) ≤ 255 := by omega
  have hSb : (S : Int) ≤ 255 := by omega
  have hslen : (DSt.new (k : Int)).secs.length = S := by rw [new_secs k hk, List.length_replicate, hS]
  have hnb : (n : Int) ≤ 255 := by omega
  have hfb : (fr : Int) ≤ 255 := by omega
  have q1 : decide ((fr : Int) < 0) = false := by simp; try omega
  have q2 : decide ((n : Int) < 2) = false := by simp; omega
  have q3 : decide (S < n) = false := by simp; omega
  have q4 : decide ((S : Int) - (n : Int) < (fr : Int)) = false := by simp; omega
  have hzero : (done (DSt.new (k : Int)).secs (DSt.new (k : Int)).waits)[fr]? = some zeros512 := by
    show (DSt.new (k : Int)).secs[fr]? = _
    rw [new_secs k hk, hS, List.getElem?_replicate, if_pos (by omega)]
  have H := Lib.hid (And.intro hslen (And.intro hS (And.intro hk (And.intro h2 (And.intro hf hzero)))))
  clear hslen hS hk h2 hf hzero
  go_enter Try.func6, Try.ntmps6
  go_wp2_with fail
  refine (wal_fixed _).mono ?_
  rintro e w1 ⟨rfl, hu1⟩
  dsimp only
  have HU1 := Lib.hid hu1
  clear hu1
  go_wp2_with fail
  refine (new_disk (k : Int) w1).mono ?_
  rintro e w2 ⟨db, F, rfl, hD, hu, hF⟩
  dsimp only
  have hsz := size_disk hD
  rw [H.out.1] at hsz
  have Hsz := Lib.hid hsz
  have hz1 := HU1.out.size
  have H2 := Lib.hid (And.intro hD (And.intro (HU1.out.trans hu) (fun k (hk : F k) => Nat.le_trans hz1 (hF k hk))))
  clear hD hu hF hsz hz1
  go_wp2_with fail
  refine Hsz.out.mono ?_
  rintro e w3 ⟨rfl, rfl⟩
  dsimp only
  go_wp2_with fail
  have hh := H.out
  refine (open_magic H2.out.1 fr n hh.2.2.2.1 (by rw [hh.1]; exact hh.2.2.2.2.1) (by show 0 < 99999999990; decide) rfl zeros512 hh.2.2.2.2.2 zeros512_length zeros_bad).mono ?_
  rintro e w3 ⟨rfl, hu3⟩
  dsimp only
  have H3 := Lib.hid (And.intro (H2.out.1.upd hu3 (fun _ _ h => h)) (And.intro (H2.out.2.1.trans hu3) H2.out.2.2))
  clear hu3 hh H2
  go_wp2_with fail
  refine (make_live H3.out.1 fr n H.out.2.2.2.1 (by rw [H.out.1]; exact H.out.2.2.2.2.1) (by show 0 < 99999999990; decide) rfl rfl fr n rfl rfl).mono ?_
  rintro e w4 ⟨lb, F4, rfl, hH, hu, hF, hwt, hsl⟩
  dsimp only
  have hU4 : Upd (fun _ => False) w w4 := H3.out.2.1.then hu (fun k hk => .inr (H3.out.2.2 k hk))
  have hF4' : ∀ k, F4 k → w.heap.size ≤ k := fun k hk => by
    rcases hF k hk with h | h
    · exact H3.out.2.2 k h
    · have := H3.out.2.1.size; omega
  obtain ⟨D4, hD4⟩ : ∃ D4, (makeD (DSt.new (k : Int)) fr n).1 = D4 := ⟨_, rfl⟩
  rw [hD4] at hH hwt hsl
  have H4 := Lib.hid (And.intro hH (And.intro hU4 (And.intro hF4' (And.intro hwt (hsl.trans H.out.1)))))
  clear hH hu hF hwt hsl hU4 hF4' hD4 H3
  go_wp2_with fail
  obtain ⟨G, hDG, hGF⟩ := H4.out.1.wal.disk
  have hinv := H4.out.1.inv
  have hg : Good D4.secs fr n 0 (0 + 1) 0 (seg [] 0 0) := hinv.good
  refine (open_live hDG fr n 0 0 0 [] (by rw [H4.out.2.2.2.1]; decide) hinv.live H4.out.1.fuel (Nat.le_refl _) (Nat.le_refl _) hg (fun p hp => by rw [H4.out.2.2.2.1] at hp; cases hp) fr n rfl rfl).mono ?_
  rintro e w5 ⟨lb2, x, c, rfl, F5, vs, A, hH5, hu5, hF5, -, -, -, -⟩
  dsimp only
  have hsub : (0 : Nat) - 0 = 0 := rfl
  rw [hsub]
  have hl := hist_last hH5
  have hfi := hist_first hH5
  have hm5 := hg.mark
  have hm5' : (done D4.secs D4.waits)[fr]? = some (pad (markB fr n 0 (0 + 1) 0)) := by rw [H4.out.2.2.2.1]; exact hm5
  have hD5 := hDG.upd hu5 (fun _ _ h => h)
  have H5 := Lib.hid (And.intro hD5 (And.intro (H4.out.2.1.trans hu5) (And.intro (fun k (hk : G k) => H4.out.2.2.1 k (hGF k hk)) (And.intro hl (And.intro hfi (And.intro hm5' (And.intro hinv.live (And.intro H4.out.2.2.2.1 (And.intro H4.out.2.2.2.2 H4.out.1.fuel)))))))))
  clear hDG hGF hinv hg hH5 hu5 hF5 hsub hl hfi hm5 hm5' hD5 H4
  go_wp2_with fail
  refine H5.out.2.2.2.1.mono ?_
  rintro e w6 ⟨rfl, rfl⟩
  dsimp only
  go_wp2_with fail
  refine H5.out.2.2.2.2.1.mono ?_
  rintro e w6 ⟨rfl, rfl⟩
  dsimp only
  obtain ⟨hD5, hU5, hG5, hl5, hfi5, hm5, hlive5, hwt5, hsl5, hfu5⟩ := H5.out
  by_cases hn2 : n = 2
  · subst hn2
    clear hl5 hfi5 hm5 hlive5 hwt5 hsl5 hfu5 hD5 hU5 hG5 q1 q2 q3 q4
    go_wp2_with fail
    refine (fuel_disk H5.out.1 0 (by decide)).mono ?_
    rintro e w7 ⟨rfl, hD7, hu7⟩
    dsimp only
    have hfl : (D4.setFuel 0).flush = ({ D4.setFuel 0 with dead := true }, 10) := by
      rw [DSt.flush, if_neg (by show ¬ (D4.dead = true); rw [H5.out.2.2.2.2.2.2.1]; decide), if_pos (by show max (0 : Int) (-1) = 0; decide)]
    have H7 := Lib.hid (And.intro hD7 (And.intro hu7 hfl))
    clear hD7 hu7 hfl
    go_wp2_with fail
    refine (flush_disk H7.out.1 (by show D4.waits.length < _; rw [H5.out.2.2.2.2.2.2.2.1]; decide) H7.out.2.2).mono ?_
    rintro e w8 ⟨rfl, hD8, hu8⟩
    dsimp only
    have hU8 : Upd (fun _ => False) w w8 := (H5.out.2.1.then H7.out.2.1 (fun k hk => .inr (H5.out.2.2.1 k hk))).then hu8 (fun k hk => .inr (H5.out.2.2.1 k hk))
    have H8 := Lib.hid (And.intro hD8 hU8)
    clear hD8 hu8 hU8
    have hsec : ({ D4.setFuel 0 with dead := true } : DSt).secs.length = S := H5.out.2.2.2.2.2.2.2.2.1
    have hwt8 : ({ D4.setFuel 0 with dead := true } : DSt).waits.length < 99999999990 := by show D4.waits.length < _; rw [H5.out.2.2.2.2.2.2.2.1]; decide
    have Hs := Lib.hid (And.intro hsec hwt8)
    clear hsec hwt8
    go_wp2_with fail
    refine (open_dead H8.out.1 fr 2 (by decide) (by rw [Hs.out.1]; exact H.out.2.2.2.2.1) Hs.out.2 rfl).mono ?_
    rintro e w9 ⟨rfl, hu9⟩
    dsimp only
    have H9 := Lib.hid (And.intro (H8.out.1.upd hu9 (fun _ _ h => h)) (H8.out.2.trans hu9))
    clear hu9
    go_wp2_with fail
    refine (make_ok H9.out.1 fr 2 (by decide) (by rw [Hs.out.1]; exact H.out.2.2.2.2.1) Hs.out.2).mono ?_
    have hmk : (makeD { D4.setFuel 0 with dead := true } fr 2).2 = 10 := by
      have hfl2 : ({ D4.setFuel 0 with dead := true } : DSt).flush = ({ D4.setFuel 0 with dead := true }, 10) := by rw [DSt.flush, if_pos rfl]
      rw [makeD, if_neg (by rw [hfl2]; show ¬ ((10 : Int) = 0); decide), hfl2]
    rw [hmk]
    rintro e w10 ⟨p, rfl, hp⟩
    rcases hp with ⟨h, _⟩ | ⟨_, rfl, F10, _, hu10, _⟩
    · exact absurd h (by decide)
    dsimp only
    have hG5 := H5.out.2.2.1
    have H10 := Lib.hid (H9.out.2.then hu10 (fun k hk => .inr (hG5 k hk)))
    clear hu10 hmk hG5
    have hnil := make_err (.pointer none) fr 2 2 w10 (by decide) (region_nil fr 2 w10)
    have Hnil := Lib.hid hnil
    clear hnil
    go_wp2_with fail
    refine Hnil.out.mono ?_
    rintro e w11 ⟨rfl, rfl⟩
    dsimp only
    go_wp2_with fail
    go_ret
    exact ⟨rfl, H10.out.below0⟩
  · obtain ⟨n1, hn1⟩ : ∃ n1, n = n1 + 1 := ⟨n - 1, by have := H.out.2.2.2.1; omega⟩
    have hn3 : 2 ≤ n1 := by have := H.out.2.2.2.1; omega
    have q5 : decide ((2 : Int) < (n : Int)) = true := by simp; omega
    have hnI : (n : Int) - 1 = (n1 : Int) := by omega
    have hop := open_n hD5 fr n1 hn3 (by have := H.out.2.2.2.2.1; omega) (by rw [hwt5]; decide) hlive5 _ hm5 (pad_length (by rw [markB_length]; decide)) (mark_magic _ _ _ _ _) (mark_f0 _ _ _ _ _ (by omega)) n (mark_f1 _ _ _ _ _ (by omega)) (by omega)
    rw [← hnI] at hop
    have Hop := Lib.hid hop
    clear hop hl5 hfi5 hm5 hlive5 hwt5 hsl5 hfu5 hD5 hU5 hG5 hn1 hn3 hnI hn2 q1 q2 q3 q4
    go_wp2_with fail
    refine Hop.out.mono ?_
    rintro e w7 ⟨rfl, hu7⟩
    dsimp only
    have HU7 := Lib.hid (H5.out.2.1.trans hu7)
    clear hu7
    go_wp2_with fail
    go_ret
    exact ⟨rfl, HU7.out.below0⟩
theorem walMakes_walk (k : Nat) (hk : k ≤ 255) (fr n : Int) (hnl : -9223372036854775808 ≤ n) (hn : n ≤ 9223372036854775807) (hfl : -9223372036854775808 ≤ fr) (hfh : fr ≤ 9223372036854775807) (w : World) :
    Calls Try.prog 6 #[.int .u8 k, .int .i64 fr, .int .i64 n] w fun e w' => e = .returned (.bool true) ∧ Below w.heap.size w w' := by
  by_cases h : fr < 0 ∨ 0 ≤ fr ∧ n < 2 ∨ 0 ≤ fr ∧ 2 ≤ n ∧ ((max k 1 : Nat) : Int) < n ∨ 0 ≤ fr ∧ 2 ≤ n ∧ n ≤ ((max k 1 : Nat) : Int) ∧ ((max k 1 : Nat) : Int) - n < fr
  · exact makes_bad k hk fr n hn hnl hfl hfh w h
  · obtain ⟨f, rfl⟩ : ∃ f : Nat, fr = f := ⟨fr.toNat, by omega⟩
    obtain ⟨m, rfl⟩ : ∃ m : Nat, n = m := ⟨n.toNat, by omega⟩
    exact makes_good k hk f m (by omega) (by omega) w
end Go.Proofs.Ytocameknhglklaa
