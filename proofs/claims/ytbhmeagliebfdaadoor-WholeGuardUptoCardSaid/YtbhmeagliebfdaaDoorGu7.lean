/- uri: local. -/
import Derived.Test.YtbhmeagliebfdaaDoorGu6
namespace Go.Proofs.YtbhmeagliebfdaaDoor
open Go Go.RowKit
set_option linter.unusedSimpArgs false
set_option linter.unusedVariables false
set_option maxRecDepth 100000
theorem bs_extract (l : By) (a n : Nat) (hn : n = l.length) : (bs l).extract a n = bs (l.drop a) := by
  have h := Lib.extract_toList (bs l) a n
  rw [bs_data] at h
  have h2 : (bs l).extract a n = bs ((bs l).extract a n).data.toList := (bs_of _).symm
  rw [h2, ← Lib.toList_data, h, hn, List.take_of_length_le (by rw [List.length_drop]; exact Nat.le_refl _)]
theorem bs_extract2 (l : By) (a n : Nat) : (bs l).extract a n = bs ((l.drop a).take (n - a)) := by
  have h := Lib.extract_toList (bs l) a n
  rw [bs_data] at h
  have h2 : (bs l).extract a n = bs ((bs l).extract a n).data.toList := (bs_of _).symm
  rw [h2, ← Lib.toList_data, h]
theorem indexByte_le : ∀ (l : By) (c : UInt8), Lib.indexByte l c < l.length ∨ Lib.indexByte l c = -1
  | [], _ => .inr rfl
  | b :: r, c => by
    rw [Lib.indexByte]
    split
    · left; simp
    · split
      · right; rfl
      · rcases indexByte_le r c with h | h
        · left; simp; omega
        · rename_i h2 h3
          rw [h] at h3
          exact absurd rfl h3
theorem indexByte_range (l : By) (c : UInt8) : -1 ≤ Lib.indexByte l c ∧ Lib.indexByte l c ≤ l.length := by
  refine ⟨Lib.indexByte_ge l c, ?_⟩
  rcases indexByte_le l c with h | h <;> omega
/-- What a function answers that may fail. -/
def TwoOk (r : Option By) (e : Ending) : Prop := ∃ (s : By) (ok : Bool), e = .returned (.tuple #[.string (bs s), .bool ok]) ∧ ((ok = true ∧ r = some s) ∨ (ok = false ∧ r = none))
theorem local_len {t s : By} (h : localP t = some s) : s.length ≤ t.length + 1 := by
  unfold localP at h
  split at h
  · split at h
    · cases h
    · split at h
      · split at h
        · cases h; simp
        · cases h
      · cases h
        rw [List.length_drop, List.length_drop]; omega
  · cases h; omega
theorem local_ok (t : By) (ht : t.length ≤ 1000000000) (w : World) : Calls Tryd.prog 49 #[.string (bs t)] w fun e w' => TwoOk (localP t) e ∧ w' = w := by
  have hcp := cutPrefix_ok t httpP w
  unfold TwoOk localP
  cases hpf : Lib.hasPrefix t httpP
  · rw [hpf, Lib.trimPrefix, hpf, if_neg (by decide)] at hcp
    rw [if_neg (by decide)]
    have Hc := Lib.hid hcp
    clear hcp hpf
    obtain ⟨T, hT⟩ : ∃ T, bs t = T := ⟨_, rfl⟩
    rw [hT] at Hc ⊢
    have HT := Lib.hid hT
    clear hT
    go_enter Tryd.func49, Tryd.ntmps49
    go_wp2_with fail
    refine Hc.out.mono ?_
    rintro e w1 ⟨rfl, rfl⟩
    dsimp only
    go_wp2_with fail
    go_ret2
    exact ⟨⟨t, true, by rw [HT.out]; rfl, .inl ⟨rfl, rfl⟩⟩, rfl⟩
  · rw [hpf, Lib.trimPrefix, hpf, if_pos rfl] at hcp
    rw [if_pos rfl]
    obtain ⟨r, hr⟩ : ∃ r, t.drop httpP.length = r := ⟨_, rfl⟩
    have hr7 : t.drop 7 = r := hr
    rw [hr] at hcp
    rw [hr7]
    have hrl : r.length ≤ 1000000000 := by rw [← hr, List.length_drop]; omega
    have hib := indexByte_ok r 47 w
    have hrg := indexByte_range r 47
    have hpl := plain_ok r (by unfold maxLen; omega) w
    obtain ⟨y, hy⟩ : ∃ y, Lib.indexByte r 47 = y := ⟨_, rfl⟩
    rw [hy] at hib hrg ⊢
    have hne := bs_nil_iff r
    have hsz := bs_size r
    obtain ⟨R, hR⟩ : ∃ R, bs r = R := ⟨_, rfl⟩
    obtain ⟨T, hT⟩ : ∃ T, bs t = T := ⟨_, rfl⟩
    rw [hR] at hcp hib hpl hne hsz
    rw [hT] at hcp ⊢
    have H := Lib.hid (And.intro hcp (And.intro hib (And.intro hpl (And.intro hR hsz))))
    have hyI : y ≤ (R.size : Int) := by omega
    have hRI : (R.size : Int) ≤ 1000000000 := by omega
    clear hcp hib hpl hR hsz hr hr7 hy hT hpf hrl ht
    by_cases b1 : r = []
    · rw [decide_eq_true b1] at hne
      rw [if_pos (.inl b1)]
      clear b1
      go_enter Tryd.func49, Tryd.ntmps49
      go_wp2_with fail
      refine H.out.1.mono ?_
      rintro e w1 ⟨rfl, rfl⟩
      dsimp only
      go_wp2_with fail
      refine H.out.2.1.mono ?_
      rintro e w1 ⟨rfl, rfl⟩
      dsimp only
      go_wp2_with fail
      go_ret2
      exact ⟨⟨[], false, rfl, .inr ⟨rfl, by first | trivial | rfl⟩⟩, rfl⟩
    rw [decide_eq_false b1] at hne
    by_cases b2 : y = 0
    · rw [if_pos (.inr b2)]
      subst b2
      clear b1
      go_enter Tryd.func49, Tryd.ntmps49
      go_wp2_with fail
      refine H.out.1.mono ?_
      rintro e w1 ⟨rfl, rfl⟩
      dsimp only
      go_wp2_with fail
      refine H.out.2.1.mono ?_
      rintro e w1 ⟨rfl, rfl⟩
      dsimp only
      go_wp2_with fail
      go_ret2
      exact ⟨⟨[], false, rfl, .inr ⟨rfl, by first | trivial | rfl⟩⟩, rfl⟩
    rw [if_neg (fun h => h.elim b1 b2)]
    have b2' : (y == 0) = false := beq_eq_false_iff_ne.2 b2
    by_cases b3 : y < 0
    · rw [if_pos b3]
      cases hpb : plainP r
      · rw [if_neg (by decide)]
        rw [hpb] at H
        clear b1 b2 hpb
        go_enter Tryd.func49, Tryd.ntmps49
        go_wp2_with fail
        refine H.out.1.mono ?_
        rintro e w1 ⟨rfl, rfl⟩
        dsimp only
        go_wp2_with fail
        refine H.out.2.1.mono ?_
        rintro e w1 ⟨rfl, rfl⟩
        dsimp only
        go_wp2_with fail
        refine H.out.2.2.1.mono ?_
        rintro e w1 ⟨rfl, rfl⟩
        dsimp only
        go_wp2_with fail
        go_ret2
        exact ⟨⟨[47], false, rfl, .inr ⟨rfl, by first | trivial | rfl⟩⟩, rfl⟩
      · rw [if_pos rfl]
        rw [hpb] at H
        clear b1 b2 hpb
        go_enter Tryd.func49, Tryd.ntmps49
        go_wp2_with fail
        refine H.out.1.mono ?_
        rintro e w1 ⟨rfl, rfl⟩
        dsimp only
        go_wp2_with fail
        refine H.out.2.1.mono ?_
        rintro e w1 ⟨rfl, rfl⟩
        dsimp only
        go_wp2_with fail
        refine H.out.2.2.1.mono ?_
        rintro e w1 ⟨rfl, rfl⟩
        dsimp only
        go_wp2_with fail
        go_ret2
        exact ⟨⟨[47], true, rfl, .inl ⟨rfl, rfl⟩⟩, rfl⟩
    · rw [if_neg b3]
      have b3' : 0 ≤ y := by omega
      clear b1 b2
      go_enter Tryd.func49, Tryd.ntmps49
      go_wp2_with fail
      refine H.out.1.mono ?_
      rintro e w1 ⟨rfl, rfl⟩
      dsimp only
      go_wp2_with fail
      refine H.out.2.1.mono ?_
      rintro e w1 ⟨rfl, rfl⟩
      dsimp only
      go_wp2_with fail
      go_ret2
      refine ⟨⟨r.drop y.toNat, true, ?_, .inl ⟨rfl, rfl⟩⟩, rfl⟩
      rw [← H.out.2.2.2.1, bs_extract _ _ _ (bs_size r)]; rfl
end Go.Proofs.YtbhmeagliebfdaaDoor
