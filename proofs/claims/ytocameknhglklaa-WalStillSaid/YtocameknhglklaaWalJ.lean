/- The log of chapter 3 in plain words: Sync, Trim, and the log behind a crash. No program here. -/
import Derived.Test.YtocameknhglklaaWalI
namespace Go.Proofs.Ytocameknhglklaa
set_option linter.unusedSimpArgs false
set_option linter.unusedVariables false

theorem Inv.mk_eq {L : LSt} {D : DSt} {T : Nat} {all : List Batch} (h : Inv L D T all) : L.mk_ = markB L.fr L.n L.start (T + 1) L.synced := by rw [LSt.mk_, h.first]

/-- Sync. -/
theorem sync_inv {L : LSt} {D : DSt} {T : Nat} {all : List Batch} (h : Inv L D T all) :
    ((L.sync D).2.2 = 0 ∧ Inv (L.sync D).1 (L.sync D).2.1 T all ∧ (L.sync D).1 = { L with synced := all.length } ∧ (L.sync D).2.1.waits = [] ∧ (D.fuel < 0 → (L.sync D).2.1.fuel = D.fuel)) ∨
    ((L.sync D).2.2 = 10 ∧ (L.sync D).1 = { L with dead := true } ∧ (L.sync D).2.1.dead = true ∧ Safe (L.sync D).2.1 L.fr L.n all (fun t s => t = T ∧ (s = L.synced ∨ s = all.length)) ∧ 0 ≤ D.fuel) := by
  have h2 := h.ok.two
  have hfit := h.fit
  have hlow := h.low
  have hhigh := h.high
  by_cases hf : D.fuel = 0
  · right
    have hfl : D.flush = ({ D with dead := true }, 10) := by rw [DSt.flush, if_neg (by rw [h.live]; decide), if_pos hf]
    have hs : L.sync D = ({ L with dead := true }, { D with dead := true }, 10) := by
      unfold LSt.sync
      rw [if_neg (by rw [h.alive]; decide)]
      simp only [hfl, fail_dead]
      rfl
    rw [hs]
    refine ⟨rfl, rfl, rfl, ?_, by omega⟩
    intro keep
    obtain ⟨t, s, ⟨rfl, rfl⟩, hb⟩ := h.safe keep
    exact ⟨_, _, ⟨rfl, .inl rfl⟩, hb⟩
  · have hfl := DSt.flush_eq (D := D) h.live hf
    obtain ⟨D1, hD1⟩ : ∃ D1, ({ D with secs := done D.secs D.waits, waits := [], fuel := burnt D.fuel } : DSt) = D1 := ⟨_, rfl⟩
    obtain ⟨L1, hL1⟩ : ∃ L1, ({ L with synced := L.last } : LSt) = L1 := ⟨_, rfl⟩
    have e1 : D1.secs = done D.secs D.waits := by rw [← hD1]
    have e2 : D1.waits = [] := by rw [← hD1]
    have e3 : D1.dead = false := by rw [← hD1]; exact h.live
    have e4 : D1.fuel = burnt D.fuel := by rw [← hD1]
    have f1 : L1.fr = L.fr := by rw [← hL1]
    have f2 : L1.mk_ = markB L.fr L.n L.start (T + 1) all.length := by
      rw [← hL1, LSt.mk_]
      have : ({ L with synced := L.last } : LSt).first = L.first := rfl
      rw [this, h.first]
      show markB L.fr L.n L.start (T + 1) L.last = _
      rw [h.last]
    have hs0 : L.sync D = if (L1.mark D1).2.2 = 0 then L1.mark D1 else ({ (L1.mark D1).1 with synced := L.synced }, (L1.mark D1).2.1, (L1.mark D1).2.2) := by
      unfold LSt.sync
      rw [if_neg (by rw [h.alive]; decide)]
      simp only [hfl, if_true]
      rw [hL1, hD1]
    have goodOld : ∀ ws : List (Nat × Bytes), (∀ p ∈ ws, p.1 ≠ L.fr ∧ ∀ i, i < needsB (all.drop T) → p.1 ≠ ringAt L.fr L.n (L.start + i)) → Good (done (done D.secs D.waits) ws) L.fr L.n L.start (T + 1) L.synced (seg all T L.synced) := by
      intro ws hws
      refine Good.avoid (h.good.avoid _ h.waits) ws (fun p hp => ⟨(hws p hp).1, fun i hi => (hws p hp).2 i ?_⟩)
      have := h.segle; omega
    have goodNew : Good ((done D.secs D.waits).set L.fr (pad L1.mk_)) L.fr L.n L.start (T + 1) all.length (seg all T all.length) := by
      refine ⟨by rw [set_get_self (by rw [done_length]; omega), f2], ?_, ?_, Nat.le_add_left _ _, h.ok.start, by rw [seg_all]; exact h.need, h2, by rw [List.length_set, done_length]; exact hfit, by rw [← h.last]; exact h.ok.last⟩
      · rw [seg_all]
        exact laid_congr _ _ _ (fun i hi => List.getElem?_set_ne (ringAt_ne _ _ _).symm) h.vis
      · rw [seg_length (Nat.le_refl _)]; omega
    rcases mark_spec L1 D1 e3 (by rw [f1, e1, done_length]; omega) with ⟨a1, a2, a3, a4, a5, a6⟩ | ⟨a1, a2, a3, a4, a5, a6⟩
    · left
      rw [hs0, if_pos a1]
      refine ⟨a1, ?_, by rw [a2, ← hL1, h.last], a5, fun hh => by rw [a6 (by rw [e4, burnt_neg hh]; exact hh), e4, burnt_neg hh]⟩
      have g1 : (L1.mark D1).2.1.secs = (done D.secs D.waits).set L.fr (pad L1.mk_) := by rw [a4, e1, e2, f1]; rfl
      rw [a2]
      have hg : Good (L1.mark D1).2.1.secs L1.fr L1.n L1.start (T + 1) L1.synced (seg all T L1.synced) := by
        rw [g1]
        have : L1.synced = all.length := by rw [← hL1]; exact h.last
        rw [this, ← hL1]
        rw [← hL1] at goodNew
        exact goodNew
      refine ⟨by rw [← hL1]; exact h.ok.synced_last, by rw [← hL1]; exact h.alive, a3, ?_, by rw [← hL1]; exact h.list, by rw [← hL1]; exact h.last, by rw [← hL1]; exact h.used, ?_, hg, ?_, fun p hp => by rw [a5] at hp; cases hp⟩
      · rw [g1, List.length_set, done_length, ← hL1]; exact hfit
      · rw [← hL1]; show T ≤ L.last; rw [h.last]; omega
      · rw [a5]
        show laid (L1.mark D1).2.1.secs L1.fr L1.n L1.start (T + 1) (all.drop T)
        have := hg.laid
        have hsy : L1.synced = all.length := by rw [← hL1]; exact h.last
        rwa [hsy, seg_all] at this
    · right
      rw [hs0, if_neg (by rw [a1]; decide)]
      refine ⟨a1, by rw [a2, ← hL1], a3, ?_, ?_⟩
      · intro keep
        show ∃ t s, _ ∧ Back (done (L1.mark D1).2.1.secs (kept (L1.mark D1).2.1.waits keep)) L.fr L.n t s all
        rw [a4, e1]
        rcases a5 with a5 | a5
        · rw [a5, e2]
          have hk : kept [] keep = [] := by cases keep <;> rfl
          rw [hk]
          exact ⟨T, L.synced, ⟨rfl, .inl rfl⟩, hlow, hhigh, L.start, goodOld [] (fun p hp => by cases hp)⟩
        · rw [a5, e2, List.nil_append, show [(L1.fr, pad L1.mk_)] = [] ++ [(L1.fr, pad L1.mk_)] from rfl, kept_snoc]
          have hk : kept [] keep = [] := by cases keep <;> rfl
          rw [hk]
          split
          · refine ⟨T, all.length, ⟨rfl, .inr rfl⟩, by omega, Nat.le_refl _, L.start, ?_⟩
            rw [f1]
            exact goodNew
          · exact ⟨T, L.synced, ⟨rfl, .inl rfl⟩, hlow, hhigh, L.start, goodOld [] (fun p hp => by cases hp)⟩
      · rw [e4] at a6
        unfold burnt at a6
        split at a6 <;> omega

/-- The batches that a Trim takes off. -/
theorem trimTo_number (n : Nat) (hn : 2 ≤ n) (upto : Int) : ∀ (bs : List Batch) (k start used : Nat), start < n - 1 → used = needsB bs → ∀ c : Nat, (c : Int) = max 0 (upto + 1 - k) → c ≤ bs.length →
    trimTo n upto start used (number k bs) = ((start + needsB (bs.take c)) % (n - 1), needsB (bs.drop c), number (k + c) (bs.drop c))
  | [], k, start, used, hs, hu, c, hc, hl => by
    simp at hl
    subst hl
    subst hu
    simp [number, trimTo, needsB, Nat.mod_eq_of_lt hs]
  | b :: r, k, start, used, hs, hu, c, hc, hl => by
    rw [number, trimTo]
    by_cases hk : (k : Int) ≤ upto
    · rw [if_pos hk]
      obtain ⟨c, rfl⟩ : ∃ c', c = c' + 1 := ⟨c - 1, by omega⟩
      simp only [List.length_cons] at hl
      rw [trimTo_number n hn upto r (k + 1) _ _ (Nat.mod_lt _ (by omega)) (by rw [hu, needsB_cons]; show needB b + needsB r - needB b = _; omega) c (by push_cast at hc ⊢; omega) (by omega)]
      rw [List.take_succ_cons, List.drop_succ_cons, needsB_cons, Nat.mod_add_mod, Nat.add_assoc, show k + 1 + c = k + (c + 1) by omega]
    · rw [if_neg hk]
      obtain rfl : c = 0 := by omega
      simp [needsB_nil, Nat.mod_eq_of_lt hs, hu, number]

/-- Trim. -/
theorem trim_inv {L : LSt} {D : DSt} {T : Nat} {all : List Batch} (h : Inv L D T all) (upto : Int) :
    ((upto < 0 ∨ (L.synced : Int) < upto) ∧ L.trim D upto = (L, D, 1)) ∨
    (0 ≤ upto ∧ upto ≤ (L.synced : Int) ∧ (L.trim D upto).2.2 = 0 ∧ Inv (L.trim D upto).1 (L.trim D upto).2.1 (max T upto.toNat) all ∧ (L.trim D upto).1.synced = L.synced ∧ (L.trim D upto).1.fr = L.fr ∧ (L.trim D upto).1.n = L.n ∧ (L.trim D upto).2.1.waits = [] ∧ (D.fuel < 0 → (L.trim D upto).2.1.fuel = D.fuel)) ∨
    (0 ≤ upto ∧ upto ≤ (L.synced : Int) ∧ (L.trim D upto).2.2 = 10 ∧ (L.trim D upto).1 = { L with dead := true } ∧ (L.trim D upto).2.1.dead = true ∧ Safe (L.trim D upto).2.1 L.fr L.n all (fun t s => (t = T ∨ t = max T upto.toNat) ∧ s = L.synced) ∧ 0 ≤ D.fuel) := by
  by_cases hu : upto < 0 ∨ (L.synced : Int) < upto
  · left
    refine ⟨hu, ?_⟩
    rw [LSt.trim, if_neg (by rw [h.alive]; decide), if_pos hu]
  · right
    have h2 := h.ok.two
    have hfit := h.fit
    have hlow := h.low
    have hhigh := h.high
    obtain ⟨U, hU⟩ : ∃ U, max T upto.toNat = U := ⟨_, rfl⟩
    have hTU : T ≤ U := by omega
    have hUs : U ≤ L.synced := by omega
    have hct := trimTo_number L.n h2 upto (all.drop T) (T + 1) L.start L.used h.ok.start h.used (U - T) (by omega) (by rw [List.length_drop]; omega)
    rw [List.drop_drop, show T + (U - T) = U by omega, show T + 1 + (U - T) = U + 1 by omega] at hct
    have htk : (all.drop T).take (U - T) = seg all T U := by
      rw [seg_split (s := U) hTU (by omega), List.take_append_of_le_length (by rw [seg_length (by omega)]; exact Nat.le_refl _), List.take_of_length_le (by rw [seg_length (by omega)]; exact Nat.le_refl _)]
    rw [htk] at hct
    obtain ⟨L1, hL1⟩ : ∃ L1, L.cut upto = L1 := ⟨_, rfl⟩
    have hcut : L1 = { L with start := (L.start + needsB (seg all T U)) % (L.n - 1), used := needsB (all.drop U), list := number (U + 1) (all.drop U) } := by
      rw [← hL1, LSt.cut, h.list, hct]
    have hfirst : L1.first = U + 1 := by
      rw [hcut, LSt.first]
      cases hc : all.drop U with
      | nil =>
        have h3 := List.drop_eq_nil_iff.1 hc
        have h4 := h.last
        show L.last + 1 = U + 1
        omega
      | cons b r => rfl
    have f1 : L1.fr = L.fr := by rw [hcut]
    have f2 : L1.n = L.n := by rw [hcut]
    have f3 : L1.synced = L.synced := by rw [hcut]
    have hok1 : L1.Ok := by rw [← hL1]; exact h.ok.cut upto
    have e0 : L.trim D upto = if (L1.mark D).2.2 = 0 then L1.mark D else ({ (L1.mark D).1 with start := L.start, used := L.used, list := L.list }, (L1.mark D).2.1, (L1.mark D).2.2) := by
      rw [LSt.trim, if_neg (by rw [h.alive]; decide), if_neg hu, hL1]
    have hall : all.drop T = seg all T U ++ all.drop U := seg_split hTU (by omega)
    have hse : seg all T L.synced = seg all T U ++ seg all U L.synced := seg_split2 hTU hUs hhigh
    have hmk : L1.mk_ = markB L.fr L.n L1.start (U + 1) L.synced := by rw [LSt.mk_, hfirst, f1, f2, f3]
    have ring1 : ∀ i, ringAt L.fr L.n (L1.start + i) = ringAt L.fr L.n (L.start + (needsB (seg all T U) + i)) := by
      intro i
      rw [hcut]
      show ringAt L.fr L.n ((L.start + needsB (seg all T U)) % (L.n - 1) + i) = _
      rw [ringAt_mod, Nat.add_assoc]
    -- behind the mark: what lies there
    have goodNew : ∀ S : List Bytes, S.length = D.secs.length → S[L.fr]? = some (pad L1.mk_) → (∀ i, i < needsB (seg all T L.synced) → S[ringAt L.fr L.n (L.start + i)]? = D.secs[ringAt L.fr L.n (L.start + i)]?) → Good S L.fr L.n L1.start (U + 1) L.synced (seg all U L.synced) := by
      intro S hSl hS1 hS2
      have hl := h.good.laid
      rw [hse, laid_append] at hl
      have hl2 := hl.2
      rw [seg_length (by omega), show T + 1 + (U - T) = U + 1 by omega] at hl2
      refine ⟨by rw [hS1, hmk], ?_, by rw [seg_length hhigh]; omega, Nat.le_add_left _ _, by have := hok1.start; rwa [f2] at this, ?_, h2, by omega, by have := h.ok.last; have := h.ok.synced; omega⟩
      · have h3 := laid_mod _ _ _ _ _ _ hl2
        have h4 : L1.start = (L.start + needsB (seg all T U)) % (L.n - 1) := by rw [hcut]
        rw [h4]
        refine laid_congr _ _ _ (fun i hi => ?_) h3
        rw [ringAt_mod, Nat.add_assoc]
        exact hS2 _ (by rw [hse, needsB_append]; omega)
      · have := h.good.need
        rw [hse, needsB_append] at this
        omega
    have apart : ∀ p ∈ D.waits, p.1 ≠ L.fr ∧ ∀ i, i < needsB (seg all T L.synced) → p.1 ≠ ringAt L.fr L.n (L.start + i) := h.waits
    have goodKept : ∀ ws : List (Nat × Bytes), (∀ p ∈ ws, p ∈ D.waits) → Good ((done D.secs ws).set L.fr (pad L1.mk_)) L.fr L.n L1.start (U + 1) L.synced (seg all U L.synced) := by
      intro ws hws
      refine goodNew _ (by rw [List.length_set, done_length]) (set_get_self (by rw [done_length]; omega)) (fun i hi => ?_)
      rw [List.getElem?_set_ne (ringAt_ne _ _ _).symm]
      exact done_get_avoid _ _ _ (fun p hp => (apart p (hws p hp)).2 i hi)
    rw [hU]
    rcases mark_spec L1 D h.live (by rw [f1]; omega) with ⟨a1, a2, a3, a4, a5, a6⟩ | ⟨a1, a2, a3, a4, a5, a6⟩
    · left
      rw [e0, if_pos a1]
      refine ⟨by omega, by omega, a1, ?_, by rw [a2, f3], by rw [a2, f1], by rw [a2, f2], a5, a6⟩
      rw [a2]
      have hg : Good (L1.mark D).2.1.secs L1.fr L1.n L1.start (U + 1) L1.synced (seg all U L1.synced) := by
        rw [a4, f1, f2, f3]
        exact goodKept D.waits (fun p hp => hp)
      refine ⟨hok1, by rw [hcut]; exact h.alive, a3, by rw [a4, f1, f2, List.length_set, done_length]; exact hfit, by rw [hcut], by rw [hcut]; exact h.last, by rw [hcut], by rw [f3]; exact hUs, hg, ?_, fun p hp => by rw [a5] at hp; cases hp⟩
      rw [a5]
      show laid (L1.mark D).2.1.secs L1.fr L1.n L1.start (U + 1) (all.drop U)
      rw [a4, f1, f2]
      have hv := h.vis
      rw [hall, laid_append] at hv
      have hv2 := hv.2
      rw [seg_length (by omega), show T + 1 + (U - T) = U + 1 by omega] at hv2
      have h3 := laid_mod _ _ _ _ _ _ hv2
      have h4 : L1.start = (L.start + needsB (seg all T U)) % (L.n - 1) := by rw [hcut]
      rw [h4]
      exact laid_congr _ _ _ (fun i hi => List.getElem?_set_ne (ringAt_ne _ _ _).symm) h3
    · right
      rw [e0, if_neg (by rw [a1]; decide)]
      refine ⟨by omega, by omega, a1, by rw [a2, hcut], a3, ?_, a6⟩
      intro keep
      show ∃ t s, _ ∧ Back (done (L1.mark D).2.1.secs (kept (L1.mark D).2.1.waits keep)) L.fr L.n t s all
      rw [a4]
      have old : Back (done D.secs (kept D.waits keep)) L.fr L.n T L.synced all := ⟨hlow, hhigh, L.start, h.good.avoid _ (fun p hp => h.waits p (kept_sub _ _ p hp))⟩
      rcases a5 with a5 | a5
      · rw [a5]
        exact ⟨T, L.synced, ⟨.inl rfl, rfl⟩, old⟩
      · rw [a5, kept_snoc]
        split
        · refine ⟨U, L.synced, ⟨.inr rfl, rfl⟩, hUs, hhigh, L1.start, ?_⟩
          rw [done_append, f1]
          exact goodKept _ (kept_sub _ _)
        · rw [List.append_nil]
          exact ⟨T, L.synced, ⟨.inl rfl, rfl⟩, old⟩

/-- Open: what is read, on a disk that shows V. -/
theorem opened_inv {D : DSt} {fr n T s start : Nat} {all : List Batch} (hd : D.dead = false) (hT : T ≤ s) (hs : s ≤ all.length) (hm : fr + n ≤ 4096)
    (hg : Good D.secs fr n start (T + 1) s (seg all T s)) (hw : ∀ p ∈ D.waits, p.1 ≠ fr ∧ ∀ i, i < needsB (seg all T s) → p.1 ≠ ringAt fr n (start + i)) :
    Inv (LSt.opened fr n start (T + 1) s (seg all T s)) D T (all.take s) := by
  have e1 : (all.take s).drop T = seg all T s := rfl
  have e2 : (all.take s).length = s := by rw [List.length_take, Nat.min_eq_left hs]
  refine ⟨⟨hg.two, hm, hg.start, hg.need, number_sum _ _, fun p hp => (number_mem _ _ p hp).1, fun p hp => ?_, hg.big, Nat.le_refl _⟩, rfl, hd, hg.fit, by rw [e1]; rfl, e2.symm, by rw [e1]; rfl, hT, ?_, ?_, ?_⟩
  · have := (number_mem _ _ p hp).2.2
    rw [seg_length hs] at this
    show p.1 ≤ s
    omega
  · show Good _ fr n start (T + 1) s (seg (all.take s) T s)
    rw [seg_take (Nat.le_refl _)]; exact hg
  · rw [e1]
    exact laid_congr _ _ _ (fun i hi => done_get_avoid _ _ _ (fun p hp => (hw p hp).2 i hi)) hg.laid
  · show ∀ p ∈ D.waits, p.1 ≠ fr ∧ ∀ i, i < needsB (seg (all.take s) T s) → p.1 ≠ ringAt fr n (start + i)
    rw [seg_take (Nat.le_refl _)]; exact hw
/-- Behind a crash. -/
theorem crash_inv {D : DSt} {fr n : Nat} {all : List Batch} {ok : Nat → Nat → Prop} (hm : fr + n ≤ 4096) (h : Safe D fr n all ok) (keep : List Bool) :
    ∃ T s start, ok T s ∧ T ≤ s ∧ s ≤ all.length ∧ Good (D.crash keep).secs fr n start (T + 1) s (seg all T s) ∧ Inv (LSt.opened fr n start (T + 1) s (seg all T s)) (D.crash keep) T (all.take s) := by
  obtain ⟨T, s, h1, h2, h3, start, h4⟩ := h keep
  exact ⟨T, s, start, h1, h2, h3, h4, opened_inv rfl h2 h3 hm h4 (fun p hp => by cases hp)⟩
/-- A log that is opened anew, the disk alive. -/
theorem Inv.reopen {L : LSt} {D : DSt} {T : Nat} {all : List Batch} (h : Inv L D T all) :
    Good (done D.secs D.waits) L.fr L.n L.start (T + 1) L.synced (seg all T L.synced) ∧ Inv (LSt.opened L.fr L.n L.start (T + 1) L.synced (seg all T L.synced)) D T (all.take L.synced) :=
  ⟨h.good.avoid _ h.waits, opened_inv h.live h.low h.high h.ok.fit h.good h.waits⟩
end Go.Proofs.Ytocameknhglklaa
