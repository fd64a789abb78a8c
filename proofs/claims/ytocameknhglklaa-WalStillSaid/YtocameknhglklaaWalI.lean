/- The log of chapter 3 in plain words: what a log and its disk keep, call by call, and what a crash leaves. No program here. -/
import Derived.Test.YtocameknhglklaaWalN
namespace Go.Proofs.Ytocameknhglklaa
set_option linter.unusedSimpArgs false
set_option linter.unusedVariables false

theorem kept_sub : ∀ (W : List (Nat × Bytes)) (keep : List Bool), ∀ p ∈ kept W keep, p ∈ W
  | [], keep, p, h => by cases keep <;> simp [kept] at h
  | q :: r, [], p, h => by simp [kept] at h
  | q :: r, b :: k, p, h => by
    rw [kept] at h
    split at h
    · rcases List.mem_cons.1 h with rfl | h
      · exact List.mem_cons_self ..
      · exact List.mem_cons_of_mem _ (kept_sub r k p h)
    · exact List.mem_cons_of_mem _ (kept_sub r k p h)
theorem kept_snoc (p : Nat × Bytes) : ∀ (W : List (Nat × Bytes)) (keep : List Bool), kept (W ++ [p]) keep = kept W keep ++ (if keep.getD W.length false then [p] else [])
  | [], [] => by simp [kept]
  | [], b :: k => by cases b <;> simp [kept]
  | q :: r, [] => by simp [kept]
  | q :: r, b :: k => by
    have := kept_snoc p r k
    cases b <;> simp [kept, this]

/-- The batches number T+1 to s. -/
def seg (all : List Batch) (T s : Nat) : List Batch := (all.take s).drop T
theorem seg_length {all : List Batch} {T s : Nat} (h2 : s ≤ all.length) : (seg all T s).length = s - T := by rw [seg, List.length_drop, List.length_take, Nat.min_eq_left h2]
theorem seg_split {all : List Batch} {T s : Nat} (h1 : T ≤ s) (h2 : s ≤ all.length) : all.drop T = seg all T s ++ all.drop s := by
  have h : all.drop T = (all.take s ++ all.drop s).drop T := by rw [List.take_append_drop]
  rw [h, List.drop_append_of_le_length (by rw [List.length_take, Nat.min_eq_left h2]; exact h1), seg]
theorem seg_all (all : List Batch) (T : Nat) : seg all T all.length = all.drop T := by rw [seg, List.take_length]
theorem seg_split2 {all : List Batch} {T U s : Nat} (h1 : T ≤ U) (h2 : U ≤ s) (h3 : s ≤ all.length) : seg all T s = seg all T U ++ seg all U s := by
  have h := seg_split (all := all.take s) h1 (by rw [List.length_take, Nat.min_eq_left h3]; exact h2)
  rw [seg, h, seg, seg, seg, List.take_take, Nat.min_eq_left h2]
theorem seg_snoc {all : List Batch} {T s : Nat} (b : Batch) (h : s ≤ all.length) : seg (all ++ [b]) T s = seg all T s := by
  rw [seg, seg, List.take_append_of_le_length h]
theorem seg_take {all : List Batch} {T s u : Nat} (h : s ≤ u) : seg (all.take u) T s = seg all T s := by
  rw [seg, seg, List.take_take, Nat.min_eq_left h]

/-- A log L on a disk D: all batches that were appended, T of them trimmed. -/
structure Inv (L : LSt) (D : DSt) (T : Nat) (all : List Batch) : Prop where
  ok : L.Ok
  alive : L.dead = false
  live : D.dead = false
  fit : L.fr + L.n ≤ D.secs.length
  list : L.list = number (T + 1) (all.drop T)
  last : L.last = all.length
  used : L.used = needsB (all.drop T)
  low : T ≤ L.synced
  good : Good D.secs L.fr L.n L.start (T + 1) L.synced (seg all T L.synced)
  vis : laid (done D.secs D.waits) L.fr L.n L.start (T + 1) (all.drop T)
  waits : ∀ p ∈ D.waits, p.1 ≠ L.fr ∧ ∀ i, i < needsB (seg all T L.synced) → p.1 ≠ ringAt L.fr L.n (L.start + i)
theorem Inv.high {L : LSt} {D : DSt} {T : Nat} {all : List Batch} (h : Inv L D T all) : L.synced ≤ all.length := by rw [← h.last]; exact h.ok.synced
theorem Inv.first {L : LSt} {D : DSt} {T : Nat} {all : List Batch} (h : Inv L D T all) : L.first = T + 1 := by
  have hl := h.list
  have h1 := h.low
  have h2 := h.high
  cases hc : all.drop T with
  | nil =>
    rw [hc, number] at hl
    rw [LSt.first, hl]
    have h3 := List.drop_eq_nil_iff.1 hc
    have h4 := h.last
    show L.last + 1 = T + 1
    omega
  | cons b r =>
    rw [hc, number] at hl
    rw [LSt.first, hl]
theorem Inv.need {L : LSt} {D : DSt} {T : Nat} {all : List Batch} (h : Inv L D T all) : needsB (all.drop T) ≤ L.n - 1 := by rw [← h.used]; exact h.ok.used
theorem Inv.segle {L : LSt} {D : DSt} {T : Nat} {all : List Batch} (h : Inv L D T all) : needsB (seg all T L.synced) ≤ needsB (all.drop T) := by
  rw [seg_split h.low h.high, needsB_append]; omega

/-- What a crash leaves of T, s: a log that can be opened. -/
def Back (S : List Bytes) (fr n T s : Nat) (all : List Batch) : Prop := T ≤ s ∧ s ≤ all.length ∧ ∃ start, Good S fr n start (T + 1) s (seg all T s)
def Safe (D : DSt) (fr n : Nat) (all : List Batch) (ok : Nat → Nat → Prop) : Prop := ∀ keep, ∃ T s, ok T s ∧ Back (done D.secs (kept D.waits keep)) fr n T s all
theorem Inv.safe {L : LSt} {D : DSt} {T : Nat} {all : List Batch} (h : Inv L D T all) : Safe D L.fr L.n all (fun t s => t = T ∧ s = L.synced) := fun keep =>
  ⟨T, L.synced, ⟨rfl, rfl⟩, h.low, h.high, L.start, h.good.avoid _ (fun p hp => h.waits p (kept_sub _ _ p hp))⟩
theorem Safe.mono {D : DSt} {fr n : Nat} {all : List Batch} {ok ok' : Nat → Nat → Prop} (h : Safe D fr n all ok) (hk : ∀ t s, ok t s → ok' t s) : Safe D fr n all ok' := fun keep =>
  let ⟨T, s, h1, h2⟩ := h keep; ⟨T, s, hk T s h1, h2⟩

/-! mark. -/
theorem burnt_neg {f : Int} (h : f < 0) : burnt f = f := by rw [burnt, if_neg (by omega)]
theorem mark_spec (L : LSt) (D : DSt) (hd : D.dead = false) (hfr : L.fr < D.secs.length) :
    ((L.mark D).2.2 = 0 ∧ (L.mark D).1 = L ∧ (L.mark D).2.1.dead = false ∧ (L.mark D).2.1.secs = (done D.secs D.waits).set L.fr (pad L.mk_) ∧ (L.mark D).2.1.waits = [] ∧ (D.fuel < 0 → (L.mark D).2.1.fuel = D.fuel)) ∨
    ((L.mark D).2.2 = 10 ∧ (L.mark D).1 = { L with dead := true } ∧ (L.mark D).2.1.dead = true ∧ (L.mark D).2.1.secs = D.secs ∧ ((L.mark D).2.1.waits = D.waits ∨ (L.mark D).2.1.waits = D.waits ++ [(L.fr, pad L.mk_)]) ∧ 0 ≤ D.fuel) := by
  have hlen : L.mk_.length ≤ 512 := by rw [LSt.mk_, markB_length]; omega
  by_cases hf : D.fuel = 0
  · have hw : D.write (L.fr : Nat) L.mk_ = ({ D with dead := true }, 10) := by
      rw [DSt.write, if_neg (by rw [hd]; decide), if_neg (by omega), if_neg (by omega), if_pos hf]
    right
    simp only [LSt.mark, hw, LSt.fail]
    simp [hf]
  · have hw := DSt.write_eq (D := D) (i := (L.fr : Nat)) (data := L.mk_) hd (by omega) (by omega) hlen hf
    rw [Int.toNat_natCast] at hw
    by_cases hb : burnt D.fuel = 0
    · right
      have hfl : (D.write (L.fr : Nat) L.mk_).1.flush = ({ (D.write (L.fr : Nat) L.mk_).1 with dead := true }, 10) := by
        rw [DSt.flush, if_neg (by rw [hw]; simp [hd]), if_pos (by rw [hw]; exact hb)]
      simp only [LSt.mark, hfl, LSt.fail]
      rw [hw]
      simp only [if_true]
      refine ⟨by simp, by simp, by simp, by simp, .inr (by simp), ?_⟩
      unfold burnt at hb
      split at hb <;> omega
    · left
      have hfl : (D.write (L.fr : Nat) L.mk_).1.flush = ({ (D.write (L.fr : Nat) L.mk_).1 with secs := done (D.write (L.fr : Nat) L.mk_).1.secs (D.write (L.fr : Nat) L.mk_).1.waits, waits := [], fuel := burnt (D.write (L.fr : Nat) L.mk_).1.fuel }, 0) :=
        DSt.flush_eq (by rw [hw]; exact hd) (by rw [hw]; exact hb)
      simp only [LSt.mark, hfl, LSt.fail]
      rw [hw]
      simp only [if_true]
      refine ⟨by simp, by simp, by simpa using hd, ?_, by simp, fun h => ?_⟩
      · rw [done_append]; rfl
      · rw [burnt_neg h, burnt_neg h]

theorem set_get_self {S : List Bytes} {i : Nat} {x : Bytes} (h : i < S.length) : (S.set i x)[i]? = some x := by simp [h]

/-- Make. -/
theorem made_inv {fr n : Nat} {S : List Bytes} {D : DSt} (h2 : 2 ≤ n) (hfit : fr + n ≤ S.length) (hmax : S.length ≤ 4096) (hd : D.dead = false) (hs : D.secs = S.set fr (pad (LSt.made fr n).mk_)) (hw : D.waits = []) :
    Inv (LSt.made fr n) D 0 [] := by
  have hok : (LSt.made fr n).Ok := ⟨h2, by show fr + n ≤ 4096; omega, by show 0 < n - 1; omega, Nat.zero_le _, rfl, (fun p hp => by cases hp), (fun p hp => by cases hp), by show 0 < 1000000000000000000; decide, Nat.le_refl _⟩
  have hfit' : (LSt.made fr n).fr + (LSt.made fr n).n ≤ D.secs.length := by rw [hs, List.length_set]; exact hfit
  refine ⟨hok, rfl, hd, hfit', rfl, rfl, rfl, Nat.le_refl _, ⟨?_, trivial, rfl, Nat.le_refl _, by show 0 < n - 1; omega, Nat.zero_le _, h2, hfit', (by show 0 < 1000000000000000000; decide)⟩, trivial, fun p hp => by rw [hw] at hp; cases hp⟩
  rw [hs]
  exact set_get_self (by show fr < _; omega)

/-! Append. -/
def wrOf (L : LSt) (bs : Bytes) (j : Nat) : Nat × Bytes := (L.ring (L.start + L.used + j), pad (chunk bs j))
theorem writes_spec (L : LSt) (bs : Bytes) (h2 : 2 ≤ L.n) : ∀ (k i : Nat) (D : DSt), D.dead = false → L.fr + L.n ≤ D.secs.length →
    ((L.writes bs k i D).2 = 0 ∧ (L.writes bs k i D).1.dead = false ∧ (L.writes bs k i D).1.secs = D.secs ∧ (L.writes bs k i D).1.waits = D.waits ++ (List.range' i k).map (wrOf L bs) ∧ (D.fuel < 0 → (L.writes bs k i D).1.fuel = D.fuel)) ∨
    ((L.writes bs k i D).2 = 10 ∧ (L.writes bs k i D).1.dead = true ∧ (L.writes bs k i D).1.secs = D.secs ∧ (∃ m, m < k ∧ (L.writes bs k i D).1.waits = D.waits ++ (List.range' i m).map (wrOf L bs)) ∧ 0 ≤ D.fuel)
  | 0, i, D, hd, hf => .inl ⟨rfl, hd, rfl, by simp [LSt.writes], fun _ => rfl⟩
  | k + 1, i, D, hd, hf => by
    have hr := ringAt_lt h2 L.fr (L.start + L.used + i)
    rw [← LSt.ring_eq] at hr
    have hlen := chunk_le bs i
    by_cases h0 : D.fuel = 0
    · have hw : D.write (L.ring (L.start + L.used + i) : Nat) (chunk bs i) = ({ D with dead := true }, 10) := by
        rw [DSt.write, if_neg (by rw [hd]; decide), if_neg (by omega), if_neg (by omega), if_pos h0]
      right
      simp only [LSt.writes, hw]
      refine ⟨by simp, by simp, by simp, ⟨0, by omega, by simp⟩, by omega⟩
    · have hw := DSt.write_eq (D := D) (i := (L.ring (L.start + L.used + i) : Nat)) (data := chunk bs i) hd (by omega) (by omega) hlen h0
      rw [Int.toNat_natCast] at hw
      simp only [LSt.writes, hw, if_true]
      rcases writes_spec L bs h2 k (i + 1) { D with waits := D.waits ++ [(L.ring (L.start + L.used + i), pad (chunk bs i))], fuel := burnt D.fuel } hd hf with ⟨a1, a2, a3, a4, a5⟩ | ⟨a1, a2, a3, ⟨m, hm, a4⟩, a5⟩
      · refine .inl ⟨a1, a2, a3, ?_, fun h => ?_⟩
        · rw [a4, List.append_assoc]; rfl
        · rw [a5 (by show burnt D.fuel < 0; rw [burnt_neg h]; exact h)]; exact burnt_neg h
      · refine .inr ⟨a1, a2, a3, ⟨m + 1, by omega, ?_⟩, ?_⟩
        · rw [a4, List.append_assoc]; rfl
        · have : 0 ≤ burnt D.fuel := a5
          unfold burnt at this
          split at this <;> omega
theorem range_wr (L : LSt) (bs : Bytes) (k : Nat) (p : Nat × Bytes) (h : p ∈ (List.range' 0 k).map (wrOf L bs)) : ∃ j, j < k ∧ p = wrOf L bs j := by
  obtain ⟨j, hj, rfl⟩ := List.mem_map.1 h
  rw [List.mem_range'_1] at hj
  exact ⟨j, by omega, rfl⟩
theorem done_writes (V : List Bytes) (f : Nat → Nat) (g : Nat → Bytes) : ∀ (k : Nat), (∀ i j, i < k → j < k → f i = f j → i = j) → (∀ i, i < k → f i < V.length) → ∀ j, j < k → (done V ((List.range' 0 k).map fun j => (f j, g j)))[f j]? = some (g j)
  | 0, _, _, j, hj => by omega
  | k + 1, hi, hl, j, hj => by
    have e : (List.range' 0 (k + 1)).map (fun j => (f j, g j)) = (List.range' 0 k).map (fun j => (f j, g j)) ++ [(f k, g k)] := by rw [List.range'_concat]; simp
    rw [e, done_append]
    show ((done V ((List.range' 0 k).map fun j => (f j, g j))).set (f k) (g k))[f j]? = _
    by_cases hjk : j = k
    · subst hjk
      rw [List.getElem?_set_self (by rw [done_length]; exact hl j hj)]
    · rw [List.getElem?_set_ne (fun h => hjk (hi j k hj (by omega) h.symm))]
      exact done_writes V f g k (fun a b ha hb => hi a b (by omega) (by omega)) (fun a ha => hl a (by omega)) j (by omega)

theorem fail_dead (L : LSt) : L.fail 10 = ({ L with dead := true }, 10) := by rw [LSt.fail, if_neg (by decide)]

/-- What a call may leave: the log alive, as it should be; or the disk dead, and what a crash then leaves. -/
theorem append_inv {L : LSt} {D : DSt} {T : Nat} {all : List Batch} (h : Inv L D T all) (b : Batch) (hl : L.last + 1 < 1000000000000000000) :
    (L.check b ≠ 0 ∧ L.append D b = (L, D, 0, L.check b) ∧ L.check b ≠ 10) ∨
    (L.check b = 0 ∧ (L.append D b).2.2 = (((all.length + 1 : Nat) : Int), 0) ∧ Inv (L.append D b).1 (L.append D b).2.1 T (all ++ [b]) ∧ (L.append D b).1.synced = L.synced ∧ (L.append D b).1.fr = L.fr ∧ (L.append D b).1.n = L.n ∧ (L.append D b).1.used = L.used + needB b ∧ (D.fuel < 0 → (L.append D b).2.1.fuel = D.fuel)) ∨
    (L.check b = 0 ∧ (L.append D b).2.2 = (0, 10) ∧ (L.append D b).1 = { L with dead := true } ∧ (L.append D b).2.1.dead = true ∧ Safe (L.append D b).2.1 L.fr L.n all (fun t s => t = T ∧ s = L.synced) ∧ 0 ≤ D.fuel) := by
  by_cases hc : L.check b = 0
  · right
    have hroom : needB b ≤ L.room := by
      unfold LSt.check at hc
      rw [if_neg (by rw [h.alive]; decide)] at hc
      split at hc
      · cases hc
      · split at hc
        · cases hc
        · split at hc
          · cases hc
          · omega
    have hroom2 : L.used + needB b ≤ L.n - 1 := by have := h.ok.used; unfold LSt.room at hroom; omega
    have h2 := h.ok.two
    have hwp : ∀ k, k ≤ needB b → ∀ p ∈ (List.range' 0 k).map (wrOf L (encB (L.last + 1) b)), p.1 ≠ L.fr ∧ ∀ i, i < L.used → p.1 ≠ ringAt L.fr L.n (L.start + i) := by
      intro k hk p hp
      obtain ⟨j, hj, rfl⟩ := range_wr _ _ _ p hp
      refine ⟨ringAt_ne _ _ _, fun i hi e => ?_⟩
      have := ringAt_inj h2 e.symm (by omega) (by omega)
      omega
    have hseg := h.segle
    rw [← h.used] at hseg
    rcases writes_spec L (encB (L.last + 1) b) h2 (needB b) 0 D h.live h.fit with ⟨a1, a2, a3, a4, a5⟩ | ⟨a1, a2, a3, ⟨m, hm, a4⟩, a5⟩
    · left
      have happ : L.append D b = ({ L with last := L.last + 1, used := L.used + needB b, list := L.list ++ [(L.last + 1, needB b)] }, (L.writes (encB (L.last + 1) b) (needB b) 0 D).1, (L.last : Int) + 1, 0) := by
        unfold LSt.append
        rw [if_neg (by omega)]
        simp only [a1, if_true]
      have hdrop : (all ++ [b]).drop T = all.drop T ++ [b] := by rw [List.drop_append_of_le_length (Nat.le_trans h.low h.high)]
      have hnum : T + 1 + (all.drop T).length = L.last + 1 := by
        have := h.low; have := h.high; have := h.last
        rw [List.length_drop]; omega
      rw [happ]
      refine ⟨hc, ?_, ?_, rfl, rfl, rfl, rfl, a5⟩
      · show ((L.last : Int) + 1, (0 : Int)) = _
        rw [h.last]; rfl
      · dsimp only
        refine ⟨h.ok.grow b hroom hl, h.alive, a2, by rw [a3]; exact h.fit, ?_, ?_, ?_, h.low, ?_, ?_, ?_⟩
        · show L.list ++ [(L.last + 1, needB b)] = _
          rw [hdrop, number_append, h.list, hnum]; rfl
        · show L.last + 1 = _
          rw [h.last]; simp
        · show L.used + needB b = _
          rw [hdrop, needsB_append, h.used]; simp [needsB]
        · show Good _ L.fr L.n L.start (T + 1) L.synced (seg (all ++ [b]) T L.synced)
          rw [a3, seg_snoc b h.high]
          exact h.good
        · show laid _ L.fr L.n L.start (T + 1) ((all ++ [b]).drop T)
          rw [a3, a4, done_append, hdrop, laid_append]
          refine ⟨laid_congr _ _ _ (fun i hi => done_get_avoid _ _ _ (fun p hp => (hwp _ (Nat.le_refl _) p hp).2 i (by rw [h.used]; exact hi))) h.vis, ?_, trivial⟩
          intro j hj
          rw [← h.used, hnum]
          refine done_writes _ (fun j => ringAt L.fr L.n (L.start + L.used + j)) (fun j => pad (chunk (encB (L.last + 1) b) j)) (needB b) (fun i j hi hj e => ?_) (fun i hi => ?_) j hj
          · rcases Nat.le_total i j with hij | hij
            · have := ringAt_inj h2 e (by omega) (by omega); omega
            · have := ringAt_inj h2 e.symm (by omega) (by omega); omega
          · rw [done_length]
            have := ringAt_lt h2 L.fr (L.start + L.used + i)
            have := h.fit
            omega
        · show ∀ p ∈ (L.writes (encB (L.last + 1) b) (needB b) 0 D).1.waits, p.1 ≠ L.fr ∧ ∀ i, i < needsB (seg (all ++ [b]) T L.synced) → p.1 ≠ ringAt L.fr L.n (L.start + i)
          rw [a4, seg_snoc b h.high]
          intro p hp
          rcases List.mem_append.1 hp with hp | hp
          · exact h.waits p hp
          · have := hwp _ (Nat.le_refl _) p hp
            exact ⟨this.1, fun i hi => this.2 i (by omega)⟩
    · right
      have happ : L.append D b = ({ L with dead := true }, (L.writes (encB (L.last + 1) b) (needB b) 0 D).1, 0, 10) := by
        unfold LSt.append
        rw [if_neg (by omega)]
        simp only [a1, fail_dead]
        rfl
      rw [happ]
      refine ⟨hc, rfl, rfl, a2, fun keep => ⟨T, L.synced, ⟨rfl, rfl⟩, h.low, h.high, L.start, ?_⟩, a5⟩
      rw [a3]
      refine h.good.avoid _ (fun p hp => ?_)
      have hp := kept_sub _ _ p hp
      rw [a4] at hp
      rcases List.mem_append.1 hp with hp | hp
      · exact h.waits p hp
      · have := hwp m (by omega) p hp
        exact ⟨this.1, fun i hi => this.2 i (by omega)⟩
  · left
    refine ⟨hc, by rw [LSt.append, if_pos hc], fun h10 => ?_⟩
    unfold LSt.check at h10
    rw [if_neg (by rw [h.alive]; decide)] at h10
    split at h10
    · cases h10
    · split at h10
      · cases h10
      · split at h10 <;> cases h10
end Go.Proofs.Ytocameknhglklaa
