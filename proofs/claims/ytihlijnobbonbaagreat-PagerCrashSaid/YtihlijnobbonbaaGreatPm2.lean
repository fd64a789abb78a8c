/- The pager of chapter 4 in plain words: what Commit, Sync, home and Open leave. No program here. -/
import Derived.Test.YtihlijnobbonbaaGreatPm1
namespace Go.Proofs.YtihlijnobbonbaaGreat
set_option linter.unusedSimpArgs false
set_option linter.unusedVariables false
set_option maxRecDepth 100000

theorem check_append {L : LSt} {D : DSt} {T : Nat} {all : List Batch} (h : Inv L D T all) {N : Nat} {c : Img} (hc : EsOk N c) (h0 : c.length ≠ 0) (h1 : c.length ≤ 1024) (hr : needB (encC c) ≤ L.room) : L.check (encC c) = 0 := by
  unfold LSt.check
  rw [if_neg (by rw [h.alive]; decide), if_neg (by rw [encC_length]; omega), if_neg, if_neg (by omega)]
  rintro ⟨r, hr1, hr2⟩
  have := encC_size hc r hr1
  omega
/-- What a Commit's Append leaves. -/
def AppP (L : LSt) (D : DSt) (skip N T : Nat) (cs : List Img) (c es' : Img) (L' : LSt) (D' : DSt) (r : Int × Int) : Prop :=
  (r = (((cs.length + 1 : Nat) : Int), 0) ∧ PInv L' D' skip N T (cs ++ [c]) es' ∧ L'.synced = L.synced ∧ (D.fuel < 0 → D'.fuel = D.fuel)) ∨
  (r = (0, 10) ∧ L' = { L with dead := true } ∧ D'.dead = true ∧ SafeP D' skip N cs L.synced ∧ 0 ≤ D.fuel)
theorem pappend {L : LSt} {D : DSt} {skip N T : Nat} {cs : List Img} {es : Img} (h : PInv L D skip N T cs es) {c : Img} (hc : EsOk N c) (h0 : c.length ≠ 0) (h1 : c.length ≤ 1024) (hr : needB (encC c) ≤ L.room) (hl : cs.length + 1 < 1000000000000000000)
    (es' : Img) (hok' : EsOk N es') (hes' : ∀ b, lookB es' b = (lookB c b).or (lookB es b)) :
    AppP L D skip N T cs c es' (L.append D (encC c)).1 (L.append D (encC c)).2.1 (L.append D (encC c)).2.2 := by
  have hck := check_append h.inv hc h0 h1 hr
  have hlast := h.inv.last
  rw [List.length_map] at hlast
  obtain ⟨f1, f2⟩ := append_frame h.inv (encC c)
  have hwr : ∀ p ∈ (L.append D (encC c)).2.1.waits, p.1 < skip := fun p hp => by
    have hfr := h.fr
    have hn := h.n
    rcases f1 p hp with e | e
    · exact h.wr p e
    · omega
  have hT : T ≤ cs.length := by have := h.inv.low; have := h.inv.high; rw [List.length_map] at this; omega
  rcases append_inv h.inv (encC c) (by omega) with ⟨a1, _, _⟩ | ⟨_, a2, a3, a4, a5, a6, a7, a8⟩ | ⟨_, a2, a3, a4, a5, a6⟩
  · exact absurd hck a1
  · left
    rw [List.length_map] at a2
    refine ⟨a2, ⟨?_, a5.trans h.fr, a6.trans h.n, by rw [f2]; exact h.secs, hwr, ?_, ?_, ?_, ?_, hok'⟩, a4, a8⟩
    · rw [List.map_append]; exact a3
    · rw [a7]
      have := append_waits' L D (encC c)
      have := h.wl
      omega
    · rw [f2, List.take_append_of_le_length hT]; exact h.home
    · intro b
      rw [hes', List.drop_append_of_le_length hT, lastC_append, lastC_one, h.fresh]
    · intro x hx
      rcases List.mem_append.1 hx with e | e
      · exact h.okC x e
      · rw [List.mem_singleton] at e; rw [e]; exact hc
  · right
    refine ⟨a2, a3, a4, ⟨by rw [f2]; exact h.secs, fun keep => ?_⟩, a6⟩
    obtain ⟨t, s, ⟨rfl, rfl⟩, hb⟩ := a5 keep
    rw [h.fr, h.n] at hb
    refine ⟨t, L.synced, Nat.le_refl _, hb, (h.home.weak _).congr (fun b _ _ => ?_)⟩
    rw [← f2]
    exact out_get hwr keep _ (by omega)
where
  writes_waits' (L : LSt) (bs : Bytes) : ∀ (k i : Nat) (D : DSt), (L.writes bs k i D).1.waits.length ≤ D.waits.length + k
    | 0, i, D => Nat.le_refl _
    | k + 1, i, D => by
      have hw : ∀ (j : Int) (x : Bytes), (D.write j x).1.waits.length ≤ D.waits.length + 1 := by
        intro j x
        unfold DSt.write
        split
        · exact Nat.le_add_right _ _
        · split
          · exact Nat.le_add_right _ _
          · split
            · exact Nat.le_add_right _ _
            · split
              · exact Nat.le_add_right _ _
              · simp
      simp only [LSt.writes]
      have h1 := hw (L.ring (L.start + L.used + i)) (chunk bs i)
      split
      · have := writes_waits' L bs k (i + 1) (D.write (L.ring (L.start + L.used + i)) (chunk bs i)).1
        omega
      · omega
  append_waits' (L : LSt) (D : DSt) (b : Batch) : (L.append D b).2.1.waits.length ≤ D.waits.length + needB b := by
    unfold LSt.append
    split
    · exact Nat.le_add_right _ _
    · have h := writes_waits' L (encB (L.last + 1) b) (needB b) 0 D
      dsimp only
      split <;> exact h

/-- What a log's Sync leaves of a pager. -/
def SynP (L : LSt) (D : DSt) (skip N T : Nat) (cs : List Img) (es : Img) (L' : LSt) (D' : DSt) (r : Int) : Prop :=
  (r = 0 ∧ PreH L' D' skip N T cs es ∧ (FullH D.secs skip N (cs.take T) → PInv L' D' skip N T cs es) ∧ L' = { L with synced := cs.length } ∧ D'.waits = [] ∧ (D.fuel < 0 → D'.fuel = D.fuel)) ∨
  (r = 10 ∧ L' = { L with dead := true } ∧ D'.dead = true ∧ SafeP D' skip N cs L.synced ∧ 0 ≤ D.fuel)
theorem psync {L : LSt} {D : DSt} {skip N T : Nat} {cs : List Img} {es : Img} (h : PreH L D skip N T cs es) : SynP L D skip N T cs es (L.sync D).1 (L.sync D).2.1 (L.sync D).2.2 := by
  have h2 := h.inv.ok.two
  have hfr := h.fr
  have hn := h.n
  have hhi := h.inv.high
  rw [List.length_map] at hhi
  obtain ⟨f1, f2, f3⟩ := sync_frame h.inv skip (by omega) h.wr
  rcases sync_inv h.inv with ⟨a1, a2, a3, a4, a5⟩ | ⟨a1, a2, a3, a4, a5⟩
  · rw [List.length_map] at a3
    refine .inl ⟨a1, ⟨a2, by rw [a3]; exact hfr, by rw [a3]; exact hn, f2.trans h.secs, f1, ?_, h.h2.congr (fun b _ _ => f3 _ (by omega)), h.fresh, h.okC, h.okE⟩, fun hf => ⟨a2, by rw [a3]; exact hfr, by rw [a3]; exact hn, f2.trans h.secs, f1, by rw [a4]; exact Nat.zero_le _, hf.congr (fun b _ => f3 _ (by omega)), h.fresh, h.okC, h.okE⟩, a3, a4, a5⟩
    rw [a3]
    exact h.h2.congr (fun b _ _ => f3 _ (by omega))
  · refine .inr ⟨a1, a2, a3, ⟨f2.trans h.secs, fun keep => ?_⟩, a5⟩
    obtain ⟨t, s, ⟨rfl, hs⟩, hb⟩ := a4 keep
    rw [h.fr, h.n] at hb
    rw [List.length_map] at hs
    have hg : ∀ b : Nat, (done (L.sync D).2.1.secs (kept (L.sync D).2.1.waits keep))[skip + b]? = D.secs[skip + b]? := fun b => (out_get f1 keep _ (by omega)).trans (f3 _ (by omega))
    rcases hs with rfl | rfl
    · exact ⟨t, L.synced, Nat.le_refl _, hb, h.h1.congr (fun b _ _ => hg b)⟩
    · exact ⟨t, cs.length, hhi, hb, h.h2.congr (fun b _ _ => hg b)⟩

/-- The writes home. -/
def homeWs (skip : Nat) (es : Img) (ks : List Int) : List (Nat × Bytes) := ks.map fun k => (skip + k.toNat, dataAt es k)
/-- Behind the first k of them. -/
structure HomeR (D1 : DSt) (skip : Nat) (es : Img) (k : Nat) (D : DSt) : Prop where
  live : D.dead = false
  secs : D.secs = D1.secs
  waits : D.waits = homeWs skip es ((sortK es).take k)
  fuel : D1.fuel < 0 → D.fuel = D1.fuel
theorem homeWs_mem {skip : Nat} {es : Img} {ks : List Int} {p : Nat × Bytes} (h : p ∈ homeWs skip es ks) : ∃ k, k ∈ ks ∧ p = (skip + k.toNat, dataAt es k) := by
  obtain ⟨k, hk, rfl⟩ := List.mem_map.1 h
  exact ⟨k, hk, rfl⟩
/-- While blocks are written home, the log synced whole. -/
theorem home_safe {L : LSt} {D1 D : DSt} {skip N T : Nat} {cs : List Img} {es : Img} (h : PreH L D1 skip N T cs es) (hw0 : D1.waits = []) (hsy : L.synced = cs.length) (ks : List Int) (hks : ∀ k ∈ ks, k ∈ keysB es)
    (hs : D.secs = D1.secs) (hw : D.waits = homeWs skip es ks) : SafeP D skip N cs cs.length := ⟨by rw [hs]; exact h.secs, fun keep => by
  have hfr := h.fr
  have hn := h.n
  have hhi := h.inv.low
  refine ⟨T, cs.length, Nat.le_refl _, ?_, ?_⟩
  · have hg := h.inv.good
    rw [hfr, hn, hsy] at hg
    refine ⟨by omega, by rw [List.length_map]; exact Nat.le_refl _, L.start, ?_⟩
    rw [hs]
    refine hg.avoid _ (fun p hp => ?_)
    have hp' := kept_sub _ _ p hp
    rw [hw] at hp'
    obtain ⟨k, _, rfl⟩ := homeWs_mem hp'
    have h2 := hg.two
    refine ⟨by show skip + k.toNat ≠ 0; omega, fun i _ => ?_⟩
    have := ringAt_lt h2 0 (L.start + i)
    show skip + k.toNat ≠ _
    omega
  · refine h.h2.congr (fun b hb hnn => ?_)
    rw [hs]
    refine done_get_avoid _ _ _ (fun p hp e => ?_)
    have hp' := kept_sub _ _ p hp
    rw [hw] at hp'
    obtain ⟨k, hk, rfl⟩ := homeWs_mem hp'
    have hkk := hks k hk
    have hk0 := (h.okE.data hkk).1
    have e' : skip + k.toNat = skip + b := e
    have ekb : k = (b : Int) := by omega
    have hf := h.fresh k
    rw [List.take_length, ← ekb] at hnn
    rw [hnn] at hf
    exact (lookB_none_iff k es).1 hf hkk⟩
/-- A write home. -/
theorem home_step {D1 D : DSt} {skip N : Nat} {es : Img} {k : Nat} (hR : HomeR D1 skip es k D) (hok : EsOk N es) (hsec : D1.secs.length = skip + N) (hk : k < (sortK es).length) :
    ((D.write ((skip : Int) + (sortK es)[k]) (dataAt es (sortK es)[k])).2 = 0 ∧ HomeR D1 skip es (k + 1) (D.write ((skip : Int) + (sortK es)[k]) (dataAt es (sortK es)[k])).1) ∨
    ((D.write ((skip : Int) + (sortK es)[k]) (dataAt es (sortK es)[k])).2 = 10 ∧ (D.write ((skip : Int) + (sortK es)[k]) (dataAt es (sortK es)[k])).1 = { D with dead := true } ∧ D.fuel = 0) := by
  obtain ⟨j, hj⟩ : ∃ j, (sortK es)[k] = j := ⟨_, rfl⟩
  have hjk : j ∈ keysB es := (sortK_mem es j).1 (hj ▸ List.getElem_mem hk)
  have hd := hok.data hjk
  rw [hj]
  by_cases hf : D.fuel = 0
  · right
    rw [DSt.write, if_neg (by rw [hR.live]; decide), if_neg (by rw [hR.secs, hsec]; omega), if_neg (by omega), if_pos hf]
    exact ⟨rfl, rfl, hf⟩
  · left
    rw [DSt.write_eq hR.live (by omega) (by rw [hR.secs, hsec]; omega) (by omega) hf]
    refine ⟨rfl, hR.live, hR.secs, ?_, fun h => ?_⟩
    · show D.waits ++ _ = _
      rw [hR.waits, List.take_succ_eq_append_getElem hk, homeWs, homeWs, List.map_append, hj]
      congr 1
      show [(((skip : Int) + j).toNat, pad (dataAt es j))] = [(skip + j.toNat, dataAt es j)]
      have e1 : ((skip : Int) + j).toNat = skip + j.toNat := by omega
      have e2 : pad (dataAt es j) = dataAt es j := by rw [pad, hd.2.2]; simp
      rw [e1, e2]
    · have h3 := hR.fuel h
      show burnt D.fuel = _
      rw [burnt_neg (by omega), h3]
theorem done_homeWs (skip : Nat) (es : Img) : ∀ (ks : List Int) (S : List Bytes), ks.Nodup → (∀ k ∈ ks, 0 ≤ k ∧ skip + k.toNat < S.length) → ∀ b : Nat, (b : Int) ∈ ks → (done S (homeWs skip es ks))[skip + b]? = some (dataAt es b)
  | [], S, _, _, b, h => by cases h
  | k :: r, S, hn, hk, b, h => by
    have hc := List.nodup_cons.1 hn
    show (done (S.set (skip + k.toNat) (dataAt es k)) (homeWs skip es r))[skip + b]? = _
    by_cases hb : (b : Int) ∈ r
    · exact done_homeWs skip es r _ hc.2 (fun j hj => by rw [List.length_set]; exact hk j (List.mem_cons_of_mem _ hj)) b hb
    · have e : (b : Int) = k := by
        rcases List.mem_cons.1 h with e | e
        · exact e
        · exact absurd e hb
      have hkk := hk k (List.mem_cons_self ..)
      have e2 : k.toNat = b := by omega
      rw [done_get_avoid]
      · rw [e2, List.getElem?_set_self (by omega), e]
      · intro p hp e3
        obtain ⟨j, hj, rfl⟩ := homeWs_mem hp
        have hj0 := hk j (List.mem_cons_of_mem _ hj)
        have e4 : skip + j.toNat = skip + b := e3
        have e5 : j = (b : Int) := by omega
        exact hb (e5 ▸ hj)
/-- All written home, and flushed. -/
theorem home_full {L : LSt} {D1 D2 : DSt} {skip N T : Nat} {cs : List Img} {es : Img} (h : PreH L D1 skip N T cs es) (hs : D2.secs = done D1.secs (homeWs skip es (sortK es))) : FullH D2.secs skip N cs := fun b hb => by
  have hT : T ≤ cs.length := by have := h.inv.low; have := h.inv.high; rw [List.length_map] at this; omega
  have e : atC cs (b : Int) = (lookB es (b : Int)).getD (atC (cs.take T) (b : Int)) := by
    rw [h.fresh]
    conv => lhs; rw [← List.take_append_drop T cs]
    exact atC_append _ _ _
  rw [hs, e]
  cases hq : lookB es (b : Int) with
  | some x =>
    have hm : (b : Int) ∈ keysB es := Classical.byContradiction fun hn => by rw [(lookB_none_iff _ es).2 hn] at hq; cases hq
    rw [done_homeWs skip es (sortK es) _ (sortK_nodup h.okE.nd) (fun k hk => ?_) b ((sortK_mem es _).2 hm), dataAt, hq]
    · rfl
    · have := h.okE.data ((sortK_mem es k).1 hk)
      have := h.secs
      omega
  | none =>
    rw [done_get_avoid]
    · refine h.h2 b hb ?_
      rw [List.take_length, ← h.fresh, hq]
    · intro p hp e3
      obtain ⟨j, hj, rfl⟩ := homeWs_mem hp
      have hj1 := (sortK_mem es j).1 hj
      have hj0 := (h.okE.data hj1).1
      have e4 : skip + j.toNat = skip + b := e3
      have e5 : j = (b : Int) := by omega
      rw [e5] at hj1
      exact (lookB_none_iff _ es).1 hq hj1
/-- The disk behind the flush, the log not trimmed yet. -/
theorem home_flushed {L : LSt} {D1 D : DSt} {skip N T : Nat} {cs : List Img} {es : Img} (h : PreH L D1 skip N T cs es) (hw0 : D1.waits = []) (hR : HomeR D1 skip es (sortK es).length D) :
    (D.flush.2 = 0 ∧ Inv L D.flush.1 T (cs.map encC) ∧ FullH D.flush.1.secs skip N cs ∧ D.flush.1.waits = [] ∧ D.flush.1.secs.length = skip + N ∧ (D1.fuel < 0 → D.flush.1.fuel = D1.fuel)) ∨ (D.flush.2 = 10 ∧ D.flush.1 = { D with dead := true } ∧ D.fuel = 0) := by
  rcases D.flush_cases hR.live with ⟨a1, a2, a3, a4, a5⟩ | a
  · left
    have hw := hR.waits
    rw [List.take_length] at hw
    have hs : D.flush.1.secs = done D1.secs (homeWs skip es (sortK es)) := by rw [a3, hR.secs, hw]
    refine ⟨a1, h.inv.out hw0 a2 (by rw [hs, done_length]) (fun i hi => ?_) (by rw [a4]; intro p hp; cases hp), home_full h hs, a4, by rw [hs, done_length]; exact h.secs, fun hf => (a5 (by rw [hR.fuel hf]; exact hf)).trans (hR.fuel hf)⟩
    rw [hs]
    refine done_get_avoid _ _ _ (fun p hp => ?_)
    obtain ⟨k, _, rfl⟩ := homeWs_mem hp
    have := h.fr
    have := h.n
    show skip + k.toNat ≠ i
    omega
  · exact .inr a
/-- What home leaves. -/
def HomP (L : LSt) (D : DSt) (skip N T : Nat) (cs : List Img) (L' : LSt) (D' : DSt) (r : Int) : Prop :=
  (r = 0 ∧ PInv L' D' skip N cs.length cs [] ∧ L'.synced = cs.length ∧ D'.waits = [] ∧ (D.fuel < 0 → D'.fuel = D.fuel)) ∨
  (r = 10 ∧ L'.synced = L.synced ∧ D'.dead = true ∧ SafeP D' skip N cs L.synced ∧ 0 ≤ D.fuel) ∨
  (r = 10 ∧ L'.synced = cs.length ∧ D'.dead = true ∧ SafeP D' skip N cs cs.length ∧ 0 ≤ D.fuel)
/-- The trim, at last. -/
theorem home_trim {L : LSt} {D : DSt} {skip N T : Nat} {cs : List Img} (hi : Inv L D T (cs.map encC)) (hfr : L.fr = 0) (hn : L.n = skip) (hf : FullH D.secs skip N cs) (hw : D.waits = []) (hl : D.secs.length = skip + N) (hsy : L.synced = cs.length) (hok : ∀ c ∈ cs, EsOk N c) :
    ((L.trim D (cs.length : Nat)).2.2 = 0 ∧ PInv (L.trim D (cs.length : Nat)).1 (L.trim D (cs.length : Nat)).2.1 skip N cs.length cs [] ∧ (L.trim D (cs.length : Nat)).1.synced = cs.length ∧ (L.trim D (cs.length : Nat)).2.1.waits = [] ∧ (D.fuel < 0 → (L.trim D (cs.length : Nat)).2.1.fuel = D.fuel)) ∨
    ((L.trim D (cs.length : Nat)).2.2 = 10 ∧ (L.trim D (cs.length : Nat)).1 = { L with dead := true } ∧ (L.trim D (cs.length : Nat)).2.1.dead = true ∧ SafeP (L.trim D (cs.length : Nat)).2.1 skip N cs cs.length ∧ 0 ≤ D.fuel) := by
  have h2 := hi.ok.two
  have hTl : T ≤ cs.length := by have := hi.low; omega
  obtain ⟨f1, f2, f3⟩ := trim_frame hi (cs.length : Nat) skip (by omega) (by rw [hw]; intro p hp; cases hp)
  rcases trim_inv hi (cs.length : Nat) with ⟨a1, _⟩ | ⟨_, _, a3, a4, a5, a6, a7, a8, a9⟩ | ⟨_, _, a3, a4, a5, a6, a7⟩
  · omega
  · left
    rw [Int.toNat_natCast, Nat.max_eq_right hTl] at a4
    refine ⟨a3, ⟨a4, a6.trans hfr, a7.trans hn, f2.trans hl, f1, by rw [a8]; exact Nat.zero_le _, ?_, ?_, hok, EsOk.nil N⟩, a5.trans hsy, a8, a9⟩
    · rw [List.take_length]
      exact hf.congr (fun b _ => f3 _ (by omega))
    · intro b
      rw [List.drop_length]; rfl
  · right
    refine ⟨a3, a4, a5, ⟨f2.trans hl, fun keep => ?_⟩, a7⟩
    obtain ⟨t, s, ⟨ht, hs⟩, hb⟩ := a6 keep
    rw [hfr, hn] at hb
    rw [hsy] at hs
    subst hs
    refine ⟨t, cs.length, Nat.le_refl _, hb, ?_⟩
    have hfu : FullH (done (L.trim D (cs.length : Nat)).2.1.secs (kept (L.trim D (cs.length : Nat)).2.1.waits keep)) skip N (cs.take cs.length) := by
      rw [List.take_length]
      exact hf.congr (fun b _ => (out_get f1 keep _ (by omega)).trans (f3 _ (by omega)))
    exact hfu.old hb.1

/-! Open: what the batches tell, laid into a map. -/
def replay (es : Img) (c : Img) : Img := (sortK c).foldl (fun es k => putP es k (dataAt c k)) es
theorem look_puts (f : Int → Bytes) (b : Int) : ∀ (ks : List Int) (es : Img), lookB (ks.foldl (fun es k => putP es k (f k)) es) b = if b ∈ ks then some (f b) else lookB es b
  | [], es => by simp
  | k :: r, es => by
    rw [List.foldl_cons, look_puts f b r, lookB_putP]
    by_cases h1 : b ∈ r
    · simp [h1]
    · by_cases h2 : b = k
      · simp [h1, h2]
      · simp [h1, h2]
theorem look_replay (es c : Img) (b : Int) : lookB (replay es c) b = (lookB c b).or (lookB es b) := by
  rw [replay, look_puts]
  cases hq : lookB c b with
  | none =>
    have : ¬ b ∈ sortK c := fun h => (lookB_none_iff b c).1 hq ((sortK_mem c b).1 h)
    simp [this]
  | some x =>
    have : b ∈ sortK c := (sortK_mem c b).2 (Classical.byContradiction fun hn => by rw [(lookB_none_iff _ c).2 hn] at hq; cases hq)
    simp [this, dataAt, hq]
theorem EsOk.puts {N : Nat} (f : Int → Bytes) : ∀ (ks : List Int) (es : Img), EsOk N es → (∀ k ∈ ks, 0 ≤ k ∧ k < (N : Int) ∧ (f k).length = 512) → EsOk N (ks.foldl (fun es k => putP es k (f k)) es)
  | [], es, h, _ => h
  | k :: r, es, h, hk => by
    have := hk k (List.mem_cons_self ..)
    exact EsOk.puts f r _ (h.put this.1 this.2.1 this.2.2) (fun j hj => hk j (List.mem_cons_of_mem _ hj))
theorem EsOk.replay {N : Nat} {es c : Img} (h : EsOk N es) (hc : EsOk N c) : EsOk N (replay es c) :=
  EsOk.puts _ _ _ h (fun k hk => hc.data ((sortK_mem c k).1 hk))
def replays (cs : List Img) : Img := cs.foldl replay []
theorem look_replays (b : Int) : ∀ (cs : List Img) (es : Img), lookB (cs.foldl replay es) b = (lastC cs b).or (lookB es b)
  | [], es => by simp [lastC]
  | c :: r, es => by
    rw [List.foldl_cons, look_replays b r, look_replay, lastC_cons]
    cases lastC r b <;> simp
theorem EsOk.replays {N : Nat} : ∀ (cs : List Img) (es : Img), EsOk N es → (∀ c ∈ cs, EsOk N c) → EsOk N (cs.foldl Go.Proofs.YtihlijnobbonbaaGreat.replay es)
  | [], es, h, _ => h
  | c :: r, es, h, hc => EsOk.replays r _ (h.replay (hc c (List.mem_cons_self ..))) (fun x hx => hc x (List.mem_cons_of_mem _ hx))
theorem seg_map (cs : List Img) (T s : Nat) : seg (cs.map encC) T s = ((cs.take s).drop T).map encC := by rw [seg, ← List.map_take, ← List.map_drop]
/-- What home() finds when a pager is opened. -/
theorem open_pre {D : DSt} {skip N T s start : Nat} {cs : List Img} (hd : D.dead = false) (hT : T ≤ s) (hs : s ≤ cs.length) (hl : D.secs.length = skip + N) (hm : skip + N ≤ 4096) (hg : Good D.secs 0 skip start (T + 1) s (seg (cs.map encC) T s))
    (hw : ∀ p ∈ D.waits, p.1 < skip ∧ p.1 ≠ 0 ∧ ∀ i, i < needsB (seg (cs.map encC) T s) → p.1 ≠ ringAt 0 skip (start + i)) (hh : HomeOK D.secs skip N T s cs) (hok : ∀ c ∈ cs, EsOk N c) :
    PreH (LSt.opened 0 skip start (T + 1) s (seg (cs.map encC) T s)) D skip N T (cs.take s) (replays ((cs.take s).drop T)) := by
  have hi := opened_inv hd hT (by rw [List.length_map]; exact hs) (by omega) hg (fun p hp => (hw p hp).2)
  have hokT : ∀ c ∈ cs.take s, EsOk N c := fun c hc => hok c (List.mem_of_mem_take hc)
  have e1 : (cs.take s).take s = cs.take s := by rw [List.take_take, Nat.min_self]
  have e2 : (cs.take s).take T = cs.take T := by rw [List.take_take, Nat.min_eq_left hT]
  have e3 : (cs.take s).length = s := by rw [List.length_take, Nat.min_eq_left hs]
  have hh' : HomeOK D.secs skip N T s (cs.take s) := by
    intro b hb hn
    rw [e1] at hn
    rw [e2]
    exact hh b hb hn
  refine ⟨by rw [List.map_take]; exact hi, rfl, rfl, hl, fun p hp => (hw p hp).1, hh', by rw [e3]; exact hh', fun b => ?_, hokT, EsOk.replays _ _ (EsOk.nil N) (fun c hc => hokT c (List.mem_of_mem_drop hc))⟩
  rw [replays, look_replays]
  simp [lookB]
end Go.Proofs.YtihlijnobbonbaaGreat
