/- Pools: traces; what everybody has; the invariant; how it is kept, first part. -/
import Derived.Test.YtaceedenkmccdaaRows
import Derived.Conc.CrowdTrace
import Derived.Conc.Beside
import Derived.Conc.TokenTrace
import Derived.Conc.CrowdSel
import Derived.Conc.AtomicLaws2
import Derived.Conc.QuitsD
/- Many goroutines: what is held of the trace. Each has places of its own and places that it may read; some are shared, and touched by atomic steps alone. -/
namespace Go.Proofs.Ytaceedenkmccdaa
open Go Go.Conc Go.ConcN
set_option linter.unusedSimpArgs false
set_option linter.unusedVariables false
/-- How far a goroutine is: it may do anything; it has said its release (there, at that place of the trace); main knows all of it. -/
inductive HSt where
  | alive
  | rel (b : Addr) (r : Nat)
  | over
structure Tr (M R : Nat → Addr → Prop) (AT : Addr → Prop) (H : Nat → HSt) (n B : Nat) (t : Trace) : Prop where
  clean : ∀ said, ¬ Race said t
  mine : ∀ i a, M i a → Perm t i (.cell a)
  read : ∀ i a, R i a → PermW t i (.cell a)
  shared : ∀ a, AT a → ∀ idx x, touchAt t idx = some x → x.loc = .cell a → x.kind = .atomic ∨ (x.kind = .said ∧ t.g? idx = some 0)
  obj : ∀ idx x r, touchAt t idx = some x → x.loc = .obj r → x.kind = .atomic
  low : ∀ op ∈ t, op.act.low B
  norel : ∀ a, NoRelease a t
  who : ∀ op ∈ t, op.g < n
  rel : ∀ j b r, H j = .rel b r → RelBy b t j r
  relM : ∀ j b r a, H j = .rel b r → M j a → PermAt t (.cell a) r
  over : ∀ idx g, t.g? idx = some g → g ≠ 0 → H g = .over → t.counts idx → Knows t 0 idx
variable {M R M' R' : Nat → Addr → Prop} {AT AT' : Addr → Prop} {H H' : Nat → HSt} {n n' B B' : Nat} {t u : Trace}
/-- What a goroutine that is alive may list. -/
def OpOk (M R AT : Addr → Prop) (i B : Nat) (x : MemAct) : Prop :=
  (∀ y, x.touch? = some y → match y.loc with
    | .cell a => M a ∨ (R a ∧ y.write = false) ∨ (AT a ∧ (y.kind = .atomic ∨ (y.kind = .said ∧ i = 0)))
    | .obj _ => y.kind = .atomic
    | _ => True) ∧ (∀ a, x ≠ .mark (.release a)) ∧ x.low B
/-- .. and one that has released. -/
def OpMute (AT : Addr → Prop) (x : MemAct) (deaf : Prop) (B : Nat) : Prop :=
  (x.touch? = none ∨ ((∃ y a, x.touch? = some y ∧ y.loc = .cell a ∧ AT a ∧ y.kind = .atomic) ∧ deaf)) ∧ (∀ a, x ≠ .mark (.release a)) ∧ x.low B
theorem norel_app {a : Addr} (h : NoRelease a t) (hu : ∀ op ∈ u, op.act ≠ .mark (.release a)) : NoRelease a (t ++ u) := by
  intro i e
  unfold Trace.act? at e
  obtain ⟨op, ho, hoa⟩ := Option.map_eq_some_iff.1 e
  rcases getElem?_append_cases ho with ⟨hi, ho'⟩ | ⟨_, hou⟩
  · exact h i (by rw [act?_of ho', hoa])
  · exact hu op hou hoa
theorem touch_old_or {i : Nat} {x : Touch} (h : touchAt (t ++ u) i = some x) : (i < t.size ∧ touchAt t i = some x) ∨ (t.size ≤ i ∧ ∃ op ∈ u, op.act.touch? = some x ∧ (t ++ u)[i]? = some op) := by
  obtain ⟨op, ho, hx⟩ := touch_of h
  rcases getElem?_append_cases ho with ⟨hi, ho'⟩ | ⟨hi, hou⟩
  · exact .inl ⟨hi, by rw [touchAt_of ho']; exact hx⟩
  · exact .inr ⟨hi, op, hou, hx, ho⟩
theorem g_old_or {i g : Nat} (h : (t ++ u).g? i = some g) : (i < t.size ∧ t.g? i = some g) ∨ (t.size ≤ i ∧ ∃ op ∈ u, op.g = g ∧ (t ++ u)[i]? = some op) := by
  unfold Trace.g? at h
  obtain ⟨op, ho, hx⟩ := Option.map_eq_some_iff.1 h
  rcases getElem?_append_cases ho with ⟨hi, ho'⟩ | ⟨hi, hou⟩
  · exact .inl ⟨hi, by rw [Trace.g?, ho']; exact congrArg some hx⟩
  · exact .inr ⟨hi, op, hou, hx, ho⟩
theorem permAt_grow {l : Loc} {p : Nat} (h : PermAt t l p) (hu : ∀ op ∈ u, ∀ b, op.act.touch? = some b → b.loc ≠ l) : PermAt (t ++ u) l p := h.app hu
/-- Whose places lie apart. -/
structure Aparts (M R : Nat → Addr → Prop) (AT : Addr → Prop) : Prop where
  own : ∀ i j a, M i a → M j a → i = j
  read : ∀ i j a, M i a → R j a → i = j
  shared : ∀ i a, AT a → ¬ M i a ∧ ¬ R i a
/-- A goroutine that is alive goes on. -/
theorem Tr.step (h : Tr M R AT H n B t) (A : Aparts M R AT) {i : Nat} (hi : i < n) (hH : H i = .alive) (hB : B ≤ B') (hu : ∀ op ∈ u, op.g = i ∧ OpOk (M i) (R i) AT i B' op.act) : Tr M R AT H n B' (t ++ u) := by
  have hug : ∀ op ∈ u, op.g = i := fun op hop => (hu op hop).1
  refine ⟨fun said => noRace_append (g := i) (h.clean said) hug fun idx x hx op hop y hy hc => ?_, fun j a ha => ?_, fun j a ha => ?_, fun a ha idx x hx hl => ?_, fun idx x r hx hl => ?_, fun op hop => ?_, fun a => norel_app (h.norel a) fun op hop => (hu op hop).2.2.1 a, fun op hop => ?_, fun j b r hj => ?_, fun j b r a hj ha => ?_, fun idx g hg h0 hov hc => ?_⟩
  · obtain ⟨hloc, hmem, hwr, hkind⟩ := hc
    have hop2 := (hu op hop).2.1 y hy
    revert hop2
    cases hyl : y.loc with
    | cell a =>
      rintro (hm | ⟨hr, hw⟩ | ⟨hat, hk⟩)
      · exact h.mine i a hm idx x hx (hloc.trans hyl)
      · rw [hw] at hwr
        exact h.read i a hr idx x hx (hloc.trans hyl) (by simpa using hwr)
      · rcases h.shared a hat idx x hx (hloc.trans hyl) with h1 | ⟨h1, h2⟩
        · rcases hk with hk | ⟨hk, _⟩
          · rw [h1, hk] at hkind; rcases hkind with e | e | ⟨_, e, _⟩ <;> cases e
          · rw [h1, hk] at hkind; rcases hkind with e | e | ⟨_, e, _⟩ <;> cases e
        · rcases hk with hk | ⟨hk, h0⟩
          · rw [h1, hk] at hkind; rcases hkind with e | e | ⟨_, _, e⟩ <;> cases e
          · subst h0
            obtain ⟨z, hz, _⟩ := touch_of hx
            have := knows_own hz
            have e : z.g = 0 := by simpa [Trace.g?, hz] using h2
            rw [e] at this
            exact this
    | obj r =>
      intro hk
      have h1 := h.obj idx x r hx (hloc.trans hyl)
      rw [h1, hk] at hkind; rcases hkind with e | e | ⟨_, e, _⟩ <;> cases e
    | output => intro; rw [hloc, hyl] at hmem; cases hmem
    | goroutines => intro; rw [hloc, hyl] at hmem; cases hmem
    | mark m => intro; rw [hloc, hyl] at hmem; cases hmem
  · refine (h.mine j a ha).app fun op hop b hb hl => ?_
    have hop2 := (hu op hop).2.1 b hb
    rw [hl] at hop2
    rw [hug op hop]
    rcases hop2 with hm | ⟨hr, _⟩ | ⟨hat, _⟩
    · exact A.own _ _ _ hm ha
    · exact (A.read _ _ _ ha hr).symm
    · exact absurd ha (A.shared j a hat).1
  · refine (h.read j a ha).app fun op hop b hb hl hw => ?_
    have hop2 := (hu op hop).2.1 b hb
    rw [hl] at hop2
    rw [hug op hop]
    rcases hop2 with hm | ⟨_, hw'⟩ | ⟨hat, _⟩
    · exact A.read _ _ _ hm ha
    · rw [hw] at hw'; cases hw'
    · exact absurd ha (A.shared j a hat).2
  · rcases touch_old_or hx with ⟨hlt, hx'⟩ | ⟨_, op, hop, hxo, ho⟩
    · exact (h.shared a ha idx x hx' hl).imp id fun ⟨e1, e2⟩ => ⟨e1, by rw [g?_old hlt]; exact e2⟩
    · have hop2 := (hu op hop).2.1 x hxo
      rw [hl] at hop2
      rcases hop2 with hm | ⟨hr, _⟩ | ⟨_, hk⟩
      · exact absurd hm (A.shared i a ha).1
      · exact absurd hr (A.shared i a ha).2
      · exact hk.imp id fun ⟨e1, e2⟩ => ⟨e1, by rw [Trace.g?, ho]; show some op.g = some 0; rw [hug op hop, e2]⟩
  · rcases touch_old_or hx with ⟨_, hx'⟩ | ⟨_, op, hop, hxo, _⟩
    · exact h.obj idx x r hx' hl
    · have hop2 := (hu op hop).2.1 x hxo
      rw [hl] at hop2
      exact hop2
  · rcases Array.mem_append.1 hop with h' | h'
    · exact MemAct.low_mono hB (h.low op h')
    · exact (hu op h').2.2.2
  · rcases Array.mem_append.1 hop with h' | h'
    · exact h.who op h'
    · rw [hug op h']; exact hi
  · refine (h.rel j b r hj).appOther hug fun e => ?_
    rw [e] at hH
    rw [hH] at hj; cases hj
  · refine (h.relM j b r a hj ha).app fun op hop y hy hl => ?_
    have hop2 := (hu op hop).2.1 y hy
    rw [hl] at hop2
    have hne : i ≠ j := fun e => by rw [e, hj] at hH; cases hH
    rcases hop2 with hm | ⟨hr, _⟩ | ⟨hat, _⟩
    · exact hne (A.own _ _ _ hm ha)
    · exact hne (A.read _ _ _ ha hr).symm
    · exact (A.shared j a hat).1 ha
  · rcases g_old_or hg with ⟨hlt, hg'⟩ | ⟨_, op, hop, hgo, _⟩
    · exact (h.over idx g hg' h0 hov ((counts_old hlt).1 hc)).app u
    · rw [hug op hop] at hgo
      rw [← hgo, hH] at hov; cases hov
/-- Who owns what is laid anew. -/
theorem Tr.relabel (h : Tr M R AT H n B t) (hM : ∀ i a, M' i a → Perm t i (.cell a)) (hR : ∀ i a, R' i a → PermW t i (.cell a)) (hA : ∀ a, AT' a → ∀ idx x, touchAt t idx = some x → x.loc = .cell a → x.kind = .atomic ∨ (x.kind = .said ∧ t.g? idx = some 0))
    (hrM : ∀ j b r a, H j = .rel b r → M' j a → PermAt t (.cell a) r) : Tr M' R' AT' H n B t :=
  ⟨h.clean, hM, hR, hA, h.obj, h.low, h.norel, h.who, h.rel, hrM, h.over⟩
/-- Nobody has touched a new block. -/
theorem Tr.fresh (h : Tr M R AT H n B t) {a : Addr} (ha : B ≤ a.block) {idx : Nat} {x : Touch} (hx : touchAt t idx = some x) : x.loc ≠ .cell a := by
  intro hl
  obtain ⟨op, ho, hxo⟩ := touch_of hx
  have hlow := h.low op (mem_of_getElem? ho)
  obtain ⟨g, fn, pos, act⟩ := op
  simp only at hxo hlow
  cases act with
  | access e =>
    simp only [MemAct.touch?, Option.some.injEq] at hxo
    subst hxo
    simp only at hl
    simp only [MemAct.low, hl, Loc.low] at hlow
    omega
  | mark m =>
    cases m <;> simp only [MemAct.touch?] at hxo <;> first | (cases hxo; done) | skip
    all_goals (
      simp only [Option.some.injEq] at hxo
      subst hxo
      simp only [Loc.cell.injEq] at hl
      subst hl
      simp only [MemAct.low] at hlow
      omega)
  | _ => simp [MemAct.touch?] at hxo
theorem Tr.fresh_perm (h : Tr M R AT H n B t) {a : Addr} (ha : B ≤ a.block) (i : Nat) : Perm t i (.cell a) := fun _ _ hx hl => absurd hl (h.fresh ha hx)
theorem Tr.mono (h : Tr M R AT H n B t) (hB : B ≤ B') : Tr M R AT H n B' t :=
  ⟨h.clean, h.mine, h.read, h.shared, h.obj, fun op hop => MemAct.low_mono hB (h.low op hop), h.norel, h.who, h.rel, h.relM, h.over⟩
/-- Words that touch nothing, of whomever. -/
theorem Tr.mute (h : Tr M R AT H n B t) (hu : ∀ op ∈ u, op.g < n ∧ op.act.touch? = none ∧ (∀ a, op.act ≠ .mark (.release a)) ∧ op.act.low B) : Tr M R AT H n B (t ++ u) := by
  have hno : ∀ op ∈ u, op.act.touch? = none := fun op hop => (hu op hop).2.1
  have old : ∀ {i : Nat} {x : Touch}, touchAt (t ++ u) i = some x → i < t.size ∧ touchAt t i = some x := fun hx => (touch_old_or hx).elim id fun ⟨_, op, hop, hxo, _⟩ => by rw [hno op hop] at hxo; cases hxo
  have hcnt : ∀ i, t.size ≤ i → ¬ (t ++ u).counts i := fun i hi ⟨x, hx, _⟩ => absurd (old hx).1 (by omega)
  refine ⟨fun said => noRace_appendMute (h.clean said) hno, fun j a ha => (h.mine j a ha).app fun op hop b hb _ => (by rw [hno op hop] at hb; cases hb), fun j a ha => (h.read j a ha).app fun op hop b hb _ _ => (by rw [hno op hop] at hb; cases hb),
    fun a ha idx x hx hl => ?_, fun idx x r hx hl => h.obj idx x r (old hx).2 hl, fun op hop => ?_, fun a => norel_app (h.norel a) fun op hop => (hu op hop).2.2.1 a, fun op hop => ?_, fun j b r hj => (h.rel j b r hj).app fun i hi _ => hcnt i hi,
    fun j b r a hj ha => (h.relM j b r a hj ha).app fun op hop b hb _ => (by rw [hno op hop] at hb; cases hb), fun idx g hg h0 hov hc => ?_⟩
  · exact (h.shared a ha idx x (old hx).2 hl).imp id fun ⟨e1, e2⟩ => ⟨e1, by rw [g?_old (old hx).1]; exact e2⟩
  · exact (Array.mem_append.1 hop).elim (h.low op) fun h' => (hu op h').2.2.2
  · exact (Array.mem_append.1 hop).elim (h.who op) fun h' => (hu op h').1
  · have hlt : idx < t.size := Nat.lt_of_not_le fun hle => hcnt idx hle hc
    exact (h.over idx g (by rw [← g?_old (u := u) hlt]; exact hg) h0 hov ((counts_old hlt).1 hc)).app u
/-- A go statement of main's. -/
theorem Tr.fork (h : Tr M R AT H n B t) (hn : 0 < n) {x y : MemOp} (hx : x.g = 0 ∧ x.act = .go n) (hy : y.g = n ∧ y.act = .start) (h0 : Deaf t 0 = 0)
    (hM : ∀ i a, M' i a → Perm t i (.cell a) ∨ (i = n ∧ Perm t 0 (.cell a))) (hR : ∀ i a, R' i a → PermW t i (.cell a) ∨ (i = n ∧ PermW t 0 (.cell a)))
    (hHn : H n = .alive) (hrM : ∀ j b r a, H j = .rel b r → M' j a → M j a) : Tr M' R' AT H (n + 1) B (t ++ #[x, y]) := by
  have hk : Deaf t n = 0 := Deaf_absent fun i op hi e => by have := h.who op (mem_of_getElem? hi); omega
  have hm : ∀ op ∈ #[x, y], op.act.touch? = none ∧ (∀ a, op.act ≠ .mark (.release a)) ∧ op.act.low B := by
    intro op hop
    simp only [List.mem_toArray, List.mem_cons, List.not_mem_nil, or_false] at hop
    rcases hop with rfl | rfl
    · rw [hx.2]; exact ⟨rfl, fun a e => (by cases e), trivial⟩
    · rw [hy.2]; exact ⟨rfl, fun a e => (by cases e), trivial⟩
  have h1 : Tr M R AT H (n + 1) B t := ⟨h.clean, h.mine, h.read, h.shared, h.obj, h.low, h.norel, fun op hop => Nat.lt_succ_of_lt (h.who op hop), h.rel, h.relM, h.over⟩
  have h2 := h1.mute (u := #[x, y]) fun op hop => ⟨by
    simp only [List.mem_toArray, List.mem_cons, List.not_mem_nil, or_false] at hop
    rcases hop with rfl | rfl
    · rw [hx.1]; omega
    · rw [hy.1]; omega, hm op hop⟩
  have old : ∀ {i : Nat} {a : Touch}, touchAt (t ++ #[x, y]) i = some a → touchAt t i = some a := fun hx' => (touch_old_or hx').elim (·.2) fun ⟨_, op, hop, hxo, _⟩ => by rw [(hm op hop).1] at hxo; cases hxo
  refine h2.relabel (fun i a ha => ?_) (fun i a ha => ?_) h2.shared fun j b r a hj ha => h2.relM j b r a hj (hrM j b r a hj ha)
  · rcases hM i a ha with hp | ⟨rfl, hp⟩
    · exact hp.app fun op hop b hb _ => by rw [(hm op hop).1] at hb; cases hb
    · exact fun idx z hz hl => fork_knows hx hy h0 hk (hp idx z (old hz) hl)
  · rcases hR i a ha with hp | ⟨rfl, hp⟩
    · exact hp.app fun op hop b hb _ _ => by rw [(hm op hop).1] at hb; cases hb
    · exact fun idx z hz hl hw => fork_knows hx hy h0 hk (hp idx z (old hz) hl hw)
/-- A goroutine says its release, hearing. -/
theorem Tr.release (h : Tr M R AT H n B t) {i : Nat} (hi : i < n) (h0 : i ≠ 0) (hH : H i = .alive) {b : Addr} (hb : b.block < B) (hd : Deaf t i = 0) (fn : FuncId) (pos : String) :
    Tr M R AT (fun j => if j = i then .rel b t.size else H j) n B (t ++ MemOp.ofEvents i fn pos #[Go.ConcR.mk (.releaseMerge b)]) := by
  have hu : MemOp.ofEvents i fn pos #[Go.ConcR.mk (.releaseMerge b)] = #[{ g := i, fn, pos, act := .mark (.releaseMerge b) }] := by rw [ofEvents_eq]; simp [Go.ConcR.ofEvent_mk]
  have h2 := h.mute (u := MemOp.ofEvents i fn pos #[Go.ConcR.mk (.releaseMerge b)]) fun op hop => by
    rw [hu] at hop
    simp only [List.mem_toArray, List.mem_cons, List.not_mem_nil, or_false] at hop
    subst hop
    exact ⟨hi, rfl, fun a e => (by cases e), hb⟩
  have hr := RelBy.new (a := b) hd fn pos
  refine ⟨h2.clean, h2.mine, h2.read, h2.shared, h2.obj, h2.low, h2.norel, h2.who, fun j b' r hj => ?_, fun j b' r a hj ha => ?_, fun idx g hg hg0 hov hc => ?_⟩
  · by_cases e : j = i
    · simp only [e, if_true] at hj
      cases hj
      rw [e]; exact hr
    · simp only [e, if_false] at hj
      exact h2.rel j b' r hj
  · by_cases e : j = i
    · simp only [e, if_true] at hj
      cases hj
      subst e
      rw [hu]
      refine (h.mine j a ha).release rfl fun y hy => ?_
      cases hy
    · simp only [e, if_false] at hj
      exact h2.relM j b' r a hj ha
  · by_cases e : g = i
    · simp only [e, if_true] at hov; cases hov
    · simp only [e, if_false] at hov
      exact h2.over idx g hg hg0 hov hc
/-- A goroutine that has released goes on: deaf, by atomic steps on shared places. -/
theorem Tr.stepRel (h : Tr M R AT H n B t) (A : Aparts M R AT) {i : Nat} (hi : i < n) {b : Addr} {r : Nat} (hH : H i = .rel b r) (fn : FuncId) (pos : String) (es : Array Event)
    (hes : ∀ j e, es[j]? = some e → ((MemAct.ofEvent e).touch? = none ∨ ((∃ ad wr, e = ⟨.cell ad, wr, true⟩ ∧ AT ad) ∧ 0 < deafBehind (Deaf t i) (es.extract 0 j))) ∧ (∀ a, MemAct.ofEvent e ≠ .mark (.release a)) ∧ (MemAct.ofEvent e).low B) :
    Tr M R AT H n B (t ++ MemOp.ofEvents i fn pos es) := by
  have hmem : ∀ op ∈ MemOp.ofEvents i fn pos es, ∃ j e, es[j]? = some e ∧ op = { g := i, fn, pos, act := .ofEvent e } := fun op hop => by
    obtain ⟨e, he, rfl⟩ := Go.Conc.mem_ofEvents hop
    obtain ⟨j, hj, rfl⟩ := Array.mem_iff_getElem.1 he
    exact ⟨j, _, Array.getElem?_eq_getElem hj, rfl⟩
  have hug : ∀ op ∈ MemOp.ofEvents i fn pos es, op.g = i := fun op hop => by obtain ⟨_, _, _, rfl⟩ := hmem op hop; rfl
  have hat : ∀ op ∈ MemOp.ofEvents i fn pos es, ∀ y, op.act.touch? = some y → ∃ a, y.loc = .cell a ∧ AT a ∧ y.kind = .atomic := fun op hop y hy => by
    obtain ⟨j, e, he, rfl⟩ := hmem op hop
    rcases (hes j e he).1 with h1 | ⟨⟨ad, wr, rfl, ha⟩, _⟩
    · simp only [h1] at hy; cases hy
    · simp only [Go.ConcR.ofEvent_cell, MemAct.touch?, Option.some.injEq] at hy
      subst hy
      exact ⟨ad, rfl, ha, by simp⟩
  refine ⟨fun said => noRace_append (g := i) (h.clean said) hug fun idx x hx op hop y hy hc => ?_, fun j a ha => ?_, fun j a ha => ?_, fun a ha idx x hx hl => ?_, fun idx x r hx hl => ?_, fun op hop => ?_, fun a => norel_app (h.norel a) fun op hop => ?_, fun op hop => ?_, fun j b' r' hj => ?_, fun j b' r' a hj ha => ?_, fun idx g hg h0 hov hc => ?_⟩
  · obtain ⟨hloc, hm, hwr, hkind⟩ := hc
    obtain ⟨a, hl, ha, hk⟩ := hat op hop y hy
    rcases h.shared a ha idx x hx (hloc.trans hl) with h1 | ⟨h1, _⟩
    · rw [h1, hk] at hkind; rcases hkind with e | e | ⟨_, e, _⟩ <;> cases e
    · rw [h1, hk] at hkind; rcases hkind with e | e | ⟨_, _, e⟩ <;> cases e
  · refine (h.mine j a ha).app fun op hop y hy hl => ?_
    obtain ⟨a', hl', ha', _⟩ := hat op hop y hy
    rw [hl'] at hl; cases hl
    exact absurd ha (A.shared j a ha').1
  · refine (h.read j a ha).app fun op hop y hy hl _ => ?_
    obtain ⟨a', hl', ha', _⟩ := hat op hop y hy
    rw [hl'] at hl; cases hl
    exact absurd ha (A.shared j a ha').2
  · rcases touch_old_or hx with ⟨hlt, hx'⟩ | ⟨_, op, hop, hxo, ho⟩
    · exact (h.shared a ha idx x hx' hl).imp id fun ⟨e1, e2⟩ => ⟨e1, by rw [g?_old hlt]; exact e2⟩
    · obtain ⟨_, _, _, hk⟩ := hat op hop x hxo
      exact .inl hk
  · rcases touch_old_or hx with ⟨_, hx'⟩ | ⟨_, op, hop, hxo, _⟩
    · exact h.obj idx x r hx' hl
    · obtain ⟨a, hl', _, _⟩ := hat op hop x hxo
      rw [hl'] at hl; cases hl
  · rcases Array.mem_append.1 hop with h' | h'
    · exact h.low op h'
    · obtain ⟨j, e, he, rfl⟩ := hmem op h'
      exact (hes j e he).2.2
  · obtain ⟨j, e, he, rfl⟩ := hmem op hop
    exact (hes j e he).2.1 a
  · rcases Array.mem_append.1 hop with h' | h'
    · exact h.who op h'
    · rw [hug op h']; exact hi
  · by_cases e : i = j
    · subst e
      exact (h.rel i b' r' hj).appOwn fn pos es fun k e he => (hes k e he).1.imp id fun ⟨⟨ad, wr, e1, _⟩, e2⟩ => ⟨⟨ad, wr, e1⟩, e2⟩
    · exact (h.rel j b' r' hj).appOther hug e
  · refine (h.relM j b' r' a hj ha).app fun op hop y hy hl => ?_
    obtain ⟨a', hl', ha', _⟩ := hat op hop y hy
    rw [hl'] at hl; cases hl
    exact (A.shared j a ha').1 ha
  · rcases g_old_or hg with ⟨hlt, hg'⟩ | ⟨_, op, hop, hgo, _⟩
    · exact (h.over idx g hg' h0 hov ((counts_old hlt).1 hc)).app _
    · rw [hug op hop] at hgo
      rw [← hgo, hH] at hov; cases hov
/-- Main says 'acquire', hearing: it knows all of those that released there. -/
theorem Tr.acquire (h : Tr M R AT H n B t) (hn : 0 < n) (h00 : H 0 = .alive) {b : Addr} (hb : b.block < B) (hd : Deaf t 0 = 0) (fn : FuncId) (pos : String) :
    Tr (fun i a => M i a ∨ (i = 0 ∧ ∃ j r, H j = .rel b r ∧ M j a)) R AT (fun j => match H j with | .rel b' r => if b' = b then .over else .rel b' r | x => x) n B (t ++ MemOp.ofEvents 0 fn pos #[Go.ConcR.mk (.acquire b)]) := by
  have hu : MemOp.ofEvents 0 fn pos #[Go.ConcR.mk (.acquire b)] = #[{ g := 0, fn, pos, act := .mark (.acquire b) }] := by rw [ofEvents_eq]; simp [Go.ConcR.ofEvent_mk]
  have h2 := h.mute (u := MemOp.ofEvents 0 fn pos #[Go.ConcR.mk (.acquire b)]) fun op hop => by
    rw [hu] at hop
    simp only [List.mem_toArray, List.mem_cons, List.not_mem_nil, or_false] at hop
    subst hop
    exact ⟨hn, rfl, fun a e => (by cases e), hb⟩
  have hq : (t ++ MemOp.ofEvents 0 fn pos #[Go.ConcR.mk (.acquire b)])[t.size]? = some { g := 0, fn, pos, act := .mark (.acquire b) } := by rw [hu]; simp
  have hqh : (t ++ MemOp.ofEvents 0 fn pos #[Go.ConcR.mk (.acquire b)]).heard t.size := ⟨0, by simp [Trace.g?, hq], by rw [deaf_old (Nat.le_refl _)]; exact hd⟩
  have key : ∀ j r, H j = .rel b r → Knows (t ++ MemOp.ofEvents 0 fn pos #[Go.ConcR.mk (.acquire b)]) 0 r := fun j r hj => by
    have hr := h2.rel j b r hj
    have hlt : r < t.size := lt_of_act? (h.rel j b r hj).act
    exact ⟨t.size, _, hq, rfl, .inr (.single (.inr ⟨.marked hlt (.inr hr.act) (act?_of hq) (fun k _ _ => h2.norel b k), hr.heard, hqh⟩))⟩
  refine ⟨h2.clean, fun i a ha => ?_, h2.read, h2.shared, h2.obj, h2.low, h2.norel, h2.who, fun j b' r hj => ?_, fun j b' r a hj ha => ?_, fun idx g hg hg0 hov hc => ?_⟩
  · rcases ha with ha | ⟨rfl, j, r, hj, ha⟩
    · exact h2.mine i a ha
    · exact (h2.relM j b r a hj ha).acquire (key j r hj)
  · cases hH : H j with
    | alive => simp only [hH] at hj; cases hj
    | over => simp only [hH] at hj; cases hj
    | rel b0 r0 =>
      simp only [hH] at hj
      by_cases e : b0 = b
      · rw [if_pos e] at hj; cases hj
      · rw [if_neg e] at hj
        cases hj
        exact h2.rel j _ _ hH
  · cases hH : H j with
    | alive => simp only [hH] at hj; cases hj
    | over => simp only [hH] at hj; cases hj
    | rel b0 r0 =>
      simp only [hH] at hj
      by_cases e : b0 = b
      · rw [if_pos e] at hj; cases hj
      · rw [if_neg e] at hj
        cases hj
        rcases ha with ha | ⟨rfl, _⟩
        · exact h2.relM j _ _ a hH ha
        · rw [h00] at hH; cases hH
  · cases hH : H g with
    | alive => simp only [hH] at hov; cases hov
    | over => exact h2.over idx g hg hg0 hH hc
    | rel b0 r0 =>
      simp only [hH] at hov
      by_cases e : b0 = b
      · subst e
        have hr := h2.rel g _ _ hH
        have hle : idx ≤ r0 := Nat.le_of_not_lt fun hlt => hr.after idx hlt hg hc
        rcases Nat.lt_or_ge idx r0 with hlt | hge
        · exact Knows.of_before (.inr (.single (.inl ⟨hlt, g, hg, hr.g⟩))) (key g r0 hH)
        · have : idx = r0 := by omega
          rw [this]; exact key g r0 hH
      · rw [if_neg e] at hov; cases hov
/-- All is handed over, where main knows all. -/
theorem Tr.handedOver (h : Tr M R AT H n B t) (hall : ∀ j, 0 < j → j < n → H j = .over) : t.HandedOver := by
  intro i g hg h0 hc
  have hgn : g < n := by
    unfold Trace.g? at hg
    obtain ⟨op, ho, rfl⟩ := Option.map_eq_some_iff.1 hg
    exact h.who op (mem_of_getElem? ho)
  obtain ⟨q, z, hz, hzg, hb⟩ := h.over i g hg h0 (hall g (by omega) hgn) hc
  have hz' : t.g? q = some 0 := by simp [Trace.g?, hz, hzg]
  rcases hb with rfl | hb
  · rw [hz'] at hg; cases hg; exact absurd rfl h0
  · exact ⟨q, hz', hb⟩
theorem Tr.start (w : World) : Tr (fun i a => i = 0 ∧ True) (fun _ _ => False) (fun _ => False) (fun _ => .alive) 1 B #[] :=
  ⟨fun said ⟨i, j, h⟩ => by obtain ⟨_, ⟨a, b, ha, _⟩, _⟩ := h; simp [Trace.act?] at ha, fun i a _ idx x hx => by simp [touchAt, Trace.act?] at hx, fun _ _ h => h.elim, fun _ h => h.elim, fun idx x r hx => by simp [touchAt, Trace.act?] at hx, fun op hop => by simp at hop, fun a i => by simp [Trace.act?], fun op hop => by simp at hop,
    fun _ _ _ h => (by cases h), fun _ _ _ _ h => (by cases h), fun idx g hg => by simp [Trace.g?] at hg⟩
end Go.Proofs.Ytaceedenkmccdaa
/- Pools, in plain words: what each goroutine is, what it owns, and what is held of the world while they all go. -/
namespace Go.Proofs.Ytaceedenkmccdaa
open Go Go.Conc Go.ConcN
set_option linter.unusedSimpArgs false
set_option linter.unusedVariables false
abbrev KW : Int := 4294967296
def ca (b i : Nat) : Addr := ⟨b, i, none⟩
/-- A pool: its block, its two channels, the function. -/
structure PoolG where
  b : Nat
  ci : Nat
  ce : Nat
  fn : Nat
/-- A call of All: the pool (if any) and whether it is closed; the blocks of the group, of the counter, of the answers; the questions. -/
structure AllG where
  p : Option PoolG
  cl : Bool
  bw : Nat
  bn : Nat
  bo : Nat
  items : List Int
/-- What main knows: the pools; which are closed, ready, waited for; how many questions each has taken; the call of All under way, and how many were started for it; the group at which main is registered; the group that has been counted up for one who is not started yet. -/
structure MainR where
  ps : List PoolG
  cl : Nat → Bool
  rd : Nat → Bool
  fin : Nat → Bool
  asks : Nat → Int
  al : Option (AllG × Nat)
  reg : Option Addr
  pnd : Option Addr
  nw : List Nat
  ws : Nat → Nat
  dn : Option (Addr × Nat)
/-- A question under way: where its answer goes; has it been taken? -/
structure QSt where
  p : PoolG
  c : Nat
  v : Int
  sent : Bool
inductive Role where
  | main (m : MainR)
  | worker (p : PoolG) (job : Option (Nat × Int × Bool))
  | asker (A : AllG) (zs : List Nat) (cur : Option (Nat × Bool)) (failed : Bool)
  | left (wa : Addr) (zs : List Nat) (failed : Bool) (stage : Nat)
def Role.m : Role → MainR | .main m => m | _ => ⟨[], fun _ => false, fun _ => false, fun _ => false, fun _ => 0, none, none, none, [], fun _ => 0, none⟩
def sem (wa : Addr) : Addr := ⟨wa.block, wa.off + 1, none⟩
def handsA (p : PoolG) : Addr := ca p.b 3
def groupA (A : AllG) : Addr := ca A.bw 0
/-- Is it counted by the group? -/
def Role.holds (wa : Addr) : Role → Bool
  | .worker p _ => decide (handsA p = wa)
  | .asker A _ _ _ => decide (groupA A = wa)
  | _ => false
/-- How far is it in freeing who waits? -/
def Role.lastS (wa : Addr) : Role → Nat
  | .left wa' _ _ s => if wa' = wa then s else 0
  | _ => 0
def Role.failed : Role → Bool
  | .asker _ _ _ f => f
  | .left _ _ f _ => f
  | _ => false
def Role.inAll (A : AllG) : Role → Bool
  | .asker A' _ _ _ => decide (groupA A' = groupA A)
  | .left wa _ _ _ => decide (wa = groupA A)
  | _ => false
def Role.zs (A : AllG) : Role → List Nat
  | .asker A' zs _ _ => if groupA A' = groupA A then zs else []
  | .left wa zs _ _ => if wa = groupA A then zs else []
  | _ => []
def Role.unsent : Role → Bool
  | .asker _ _ (some (_, false)) _ => true
  | _ => false
def Role.pend (p : PoolG) : Role → Bool
  | .worker p' (some (_, _, false)) => decide (p'.b = p.b)
  | _ => false
/-- No group's place. -/
def dead : Addr := ⟨0, 99, none⟩
/-- A channel is closed. -/
def ShutCh (w : World) (c : Nat) : Prop := ∃ cap buf s r tm, w.heap[c]? = some (.chan cap buf true s r tm)
theorem shut_keep {w w' : World} {cb cap s r : Nat} {buf : Array Value} {tm : Bool} (hch : w.heap[cb]? = some (.chan cap buf false s r tm)) (hoth : ∀ c', c' ≠ cb → w'.heap[c']? = w.heap[c']?) : ∀ c, ShutCh w c → ShutCh w' c := by
  rintro c ⟨cap', buf', s', r', tm', e⟩
  have hc : c ≠ cb := fun x => by rw [x, hch] at e; cases e
  exact ⟨cap', buf', s', r', tm', by rw [hoth c hc]; exact e⟩
/-- What a goroutine has: cells of its own, cells that it may read, cells of its own that nobody has touched, what it knows of the world by them, how far it is, how deaf. -/
structure Lo where
  M : Addr → Prop
  R : Addr → Prop
  V : Addr → Prop
  S : World → Prop
  sup : ∀ w w' : World, (∀ a, M a ∨ R a → w'.cell? a = w.cell? a ∧ w'.frozen? a = w.frozen? a) → (∀ c, ShutCh w c → ShutCh w' c) → S w → S w'
  h : HSt
  d : Nat
  role : Role
  q : Option QSt
def Lo.nil : Lo := ⟨fun _ => False, fun _ => False, fun _ => False, fun _ => True, fun _ _ _ _ _ => trivial, .alive, 0, .left dead [] false 0, none⟩
def cnt (n : Nat) (f : Nat → Bool) : Nat := sumTo n fun i => if f i = true then 1 else 0
theorem cnt_upd {α : Type} (f : Nat → α) (x : α) (φ : α → Bool) {i n : Nat} (hi : i < n) : cnt n (fun a => φ (upd f i x a)) + (if φ (f i) = true then 1 else 0) = cnt n (fun a => φ (f a)) + (if φ x = true then 1 else 0) :=
  sumTo_upd f x (fun a => if φ a = true then 1 else 0) hi
theorem cnt_pos {n : Nat} {f : Nat → Bool} {i : Nat} (hi : i < n) (h : f i = true) : 1 ≤ cnt n f := by
  have := le_sumTo (f := fun i => if f i = true then 1 else 0) hi
  simp only [h, if_true] at this
  exact this
theorem cnt_none {n : Nat} {f : Nat → Bool} (h : ∀ i, i < n → f i = false) : cnt n f = 0 := by
  unfold cnt
  rw [sumTo_congr (g := fun _ => 0) (fun i hi => by rw [h i hi]; rfl)]
  induction n with
  | zero => rfl
  | succ n ih => simp only [sumTo]; rw [ih fun i hi => h i (by omega)]
theorem cnt_some {n : Nat} {f : Nat → Bool} (h : 1 ≤ cnt n f) : ∃ i, i < n ∧ f i = true := by
  apply Classical.byContradiction
  intro hn
  have : cnt n f = 0 := cnt_none fun i hi => by
    cases hf : f i with
    | false => rfl
    | true => exact absurd ⟨i, hi, hf⟩ hn
  omega
theorem cnt_congr {n : Nat} {f g : Nat → Bool} (h : ∀ i, i < n → f i = g i) : cnt n f = cnt n g := sumTo_congr fun i hi => by rw [h i hi]
theorem cnt_le {n : Nat} {f g : Nat → Bool} (h : ∀ i, i < n → f i = true → g i = true) : cnt n f ≤ cnt n g := by
  unfold cnt
  induction n with
  | zero => exact Nat.le_refl _
  | succ n ih =>
    simp only [sumTo]
    have h1 := ih fun i hi => h i (by omega)
    have h2 := h n (by omega)
    cases hf : f n with
    | false => simp only [Bool.false_eq_true, if_false]; omega
    | true => simp only [h2 hf, if_true]; omega
theorem cnt_succ (n : Nat) (f : Nat → Bool) : cnt (n + 1) f = cnt n f + (if f n = true then 1 else 0) := rfl
/-- How many blocks there were when all began. -/
structure Base where
  num : Nat
/-- .. as everybody has it. -/
def Base.B [Inhabited Base] : Nat := (default : Base).num
/-- An object, but for what its cells hold. -/
def kindOf : Option Obj → Option Obj
  | some (.cells c t fr) => some (.cells (Array.replicate c.size undef) t fr)
  | o => o
/-- Of what was there when all began, nothing but cells' contents has turned. -/
structure Aged [Inhabited Base] (w w' : World) : Prop where
  os : w'.os = w.os
  out : w'.output = w.output
  tape : w'.tape = w.tape
  old : ∀ k o, k < Base.B → w.heap[k]? = some o → kindOf w'.heap[k]? = kindOf (some o)
theorem Aged.refl [Inhabited Base] (w : World) : Aged w w := ⟨rfl, rfl, rfl, fun _ _ _ e => congrArg kindOf e⟩
theorem Aged.trans [Inhabited Base] {a b c : World} (h : Aged a b) (k : Aged b c) : Aged a c := ⟨k.os.trans h.os, k.out.trans h.out, k.tape.trans h.tape, fun i o hi e => by
  have h1 := h.old i o hi e
  cases hb : b.heap[i]? with
  | none => rw [hb] at h1; cases o <;> simp [kindOf] at h1
  | some o' =>
    rw [k.old i o' hi hb, ← h1, hb]⟩
theorem Aged.at [Inhabited Base] (w : World) (d : Nat) : Aged w (w.at d) := ⟨rfl, rfl, rfl, fun _ _ _ e => congrArg kindOf e⟩
theorem Aged.setCell [Inhabited Base] (w : World) (a : Addr) (v : Value) : Aged w (w.setCell a v) := ⟨rfl, rfl, rfl, fun k o _ hk => by
  simp only [World.setCell, Array.getElem?_modify]
  split
  · rw [hk]
    cases o <;> simp [kindOf] <;> split <;> simp
  · rw [hk]⟩
theorem Aged.alloc [Inhabited Base] (w : World) (o : Obj) : Aged w (w.alloc o) := ⟨rfl, rfl, rfl, fun k o' _ hk => by
  obtain ⟨hlt, _⟩ := Array.getElem?_eq_some_iff.1 hk
  show kindOf (w.heap.push o)[k]? = _
  rw [Array.getElem?_push, if_neg (by omega), hk]⟩
theorem Aged.but [Inhabited Base] {w w' : World} {c : Nat} (hos : w'.os = w.os ∧ w'.output = w.output ∧ w'.tape = w.tape) (hc : Base.B ≤ c) (h : ∀ k, k ≠ c → w'.heap[k]? = w.heap[k]?) : Aged w w' := ⟨hos.1, hos.2.1, hos.2.2, fun k o hk e => by rw [h k (by omega), e]⟩
/-- A channel's block: none of the old ones. -/
def IsCh [Inhabited Base] (w : World) (c : Nat) (cap : Nat) (buf : Array Value) (cl : Bool) (s r : Nat) : Prop := ∃ tm : { tm : Bool // Base.B ≤ c }, w.heap[c]? = some (.chan cap buf cl s r tm.1)
theorem IsCh.obj [Inhabited Base] {w : World} {c c' cap : Nat} {buf : Array Value} {cl : Bool} {s r : Nat} (h : IsCh w c cap buf cl s r) (e : c = c') : ∃ tm : Bool, w.heap[c']? = some (.chan cap buf cl s r tm) := by
  subst e
  obtain ⟨tm, h⟩ := h
  exact ⟨_, h⟩
theorem IsCh.base [Inhabited Base] {w : World} {c cap : Nat} {buf : Array Value} {cl : Bool} {s r : Nat} (h : IsCh w c cap buf cl s r) : Base.B ≤ c := by
  obtain ⟨tm, h⟩ := h
  exact tm.2
/-- A cell that holds a number. -/
def CellI (w : World) (a : Addr) (k : IntKind) (x : Int) : Prop := w.cell? a = some (.int k x) ∧ w.frozen? a = false
section
variable (ap : Nat → Int → Int)
variable (n : Nat) (Γ : Nat → Lo) (w : World)
def nextOf (A : AllG) : Int := match w.cell? (ca A.bn 0) with | some (.int _ z) => z | _ => 0
/-- How many indices have been drawn. -/
def drawn (A : AllG) : Int := min (nextOf w A) A.items.length
/-- What of the questions of All has been taken already. -/
def under (p : PoolG) : Int := match (Γ 0).role.m.al with
  | some (A, _) => if A.cl = false ∧ A.p.map (·.b) = some p.b then drawn w A - (cnt n fun j => (Γ j).role.unsent : Nat) else 0
  | none => 0
/-- The group at wa. -/
def WgOk (wa : Addr) : Prop :=
  ∃ st sm v, CellI w wa .u64 st ∧ CellI w (sem wa) .u32 sm ∧ v = (cnt n fun j => (Γ j).role.holds wa) + (if (Γ 0).role.m.pnd = some wa then 1 else 0) ∧
    (((Γ 0).role.m.reg ≠ some wa ∧ (∀ j, (Γ j).role.lastS wa = 0) ∧ st = (v : Int) * KW ∧ sm = 0) ∨
     ((Γ 0).role.m.reg = some wa ∧ (∀ j, (Γ j).role.lastS wa = 0) ∧ 1 ≤ v ∧ st = (v : Int) * KW + 1 ∧ sm = 0) ∨
     ((Γ 0).role.m.reg = some wa ∧ v = 0 ∧ (∃ j, j < n ∧ ((Γ j).role.lastS wa = 2 ∧ st = 1 ∨ (Γ j).role.lastS wa = 1 ∧ st = 0) ∧ ∀ j', j' ≠ j → (Γ j').role.lastS wa = 0) ∧ sm = 0) ∨
     ((Γ 0).role.m.reg = some wa ∧ v = 0 ∧ (∀ j, (Γ j).role.lastS wa = 0) ∧ st = 0 ∧ sm = 1))
def PoolOk [Inhabited Base] (e : PoolG) : Prop :=
  (∃ s r, IsCh w e.ci 0 #[] false s r) ∧ (∃ s r, IsCh w e.ce 0 #[] ((Γ 0).role.m.cl e.b) s r) ∧ 0 ≤ (Γ 0).role.m.asks e.b ∧ (Γ 0).role.m.asks e.b ≤ 1000000000000000 ∧
  (∃ T : Int, CellI w (ca e.b 8) .i64 T ∧ 0 ≤ T ∧ T + (cnt n fun j => (Γ j).role.pend e : Nat) = (Γ 0).role.m.asks e.b + under n Γ w e) ∧ WgOk n Γ w (handsA e) ∧
  ((Γ 0).role.m.cl e.b = false → (Γ 0).role.m.rd e.b = true → 1 ≤ cnt n fun j => (Γ j).role.holds (handsA e)) ∧ ((Γ 0).role.m.fin e.b = true → (Γ 0).role.m.cl e.b = true ∧ cnt n (fun j => (Γ j).role.holds (handsA e)) = 0)
/-- The answer to a question in All. -/
def AllG.val (A : AllG) (x : Int) : Int := match A.p with | some p => if A.cl = true then 0 else ap p.fn x | none => 0
def AllOk (A : AllG) (sp : Nat) : Prop :=
  sp ≤ 16 ∧ A.items.length ≤ 1000000000000000 ∧ (∃ z : Int, CellI w (ca A.bn 0) .i64 z ∧ 0 ≤ z ∧ z ≤ A.items.length + (cnt n fun j => (Γ j).role.failed && (Γ j).role.inAll A : Nat)) ∧
  (cnt n fun j => (Γ j).role.inAll A) = sp ∧ WgOk n Γ w (groupA A) ∧
  (∀ j A' zs cur f, (Γ j).role = .asker A' zs cur f → A' = A) ∧
  (∀ p, A.p = some p → p ∈ (Γ 0).role.m.ps ∧ (Γ 0).role.m.cl p.b = A.cl ∧ (Γ 0).role.m.rd p.b = true) ∧
  (∀ z : Nat, (z : Int) < drawn w A → ∃ j, j < n ∧ z ∈ (Γ j).role.zs A) ∧
  (∀ z : Nat, z < A.items.length → drawn w A ≤ z → (∃ v, w.cell? (ca A.bo z) = some v) ∧ w.frozen? (ca A.bo z) = false ∧ ∀ j, ¬ (Γ j).M (ca A.bo z) ∧ ¬ (Γ j).R (ca A.bo z)) ∧
  (∀ j zs f s, (Γ j).role = .left (groupA A) zs f s → (A.items.length : Int) ≤ nextOf w A ∧ ∀ z ∈ zs, ∀ w', (Γ j).S w' → w'.cell? (ca A.bo z) = some (.int .i64 (A.val ap (A.items.getD z 0)))) ∧
  (∀ j z, z ∈ (Γ j).role.zs A → z < A.items.length ∧ (Γ j).M (ca A.bo z))
/-- The cells that are touched by atomic steps alone. -/
def AT (L : Role) (a : Addr) : Prop :=
  (∃ e ∈ L.m.ps, a = ca e.b 3 ∨ a = ca e.b 4 ∨ a = ca e.b 8) ∨ (∃ A sp, L.m.al = some (A, sp) ∧ (a = ca A.bw 0 ∨ a = ca A.bw 1 ∨ a = ca A.bn 0))
structure Wld [Inhabited Base] : Prop where
  pools : ∀ e ∈ (Γ 0).role.m.ps, PoolOk n Γ w e
  same : ∀ e ∈ (Γ 0).role.m.ps, ∀ e' ∈ (Γ 0).role.m.ps, (e.b = e'.b ∨ e.ce = e'.ce ∨ e.ci = e'.ci) → e = e'
  chans : ∀ e ∈ (Γ 0).role.m.ps, ∀ e' ∈ (Γ 0).role.m.ps, e.ce ≠ e'.ci
  fns : ∀ e ∈ (Γ 0).role.m.ps, e.fn = 9 ∨ e.fn = 14
  all : ∀ A sp, (Γ 0).role.m.al = some (A, sp) → AllOk ap n Γ w A sp
  noall : (Γ 0).role.m.al = none → ∀ j A zs cur f, (Γ j).role ≠ .asker A zs cur f
  work : ∀ j p job, (Γ j).role = .worker p job → p ∈ (Γ 0).role.m.ps ∧ (job ≠ none → (Γ 0).role.m.cl p.b = false)
  job : ∀ k p c v b, (Γ k).role = .worker p (some (c, v, b)) → IsCh w c 1 #[] false 0 0 ∧ ∃ j, (Γ j).q = some ⟨p, c, v, true⟩
  jobs : ∀ k k' p p' c v v' b b', (Γ k).role = .worker p (some (c, v, b)) → (Γ k').role = .worker p' (some (c, v', b')) → k = k'
  q : ∀ j Q, (Γ j).q = some Q → (Q.p ∈ (Γ 0).role.m.ps ∧ (Γ 0).role.m.cl Q.p.b = false ∧ (Γ 0).role.m.rd Q.p.b = true) ∧ (Q.sent = false → IsCh w Q.c 1 #[] false 0 0) ∧
    (Q.sent = true → (∃ k b, (Γ k).role = .worker Q.p (some (Q.c, Q.v, b))) ∨ IsCh w Q.c 1 #[.int .i64 (ap Q.p.fn Q.v)] false 1 0)
  qs : ∀ j j' Q Q', (Γ j).q = some Q → (Γ j').q = some Q' → Q.c = Q'.c → j = j'
  qwho : ∀ j Q, (Γ j).q = some Q → j = 0 ∨ ∃ A zs cur f, (Γ j).role = .asker A zs cur f
  mks : ∀ c ∈ (Γ 0).role.m.nw, IsCh w c 0 #[] false 0 0 ∧ ∀ e ∈ (Γ 0).role.m.ps, e.ci ≠ c ∧ e.ce ≠ c
  wss : ∀ e ∈ (Γ 0).role.m.ps, (cnt n fun j => (Γ j).role.holds (handsA e)) ≤ (Γ 0).role.m.ws e.b ∧ (Γ 0).role.m.ws e.b ≤ 16
  dns : ∀ wa k, (Γ 0).role.m.dn = some (wa, k) → (Γ 0).role.m.pnd = none ∧ (Γ 0).role.m.reg = none ∧ (cnt n fun j => (Γ j).role.holds wa) ≤ k
  fls : ∀ A sp, (Γ 0).role.m.al = some (A, sp) → ∀ j zs cur, (Γ j).role = .asker A zs cur true → (A.items.length : Int) ≤ nextOf w A
/-- Is the group one that main has yet to wait for? -/
def OpenWa (r : Role) (wa : Addr) : Prop := (∃ e ∈ r.m.ps, r.m.fin e.b = false ∧ wa = handsA e) ∨ ∃ A sp, r.m.al = some (A, sp) ∧ wa = groupA A
structure Inv [Inhabited Base] (t : Trace) : Prop where
  pos : 0 < n
  old : Base.B ≤ w.heap.size
  tr : Tr (fun i => (Γ i).M) (fun i => (Γ i).R) (AT (Γ 0).role) (fun i => (Γ i).h) n w.heap.size t
  apart : Aparts (fun i => (Γ i).M) (fun i => (Γ i).R) (AT (Γ 0).role)
  deaf : ∀ i, Deaf t i = (Γ i).d
  blk : ∀ i a, (Γ i).M a ∨ (Γ i).R a → a.block < w.heap.size
  blkA : ∀ a, AT (Γ 0).role a → a.block < w.heap.size
  virg : ∀ i a, (Γ i).V a → (Γ i).M a ∧ ∀ idx x, touchAt t idx = some x → x.loc ≠ .cell a
  know : ∀ i, (Γ i).S w
  beyond : ∀ i, n ≤ i → Γ i = Lo.nil
  main : ∀ i, (∃ m, (Γ i).role = .main m) ↔ i = 0
  main0 : (Γ 0).h = .alive
  left : ∀ i wa zs f s, 0 < i → i < n → (Γ i).role = .left wa zs f s → ((Γ i).h = .over ∧ wa = dead ∧ zs = []) ∨ ((∃ r, (Γ i).h = .rel wa r) ∧ OpenWa (Γ 0).role wa)
  held : ∀ i wa, 0 < i → (Γ i).role.holds wa = true → (Γ i).h = .alive ∨ ∃ r, (Γ i).h = .rel wa r
  rels : ∀ i wa r, (Γ i).h = .rel wa r → (Γ i).role.holds wa = true ∨ ∃ zs f s, (Γ i).role = .left wa zs f s
  regs : ∀ wa, (Γ 0).role.m.reg = some wa → (Γ 0).role.m.pnd = none ∧ ((∃ e ∈ (Γ 0).role.m.ps, (Γ 0).role.m.fin e.b = false ∧ wa = handsA e ∧ (Γ 0).role.m.cl e.b = true) ∨ ∃ A sp, (Γ 0).role.m.al = some (A, sp) ∧ wa = groupA A)
  lst : ∀ i wa zs f s, (Γ i).role = .left wa zs f s → 0 < s → (Γ 0).role.m.reg = some wa
  virgin : ∀ A sp, (Γ 0).role.m.al = some (A, sp) → ∀ z : Nat, z < A.items.length → drawn w A ≤ z → ca A.bo z ≠ ca A.bn 0 ∧ ¬ AT (Γ 0).role (ca A.bo z) ∧ ∀ idx x, touchAt t idx = some x → x.loc ≠ .cell (ca A.bo z)
  wld : Wld ap n Γ w
end
/-- No buffer is filled. -/
structure NoFill [Inhabited Base] (w w' : World) : Prop where
  os : Aged w w'
  fill : ∀ (c : Nat) (v : Value) (s r : Nat), IsCh w' c 1 #[v] false s r → IsCh w c 1 #[v] false s r
/-- Nothing but the cells of M may turn; channels stay. -/
structure Keeps [Inhabited Base] (M : Addr → Prop) (w w' : World) : Prop where
  size : w.heap.size ≤ w'.heap.size
  cell : ∀ a : Addr, a.block < w.heap.size → ¬ M a → w'.cell? a = w.cell? a ∧ w'.frozen? a = w.frozen? a
  chan : ∀ (c cap : Nat) (buf : Array Value) (cl : Bool) (s r : Nat) (tm : Bool), w.heap[c]? = some (Obj.chan cap buf cl s r tm) → w'.heap[c]? = some (Obj.chan cap buf cl s r tm)
  fill : NoFill w w'
section
variable {ap : Nat → Int → Int} {n : Nat} {Γ Γ' : Nat → Lo} {w w' : World}
theorem CellI.keep {a : Addr} {k : IntKind} {x : Int} (h : CellI w a k x) (hk : w'.cell? a = w.cell? a ∧ w'.frozen? a = w.frozen? a) : CellI w' a k x := ⟨hk.1.trans h.1, hk.2.trans h.2⟩
theorem IsCh.keep [Inhabited Base] {c cap : Nat} {buf : Array Value} {cl : Bool} {s r : Nat} (h : IsCh w c cap buf cl s r) (hc : ∀ (c cap : Nat) (buf : Array Value) (cl : Bool) (s r : Nat) (tm : Bool), w.heap[c]? = some (Obj.chan cap buf cl s r tm) → w'.heap[c]? = some (Obj.chan cap buf cl s r tm)) : IsCh w' c cap buf cl s r :=
  let ⟨tm, e⟩ := h; ⟨tm, hc _ _ _ _ _ _ _ e⟩
/-- The answers not yet drawn for. -/
def RS (r : Role) (w : World) (a : Addr) : Prop := ∃ A sp z, r.m.al = some (A, sp) ∧ a = ca A.bo z ∧ z < A.items.length ∧ drawn w A ≤ z
theorem WgOk.keep [Inhabited Base] {wa : Addr} (h : WgOk n Γ w wa) (hr : ∀ j, (Γ' j).role = (Γ j).role) (h1 : w'.cell? wa = w.cell? wa ∧ w'.frozen? wa = w.frozen? wa) (h2 : w'.cell? (sem wa) = w.cell? (sem wa) ∧ w'.frozen? (sem wa) = w.frozen? (sem wa)) : WgOk n Γ' w' wa := by
  obtain ⟨st, sm, v, a1, a2, a3, a4⟩ := h
  refine ⟨st, sm, v, a1.keep h1, a2.keep h2, ?_, ?_⟩
  · simp only [hr]; exact a3
  · simp only [hr]; exact a4
theorem Wld.keep [Inhabited Base] (h : Wld ap n Γ w) (hr : ∀ j, (Γ' j).role = (Γ j).role ∧ (Γ' j).q = (Γ j).q) (hk : ∀ a, AT (Γ 0).role a ∨ RS (Γ 0).role w a → w'.cell? a = w.cell? a ∧ w'.frozen? a = w.frozen? a)
    (hc : ∀ (c cap : Nat) (buf : Array Value) (cl : Bool) (s r : Nat) (tm : Bool), w.heap[c]? = some (Obj.chan cap buf cl s r tm) → w'.heap[c]? = some (Obj.chan cap buf cl s r tm))
    (hM : ∀ j A z, z ∈ (Γ j).role.zs A → (Γ j).M (ca A.bo z) → (Γ' j).M (ca A.bo z)) (hRS : ∀ j a, RS (Γ 0).role w a → (Γ' j).M a ∨ (Γ' j).R a → (Γ j).M a ∨ (Γ j).R a)
    (hS : ∀ j wa zs f s, (Γ j).role = .left wa zs f s → ∀ u, (Γ' j).S u → (Γ j).S u) : Wld ap n Γ' w' := by
  have hr1 : ∀ j, (Γ' j).role = (Γ j).role := fun j => (hr j).1
  have hq : ∀ j, (Γ' j).q = (Γ j).q := fun j => (hr j).2
  have hnx : ∀ A sp, (Γ 0).role.m.al = some (A, sp) → nextOf w' A = nextOf w A := fun A sp hA => by
    unfold nextOf
    rw [(hk _ (.inl (.inr ⟨A, sp, hA, .inr (.inr rfl)⟩))).1]
  have hdr : ∀ A sp, (Γ 0).role.m.al = some (A, sp) → drawn w' A = drawn w A := fun A sp hA => by unfold drawn; rw [hnx A sp hA]
  refine ⟨fun e he => ?_, ?_, ?_, ?_, fun A sp hA => ?_, ?_, ?_, fun k p c v b hk' => ?_, ?_, fun j Q hQ => ?_, ?_, ?_, fun c hc' => ?_, ?_, ?_, fun A sp hA j zs cur hj => ?_⟩
  · rw [hr1] at he
    obtain ⟨⟨s1, r1, p1⟩, ⟨s2, r2, p2⟩, p3, p3', ⟨T, p4, p5, p6⟩, p7, p8, p9⟩ := h.pools e he
    have hu : under n Γ' w' e = under n Γ w e := by
      unfold under
      rw [hr1]
      cases hal : (Γ 0).role.m.al with
      | none => rfl
      | some x =>
        obtain ⟨A, sp⟩ := x
        simp only [hdr A sp hal, hr1]
    refine ⟨⟨s1, r1, p1.keep hc⟩, ⟨s2, r2, by rw [hr1]; exact p2.keep hc⟩, by rw [hr1]; exact p3, by rw [hr1]; exact p3', ⟨T, p4.keep (hk _ (.inl (.inl ⟨e, he, .inr (.inr rfl)⟩))), p5, ?_⟩, p7.keep hr1 (hk _ (.inl (.inl ⟨e, he, .inl rfl⟩))) (hk _ (.inl (.inl ⟨e, he, .inr (.inl rfl)⟩))), ?_, ?_⟩
    · rw [hu]; simp only [hr1]; exact p6
    · simp only [hr1]; exact p8
    · simp only [hr1]; exact p9
  · simp only [hr1]; exact h.same
  · simp only [hr1]; exact h.chans
  · simp only [hr1]; exact h.fns
  · rw [hr1] at hA
    obtain ⟨a1, a2, ⟨z, a3, a4, a5⟩, a6, a7, a8, a9, a10, a11, a12, a13⟩ := h.all A sp hA
    refine ⟨a1, a2, ⟨z, a3.keep (hk _ (.inl (.inr ⟨A, sp, hA, .inr (.inr rfl)⟩))), a4, ?_⟩, ?_, a7.keep hr1 (hk _ (.inl (.inr ⟨A, sp, hA, .inl rfl⟩))) (hk _ (.inl (.inr ⟨A, sp, hA, .inr (.inl rfl)⟩))), ?_, ?_, ?_, ?_, ?_, ?_⟩
    · simp only [hr1]; exact a5
    · simp only [hr1]; exact a6
    · simp only [hr1]; exact a8
    · simp only [hr1]; exact a9
    · simp only [hr1, hdr A sp hA]; exact a10
    · rw [hdr A sp hA]
      intro z hz hd
      have hrs : RS (Γ 0).role w (ca A.bo z) := ⟨A, sp, z, hA, rfl, hz, hd⟩
      obtain ⟨⟨v, b1⟩, b2, b3⟩ := a11 z hz hd
      obtain ⟨k1, k2⟩ := hk _ (.inr hrs)
      refine ⟨⟨v, k1.trans b1⟩, k2.trans b2, fun j => ?_⟩
      have := hRS j _ hrs
      constructor
      · intro hm; exact (this (.inl hm)).elim (b3 j).1 (b3 j).2
      · intro hm; exact (this (.inr hm)).elim (b3 j).1 (b3 j).2
    · intro j zs f s hj
      rw [hr1] at hj
      rw [hnx A sp hA]
      exact ⟨(a12 j zs f s hj).1, fun z hz u hu => (a12 j zs f s hj).2 z hz u (hS j _ _ _ _ hj u hu)⟩
    · intro j z hz
      rw [hr1] at hz
      exact ⟨(a13 j z hz).1, hM j A z hz (a13 j z hz).2⟩
  · simp only [hr1]; exact h.noall
  · simp only [hr1]; exact h.work
  · rw [hr1] at hk'
    obtain ⟨b1, b2⟩ := h.job k p c v b hk'
    exact ⟨b1.keep hc, by simp only [hq]; exact b2⟩
  · simp only [hr1]; exact h.jobs
  · rw [hq] at hQ
    obtain ⟨b1, b2, b3⟩ := h.q j Q hQ
    refine ⟨by simp only [hr1]; exact b1, fun e => (b2 e).keep hc, fun e => ?_⟩
    simp only [hr1]
    exact (b3 e).imp id fun x => x.keep hc
  · simp only [hq]; exact h.qs
  · simp only [hq, hr1]; exact h.qwho
  · rw [hr1] at hc' ⊢
    exact ⟨(h.mks c hc').1.keep hc, (h.mks c hc').2⟩
  · simp only [hr1]; exact h.wss
  · simp only [hr1]; exact h.dns
  · rw [hr1] at hA hj
    rw [hnx A sp hA]; exact h.fls A sp hA j zs cur hj
theorem upd_eq {α : Type} (f : Nat → α) (i : Nat) (x : α) (j : Nat) : upd f i x j = x ∧ j = i ∨ upd f i x j = f j ∧ j ≠ i := by
  by_cases e : j = i
  · subst e; exact .inl ⟨upd_same f j x, rfl⟩
  · exact .inr ⟨upd_ne f x e, e⟩
/-- A step of one goroutine's that touches what is its own. -/
theorem Inv.loc [Inhabited Base] {t u : Trace} (h : Inv ap n Γ w t) {i : Nat} (hi : i < n) {L L' : Lo} (hL : Γ i = L) (hal : L.h = .alive) (hnl : ∀ wa zs f s, L.role ≠ .left wa zs f s) (hrole : L'.role = L.role) (hq : L'.q = L.q) (hh : L'.h = L.h)
    (hk : Keeps L.M w w') (hM : ∀ a, L'.M a → L.M a ∨ w.heap.size ≤ a.block) (hR : ∀ a, L'.R a → L.R a ∨ L.M a) (hMz : ∀ A z, z ∈ L.role.zs A → L.M (ca A.bo z) → L'.M (ca A.bo z)) (hblk : ∀ a, L'.M a → a.block < w'.heap.size)
    (hV : ∀ a, L'.V a → L'.M a ∧ (L.V a ∨ w.heap.size ≤ a.block) ∧ ∀ op ∈ u, ∀ x, op.act.touch? = some x → x.loc ≠ .cell a) (hS : L'.S w') (hu : ∀ op ∈ u, op.g = i ∧ OpOk L.M L.R (AT (Γ 0).role) i w'.heap.size op.act) (hd : Deaf (t ++ u) i = L'.d) :
    Inv ap n (upd Γ i L') w' (t ++ u) := by
  have hrl : ∀ j, (upd Γ i L' j).role = (Γ j).role ∧ (upd Γ i L' j).q = (Γ j).q := fun j => by
    rcases upd_eq Γ i L' j with ⟨e, rfl⟩ | ⟨e, _⟩
    · rw [e, hL]; exact ⟨hrole, hq⟩
    · rw [e]; exact ⟨rfl, rfl⟩
  have hhh : ∀ j, (upd Γ i L' j).h = (Γ j).h := fun j => by
    rcases upd_eq Γ i L' j with ⟨e, rfl⟩ | ⟨e, _⟩
    · rw [e, hL]; exact hh
    · rw [e]
  have hATr : AT (upd Γ i L' 0).role = AT (Γ 0).role := by rw [(hrl 0).1]
  have hmi : ∀ a, (Γ i).M a ↔ L.M a := fun a => by rw [hL]
  have hri : ∀ a, (Γ i).R a ↔ L.R a := fun a => by rw [hL]
  have hne : ∀ a : Addr, a.block < w.heap.size → ¬ L.M a → w'.cell? a = w.cell? a ∧ w'.frozen? a = w.frozen? a := hk.cell
  have hAT : ∀ a, AT (Γ 0).role a → w'.cell? a = w.cell? a ∧ w'.frozen? a = w.frozen? a := fun a ha => hne a (h.blkA a ha) fun hm => (h.apart.shared i a ha).1 ((hmi a).2 hm)
  have hcell : ∀ {a : Addr} {v : Value}, w.cell? a = some v → a.block < w.heap.size := fun {a v} hc => by
    unfold World.cell? at hc
    by_cases hb : a.block < w.heap.size
    · exact hb
    · rw [Array.getElem?_eq_none (by omega)] at hc; simp at hc
  have hRSk : ∀ a, RS (Γ 0).role w a → w'.cell? a = w.cell? a ∧ w'.frozen? a = w.frozen? a := by
    rintro a ⟨A, sp, z, hA, rfl, hz, hdz⟩
    obtain ⟨_, _, _, _, _, _, _, _, a11, _⟩ := h.wld.all A sp hA
    obtain ⟨⟨v, b1⟩, _, b3⟩ := a11 z hz hdz
    exact hne _ (hcell b1) fun hm => (b3 i).1 ((hmi _).2 hm)
  have hRSl : ∀ a, RS (Γ 0).role w a → a.block < w.heap.size := by
    rintro a ⟨A, sp, z, hA, rfl, hz, hdz⟩
    obtain ⟨_, _, _, _, _, _, _, _, a11, _⟩ := h.wld.all A sp hA
    obtain ⟨⟨v, b1⟩, _, _⟩ := a11 z hz hdz
    exact hcell b1
  have hA1 : Tr (fun j => (Γ j).M) (fun j => (Γ j).R) (AT (Γ 0).role) (fun j => (Γ j).h) n w'.heap.size (t ++ u) :=
    h.tr.step h.apart hi (by rw [hL]; exact hal) hk.size fun op hop => by
      have := hu op hop
      rw [hL]; exact this
  have hfresh : ∀ a : Addr, w.heap.size ≤ a.block → ∀ idx x, touchAt (t ++ u) idx = some x → x.loc ≠ .cell a := fun a ha idx x hx => by
    rcases touch_old_or hx with ⟨_, hx'⟩ | ⟨_, op, hop, hxo, _⟩
    · exact h.tr.fresh ha hx'
    · intro hl
      have hop2 := (hu op hop).2.1 x hxo
      rw [hl] at hop2
      rcases hop2 with hm | ⟨hr, _⟩ | ⟨hat, _⟩
      · have := h.blk i a (.inl ((hmi a).2 hm)); omega
      · have := h.blk i a (.inr ((hri a).2 hr)); omega
      · have := h.blkA a hat; omega
  have hap : Aparts (fun j => (upd Γ i L' j).M) (fun j => (upd Γ i L' j).R) (AT (Γ 0).role) := by
    refine ⟨fun j k a hj hk' => ?_, fun j k a hj hk' => ?_, fun j a ha => ?_⟩
    · try dsimp only at hj hk'
      rcases upd_eq Γ i L' j with ⟨e, ej⟩ | ⟨e, hji⟩ <;> rcases upd_eq Γ i L' k with ⟨e', ek⟩ | ⟨e', hki⟩
      · exact ej.trans ek.symm
      · rw [e] at hj; rw [e'] at hk'
        rcases hM a hj with hm | hf
        · exact ej.trans (h.apart.own _ _ a ((hmi a).2 hm) hk')
        · have := h.blk k a (.inl hk'); omega
      · rw [e] at hj; rw [e'] at hk'
        rcases hM a hk' with hm | hf
        · exact (h.apart.own _ _ a hj ((hmi a).2 hm)).trans ek.symm
        · have := h.blk j a (.inl hj); omega
      · rw [e] at hj; rw [e'] at hk'
        exact h.apart.own _ _ a hj hk'
    · try dsimp only at hj hk'
      rcases upd_eq Γ i L' j with ⟨e, ej⟩ | ⟨e, hji⟩ <;> rcases upd_eq Γ i L' k with ⟨e', ek⟩ | ⟨e', hki⟩
      · exact ej.trans ek.symm
      · rw [e] at hj; rw [e'] at hk'
        rcases hM a hj with hm | hf
        · exact ej.trans (h.apart.read _ _ a ((hmi a).2 hm) hk')
        · have := h.blk k a (.inr hk'); omega
      · rw [e] at hj; rw [e'] at hk'
        rcases hR a hk' with hm | hm
        · exact (h.apart.read _ _ a hj ((hri a).2 hm)).trans ek.symm
        · exact (h.apart.own _ _ a hj ((hmi a).2 hm)).trans ek.symm
      · rw [e] at hj; rw [e'] at hk'
        exact h.apart.read _ _ a hj hk'
    · try dsimp only
      rcases upd_eq Γ i L' j with ⟨e, rfl⟩ | ⟨e, hji⟩
      · rw [e]
        have hs := h.apart.shared j a ha
        have hlt := h.blkA a ha
        refine ⟨fun hm => ?_, fun hr => ?_⟩
        · rcases hM a hm with hm | hf
          · exact hs.1 ((hmi a).2 hm)
          · omega
        · rcases hR a hr with hm | hm
          · exact hs.2 ((hri a).2 hm)
          · exact hs.1 ((hmi a).2 hm)
      · rw [e]; exact h.apart.shared j a ha
  refine ⟨h.pos, Nat.le_trans h.old hk.size, ?_, by rw [hATr]; exact hap, fun j => ?_, fun j a hj => ?_, fun a ha => Nat.lt_of_lt_of_le (h.blkA a (hATr ▸ ha)) hk.size, fun j a hj => ?_, fun j => ?_, fun j hj => ?_, fun j => ?_, ?_, fun j wa zs f s h0 hj hr => ?_, fun j wa h0 hr => ?_, fun j wa r hr => ?_, by rw [(hrl 0).1]; exact h.regs, fun j wa zs f s hr hs => ?_, fun A sp hA z hz hdz => ?_, ?_⟩
  · rw [hATr, show (fun j => (upd Γ i L' j).h) = fun j => (Γ j).h from funext hhh]
    refine hA1.relabel (fun j a hj => ?_) (fun j a hj => ?_) hA1.shared fun j b r a hj ha => ?_
    · try dsimp only at hj
      rcases upd_eq Γ i L' j with ⟨e, rfl⟩ | ⟨e, hji⟩
      · rw [e] at hj
        rcases hM a hj with hm | hf
        · exact hA1.mine j a ((hmi a).2 hm)
        · exact fun idx x hx hl => absurd hl (hfresh a hf idx x hx)
      · rw [e] at hj
        exact hA1.mine j a hj
    · try dsimp only at hj
      rcases upd_eq Γ i L' j with ⟨e, rfl⟩ | ⟨e, hji⟩
      · rw [e] at hj
        rcases hR a hj with hm | hm
        · exact hA1.read j a ((hri a).2 hm)
        · exact PermW.of (hA1.mine j a ((hmi a).2 hm))
      · rw [e] at hj
        exact hA1.read j a hj
    · try dsimp only at hj ha
      rcases upd_eq Γ i L' j with ⟨e, rfl⟩ | ⟨e, hji⟩
      · rw [hL, hal] at hj; cases hj
      · rw [e] at ha
        exact hA1.relM j b r a hj ha
  · rcases upd_eq Γ i L' j with ⟨e, rfl⟩ | ⟨e, hji⟩
    · rw [e]; exact hd
    · rw [e, ← h.deaf j]
      exact Deaf_other t (Ne.symm hji) u fun op hop => (hu op hop).1
  · rcases upd_eq Γ i L' j with ⟨e, rfl⟩ | ⟨e, hji⟩
    · rw [e] at hj
      rcases hj with hm | hr
      · exact hblk a hm
      · rcases hR a hr with hm | hm
        · exact Nat.lt_of_lt_of_le (h.blk j a (.inr ((hri a).2 hm))) hk.size
        · exact Nat.lt_of_lt_of_le (h.blk j a (.inl ((hmi a).2 hm))) hk.size
    · rw [e] at hj
      exact Nat.lt_of_lt_of_le (h.blk j a hj) hk.size
  · rcases upd_eq Γ i L' j with ⟨e, rfl⟩ | ⟨e, hji⟩
    · rw [e] at hj ⊢
      obtain ⟨v1, v2, v3⟩ := hV a hj
      refine ⟨v1, fun idx x hx => ?_⟩
      rcases v2 with v2 | v2
      · rcases touch_old_or hx with ⟨_, hx'⟩ | ⟨_, op, hop, hxo, _⟩
        · exact (h.virg j a (by rw [hL]; exact v2)).2 idx x hx'
        · exact v3 op hop x hxo
      · exact hfresh a v2 idx x hx
    · rw [e] at hj ⊢
      obtain ⟨v1, v2⟩ := h.virg j a hj
      refine ⟨v1, fun idx x hx => ?_⟩
      rcases touch_old_or hx with ⟨_, hx'⟩ | ⟨_, op, hop, hxo, _⟩
      · exact v2 idx x hx'
      · intro hl
        have hop2 := (hu op hop).2.1 x hxo
        rw [hl] at hop2
        rcases hop2 with hm | ⟨hr, _⟩ | ⟨hat, _⟩
        · exact hji (h.apart.own _ _ a v1 ((hmi a).2 hm))
        · exact hji (h.apart.read _ _ a v1 ((hri a).2 hr))
        · exact (h.apart.shared j a hat).1 v1
  · rcases upd_eq Γ i L' j with ⟨e, rfl⟩ | ⟨e, hji⟩
    · rw [e]; exact hS
    · rw [e]
      refine (Γ j).sup w w' (fun a ha => hne a (h.blk j a ha) fun hm => ?_) (fun c ⟨_, _, _, _, _, e⟩ => ⟨_, _, _, _, _, hk.chan _ _ _ _ _ _ _ e⟩) (h.know j)
      rcases ha with ha | ha
      · exact hji (h.apart.own _ _ a ha ((hmi a).2 hm))
      · exact hji (h.apart.read i j a ((hmi a).2 hm) ha).symm
  · rcases upd_eq Γ i L' j with ⟨e, rfl⟩ | ⟨e, hji⟩
    · omega
    · rw [e]; exact h.beyond j hj
  · rw [(hrl j).1]; exact h.main j
  · rw [hhh]; exact h.main0
  · rw [(hrl j).1] at hr
    rw [hhh, (hrl 0).1]
    exact h.left j wa zs f s h0 hj hr
  · rw [(hrl j).1] at hr
    rw [hhh]
    exact h.held j wa h0 hr
  · rw [hhh] at hr
    rw [(hrl j).1]
    exact h.rels j wa r hr
  · rw [(hrl j).1] at hr
    rw [(hrl 0).1]
    exact h.lst j wa zs f s hr hs
  · rw [(hrl 0).1] at hA ⊢
    have hdr : drawn w' A = drawn w A := by
      unfold drawn nextOf
      rw [(hAT _ (.inr ⟨A, sp, hA, .inr (.inr rfl)⟩)).1]
    rw [hdr] at hdz
    obtain ⟨v1, v2, v3⟩ := h.virgin A sp hA z hz hdz
    refine ⟨v1, v2, fun idx x hx => ?_⟩
    rcases touch_old_or hx with ⟨_, hx'⟩ | ⟨_, op, hop, hxo, _⟩
    · exact v3 idx x hx'
    · intro hl
      have hop2 := (hu op hop).2.1 x hxo
      rw [hl] at hop2
      obtain ⟨_, _, _, _, _, _, _, _, a11, _⟩ := h.wld.all A sp hA
      obtain ⟨_, _, b3⟩ := a11 z hz hdz
      rcases hop2 with hm | ⟨hr, _⟩ | ⟨hat, _⟩
      · exact (b3 i).1 ((hmi _).2 hm)
      · exact (b3 i).2 ((hri _).2 hr)
      · exact v2 hat
  · refine h.wld.keep hrl (fun a ha => ha.elim (hAT a) (hRSk a)) hk.chan (fun j A z hz hm => ?_) (fun j a ha hj => ?_) fun j wa zs f s hj v hv => ?_
    · rcases upd_eq Γ i L' j with ⟨e, rfl⟩ | ⟨e, hji⟩
      · rw [e]
        rw [hL] at hz hm
        exact hMz A z hz hm
      · rw [e]; exact hm
    · rcases upd_eq Γ i L' j with ⟨e, rfl⟩ | ⟨e, hji⟩
      · rw [e] at hj
        have hlt := hRSl a ha
        rcases hj with hj | hj
        · rcases hM a hj with hm | hf
          · exact .inl ((hmi a).2 hm)
          · omega
        · rcases hR a hj with hm | hm
          · exact .inr ((hri a).2 hm)
          · exact .inl ((hmi a).2 hm)
      · rw [e] at hj; exact hj
    · rcases upd_eq Γ i L' j with ⟨e, rfl⟩ | ⟨e, hji⟩
      · rw [hL] at hj
        exact absurd hj (hnl _ _ _ _)
      · rw [e] at hv; exact hv
end
end Go.Proofs.Ytaceedenkmccdaa
/- A select of several cases in a crowd, of which one can proceed: it meets one of those who wait there, whichever the tape picks. -/
namespace Go.Proofs.Ytaceedenkmccdaa
open Go Go.Conc Go.ConcN
set_option linter.unusedSimpArgs false
set_option linter.unusedVariables false
section
variable {P : Program} {gs : Array Goroutine} {w w₁ : World} {sl : Option (Nat × Nat)} {i k : Nat} {g g₂ : Goroutine} {es : Array Event} {cases : Array CommCase} {shape : CommShape} {blocking : Bool}
  {c cap s r : Nat} {buf : Array Value} {closed tm : Bool} {v z : Value} {cc : CommCase}
theorem pick_of (w₁ : World) (n : Nat) (hn : 0 < n) : ∃ b d, b < n ∧ (if (Question.extern "which waiting goroutine is the partner" n).forced = true then (b = 0 ∧ d = w₁.drawn) else (b = (Question.extern "which waiting goroutine is the partner" n).cut (w₁.tape w₁.drawn (.extern "which waiting goroutine is the partner" n)) ∧ d = w₁.drawn + 1)) := by
  by_cases hf : (Question.extern "which waiting goroutine is the partner" n).forced = true
  · exact ⟨0, w₁.drawn, hn, by rw [if_pos hf]; exact ⟨rfl, rfl⟩⟩
  · refine ⟨_, w₁.drawn + 1, ?_, by rw [if_neg hf]; exact ⟨rfl, rfl⟩⟩
    simp only [Question.cut]
    rw [if_neg (by omega)]
    exact Nat.mod_lt _ hn
theorem sel_send_some [Inhabited Base] (hi : gs[i]? = some g) (h : stepG P (i == 0) g w = .comm g₂ cases blocking shape w₁ es) (hk : cases[k]? = some (scase c v z))
    (ho : ∀ (m : Nat) (c' : CommCase), m ≠ k → cases[m]? = some c' → NoWays w₁ (gs.setIfInBounds i ph) c') (hc : w₁.heap[c]? = some (.chan cap buf false s r tm))
    (hne : partners (gs.setIfInBounds i ph) c false ≠ [])
    (hall : ∀ j kj, (j, kj) ∈ partners (gs.setIfInBounds i ph) c false → j ≠ i ∧ ∃ gj csj shj zj, gs[j]? = some (parked gj csj shj) ∧ csj[kj]? = some (rcase c zj)) :
    ∃ (j kj : Nat) (gj : Goroutine) (csj : Array CommCase) (shj : CommShape) (zj : Value) (d : Nat), (j, kj) ∈ partners (gs.setIfInBounds i ph) c false ∧ j ≠ i ∧ gs[j]? = some (parked gj csj shj) ∧ csj[kj]? = some (rcase c zj) ∧
      runT P (crowd gs w sl) i = (.next (crowd ((gs.setIfInBounds j (gj.finishComm P csj shj kj v true)).setIfInBounds i (g₂.finishComm P cases shape k undef false)) ((w₁.at d).setChan c cap buf false (s + 1) (r + 1) tm) sl),
        MemOp.ofEvents i g.frame.fn g.frame.place es ++ #[{ g := i, fn := g₂.frame.fn, pos := g₂.frame.place, act := .send c s }, { g := j, fn := gj.frame.fn, pos := gj.frame.place, act := .recv c r cap },
          { g := i, fn := g₂.frame.fn, pos := g₂.frame.place, act := .sendDone c s }, { g := j, fn := gj.frame.fn, pos := gj.frame.place, act := .recvDone c r }]) := by
  generalize hps : partners (gs.setIfInBounds i ph) c false = ps at hne hall
  have hlen : 0 < ps.length := List.length_pos_iff.2 hne
  obtain ⟨b, d, hb, hpick⟩ := pick_of w₁ ps.length hlen
  obtain ⟨⟨j, kj⟩, hjk⟩ : ∃ p, ps[b]? = some p := ⟨ps[b], List.getElem?_eq_getElem hb⟩
  obtain ⟨hij, gj, csj, shj, zj, hj, hkj⟩ := hall j kj (List.mem_of_getElem? hjk)
  refine ⟨j, kj, gj, csj, shj, zj, d, List.mem_of_getElem? hjk, hij, hj, hkj, ?_⟩
  rw [runT_crowd_comm hi h]
  have hj' := stand_get (i := i) hij hj
  have hfp := finishPartner_at P (gs.setIfInBounds i ph) hj' (cs := csj) (sh := shj) rfl kj v
  have hgd : (gs.setIfInBounds i ph).getD j default = parked gj csj shj := by rw [Array.getD_eq_getD_getElem?, hj']; rfl
  have hw : ways w₁ (gs.setIfInBounds i ph) (scase c v z) = ps.map fun (h, k) => Way.partner h k := by
    simp only [ways, scase, hc, hps]
    cases ps with
    | nil => exact absurd rfl hne
    | cons p ps => simp
  have hwne : ways w₁ (gs.setIfInBounds i ph) (scase c v z) ≠ [] := by
    rw [hw]
    cases ps with
    | nil => exact absurd rfl hne
    | cons p ps => simp
  have hgm := getD_map_partner ps b (j, kj) hjk
  have hcd : w₁.drew.heap[c]? = _ := hc
  have hjk' : ps[b]'hb = (j, kj) := (List.getElem?_eq_some_iff.1 hjk).2
  unfold communicate
  simp only [ready_one hk hwne ho]
  rw [if_neg]
  · rw [hw]
    by_cases hf : (Question.extern "which waiting goroutine is the partner" ps.length).forced = true
    · rw [if_pos hf] at hpick
      obtain ⟨rfl, rfl⟩ := hpick
      have hf' : ps.length = 1 := by simpa [Question.forced] using hf
      simp [choose, Sem.run, Question.forced, bind, Sem.bind, pure, hf', hgm, hjk, hjk', hj', hc, World.setChan, crowd, hfp, hgd, set_stand2, finishComm_parked, scase, rcase, parked, World.at, hkj]
      rfl
    · rw [if_neg hf] at hpick
      obtain ⟨rfl, rfl⟩ := hpick
      have hf' : ¬ ps.length = 1 := by simpa [Question.forced] using hf
      simp [choose, Sem.run, Question.forced, bind, Sem.bind, pure, hf', hgm, hjk, hj', hc, hcd, World.setChan, crowd, hfp, hgd, set_stand2, finishComm_parked, scase, rcase, parked, World.at, hkj]
      rfl
  · rw [Bool.not_eq_true]; exact any_ill (made_of_one hk (made_send v z hc) ho)
theorem sel_recv_some [Inhabited Base] (hi : gs[i]? = some g) (h : stepG P (i == 0) g w = .comm g₂ cases blocking shape w₁ es) (hk : cases[k]? = some (rcase c z))
    (ho : ∀ (m : Nat) (c' : CommCase), m ≠ k → cases[m]? = some c' → NoWays w₁ (gs.setIfInBounds i ph) c') (hc : w₁.heap[c]? = some (.chan cap #[] closed s r tm))
    (hne : partners (gs.setIfInBounds i ph) c true ≠ [])
    (hall : ∀ j kj, (j, kj) ∈ partners (gs.setIfInBounds i ph) c true → j ≠ i ∧ ∃ gj csj shj vj zj, gs[j]? = some (parked gj csj shj) ∧ csj[kj]? = some (scase c vj zj)) :
    ∃ (j kj : Nat) (gj : Goroutine) (csj : Array CommCase) (shj : CommShape) (vj zj : Value) (d : Nat), (j, kj) ∈ partners (gs.setIfInBounds i ph) c true ∧ j ≠ i ∧ gs[j]? = some (parked gj csj shj) ∧ csj[kj]? = some (scase c vj zj) ∧
      runT P (crowd gs w sl) i = (.next (crowd ((gs.setIfInBounds j (gj.finishComm P csj shj kj undef false)).setIfInBounds i (g₂.finishComm P cases shape k vj true)) ((w₁.at d).setChan c cap #[] closed (s + 1) (r + 1) tm) sl),
        MemOp.ofEvents i g.frame.fn g.frame.place es ++ #[{ g := j, fn := gj.frame.fn, pos := gj.frame.place, act := .send c s }, { g := i, fn := g₂.frame.fn, pos := g₂.frame.place, act := .recv c r cap },
          { g := j, fn := gj.frame.fn, pos := gj.frame.place, act := .sendDone c s }, { g := i, fn := g₂.frame.fn, pos := g₂.frame.place, act := .recvDone c r }]) := by
  generalize hps : partners (gs.setIfInBounds i ph) c true = ps at hne hall
  have hlen : 0 < ps.length := List.length_pos_iff.2 hne
  obtain ⟨b, d, hb, hpick⟩ := pick_of w₁ ps.length hlen
  obtain ⟨⟨j, kj⟩, hjk⟩ : ∃ p, ps[b]? = some p := ⟨ps[b], List.getElem?_eq_getElem hb⟩
  obtain ⟨hij, gj, csj, shj, vj, zj, hj, hkj⟩ := hall j kj (List.mem_of_getElem? hjk)
  refine ⟨j, kj, gj, csj, shj, vj, zj, d, List.mem_of_getElem? hjk, hij, hj, hkj, ?_⟩
  rw [runT_crowd_comm hi h]
  have hj' := stand_get (i := i) hij hj
  have hfp := finishPartner_at P (gs.setIfInBounds i ph) hj' (cs := csj) (sh := shj) rfl kj undef
  have hgd : (gs.setIfInBounds i ph).getD j default = parked gj csj shj := by rw [Array.getD_eq_getD_getElem?, hj']; rfl
  have hov : offeredValue (gs.setIfInBounds i ph) j kj = vj := by simp [offeredValue, hj', parked, hkj, scase]
  have hw : ways w₁ (gs.setIfInBounds i ph) (rcase c z) = ps.map fun (h, k) => Way.partner h k := by
    simp only [ways, rcase, hc, hps]
    cases ps with
    | nil => exact absurd rfl hne
    | cons p ps => simp
  have hwne : ways w₁ (gs.setIfInBounds i ph) (rcase c z) ≠ [] := by
    rw [hw]
    cases ps with
    | nil => exact absurd rfl hne
    | cons p ps => simp
  have hgm := getD_map_partner ps b (j, kj) hjk
  have hcd : w₁.drew.heap[c]? = _ := hc
  have hjk' : ps[b]'hb = (j, kj) := (List.getElem?_eq_some_iff.1 hjk).2
  unfold communicate
  simp only [ready_one hk hwne ho]
  rw [if_neg]
  · rw [hw]
    by_cases hf : (Question.extern "which waiting goroutine is the partner" ps.length).forced = true
    · rw [if_pos hf] at hpick
      obtain ⟨rfl, rfl⟩ := hpick
      have hf' : ps.length = 1 := by simpa [Question.forced] using hf
      simp [choose, Sem.run, Question.forced, bind, Sem.bind, pure, hf', hgm, hjk, hjk', hj', hov, hc, World.setChan, crowd, hfp, hgd, set_stand2, finishComm_parked, scase, rcase, parked, World.at, hkj]
      rfl
    · rw [if_neg hf] at hpick
      obtain ⟨rfl, rfl⟩ := hpick
      have hf' : ¬ ps.length = 1 := by simpa [Question.forced] using hf
      simp [choose, Sem.run, Question.forced, bind, Sem.bind, pure, hf', hgm, hjk, hj', hov, hc, hcd, World.setChan, crowd, hfp, hgd, set_stand2, finishComm_parked, scase, rcase, parked, World.at, hkj]
      rfl
  · rw [Bool.not_eq_true]; exact any_ill (made_of_one hk (made_recv z hc) ho)
end
end Go.Proofs.Ytaceedenkmccdaa
/- Pools: what a communication does to what is held. -/
namespace Go.Proofs.Ytaceedenkmccdaa
open Go Go.Conc Go.ConcN
set_option linter.unusedSimpArgs false
set_option linter.unusedVariables false
variable {ap : Nat → Int → Int} {n : Nat} {Γ Γ' : Nat → Lo} {w w' : World} {t u : Trace}
/-- The same but for what a question's way turns. -/
inductive Shape : Role → Role → Prop where
  | refl (r : Role) : Shape r r
  | main (m : MainR) (f : Nat → Int) : Shape (.main m) (.main { m with asks := f })
  | worker (p : PoolG) (a b : Option (Nat × Int × Bool)) : Shape (.worker p a) (.worker p b)
  | asker (A : AllG) (zs : List Nat) (a b : Option (Nat × Bool)) (f : Bool) : Shape (.asker A zs a f) (.asker A zs b f)
theorem Shape.same {r r' : Role} (h : Shape r r') : r'.m.ps = r.m.ps ∧ r'.m.cl = r.m.cl ∧ r'.m.rd = r.m.rd ∧ r'.m.fin = r.m.fin ∧ r'.m.al = r.m.al ∧ r'.m.reg = r.m.reg ∧ r'.m.pnd = r.m.pnd ∧ (∀ wa, r'.holds wa = r.holds wa) ∧ (∀ wa, r'.lastS wa = r.lastS wa) ∧
    r'.failed = r.failed ∧ (∀ A, r'.inAll A = r.inAll A) ∧ (∀ A, r'.zs A = r.zs A) ∧ (∀ wa zs f s, r' = .left wa zs f s ↔ r = .left wa zs f s) ∧ ((∃ m, r' = .main m) ↔ ∃ m, r = .main m) ∧ (∀ p, (∃ j, r' = .worker p j) ↔ ∃ j, r = .worker p j) ∧ (∀ A zs f, (∃ c, r' = .asker A zs c f) ↔ ∃ c, r = .asker A zs c f) := by
  cases h <;> simp [Role.m, Role.holds, Role.lastS, Role.failed, Role.inAll, Role.zs]
theorem Shape.same2 {r r' : Role} (h : Shape r r') : r'.m.nw = r.m.nw ∧ r'.m.ws = r.m.ws ∧ r'.m.dn = r.m.dn := by
  cases h <;> simp [Role.m]
structure Same (L L' : Lo) : Prop where
  M : L'.M = L.M
  R : L'.R = L.R
  V : L'.V = L.V
  S : L'.S = L.S
  h : L'.h = L.h
  d : L'.d = L.d
theorem Same.refl (L : Lo) : Same L L := ⟨rfl, rfl, rfl, rfl, rfl, rfl⟩
theorem AT_shape [Inhabited Base] {r r' : Role} (h : Shape r r') : AT r' = AT r := by
  obtain ⟨h1, _, _, _, h5, _⟩ := h.same
  funext a
  simp only [AT, h1, h5]
/-- What stays of the world where questions go their way. -/
theorem Wld.ask [Inhabited Base] (h : Wld ap n Γ w) (hs : ∀ j, Shape (Γ j).role (Γ' j).role) (hm : ∀ j, Same (Γ j) (Γ' j)) (hc : ∀ a, w'.cell? a = w.cell? a ∧ w'.frozen? a = w.frozen? a)
    (hch : ∀ e ∈ (Γ 0).role.m.ps, (∃ s r, IsCh w' e.ci 0 #[] false s r) ∧ (∃ s r, IsCh w' e.ce 0 #[] ((Γ 0).role.m.cl e.b) s r))
    (has : ∀ e ∈ (Γ 0).role.m.ps, 0 ≤ (Γ' 0).role.m.asks e.b ∧ (Γ' 0).role.m.asks e.b ≤ 1000000000000000 ∧
      (Γ' 0).role.m.asks e.b + under n Γ' w e + (cnt n fun j => (Γ j).role.pend e : Nat) = (Γ 0).role.m.asks e.b + under n Γ w e + (cnt n fun j => (Γ' j).role.pend e : Nat))
    (work : ∀ j p job, (Γ' j).role = .worker p job → p ∈ (Γ 0).role.m.ps ∧ (job ≠ none → (Γ 0).role.m.cl p.b = false))
    (job : ∀ k p c v b, (Γ' k).role = .worker p (some (c, v, b)) → IsCh w' c 1 #[] false 0 0 ∧ ∃ j, (Γ' j).q = some ⟨p, c, v, true⟩)
    (jobs : ∀ k k' p p' c v v' b b', (Γ' k).role = .worker p (some (c, v, b)) → (Γ' k').role = .worker p' (some (c, v', b')) → k = k')
    (q : ∀ j Q, (Γ' j).q = some Q → (Q.p ∈ (Γ 0).role.m.ps ∧ (Γ 0).role.m.cl Q.p.b = false ∧ (Γ 0).role.m.rd Q.p.b = true) ∧ (Q.sent = false → IsCh w' Q.c 1 #[] false 0 0) ∧
      (Q.sent = true → (∃ k b, (Γ' k).role = .worker Q.p (some (Q.c, Q.v, b))) ∨ IsCh w' Q.c 1 #[.int .i64 (ap Q.p.fn Q.v)] false 1 0))
    (qs : ∀ j j' Q Q', (Γ' j).q = some Q → (Γ' j').q = some Q' → Q.c = Q'.c → j = j')
    (qwho : ∀ j Q, (Γ' j).q = some Q → j = 0 ∨ ∃ A zs cur f, (Γ' j).role = .asker A zs cur f)
    (mks : ∀ c ∈ (Γ 0).role.m.nw, IsCh w' c 0 #[] false 0 0) : Wld ap n Γ' w' := by
  have hS := fun j => (hs j).same
  have e1 : (Γ' 0).role.m.ps = (Γ 0).role.m.ps := (hS 0).1
  have e2 : (Γ' 0).role.m.cl = (Γ 0).role.m.cl := (hS 0).2.1
  have e3 : (Γ' 0).role.m.rd = (Γ 0).role.m.rd := (hS 0).2.2.1
  have e4 : (Γ' 0).role.m.fin = (Γ 0).role.m.fin := (hS 0).2.2.2.1
  have e5 : (Γ' 0).role.m.al = (Γ 0).role.m.al := (hS 0).2.2.2.2.1
  have e6 : (Γ' 0).role.m.reg = (Γ 0).role.m.reg := (hS 0).2.2.2.2.2.1
  have e7 : (Γ' 0).role.m.pnd = (Γ 0).role.m.pnd := (hS 0).2.2.2.2.2.2.1
  have e8 : ∀ j wa, (Γ' j).role.holds wa = (Γ j).role.holds wa := fun j => (hS j).2.2.2.2.2.2.2.1
  have e9 : ∀ j wa, (Γ' j).role.lastS wa = (Γ j).role.lastS wa := fun j => (hS j).2.2.2.2.2.2.2.2.1
  have e10 : ∀ j, (Γ' j).role.failed = (Γ j).role.failed := fun j => (hS j).2.2.2.2.2.2.2.2.2.1
  have e11 : ∀ j A, (Γ' j).role.inAll A = (Γ j).role.inAll A := fun j => (hS j).2.2.2.2.2.2.2.2.2.2.1
  have e12 : ∀ j A, (Γ' j).role.zs A = (Γ j).role.zs A := fun j => (hS j).2.2.2.2.2.2.2.2.2.2.2.1
  have e13 : ∀ j wa zs f s, (Γ' j).role = .left wa zs f s ↔ (Γ j).role = .left wa zs f s := fun j => (hS j).2.2.2.2.2.2.2.2.2.2.2.2.1
  have e14 : ∀ j A zs f, (∃ c, (Γ' j).role = .asker A zs c f) ↔ ∃ c, (Γ j).role = .asker A zs c f := fun j => (hS j).2.2.2.2.2.2.2.2.2.2.2.2.2.2.2
  have hnx : ∀ A, nextOf w' A = nextOf w A := fun A => by unfold nextOf; rw [(hc _).1]
  have hdr : ∀ A, drawn w' A = drawn w A := fun A => by unfold drawn; rw [hnx]
  have hun : ∀ e, under n Γ' w' e = under n Γ' w e := fun e => by
    unfold under
    cases (Γ' 0).role.m.al with
    | none => rfl
    | some x => simp only [hdr]
  have hwg : ∀ wa, WgOk n Γ w wa → WgOk n Γ' w' wa := fun wa hw => by
    obtain ⟨st, sm, v, a1, a2, a3, a4⟩ := hw
    refine ⟨st, sm, v, a1.keep (hc _), a2.keep (hc _), ?_, ?_⟩
    · simp only [e8, e7]; exact a3
    · simp only [e6, e9]; exact a4
  refine ⟨fun e he => ?_, ?_, ?_, ?_, fun A sp hA => ?_, fun hA j A zs cur f hj => ?_, ?_, job, jobs, ?_, qs, qwho, fun c hc' => ?_, ?_, ?_, fun A sp hA j zs cur hj => ?_⟩
  · rw [e1] at he
    obtain ⟨p1, p2, p3, p3', ⟨T, p4, p5, p6⟩, p7, p8, p9⟩ := h.pools e he
    obtain ⟨q1, q2, q3⟩ := has e he
    refine ⟨(hch e he).1, by rw [e2]; exact (hch e he).2, q1, q2, ⟨T, p4.keep (hc _), p5, by rw [hun]; omega⟩, hwg _ p7, ?_, ?_⟩
    · simp only [e2, e3, e8]; exact p8
    · simp only [e2, e4, e8]; exact p9
  · simp only [e1]; exact h.same
  · simp only [e1]; exact h.chans
  · simp only [e1]; exact h.fns
  · rw [e5] at hA
    obtain ⟨a1, a2, ⟨z, a3, a4, a5⟩, a6, a7, a8, a9, a10, a11, a12, a13⟩ := h.all A sp hA
    refine ⟨a1, a2, ⟨z, a3.keep (hc _), a4, ?_⟩, ?_, hwg _ a7, fun j A' zs cur f hj => ?_, ?_, ?_, ?_, fun j zs f s hj => ?_, fun j z hz => ?_⟩
    · simp only [e10, e11]; exact a5
    · simp only [e11]; exact a6
    · obtain ⟨c, hc'⟩ := (e14 j A' zs f).1 ⟨cur, hj⟩
      exact a8 j A' zs c f hc'
    · simp only [e1, e2, e3]; exact a9
    · simp only [hdr, e12]; exact a10
    · simp only [hdr]
      intro z hz hd
      obtain ⟨⟨v, b1⟩, b2, b3⟩ := a11 z hz hd
      exact ⟨⟨v, (hc _).1.trans b1⟩, (hc _).2.trans b2, fun j => by rw [(hm j).M, (hm j).R]; exact b3 j⟩
    · rw [hnx, (hm j).S]
      exact a12 j zs f s ((e13 j _ _ _ _).1 hj)
    · rw [e12] at hz
      rw [(hm j).M]
      exact a13 j z hz
  · rw [e5] at hA
    obtain ⟨c, hc'⟩ := (e14 j A zs f).1 ⟨cur, hj⟩
    exact h.noall hA j A zs c f hc'
  · simp only [e1, e2]; exact work
  · simp only [e1, e2, e3]; exact q
  · rw [((hs 0).same2).1] at hc'
    rw [e1]
    exact ⟨mks c hc', (h.mks c hc').2⟩
  · simp only [e1, e8, (hs 0).same2.2.1]; exact h.wss
  · simp only [e6, e7, e8, (hs 0).same2.2.2]; exact h.dns
  · rw [e5] at hA
    rw [hnx]
    obtain ⟨c, hc'⟩ := (e14 j A zs true).1 ⟨cur, hj⟩
    exact h.fls A sp hA j zs c hc'
/-- .. and of all that is held. -/
theorem Inv.ask [Inhabited Base] (h : Inv ap n Γ w t) (hs : ∀ j, Shape (Γ j).role (Γ' j).role) (hm : ∀ j, Same (Γ j) (Γ' j)) (hn : ∀ j, n ≤ j → Γ' j = Lo.nil) (hsz : w'.heap.size = w.heap.size) (hc : ∀ a, w'.cell? a = w.cell? a ∧ w'.frozen? a = w.frozen? a) (hsd : ∀ c, ShutCh w c → ShutCh w' c)
    (hu : ∀ op ∈ u, op.g < n ∧ op.act.touch? = none ∧ (∀ a, op.act ≠ .mark (.release a)) ∧ op.act.low w.heap.size) (hd : ∀ j, Deaf (t ++ u) j = Deaf t j) (hw : Wld ap n Γ' w') : Inv ap n Γ' w' (t ++ u) := by
  have hAT : AT (Γ' 0).role = AT (Γ 0).role := AT_shape (hs 0)
  have hS := fun j => (hs j).same
  have eM : (fun j => (Γ' j).M) = fun j => (Γ j).M := funext fun j => (hm j).M
  have eR : (fun j => (Γ' j).R) = fun j => (Γ j).R := funext fun j => (hm j).R
  have eh : (fun j => (Γ' j).h) = fun j => (Γ j).h := funext fun j => (hm j).h
  have e13 : ∀ j wa zs f s, (Γ' j).role = .left wa zs f s ↔ (Γ j).role = .left wa zs f s := fun j => (hS j).2.2.2.2.2.2.2.2.2.2.2.2.1
  have e8 : ∀ j wa, (Γ' j).role.holds wa = (Γ j).role.holds wa := fun j => (hS j).2.2.2.2.2.2.2.1
  have hno : ∀ op ∈ u, op.act.touch? = none := fun op hop => (hu op hop).2.1
  refine ⟨h.pos, by rw [hsz]; exact h.old, ?_, ?_, fun j => ?_, fun j a hj => ?_, fun a ha => ?_, fun j a hj => ?_, fun j => ?_, hn, fun j => ?_, ?_, fun j wa zs f s h0 hj hr => ?_, fun j wa h0 hr => ?_, fun j wa r hr => ?_, by rw [(hS 0).2.2.2.2.2.1, (hS 0).2.2.2.2.2.2.1, (hS 0).1, (hS 0).2.2.2.1, (hS 0).2.1, (hS 0).2.2.2.2.1]; exact h.regs, fun j wa zs f s hr hs => ?_, fun A sp hA z hz hdz => ?_, hw⟩
  · rw [eM, eR, eh, hAT, hsz]
    exact h.tr.mute hu
  · rw [eM, eR, hAT]; exact h.apart
  · rw [hd, (hm j).d]; exact h.deaf j
  · rw [(hm j).M, (hm j).R] at hj
    rw [hsz]; exact h.blk j a hj
  · rw [hsz]; exact h.blkA a (hAT ▸ ha)
  · rw [(hm j).V] at hj
    rw [(hm j).M]
    exact ⟨(h.virg j a hj).1, fun idx x hx => (touch_old_or hx).elim (fun y => (h.virg j a hj).2 idx x y.2) fun ⟨_, op, hop, hxo, _⟩ => by rw [hno op hop] at hxo; cases hxo⟩
  · rw [(hm j).S]
    exact (Γ j).sup w w' (fun a _ => hc a) hsd (h.know j)
  · rw [(hS j).2.2.2.2.2.2.2.2.2.2.2.2.2.1]; exact h.main j
  · rw [(hm 0).h]; exact h.main0
  · rw [e13] at hr
    rw [(hm j).h]
    refine (h.left j wa zs f s h0 hj hr).imp id fun ⟨x, y⟩ => ⟨x, ?_⟩
    simp only [OpenWa, (hS 0).1, (hS 0).2.2.2.1, (hS 0).2.2.2.2.1]
    exact y
  · rw [e8] at hr
    rw [(hm j).h]
    exact h.held j wa h0 hr
  · rw [(hm j).h] at hr
    rw [e8]
    exact (h.rels j wa r hr).imp id fun ⟨zs, f, s, x⟩ => ⟨zs, f, s, (e13 j _ _ _ _).2 x⟩
  · rw [e13] at hr
    rw [(hS 0).2.2.2.2.2.1]
    exact h.lst j wa zs f s hr hs
  · rw [(hS 0).2.2.2.2.1] at hA
    have hdr : drawn w' A = drawn w A := by unfold drawn nextOf; rw [(hc _).1]
    rw [hdr] at hdz
    rw [hAT]
    obtain ⟨v1, v2, v3⟩ := h.virgin A sp hA z hz hdz
    exact ⟨v1, v2, fun idx x hx => (touch_old_or hx).elim (fun y => v3 idx x y.2) fun ⟨_, op, hop, hxo, _⟩ => by rw [hno op hop] at hxo; cases hxo⟩
theorem setCh_cell (w : World) {c cap cap' s r s' r' : Nat} {buf buf' : Array Value} {cl cl' tm tm' : Bool} (h : w.heap[c]? = some (.chan cap buf cl s r tm)) (a : Addr) :
    (w.setChan c cap' buf' cl' s' r' tm').cell? a = w.cell? a ∧ (w.setChan c cap' buf' cl' s' r' tm').frozen? a = w.frozen? a := by
  have hlt : c < w.heap.size := by
    rcases Nat.lt_or_ge c w.heap.size with h' | h'
    · exact h'
    · rw [Array.getElem?_eq_none h'] at h; cases h
  by_cases e : a.block = c
  · have h2 : (w.setChan c cap' buf' cl' s' r' tm').heap[a.block]? = some (.chan cap' buf' cl' s' r' tm') := by simp [World.setChan, e, hlt]
    have h1 : w.heap[a.block]? = some (.chan cap buf cl s r tm) := by rw [e]; exact h
    simp [World.cell?, World.frozen?, h1, h2]
  · have h2 : (w.setChan c cap' buf' cl' s' r' tm').heap[a.block]? = w.heap[a.block]? := by simp [World.setChan, Ne.symm e]
    simp [World.cell?, World.frozen?, h2]
theorem setCh_self (w : World) {c cap cap' s r s' r' : Nat} {buf buf' : Array Value} {cl cl' tm tm' : Bool} (h : w.heap[c]? = some (.chan cap buf cl s r tm)) : (w.setChan c cap' buf' cl' s' r' tm').heap[c]? = some (.chan cap' buf' cl' s' r' tm') := by
  have hlt : c < w.heap.size := by
    rcases Nat.lt_or_ge c w.heap.size with h' | h'
    · exact h'
    · rw [Array.getElem?_eq_none h'] at h; cases h
  simp [World.setChan, hlt]
theorem setCh_other (w : World) {c c' cap' s' r' : Nat} {buf' : Array Value} {cl' tm' : Bool} (h : c' ≠ c) : (w.setChan c cap' buf' cl' s' r' tm').heap[c']? = w.heap[c']? := by
  simp [World.setChan, Ne.symm h]
theorem setCh_size (w : World) (c cap' s' r' : Nat) (buf' : Array Value) (cl' tm' : Bool) : (w.setChan c cap' buf' cl' s' r' tm').heap.size = w.heap.size := by simp [World.setChan]
end Go.Proofs.Ytaceedenkmccdaa
/- Pools: a question is taken, answered, fetched. -/
namespace Go.Proofs.Ytaceedenkmccdaa
open Go Go.Conc Go.ConcN
set_option linter.unusedSimpArgs false
set_option linter.unusedVariables false
variable {ap : Nat → Int → Int} {n : Nat} {Γ Γ' : Nat → Lo} {w w' : World} {t u : Trace}
def sentR (p : PoolG) : Role → Role
  | .main m => .main { m with asks := fun b => if b = p.b then m.asks b + 1 else m.asks b }
  | .asker A zs (some (z, _)) f => .asker A zs (some (z, true)) f
  | r => r
def Lo.turn (L : Lo) (r : Role) (q : Option QSt) : Lo := { L with role := r, q := q }
def sentL (p : PoolG) (L : Lo) : Lo := L.turn (sentR p L.role) (L.q.map fun Q => { Q with sent := true })
theorem same_turn (L : Lo) (r : Role) (q : Option QSt) : Same L (L.turn r q) := ⟨rfl, rfl, rfl, rfl, rfl, rfl⟩
theorem shape_sent (p : PoolG) (r : Role) : Shape r (sentR p r) := by
  cases r with
  | main m => exact .main m _
  | worker p j => exact .refl _
  | asker A zs c f =>
    cases c with
    | none => exact .refl _
    | some x => exact .asker A zs _ _ f
  | left a b c d => exact .refl _
theorem shape_two [Inhabited Base] {i k : Nat} {L L' : Lo} (hi : Shape (Γ i).role L.role) (hk : Shape (Γ k).role L'.role) (hik : i ≠ k) (j : Nat) : Shape (Γ j).role (upd (upd Γ i L) k L' j).role := by
  rcases upd_eq (upd Γ i L) k L' j with ⟨e, ej⟩ | ⟨e, hj⟩
  · rw [e, ej]; exact hk
  · rw [e]
    rcases upd_eq Γ i L j with ⟨e', ej⟩ | ⟨e', _⟩
    · rw [e', ej]; exact hi
    · rw [e']; exact .refl _
theorem same_two [Inhabited Base] {i k : Nat} {L L' : Lo} (hi : Same (Γ i) L) (hk : Same (Γ k) L') (j : Nat) (hik : i ≠ k) : Same (Γ j) (upd (upd Γ i L) k L' j) := by
  rcases upd_eq (upd Γ i L) k L' j with ⟨e, ej⟩ | ⟨e, hj⟩
  · rw [e, ej]; exact hk
  · rw [e]
    rcases upd_eq Γ i L j with ⟨e', ej⟩ | ⟨e', _⟩
    · rw [e', ej]; exact hi
    · rw [e']; exact .refl _
theorem nil_two {i k : Nat} {L L' : Lo} (h : ∀ j, n ≤ j → Γ j = Lo.nil) (hi : i < n) (hk : k < n) (j : Nat) (hj : n ≤ j) : upd (upd Γ i L) k L' j = Lo.nil := by
  rw [upd_ne _ _ (by omega), upd_ne _ _ (by omega)]; exact h j hj
theorem upd2_k {i k : Nat} (Γ : Nat → Lo) (L L' : Lo) : upd (upd Γ i L) k L' k = L' := upd_same _ _ _
theorem upd2_i {i k : Nat} (Γ : Nat → Lo) (L L' : Lo) (h : i ≠ k) : upd (upd Γ i L) k L' i = L := by rw [upd_ne _ _ h, upd_same]
theorem upd2_o {i k j : Nat} (Γ : Nat → Lo) (L L' : Lo) (h1 : j ≠ i) (h2 : j ≠ k) : upd (upd Γ i L) k L' j = Γ j := by rw [upd_ne _ _ h2, upd_ne _ _ h1]
/-- Words of a communication. -/
def Quiets (n B : Nat) (u : Trace) : Prop := ∀ op ∈ u, (op.g < n ∧ op.act.touch? = none ∧ (∀ a, op.act ≠ .mark (.release a)) ∧ op.act.low B) ∧ ∀ g d, deafStep g d op = d
theorem Quiets.deaf {B : Nat} (h : Quiets n B u) (j : Nat) : Deaf (t ++ u) j = Deaf t j := Deaf_quiet fun op hop d => (h op hop).2 j d
theorem cap_ne [Inhabited Base] {w : World} {c c' : Nat} {buf : Array Value} {cl : Bool} {s r s' r' : Nat} {tm : Bool} {buf' : Array Value} {cl' : Bool} (h : IsCh w c 1 buf cl s r) (h' : w.heap[c']? = some (.chan 0 buf' cl' s' r' tm)) : c ≠ c' := by
  rintro rfl
  obtain ⟨tm', e⟩ := h
  rw [e] at h'; cases h'
theorem cnt_two {i k : Nat} (f : Role → Bool) (L L' : Lo) (hi : i < n) (hk : k < n) (hik : i ≠ k) :
    cnt n (fun j => f (upd (upd Γ i L) k L' j).role) + (if f (Γ i).role = true then 1 else 0) + (if f (Γ k).role = true then 1 else 0) = cnt n (fun j => f (Γ j).role) + (if f L.role = true then 1 else 0) + (if f L'.role = true then 1 else 0) := by
  have h1 := cnt_upd (n := n) (upd Γ i L) L' (fun L => f L.role) hk
  have h2 := cnt_upd (n := n) Γ L (fun L => f L.role) hi
  rw [upd_ne _ _ (Ne.symm hik)] at h1
  omega
theorem cnt_one {i : Nat} (f : Role → Bool) (L : Lo) (hi : i < n) :
    cnt n (fun j => f (upd Γ i L j).role) + (if f (Γ i).role = true then 1 else 0) = cnt n (fun j => f (Γ j).role) + (if f L.role = true then 1 else 0) := cnt_upd (n := n) Γ L (fun L => f L.role) hi
/-- Who may ask: main; or one who has drawn and not yet asked. -/
def MayAsk (L : Lo) (p : PoolG) : Prop := (∃ m, L.role = .main m ∧ m.asks p.b + 1 ≤ 1000000000000000) ∨ ∃ A zs z f, L.role = .asker A zs (some (z, false)) f ∧ A.p = some p ∧ A.cl = false
/-- A question is taken by a worker. -/
theorem Inv.meet [Inhabited Base] (h : Inv ap n Γ w t) {i k : Nat} {p : PoolG} {cb : Nat} {v : Int} {d s r : Nat} {tm : Bool} (hi : i < n) (hk : k < n) (hik : i ≠ k) (hq : (Γ i).q = some ⟨p, cb, v, false⟩) (hmay : MayAsk (Γ i) p)
    (hwk : (Γ k).role = .worker p none) (hkq : (Γ k).q = none) (hch : w.heap[p.ci]? = some (.chan 0 #[] false s r tm)) (hu : Quiets n w.heap.size u) :
    Inv ap n (upd (upd Γ i (sentL p (Γ i))) k ((Γ k).turn (.worker p (some (cb, v, false))) none)) ((w.at d).setChan p.ci 0 #[] false (s + 1) (r + 1) tm) (t ++ u) := by
  obtain ⟨⟨hp, hpc, hpr⟩, hfr, _⟩ := h.wld.q i _ hq
  have hch' : (w.at d).heap[p.ci]? = some (.chan 0 #[] false s r tm) := hch
  have hcell : ∀ a, ((w.at d).setChan p.ci 0 #[] false (s + 1) (r + 1) tm).cell? a = w.cell? a ∧ ((w.at d).setChan p.ci 0 #[] false (s + 1) (r + 1) tm).frozen? a = w.frozen? a := fun a => setCh_cell (w.at d) hch' a
  have hself := setCh_self (w.at d) (cap' := 0) (s' := s + 1) (r' := r + 1) (buf' := #[]) (cl' := false) (tm' := tm) hch'
  have hoth : ∀ c', c' ≠ p.ci → ((w.at d).setChan p.ci 0 #[] false (s + 1) (r + 1) tm).heap[c']? = w.heap[c']? := fun c' hc => setCh_other (w.at d) hc
  have hcap1 : ∀ {c : Nat} {buf : Array Value} {cl : Bool} {s' r' : Nat}, IsCh w c 1 buf cl s' r' → IsCh ((w.at d).setChan p.ci 0 #[] false (s + 1) (r + 1) tm) c 1 buf cl s' r' := fun {c buf cl s' r'} hc => by
    obtain ⟨tm', e⟩ := hc
    exact ⟨tm', by rw [hoth c (cap_ne ⟨tm', e⟩ hch)]; exact e⟩
  have hsh := shape_two (Γ := Γ) (i := i) (k := k) (L := sentL p (Γ i)) (L' := (Γ k).turn (.worker p (some (cb, v, false))) none) (shape_sent p _) (by rw [hwk]; exact .worker p none _) hik
  have gi := upd2_i Γ (sentL p (Γ i)) ((Γ k).turn (.worker p (some (cb, v, false))) none) hik
  have gk := upd2_k (i := i) (k := k) Γ (sentL p (Γ i)) ((Γ k).turn (.worker p (some (cb, v, false))) none)
  have go := fun j h1 h2 => upd2_o (i := i) (k := k) (j := j) Γ (sentL p (Γ i)) ((Γ k).turn (.worker p (some (cb, v, false))) none) h1 h2
  generalize hΓ : upd (upd Γ i (sentL p (Γ i))) k ((Γ k).turn (.worker p (some (cb, v, false))) none) = Γ' at hsh gi gk go ⊢
  have hsentq : (sentL p (Γ i)).q = some ⟨p, cb, v, true⟩ := by simp [sentL, Lo.turn, hq]
  have hk0 : k ≠ 0 := fun e => by
    have := (h.main k).2 e
    rw [hwk] at this
    obtain ⟨m, hm⟩ := this; cases hm
  have hpend : ∀ e : PoolG, (cnt n fun j => (Γ' j).role.pend e) = (cnt n fun j => (Γ j).role.pend e) + (if p.b = e.b then 1 else 0) := fun e => by
    have := cnt_two (Γ := Γ) (n := n) (fun r => r.pend e) (sentL p (Γ i)) ((Γ k).turn (.worker p (some (cb, v, false))) none) hi hk hik
    rw [hΓ] at this
    have e1 : (Γ k).role.pend e = false := by rw [hwk]; rfl
    have e2 : ((Γ k).turn (.worker p (some (cb, v, false))) none).role.pend e = decide (p.b = e.b) := rfl
    have e3 : (sentL p (Γ i)).role.pend e = (Γ i).role.pend e := by
      rcases hmay with ⟨m, hm, _⟩ | ⟨A, zs, z, f, hm, _⟩ <;> simp [sentL, Lo.turn, sentR, hm, Role.pend]
    rw [e1, e2, e3] at this
    by_cases hpe : p.b = e.b
    · rw [if_pos hpe]; rw [decide_eq_true hpe] at this; simp only [if_true, Bool.false_eq_true, if_false] at this; omega
    · rw [if_neg hpe]; rw [decide_eq_false hpe] at this; simp only [Bool.false_eq_true, if_false] at this; omega
  refine h.ask hsh (fun j => ?_) (fun j hj => ?_) (setCh_size (w.at d) _ _ _ _ _ _ _) hcell (shut_keep hch hoth) (fun op hop => (hu op hop).1) (hu.deaf) ?_
  · rw [← hΓ]; exact same_two (same_turn _ _ _) (same_turn _ _ _) j hik
  · rw [← hΓ]; exact nil_two h.beyond hi hk j hj
  refine h.wld.ask hsh (fun j => by rw [← hΓ]; exact same_two (same_turn _ _ _) (same_turn _ _ _) j hik) hcell (fun e he => ?_) (fun e he => ?_) (fun j p' job hj => ?_) (fun k' p' c v' b hj => ?_) (fun a b p1 p2 c v1 v2 b1 b2 ha hb => ?_) (fun j Q hj => ?_) (fun a b Q Q' ha hb hc => ?_) (fun j Q hj => ?_) (fun c hc => ?_)
  · obtain ⟨⟨s1, r1, tm1, p1⟩, ⟨s2, r2, p2⟩, _⟩ := h.wld.pools e he
    refine ⟨?_, s2, r2, ?_⟩
    · by_cases ec : e.ci = p.ci
      · rw [ec]; exact ⟨_, _, ⟨tm, by rw [← ec]; exact tm1.2⟩, hself⟩
      · exact ⟨s1, r1, tm1, by rw [hoth _ ec]; exact p1⟩
    · obtain ⟨tm2, p2⟩ := p2
      exact ⟨tm2, by rw [hoth _ (h.wld.chans e he p hp)]; exact p2⟩
  · obtain ⟨_, _, p3, p3', _⟩ := h.wld.pools e he
    rw [hpend e]
    rcases hmay with ⟨m, hm, hb⟩ | ⟨A, zs, z, f, hm, hA, hcl⟩
    · have hi0 : i = 0 := (h.main i).1 ⟨m, hm⟩
      have g0 : (Γ' 0).role = sentR p (Γ 0).role := by rw [← hi0, gi]; rfl
      have hm0 : (Γ 0).role = .main m := hi0 ▸ hm
      have hun : under n Γ' w e = under n Γ w e := by
        unfold under
        have hcu : (cnt n fun j => (Γ' j).role.unsent) = cnt n fun j => (Γ j).role.unsent := by
          have := cnt_two (Γ := Γ) (n := n) (fun r => r.unsent) (sentL p (Γ i)) ((Γ k).turn (.worker p (some (cb, v, false))) none) hi hk hik
          rw [hΓ] at this
          have e1 : (Γ k).role.unsent = false := by rw [hwk]; rfl
          have e2 : ((Γ k).turn (.worker p (some (cb, v, false))) none).role.unsent = false := rfl
          have e3 : (sentL p (Γ i)).role.unsent = false := by simp [sentL, Lo.turn, sentR, hm, Role.unsent]
          have e4 : (Γ i).role.unsent = false := by rw [hm]; rfl
          rw [e1, e2, e3, e4] at this
          simpa using this
        have hal : (Γ' 0).role.m.al = (Γ 0).role.m.al := by rw [g0, hm0]; rfl
        rw [hcu, hal]
      have has : (Γ' 0).role.m.asks e.b = (Γ 0).role.m.asks e.b + (if p.b = e.b then 1 else 0) := by
        rw [g0, hm0]
        show (if e.b = p.b then m.asks e.b + 1 else m.asks e.b) = m.asks e.b + _
        by_cases hpe : p.b = e.b
        · rw [if_pos hpe.symm, if_pos hpe]
        · rw [if_neg (fun x => hpe x.symm), if_neg hpe]; omega
      rw [has, hun]
      have hb' : p.b = e.b → (Γ 0).role.m.asks e.b + 1 ≤ 1000000000000000 := fun x => by rw [← x, hm0]; exact hb
      by_cases hpe : p.b = e.b
      · rw [if_pos hpe, if_pos hpe]; have := hb' hpe; refine ⟨by omega, by omega, by omega⟩
      · rw [if_neg hpe, if_neg hpe]; refine ⟨by omega, by omega, by omega⟩
    · have hi0 : i ≠ 0 := fun x => by
        obtain ⟨m, hm'⟩ := (h.main i).2 x
        rw [hm] at hm'; cases hm'
      have g0 : Γ' 0 = Γ 0 := go 0 (Ne.symm hi0) (Ne.symm hk0)
      have has : (Γ' 0).role.m.asks e.b = (Γ 0).role.m.asks e.b := by rw [g0]
      obtain ⟨⟨A0, sp⟩, hal⟩ : ∃ x, (Γ 0).role.m.al = some x := by
        cases hal : (Γ 0).role.m.al with
        | none => exact absurd hm (h.wld.noall hal i _ _ _ _)
        | some x => exact ⟨x, rfl⟩
      have hA0 : A = A0 := (h.wld.all A0 sp hal).2.2.2.2.2.1 i A zs _ f hm
      subst hA0
      have hcu : (cnt n fun j => (Γ' j).role.unsent) + 1 = cnt n fun j => (Γ j).role.unsent := by
        have := cnt_two (Γ := Γ) (n := n) (fun r => r.unsent) (sentL p (Γ i)) ((Γ k).turn (.worker p (some (cb, v, false))) none) hi hk hik
        rw [hΓ] at this
        have e1 : (Γ k).role.unsent = false := by rw [hwk]; rfl
        have e2 : ((Γ k).turn (.worker p (some (cb, v, false))) none).role.unsent = false := rfl
        have e3 : (sentL p (Γ i)).role.unsent = false := by simp [sentL, Lo.turn, sentR, hm, Role.unsent]
        have e4 : (Γ i).role.unsent = true := by rw [hm]; rfl
        rw [e1, e2, e3, e4] at this
        simpa using this
      have hun : under n Γ' w e = under n Γ w e + (if p.b = e.b then 1 else 0) := by
        unfold under
        rw [g0, hal]
        simp only [hA, hcl, Option.map_some, Option.some.injEq, true_and]
        by_cases hpe : p.b = e.b
        · rw [if_pos hpe, if_pos hpe, if_pos hpe]; omega
        · rw [if_neg hpe, if_neg hpe, if_neg hpe]; rfl
      rw [has, hun]
      by_cases hpe : p.b = e.b
      · rw [if_pos hpe, if_pos hpe]; exact ⟨p3, p3', by omega⟩
      · rw [if_neg hpe, if_neg hpe]; exact ⟨p3, p3', by omega⟩
  · by_cases ek : j = k
    · rw [ek, gk] at hj
      cases hj
      exact ⟨hp, fun _ => hpc⟩
    · by_cases ei : j = i
      · rw [ei, gi] at hj
        rcases hmay with ⟨m, hm, _⟩ | ⟨A, zs, z, f, hm, _⟩ <;> (simp [sentL, Lo.turn, sentR, hm] at hj)
      · rw [go j ei ek] at hj
        exact h.wld.work j p' job hj
  · by_cases ek : k' = k
    · rw [ek, gk] at hj
      cases hj
      exact ⟨hcap1 (hfr rfl), i, by rw [gi]; exact hsentq⟩
    · by_cases ei : k' = i
      · rw [ei, gi] at hj
        rcases hmay with ⟨m, hm, _⟩ | ⟨A, zs, z, f, hm, _⟩ <;> (simp [sentL, Lo.turn, sentR, hm] at hj)
      · rw [go k' ei ek] at hj
        obtain ⟨h1, j, h2⟩ := h.wld.job k' p' c v' b hj
        have hji : j ≠ i := fun x => by rw [x, hq] at h2; cases h2
        have hjk : j ≠ k := fun x => by rw [x, hkq] at h2; cases h2
        exact ⟨hcap1 h1, j, by rw [go j hji hjk]; exact h2⟩
  · have nok : ∀ x p2 v2 b2, x ≠ k → (Γ' x).role = .worker p2 (some (c, v2, b2)) → c ≠ cb ∧ (Γ x).role = .worker p2 (some (c, v2, b2)) := fun x p2 v2 b2 hx hx' => by
      by_cases ei : x = i
      · rw [ei, gi] at hx'
        rcases hmay with ⟨m, hm, _⟩ | ⟨A, zs, z, f, hm, _⟩ <;> (simp [sentL, Lo.turn, sentR, hm] at hx')
      · rw [go x ei hx] at hx'
        obtain ⟨_, j, h2⟩ := h.wld.job x p2 c v2 b2 hx'
        refine ⟨fun ec => ?_, hx'⟩
        have := h.wld.qs j i _ _ h2 hq ec
        rw [this, hq] at h2; cases h2
    by_cases ea : a = k <;> by_cases eb : b = k
    · rw [ea, eb]
    · rw [ea, gk] at ha
      have := (nok b _ _ _ eb hb).1
      cases ha; exact absurd rfl this
    · rw [eb, gk] at hb
      have := (nok a _ _ _ ea ha).1
      cases hb; exact absurd rfl this
    · exact h.wld.jobs a b _ _ c _ _ _ _ (nok a _ _ _ ea ha).2 (nok b _ _ _ eb hb).2
  · by_cases ek : j = k
    · rw [ek, gk] at hj; cases hj
    · by_cases ei : j = i
      · rw [ei, gi, hsentq] at hj
        cases hj
        exact ⟨⟨hp, hpc, hpr⟩, fun e => (by cases e), fun _ => .inl ⟨k, false, by rw [gk]; rfl⟩⟩
      · rw [go j ei ek] at hj
        obtain ⟨q1, q2, q3⟩ := h.wld.q j Q hj
        refine ⟨q1, fun e => hcap1 (q2 e), fun e => (q3 e).imp (fun ⟨k', b, hk'⟩ => ⟨k', b, ?_⟩) hcap1⟩
        have h1 : k' ≠ k := fun x => by rw [x, hwk] at hk'; cases hk'
        have h2 : k' ≠ i := fun x => by
          rw [x] at hk'
          rcases hmay with ⟨m, hm, _⟩ | ⟨A, zs, z, f, hm, _⟩ <;> (rw [hm] at hk'; cases hk')
        rw [go k' h2 h1]; exact hk'
  · have back : ∀ x Q, (Γ' x).q = some Q → ∃ Q0, (Γ x).q = some Q0 ∧ Q0.c = Q.c := fun x Q hx => by
      by_cases ek : x = k
      · rw [ek, gk] at hx; cases hx
      · by_cases ei : x = i
        · rw [ei, gi, hsentq] at hx
          cases hx
          exact ⟨⟨p, cb, v, false⟩, by rw [ei]; exact hq, rfl⟩
        · rw [go x ei ek] at hx
          exact ⟨Q, hx, rfl⟩
    obtain ⟨Q0, h1, e1⟩ := back a Q ha
    obtain ⟨Q1, h2, e2⟩ := back b Q' hb
    exact h.wld.qs a b Q0 Q1 h1 h2 (by rw [e1, e2, hc])
  · by_cases ek : j = k
    · rw [ek, gk] at hj; cases hj
    · by_cases ei : j = i
      · rw [ei, gi]
        rcases hmay with ⟨m, hm, _⟩ | ⟨A, zs, z, f, hm, _⟩
        · exact .inl ((h.main i).1 ⟨m, hm⟩)
        · exact .inr ⟨A, zs, some (z, true), f, by simp [sentL, Lo.turn, sentR, hm]⟩
      · rw [go j ei ek] at hj ⊢
        exact h.wld.qwho j Q hj
  · obtain ⟨⟨tm1, p1⟩, p2⟩ := h.wld.mks c hc
    exact ⟨tm1, by rw [hoth c (Ne.symm (p2 p hp).1)]; exact p1⟩
end Go.Proofs.Ytaceedenkmccdaa
/- Pools: a question is answered, its answer fetched. -/
namespace Go.Proofs.Ytaceedenkmccdaa
open Go Go.Conc Go.ConcN
set_option linter.unusedSimpArgs false
set_option linter.unusedVariables false
variable {ap : Nat → Int → Int} {n : Nat} {Γ Γ' : Nat → Lo} {w w' : World} {t u : Trace}
theorem shape_one [Inhabited Base] {i : Nat} {L : Lo} (hi : Shape (Γ i).role L.role) (j : Nat) : Shape (Γ j).role (upd Γ i L j).role := by
  rcases upd_eq Γ i L j with ⟨e', ej⟩ | ⟨e', _⟩
  · rw [e', ej]; exact hi
  · rw [e']; exact .refl _
theorem same_one [Inhabited Base] {i : Nat} {L : Lo} (hi : Same (Γ i) L) (j : Nat) : Same (Γ j) (upd Γ i L j) := by
  rcases upd_eq Γ i L j with ⟨e', ej⟩ | ⟨e', _⟩
  · rw [e', ej]; exact hi
  · rw [e']; exact .refl _
theorem under_congr (h1 : (Γ' 0).role.m.al = (Γ 0).role.m.al) (h2 : ∀ j, (Γ' j).role.unsent = (Γ j).role.unsent) (e : PoolG) : under n Γ' w e = under n Γ w e := by
  unfold under
  rw [h1]
  simp only [h2]
/-- .. and those that are in no pool yet. -/
theorem mks_back [Inhabited Base] (h : Inv ap n Γ w t) {cb : Nat} (hch : ∃ buf cl s r tm, w.heap[cb]? = some (.chan 1 buf cl s r tm)) (hoth : ∀ c', c' ≠ cb → w'.heap[c']? = w.heap[c']?) : ∀ c ∈ (Γ 0).role.m.nw, IsCh w' c 0 #[] false 0 0 := fun c hc => by
  obtain ⟨⟨tm1, p1⟩, _⟩ := h.wld.mks c hc
  obtain ⟨buf, cl, s, r, tm, hc'⟩ := hch
  refine ⟨tm1, ?_⟩
  rw [hoth c fun e => ?_]
  · exact p1
  · rw [← e, p1] at hc'; cases hc'
/-- The pools' channels stand where a channel with a buffer turns. -/
theorem pools_back [Inhabited Base] (h : Inv ap n Γ w t) {cb : Nat} (hch : ∃ buf cl s r tm, w.heap[cb]? = some (.chan 1 buf cl s r tm)) (hoth : ∀ c', c' ≠ cb → w'.heap[c']? = w.heap[c']?) (e : PoolG) (he : e ∈ (Γ 0).role.m.ps) :
    (∃ s r, IsCh w' e.ci 0 #[] false s r) ∧ (∃ s r, IsCh w' e.ce 0 #[] ((Γ 0).role.m.cl e.b) s r) := by
  obtain ⟨⟨s1, r1, tm1, p1⟩, ⟨s2, r2, tm2, p2⟩, _⟩ := h.wld.pools e he
  obtain ⟨buf, cl, s, r, tm, hc⟩ := hch
  refine ⟨⟨s1, r1, tm1, ?_⟩, s2, r2, tm2, ?_⟩
  · rw [hoth _ (fun x => by rw [← x, p1] at hc; cases hc)]; exact p1
  · rw [hoth _ (fun x => by rw [← x, p2] at hc; cases hc)]; exact p2
/-- The answer goes into the buffer. -/
theorem Inv.answerBuf [Inhabited Base] (h : Inv ap n Γ w t) {k : Nat} {p : PoolG} {cb : Nat} {v : Int} {d s r : Nat} {tm : Bool} (hk : k < n) (hwk : (Γ k).role = .worker p (some (cb, v, true))) (hkq : (Γ k).q = none) (hch : w.heap[cb]? = some (.chan 1 #[] false s r tm)) (hu : Quiets n w.heap.size u) :
    Inv ap n (upd Γ k ((Γ k).turn (.worker p none) none)) ((w.at d).setChan cb 1 #[.int .i64 (ap p.fn v)] false (s + 1) r tm) (t ++ u) := by
  have hch' : (w.at d).heap[cb]? = some (.chan 1 #[] false s r tm) := hch
  have hsr : s = 0 ∧ r = 0 := by
    obtain ⟨⟨tm', e⟩, _⟩ := h.wld.job k p cb v true hwk
    rw [hch] at e; cases e; exact ⟨rfl, rfl⟩
  obtain ⟨rfl, rfl⟩ := hsr
  have hcell : ∀ a, ((w.at d).setChan cb 1 #[.int .i64 (ap p.fn v)] false (0 + 1) 0 tm).cell? a = w.cell? a ∧ ((w.at d).setChan cb 1 #[.int .i64 (ap p.fn v)] false (0 + 1) 0 tm).frozen? a = w.frozen? a := fun a => setCh_cell (w.at d) hch' a
  have hself := setCh_self (w.at d) (cap' := 1) (s' := 0 + 1) (r' := 0) (buf' := #[.int .i64 (ap p.fn v)]) (cl' := false) (tm' := tm) hch'
  have hoth : ∀ c', c' ≠ cb → ((w.at d).setChan cb 1 #[.int .i64 (ap p.fn v)] false (0 + 1) 0 tm).heap[c']? = w.heap[c']? := fun c' hc => setCh_other (w.at d) hc
  generalize hw' : (w.at d).setChan cb 1 #[.int .i64 (ap p.fn v)] false (0 + 1) 0 tm = w' at hcell hself hoth ⊢
  have hsz : w'.heap.size = w.heap.size := by rw [← hw']; exact setCh_size (w.at d) _ _ _ _ _ _ _
  have hsh := shape_one (Γ := Γ) (i := k) (L := (Γ k).turn (.worker p none) none) (by rw [hwk]; exact .worker p _ none)
  have hsm := same_one (Γ := Γ) (i := k) (same_turn (Γ k) (.worker p none) none)
  have gk : upd Γ k ((Γ k).turn (.worker p none) none) k = (Γ k).turn (.worker p none) none := upd_same _ _ _
  have go : ∀ j, j ≠ k → upd Γ k ((Γ k).turn (.worker p none) none) j = Γ j := fun j hj => upd_ne _ _ hj
  generalize hΓ : upd Γ k ((Γ k).turn (.worker p none) none) = Γ' at hsh hsm gk go ⊢
  have hk0 : k ≠ 0 := fun e => by
    have := (h.main k).2 e
    rw [hwk] at this
    obtain ⟨m, hm⟩ := this; cases hm
  have g0 : Γ' 0 = Γ 0 := go 0 (Ne.symm hk0)
  have gq : ∀ j, (Γ' j).q = (Γ j).q := fun j => by
    by_cases e : j = k
    · rw [e, gk, hkq]; rfl
    · rw [go j e]
  have hpd : ∀ e j, (Γ' j).role.pend e = (Γ j).role.pend e := fun e j => by
    by_cases x : j = k
    · rw [x, gk, hwk]; rfl
    · rw [go j x]
  have hus : ∀ j, (Γ' j).role.unsent = (Γ j).role.unsent := fun j => by
    by_cases x : j = k
    · rw [x, gk, hwk]; rfl
    · rw [go j x]
  refine h.ask hsh hsm (fun j hj => by rw [go j (by omega)]; exact h.beyond j hj) hsz hcell (shut_keep hch hoth) (fun op hop => (hu op hop).1) hu.deaf ?_
  refine h.wld.ask hsh hsm hcell (fun e he => pools_back h ⟨_, _, _, _, _, hch⟩ hoth e he) (fun e he => ?_) (fun j p' job hj => ?_) (fun k' p' c v' b hj => ?_) (fun a b p1 p2 c v1 v2 b1 b2 ha hb => ?_) (fun j Q hj => ?_) (fun a b Q Q' ha hb hc => ?_) (fun j Q hj => ?_) (mks_back h ⟨_, _, _, _, _, hch⟩ hoth)
  · obtain ⟨_, _, p3, p3', _⟩ := h.wld.pools e he
    rw [g0, under_congr (by rw [g0]) hus, cnt_congr fun j _ => hpd e j]
    exact ⟨p3, p3', rfl⟩
  · by_cases ek : j = k
    · rw [ek, gk] at hj
      cases hj
      exact ⟨(h.wld.work k p _ hwk).1, fun x => absurd rfl x⟩
    · rw [go j ek] at hj
      exact h.wld.work j p' job hj
  · by_cases ek : k' = k
    · rw [ek, gk] at hj; cases hj
    · rw [go k' ek] at hj
      obtain ⟨h1, j, h2⟩ := h.wld.job k' p' c v' b hj
      have hne : c ≠ cb := fun x => by
        rw [x] at hj
        exact ek (h.wld.jobs k' k _ _ cb _ _ _ _ hj hwk)
      obtain ⟨tm', h1⟩ := h1
      exact ⟨⟨tm', by rw [hoth c hne]; exact h1⟩, j, by rw [gq]; exact h2⟩
  · have old : ∀ x p2 v2 b2, (Γ' x).role = .worker p2 (some (c, v2, b2)) → (Γ x).role = .worker p2 (some (c, v2, b2)) := fun x p2 v2 b2 hx => by
      by_cases ek : x = k
      · rw [ek, gk] at hx; cases hx
      · rwa [go x ek] at hx
    exact h.wld.jobs a b _ _ c _ _ _ _ (old a _ _ _ ha) (old b _ _ _ hb)
  · rw [gq] at hj
    obtain ⟨q1, q2, q3⟩ := h.wld.q j Q hj
    obtain ⟨⟨⟨_, hcB⟩, _⟩, j0, hj0⟩ := h.wld.job k p cb v true hwk
    by_cases ec : Q.c = cb
    · have hjj : j = j0 := h.wld.qs j j0 _ _ hj hj0 ec
      subst hjj
      rw [hj] at hj0
      cases hj0
      exact ⟨q1, fun e => (by cases e), fun _ => .inr ⟨⟨tm, hcB⟩, hself⟩⟩
    · refine ⟨q1, fun e => ?_, fun e => ?_⟩
      · obtain ⟨tm', e'⟩ := q2 e
        exact ⟨tm', by rw [hoth _ ec]; exact e'⟩
      · rcases q3 e with ⟨k', b, hk'⟩ | ⟨tm', e'⟩
        · refine .inl ⟨k', b, ?_⟩
          rw [go k' fun x => ?_]
          · exact hk'
          · rw [x, hwk] at hk'; cases hk'; exact ec rfl
        · exact .inr ⟨tm', by rw [hoth _ ec]; exact e'⟩
  · rw [gq] at ha hb
    exact h.wld.qs a b Q Q' ha hb hc
  · rw [gq] at hj
    by_cases ek : j = k
    · rw [ek, hkq] at hj; cases hj
    · rw [go j ek]; exact h.wld.qwho j Q hj
/-- The answer is handed to him who waits for it. -/
theorem Inv.answerMeet [Inhabited Base] (h : Inv ap n Γ w t) {i k : Nat} {p p' : PoolG} {cb : Nat} {v v' : Int} {d s r : Nat} {tm : Bool} (hi : i < n) (hk : k < n) (hwk : (Γ k).role = .worker p (some (cb, v, true))) (hkq : (Γ k).q = none) (hq : (Γ i).q = some ⟨p', cb, v', true⟩) (hch : w.heap[cb]? = some (.chan 1 #[] false s r tm)) (hu : Quiets n w.heap.size u) :
    (p' = p ∧ v' = v ∧ i ≠ k) ∧ Inv ap n (upd (upd Γ i ((Γ i).turn (Γ i).role none)) k ((Γ k).turn (.worker p none) none)) ((w.at d).setChan cb 1 #[] false (s + 1) (r + 1) tm) (t ++ u) := by
  have hpv : p' = p ∧ v' = v := by
    obtain ⟨_, j0, hj0⟩ := h.wld.job k p cb v true hwk
    have := h.wld.qs i j0 _ _ hq hj0 rfl
    subst this
    rw [hq] at hj0; cases hj0; exact ⟨rfl, rfl⟩
  obtain ⟨rfl, rfl⟩ := hpv
  have hik : i ≠ k := fun x => by rw [x, hkq] at hq; cases hq
  refine ⟨⟨rfl, rfl, hik⟩, ?_⟩
  have hch' : (w.at d).heap[cb]? = some (.chan 1 #[] false s r tm) := hch
  have hcell : ∀ a, ((w.at d).setChan cb 1 #[] false (s + 1) (r + 1) tm).cell? a = w.cell? a ∧ ((w.at d).setChan cb 1 #[] false (s + 1) (r + 1) tm).frozen? a = w.frozen? a := fun a => setCh_cell (w.at d) hch' a
  have hoth : ∀ c', c' ≠ cb → ((w.at d).setChan cb 1 #[] false (s + 1) (r + 1) tm).heap[c']? = w.heap[c']? := fun c' hc => setCh_other (w.at d) hc
  generalize hw' : (w.at d).setChan cb 1 #[] false (s + 1) (r + 1) tm = w' at hcell hoth ⊢
  have hsz : w'.heap.size = w.heap.size := by rw [← hw']; exact setCh_size (w.at d) _ _ _ _ _ _ _
  have hsh := shape_two (Γ := Γ) (i := i) (k := k) (L := (Γ i).turn (Γ i).role none) (L' := (Γ k).turn (.worker p' none) none) (.refl _) (by rw [hwk]; exact .worker p' _ none) hik
  have hsm := fun j => same_two (Γ := Γ) (i := i) (k := k) (same_turn (Γ i) (Γ i).role none) (same_turn (Γ k) (.worker p' none) none) j hik
  have gi := upd2_i Γ ((Γ i).turn (Γ i).role none) ((Γ k).turn (.worker p' none) none) hik
  have gk := upd2_k (i := i) (k := k) Γ ((Γ i).turn (Γ i).role none) ((Γ k).turn (.worker p' none) none)
  have go := fun j h1 h2 => upd2_o (i := i) (k := k) (j := j) Γ ((Γ i).turn (Γ i).role none) ((Γ k).turn (.worker p' none) none) h1 h2
  have hbey := nil_two (Γ := Γ) (L := (Γ i).turn (Γ i).role none) (L' := (Γ k).turn (.worker p' none) none) h.beyond hi hk
  generalize hΓ : upd (upd Γ i ((Γ i).turn (Γ i).role none)) k ((Γ k).turn (.worker p' none) none) = Γ' at hsh hsm gi gk go hbey ⊢
  have hk0 : k ≠ 0 := fun e => by
    have := (h.main k).2 e
    rw [hwk] at this
    obtain ⟨m, hm⟩ := this; cases hm
  have g0 : (Γ' 0).role = (Γ 0).role := by
    by_cases e : (0 : Nat) = i
    · rw [e, gi]; rfl
    · rw [go 0 e (Ne.symm hk0)]
  have gr : ∀ j, j ≠ k → (Γ' j).role = (Γ j).role := fun j hj => by
    by_cases e : j = i
    · rw [e, gi]; rfl
    · rw [go j e hj]
  have gq : ∀ j Q, (Γ' j).q = some Q → j ≠ i ∧ j ≠ k ∧ (Γ j).q = some Q := fun j Q hj => by
    by_cases e : j = k
    · rw [e, gk] at hj; cases hj
    · by_cases e' : j = i
      · rw [e', gi] at hj; cases hj
      · rw [go j e' e] at hj; exact ⟨e', e, hj⟩
  have hpd : ∀ e j, (Γ' j).role.pend e = (Γ j).role.pend e := fun e j => by
    by_cases x : j = k
    · rw [x, gk, hwk]; rfl
    · rw [gr j x]
  have hus : ∀ j, (Γ' j).role.unsent = (Γ j).role.unsent := fun j => by
    by_cases x : j = k
    · rw [x, gk, hwk]; rfl
    · rw [gr j x]
  refine h.ask hsh hsm hbey hsz hcell (shut_keep hch hoth) (fun op hop => (hu op hop).1) hu.deaf ?_
  refine h.wld.ask hsh hsm hcell (fun e he => pools_back h ⟨_, _, _, _, _, hch⟩ hoth e he) (fun e he => ?_) (fun j p2 job hj => ?_) (fun k' p2 c v2 b hj => ?_) (fun a b p1 p2 c v1 v2 b1 b2 ha hb => ?_) (fun j Q hj => ?_) (fun a b Q Q' ha hb hc => ?_) (fun j Q hj => ?_) (mks_back h ⟨_, _, _, _, _, hch⟩ hoth)
  · obtain ⟨_, _, p3, p3', _⟩ := h.wld.pools e he
    rw [g0, under_congr (by rw [g0]) hus, cnt_congr fun j _ => hpd e j]
    exact ⟨p3, p3', rfl⟩
  · by_cases ek : j = k
    · rw [ek, gk] at hj
      cases hj
      exact ⟨(h.wld.work k p' _ hwk).1, fun x => absurd rfl x⟩
    · rw [gr j ek] at hj
      exact h.wld.work j p2 job hj
  · by_cases ek : k' = k
    · rw [ek, gk] at hj; cases hj
    · rw [gr k' ek] at hj
      obtain ⟨h1, j, h2⟩ := h.wld.job k' p2 c v2 b hj
      have hne : c ≠ cb := fun x => by
        rw [x] at hj
        exact ek (h.wld.jobs k' k _ _ cb _ _ _ _ hj hwk)
      obtain ⟨tm', h1⟩ := h1
      have hji : j ≠ i := fun x => by rw [x, hq] at h2; cases h2; exact hne rfl
      have hjk : j ≠ k := fun x => by rw [x, hkq] at h2; cases h2
      exact ⟨⟨tm', by rw [hoth c hne]; exact h1⟩, j, by rw [go j hji hjk]; exact h2⟩
  · have old : ∀ x p2 v2 b2, (Γ' x).role = .worker p2 (some (c, v2, b2)) → (Γ x).role = .worker p2 (some (c, v2, b2)) := fun x p2 v2 b2 hx => by
      by_cases ek : x = k
      · rw [ek, gk] at hx; cases hx
      · rwa [gr x ek] at hx
    exact h.wld.jobs a b _ _ c _ _ _ _ (old a _ _ _ ha) (old b _ _ _ hb)
  · obtain ⟨hji, hjk, hj⟩ := gq j Q hj
    obtain ⟨q1, q2, q3⟩ := h.wld.q j Q hj
    have ec : Q.c ≠ cb := fun x => hji (h.wld.qs j i _ _ hj hq x)
    refine ⟨q1, fun e => ?_, fun e => ?_⟩
    · obtain ⟨tm', e'⟩ := q2 e
      exact ⟨tm', by rw [hoth _ ec]; exact e'⟩
    · rcases q3 e with ⟨k', b, hk'⟩ | ⟨tm', e'⟩
      · refine .inl ⟨k', b, ?_⟩
        rw [gr k' fun x => ?_]
        · exact hk'
        · rw [x, hwk] at hk'; cases hk'; exact ec rfl
      · exact .inr ⟨tm', by rw [hoth _ ec]; exact e'⟩
  · exact h.wld.qs a b Q Q' (gq a Q ha).2.2 (gq b Q' hb).2.2 hc
  · obtain ⟨hji, hjk, hj⟩ := gq j Q hj
    rw [gr j hjk]; exact h.wld.qwho j Q hj
/-- The answer is fetched out of the buffer. -/
theorem Inv.take [Inhabited Base] (h : Inv ap n Γ w t) {i : Nat} {p : PoolG} {cb : Nat} {v : Int} {d s r : Nat} {tm : Bool} {buf : Array Value} (hi : i < n) (hq : (Γ i).q = some ⟨p, cb, v, true⟩) (hch : w.heap[cb]? = some (.chan 1 buf false s r tm)) (hb : buf ≠ #[]) (hu : Quiets n w.heap.size u) :
    buf = #[.int .i64 (ap p.fn v)] ∧ Inv ap n (upd Γ i ((Γ i).turn (Γ i).role none)) ((w.at d).setChan cb 1 #[] false s (r + 1) tm) (t ++ u) := by
  have hbuf : buf = #[.int .i64 (ap p.fn v)] := by
    obtain ⟨_, _, q3⟩ := h.wld.q i _ hq
    rcases q3 rfl with ⟨k, b, hk⟩ | ⟨tm', e⟩
    · obtain ⟨⟨tm', e⟩, _⟩ := h.wld.job k p cb v b hk
      rw [hch] at e; cases e; exact absurd rfl hb
    · rw [hch] at e; cases e; rfl
  refine ⟨hbuf, ?_⟩
  have hch' : (w.at d).heap[cb]? = some (.chan 1 buf false s r tm) := hch
  have hcell : ∀ a, ((w.at d).setChan cb 1 #[] false s (r + 1) tm).cell? a = w.cell? a ∧ ((w.at d).setChan cb 1 #[] false s (r + 1) tm).frozen? a = w.frozen? a := fun a => setCh_cell (w.at d) hch' a
  have hoth : ∀ c', c' ≠ cb → ((w.at d).setChan cb 1 #[] false s (r + 1) tm).heap[c']? = w.heap[c']? := fun c' hc => setCh_other (w.at d) hc
  generalize hw' : (w.at d).setChan cb 1 #[] false s (r + 1) tm = w' at hcell hoth ⊢
  have hsz : w'.heap.size = w.heap.size := by rw [← hw']; exact setCh_size (w.at d) _ _ _ _ _ _ _
  have hsh := shape_one (Γ := Γ) (i := i) (L := (Γ i).turn (Γ i).role none) (.refl _)
  have hsm := same_one (Γ := Γ) (i := i) (same_turn (Γ i) (Γ i).role none)
  have gi : upd Γ i ((Γ i).turn (Γ i).role none) i = (Γ i).turn (Γ i).role none := upd_same _ _ _
  have go : ∀ j, j ≠ i → upd Γ i ((Γ i).turn (Γ i).role none) j = Γ j := fun j hj => upd_ne _ _ hj
  generalize hΓ : upd Γ i ((Γ i).turn (Γ i).role none) = Γ' at hsh hsm gi go ⊢
  have gr : ∀ j, (Γ' j).role = (Γ j).role := fun j => by
    by_cases e : j = i
    · rw [e, gi]; rfl
    · rw [go j e]
  have gq : ∀ j Q, (Γ' j).q = some Q → j ≠ i ∧ (Γ j).q = some Q := fun j Q hj => by
    by_cases e' : j = i
    · rw [e', gi] at hj; cases hj
    · rw [go j e'] at hj; exact ⟨e', hj⟩
  refine h.ask hsh hsm (fun j hj => by rw [go j (by omega)]; exact h.beyond j hj) hsz hcell (shut_keep hch hoth) (fun op hop => (hu op hop).1) hu.deaf ?_
  refine h.wld.ask hsh hsm hcell (fun e he => pools_back h ⟨_, _, _, _, _, hch⟩ hoth e he) (fun e he => ?_) (fun j p2 job hj => ?_) (fun k' p2 c v2 b hj => ?_) (fun a b p1 p2 c v1 v2 b1 b2 ha hb => ?_) (fun j Q hj => ?_) (fun a b Q Q' ha hb hc => ?_) (fun j Q hj => ?_) (mks_back h ⟨_, _, _, _, _, hch⟩ hoth)
  · obtain ⟨_, _, p3, p3', _⟩ := h.wld.pools e he
    rw [gr, under_congr (Γ := Γ) (Γ' := Γ') (by rw [gr]) (fun j => by rw [gr]), cnt_congr (f := fun j => (Γ j).role.pend e) (g := fun j => (Γ' j).role.pend e) fun j _ => by rw [gr]]
    exact ⟨p3, p3', rfl⟩
  · rw [gr] at hj
    exact h.wld.work j p2 job hj
  · rw [gr] at hj
    obtain ⟨⟨tm', h1⟩, j, h2⟩ := h.wld.job k' p2 c v2 b hj
    have hne : c ≠ cb := fun x => by rw [← x, h1] at hch; cases hch; exact hb rfl
    have hji : j ≠ i := fun x => by rw [x, hq] at h2; cases h2; exact hne rfl
    exact ⟨⟨tm', by rw [hoth c hne]; exact h1⟩, j, by rw [go j hji]; exact h2⟩
  · rw [gr] at ha hb
    exact h.wld.jobs a b _ _ c _ _ _ _ ha hb
  · obtain ⟨hji, hj⟩ := gq j Q hj
    obtain ⟨q1, q2, q3⟩ := h.wld.q j Q hj
    have ec : Q.c ≠ cb := fun x => hji (h.wld.qs j i _ _ hj hq x)
    refine ⟨q1, fun e => ?_, fun e => ?_⟩
    · obtain ⟨tm', e'⟩ := q2 e
      exact ⟨tm', by rw [hoth _ ec]; exact e'⟩
    · rcases q3 e with ⟨k', b, hk'⟩ | ⟨tm', e'⟩
      · exact .inl ⟨k', b, by rw [gr]; exact hk'⟩
      · exact .inr ⟨tm', by rw [hoth _ ec]; exact e'⟩
  · exact h.wld.qs a b Q Q' (gq a Q ha).2 (gq b Q' hb).2 hc
  · obtain ⟨hji, hj⟩ := gq j Q hj
    rw [gr j]; exact h.wld.qwho j Q hj
/-- Words alone are said. -/
theorem Inv.words [Inhabited Base] (h : Inv ap n Γ w t) (hu : Quiets n w.heap.size u) (d : Nat) : Inv ap n Γ (w.at d) (t ++ u) := by
  refine h.ask (w' := w.at d) (fun j => .refl _) (fun j => .refl _) h.beyond rfl (fun a => ⟨rfl, rfl⟩) (fun c x => x) (fun op hop => (hu op hop).1) hu.deaf ?_
  exact h.wld.keep (fun j => ⟨rfl, rfl⟩) (fun a _ => ⟨rfl, rfl⟩) (fun c cap buf cl s r tm e => e) (fun j A z _ hm => hm) (fun j a _ hj => hj) (fun j wa zs f s _ u hu => hu)
theorem Inv.at [Inhabited Base] (h : Inv ap n Γ w t) (d : Nat) : Inv ap n Γ (w.at d) t := by
  have := h.words (u := #[]) (fun op hop => by simp at hop) d
  simpa using this
/-- More is known of the world. -/
theorem Inv.knows [Inhabited Base] (h : Inv ap n Γ w t) {i : Nat} (hi : i < n) {L' : Lo} (hM : L'.M = (Γ i).M) (hR : L'.R = (Γ i).R) (hV : L'.V = (Γ i).V) (hh : L'.h = (Γ i).h) (hd : L'.d = (Γ i).d) (hr : L'.role = (Γ i).role) (hq : L'.q = (Γ i).q) (hS : ∀ u, L'.S u → (Γ i).S u) (hk : L'.S w) : Inv ap n (upd Γ i L') w t := by
  have eM : ∀ j, (upd Γ i L' j).M = (Γ j).M ∧ (upd Γ i L' j).R = (Γ j).R ∧ (upd Γ i L' j).V = (Γ j).V ∧ (upd Γ i L' j).d = (Γ j).d ∧ (upd Γ i L' j).h = (Γ j).h ∧ (upd Γ i L' j).role = (Γ j).role ∧ (upd Γ i L' j).q = (Γ j).q := fun j => by
    rcases upd_eq Γ i L' j with ⟨e, rfl⟩ | ⟨e, _⟩
    · rw [e]; exact ⟨hM, hR, hV, hd, hh, hr, hq⟩
    · rw [e]; exact ⟨rfl, rfl, rfl, rfl, rfl, rfl, rfl⟩
  have eS : ∀ j u, (upd Γ i L' j).S u → (Γ j).S u := fun j u => by
    rcases upd_eq Γ i L' j with ⟨e, rfl⟩ | ⟨e, _⟩
    · rw [e]; exact hS u
    · rw [e]; exact id
  have hbey : ∀ j, n ≤ j → upd Γ i L' j = Lo.nil := fun j hj => by rw [upd_ne _ _ (by omega)]; exact h.beyond j hj
  have hw : Wld ap n (upd Γ i L') w := h.wld.keep (fun j => ⟨(eM j).2.2.2.2.2.1, (eM j).2.2.2.2.2.2⟩) (fun a _ => ⟨rfl, rfl⟩) (fun c cap buf cl s r tm e => e) (fun j A z _ hm => by rw [(eM j).1]; exact hm) (fun j a _ hj => by rw [(eM j).1, (eM j).2.1] at hj; exact hj) (fun j wa zs f s _ u hu => eS j u hu)
  have hkn : ∀ j, (upd Γ i L' j).S w := fun j => by
    rcases upd_eq Γ i L' j with ⟨e, rfl⟩ | ⟨e, _⟩
    · rw [e]; exact hk
    · rw [e]; exact h.know j
  generalize upd Γ i L' = Γ' at eM hbey hw hkn ⊢
  have e1 : (fun j => (Γ' j).M) = fun j => (Γ j).M := funext fun j => (eM j).1
  have e2 : (fun j => (Γ' j).R) = fun j => (Γ j).R := funext fun j => (eM j).2.1
  have e3 : (fun j => (Γ' j).h) = fun j => (Γ j).h := funext fun j => (eM j).2.2.2.2.1
  have er : ∀ j, (Γ' j).role = (Γ j).role := fun j => (eM j).2.2.2.2.2.1
  refine ⟨h.pos, h.old, ?_, ?_, fun j => ?_, fun j a hj => ?_, fun a ha => ?_, fun j a hj => ?_, hkn, hbey, fun j => ?_, ?_, fun j wa zs f s h0 hj hr => ?_, fun j wa h0 hr => ?_, fun j wa r hr => ?_, ?_, fun j wa zs f s hr hs => ?_, fun A sp hA z hz hdz => ?_, hw⟩
  · rw [e1, e2, e3, er]; exact h.tr
  · rw [e1, e2, er]; exact h.apart
  · rw [(eM j).2.2.2.1]; exact h.deaf j
  · rw [(eM j).1, (eM j).2.1] at hj; exact h.blk j a hj
  · rw [er] at ha; exact h.blkA a ha
  · rw [(eM j).2.2.1] at hj
    rw [(eM j).1]
    exact h.virg j a hj
  · rw [er]; exact h.main j
  · rw [(eM 0).2.2.2.2.1]; exact h.main0
  · rw [er] at hr; rw [(eM j).2.2.2.2.1, er]; exact h.left j wa zs f s h0 hj hr
  · rw [er] at hr; rw [(eM j).2.2.2.2.1]; exact h.held j wa h0 hr
  · rw [(eM j).2.2.2.2.1] at hr; rw [er]; exact h.rels j wa r hr
  · rw [er]; exact h.regs
  · rw [er] at hr; rw [er]; exact h.lst j wa zs f s hr hs
  · rw [er] at hA ⊢; exact h.virgin A sp hA z hz hdz
/-- .. a channel is closed. -/
def Lo.shut (L : Lo) (ce : Nat) : Lo := { L with S := fun w => L.S w ∧ ShutCh w ce, sup := fun w w' hc hs h => ⟨L.sup w w' hc hs h.1, hs _ h.2⟩ }
theorem Inv.shut [Inhabited Base] (h : Inv ap n Γ w t) {i ce : Nat} (hi : i < n) (hc : ShutCh w ce) : Inv ap n (upd Γ i ((Γ i).shut ce)) w t := h.knows hi rfl rfl rfl rfl rfl rfl rfl (fun u x => x.1) ⟨h.know i, hc⟩
end Go.Proofs.Ytaceedenkmccdaa
/- Pools: what a goroutine's walk must show ('Safe'); where each stands ('Sit'). -/
namespace Go.Proofs.Ytaceedenkmccdaa
open Go Go.Conc Go.ConcN
set_option linter.unusedSimpArgs false
set_option linter.unusedVariables false
def qval (v : Int) (c : Nat) : Value := .agg #[.int .i64 v, .chan (some c)]
def Lefty (L : Lo) : Prop := (∃ wa zs f, L.role = .left wa zs f 0) ∧ L.q = none
/-- The others are as they were (of those that only leave, but for what they own). -/
def Others (Γ Γ' : Nat → Lo) (i : Nat) : Prop := ∀ j, j ≠ i → Γ' j = Γ j ∨ (Lefty (Γ j) ∧ Lefty (Γ' j) ∧ (Γ' j).d = (Γ j).d)
def opsOf (i : Nat) (g : Goroutine) (es : Array Event) : Trace := MemOp.ofEvents i g.frame.fn g.frame.place es
def idleL (p : PoolG) (i : Nat) (L : Lo) : Prop := L.role = .worker p none ∧ L.q = none ∧ i ≠ 0
/-- What others wait for is told them. -/
def Wakes (P : Program) (g : Goroutine) (Γ Γ' : Nat → Lo) (w w' : World) : Prop := mayWake P g = true ∨ ((Γ' 0).role.m.cl = (Γ 0).role.m.cl ∧ ∀ wa, (Γ 0).role.m.reg = some wa → CellI w (sem wa) .u32 0 → CellI w' (sem wa) .u32 0)
section
variable (P : Program) (ap : Nat → Int → Int) (SelAt : PoolG → Nat → Goroutine → Lo → Prop) (CI CW : Nat) (Q : Value → World → Prop)
/-- Within c steps of its own, whatever the others do, the goroutine keeps what is held, and ends, or comes to rest. -/
def Safe [Inhabited Base] (i c : Nat) (g : Goroutine) (L : Lo) : Prop :=
  (∃ p, SelAt p i g L ∧ CI ≤ c ∧ idleL p i L) ∨
  (g.status = .running ∧ ¬ Lefty L ∧ ∀ (n : Nat) (Γ : Nat → Lo) (w : World) (t : Trace), Inv ap n Γ w t → Γ i = L → i < n →
    (∃ (g' : Goroutine) (w' : World) (es : Array Event) (Γ' : Nat → Lo), stepG P (i == 0) g w = .go g' w' es ∧ Inv ap n Γ' w' (t ++ opsOf i g es) ∧ Others Γ Γ' i ∧ Wakes P g Γ Γ' w w' ∧ (∀ b, (Γ 0).role.m.cl b = true → (Γ' 0).role.m.cl b = true) ∧ NoFill w w' ∧
      (∃ c', ∃ _h : c' < c, Safe i c' g' (Γ' i)) ∧ ¬ Lefty (Γ' i)) ∨
    (∃ (g' : Goroutine) (w' : World) (es : Array Event) (Γ' : Nat → Lo), stepG P (i == 0) g w = .go g' w' es ∧ Inv ap n Γ' w' (t ++ opsOf i g es) ∧ Others Γ Γ' i ∧ Wakes P g Γ Γ' w w' ∧ (∀ b, (Γ 0).role.m.cl b = true → (Γ' 0).role.m.cl b = true) ∧ NoFill w w' ∧
      i ≠ 0 ∧ Lefty (Γ' i) ∧ ∃ c', c' < c ∧ QuitsD P c' (Γ' i).d g') ∨
    (i = 0 ∧ ∃ (g' child : Goroutine) (w' : World) (es : Array Event) (Γ' : Nat → Lo), stepG P true g w = .spawn g' child w' es ∧
      Inv ap (n + 1) Γ' w' (t ++ ((opsOf i g es).push { g := i, fn := g.frame.fn, pos := g.frame.place, act := .go n } |>.push { g := n, fn := child.frame.fn, pos := g.frame.place, act := .start })) ∧ (∀ j, j ≠ 0 → j ≠ n → Γ' j = Γ j) ∧ (Γ' 0).role.m.cl = (Γ 0).role.m.cl ∧ NoFill w w' ∧
      ¬ Lefty (Γ' 0) ∧ ¬ Lefty (Γ' n) ∧ ∃ c1 c2, ∃ _h : c1 + c2 < c, Safe 0 c1 g' (Γ' 0) ∧ Safe n c2 child (Γ' n)) ∨
    (∃ (g₂ : Goroutine) (z : Value) (p : PoolG), p ∈ (Γ 0).role.m.ps ∧ stepG P (i == 0) g w = .comm g₂ #[rcase p.ce z] false .select w #[] ∧
      ∃ c', ∃ _h : c' < c, Safe i c' (if (Γ 0).role.m.cl p.b = true then g₂.finishComm P #[rcase p.ce z] .select 0 z false else g₂.finishComm P #[rcase p.ce z] .select (-1) undef false) L) ∨
    (∃ (g₂ : Goroutine) (z zq : Value) (p : PoolG) (cb : Nat) (v : Int), stepG P (i == 0) g w = .comm g₂ #[scase p.ci (qval v cb) zq, rcase p.ce z] true .select w #[] ∧ L.q = some ⟨p, cb, v, false⟩ ∧ MayAsk L p ∧
      ∃ c', ∃ _h : c' + CW < c, Safe i c' (g₂.finishComm P #[scase p.ci (qval v cb) zq, rcase p.ce z] .select 0 undef false) (sentL p L)) ∨
    (∃ (g₂ : Goroutine) (z : Value) (p : PoolG) (cb : Nat) (v : Int), stepG P (i == 0) g w = .comm g₂ #[rcase cb z] true (.recv false) w #[] ∧ L.q = some ⟨p, cb, v, true⟩ ∧
      ∃ c', ∃ _h : c' < c, Safe i c' (g₂.finishComm P #[rcase cb z] (.recv false) 0 (.int .i64 (ap p.fn v)) true) (L.turn L.role none)) ∨
    (∃ (g₂ : Goroutine) (z : Value) (p : PoolG) (cb : Nat) (v : Int), stepG P (i == 0) g w = .comm g₂ #[scase cb (.int .i64 (ap p.fn v)) z] true .send w #[] ∧ L.role = .worker p (some (cb, v, true)) ∧ L.q = none ∧
      ∃ c', ∃ _h : c' < c, Safe i c' (g₂.finishComm P #[scase cb (.int .i64 (ap p.fn v)) z] .send 0 undef false) (L.turn (.worker p none) none)) ∨
    (i = 0 ∧ ∃ wa, L.role.m.reg = some wa ∧ L.q = none ∧ (∀ w, CellI w (sem wa) .u32 0 → stepG P true g w = .go { g with status := .blocked, offers := none } w #[]) ∧
      ∀ (n : Nat) (Γ : Nat → Lo) (w : World) (t : Trace), Inv ap n Γ w t → Γ 0 = L → CellI w (sem wa) .u32 1 → ∃ (g' : Goroutine) (w' : World) (es : Array Event) (Γ' : Nat → Lo), stepG P true g w = .go g' w' es ∧ Inv ap n Γ' w' (t ++ opsOf 0 g es) ∧ Others Γ Γ' 0 ∧
        (Γ' 0).role.m.cl = (Γ 0).role.m.cl ∧ NoFill w w' ∧ ¬ Lefty (Γ' 0) ∧ ∃ c', ∃ _h : c' < c, Safe 0 c' g' (Γ' 0)) ∨
    (i = 0 ∧ ∃ v w' es, stepG P true g w = .ended (.done v) w' es ∧ Q v w' ∧ Aged w w' ∧ L.role.m.al = none ∧ L.role.m.reg = none ∧ (∀ e ∈ L.role.m.ps, L.role.m.fin e.b = true) ∧ Inv ap n Γ w (t ++ opsOf 0 g es)))
  termination_by c
  decreasing_by all_goals omega
/-- Main stands at the semaphore. -/
def SemAt [Inhabited Base] (c : Nat) (g : Goroutine) (L : Lo) : Prop :=
  g.status = .running ∧ ¬ Lefty L ∧ ∃ wa, L.role.m.reg = some wa ∧ L.q = none ∧ (∀ w, CellI w (sem wa) .u32 0 → stepG P true g w = .go { g with status := .blocked, offers := none } w #[]) ∧
      ∀ (n : Nat) (Γ : Nat → Lo) (w : World) (t : Trace), Inv ap n Γ w t → Γ 0 = L → CellI w (sem wa) .u32 1 → ∃ (g' : Goroutine) (w' : World) (es : Array Event) (Γ' : Nat → Lo), stepG P true g w = .go g' w' es ∧ Inv ap n Γ' w' (t ++ opsOf 0 g es) ∧ Others Γ Γ' 0 ∧
        (Γ' 0).role.m.cl = (Γ 0).role.m.cl ∧ NoFill w w' ∧ ¬ Lefty (Γ' 0) ∧ ∃ c', ∃ _h : c' < c, Safe P ap SelAt CI CW Q 0 c' g' (Γ' 0)
/-- An idle worker at its select. -/
def Rest [Inhabited Base] (p : PoolG) (i : Nat) (g : Goroutine) (L : Lo) : Prop :=
  g.status = .running ∧ ∃ (g₀ : Goroutine) (z zq : Value), (∀ w, L.S w → stepG P false g w = .comm g₀ #[rcase p.ci zq, rcase p.ce z] true .select w #[]) ∧
    (∀ v cb, Safe P ap SelAt CI CW Q i CW (g₀.finishComm P #[rcase p.ci zq, rcase p.ce z] .select 0 (qval v cb) true) (L.turn (.worker p (some (cb, v, false))) none)) ∧
    (∃ c', c' < CI ∧ Safe P ap SelAt CI CW Q i c' (g₀.finishComm P #[rcase p.ci zq, rcase p.ce z] .select 1 z false) (L.shut p.ce)) ∧ SelAt p i { parked g₀ #[rcase p.ci zq, rcase p.ce z] .select with status := .running } L
/-- Where a goroutine stands; how much it weighs. -/
inductive Sit [Inhabited Base] (cl : Nat → Bool) (i : Nat) : Goroutine → Lo → Nat → Prop where
  | run {g : Goroutine} {L : Lo} {c : Nat} : g.status = .running → Safe P ap SelAt CI CW Q i c g L → Sit cl i g L (4 * c + 3)
  | parkW {g : Goroutine} {L : Lo} {c : Nat} {p : PoolG} {z zq : Value} : cl p.b = false → CI ≤ c → idleL p i L → (∀ v cb, Safe P ap SelAt CI CW Q i CW (g.finishComm P #[rcase p.ci zq, rcase p.ce z] .select 0 (qval v cb) true) (L.turn (.worker p (some (cb, v, false))) none)) →
      SelAt p i { parked g #[rcase p.ci zq, rcase p.ce z] .select with status := .running } L → Sit cl i (parked g #[rcase p.ci zq, rcase p.ce z] .select) L (4 * c + 2)
  | selW {g : Goroutine} {L : Lo} {c : Nat} {p : PoolG} : cl p.b = true → SelAt p i g L → CI ≤ c → idleL p i L → Sit cl i g L (4 * c + 1)
  | parkA {g : Goroutine} {L : Lo} {c c' : Nat} {p : PoolG} {z zq : Value} {cb : Nat} {v : Int} : ¬ Lefty L → c' + CW < c → L.q = some ⟨p, cb, v, false⟩ → MayAsk L p →
      Safe P ap SelAt CI CW Q i c' (g.finishComm P #[scase p.ci (qval v cb) zq, rcase p.ce z] .select 0 undef false) (sentL p L) → Sit cl i (parked g #[scase p.ci (qval v cb) zq, rcase p.ce z] .select) L (4 * c + 2)
  | parkR {g : Goroutine} {L : Lo} {c c' : Nat} {p : PoolG} {z : Value} {cb : Nat} {v : Int} : ¬ Lefty L → c' < c → L.q = some ⟨p, cb, v, true⟩ →
      Safe P ap SelAt CI CW Q i c' (g.finishComm P #[rcase cb z] (.recv false) 0 (.int .i64 (ap p.fn v)) true) (L.turn L.role none) → Sit cl i (parked g #[rcase cb z] (.recv false)) L (4 * c + 2)
  | semB {g : Goroutine} {L : Lo} {c : Nat} : i = 0 → SemAt P ap SelAt CI CW Q c g L → Sit cl i { g with status := .blocked, offers := none } L (4 * c)
  | semR {g : Goroutine} {L : Lo} {c : Nat} : i = 0 → SemAt P ap SelAt CI CW Q c g L → Sit cl i { g with status := .running, offers := none } L (4 * c + 1)
  | quits {g : Goroutine} {L : Lo} {c : Nat} : i ≠ 0 → Lefty L → QuitsD P c L.d g → Sit cl i g L (4 * c)
/-- The machine. -/
structure MInv [Inhabited Base] (O : World) (μ : Nat) (m : Machine) (t : Trace) : Prop where
  ex : ∃ (Γ : Nat → Lo) (gs : Array Goroutine) (w : World) (sl : Option (Nat × Nat)) (wt : Nat → Nat), m = crowd gs w sl ∧ Inv ap gs.size Γ w t ∧ (∀ (i : Nat) (g : Goroutine), gs[i]? = some g → Sit P ap SelAt CI CW Q (Γ 0).role.m.cl i g (Γ i) (wt i)) ∧
    (∀ (c j k : Nat) (gj gk : Goroutine), gs[j]? = some gj → gs[k]? = some gk → offersAt gj c true ≠ [] → offersAt gk c false ≠ [] → False) ∧
    (∀ (c j : Nat) (gj : Goroutine), gs[j]? = some gj → offersAt gj c false ≠ [] → ∀ v s r, ¬ IsCh w c 1 #[v] false s r) ∧
    (∀ (g : Goroutine) (wa : Addr), gs[0]? = some g → g.status = .blocked → g.offers = none → (Γ 0).role.m.reg = some wa → CellI w (sem wa) .u32 0) ∧ Aged O w ∧ μ = sumTo gs.size wt
variable {P ap SelAt CI CW Q}
theorem SafeRun [Inhabited Base] {i c : Nat} {g : Goroutine} {L : Lo} (hR : ∀ p i g L, SelAt p i g L → idleL p i L → Rest P ap SelAt CI CW Q p i g L) (h : Safe P ap SelAt CI CW Q i c g L) : g.status = .running := by
  unfold Safe at h
  rcases h with ⟨p, h1, _, h2⟩ | ⟨h1, _⟩
  · exact (hR p i g L h1 h2).1
  · exact h1
theorem sit_status [Inhabited Base] {cl : Nat → Bool} {i m : Nat} {g : Goroutine} {L : Lo} (hR : ∀ p i g L, SelAt p i g L → idleL p i L → Rest P ap SelAt CI CW Q p i g L) (h : Sit P ap SelAt CI CW Q cl i g L m) : g.status = .running ∨ g.status = .blocked ∨ g.status = .finished := by
  cases h with
  | run h1 _ => exact .inl h1
  | parkW => exact .inr (.inl rfl)
  | selW _ h1 _ h2 => exact .inl (hR _ _ _ _ h1 h2).1
  | parkA => exact .inr (.inl rfl)
  | parkR => exact .inr (.inl rfl)
  | semB => exact .inr (.inl rfl)
  | semR => exact .inl rfl
  | quits _ _ h => exact h.status.imp id .inr
theorem sit_awake [Inhabited Base] {cl : Nat → Bool} {i m : Nat} {g : Goroutine} {L : Lo} (hR : ∀ p i g L, SelAt p i g L → idleL p i L → Rest P ap SelAt CI CW Q p i g L) (h : Sit P ap SelAt CI CW Q cl i g L m) : awake g := fun t e => by
  rcases sit_status hR h with h | h | h <;> rw [h] at e <;> cases e
/-- Who offers to send there. -/
theorem sit_sends [Inhabited Base] {cl : Nat → Bool} {i m : Nat} {g : Goroutine} {L : Lo} (hR : ∀ p i g L, SelAt p i g L → idleL p i L → Rest P ap SelAt CI CW Q p i g L) (h : Sit P ap SelAt CI CW Q cl i g L m) {c kj : Nat} (hk : kj ∈ offersAt g c true) :
    kj = 0 ∧ ∃ (p : PoolG) (g₀ : Goroutine) (z zq : Value) (cb : Nat) (v : Int) (c0 c' : Nat), p.ci = c ∧ g = parked g₀ #[scase p.ci (qval v cb) zq, rcase p.ce z] .select ∧ m = 4 * c0 + 2 ∧ ¬ Lefty L ∧ c' + CW < c0 ∧ L.q = some ⟨p, cb, v, false⟩ ∧ MayAsk L p ∧
      Safe P ap SelAt CI CW Q i c' (g₀.finishComm P #[scase p.ci (qval v cb) zq, rcase p.ce z] .select 0 undef false) (sentL p L) := by
  cases h with
  | run h1 _ => rw [offersAt_of_not_blocked (by rw [h1]; simp)] at hk; cases hk
  | parkW => simp [offersAt, parked, rcase] at hk
  | selW _ h1 _ h2 => rw [offersAt_of_not_blocked (by rw [(hR _ _ _ _ h1 h2).1]; simp)] at hk; cases hk
  | @parkA g₀ _ c0 c' p z zq cb v h1 h2 h3 h4 h5 =>
    simp [offersAt, parked, rcase, scase, Array.zipIdx] at hk
    obtain ⟨a, ha, hs, hc⟩ := hk
    rcases ha with ⟨rfl, rfl⟩ | ⟨rfl, rfl⟩
    · exact ⟨rfl, p, g₀, z, zq, cb, v, c0, c', by simpa using hc, rfl, rfl, h1, h2, h3, h4, h5⟩
    · cases hs
  | parkR => simp [offersAt, parked, rcase] at hk
  | semB => simp [offersAt] at hk
  | semR => rw [offersAt_of_not_blocked (by simp)] at hk; cases hk
  | quits _ _ h => rw [offersAt_of_not_blocked (by rcases h.status with e | e <;> rw [e] <;> simp)] at hk; cases hk
/-- Who offers to receive there. -/
theorem sit_recvs [Inhabited Base] {cl : Nat → Bool} {i m : Nat} {g : Goroutine} {L : Lo} (hR : ∀ p i g L, SelAt p i g L → idleL p i L → Rest P ap SelAt CI CW Q p i g L) (h : Sit P ap SelAt CI CW Q cl i g L m) {c kj : Nat} (hk : kj ∈ offersAt g c false) :
    (∃ (p : PoolG) (g₀ : Goroutine) (z zq : Value) (c0 : Nat), g = parked g₀ #[rcase p.ci zq, rcase p.ce z] .select ∧ m = 4 * c0 + 2 ∧ cl p.b = false ∧ idleL p i L ∧ (kj = 0 ∧ p.ci = c ∨ kj = 1 ∧ p.ce = c) ∧
      ∀ v cb, Safe P ap SelAt CI CW Q i CW (g₀.finishComm P #[rcase p.ci zq, rcase p.ce z] .select 0 (qval v cb) true) (L.turn (.worker p (some (cb, v, false))) none)) ∨
    (∃ (p : PoolG) (cb : Nat) (v : Int), kj = 1 ∧ p.ce = c ∧ L.q = some ⟨p, cb, v, false⟩) ∨
    (∃ (p : PoolG) (g₀ : Goroutine) (z : Value) (v : Int) (c0 c' : Nat), g = parked g₀ #[rcase c z] (.recv false) ∧ m = 4 * c0 + 2 ∧ kj = 0 ∧ ¬ Lefty L ∧ c' < c0 ∧ L.q = some ⟨p, c, v, true⟩ ∧
      Safe P ap SelAt CI CW Q i c' (g₀.finishComm P #[rcase c z] (.recv false) 0 (.int .i64 (ap p.fn v)) true) (L.turn L.role none)) := by
  cases h with
  | run h1 _ => rw [offersAt_of_not_blocked (by rw [h1]; simp)] at hk; cases hk
  | selW _ h1 _ h2 => rw [offersAt_of_not_blocked (by rw [(hR _ _ _ _ h1 h2).1]; simp)] at hk; cases hk
  | @parkW g₀ _ c0 p z zq hcl h1 h2 h3 h4 =>
    simp [offersAt, parked, rcase, Array.zipIdx] at hk
    obtain ⟨a, ha, hs, hc⟩ := hk
    refine .inl ⟨p, g₀, z, zq, c0, rfl, rfl, hcl, h2, ?_, h3⟩
    rcases ha with ⟨rfl, rfl⟩ | ⟨rfl, rfl⟩
    · exact .inl ⟨rfl, by simpa using hc⟩
    · exact .inr ⟨rfl, by simpa using hc⟩
  | @parkA g₀ _ c0 c' p z zq cb v h1 h2 h3 h4 h5 =>
    simp [offersAt, parked, rcase, scase, Array.zipIdx] at hk
    obtain ⟨a, ⟨rfl, hk1⟩, hs, hc⟩ := hk
    exact .inr (.inl ⟨p, cb, v, hk1, by simpa using hc, h3⟩)
  | @parkR g₀ _ c0 c' p z cb v h1 h2 h3 h4 =>
    simp [offersAt, parked, rcase, Array.zipIdx] at hk
    obtain ⟨a, ⟨rfl, rfl⟩, _, hc⟩ := hk
    obtain rfl : cb = c := by simpa using hc
    exact .inr (.inr ⟨p, g₀, z, v, c0, c', rfl, rfl, rfl, h1, h2, h3, h4⟩)
  | semB => simp [offersAt] at hk
  | semR => rw [offersAt_of_not_blocked (by simp)] at hk; cases hk
  | quits _ _ h => rw [offersAt_of_not_blocked (by rcases h.status with e | e <;> rw [e] <;> simp)] at hk; cases hk
theorem chan_closed [Inhabited Base] {w : World} {c cap : Nat} {buf : Array Value} {cl : Bool} {s r : Nat} (h : IsCh w c cap buf cl s r) : (w.heap[c]? matches some (Obj.chan _ _ true _ _ _)) = cl := by
  obtain ⟨tm, e⟩ := h
  rw [e]
  cases cl <;> rfl
/-- Whoever is let try again. -/
theorem sit_again [Inhabited Base] {cl : Nat → Bool} {i m : Nat} {g : Goroutine} {L : Lo} (hR : ∀ p i g L, SelAt p i g L → idleL p i L → Rest P ap SelAt CI CW Q p i g L) (h : Sit P ap SelAt CI CW Q cl i g L m) {n : Nat} {Γ : Nat → Lo} {w : World} {t : Trace} (hI : Inv ap n Γ w t) (hL : Γ i = L)
    (hcl : ∀ b, cl b = true → (Γ 0).role.m.cl b = true) :
    ∃ m', Sit P ap SelAt CI CW Q (Γ 0).role.m.cl i (g.again w) L m' ∧ m' ≤ m + (if i = 0 then 1 else 0) ∧ (∀ c b, offersAt g c b = [] → offersAt (g.again w) c b = []) := by
  have run : ∀ g : Goroutine, g.status = .running ∨ g.status = .finished → g.again w = g := fun g h => again_running w h
  have keep : ∀ (h : g.again w = g), Sit P ap SelAt CI CW Q (Γ 0).role.m.cl i g L m → ∃ m', Sit P ap SelAt CI CW Q (Γ 0).role.m.cl i (g.again w) L m' ∧ m' ≤ m + (if i = 0 then 1 else 0) ∧ (∀ c b, offersAt g c b = [] → offersAt (g.again w) c b = []) := fun e h =>
    ⟨m, by rw [e]; exact h, by omega, fun c b hh => by rw [e]; exact hh⟩
  cases h with
  | run h1 h2 => exact keep (run _ (.inl h1)) (.run h1 h2)
  | @selW _ _ c0 p h1 h2 h3 h4 => exact keep (run _ (.inl (hR _ _ _ _ h2 h4).1)) (.selW (hcl _ h1) h2 h3 h4)
  | @parkW g₀ _ c0 p z zq h0 h1 h2 h3 h4 =>
    obtain ⟨hp, _⟩ := hI.wld.work i p none (by rw [hL]; exact h2.1)
    obtain ⟨⟨s1, r1, tm1, e1⟩, ⟨s2, r2, tm2, e2⟩, _⟩ := hI.wld.pools p hp
    cases hcl2 : (Γ 0).role.m.cl p.b with
    | false =>
      rw [hcl2] at e2
      refine keep (again_all_open fun cc hcc => ?_) (.parkW hcl2 h1 h2 h3 h4)
      simp at hcc
      rcases hcc with rfl | rfl
      · exact ⟨p.ci, zq, _, _, _, _, _, rfl, e1⟩
      · exact ⟨p.ce, z, _, _, _, _, _, rfl, e2⟩
    | true =>
      rw [hcl2] at e2
      have e := again_some_closed (g := g₀) (sh := .select) (cs := #[rcase p.ci zq, rcase p.ce z]) (k := 1) (z := z) (c := p.ce) rfl e2
      refine ⟨4 * c0 + 1, ?_, by omega, fun c b _ => ?_⟩
      · rw [e]
        exact .selW hcl2 h4 h1 h2
      · rw [e]; exact offersAt_of_not_blocked (by simp) _ _
  | @parkA g₀ _ c0 c' p z zq cb v h1 h2 h3 h4 h5 =>
    obtain ⟨⟨hp, hcl2, _⟩, _⟩ := hI.wld.q i _ (by rw [hL]; exact h3)
    obtain ⟨⟨s1, r1, tm1, e1⟩, ⟨s2, r2, tm2, e2⟩, _⟩ := hI.wld.pools p hp
    rw [hcl2] at e2
    refine keep ?_ (.parkA h1 h2 h3 h4 h5)
    simp [Goroutine.again, parked, scase, rcase, e1, e2]
  | @parkR g₀ _ c0 c' p z cb v h1 h2 h3 h4 =>
    have hopen : ∃ buf s r tm, w.heap[cb]? = some (.chan 1 buf false s r tm) := by
      obtain ⟨_, _, q3⟩ := hI.wld.q i _ (by rw [hL]; exact h3)
      rcases q3 rfl with ⟨k, b, hk⟩ | ⟨tm', e⟩
      · obtain ⟨⟨tm', e⟩, _⟩ := hI.wld.job k p cb v b hk
        exact ⟨_, _, _, _, e⟩
      · exact ⟨_, _, _, _, e⟩
    obtain ⟨buf, s, r, tm, e⟩ := hopen
    exact keep (again_recv_open e) (.parkR h1 h2 h3 h4)
  | @semB g₀ _ c0 h1 h2 =>
    refine ⟨4 * c0 + 1, ?_, by rw [if_pos h1]; omega, fun c b _ => ?_⟩
    · exact Sit.semR (g := g₀) h1 h2
    · exact offersAt_of_not_blocked (by simp [Goroutine.again]) _ _
  | semR h1 h2 => exact keep (run _ (.inl rfl)) (.semR h1 h2)
  | quits h1 h2 h3 => exact keep (run _ h3.status) (.quits h1 h2 h3)
end
end Go.Proofs.Ytaceedenkmccdaa
/- Pools: the machine's own steps. -/
namespace Go.Proofs.Ytaceedenkmccdaa
open Go Go.Conc Go.ConcN
set_option linter.unusedSimpArgs false
set_option linter.unusedVariables false
section
variable {P : Program} {ap : Nat → Int → Int} {SelAt : PoolG → Nat → Goroutine → Lo → Prop} {CI CW : Nat} {Q : Value → World → Prop}
variable {Γ Γ' : Nat → Lo} {gs : Array Goroutine} {w w' : World} {sl : Option (Nat × Nat)} {wt : Nat → Nat} {t : Trace}
theorem sit_lefty [Inhabited Base] {cl cl' : Nat → Bool} {i m : Nat} {g : Goroutine} {L L' : Lo} (h : Sit P ap SelAt CI CW Q cl i g L m) (h1 : Lefty L) (h2 : Lefty L') (hd : L'.d = L.d) : Sit P ap SelAt CI CW Q cl' i g L' m := by
  cases h with
  | run hs hf =>
    unfold Safe at hf
    rcases hf with ⟨p, _, _, hi⟩ | ⟨_, hn, _⟩
    · obtain ⟨⟨wa, zs, f, hr⟩, _⟩ := h1
      rw [hi.1] at hr; cases hr
    · exact absurd h1 hn
  | parkW _ _ hi _ _ =>
    obtain ⟨⟨wa, zs, f, hr⟩, _⟩ := h1
    rw [hi.1] at hr; cases hr
  | selW _ _ _ hi =>
    obtain ⟨⟨wa, zs, f, hr⟩, _⟩ := h1
    rw [hi.1] at hr; cases hr
  | parkA hn => exact absurd h1 hn
  | parkR hn => exact absurd h1 hn
  | semB _ hs => exact absurd h1 hs.2.1
  | semR _ hs => exact absurd h1 hs.2.1
  | quits h0 _ hq => exact .quits h0 h2 (by rw [hd]; exact hq)
theorem sum_le {n i : Nat} {f f' : Nat → Nat} (hi : i < n) {m : Nat} (hm : f' i ≤ m) (h : ∀ j, j < n → j ≠ i → f' j ≤ f j + (if j = 0 then 1 else 0)) : sumTo n f' + f i ≤ sumTo n f + m + (if i = 0 then 0 else 1) := by
  induction n with
  | zero => omega
  | succ n ih =>
    simp only [sumTo]
    rcases Nat.lt_or_ge i n with hlt | hge
    · have h1 := ih hlt fun j hj => h j (by omega)
      have h2 := h n (by omega) (by omega)
      have : ¬ n = 0 := by omega
      rw [if_neg this] at h2
      omega
    · obtain rfl : i = n := by omega
      have key : ∀ k, k ≤ i → sumTo k f' ≤ sumTo k f + (if k = 0 then 0 else 1) := by
        intro k
        induction k with
        | zero => intro _; simp [sumTo]
        | succ k ihk =>
          intro hk
          simp only [sumTo]
          have h1 := ihk (by omega)
          have h2 := h k (by omega) (by omega)
          by_cases hk0 : k = 0
          · subst hk0; simp [sumTo] at *; omega
          · rw [if_neg hk0] at h1 h2; simp; omega
      have := key i (Nat.le_refl _)
      omega
theorem get_woken {i : Nat} (gs : Array Goroutine) (f : Goroutine → Goroutine) (g' : Goroutine) (hi : i < gs.size) (j : Nat) : ((gs.map f).setIfInBounds i g')[j]? = if j = i then some g' else (gs[j]?).map f := by
  by_cases e : j = i
  · subst e; rw [if_pos rfl, Array.getElem?_setIfInBounds_self_of_lt (by simpa using hi)]
  · rw [if_neg e, Array.getElem?_setIfInBounds_ne (Ne.symm e), Array.getElem?_map]
/-- Whatever step of goroutine i's that is its own. -/
theorem mi_go [Inhabited Base] (hR : ∀ p i g L, SelAt p i g L → idleL p i L → Rest P ap SelAt CI CW Q p i g L) (hS : ∀ (j : Nat) (g : Goroutine), gs[j]? = some g → Sit P ap SelAt CI CW Q (Γ 0).role.m.cl j g (Γ j) (wt j))
    (hN : ∀ (c j k : Nat) (gj gk : Goroutine), gs[j]? = some gj → gs[k]? = some gk → offersAt gj c true ≠ [] → offersAt gk c false ≠ [] → False)
    (hB : ∀ (c j : Nat) (gj : Goroutine), gs[j]? = some gj → offersAt gj c false ≠ [] → ∀ v s r, ¬ IsCh w c 1 #[v] false s r) (hf : NoFill w w')
    (hU : ∀ (g : Goroutine) (wa : Addr), gs[0]? = some g → g.status = .blocked → g.offers = none → (Γ 0).role.m.reg = some wa → CellI w (sem wa) .u32 0)
    {i : Nat} {g g' : Goroutine} {es : Array Event} {m : Nat} (hi : gs[i]? = some g) (hst : stepG P (i == 0) g w = .go g' w' es) (hI : Inv ap gs.size Γ' w' (t ++ opsOf i g es)) (hO : Others Γ Γ' i)
    (hcl : (mayWake P g && g'.status != .blocked && g'.status != .waiting) = true ∨ ((Γ' 0).role.m.cl = (Γ 0).role.m.cl ∧ ∀ wa, (Γ 0).role.m.reg = some wa → CellI w (sem wa) .u32 0 → CellI w' (sem wa) .u32 0)) (hU' : i = 0 → g'.status = .blocked → ∀ wa, (Γ' 0).role.m.reg = some wa → CellI w' (sem wa) .u32 0) (hmono : ∀ b, (Γ 0).role.m.cl b = true → (Γ' 0).role.m.cl b = true) (hs : Sit P ap SelAt CI CW Q (Γ' 0).role.m.cl i g' (Γ' i) m) (hm : m + (if i = 0 then 1 else 2) ≤ wt i) (hoff : ∀ c b, offersAt g' c b = []) :
    ∃ m' ops μ', runT P (crowd gs w sl) i = (.next m', ops) ∧ μ' < sumTo gs.size wt ∧ MInv P ap SelAt CI CW Q w μ' m' (t ++ ops) := by
  obtain ⟨hlt, _⟩ := Array.getElem?_eq_some_iff.1 hi
  have hrun := runT_crowd_go (P := P) (sl := sl) hi hst
  have hget := get_woken gs (woken P g g' w') g' hlt
  have hsz : ((gs.map (woken P g g' w')).setIfInBounds i g').size = gs.size := by simp
  have old : ∀ (j : Nat) (gj : Goroutine), j ≠ i → gs[j]? = some gj → Sit P ap SelAt CI CW Q (Γ 0).role.m.cl j gj (Γ' j) (wt j) := fun j gj hj hg => by
    rcases hO j hj with e | ⟨l1, l2, l3⟩
    · rw [e]; exact hS j gj hg
    · exact sit_lefty (hS j gj hg) l1 l2 l3
  have new : ∀ (j : Nat), ∃ m', (j < gs.size → j ≠ i → m' ≤ wt j + (if j = 0 then 1 else 0)) ∧ (j = i → m' = m) ∧ ∀ gj, ((gs.map (woken P g g' w')).setIfInBounds i g')[j]? = some gj → Sit P ap SelAt CI CW Q (Γ' 0).role.m.cl j gj (Γ' j) m' ∧
      (∀ c b, offersAt gj c b ≠ [] → ∃ g0, gs[j]? = some g0 ∧ offersAt g0 c b ≠ []) := fun j => by
    by_cases e : j = i
    · subst e
      refine ⟨m, fun _ h => absurd rfl h, fun _ => rfl, fun gj hgj => ?_⟩
      rw [hget, if_pos rfl] at hgj
      cases hgj
      exact ⟨hs, fun c b hne => absurd (hoff c b) hne⟩
    · cases hg : gs[j]? with
      | none => exact ⟨0, fun _ _ => Nat.zero_le _, fun h => absurd h e, fun gj hgj => by rw [hget, if_neg e, hg] at hgj; cases hgj⟩
      | some g0 =>
        by_cases hw : (mayWake P g && g'.status != .blocked && g'.status != .waiting) = true
        · obtain ⟨m', h1, h2, h3⟩ := sit_again hR (old j g0 e hg) hI rfl hmono
          refine ⟨m', fun _ _ => h2, fun h => absurd h e, fun gj hgj => ?_⟩
          rw [hget, if_neg e, hg] at hgj
          simp only [Option.map_some, Option.some.injEq, woken, hw, if_true] at hgj
          subst hgj
          exact ⟨h1, fun c b hne => ⟨g0, rfl, fun h0 => hne (h3 c b h0)⟩⟩
        · refine ⟨wt j, fun _ _ => by omega, fun h => absurd h e, fun gj hgj => ?_⟩
          rw [hget, if_neg e, hg] at hgj
          simp only [Option.map_some, Option.some.injEq, woken, hw, if_false, Bool.false_eq_true] at hgj
          subst hgj
          exact ⟨by rw [(hcl.resolve_left hw).1]; exact old j g0 e hg, fun c b hne => ⟨g0, rfl, hne⟩⟩
  refine ⟨_, _, sumTo gs.size fun j => Classical.choose (new j), hrun, ?_, ⟨Γ', _, w', sl, fun j => Classical.choose (new j), rfl, by rw [hsz]; exact hI, fun j gj hgj => (((Classical.choose_spec (new j)).2.2) gj hgj).1, ?_, ?_, ?_, hf.os, by rw [hsz]⟩⟩
  · have h1 := sum_le (n := gs.size) (f := wt) (f' := fun j => Classical.choose (new j)) hlt (m := m) (Nat.le_of_eq ((Classical.choose_spec (new i)).2.1 rfl)) fun j hj he => (Classical.choose_spec (new j)).1 hj he
    by_cases h0 : i = 0
    · rw [if_pos h0] at h1 hm; omega
    · rw [if_neg h0] at h1 hm; omega
  · intro c j k gj gk hj hk h1 h2
    obtain ⟨gj0, e1, n1⟩ := (((Classical.choose_spec (new j)).2.2) gj hj).2 c true h1
    obtain ⟨gk0, e2, n2⟩ := (((Classical.choose_spec (new k)).2.2) gk hk).2 c false h2
    exact hN c j k gj0 gk0 e1 e2 n1 n2
  · intro c j gj hj h1 v s r hc
    obtain ⟨gj0, e1, n1⟩ := (((Classical.choose_spec (new j)).2.2) gj hj).2 c false h1
    exact hB c j gj0 e1 n1 v s r (hf.fill c v s r hc)
  · intro g1 wa hg1 hb ho hreg
    rw [hget] at hg1
    by_cases e : (0 : Nat) = i
    · rw [if_pos e] at hg1
      cases hg1
      exact hU' e.symm hb wa hreg
    · rw [if_neg e] at hg1
      obtain ⟨g0, hg0, hgw⟩ := Option.map_eq_some_iff.1 hg1
      have hreg0 : (Γ 0).role.m.reg = some wa := by
        rcases hO 0 e with e' | ⟨_, ⟨⟨wa', zs, f, hl⟩, _⟩, _⟩
        · rw [e'] at hreg; exact hreg
        · rw [hl] at hreg; cases hreg
      by_cases hw : (mayWake P g && g'.status != .blocked && g'.status != .waiting) = true
      · simp only [woken, hw, if_true] at hgw
        subst hgw
        exfalso
        obtain ⟨fr, cs, st, dy, off⟩ := g0
        cases st <;> cases off <;> simp [Goroutine.again] at hb ho
        split at hb <;> simp_all
      · simp only [woken, hw, if_false, Bool.false_eq_true] at hgw
        subst hgw
        exact (hcl.resolve_left hw).2 wa hreg0 (hU g0 wa hg0 hb ho hreg0)
end
end Go.Proofs.Ytaceedenkmccdaa
