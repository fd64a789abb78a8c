/- Pools: groups, and those who are counted there. -/
import Derived.Test.YtaceedenkmccdaaKPb
/- Pools: one goroutine turns what it is: the frame of all such steps. -/
namespace Go.Proofs.Ytaceedenkmccdaa
open Go Go.Conc Go.ConcN
set_option linter.unusedSimpArgs false
set_option linter.unusedVariables false
variable {ap : Nat → Int → Int} {n : Nat} {Γ Γ' : Nat → Lo} {w w' : World} {t u : Trace}
/-- Of cells, only shared ones are touched. -/
def OnAT (AT : Addr → Prop) (i : Nat) (u : Trace) : Prop := ∀ op ∈ u, op.g = i ∧ ∀ x, op.act.touch? = some x → ∀ a, x.loc = .cell a → AT a
/-- What is asked of a goroutine's new state. -/
structure One [Inhabited Base] (ap : Nat → Int → Int) (n : Nat) (Γ : Nat → Lo) (w w' : World) (t u : Trace) (i : Nat) (L' : Lo) : Prop where
  on : OnAT (AT (Γ 0).role) i u
  tr : Tr (fun j => (upd Γ i L' j).M) (fun j => (upd Γ i L' j).R) (AT (upd Γ i L' 0).role) (fun j => (upd Γ i L' j).h) n w'.heap.size (t ++ u)
  apart : Aparts (fun j => (upd Γ i L' j).M) (fun j => (upd Γ i L' j).R) (AT (upd Γ i L' 0).role)
  deaf : Deaf (t ++ u) i = L'.d
  blk : ∀ a, L'.M a ∨ L'.R a → a.block < w'.heap.size
  size : w.heap.size ≤ w'.heap.size
  blkA : ∀ a, AT (upd Γ i L' 0).role a → a.block < w'.heap.size
  virg : ∀ a, L'.V a → L'.M a ∧ ∀ idx x, touchAt (t ++ u) idx = some x → x.loc ≠ .cell a
  know : L'.S w'
  cell : ∀ j, j ≠ i → ∀ a, (Γ j).M a ∨ (Γ j).R a → w'.cell? a = w.cell? a ∧ w'.frozen? a = w.frozen? a
  shut : ∀ c, ShutCh w c → ShutCh w' c
  main : (∃ m, L'.role = .main m) ↔ i = 0
  main0 : i = 0 → L'.h = .alive
  opens : ∀ wa, OpenWa (Γ 0).role wa → OpenWa (upd Γ i L' 0).role wa
  left : ∀ wa zs f s, 0 < i → L'.role = .left wa zs f s → (L'.h = .over ∧ wa = dead ∧ zs = []) ∨ ((∃ r, L'.h = .rel wa r) ∧ OpenWa (upd Γ i L' 0).role wa)
  held : ∀ wa, 0 < i → L'.role.holds wa = true → L'.h = .alive ∨ ∃ r, L'.h = .rel wa r
  rels : ∀ wa r, L'.h = .rel wa r → L'.role.holds wa = true ∨ ∃ zs f s, L'.role = .left wa zs f s
  regs : ∀ wa, (upd Γ i L' 0).role.m.reg = some wa → (upd Γ i L' 0).role.m.pnd = none ∧ ((∃ e ∈ (upd Γ i L' 0).role.m.ps, (upd Γ i L' 0).role.m.fin e.b = false ∧ wa = handsA e ∧ (upd Γ i L' 0).role.m.cl e.b = true) ∨ ∃ A sp, (upd Γ i L' 0).role.m.al = some (A, sp) ∧ wa = groupA A)
  lst : ∀ j wa zs f s, (upd Γ i L' j).role = .left wa zs f s → 0 < s → (upd Γ i L' 0).role.m.reg = some wa
  virgin : ∀ A sp, (upd Γ i L' 0).role.m.al = some (A, sp) → ∀ z : Nat, z < A.items.length → drawn w' A ≤ z → ca A.bo z ≠ ca A.bn 0 ∧ ¬ AT (upd Γ i L' 0).role (ca A.bo z) ∧ ∀ idx x, touchAt (t ++ u) idx = some x → x.loc ≠ .cell (ca A.bo z)
  wld : Wld ap n (upd Γ i L') w'
/-- Nobody has touched it, and nobody does. -/
theorem untouched {a : Addr} {ATs : Addr → Prop} {i : Nat} (h : ∀ idx x, touchAt t idx = some x → x.loc ≠ .cell a) (hu : OnAT ATs i u) (ha : ¬ ATs a) : ∀ idx x, touchAt (t ++ u) idx = some x → x.loc ≠ .cell a := fun idx x hx => by
  rcases touch_old_or hx with ⟨_, hx'⟩ | ⟨_, op, hop, hxo, _⟩
  · exact h idx x hx'
  · exact fun hl => ha ((hu op hop).2 x hxo a hl)
theorem Inv.one [Inhabited Base] (h : Inv ap n Γ w t) {i : Nat} (hi : i < n) {L' : Lo} (o : One ap n Γ w w' t u i L') : Inv ap n (upd Γ i L') w' (t ++ u) := by
  refine ⟨h.pos, Nat.le_trans h.old o.size, o.tr, o.apart, fun j => ?_, fun j a hj => ?_, o.blkA, fun j a hj => ?_, fun j => ?_, fun j hj => ?_, fun j => ?_, ?_, fun j wa zs f s h0 hj hr => ?_, fun j wa h0 hr => ?_, fun j wa r hr => ?_, o.regs, o.lst, o.virgin, o.wld⟩
  · rcases upd_eq Γ i L' j with ⟨e, rfl⟩ | ⟨e, hji⟩
    · rw [e]; exact o.deaf
    · rw [e, ← h.deaf j]
      exact Deaf_other t (Ne.symm hji) u fun op hop => (o.on op hop).1
  · rcases upd_eq Γ i L' j with ⟨e, rfl⟩ | ⟨e, hji⟩
    · rw [e] at hj; exact o.blk a hj
    · rw [e] at hj; exact Nat.lt_of_lt_of_le (h.blk j a hj) o.size
  · rcases upd_eq Γ i L' j with ⟨e, rfl⟩ | ⟨e, hji⟩
    · rw [e] at hj ⊢; exact o.virg a hj
    · rw [e] at hj ⊢
      obtain ⟨v1, v2⟩ := h.virg j a hj
      exact ⟨v1, untouched v2 o.on fun hat => (h.apart.shared j a hat).1 v1⟩
  · rcases upd_eq Γ i L' j with ⟨e, rfl⟩ | ⟨e, hji⟩
    · rw [e]; exact o.know
    · rw [e]; exact (Γ j).sup w w' (o.cell j hji) o.shut (h.know j)
  · rw [upd_ne _ _ (by omega)]; exact h.beyond j hj
  · rcases upd_eq Γ i L' j with ⟨e, rfl⟩ | ⟨e, hji⟩
    · rw [e]; exact o.main
    · rw [e]; exact h.main j
  · rcases upd_eq Γ i L' 0 with ⟨e, ei⟩ | ⟨e, _⟩
    · rw [e]; exact o.main0 ei.symm
    · rw [e]; exact h.main0
  · rcases upd_eq Γ i L' j with ⟨e, rfl⟩ | ⟨e, hji⟩
    · rw [e] at hr ⊢; exact o.left wa zs f s h0 hr
    · rw [e] at hr ⊢
      exact (h.left j wa zs f s h0 hj hr).imp id fun ⟨x, y⟩ => ⟨x, o.opens wa y⟩
  · rcases upd_eq Γ i L' j with ⟨e, rfl⟩ | ⟨e, hji⟩
    · rw [e] at hr ⊢; exact o.held wa h0 hr
    · rw [e] at hr ⊢; exact h.held j wa h0 hr
  · rcases upd_eq Γ i L' j with ⟨e, rfl⟩ | ⟨e, hji⟩
    · rw [e] at hr ⊢; exact o.rels wa r hr
    · rw [e] at hr ⊢; exact h.rels j wa r hr
/-- The world but for one shared cell. -/
structure But [Inhabited Base] (ad : Addr) (w w' : World) : Prop where
  os : Aged w w'
  size : w'.heap.size = w.heap.size
  cell : ∀ a, a ≠ ad → w'.cell? a = w.cell? a
  froz : ∀ a, w'.frozen? a = w.frozen? a
  chan : ∀ (c cap : Nat) (buf : Array Value) (cl : Bool) (s r : Nat) (tm : Bool), w.heap[c]? = some (Obj.chan cap buf cl s r tm) ↔ w'.heap[c]? = some (Obj.chan cap buf cl s r tm)
theorem But.refl [Inhabited Base] (ad : Addr) (w : World) : But ad w w := ⟨Aged.refl _, rfl, fun _ _ => rfl, fun _ => rfl, fun _ _ _ _ _ _ _ => Iff.rfl⟩
theorem But.shut [Inhabited Base] {ad : Addr} (h : But ad w w') : ∀ c, ShutCh w c → ShutCh w' c := fun c ⟨_, _, _, _, _, e⟩ => ⟨_, _, _, _, _, (h.chan _ _ _ _ _ _ _).1 e⟩
theorem But.ch [Inhabited Base] {ad : Addr} (h : But ad w w') {c cap : Nat} {buf : Array Value} {cl : Bool} {s r : Nat} (x : IsCh w c cap buf cl s r) : IsCh w' c cap buf cl s r := let ⟨tm, e⟩ := x; ⟨tm, (h.chan _ _ _ _ _ _ _).1 e⟩
theorem But.fill [Inhabited Base] {ad : Addr} (h : But ad w w') : NoFill w w' := .mk h.os fun c v s r ⟨tm, e⟩ => ⟨tm, (h.chan _ _ _ _ _ _ _).2 e⟩
theorem But.cellI [Inhabited Base] {ad a : Addr} (h : But ad w w') (hne : a ≠ ad) {k : IntKind} {x : Int} (hx : CellI w a k x) : CellI w' a k x := ⟨(h.cell a hne).trans hx.1, (h.froz a).trans hx.2⟩
theorem But.wg [Inhabited Base] {ad wa : Addr} (h : But ad w w') (h1 : wa ≠ ad) (h2 : sem wa ≠ ad) (hx : WgOk n Γ w wa) (hh : (cnt n fun j => (Γ' j).role.holds wa) = cnt n fun j => (Γ j).role.holds wa) (hp : ((Γ' 0).role.m.pnd = some wa) ↔ ((Γ 0).role.m.pnd = some wa)) (hr : ((Γ' 0).role.m.reg = some wa) ↔ ((Γ 0).role.m.reg = some wa)) (hl : ∀ j, (Γ' j).role.lastS wa = (Γ j).role.lastS wa) : WgOk n Γ' w' wa := by
  obtain ⟨st, sm, v, a1, a2, a3, a4⟩ := hx
  refine ⟨st, sm, v, h.cellI h1 a1, h.cellI h2 a2, ?_, ?_⟩
  · simp only [hh, hp]; exact a3
  · simp only [hl, hr, ne_eq]; exact a4
theorem setCell_but [Inhabited Base] {ad : Addr} {k : IntKind} {x y : Int} (h : CellI w ad k x) : But ad w (w.setCell ad (.int k y)) ∧ CellI (w.setCell ad (.int k y)) ad k y := by
  have e : ad.spot.isSome = false := by
    cases hs : ad.spot.isSome with
    | false => rfl
    | true =>
      have := h.1
      unfold World.cell? at this
      rw [hs] at this
      cases hb : w.heap[ad.block]? with
      | none => rw [hb] at this; cases this
      | some o => rw [hb] at this; cases o <;> simp at this
  refine ⟨⟨Aged.setCell _ _ _, by simp [World.setCell], fun a ha => World.cell?_setCell_other _ _ _ _ (Ne.symm ha), fun a => World.frozen?_setCell _ _ _ _, fun c cap buf cl s r tm => ?_⟩, World.cell?_setCell_same _ _ _ h.1, by rw [World.frozen?_setCell]; exact h.2⟩
  have hb : ∃ cs el fr, w.heap[ad.block]? = some (.cells cs el fr) := by
    have := h.1
    unfold World.cell? at this
    cases hb : w.heap[ad.block]? with
    | none => rw [hb] at this; cases this
    | some o => rw [hb] at this; cases o <;> simp at this ⊢
  obtain ⟨cs, el, fr, hb⟩ := hb
  by_cases ec : c = ad.block
  · subst ec
    rw [hb]
    have : (w.setCell ad (.int k y)).heap[ad.block]? = some (.cells (cs.setIfInBounds ad.off (.int k y)) el fr) := by
      simp [World.setCell, Array.getElem?_modify, hb, e]
    rw [this]
    constructor <;> intro x <;> cases x
  · have : (w.setCell ad (.int k y)).heap[c]? = w.heap[c]? := by
      simp [World.setCell, Array.getElem?_modify, Ne.symm ec]
    rw [this]
end Go.Proofs.Ytaceedenkmccdaa
/- Pools: steps on shared cells, by one who is not main. -/
namespace Go.Proofs.Ytaceedenkmccdaa
open Go Go.Conc Go.ConcN
set_option linter.unusedSimpArgs false
set_option linter.unusedVariables false
variable {ap : Nat → Int → Int} {n : Nat} {Γ Γ' : Nat → Lo} {w w' : World} {t u : Trace}
theorem Tr.relabel' {M R M' R' : Nat → Addr → Prop} {AT AT' : Addr → Prop} {H H' : Nat → HSt} {n B : Nat} {t : Trace} (h : Tr M R AT H n B t) (hM : ∀ i a, M' i a → Perm t i (.cell a)) (hR : ∀ i a, R' i a → PermW t i (.cell a)) (hA : ∀ a, AT' a → ∀ idx x, touchAt t idx = some x → x.loc = .cell a → x.kind = .atomic ∨ (x.kind = .said ∧ t.g? idx = some 0))
    (hrM : ∀ j b r a, H' j = .rel b r → M' j a → PermAt t (.cell a) r) (hH : ∀ j, H' j = H j) : Tr M' R' AT' H' n B t := by
  obtain rfl : H' = H := funext hH
  exact h.relabel hM hR hA hrM
/-- An atomic access, or a word that makes deaf or hearing. -/
def SyncEv (ad : Addr) (e : Event) : Prop := (∃ wr, e = ⟨.cell ad, wr, true⟩) ∨ e = ⟨.mark .disable, false, true⟩ ∨ e = ⟨.mark .enable, false, true⟩
theorem SyncEv.sync {ad : Addr} {e : Event} (h : SyncEv ad e) : e.sync = true ∧ ∀ g, e.loc ≠ .mark (.extern g) := by
  rcases h with ⟨wr, rfl⟩ | rfl | rfl <;> exact ⟨rfl, fun g x => by cases x⟩
theorem SyncEv.touch {ad : Addr} {e : Event} (h : SyncEv ad e) {x : Touch} (hx : (MemAct.ofEvent e).touch? = some x) : x.loc = .cell ad ∧ x.kind = .atomic := by
  rcases h with ⟨wr, rfl⟩ | rfl | rfl
  · simp only [Go.ConcR.ofEvent_cell, MemAct.touch?, Option.some.injEq] at hx
    subst hx
    exact ⟨rfl, rfl⟩
  · rw [touch_mute rfl] at hx; cases hx
  · rw [touch_mute rfl] at hx; cases hx
theorem SyncEv.norel [Inhabited Base] {ad : Addr} {e : Event} (h : SyncEv ad e) (a : Addr) : MemAct.ofEvent e ≠ .mark (.release a) := by
  rcases h with ⟨wr, rfl⟩ | rfl | rfl
  · rw [Go.ConcR.ofEvent_cell]; intro x; cases x
  · exact (mute_ok rfl 0).2.1 a
  · exact (mute_ok rfl 0).2.1 a
theorem SyncEv.low [Inhabited Base] {ad : Addr} {e : Event} (h : SyncEv ad e) {B : Nat} (hb : ad.block < B) : (MemAct.ofEvent e).low B := by
  rcases h with ⟨wr, rfl⟩ | rfl | rfl
  · rw [Go.ConcR.ofEvent_cell]; exact hb
  · exact (mute_ok rfl B).2.2
  · exact (mute_ok rfl B).2.2
theorem onAT_sync [Inhabited Base] {ATs : Addr → Prop} {i : Nat} {ad : Addr} (ha : ATs ad) {es : Array Event} (h : ∀ e ∈ es, SyncEv ad e) (fn : FuncId) (pos : String) : OnAT ATs i (MemOp.ofEvents i fn pos es) := fun op hop => by
  obtain ⟨e, he, rfl⟩ := Go.Conc.mem_ofEvents hop
  refine ⟨rfl, fun x hx a hl => ?_⟩
  have := ((h e he).touch hx).1
  rw [this] at hl
  cases hl
  exact ha
theorem opOk_sync [Inhabited Base] {M R ATs : Addr → Prop} {i B : Nat} {ad : Addr} (ha : ATs ad) {es : Array Event} (h : ∀ e ∈ es, SyncEv ad e) (hb : ad.block < B) (fn : FuncId) (pos : String) : ∀ op ∈ MemOp.ofEvents i fn pos es, op.g = i ∧ OpOk M R ATs i B op.act := fun op hop => by
  obtain ⟨e, he, rfl⟩ := Go.Conc.mem_ofEvents hop
  refine ⟨rfl, fun y hy => ?_, (h e he).norel, (h e he).low hb⟩
  obtain ⟨h1, h2⟩ := (h e he).touch hy
  rw [h1]
  exact .inr (.inr ⟨ha, .inl h2⟩)
/-- What a kid's atomic step turns. -/
structure Kid [Inhabited Base] (ap : Nat → Int → Int) (n : Nat) (Γ : Nat → Lo) (w w' : World) (i : Nat) (ad : Addr) (es : Array Event) (L L' : Lo) : Prop where
  hi : i < n
  h0 : i ≠ 0
  eL : Γ i = L
  at_ : AT (Γ 0).role ad
  but : But ad w w'
  M : ∀ a, L'.M a → L.M a ∨ (L.h = .alive ∧ RS (Γ 0).role w a)
  R : L'.R = L.R
  V : ∀ a, L'.V a → L.V a ∧ L'.M a
  h : L'.h = L.h
  sync : ∀ e ∈ es, SyncEv ad e
  live : L.h = .alive ∨ (∃ b r, L.h = .rel b r) ∧ ∀ j e, es[j]? = some e → e.loc = .cell ad → 0 < deafBehind L.d (es.extract 0 j)
  d : L'.d = deafBehind L.d es
  S : L'.S w'
  kid : ∀ m, L'.role ≠ .main m
  left : ∀ wa zs f s, L'.role = .left wa zs f s → (L'.h = .over ∧ wa = dead ∧ zs = []) ∨ ((∃ r, L'.h = .rel wa r) ∧ OpenWa (Γ 0).role wa)
  held : ∀ wa, L'.role.holds wa = true → L'.h = .alive ∨ ∃ r, L'.h = .rel wa r
  rels : ∀ wa r, L'.h = .rel wa r → L'.role.holds wa = true ∨ ∃ zs f s, L'.role = .left wa zs f s
  lst : ∀ wa zs f s, L'.role = .left wa zs f s → 0 < s → (Γ 0).role.m.reg = some wa
  drawn : ∀ A sp, (Γ 0).role.m.al = some (A, sp) → drawn w A ≤ drawn w' A
  wld : Wld ap n (upd Γ i L') w'
theorem Inv.kid [Inhabited Base] (h : Inv ap n Γ w t) {i : Nat} {ad : Addr} {es : Array Event} {L L' : Lo} (k : Kid ap n Γ w w' i ad es L L') (fn : FuncId) (pos : String) : Inv ap n (upd Γ i L') w' (t ++ MemOp.ofEvents i fn pos es) := by
  have e0 : upd Γ i L' 0 = Γ 0 := upd_ne _ _ (Ne.symm k.h0)
  have hMi : (Γ i).M = L.M := by rw [k.eL]
  have hRi : (Γ i).R = L.R := by rw [k.eL]
  have hon := onAT_sync (i := i) k.at_ k.sync fn pos
  have hbl : ad.block < w'.heap.size := by rw [k.but.size]; exact h.blkA ad k.at_
  have hRS : ∀ a, RS (Γ 0).role w a → (∀ j, ¬ (Γ j).M a ∧ ¬ (Γ j).R a) ∧ ¬ AT (Γ 0).role a ∧ (∀ idx x, touchAt t idx = some x → x.loc ≠ .cell a) ∧ a.block < w.heap.size := by
    rintro a ⟨A, sp, z, hA, rfl, hz, hdz⟩
    obtain ⟨_, _, _, _, _, _, _, _, a11, _⟩ := h.wld.all A sp hA
    obtain ⟨⟨v, b1⟩, _, b3⟩ := a11 z hz hdz
    obtain ⟨_, v2, v3⟩ := h.virgin A sp hA z hz hdz
    refine ⟨b3, v2, v3, ?_⟩
    unfold World.cell? at b1
    rcases Nat.lt_or_ge (ca A.bo z).block w.heap.size with hb | hb
    · exact hb
    · rw [Array.getElem?_eq_none hb] at b1; simp at b1
  have hM : ∀ a, L'.M a → (Γ i).M a ∨ (L.h = .alive ∧ RS (Γ 0).role w a) := fun a ha => by rw [hMi]; exact k.M a ha
  have hRR : ∀ j a, (upd Γ i L' j).R a → (Γ j).R a := fun j a hj => by
    rcases upd_eq Γ i L' j with ⟨e, rfl⟩ | ⟨e, _⟩
    · rw [e, k.R] at hj; rw [hRi]; exact hj
    · rw [e] at hj; exact hj
  have hMM : ∀ j a, (upd Γ i L' j).M a → (Γ j).M a ∨ (j = i ∧ L.h = .alive ∧ RS (Γ 0).role w a) := fun j a hj => by
    rcases upd_eq Γ i L' j with ⟨e, rfl⟩ | ⟨e, _⟩
    · rw [e] at hj; exact (hM a hj).imp id fun x => ⟨rfl, x⟩
    · rw [e] at hj; exact .inl hj
  have htr : Tr (fun j => (Γ j).M) (fun j => (Γ j).R) (AT (Γ 0).role) (fun j => (Γ j).h) n w'.heap.size (t ++ MemOp.ofEvents i fn pos es) := by
    rcases k.live with hl | ⟨⟨b, r, hl⟩, hdf⟩
    · exact h.tr.step h.apart k.hi (by rw [k.eL]; exact hl) (by rw [k.but.size]; exact Nat.le_refl _) (opOk_sync k.at_ k.sync hbl fn pos)
    · rw [k.but.size]
      refine h.tr.stepRel h.apart k.hi (b := b) (r := r) (by rw [k.eL]; exact hl) fn pos es fun j e he => ?_
      have hme : e ∈ es := Array.mem_of_getElem? he
      refine ⟨?_, (k.sync e hme).norel, (k.sync e hme).low (h.blkA ad k.at_)⟩
      rcases k.sync e hme with ⟨wr, rfl⟩ | rfl | rfl
      · refine .inr ⟨⟨ad, wr, rfl, k.at_⟩, ?_⟩
        rw [h.deaf i, k.eL]
        exact hdf j _ he rfl
      · exact .inl (touch_mute rfl)
      · exact .inl (touch_mute rfl)
  refine h.one k.hi ⟨hon, ?_, ?_, ?_, fun a ha => ?_, by rw [k.but.size]; exact Nat.le_refl _, fun a ha => ?_, fun a ha => ?_, k.S, fun j hj a ha => ⟨?_, k.but.froz a⟩, k.but.shut, ?_, fun e => absurd e k.h0, fun wa ho => by rw [e0]; exact ho, fun wa zs f s _ hr => by rw [e0]; exact k.left wa zs f s hr, fun wa _ hr => k.held wa hr, k.rels, by rw [e0]; exact h.regs, fun j wa zs f s hr hs => ?_, fun A sp hA z hz hdz => ?_, k.wld⟩
  · rw [e0]
    refine htr.relabel' ?_ ?_ ?_ ?_ ?_
    · intro j a hj
      rcases hMM j a hj with hj | ⟨rfl, hl, hrs⟩
      · exact htr.mine j a hj
      · obtain ⟨_, hna, hv, _⟩ := hRS a hrs
        exact fun idx x hx hlo => absurd hlo (untouched hv hon hna idx x hx)
    · exact fun j a hj => htr.read j a (hRR j a hj)
    · exact htr.shared
    · intro j b r a hj hm
      have hj' : (Γ j).h = .rel b r := by
        rcases upd_eq Γ i L' j with ⟨e, rfl⟩ | ⟨e, _⟩
        · rw [e, k.h] at hj; rw [k.eL]; exact hj
        · rw [e] at hj; exact hj
      rcases hMM j a hm with hm | ⟨rfl, hl, _⟩
      · exact htr.relM j b r a hj' hm
      · rw [k.eL, hl] at hj'; cases hj'
    · intro j
      rcases upd_eq Γ i L' j with ⟨e, rfl⟩ | ⟨e, _⟩
      · rw [e, k.h, k.eL]
      · rw [e]
  · rw [e0]
    refine ⟨fun j l a hj hl => ?_, fun j l a hj hl => ?_, fun j a ha => ?_⟩
    · rcases hMM j a hj with h1 | ⟨rfl, _, hrs⟩
      · rcases hMM l a hl with h2 | ⟨rfl, _, hrs⟩
        · exact h.apart.own j l a h1 h2
        · exact absurd h1 ((hRS a hrs).1 j).1
      · rcases hMM l a hl with h2 | ⟨rfl, _, _⟩
        · exact absurd h2 ((hRS a hrs).1 l).1
        · rfl
    · have hl2 := hRR l a hl
      rcases hMM j a hj with h1 | ⟨rfl, _, hrs⟩
      · exact h.apart.read j l a h1 hl2
      · exact absurd hl2 ((hRS a hrs).1 l).2
    · refine ⟨fun hj => ?_, fun hj => (h.apart.shared j a ha).2 (hRR j a hj)⟩
      rcases hMM j a hj with h1 | ⟨rfl, _, hrs⟩
      · exact (h.apart.shared j a ha).1 h1
      · exact (hRS a hrs).2.1 ha
  · rw [Deaf_own, h.deaf i, k.eL, k.d]
  · rw [k.but.size]
    rcases ha with ha | ha
    · rcases hM a ha with h1 | ⟨_, hrs⟩
      · exact h.blk i a (.inl h1)
      · exact (hRS a hrs).2.2.2
    · exact h.blk i a (.inr (by rw [hRi, ← k.R]; exact ha))
  · rw [e0] at ha
    rw [k.but.size]; exact h.blkA a ha
  · obtain ⟨hv, hm⟩ := k.V a ha
    obtain ⟨v1, v2⟩ := h.virg i a (by rw [k.eL]; exact hv)
    exact ⟨hm, untouched v2 hon fun hat => (h.apart.shared i a hat).1 v1⟩
  · refine k.but.cell a fun e => ?_
    subst e
    rcases ha with ha | ha
    · exact (h.apart.shared j _ k.at_).1 ha
    · exact (h.apart.shared j _ k.at_).2 ha
  · exact ⟨fun ⟨m, hm⟩ => absurd hm (k.kid m), fun e => absurd e k.h0⟩
  · rw [e0]
    rcases upd_eq Γ i L' j with ⟨e, rfl⟩ | ⟨e, _⟩
    · rw [e] at hr; exact k.lst wa zs f s hr hs
    · rw [e] at hr; exact h.lst j wa zs f s hr hs
  · rw [e0] at hA ⊢
    obtain ⟨v1, v2, v3⟩ := h.virgin A sp hA z hz (Int.le_trans (k.drawn A sp hA) hdz)
    exact ⟨v1, v2, untouched v3 hon v2⟩
end Go.Proofs.Ytaceedenkmccdaa
/- Pools: what the protocol says behind a step on a shared cell. -/
namespace Go.Proofs.Ytaceedenkmccdaa
open Go Go.Conc Go.ConcN
set_option linter.unusedSimpArgs false
set_option linter.unusedVariables false
variable {ap : Nat → Int → Int} {n : Nat} {Γ Γ' : Nat → Lo} {w w' : World} {t u : Trace}
theorem Wld.kid [Inhabited Base] (h : Wld ap n Γ w) {i : Nat} (h0 : i ≠ 0) {ad : Addr} (hb : But ad w w') {L' : Lo} (hq : L'.q = (Γ i).q)
    (pools : ∀ e ∈ (Γ 0).role.m.ps, (∃ T : Int, CellI w' (ca e.b 8) .i64 T ∧ 0 ≤ T ∧ T + (cnt n fun j => (upd Γ i L' j).role.pend e : Nat) = (Γ 0).role.m.asks e.b + under n (upd Γ i L') w' e) ∧ WgOk n (upd Γ i L') w' (handsA e) ∧
      ((Γ 0).role.m.cl e.b = false → (Γ 0).role.m.rd e.b = true → 1 ≤ cnt n fun j => (upd Γ i L' j).role.holds (handsA e)) ∧ (cnt n fun j => (upd Γ i L' j).role.holds (handsA e)) ≤ cnt n fun j => (Γ j).role.holds (handsA e))
    (all : ∀ A sp, (Γ 0).role.m.al = some (A, sp) → AllOk ap n (upd Γ i L') w' A sp)
    (hask : ∀ A zs cur f, L'.role = .asker A zs cur f → ∃ zs cur f, (Γ i).role = .asker A zs cur f) (hqw : (Γ i).q ≠ none → ∀ A zs cur f, (Γ i).role = .asker A zs cur f → ∃ zs cur f, L'.role = .asker A zs cur f)
    (hwork : ∀ p job, L'.role = .worker p job → ∃ job', (Γ i).role = .worker p job' ∧ (job ≠ none → job' ≠ none))
    (hjob : ∀ p c v b, L'.role = .worker p (some (c, v, b)) → ∃ b', (Γ i).role = .worker p (some (c, v, b'))) (hjob' : ∀ p c v b, (Γ i).role = .worker p (some (c, v, b)) → ∃ b', L'.role = .worker p (some (c, v, b')))
    (hld : ∀ wa, L'.role.holds wa = true → (Γ i).role.holds wa = true) (hfl : ∀ A sp, (Γ 0).role.m.al = some (A, sp) → nextOf w A ≤ nextOf w' A) (hfi : ∀ A sp zs cur, (Γ 0).role.m.al = some (A, sp) → L'.role = .asker A zs cur true → (A.items.length : Int) ≤ nextOf w' A) : Wld ap n (upd Γ i L') w' := by
  have e0 : upd Γ i L' 0 = Γ 0 := upd_ne _ _ (Ne.symm h0)
  have eq : ∀ j, (upd Γ i L' j).q = (Γ j).q := fun j => by
    rcases upd_eq Γ i L' j with ⟨e, rfl⟩ | ⟨e, _⟩
    · rw [e, hq]
    · rw [e]
  have hj : ∀ k p c v b, (upd Γ i L' k).role = .worker p (some (c, v, b)) → ∃ b', (Γ k).role = .worker p (some (c, v, b')) := fun k p c v b hk => by
    rcases upd_eq Γ i L' k with ⟨e, rfl⟩ | ⟨e, _⟩
    · rw [e] at hk; exact hjob p c v b hk
    · rw [e] at hk; exact ⟨b, hk⟩
  have hj' : ∀ k p c v b, (Γ k).role = .worker p (some (c, v, b)) → ∃ b', (upd Γ i L' k).role = .worker p (some (c, v, b')) := fun k p c v b hk => by
    rcases upd_eq Γ i L' k with ⟨e, rfl⟩ | ⟨e, _⟩
    · rw [e]; exact hjob' p c v b hk
    · rw [e]; exact ⟨b, hk⟩
  refine ⟨fun e he => ?_, by rw [e0]; exact h.same, by rw [e0]; exact h.chans, by rw [e0]; exact h.fns, by rw [e0]; exact all, fun hA j A zs cur f hj => ?_, fun j p job hj => ?_, fun k p c v b hk => ?_, fun k k' p p' c v v' b b' hk hk' => ?_, fun j Q hQ => ?_, fun j j' Q Q' hQ hQ' => ?_, fun j Q hQ => ?_, ?_, ?_, ?_, fun A sp hA j zs cur hr => ?_⟩
  · rw [e0] at he
    obtain ⟨⟨s1, r1, p1⟩, ⟨s2, r2, p2⟩, p3, p3', _, _, _, p9⟩ := h.pools e he
    obtain ⟨q1, q2, q3, q4⟩ := pools e he
    refine ⟨⟨s1, r1, hb.ch p1⟩, ⟨s2, r2, by rw [e0]; exact hb.ch p2⟩, by rw [e0]; exact p3, by rw [e0]; exact p3', by rw [e0]; exact q1, q2, by rw [e0]; exact q3, fun hf => ?_⟩
    rw [e0] at hf ⊢
    obtain ⟨f1, f2⟩ := p9 hf
    exact ⟨f1, by omega⟩
  · rw [e0] at hA
    rcases upd_eq Γ i L' j with ⟨e, rfl⟩ | ⟨e, _⟩
    · rw [e] at hj
      obtain ⟨zs, cur, f, hr⟩ := hask A zs cur f hj
      exact h.noall hA _ A zs cur f hr
    · rw [e] at hj; exact h.noall hA j A zs cur f hj
  · rw [e0]
    rcases upd_eq Γ i L' j with ⟨e, rfl⟩ | ⟨e, _⟩
    · rw [e] at hj
      obtain ⟨job', hr, hn⟩ := hwork p job hj
      obtain ⟨h1, h2⟩ := h.work _ p job' hr
      exact ⟨h1, fun x => h2 (hn x)⟩
    · rw [e] at hj; exact h.work j p job hj
  · obtain ⟨b', hr⟩ := hj k p c v b hk
    obtain ⟨h1, h2⟩ := h.job k p c v b' hr
    exact ⟨hb.ch h1, by simp only [eq]; exact h2⟩
  · obtain ⟨b1, hr⟩ := hj k p c v b hk
    obtain ⟨b2, hr'⟩ := hj k' p' c v' b' hk'
    exact h.jobs k k' p p' c v v' b1 b2 hr hr'
  · rw [eq] at hQ
    rw [e0]
    obtain ⟨q1, q2, q3⟩ := h.q j Q hQ
    refine ⟨q1, fun x => hb.ch (q2 x), fun x => ?_⟩
    rcases q3 x with ⟨k, b, hk⟩ | hc
    · obtain ⟨b', hk'⟩ := hj' k _ _ _ _ hk
      exact .inl ⟨k, b', hk'⟩
    · exact .inr (hb.ch hc)
  · rw [eq] at hQ hQ'; exact h.qs j j' Q Q' hQ hQ'
  · rw [eq] at hQ
    refine (h.qwho j Q hQ).imp id fun ⟨A, zs, cur, f, hr⟩ => ?_
    rcases upd_eq Γ i L' j with ⟨e, rfl⟩ | ⟨e, _⟩
    · rw [e]
      obtain ⟨zs, cur, f, hr⟩ := hqw (by rw [hQ]; simp) A zs cur f hr
      exact ⟨A, zs, cur, f, hr⟩
    · rw [e]; exact ⟨A, zs, cur, f, hr⟩
  · rw [e0]
    exact fun c hc => ⟨hb.ch (h.mks c hc).1, (h.mks c hc).2⟩
  · rw [e0]
    intro e he
    obtain ⟨_, _, _, q4⟩ := pools e he
    obtain ⟨h1, h2⟩ := h.wss e he
    exact ⟨Nat.le_trans q4 h1, h2⟩
  · rw [e0]
    intro wa k hwa
    obtain ⟨d1, d2, d3⟩ := h.dns wa k hwa
    refine ⟨d1, d2, Nat.le_trans (cnt_le fun j _ hj => ?_) d3⟩
    rcases upd_eq Γ i L' j with ⟨e, rfl⟩ | ⟨e, _⟩
    · rw [e] at hj; exact hld wa hj
    · rw [e] at hj; exact hj
  · rw [e0] at hA
    rcases upd_eq Γ i L' j with ⟨e, rfl⟩ | ⟨e, _⟩
    · rw [e] at hr; exact hfi A sp zs cur hA hr
    · rw [e] at hr; exact Int.le_trans (h.fls A sp hA j zs cur hr) (hfl A sp hA)
/-- A role's count where one turns. -/
theorem cnt_same [Inhabited Base] {i : Nat} {L' : Lo} (f : Role → Bool) (h : f L'.role = f (Γ i).role) : (cnt n fun j => f (upd Γ i L' j).role) = cnt n fun j => f (Γ j).role := cnt_congr fun j _ => by
  rcases upd_eq Γ i L' j with ⟨e, rfl⟩ | ⟨e, _⟩
  · rw [e, h]
  · rw [e]
theorem cnt_one' [Inhabited Base] {i : Nat} {L' : Lo} (f : Role → Bool) (hi : i < n) : (cnt n fun j => f (upd Γ i L' j).role) + (if f (Γ i).role = true then 1 else 0) = (cnt n fun j => f (Γ j).role) + (if f L'.role = true then 1 else 0) := cnt_one f L' hi
theorem ca_ne {b b' i i' : Nat} (h : i ≠ i') : ca b i ≠ ca b' i' := fun e => h (by unfold ca at e; injection e)
theorem ca_ne' {b b' i i' : Nat} (h : b ≠ b') : ca b i ≠ ca b' i' := fun e => h (by unfold ca at e; injection e)
theorem ca_inj {b b' i i' : Nat} (h : ca b i = ca b' i') : b = b' ∧ i = i' := by unfold ca at h; injection h with h1 h2; exact ⟨h1, h2⟩
theorem sem_ca (b i : Nat) : sem (ca b i) = ca b (i + 1) := rfl
/-- The call of All, where neither its next index nor who fails turns. -/
theorem AllOk.kid [Inhabited Base] {A : AllG} {sp : Nat} (h : AllOk ap n Γ w A sp) {i : Nat} (h0 : i ≠ 0) {ad : Addr} (hb : But ad w w') (hbn : ad ≠ ca A.bn 0) {L' : Lo} (hrs : ∀ z : Nat, z < A.items.length → drawn w A ≤ z → ad ≠ ca A.bo z) (hM : L'.M = (Γ i).M) (hR : L'.R = (Γ i).R) (hS : L'.S = (Γ i).S) (hwg : WgOk n (upd Γ i L') w' (groupA A))
    (hfail : (L'.role.failed && L'.role.inAll A) = ((Γ i).role.failed && (Γ i).role.inAll A)) (hin : L'.role.inAll A = (Γ i).role.inAll A) (hzs : L'.role.zs A = (Γ i).role.zs A) (hask : ∀ A' zs cur f, L'.role = .asker A' zs cur f → A' = A)
    (hleft : ∀ zs f s, L'.role = .left (groupA A) zs f s → (A.items.length : Int) ≤ nextOf w A ∧ ∀ z ∈ zs, ∀ w', L'.S w' → w'.cell? (ca A.bo z) = some (.int .i64 (A.val ap (A.items.getD z 0)))) : AllOk ap n (upd Γ i L') w' A sp := by
  have e0 : upd Γ i L' 0 = Γ 0 := upd_ne _ _ (Ne.symm h0)
  have hnx : nextOf w' A = nextOf w A := by unfold nextOf; rw [hb.cell _ (Ne.symm hbn)]
  have hdr : drawn w' A = drawn w A := by unfold drawn; rw [hnx]
  have eM : ∀ j, (upd Γ i L' j).M = (Γ j).M ∧ (upd Γ i L' j).R = (Γ j).R ∧ (upd Γ i L' j).S = (Γ j).S ∧ (upd Γ i L' j).role.zs A = (Γ j).role.zs A := fun j => by
    rcases upd_eq Γ i L' j with ⟨e, rfl⟩ | ⟨e, _⟩
    · rw [e]; exact ⟨hM, hR, hS, hzs⟩
    · rw [e]; exact ⟨rfl, rfl, rfl, rfl⟩
  obtain ⟨a1, a2, ⟨z, a3, a4, a5⟩, a6, a7, a8, a9, a10, a11, a12, a13⟩ := h
  have c1 := cnt_same (n := n) (Γ := Γ) (i := i) (L' := L') (fun r => r.failed && r.inAll A) hfail
  have c2 := cnt_same (n := n) (Γ := Γ) (i := i) (L' := L') (fun r => r.inAll A) hin
  refine ⟨a1, a2, ⟨z, hb.cellI (Ne.symm hbn) a3, a4, by rw [c1]; exact a5⟩, by rw [c2]; exact a6, hwg, fun j A' zs cur f hj => ?_, by rw [e0]; exact a9, fun z hz => ?_, fun z hz hd => ?_, fun j zs f s hj => ?_, fun j z hz => ?_⟩
  · rcases upd_eq Γ i L' j with ⟨e, rfl⟩ | ⟨e, _⟩
    · rw [e] at hj; exact hask A' zs cur f hj
    · rw [e] at hj; exact a8 j A' zs cur f hj
  · rw [hdr] at hz
    obtain ⟨j, hj, hm⟩ := a10 z hz
    exact ⟨j, hj, by rw [(eM j).2.2.2]; exact hm⟩
  · rw [hdr] at hd
    obtain ⟨⟨v, b1⟩, b2, b3⟩ := a11 z hz hd
    exact ⟨⟨v, (hb.cell _ (Ne.symm (hrs z hz hd))).trans b1⟩, (hb.froz _).trans b2, fun j => by rw [(eM j).1, (eM j).2.1]; exact b3 j⟩
  · rw [hnx]
    rcases upd_eq Γ i L' j with ⟨e, rfl⟩ | ⟨e, _⟩
    · rw [e] at hj ⊢; exact hleft zs f s hj
    · rw [e] at hj ⊢; exact a12 j zs f s hj
  · rw [(eM j).2.2.2] at hz
    rw [(eM j).1]
    exact a13 j z hz
end Go.Proofs.Ytaceedenkmccdaa
/- Pools: a goroutine says that it is done. -/
namespace Go.Proofs.Ytaceedenkmccdaa
open Go Go.Conc Go.ConcN
set_option linter.unusedSimpArgs false
set_option linter.unusedVariables false
variable {ap : Nat → Int → Int} {n : Nat} {Γ Γ' : Nat → Lo} {w w' : World} {t u : Trace}
/-- What one that leaves must be and know. -/
def MayLeave (ap : Nat → Int → Int) (L : Lo) (wa : Addr) (zs : List Nat) (f : Bool) : Prop :=
  (∃ p, L.role = .worker p none ∧ wa = handsA p ∧ zs = [] ∧ f = false ∧ ∀ w, L.S w → ShutCh w p.ce) ∨
  (∃ A, L.role = .asker A zs none f ∧ wa = groupA A ∧ f = true ∧ ∀ z ∈ zs, ∀ w, L.S w → w.cell? (ca A.bo z) = some (.int .i64 (A.val ap (A.items.getD z 0))))
theorem Inv.groups [Inhabited Base] (h : Inv ap n Γ w t) : (∀ e ∈ (Γ 0).role.m.ps, AT (Γ 0).role (handsA e) ∧ AT (Γ 0).role (sem (handsA e)) ∧ AT (Γ 0).role (ca e.b 8) ∧ WgOk n Γ w (handsA e)) ∧
    ∀ A sp, (Γ 0).role.m.al = some (A, sp) → AT (Γ 0).role (groupA A) ∧ AT (Γ 0).role (sem (groupA A)) ∧ AT (Γ 0).role (ca A.bn 0) ∧ WgOk n Γ w (groupA A) ∧ ∃ z : Int, CellI w (ca A.bn 0) .i64 z ∧ nextOf w A = z ∧ 0 ≤ z :=
  ⟨fun e he => ⟨.inl ⟨e, he, .inl rfl⟩, .inl ⟨e, he, .inr (.inl rfl)⟩, .inl ⟨e, he, .inr (.inr rfl)⟩, (h.wld.pools e he).2.2.2.2.2.1⟩,
   fun A sp hA => ⟨.inr ⟨A, sp, hA, .inl rfl⟩, .inr ⟨A, sp, hA, .inr (.inl rfl)⟩, .inr ⟨A, sp, hA, .inr (.inr rfl)⟩, (h.wld.all A sp hA).2.2.2.2.1, by
     obtain ⟨_, _, ⟨z, a3, a4, _⟩, _⟩ := h.wld.all A sp hA
     exact ⟨z, a3, by unfold nextOf; rw [a3.1], a4⟩⟩⟩
/-- The groups' cells are not the next index. -/
theorem WgOk.ne_next {wa : Addr} {A : AllG} {z : Int} (h : WgOk n Γ w wa) (hz : CellI w (ca A.bn 0) .i64 z) : wa ≠ ca A.bn 0 ∧ sem wa ≠ ca A.bn 0 := by
  obtain ⟨st, sm, v, a1, a2, _⟩ := h
  constructor
  · intro e; rw [e] at a1; have := a1.1.symm.trans hz.1; cases this
  · intro e; rw [e] at a2; have := a2.1.symm.trans hz.1; cases this
theorem asker_all [Inhabited Base] (h : Inv ap n Γ w t) {i : Nat} {A : AllG} {zs : List Nat} {cur : Option (Nat × Bool)} {f : Bool} (hr : (Γ i).role = .asker A zs cur f) : ∃ sp, (Γ 0).role.m.al = some (A, sp) := by
  cases hal : (Γ 0).role.m.al with
  | none => exact absurd hr (h.wld.noall hal i A zs cur f)
  | some x =>
    obtain ⟨A0, sp⟩ := x
    have := (h.wld.all A0 sp hal).2.2.2.2.2.1 i A zs cur f hr
    subst this
    exact ⟨sp, rfl⟩
theorem under_next {e : PoolG} (h1 : (Γ' 0).role.m.al = (Γ 0).role.m.al) (h2 : ∀ A sp, (Γ 0).role.m.al = some (A, sp) → drawn w' A - (cnt n fun j => (Γ' j).role.unsent : Nat) = drawn w A - (cnt n fun j => (Γ j).role.unsent : Nat)) : under n Γ' w' e = under n Γ w e := by
  unfold under
  rw [h1]
  cases hal : (Γ 0).role.m.al with
  | none => rfl
  | some x =>
    obtain ⟨A, sp⟩ := x
    simp only
    rw [h2 A sp hal]
theorem hands_ne {e p : PoolG} (h : handsA e ≠ handsA p) : e.b ≠ p.b := fun x => h (by unfold handsA; rw [x])
theorem holds_le16 [Inhabited Base] (h : Inv ap n Γ w t) {wa : Addr} (hwa : (∃ p ∈ (Γ 0).role.m.ps, wa = handsA p) ∨ ∃ A sp, (Γ 0).role.m.al = some (A, sp) ∧ wa = groupA A) : (cnt n fun j => (Γ j).role.holds wa) ≤ 16 := by
  rcases hwa with ⟨p, hp, rfl⟩ | ⟨A, sp, hA, rfl⟩
  · have := h.wld.wss p hp; omega
  · obtain ⟨a1, _, _, a6, _⟩ := h.wld.all A sp hA
    have : (cnt n fun j => (Γ j).role.holds (groupA A)) ≤ cnt n fun j => (Γ j).role.inAll A := cnt_le fun j _ hj => by
      cases hr : (Γ j).role with
      | asker A' zs cur f => rw [hr] at hj; exact hj
      | worker p job =>
        rw [hr] at hj
        simp only [Role.holds, decide_eq_true_eq] at hj
        exact absurd hj (ca_ne (by decide))
      | main m => rw [hr] at hj; cases hj
      | left a b c d => rw [hr] at hj; cases hj
    omega
def DD : Int := 18446744069414584320
theorem wrap_done (x : Int) (h1 : KW ≤ x) (h2 : x ≤ 20 * KW) : IntKind.u64.wrap (x + DD) = x - KW := by
  unfold DD KW at *
  have : IntKind.u64.wrap (x + 18446744069414584320) = (x + 18446744069414584320) % 18446744073709551616 := by
    simp [IntKind.wrap, IntKind.signed, IntKind.bits]
  rw [this]
  omega
theorem Inv.done [Inhabited Base] (h : Inv ap n Γ w t) {i : Nat} {L : Lo} {wa : Addr} {zs : List Nat} {f : Bool} (hi : i < n) (h0 : i ≠ 0) (hL : Γ i = L) (hm : MayLeave ap L wa zs f) (hq : L.q = none) (hrel : ∃ r, L.h = .rel wa r) (hd : 0 < L.d) :
    ∃ (x : Int) (s : Nat), CellI w wa .u64 x ∧ IntKind.u64.wrap (x + DD) = x - KW ∧ (∃ v : Nat, v ≤ 16 ∧ ((s = 0 ∧ (x - KW = v * KW ∨ (x - KW = v * KW + 1 ∧ 1 ≤ v))) ∨ (s = 2 ∧ x - KW = 1))) ∧ (s = 2 → (Γ 0).role.m.reg = some wa) ∧
      ∀ w', But wa w w' → CellI w' wa .u64 (x - KW) → ∀ fn pos, Inv ap n (upd Γ i (L.turn (.left wa zs f s) none)) w' (t ++ MemOp.ofEvents i fn pos #[⟨.cell wa, false, true⟩, ⟨.cell wa, true, true⟩]) := by
  obtain ⟨hpool, hall⟩ := h.groups
  have hwh : (∃ p ∈ (Γ 0).role.m.ps, wa = handsA p) ∨ ∃ A sp, (Γ 0).role.m.al = some (A, sp) ∧ wa = groupA A := by
    rcases hm with ⟨p, hr, rfl, _⟩ | ⟨A, hr, rfl, _⟩
    · exact .inl ⟨p, (h.wld.work i p none (by rw [hL]; exact hr)).1, rfl⟩
    · obtain ⟨sp, hA⟩ := asker_all h (i := i) (by rw [hL]; exact hr)
      exact .inr ⟨A, sp, hA, rfl⟩
  have hhold : (Γ i).role.holds wa = true := by
    rw [hL]
    rcases hm with ⟨p, hr, rfl, _⟩ | ⟨A, hr, rfl, _⟩ <;> rw [hr] <;> simp [Role.holds]
  have hwg : WgOk n Γ w wa := by
    rcases hwh with ⟨p, hp, rfl⟩ | ⟨A, sp, hA, rfl⟩
    · exact (hpool p hp).2.2.2
    · exact (hall A sp hA).2.2.2.1
  have hat : AT (Γ 0).role wa := by
    rcases hwh with ⟨p, hp, rfl⟩ | ⟨A, sp, hA, rfl⟩
    · exact (hpool p hp).1
    · exact (hall A sp hA).1
  have h16 := holds_le16 h hwh
  have hcnt : 1 ≤ cnt n fun j => (Γ j).role.holds wa := cnt_pos (f := fun j => (Γ j).role.holds wa) hi hhold
  obtain ⟨st, sm, v, c1, c2, c3, c4⟩ := hwg
  have hv : 1 ≤ v ∧ v ≤ 17 := by
    have : (if (Γ 0).role.m.pnd = some wa then 1 else 0) ≤ 1 := by split <;> omega
    omega
  -- the new state
  have key : ∃ s : Nat, KW ≤ st ∧ st ≤ 20 * KW ∧ ((s = 0 ∧ (st - KW = ((v - 1 : Nat) : Int) * KW ∨ (st - KW = ((v - 1 : Nat) : Int) * KW + 1 ∧ 1 ≤ v - 1))) ∨ (s = 2 ∧ st - KW = 1)) ∧ (s = 2 → (Γ 0).role.m.reg = some wa) ∧
      ∀ w', But wa w w' → CellI w' wa .u64 (st - KW) → WgOk n (upd Γ i (L.turn (.left wa zs f s) none)) w' wa := by
    have eh : ∀ s, (cnt n fun j => (upd Γ i (L.turn (.left wa zs f s) none) j).role.holds wa) + 1 = cnt n fun j => (Γ j).role.holds wa := fun s => by
      have := cnt_one' (n := n) (Γ := Γ) (i := i) (L' := L.turn (.left wa zs f s) none) (fun r => r.holds wa) hi
      simp only [hhold, if_true] at this
      have e : (L.turn (.left wa zs f s) none).role.holds wa = false := rfl
      simp only [e, Bool.false_eq_true, if_false] at this
      omega
    have e0 : ∀ s, upd Γ i (L.turn (.left wa zs f s) none) 0 = Γ 0 := fun s => upd_ne _ _ (Ne.symm h0)
    have hls0 : ∀ s j, (upd Γ i (L.turn (.left wa zs f s) none) j).role.lastS wa = if j = i then s else (Γ j).role.lastS wa := fun s j => by
      rcases upd_eq Γ i (L.turn (.left wa zs f s) none) j with ⟨e, rfl⟩ | ⟨e, hj⟩
      · rw [e, if_pos rfl]; simp [Lo.turn, Role.lastS]
      · rw [e, if_neg hj]
    have hcast : ((v - 1 : Nat) : Int) = (v : Int) - 1 := by omega
    have hsm : ∀ w', But wa w w' → CellI w' (sem wa) .u32 sm := fun w' hb => hb.cellI (fun e => by
      have := congrArg Addr.off e
      simp [sem] at this) c2
    rcases c4 with ⟨d1, d2, d3, d4⟩ | ⟨d1, d2, d2', d3, d4⟩ | ⟨_, d2, _⟩ | ⟨_, d2, _⟩
    · refine ⟨0, ?_, ?_, .inl ⟨rfl, .inl ?_⟩, fun x => (by cases x), fun w' hb hc => ⟨st - KW, sm, v - 1, hc, hsm w' hb, ?_, .inl ⟨by rw [e0]; exact d1, fun j => ?_, ?_, d4⟩⟩⟩
      · rw [d3]; unfold KW; omega
      · rw [d3]; unfold KW; omega
      · rw [d3, hcast]; unfold KW; omega
      · rw [e0]; have := eh 0; omega
      · rw [hls0]; split
        · rfl
        · exact d2 j
      · rw [d3, hcast]; unfold KW; omega
    · have hpn : (Γ 0).role.m.pnd = none := (h.regs wa d1).1
      by_cases hv1 : v = 1
      · subst hv1
        refine ⟨2, ?_, ?_, .inr ⟨rfl, ?_⟩, fun _ => d1, fun w' hb hc => ⟨st - KW, sm, 0, hc, hsm w' hb, ?_, .inr (.inr (.inl ⟨by rw [e0]; exact d1, rfl, ⟨i, hi, .inl ⟨by rw [hls0, if_pos rfl], ?_⟩, fun j' hj' => by rw [hls0, if_neg hj']; exact d2 j'⟩, d4⟩))⟩⟩
        · rw [d3]; unfold KW; omega
        · rw [d3]; unfold KW; omega
        · rw [d3]; unfold KW; omega
        · rw [e0]; have := eh 2; omega
        · rw [d3]; unfold KW; omega
      · refine ⟨0, ?_, ?_, .inl ⟨rfl, .inr ⟨?_, by omega⟩⟩, fun x => (by cases x), fun w' hb hc => ⟨st - KW, sm, v - 1, hc, hsm w' hb, ?_, .inr (.inl ⟨by rw [e0]; exact d1, fun j => ?_, by omega, ?_, d4⟩)⟩⟩
        · rw [d3]; unfold KW; omega
        · rw [d3]; unfold KW; omega
        · rw [d3, hcast]; unfold KW; omega
        · rw [e0]; have := eh 0; omega
        · rw [hls0]; split
          · rfl
          · exact d2 j
        · rw [d3, hcast]; unfold KW; omega
    · omega
    · omega
  obtain ⟨s, k1, k2, k3, k4, k5⟩ := key
  refine ⟨st, s, c1, wrap_done st k1 k2, ⟨v - 1, by omega, k3⟩, k4, fun w' hb hc fn pos => Inv.kid h (ad := wa) (L := L) ?_ fn pos⟩
  have e0 : upd Γ i (L.turn (.left wa zs f s) none) 0 = Γ 0 := upd_ne _ _ (Ne.symm h0)
  have hnew := k5 w' hb hc
  have hro : (L.role.unsent = false ∧ (∀ e, L.role.pend e = false) ∧ (∀ wa', wa' ≠ wa → L.role.holds wa' = false) ∧ (∀ wa', L.role.lastS wa' = 0)) := by
    rcases hm with ⟨p, hr, rfl, _⟩ | ⟨A, hr, rfl, _⟩ <;> rw [hr] <;> refine ⟨rfl, fun _ => rfl, fun wa' hne => ?_, fun _ => rfl⟩ <;> simp only [Role.holds, decide_eq_false_iff_not] <;> exact Ne.symm hne
  obtain ⟨r1, r2, r3, r4⟩ := hro
  have hoth : ∀ wa', wa' ≠ wa → sem wa' ≠ wa → WgOk n Γ w wa' → WgOk n (upd Γ i (L.turn (.left wa zs f s) none)) w' wa' := fun wa' n1 n2 hx => hb.wg n1 n2 hx (cnt_same (fun r => r.holds wa') (by rw [hL, r3 wa' n1]; rfl)) (by rw [e0]) (by rw [e0]) fun j => by
    rcases upd_eq Γ i (L.turn (.left wa zs f s) none) j with ⟨e, rfl⟩ | ⟨e, hj⟩
    · rw [e, hL, r4]; simp [Lo.turn, Role.lastS, Ne.symm n1]
    · rw [e]
  have hsem : ∀ e ∈ (Γ 0).role.m.ps, sem (handsA e) ≠ wa := fun e _ => by
    rcases hwh with ⟨p, hp, rfl⟩ | ⟨A, sp, hA, rfl⟩
    · exact ca_ne (i := 4) (i' := 3) (by decide)
    · exact ca_ne (i := 4) (i' := 0) (by decide)
  have hsemA : ∀ A : AllG, sem (groupA A) ≠ wa := fun A => by
    rcases hwh with ⟨p, hp, rfl⟩ | ⟨A, sp, hA, rfl⟩
    · exact ca_ne (i := 1) (i' := 3) (by decide)
    · exact ca_ne (i := 1) (i' := 0) (by decide)
  have h8 : ∀ e : PoolG, ca e.b 8 ≠ wa := fun e => by
    rcases hwh with ⟨p, hp, rfl⟩ | ⟨A, sp, hA, rfl⟩
    · exact ca_ne (by decide)
    · exact ca_ne (by decide)
  have hnext : ∀ A sp, (Γ 0).role.m.al = some (A, sp) → wa ≠ ca A.bn 0 := fun A sp hA => by
    obtain ⟨z, hz, _⟩ := (hall A sp hA).2.2.2.2
    exact (WgOk.ne_next ⟨st, sm, v, c1, c2, c3, c4⟩ hz).1
  have hnx : ∀ A sp, (Γ 0).role.m.al = some (A, sp) → nextOf w' A = nextOf w A := fun A sp hA => by unfold nextOf; rw [hb.cell _ (Ne.symm (hnext A sp hA))]
  have hdr : ∀ A sp, (Γ 0).role.m.al = some (A, sp) → drawn w' A = drawn w A := fun A sp hA => by unfold drawn; rw [hnx A sp hA]
  have hus : (cnt n fun j => (upd Γ i (L.turn (.left wa zs f s) none) j).role.unsent) = cnt n fun j => (Γ j).role.unsent := cnt_same (fun r => r.unsent) (by rw [hL, r1]; rfl)
  have hwld : Wld ap n (upd Γ i (L.turn (.left wa zs f s) none)) w' := by
    refine h.wld.kid h0 hb (by rw [hL]; simp [Lo.turn, hq]) (fun e he => ?_) (fun A sp hA => ?_) (fun A zs' cur f' hr => by cases hr) (fun hne => absurd (by rw [hL]; exact hq) hne) (fun p job hr => by cases hr) (fun p c v b hr => by cases hr) (fun p c v' b hr => ?_) (fun wa' hh => by cases hh) (fun A sp hA => by rw [hnx A sp hA]; exact Int.le_refl _) (fun A sp zs' cur hA hr => by cases hr)
    · obtain ⟨_, _, _, _, ⟨T, p4, p5, p6⟩, p7, p8, _⟩ := h.wld.pools e he
      refine ⟨⟨T, hb.cellI (h8 e) p4, p5, ?_⟩, ?_, fun hcl hrd => ?_, ?_⟩
      · rw [under_next (Γ := Γ) (w := w) (by rw [e0]) fun A sp hA => by rw [hdr A sp hA, hus], cnt_same (fun r => r.pend e) (by rw [hL, r2]; rfl)]
        exact p6
      · by_cases hw : handsA e = wa
        · rw [hw]; exact hnew
        · exact hoth _ hw (hsem e he) p7
      · have hne : handsA e ≠ wa := fun hw => by
          rcases hm with ⟨p, hr, rfl, _, _, hs⟩ | ⟨A, hr, rfl, _⟩
          · have hp := (h.wld.work i p none (by rw [hL]; exact hr)).1
            obtain rfl := h.wld.same e he p hp (.inl (ca_inj hw).1)
            obtain ⟨_, _, _, _, _, e1⟩ := hs w (by have := h.know i; rwa [hL] at this)
            obtain ⟨_, ⟨s2, r2, tm2, e2⟩, _⟩ := h.wld.pools e he
            rw [hcl, e1] at e2; cases e2
          · exact ca_ne (by decide) hw
        rw [cnt_same (fun r => r.holds (handsA e)) (by rw [hL, r3 _ hne]; rfl)]
        exact p8 hcl hrd
      · refine cnt_le fun j _ hj => ?_
        rcases upd_eq Γ i (L.turn (.left wa zs f s) none) j with ⟨e', rfl⟩ | ⟨e', _⟩
        · rw [e'] at hj; cases hj
        · rw [e'] at hj; exact hj
    · have hA' := h.wld.all A sp hA
      refine AllOk.kid hA' h0 hb (hnext A sp hA) (fun z hz hdz e => ?_) (by rw [hL]; rfl) (by rw [hL]; rfl) (by rw [hL]; rfl) ?_ ?_ ?_ ?_ (fun A' zs' cur f' hr => by cases hr) (fun zs' f' s' hr => ?_)
      · exact (h.virgin A sp hA z hz hdz).2.1 (e ▸ hat)
      · by_cases hw : groupA A = wa
        · rw [hw]; exact hnew
        · exact hoth _ hw (hsemA A) hA'.2.2.2.2.1
      · rw [hL]
        rcases hm with ⟨p, hr, rfl, _, hf, _⟩ | ⟨A1, hr, rfl, _⟩
        · rw [hr]; simp [Lo.turn, Role.failed, hf]
        · rw [hr]; simp [Lo.turn, Role.failed, Role.inAll]
      · rw [hL]
        rcases hm with ⟨p, hr, rfl, _, hf, _⟩ | ⟨A1, hr, rfl, _⟩
        · rw [hr]
          have : handsA p ≠ groupA A := ca_ne (by decide)
          simp [Lo.turn, Role.inAll, this]
        · rw [hr]; simp [Lo.turn, Role.inAll]
      · rw [hL]
        rcases hm with ⟨p, hr, rfl, hz, hf, _⟩ | ⟨A1, hr, rfl, _⟩
        · rw [hr]; simp [Lo.turn, Role.zs, hz]
        · rw [hr]; simp [Lo.turn, Role.zs]
      · simp only [Lo.turn, Role.left.injEq] at hr
        obtain ⟨e1, rfl, rfl, _⟩ := hr
        rcases hm with ⟨p, hr, e2, _⟩ | ⟨A1, hr, e2, ef, hz⟩
        · rw [e2] at e1; exact absurd e1 (ca_ne (by decide))
        · obtain ⟨sp1, hA1⟩ := asker_all h (i := i) (by rw [hL]; exact hr)
          rw [hA] at hA1
          cases hA1
          refine ⟨h.wld.fls A sp hA i zs none (by rw [hL, hr, ef]), fun z hz' u hu => hz z hz' u hu⟩
    · rw [hL] at hr
      rcases hm with ⟨p', hr', _⟩ | ⟨A, hr', _⟩ <;> rw [hr'] at hr <;> cases hr
  obtain ⟨r, hrel⟩ := hrel
  refine ⟨hi, h0, hL, hat, hb, fun a ha => .inl ha, rfl, fun a ha => ⟨ha, ?_⟩, rfl, fun e he => ?_, .inr ⟨⟨wa, r, hrel⟩, fun j e he _ => ?_⟩, ?_, ?_, fun m hr => (by cases hr), fun wa' zs' f' s' hr => ?_, fun wa' hh => (by cases hh), fun wa' r' hr => ?_, fun wa' zs' f' s' hr hs => ?_, fun A sp hA => by rw [hdr A sp hA]; exact Int.le_refl _, hwld⟩
  · have := (h.virg i a (by rw [hL]; exact ha)).1
    rw [hL] at this; exact this
  · simp only [List.mem_toArray, List.mem_cons, List.not_mem_nil, or_false] at he
    rcases he with rfl | rfl <;> exact .inl ⟨_, rfl⟩
  · have hlt : j < 2 := by
      obtain ⟨h', _⟩ := Array.getElem?_eq_some_iff.1 he
      simpa using h'
    match j, hlt with
    | 0, _ => simpa [deafBehind_nil] using hd
    | 1, _ => simpa [deafBehind] using hd
  · show L.d = _
    simp [deafBehind]
  · have hk := h.know i
    rw [hL] at hk
    refine L.sup w w' (fun a ha => ⟨hb.cell a fun e => ?_, hb.froz a⟩) hb.shut hk
    have hs := h.apart.shared i wa hat
    rw [hL] at hs
    subst e
    exact ha.elim hs.1 hs.2
  · simp only [Lo.turn, Role.left.injEq] at hr
    obtain ⟨rfl, _⟩ := hr
    refine .inr ⟨⟨r, hrel⟩, ?_⟩
    rcases hwh with ⟨p, hp, rfl⟩ | ⟨A, sp, hA, rfl⟩
    · refine .inl ⟨p, hp, ?_, rfl⟩
      cases hf : (Γ 0).role.m.fin p.b with
      | false => rfl
      | true => have := ((h.wld.pools p hp).2.2.2.2.2.2.2 hf).2; omega
    · exact .inr ⟨A, sp, hA, rfl⟩
  · have e : HSt.rel wa r = .rel wa' r' := hrel.symm.trans hr
    cases e
    exact .inr ⟨zs, f, s, rfl⟩
  · simp only [Lo.turn, Role.left.injEq] at hr
    obtain ⟨rfl, _, _, rfl⟩ := hr
    refine k4 ?_
    rcases k3 with ⟨e, _⟩ | ⟨e, _⟩
    · omega
    · exact e
end Go.Proofs.Ytaceedenkmccdaa
/- Pools: the last one frees who waits; a question is counted. -/
namespace Go.Proofs.Ytaceedenkmccdaa
open Go Go.Conc Go.ConcN
set_option linter.unusedSimpArgs false
set_option linter.unusedVariables false
variable {ap : Nat → Int → Int} {n : Nat} {Γ Γ' : Nat → Lo} {w w' : World} {t u : Trace}
theorem regs_group [Inhabited Base] (h : Inv ap n Γ w t) {wa : Addr} (hr : (Γ 0).role.m.reg = some wa) : ((∃ p ∈ (Γ 0).role.m.ps, wa = handsA p) ∨ ∃ A sp, (Γ 0).role.m.al = some (A, sp) ∧ wa = groupA A) ∧ AT (Γ 0).role wa ∧ AT (Γ 0).role (sem wa) ∧ WgOk n Γ w wa ∧ OpenWa (Γ 0).role wa := by
  obtain ⟨hpool, hall⟩ := h.groups
  obtain ⟨_, ⟨e, he, hf, rfl, _⟩ | ⟨A, sp, hA, rfl⟩⟩ := h.regs wa hr
  · obtain ⟨h1, h2, _, h4⟩ := hpool e he
    exact ⟨.inl ⟨e, he, rfl⟩, h1, h2, h4, .inl ⟨e, he, hf, rfl⟩⟩
  · obtain ⟨h1, h2, _, h4, _⟩ := hall A sp hA
    exact ⟨.inr ⟨A, sp, hA, rfl⟩, h1, h2, h4, .inr ⟨A, sp, hA, rfl⟩⟩
theorem Lo.keepS [Inhabited Base] {L : Lo} {i : Nat} {ad : Addr} (h : Inv ap n Γ w t) (hL : Γ i = L) (hat : AT (Γ 0).role ad) (hb : But ad w w') : L.S w' := by
  have hk := h.know i
  rw [hL] at hk
  refine L.sup w w' (fun a ha => ⟨hb.cell a fun e => ?_, hb.froz a⟩) hb.shut hk
  have hs := h.apart.shared i ad hat
  rw [hL] at hs
  subst e
  exact ha.elim hs.1 hs.2
/-- The last one's steps. -/
theorem Inv.stage [Inhabited Base] (h : Inv ap n Γ w t) {i : Nat} {L : Lo} {wa ad : Addr} {zs : List Nat} {f : Bool} {s s' : Nat} {es : Array Event} (hi : i < n) (h0 : i ≠ 0) (hL : Γ i = L) (hr : L.role = .left wa zs f s) (hq : L.q = none) (hrel : ∃ r, L.h = .rel wa r) (hs : 0 < s) (had : ad = wa ∨ ad = sem wa) (hb : But ad w w')
    (hes : ∀ e ∈ es, SyncEv ad e) (hdf : ∀ j e, es[j]? = some e → e.loc = .cell ad → 0 < deafBehind L.d (es.extract 0 j)) (hd : deafBehind L.d es = L.d) (hnew : WgOk n (upd Γ i (L.turn (.left wa zs f s') none)) w' wa) (fn : FuncId) (pos : String) :
    Inv ap n (upd Γ i (L.turn (.left wa zs f s') none)) w' (t ++ MemOp.ofEvents i fn pos es) := by
  obtain ⟨hpool, hall⟩ := h.groups
  have hreg : (Γ 0).role.m.reg = some wa := h.lst i wa zs f s (by rw [hL]; exact hr) hs
  obtain ⟨hwh, hat1, hat2, hwg, hop⟩ := regs_group h hreg
  have hat : AT (Γ 0).role ad := by rcases had with rfl | rfl <;> assumption
  have e0 : upd Γ i (L.turn (.left wa zs f s') none) 0 = Γ 0 := upd_ne _ _ (Ne.symm h0)
  obtain ⟨r, hrel⟩ := hrel
  have hdif : ∀ wa', wa' ≠ wa → (∃ p, wa' = handsA p) ∨ (∃ A, wa' = groupA A) → wa' ≠ ad ∧ sem wa' ≠ ad := fun wa' hne hk => by
    rcases hk with ⟨p, rfl⟩ | ⟨A, rfl⟩ <;> rcases hwh with ⟨p', _, rfl⟩ | ⟨A', _, _, rfl⟩ <;> rcases had with rfl | rfl
    · exact ⟨hne, ca_ne (i := 4) (i' := 3) (by decide)⟩
    · exact ⟨ca_ne (i := 3) (i' := 4) (by decide), fun e => hne (congrArg (fun b => ca b 3) (ca_inj (b := p.b) (b' := p'.b) (i := 4) (i' := 4) e).1)⟩
    · exact ⟨hne, ca_ne (i := 4) (i' := 0) (by decide)⟩
    · exact ⟨ca_ne (i := 3) (i' := 1) (by decide), ca_ne (i := 4) (i' := 1) (by decide)⟩
    · exact ⟨hne, ca_ne (i := 1) (i' := 3) (by decide)⟩
    · exact ⟨ca_ne (i := 0) (i' := 4) (by decide), ca_ne (i := 1) (i' := 4) (by decide)⟩
    · exact ⟨hne, ca_ne (i := 1) (i' := 0) (by decide)⟩
    · exact ⟨ca_ne (i := 0) (i' := 1) (by decide), fun e => hne (congrArg (fun b => ca b 0) (ca_inj (b := A.bw) (b' := A'.bw) (i := 1) (i' := 1) e).1)⟩
  have h8 : ∀ e : PoolG, ca e.b 8 ≠ ad := fun e => by
    rcases hwh with ⟨p', _, rfl⟩ | ⟨A', _, _, rfl⟩ <;> rcases had with rfl | rfl
    · exact ca_ne (i := 8) (i' := 3) (by decide)
    · exact ca_ne (i := 8) (i' := 4) (by decide)
    · exact ca_ne (i := 8) (i' := 0) (by decide)
    · exact ca_ne (i := 8) (i' := 1) (by decide)
  have hoth : ∀ wa', wa' ≠ wa → (∃ p, wa' = handsA p) ∨ (∃ A, wa' = groupA A) → WgOk n Γ w wa' → WgOk n (upd Γ i (L.turn (.left wa zs f s') none)) w' wa' := fun wa' hne hk hx => by
    obtain ⟨n1, n2⟩ := hdif wa' hne hk
    refine hb.wg n1 n2 hx (cnt_same (fun r => r.holds wa') (by rw [hL, hr]; rfl)) (by rw [e0]) (by rw [e0]) fun j => ?_
    rcases upd_eq Γ i (L.turn (.left wa zs f s') none) j with ⟨e, rfl⟩ | ⟨e, hj⟩
    · rw [e, hL, hr]; simp [Lo.turn, Role.lastS, Ne.symm hne]
    · rw [e]
  have hnext : ∀ A sp, (Γ 0).role.m.al = some (A, sp) → ad ≠ ca A.bn 0 := fun A sp hA => by
    obtain ⟨z, hz, _⟩ := (hall A sp hA).2.2.2.2
    rcases had with rfl | rfl
    · exact (hwg.ne_next hz).1
    · exact (hwg.ne_next hz).2
  have hnx : ∀ A sp, (Γ 0).role.m.al = some (A, sp) → nextOf w' A = nextOf w A := fun A sp hA => by unfold nextOf; rw [hb.cell _ (Ne.symm (hnext A sp hA))]
  have hdr : ∀ A sp, (Γ 0).role.m.al = some (A, sp) → drawn w' A = drawn w A := fun A sp hA => by unfold drawn; rw [hnx A sp hA]
  have hus : (cnt n fun j => (upd Γ i (L.turn (.left wa zs f s') none) j).role.unsent) = cnt n fun j => (Γ j).role.unsent := cnt_same (fun r => r.unsent) (by rw [hL, hr]; rfl)
  have hwld : Wld ap n (upd Γ i (L.turn (.left wa zs f s') none)) w' := by
    refine h.wld.kid h0 hb (by rw [hL]; simp [Lo.turn, hq]) (fun e he => ?_) (fun A sp hA => ?_) (fun A zs' cur f' hr => by cases hr) (fun hne => absurd (by rw [hL]; exact hq) hne) (fun p job hr => by cases hr) (fun p c v b hr => by cases hr) (fun p c v' b hr' => ?_) (fun wa' hh => by cases hh) (fun A sp hA => by rw [hnx A sp hA]; exact Int.le_refl _) (fun A sp zs' cur hA hr => by cases hr)
    · obtain ⟨_, _, _, _, ⟨T, p4, p5, p6⟩, p7, p8, _⟩ := h.wld.pools e he
      have hc := cnt_same (n := n) (Γ := Γ) (i := i) (L' := L.turn (.left wa zs f s') none) (fun r => r.holds (handsA e)) (by rw [hL, hr]; rfl)
      refine ⟨⟨T, hb.cellI (h8 e) p4, p5, ?_⟩, ?_, fun hcl hrd => by rw [hc]; exact p8 hcl hrd, by rw [hc]; exact Nat.le_refl _⟩
      · rw [under_next (Γ := Γ) (w := w) (by rw [e0]) fun A sp hA => by rw [hdr A sp hA, hus], cnt_same (fun r => r.pend e) (by rw [hL, hr]; rfl)]
        exact p6
      · by_cases hw : handsA e = wa
        · rw [hw]; exact hnew
        · exact hoth _ hw (.inl ⟨e, rfl⟩) p7
    · have hA' := h.wld.all A sp hA
      refine AllOk.kid hA' h0 hb (hnext A sp hA) (fun z hz hdz e => (h.virgin A sp hA z hz hdz).2.1 (e ▸ hat)) (by rw [hL]; rfl) (by rw [hL]; rfl) (by rw [hL]; rfl) ?_ (by rw [hL, hr]; rfl) (by rw [hL, hr]; rfl) (by rw [hL, hr]; rfl) (fun A' zs' cur f' hr => by cases hr) (fun zs' f' s'' hr' => ?_)
      · by_cases hw : groupA A = wa
        · rw [hw]; exact hnew
        · exact hoth _ hw (.inr ⟨A, rfl⟩) hA'.2.2.2.2.1
      · simp only [Lo.turn, Role.left.injEq] at hr'
        obtain ⟨e1, rfl, rfl, _⟩ := hr'
        obtain ⟨_, _, _, _, _, _, _, _, _, a12, _⟩ := hA'
        have := a12 i zs f s (by rw [hL, hr, e1])
        rw [hL] at this
        exact this
    · rw [hL, hr] at hr'; cases hr'
  refine Inv.kid h (ad := ad) (L := L) (L' := L.turn (.left wa zs f s') none) ⟨hi, h0, hL, hat, hb, fun a ha => .inl ha, rfl, fun a ha => ⟨ha, ?_⟩, rfl, hes, .inr ⟨⟨wa, r, hrel⟩, hdf⟩, hd.symm, Lo.keepS (L := L) h hL hat hb, fun m hr => (by cases hr), fun wa' zs' f' s'' hr' => ?_, fun wa' hh => (by cases hh), fun wa' r' hr' => ?_, fun wa' zs' f' s'' hr' hs' => ?_, fun A sp hA => by rw [hdr A sp hA]; exact Int.le_refl _, hwld⟩ fn pos
  · have := (h.virg i a (by rw [hL]; exact ha)).1
    rw [hL] at this; exact this
  · simp only [Lo.turn, Role.left.injEq] at hr'
    obtain ⟨rfl, _⟩ := hr'
    exact .inr ⟨⟨r, hrel⟩, hop⟩
  · have e : HSt.rel wa r = .rel wa' r' := hrel.symm.trans hr'
    cases e
    exact .inr ⟨zs, f, s', rfl⟩
  · simp only [Lo.turn, Role.left.injEq] at hr'
    obtain ⟨rfl, _⟩ := hr'
    exact hreg
/-- How the group stands where the last one frees who waits. -/
theorem stage_at [Inhabited Base] (h : Inv ap n Γ w t) {i : Nat} {L : Lo} {wa : Addr} {zs : List Nat} {f : Bool} {s : Nat} (hL : Γ i = L) (hr : L.role = .left wa zs f s) (hs : s = 2 ∨ s = 1) :
    (Γ 0).role.m.reg = some wa ∧ CellI w wa .u64 (if s = 2 then 1 else 0) ∧ CellI w (sem wa) .u32 0 ∧ (cnt n fun j => (Γ j).role.holds wa) = 0 ∧ (Γ 0).role.m.pnd = none ∧ ∀ j, j ≠ i → (Γ j).role.lastS wa = 0 := by
  have hreg : (Γ 0).role.m.reg = some wa := h.lst i wa zs f s (by rw [hL]; exact hr) (by omega)
  obtain ⟨_, _, _, hwg, _⟩ := regs_group h hreg
  have hpn := (h.regs wa hreg).1
  have hls : (Γ i).role.lastS wa = s := by rw [hL, hr]; simp [Role.lastS]
  obtain ⟨st, sm, v, c1, c2, c3, c4⟩ := hwg
  rw [hpn] at c3
  simp only [reduceCtorEq, if_false, Nat.add_zero] at c3
  rcases c4 with ⟨_, d2, _⟩ | ⟨_, d2, _⟩ | ⟨_, d2, ⟨j, hj, d3, d4⟩, d5⟩ | ⟨_, _, d2, _⟩
  · have := d2 i; omega
  · have := d2 i; omega
  · have hji : j = i := by
      apply Classical.byContradiction
      intro hne
      have := d4 i (Ne.symm hne)
      omega
    subst hji
    rw [d5] at c2
    refine ⟨hreg, ?_, c2, by omega, hpn, d4⟩
    rcases d3 with ⟨e, e'⟩ | ⟨e, e'⟩
    · have : s = 2 := by omega
      rw [if_pos this, ← e']; exact c1
    · have : ¬ s = 2 := by omega
      rw [if_neg this, ← e']; exact c1
  · have := d2 i; omega
theorem wg_stage [Inhabited Base] (h : Inv ap n Γ w t) {i : Nat} {L : Lo} {wa : Addr} {zs : List Nat} {f : Bool} {s s' : Nat} (hi : i < n) (h0 : i ≠ 0) (hL : Γ i = L) (hr : L.role = .left wa zs f s) (hs : s = 2 ∨ s = 1) {st sm : Int} (c1 : CellI w' wa .u64 st) (c2 : CellI w' (sem wa) .u32 sm) (hc : (s' = 1 ∧ st = 0 ∧ sm = 0) ∨ (s' = 0 ∧ st = 0 ∧ sm = 1)) :
    WgOk n (upd Γ i (L.turn (.left wa zs f s') none)) w' wa := by
  obtain ⟨g1, _, _, g4, g5, g6⟩ := stage_at h hL hr hs
  have e0 : upd Γ i (L.turn (.left wa zs f s') none) 0 = Γ 0 := upd_ne _ _ (Ne.symm h0)
  have hls : ∀ j, (upd Γ i (L.turn (.left wa zs f s') none) j).role.lastS wa = if j = i then s' else 0 := fun j => by
    rcases upd_eq Γ i (L.turn (.left wa zs f s') none) j with ⟨e, rfl⟩ | ⟨e, hj⟩
    · rw [e, if_pos rfl]; simp [Lo.turn, Role.lastS]
    · rw [e, if_neg hj, g6 j hj]
  refine ⟨st, sm, 0, c1, c2, ?_, ?_⟩
  · rw [e0, g5, cnt_same (fun r => r.holds wa) (by rw [hL, hr]; rfl), g4]; rfl
  · rw [e0]
    rcases hc with ⟨rfl, rfl, rfl⟩ | ⟨rfl, rfl, rfl⟩
    · exact .inr (.inr (.inl ⟨g1, rfl, ⟨i, hi, .inr ⟨by rw [hls, if_pos rfl], rfl⟩, fun j hj => by rw [hls, if_neg hj]⟩, rfl⟩))
    · exact .inr (.inr (.inr ⟨g1, rfl, fun j => by rw [hls]; split <;> rfl, rfl, rfl⟩))
end Go.Proofs.Ytaceedenkmccdaa
/- Pools: a question is counted; an index is drawn; an answer lies there; one says its release. -/
namespace Go.Proofs.Ytaceedenkmccdaa
open Go Go.Conc Go.ConcN
set_option linter.unusedSimpArgs false
set_option linter.unusedVariables false
variable {ap : Nat → Int → Int} {n : Nat} {Γ Γ' : Nat → Lo} {w w' : World} {t u : Trace}
theorem wrap_i64 (x : Int) (h1 : -9000000000000000000 ≤ x) (h2 : x ≤ 9000000000000000000) : IntKind.i64.wrap x = x := by
  simp [IntKind.wrap, IntKind.signed, IntKind.bits]
  omega
theorem sync2 {ad : Addr} : ∀ e ∈ (#[⟨.cell ad, false, true⟩, ⟨.cell ad, true, true⟩] : Array Event), SyncEv ad e := fun e he => by
  simp only [List.mem_toArray, List.mem_cons, List.not_mem_nil, or_false] at he
  rcases he with rfl | rfl <;> exact .inl ⟨_, rfl⟩
theorem deaf2 {ad : Addr} (d : Nat) : deafBehind d #[⟨.cell ad, false, true⟩, ⟨.cell ad, true, true⟩] = d := by simp [deafBehind]
theorem under_le [Inhabited Base] (h : Inv ap n Γ w t) (e : PoolG) : under n Γ w e ≤ 1000000000000000 := by
  unfold under
  cases hal : (Γ 0).role.m.al with
  | none => simp
  | some x =>
    obtain ⟨A, sp⟩ := x
    obtain ⟨_, a2, _⟩ := h.wld.all A sp hal
    simp only
    split
    · have : drawn w A ≤ A.items.length := Int.min_le_right _ _
      omega
    · omega
theorem Inv.counted [Inhabited Base] (h : Inv ap n Γ w t) {i : Nat} {L : Lo} {p : PoolG} {c : Nat} {v : Int} (hi : i < n) (h0 : i ≠ 0) (hL : Γ i = L) (hr : L.role = .worker p (some (c, v, false))) (hq : L.q = none) (hal : L.h = .alive) :
    ∃ T : Int, CellI w (ca p.b 8) .i64 T ∧ IntKind.i64.wrap (T + 1) = T + 1 ∧ ∀ w', But (ca p.b 8) w w' → CellI w' (ca p.b 8) .i64 (T + 1) → ∀ fn pos,
      Inv ap n (upd Γ i (L.turn (.worker p (some (c, v, true))) none)) w' (t ++ MemOp.ofEvents i fn pos #[⟨.cell (ca p.b 8), false, true⟩, ⟨.cell (ca p.b 8), true, true⟩]) := by
  obtain ⟨hpool, hall⟩ := h.groups
  have hp := (h.wld.work i p _ (by rw [hL]; exact hr)).1
  have hat := (hpool p hp).2.2.1
  obtain ⟨_, _, p3, p3', ⟨T, p4, p5, p6⟩, _⟩ := h.wld.pools p hp
  have hu := under_le h p
  refine ⟨T, p4, wrap_i64 _ (by omega) (by omega), fun w' hb hc fn pos => ?_⟩
  have e0 : upd Γ i (L.turn (.worker p (some (c, v, true))) none) 0 = Γ 0 := upd_ne _ _ (Ne.symm h0)
  have hnx : ∀ A, nextOf w' A = nextOf w A := fun A => by unfold nextOf; rw [hb.cell _ (ca_ne (by decide))]
  have hdr : ∀ A, drawn w' A = drawn w A := fun A => by unfold drawn; rw [hnx A]
  have hus : (cnt n fun j => (upd Γ i (L.turn (.worker p (some (c, v, true))) none) j).role.unsent) = cnt n fun j => (Γ j).role.unsent := cnt_same (fun r => r.unsent) (by rw [hL, hr]; rfl)
  have hun : ∀ e, under n (upd Γ i (L.turn (.worker p (some (c, v, true))) none)) w' e = under n Γ w e := fun e => under_next (Γ := Γ) (w := w) (by rw [e0]) fun A sp hA => by rw [hdr A, hus]
  have hwg : ∀ wa, wa ≠ ca p.b 8 → sem wa ≠ ca p.b 8 → WgOk n Γ w wa → WgOk n (upd Γ i (L.turn (.worker p (some (c, v, true))) none)) w' wa := fun wa n1 n2 hx => by
    refine hb.wg n1 n2 hx (cnt_same (fun r => r.holds wa) (by rw [hL, hr]; rfl)) (by rw [e0]) (by rw [e0]) fun j => ?_
    rcases upd_eq Γ i (L.turn (.worker p (some (c, v, true))) none) j with ⟨e, rfl⟩ | ⟨e, hj⟩
    · rw [e, hL, hr]; rfl
    · rw [e]
  have hwld : Wld ap n (upd Γ i (L.turn (.worker p (some (c, v, true))) none)) w' := by
    refine h.wld.kid h0 hb (by rw [hL]; simp [Lo.turn, hq]) (fun e he => ?_) (fun A sp hA => ?_) (fun A zs' cur f' hr => by cases hr) (fun hne => absurd (by rw [hL]; exact hq) hne) (fun p' job hr' => ?_) (fun p' c' v' b hr' => ?_) (fun p' c' v' b hr' => ?_) (fun wa' hh => by rw [hL, hr]; exact hh) (fun A sp hA => by rw [hnx A]; exact Int.le_refl _) (fun A sp zs' cur hA hr => by cases hr)
    · obtain ⟨_, _, _, _, ⟨T', p4', p5', p6'⟩, p7, p8, _⟩ := h.wld.pools e he
      have hcc := cnt_same (n := n) (Γ := Γ) (i := i) (L' := L.turn (.worker p (some (c, v, true))) none) (fun r => r.holds (handsA e)) (by rw [hL, hr]; rfl)
      refine ⟨?_, hwg _ (ca_ne (by decide)) (ca_ne (i := 4) (i' := 8) (by decide)) p7, fun hcl hrd => by rw [hcc]; exact p8 hcl hrd, by rw [hcc]; exact Nat.le_refl _⟩
      have hpd := cnt_one' (n := n) (Γ := Γ) (i := i) (L' := L.turn (.worker p (some (c, v, true))) none) (fun r => r.pend e) hi
      have e1 : (L.turn (.worker p (some (c, v, true))) none).role.pend e = false := rfl
      have e2 : (Γ i).role.pend e = decide (p.b = e.b) := by rw [hL, hr]; rfl
      simp only [e1, e2, decide_eq_true_eq, Bool.false_eq_true, if_false, Nat.add_zero] at hpd
      rw [hun]
      by_cases hpe : p.b = e.b
      · obtain rfl := h.wld.same e he p hp (.inl hpe.symm)
        simp only [if_true] at hpd
        refine ⟨T + 1, hc, by omega, ?_⟩
        omega
      · rw [if_neg hpe] at hpd
        exact ⟨T', hb.cellI (ca_ne' (Ne.symm hpe)) p4', p5', by omega⟩
    · have hA' := h.wld.all A sp hA
      exact AllOk.kid hA' h0 hb (ca_ne (by decide)) (fun z hz hdz e => (h.virgin A sp hA z hz hdz).2.1 (e ▸ hat)) (by rw [hL]; rfl) (by rw [hL]; rfl) (by rw [hL]; rfl) (hwg _ (ca_ne (by decide)) (ca_ne (i := 1) (i' := 8) (by decide)) hA'.2.2.2.2.1) (by rw [hL, hr]; rfl) (by rw [hL, hr]; rfl) (by rw [hL, hr]; rfl) (fun A' zs' cur f' hr => by cases hr) (fun zs' f' s'' hr' => by cases hr')
    · cases hr'
      exact ⟨_, by rw [hL]; exact hr, fun _ x => by cases x⟩
    · cases hr'
      exact ⟨false, by rw [hL]; exact hr⟩
    · rw [hL, hr] at hr'
      cases hr'
      exact ⟨true, rfl⟩
  refine Inv.kid h (ad := ca p.b 8) (L := L) (L' := L.turn (.worker p (some (c, v, true))) none) ⟨hi, h0, hL, hat, hb, fun a ha => .inl ha, rfl, fun a ha => ⟨ha, ?_⟩, rfl, sync2, .inl hal, (deaf2 _).symm, Lo.keepS (L := L) h hL hat hb, fun m hr => (by cases hr), fun wa' zs' f' s'' hr' => (by cases hr'), fun wa' hh => .inl hal, fun wa' r' hr' => (by have := hal.symm.trans hr'; cases this), fun wa' zs' f' s'' hr' hs' => (by cases hr'), fun A sp hA => by rw [hdr A]; exact Int.le_refl _, hwld⟩ fn pos
  have := (h.virg i a (by rw [hL]; exact ha)).1
  rw [hL] at this; exact this
/-- An answer lies there: the asker is free to draw again. -/
theorem Inv.answered [Inhabited Base] (h : Inv ap n Γ w t) {i : Nat} {L : Lo} {A : AllG} {zs : List Nat} {z : Nat} {b f : Bool} (hi : i < n) (h0 : i ≠ 0) (hL : Γ i = L) (hr : L.role = .asker A zs (some (z, b)) f) (hq : L.q = none) (hal : L.h = .alive) (hb' : b = true ∨ A.cl = true ∨ A.p = none) :
    Inv ap n (upd Γ i (L.turn (.asker A zs none f) none)) w t := by
  obtain ⟨hpool, hall⟩ := h.groups
  obtain ⟨sp, hA⟩ := asker_all h (i := i) (by rw [hL]; exact hr)
  have hat := (hall A sp hA).1
  have e0 : upd Γ i (L.turn (.asker A zs none f) none) 0 = Γ 0 := upd_ne _ _ (Ne.symm h0)
  have hb := But.refl (groupA A) w
  have hun : ∀ e, under n (upd Γ i (L.turn (.asker A zs none f) none)) w e = under n Γ w e := fun e => by
    unfold under
    rw [e0, hA]
    simp only
    by_cases hc : A.cl = false ∧ A.p.map (·.b) = some e.b
    · rw [if_pos hc, if_pos hc]
      rcases hb' with rfl | h1 | h1
      · rw [cnt_same (fun r => r.unsent) (by rw [hL, hr]; rfl)]
      · rw [h1] at hc; cases hc.1
      · rw [h1] at hc; cases hc.2
    · rw [if_neg hc, if_neg hc]
  have hwg : ∀ wa, WgOk n Γ w wa → WgOk n (upd Γ i (L.turn (.asker A zs none f) none)) w wa := fun wa hx => by
    obtain ⟨st, sm, v, a1, a2, a3, a4⟩ := hx
    refine ⟨st, sm, v, a1, a2, ?_, ?_⟩
    · rw [e0, cnt_same (fun r => r.holds wa) (by rw [hL, hr]; rfl)]; exact a3
    · have : ∀ j, (upd Γ i (L.turn (.asker A zs none f) none) j).role.lastS wa = (Γ j).role.lastS wa := fun j => by
        rcases upd_eq Γ i (L.turn (.asker A zs none f) none) j with ⟨e, rfl⟩ | ⟨e, hj⟩
        · rw [e, hL, hr]; rfl
        · rw [e]
      simp only [this, e0]; exact a4
  have hwld : Wld ap n (upd Γ i (L.turn (.asker A zs none f) none)) w := by
    refine h.wld.kid h0 hb (by rw [hL]; simp [Lo.turn, hq]) (fun e he => ?_) (fun A1 sp1 hA1 => ?_) (fun A1 zs' cur f' hr' => by cases hr'; exact ⟨_, _, _, by rw [hL]; exact hr⟩) (fun hne => absurd (by rw [hL]; exact hq) hne) (fun p' job hr' => by cases hr') (fun p' c' v' b hr' => by cases hr') (fun p' c' v' b hr' => by rw [hL, hr] at hr'; cases hr') (fun wa' hh => by rw [hL, hr]; exact hh) (fun A1 sp1 hA1 => Int.le_refl _) (fun A1 sp1 zs' cur hA1 hr' => ?_)
    · obtain ⟨_, _, _, _, ⟨T', p4', p5', p6'⟩, p7, p8, _⟩ := h.wld.pools e he
      have hcc := cnt_same (n := n) (Γ := Γ) (i := i) (L' := L.turn (.asker A zs none f) none) (fun r => r.holds (handsA e)) (by rw [hL, hr]; rfl)
      exact ⟨⟨T', p4', p5', by rw [hun, cnt_same (fun r => r.pend e) (by rw [hL, hr]; rfl)]; exact p6'⟩, hwg _ p7, fun hcl hrd => by rw [hcc]; exact p8 hcl hrd, by rw [hcc]; exact Nat.le_refl _⟩
    · rw [hA] at hA1
      cases hA1
      have hA' := h.wld.all A sp hA
      have hz := (hall A sp hA).2.2.2.2
      obtain ⟨z0, hz0, _⟩ := hz
      exact AllOk.kid hA' h0 hb ((hall A sp hA).2.2.2.1.ne_next hz0).1 (fun z hz hdz e => (h.virgin A sp hA z hz hdz).2.1 (e ▸ hat)) (by rw [hL]; rfl) (by rw [hL]; rfl) (by rw [hL]; rfl) (hwg _ hA'.2.2.2.2.1) (by rw [hL, hr]; rfl) (by rw [hL, hr]; rfl) (by rw [hL, hr]; rfl) (fun A' zs' cur f' hr => by cases hr; rfl) (fun zs' f' s'' hr' => by cases hr')
    · simp only [Lo.turn, Role.asker.injEq] at hr'
      obtain ⟨rfl, rfl, _, rfl⟩ := hr'
      exact h.wld.fls A sp1 hA1 i zs (some (z, b)) (by rw [hL]; exact hr)
  have := Inv.kid h (ad := groupA A) (es := #[]) (L := L) (L' := L.turn (.asker A zs none f) none) ⟨hi, h0, hL, hat, hb, fun a ha => .inl ha, rfl, fun a ha => ⟨ha, by
    have := (h.virg i a (by rw [hL]; exact ha)).1
    rw [hL] at this; exact this⟩, rfl, fun e he => by simp at he, .inl hal, rfl, Lo.keepS (L := L) h hL hat hb, fun m hr => (by cases hr), fun wa' zs' f' s'' hr' => (by cases hr'), fun wa' hh => .inl hal, fun wa' r' hr' => (by have := hal.symm.trans hr'; cases this), fun wa' zs' f' s'' hr' hs' => (by cases hr'), fun A sp hA => Int.le_refl _, hwld⟩ 0 ""
  rw [ofEvents_nil, Array.append_empty] at this
  exact this
end Go.Proofs.Ytaceedenkmccdaa
/- Pools: an index is drawn; one says its release. -/
namespace Go.Proofs.Ytaceedenkmccdaa
open Go Go.Conc Go.ConcN
set_option linter.unusedSimpArgs false
set_option linter.unusedVariables false
variable {ap : Nat → Int → Int} {n : Nat} {Γ Γ' : Nat → Lo} {w w' : World} {t u : Trace}
/-- The place for an answer becomes one's own. -/
def Lo.draws (L : Lo) (A : AllG) (zs : List Nat) (z : Nat) : Lo :=
  { L with M := fun a => L.M a ∨ a = ca A.bo z, S := fun w => L.S w ∧ (∃ v, w.cell? (ca A.bo z) = some v) ∧ w.frozen? (ca A.bo z) = false, role := .asker A (z :: zs) (some (z, false)) false,
           sup := fun w w' hc hs h => ⟨L.sup w w' (fun a ha => hc a (ha.imp .inl id)) hs h.1, by rw [(hc _ (.inl (.inr rfl))).1]; exact h.2.1, by rw [(hc _ (.inl (.inr rfl))).2]; exact h.2.2⟩ }
theorem Inv.draw [Inhabited Base] (h : Inv ap n Γ w t) {i : Nat} {L : Lo} {A : AllG} {zs : List Nat} (hi : i < n) (h0 : i ≠ 0) (hL : Γ i = L) (hr : L.role = .asker A zs none false) (hq : L.q = none) (hal : L.h = .alive) :
    ∃ z : Nat, CellI w (ca A.bn 0) .i64 z ∧ IntKind.i64.wrap ((z : Int) + 1) = (z : Int) + 1 ∧ (z : Int) ≤ 2000000000000000 ∧ ∀ w', But (ca A.bn 0) w w' → CellI w' (ca A.bn 0) .i64 ((z : Int) + 1) → ∀ fn pos,
      (z < A.items.length → Inv ap n (upd Γ i (L.draws A zs z)) w' (t ++ MemOp.ofEvents i fn pos #[⟨.cell (ca A.bn 0), false, true⟩, ⟨.cell (ca A.bn 0), true, true⟩])) ∧
      (A.items.length ≤ z → Inv ap n (upd Γ i (L.turn (.asker A zs none true) none)) w' (t ++ MemOp.ofEvents i fn pos #[⟨.cell (ca A.bn 0), false, true⟩, ⟨.cell (ca A.bn 0), true, true⟩])) := by
  obtain ⟨hpool, hall⟩ := h.groups
  obtain ⟨sp, hA⟩ := asker_all h (i := i) (by rw [hL]; exact hr)
  have hat := (hall A sp hA).2.2.1
  obtain ⟨a1, a2, ⟨zi, a3, a4, a5⟩, a6, a7, a8, a9, a10, a11, a12, a13⟩ := h.wld.all A sp hA
  obtain ⟨z, rfl⟩ : ∃ z : Nat, zi = z := ⟨zi.toNat, by omega⟩
  have hc16 : (cnt n fun j => (Γ j).role.failed && (Γ j).role.inAll A) ≤ 16 := by
    have : (cnt n fun j => (Γ j).role.failed && (Γ j).role.inAll A) ≤ cnt n fun j => (Γ j).role.inAll A := cnt_le fun j _ hj => by
      simp only [Bool.and_eq_true] at hj; exact hj.2
    omega
  have hz0 : nextOf w A = z := by unfold nextOf; rw [a3.1]
  refine ⟨z, a3, wrap_i64 _ (by omega) (by omega), by omega, fun w' hb hc fn pos => ?_⟩
  have hz1 : nextOf w' A = (z : Int) + 1 := by unfold nextOf; rw [hc.1]
  have hd0 : drawn w A = min (z : Int) A.items.length := by unfold drawn; rw [hz0]
  have hd1 : drawn w' A = min ((z : Int) + 1) A.items.length := by unfold drawn; rw [hz1]
  have hne8 : ∀ e : PoolG, ca e.b 8 ≠ ca A.bn 0 := fun e => ca_ne (by decide)
  have hneW : ∀ wa, WgOk n Γ w wa → wa ≠ ca A.bn 0 ∧ sem wa ≠ ca A.bn 0 := fun wa hx => hx.ne_next a3
  have hvz : ∀ z' : Nat, z' < A.items.length → drawn w A ≤ z' → ca A.bn 0 ≠ ca A.bo z' := fun z' h1 h2 e => (h.virgin A sp hA z' h1 h2).2.1 (e ▸ hat)
  -- what both ways share
  have both : ∀ L' : Lo, (∃ zs' cur f', L'.role = .asker A zs' cur f') → L'.q = none → L'.R = L.R → L'.V = L.V → L'.h = L.h → L'.d = L.d → (∀ a, L.M a → L'.M a) → L'.S w' → (∀ a, L'.M a → L.M a ∨ (L.h = .alive ∧ RS (Γ 0).role w a)) →
      (∀ e, under n (upd Γ i L') w' e = under n Γ w e) → AllOk ap n (upd Γ i L') w' A sp → (∀ zs' cur, L'.role = .asker A zs' cur true → (A.items.length : Int) ≤ z + 1) →
      Inv ap n (upd Γ i L') w' (t ++ MemOp.ofEvents i fn pos #[⟨.cell (ca A.bn 0), false, true⟩, ⟨.cell (ca A.bn 0), true, true⟩]) := by
    intro L' hro hq' hR hV hh hd hMM hS hM hun hAll hfl
    have e0 : upd Γ i L' 0 = Γ 0 := upd_ne _ _ (Ne.symm h0)
    have hhold : ∀ wa, L'.role.holds wa = L.role.holds wa := fun wa => by
      obtain ⟨zs', cur, f', hr'⟩ := hro
      rw [hr', hr]; rfl
    have hls : ∀ wa, L'.role.lastS wa = L.role.lastS wa := fun wa => by
      obtain ⟨zs', cur, f', hr'⟩ := hro
      rw [hr', hr]; rfl
    have hpd : ∀ e, L'.role.pend e = L.role.pend e := fun e => by
      obtain ⟨zs', cur, f', hr'⟩ := hro
      rw [hr', hr]; rfl
    have hwg : ∀ wa, WgOk n Γ w wa → WgOk n (upd Γ i L') w' wa := fun wa hx => by
      refine hb.wg (hneW wa hx).1 (hneW wa hx).2 hx (cnt_same (fun r => r.holds wa) (by rw [hL, hhold])) (by rw [e0]) (by rw [e0]) fun j => ?_
      rcases upd_eq Γ i L' j with ⟨e, rfl⟩ | ⟨e, hj⟩
      · rw [e, hL, hls]
      · rw [e]
    have hwld : Wld ap n (upd Γ i L') w' := by
      refine h.wld.kid h0 hb (by rw [hL, hq, hq']) (fun e he => ?_) (fun A1 sp1 hA1 => ?_) (fun A1 zs' cur f' hr' => ?_) (fun hne => absurd (by rw [hL]; exact hq) hne) (fun p' job hr' => ?_) (fun p' c' v' b hr' => ?_) (fun p' c' v' b hr' => by rw [hL, hr] at hr'; cases hr') (fun wa' hh => by rw [hL, ← hhold]; exact hh) (fun A1 sp1 hA1 => ?_) (fun A1 sp1 zs' cur hA1 hr' => ?_)
      · obtain ⟨_, _, _, _, ⟨T', p4', p5', p6'⟩, p7, p8, _⟩ := h.wld.pools e he
        have hcc := cnt_same (n := n) (Γ := Γ) (i := i) (L' := L') (fun r => r.holds (handsA e)) (by rw [hL, hhold])
        exact ⟨⟨T', hb.cellI (hne8 e) p4', p5', by rw [hun, cnt_same (fun r => r.pend e) (by rw [hL, hpd])]; exact p6'⟩, hwg _ p7, fun hcl hrd => by rw [hcc]; exact p8 hcl hrd, by rw [hcc]; exact Nat.le_refl _⟩
      · rw [hA] at hA1
        cases hA1
        exact hAll
      · obtain ⟨zs1, cur1, f1, hr1⟩ := hro
        rw [hr1] at hr'
        cases hr'
        exact ⟨_, _, _, by rw [hL]; exact hr⟩
      · obtain ⟨zs1, cur1, f1, hr1⟩ := hro
        rw [hr1] at hr'; cases hr'
      · obtain ⟨zs1, cur1, f1, hr1⟩ := hro
        rw [hr1] at hr'; cases hr'
      · rw [hA] at hA1
        cases hA1
        rw [hz0, hz1]; omega
      · rw [hA] at hA1
        cases hA1
        rw [hz1]; exact hfl zs' cur hr'
    refine Inv.kid h (ad := ca A.bn 0) (L := L) (L' := L') ⟨hi, h0, hL, hat, hb, hM, hR, fun a ha => ⟨by rw [← hV]; exact ha, hMM a ?_⟩, hh, sync2, .inl hal, by rw [deaf2, hd], hS, fun m hr' => ?_, fun wa' zs' f' s'' hr' => ?_, fun wa' hh' => .inl (hh.trans hal), fun wa' r' hr' => (by have := (hh.trans hal).symm.trans hr'; cases this), fun wa' zs' f' s'' hr' hs' => ?_, fun A1 sp1 hA1 => ?_, hwld⟩ fn pos
    · have := (h.virg i a (by rw [hL, ← hV]; exact ha)).1
      rw [hL] at this; exact this
    · obtain ⟨zs1, cur1, f1, hr1⟩ := hro
      rw [hr1] at hr'; cases hr'
    · obtain ⟨zs1, cur1, f1, hr1⟩ := hro
      rw [hr1] at hr'; cases hr'
    · obtain ⟨zs1, cur1, f1, hr1⟩ := hro
      rw [hr1] at hr'; cases hr'
    · rw [hA] at hA1
      cases hA1
      rw [hd0, hd1]; omega
  constructor
  · intro hlt
    have hrs : RS (Γ 0).role w (ca A.bo z) := ⟨A, sp, z, hA, rfl, hlt, by rw [hd0]; omega⟩
    obtain ⟨⟨v, b1⟩, b2, b3⟩ := a11 z hlt (by rw [hd0]; omega)
    have hzne : ca A.bo z ≠ ca A.bn 0 := Ne.symm (hvz z hlt (by rw [hd0]; omega))
    have e0 : upd Γ i (L.draws A zs z) 0 = Γ 0 := upd_ne _ _ (Ne.symm h0)
    refine both (L.draws A zs z) ⟨_, _, _, rfl⟩ hq rfl rfl rfl rfl (fun a ha => .inl ha) ⟨Lo.keepS (L := L) h hL hat hb, ⟨v, by rw [hb.cell _ hzne]; exact b1⟩, by rw [hb.froz]; exact b2⟩ (fun a ha => ha.imp id fun e => ⟨hal, by rw [e]; exact hrs⟩) (fun e => ?_) ?_ (fun zs' cur hr' => by simp [Lo.draws] at hr')
    · unfold under
      rw [e0, hA]
      simp only
      have hu := cnt_one' (n := n) (Γ := Γ) (i := i) (L' := L.draws A zs z) (fun r => r.unsent) hi
      have u1 : (Γ i).role.unsent = false := by rw [hL, hr]; rfl
      have u2 : (L.draws A zs z).role.unsent = true := rfl
      simp only [u1, u2, Bool.false_eq_true, if_false, if_true, Nat.add_zero] at hu
      by_cases hcc : A.cl = false ∧ A.p.map (·.b) = some e.b
      · rw [if_pos hcc, if_pos hcc, hd0, hd1]
        omega
      · rw [if_neg hcc, if_neg hcc]
    · have f1 : (Γ i).role.failed = false := by rw [hL, hr]; rfl
      have c1 := cnt_same (n := n) (Γ := Γ) (i := i) (L' := L.draws A zs z) (fun r => r.failed && r.inAll A) (by simp only [f1]; rfl)
      have c2 := cnt_same (n := n) (Γ := Γ) (i := i) (L' := L.draws A zs z) (fun r => r.inAll A) (by rw [hL, hr]; rfl)
      refine ⟨a1, a2, ⟨(z : Int) + 1, hc, by omega, by omega⟩, by rw [c2]; exact a6, ?_, fun j A' zs' cur f' hj => ?_, by rw [e0]; exact a9, fun z' hz' => ?_, fun z' hz' hd' => ?_, fun j zs' f' s' hj => ?_, fun j z' hz' => ?_⟩
      · refine hb.wg (hneW _ a7).1 (hneW _ a7).2 a7 (cnt_same (fun r => r.holds (groupA A)) (by rw [hL, hr]; rfl)) (by rw [e0]) (by rw [e0]) fun j => ?_
        rcases upd_eq Γ i (L.draws A zs z) j with ⟨e, rfl⟩ | ⟨e, hj⟩
        · rw [e, hL, hr]; rfl
        · rw [e]
      · rcases upd_eq Γ i (L.draws A zs z) j with ⟨e, rfl⟩ | ⟨e, _⟩
        · rw [e] at hj; cases hj; rfl
        · rw [e] at hj; exact a8 j A' zs' cur f' hj
      · by_cases hzz : z' = z
        · subst hzz
          exact ⟨i, hi, by rw [upd_same]; simp [Lo.draws, Role.zs]⟩
        · obtain ⟨j, hj, hm⟩ := a10 z' (by rw [hd0]; rw [hd1] at hz'; omega)
          refine ⟨j, hj, ?_⟩
          rcases upd_eq Γ i (L.draws A zs z) j with ⟨e, rfl⟩ | ⟨e, _⟩
          · rw [e]
            rw [hL, hr] at hm
            simp only [Role.zs, if_true] at hm
            simp [Lo.draws, Role.zs, hm]
          · rw [e]; exact hm
      · rw [hd1] at hd'
        have hd2 : drawn w A ≤ z' := by rw [hd0]; omega
        obtain ⟨⟨v', b1'⟩, b2', b3'⟩ := a11 z' hz' hd2
        refine ⟨⟨v', (hb.cell _ (Ne.symm (hvz z' hz' hd2))).trans b1'⟩, (hb.froz _).trans b2', fun j => ?_⟩
        rcases upd_eq Γ i (L.draws A zs z) j with ⟨e, rfl⟩ | ⟨e, _⟩
        · rw [e]
          have := b3' j
          rw [hL] at this
          refine ⟨fun hm => hm.elim this.1 fun e' => ?_, this.2⟩
          have := (ca_inj e').2
          omega
        · rw [e]; exact b3' j
      · rcases upd_eq Γ i (L.draws A zs z) j with ⟨e, rfl⟩ | ⟨e, _⟩
        · rw [e] at hj; cases hj
        · rw [e] at hj ⊢
          rw [hz1]
          obtain ⟨h1, h2⟩ := a12 j zs' f' s' hj
          exact ⟨by rw [hz0] at h1; omega, h2⟩
      · rcases upd_eq Γ i (L.draws A zs z) j with ⟨e, rfl⟩ | ⟨e, _⟩
        · rw [e] at hz' ⊢
          simp only [Lo.draws, Role.zs, if_true, List.mem_cons] at hz'
          rcases hz' with rfl | hz'
          · exact ⟨hlt, .inr rfl⟩
          · have := a13 j z' (by rw [hL, hr]; simp only [Role.zs, if_true]; exact hz')
            rw [hL] at this
            exact ⟨this.1, .inl this.2⟩
        · rw [e] at hz' ⊢; exact a13 j z' hz'
  · intro hge
    have e0 : upd Γ i (L.turn (.asker A zs none true) none) 0 = Γ 0 := upd_ne _ _ (Ne.symm h0)
    have hd : drawn w' A = drawn w A := by rw [hd0, hd1]; omega
    have hus : (cnt n fun j => (upd Γ i (L.turn (.asker A zs none true) none) j).role.unsent) = cnt n fun j => (Γ j).role.unsent := cnt_same (fun r => r.unsent) (by rw [hL, hr]; rfl)
    refine both (L.turn (.asker A zs none true) none) ⟨_, _, _, rfl⟩ rfl rfl rfl rfl rfl (fun a ha => ha) (Lo.keepS (L := L) h hL hat hb) (fun a ha => .inl ha) (fun e => under_next (Γ := Γ) (w := w) (by rw [e0]) fun A1 sp1 hA1 => ?_) ?_ (fun zs' cur _ => by omega)
    · rw [hA] at hA1
      cases hA1
      rw [hd, hus]
    · have c1 := cnt_one' (n := n) (Γ := Γ) (i := i) (L' := L.turn (.asker A zs none true) none) (fun r => r.failed && r.inAll A) hi
      have f1 : ((Γ i).role.failed && (Γ i).role.inAll A) = false := by rw [hL, hr]; rfl
      have f2 : ((L.turn (.asker A zs none true) none).role.failed && (L.turn (.asker A zs none true) none).role.inAll A) = true := by simp [Lo.turn, Role.failed, Role.inAll]
      simp only [f1, f2, Bool.false_eq_true, if_false, if_true, Nat.add_zero] at c1
      have c2 := cnt_same (n := n) (Γ := Γ) (i := i) (L' := L.turn (.asker A zs none true) none) (fun r => r.inAll A) (by rw [hL, hr]; rfl)
      refine ⟨a1, a2, ⟨(z : Int) + 1, hc, by omega, by omega⟩, by rw [c2]; exact a6, ?_, fun j A' zs' cur f' hj => ?_, by rw [e0]; exact a9, fun z' hz' => ?_, fun z' hz' hd' => ?_, fun j zs' f' s' hj => ?_, fun j z' hz' => ?_⟩
      · refine hb.wg (hneW _ a7).1 (hneW _ a7).2 a7 (cnt_same (fun r => r.holds (groupA A)) (by rw [hL, hr]; rfl)) (by rw [e0]) (by rw [e0]) fun j => ?_
        rcases upd_eq Γ i (L.turn (.asker A zs none true) none) j with ⟨e, rfl⟩ | ⟨e, hj⟩
        · rw [e, hL, hr]; rfl
        · rw [e]
      · rcases upd_eq Γ i (L.turn (.asker A zs none true) none) j with ⟨e, rfl⟩ | ⟨e, _⟩
        · rw [e] at hj; cases hj; rfl
        · rw [e] at hj; exact a8 j A' zs' cur f' hj
      · obtain ⟨j, hj, hm⟩ := a10 z' (by rw [← hd]; exact hz')
        refine ⟨j, hj, ?_⟩
        rcases upd_eq Γ i (L.turn (.asker A zs none true) none) j with ⟨e, rfl⟩ | ⟨e, _⟩
        · rw [e]
          rw [hL, hr] at hm
          exact hm
        · rw [e]; exact hm
      · rw [hd] at hd'
        obtain ⟨⟨v', b1'⟩, b2', b3'⟩ := a11 z' hz' hd'
        refine ⟨⟨v', (hb.cell _ (Ne.symm (hvz z' hz' hd'))).trans b1'⟩, (hb.froz _).trans b2', fun j => ?_⟩
        rcases upd_eq Γ i (L.turn (.asker A zs none true) none) j with ⟨e, rfl⟩ | ⟨e, _⟩
        · rw [e]
          have := b3' j
          rw [hL] at this
          exact this
        · rw [e]; exact b3' j
      · rcases upd_eq Γ i (L.turn (.asker A zs none true) none) j with ⟨e, rfl⟩ | ⟨e, _⟩
        · rw [e] at hj; cases hj
        · rw [e] at hj ⊢
          rw [hz1]
          obtain ⟨h1, h2⟩ := a12 j zs' f' s' hj
          exact ⟨by rw [hz0] at h1; omega, h2⟩
      · rcases upd_eq Γ i (L.turn (.asker A zs none true) none) j with ⟨e, rfl⟩ | ⟨e, _⟩
        · rw [e] at hz' ⊢
          have := a13 j z' (by rw [hL, hr]; exact hz')
          rw [hL] at this
          exact this
        · rw [e] at hz' ⊢; exact a13 j z' hz'
end Go.Proofs.Ytaceedenkmccdaa
/- Pools: one says its release. -/
namespace Go.Proofs.Ytaceedenkmccdaa
open Go Go.Conc Go.ConcN
set_option linter.unusedSimpArgs false
set_option linter.unusedVariables false
variable {ap : Nat → Int → Int} {n : Nat} {Γ Γ' : Nat → Lo} {w w' : World} {t u : Trace}
def Lo.says (L : Lo) (wa : Addr) (r : Nat) : Lo := { L with h := .rel wa r }
theorem Inv.says [Inhabited Base] (h : Inv ap n Γ w t) {i : Nat} {L : Lo} {wa : Addr} (hi : i < n) (h0 : i ≠ 0) (hL : Γ i = L) (hal : L.h = .alive) (hd : L.d = 0) (hh : L.role.holds wa = true) (fn : FuncId) (pos : String) :
    Inv ap n (upd Γ i (L.says wa t.size)) w (t ++ MemOp.ofEvents i fn pos #[⟨.mark (.releaseMerge wa), false, true⟩]) := by
  have hwa : AT (Γ 0).role wa ∧ ∀ wa', L.role.holds wa' = true → wa' = wa := by
    obtain ⟨hpool, hall⟩ := h.groups
    cases hr : L.role with
    | worker p job =>
      rw [hr] at hh
      simp only [Role.holds, decide_eq_true_eq] at hh ⊢
      subst hh
      exact ⟨(hpool p (h.wld.work i p job (by rw [hL]; exact hr)).1).1, fun _ e => e.symm⟩
    | asker A zs cur f =>
      rw [hr] at hh
      simp only [Role.holds, decide_eq_true_eq] at hh ⊢
      subst hh
      obtain ⟨sp, hA⟩ := asker_all h (i := i) (by rw [hL]; exact hr)
      exact ⟨(hall A sp hA).1, fun _ e => e.symm⟩
    | main m => rw [hr] at hh; cases hh
    | left a b c d => rw [hr] at hh; cases hh
  have e0 : upd Γ i (L.says wa t.size) 0 = Γ 0 := upd_ne _ _ (Ne.symm h0)
  have eM : ∀ j, (upd Γ i (L.says wa t.size) j).M = (Γ j).M ∧ (upd Γ i (L.says wa t.size) j).R = (Γ j).R ∧ (upd Γ i (L.says wa t.size) j).S = (Γ j).S ∧ (upd Γ i (L.says wa t.size) j).role = (Γ j).role ∧ (upd Γ i (L.says wa t.size) j).q = (Γ j).q := fun j => by
    rcases upd_eq Γ i (L.says wa t.size) j with ⟨e, rfl⟩ | ⟨e, _⟩
    · rw [e, hL]; exact ⟨rfl, rfl, rfl, rfl, rfl⟩
    · rw [e]; exact ⟨rfl, rfl, rfl, rfl, rfl⟩
  have hno : ∀ op ∈ MemOp.ofEvents i fn pos #[⟨.mark (.releaseMerge wa), false, true⟩], op.g = i ∧ op.act.touch? = none := fun op hop => by
    obtain ⟨e, he, rfl⟩ := Go.Conc.mem_ofEvents hop
    simp only [List.mem_toArray, List.mem_cons, List.not_mem_nil, or_false] at he
    subst he
    exact ⟨rfl, rfl⟩
  have hon : OnAT (AT (Γ 0).role) i (MemOp.ofEvents i fn pos #[⟨.mark (.releaseMerge wa), false, true⟩]) := fun op hop => ⟨(hno op hop).1, fun x hx => by rw [(hno op hop).2] at hx; cases hx⟩
  have htr := h.tr.release hi h0 (by rw [hL]; exact hal) (h.blkA wa hwa.1) (by rw [h.deaf, hL]; exact hd) fn pos
  refine h.one hi ⟨hon, ?_, ?_, ?_, fun a ha => h.blk i a (by rw [hL]; exact ha), Nat.le_refl _, fun a ha => by rw [e0] at ha; exact h.blkA a ha, fun a ha => ?_, ?_, fun j _ a _ => ⟨rfl, rfl⟩, fun c x => x, ?_, fun e => absurd e h0, fun wa' ho => by rw [e0]; exact ho, fun wa' zs f s _ hr => ?_, fun wa' _ hr => .inr ⟨t.size, by rw [hwa.2 wa' hr]; rfl⟩, fun wa' r hr => ?_, by rw [e0]; exact h.regs, fun j wa' zs f s hr hs => ?_, fun A sp hA z hz hdz => ?_, ?_⟩
  · have e1 : (fun j => (upd Γ i (L.says wa t.size) j).M) = fun j => (Γ j).M := funext fun j => (eM j).1
    have e2 : (fun j => (upd Γ i (L.says wa t.size) j).R) = fun j => (Γ j).R := funext fun j => (eM j).2.1
    have e3 : (fun j => (upd Γ i (L.says wa t.size) j).h) = fun j => if j = i then .rel wa t.size else (Γ j).h := funext fun j => by
      rcases upd_eq Γ i (L.says wa t.size) j with ⟨e, rfl⟩ | ⟨e, hj⟩
      · rw [e, if_pos rfl]; rfl
      · rw [e, if_neg hj]
    rw [e0, e1, e2, e3]
    exact htr
  · have e1 : (fun j => (upd Γ i (L.says wa t.size) j).M) = fun j => (Γ j).M := funext fun j => (eM j).1
    have e2 : (fun j => (upd Γ i (L.says wa t.size) j).R) = fun j => (Γ j).R := funext fun j => (eM j).2.1
    rw [e0, e1, e2]; exact h.apart
  · show _ = L.d
    rw [Deaf_own, h.deaf i, hL]
    simp [deafBehind]
  · obtain ⟨v1, v2⟩ := h.virg i a (by rw [hL]; exact ha)
    rw [hL] at v1
    exact ⟨v1, fun idx x hx => (touch_old_or hx).elim (fun y => v2 idx x y.2) fun ⟨_, op, hop, hxo, _⟩ => by rw [(hno op hop).2] at hxo; cases hxo⟩
  · have := h.know i
    rw [hL] at this; exact this
  · have := h.main i
    rw [hL] at this; exact this
  · have hr' : L.role = .left wa' zs f s := hr
    rw [hr'] at hh; cases hh
  · cases hr
    exact .inl hh
  · rw [e0]
    rw [(eM j).2.2.2.1] at hr
    exact h.lst j wa' zs f s hr hs
  · rw [e0] at hA ⊢
    obtain ⟨v1, v2, v3⟩ := h.virgin A sp hA z hz hdz
    exact ⟨v1, v2, untouched v3 hon v2⟩
  · exact h.wld.keep (fun j => ⟨(eM j).2.2.2.1, (eM j).2.2.2.2⟩) (fun a _ => ⟨rfl, rfl⟩) (fun c cap buf cl s r tm e => e) (fun j A z _ hm => by rw [(eM j).1]; exact hm) (fun j a _ hj => by rw [(eM j).1, (eM j).2.1] at hj; exact hj) (fun j wa zs f s _ u hu => by rw [(eM j).2.2.1] at hu; exact hu)
end Go.Proofs.Ytaceedenkmccdaa
/- Pools: main's steps at a group. -/
namespace Go.Proofs.Ytaceedenkmccdaa
open Go Go.Conc Go.ConcN
set_option linter.unusedSimpArgs false
set_option linter.unusedVariables false
variable {ap : Nat → Int → Int} {n : Nat} {Γ Γ' : Nat → Lo} {w w' : World} {t u : Trace}
/-- Main with another group at hand. -/
def MainR.at (m : MainR) (r p : Option Addr) (d : Option (Addr × Nat)) : MainR := { m with reg := r, pnd := p, dn := d }
theorem main_role [Inhabited Base] (h : Inv ap n Γ w t) : ∃ m, (Γ 0).role = .main m := (h.main 0).2 rfl
/-- A group of the pools or of All. -/
def IsWa (r : Role) (wa : Addr) : Prop := (∃ p ∈ r.m.ps, wa = handsA p) ∨ ∃ A sp, r.m.al = some (A, sp) ∧ wa = groupA A
theorem IsWa.ok [Inhabited Base] (h : Inv ap n Γ w t) {wa : Addr} (x : IsWa (Γ 0).role wa) : AT (Γ 0).role wa ∧ AT (Γ 0).role (sem wa) ∧ WgOk n Γ w wa := by
  obtain ⟨hpool, hall⟩ := h.groups
  rcases x with ⟨p, hp, rfl⟩ | ⟨A, sp, hA, rfl⟩
  · exact ⟨(hpool p hp).1, (hpool p hp).2.1, (hpool p hp).2.2.2⟩
  · exact ⟨(hall A sp hA).1, (hall A sp hA).2.1, (hall A sp hA).2.2.2.1⟩
theorem IsWa.ne [Inhabited Base] {r : Role} {wa wa' : Addr} (x : IsWa r wa) (y : IsWa r wa') (hne : wa' ≠ wa) : wa' ≠ wa ∧ sem wa' ≠ wa ∧ wa' ≠ sem wa ∧ sem wa' ≠ sem wa := by
  rcases x with ⟨p, _, rfl⟩ | ⟨A, _, _, rfl⟩ <;> rcases y with ⟨p', _, rfl⟩ | ⟨A', _, _, rfl⟩
  · exact ⟨hne, ca_ne (i := 4) (i' := 3) (by decide), ca_ne (i := 3) (i' := 4) (by decide), fun e => hne (congrArg (fun b => ca b 3) (ca_inj (b := p'.b) (b' := p.b) (i := 4) (i' := 4) e).1)⟩
  · exact ⟨hne, ca_ne (i := 1) (i' := 3) (by decide), ca_ne (i := 0) (i' := 4) (by decide), ca_ne (i := 1) (i' := 4) (by decide)⟩
  · exact ⟨hne, ca_ne (i := 4) (i' := 0) (by decide), ca_ne (i := 3) (i' := 1) (by decide), ca_ne (i := 4) (i' := 1) (by decide)⟩
  · exact ⟨hne, ca_ne (i := 1) (i' := 0) (by decide), ca_ne (i := 0) (i' := 1) (by decide), fun e => hne (congrArg (fun b => ca b 0) (ca_inj (b := A'.bw) (b' := A.bw) (i := 1) (i' := 1) e).1)⟩
theorem IsWa.ne8 [Inhabited Base] {r : Role} {wa : Addr} (x : IsWa r wa) (e : PoolG) : ca e.b 8 ≠ wa ∧ ca e.b 8 ≠ sem wa := by
  rcases x with ⟨p, _, rfl⟩ | ⟨A, _, _, rfl⟩
  · exact ⟨ca_ne (i := 8) (i' := 3) (by decide), ca_ne (i := 8) (i' := 4) (by decide)⟩
  · exact ⟨ca_ne (i := 8) (i' := 0) (by decide), ca_ne (i := 8) (i' := 1) (by decide)⟩
/-- What main turns at a group. -/
theorem Inv.boss [Inhabited Base] (h : Inv ap n Γ w t) {L : Lo} {m : MainR} {wa ad : Addr} {r p : Option Addr} {d : Option (Addr × Nat)} {u : Trace} (hL : Γ 0 = L) (hr : L.role = .main m) (hwa : IsWa (Γ 0).role wa) (had : ad = wa ∨ ad = sem wa) (hb : But ad w w')
    (hu : ∀ op ∈ u, op.g = 0 ∧ OpOk L.M L.R (AT (Γ 0).role) 0 w.heap.size op.act ∧ ∀ x, op.act.touch? = some x → ∀ a, x.loc = .cell a → a = wa ∨ a = sem wa) (hd : Deaf (t ++ u) 0 = L.d)
    (hnew : WgOk n (upd Γ 0 (L.turn (.main (m.at r p d)) L.q)) w' wa) (hp : ∀ wa', wa' ≠ wa → (p = some wa' ↔ m.pnd = some wa') ∧ (r = some wa' ↔ m.reg = some wa'))
    (hreg : ∀ wa', r = some wa' → p = none ∧ OpenWa (Γ 0).role wa' ∧ (∀ e ∈ m.ps, wa' = handsA e → m.cl e.b = true)) (hlst : ∀ j wa' zs f s, (Γ j).role = .left wa' zs f s → 0 < s → r = some wa')
    (hdn : ∀ wa' k, d = some (wa', k) → p = none ∧ r = none ∧ (cnt n fun j => (Γ j).role.holds wa') ≤ k) : Inv ap n (upd Γ 0 (L.turn (.main (m.at r p d)) L.q)) w' (t ++ u) := by
  obtain ⟨hpool, hall⟩ := h.groups
  obtain ⟨hat1, hat2, hwg⟩ := hwa.ok h
  have hat : AT (Γ 0).role ad := by rcases had with rfl | rfl <;> assumption
  have hrm : (Γ 0).role.m = m := by rw [hL, hr]; rfl
  have e0 : upd Γ 0 (L.turn (.main (m.at r p d)) L.q) 0 = L.turn (.main (m.at r p d)) L.q := upd_same _ _ _
  have eM : ∀ j, (upd Γ 0 (L.turn (.main (m.at r p d)) L.q) j).M = (Γ j).M ∧ (upd Γ 0 (L.turn (.main (m.at r p d)) L.q) j).R = (Γ j).R ∧ (upd Γ 0 (L.turn (.main (m.at r p d)) L.q) j).S = (Γ j).S ∧ (upd Γ 0 (L.turn (.main (m.at r p d)) L.q) j).h = (Γ j).h ∧ (upd Γ 0 (L.turn (.main (m.at r p d)) L.q) j).q = (Γ j).q := fun j => by
    rcases upd_eq Γ 0 (L.turn (.main (m.at r p d)) L.q) j with ⟨e, rfl⟩ | ⟨e, _⟩
    · rw [e, hL]; exact ⟨rfl, rfl, rfl, rfl, rfl⟩
    · rw [e]; exact ⟨rfl, rfl, rfl, rfl, rfl⟩
  have hF : ∀ {α : Type} (f : Role → α), (∀ m', f (.main m') = f (.main m)) → ∀ j, f (upd Γ 0 (L.turn (.main (m.at r p d)) L.q) j).role = f (Γ j).role := fun f hf j => by
    rcases upd_eq Γ 0 (L.turn (.main (m.at r p d)) L.q) j with ⟨e, rfl⟩ | ⟨e, _⟩
    · rw [e, hL, hr]; exact hf _
    · rw [e]
  have hK : ∀ j ρ, (∀ m', ρ ≠ .main m') → ((upd Γ 0 (L.turn (.main (m.at r p d)) L.q) j).role = ρ ↔ (Γ j).role = ρ) := fun j ρ hρ => by
    rcases upd_eq Γ 0 (L.turn (.main (m.at r p d)) L.q) j with ⟨e, rfl⟩ | ⟨e, _⟩
    · rw [e, hL, hr]; exact ⟨fun x => absurd x.symm (hρ _), fun x => absurd x.symm (hρ _)⟩
    · rw [e]
  have hATe : AT (upd Γ 0 (L.turn (.main (m.at r p d)) L.q) 0).role = AT (Γ 0).role := by
    rw [e0]; funext a; simp only [AT, hrm]; rfl
  have hm0 : (upd Γ 0 (L.turn (.main (m.at r p d)) L.q) 0).role.m = m.at r p d := by rw [e0]; rfl
  have hOp : ∀ wa', OpenWa (upd Γ 0 (L.turn (.main (m.at r p d)) L.q) 0).role wa' ↔ OpenWa (Γ 0).role wa' := fun wa' => by
    simp only [OpenWa, hm0, hrm]; exact Iff.rfl
  have hon : OnAT (AT (Γ 0).role) 0 u := fun op hop => ⟨(hu op hop).1, fun x hx a hl => by rcases (hu op hop).2.2 x hx a hl with e | e <;> rw [e] <;> assumption⟩
  have hnext : ∀ A sp, m.al = some (A, sp) → ad ≠ ca A.bn 0 := fun A sp hA => by
    obtain ⟨z, hz, _⟩ := (hall A sp (by rw [hrm]; exact hA)).2.2.2.2
    rcases had with rfl | rfl
    · exact (hwg.ne_next hz).1
    · exact (hwg.ne_next hz).2
  have h8 : ∀ e : PoolG, ca e.b 8 ≠ ad := fun e => by
    rcases had with rfl | rfl
    · exact (hwa.ne8 e).1
    · exact (hwa.ne8 e).2
  have hnx : ∀ A sp, m.al = some (A, sp) → nextOf w' A = nextOf w A := fun A sp hA => by unfold nextOf; rw [hb.cell _ (Ne.symm (hnext A sp hA))]
  have hdr : ∀ A sp, m.al = some (A, sp) → drawn w' A = drawn w A := fun A sp hA => by unfold drawn; rw [hnx A sp hA]
  have hh := fun wa' => hF (fun ρ => ρ.holds wa') fun _ => rfl
  have hls := fun wa' => hF (fun ρ => ρ.lastS wa') fun _ => rfl
  have hus := hF (fun ρ => ρ.unsent) fun _ => rfl
  have hpd := fun e => hF (fun ρ => ρ.pend e) fun _ => rfl
  have hfa := hF (fun ρ => ρ.failed) fun _ => rfl
  have hin := fun A => hF (fun ρ => ρ.inAll A) fun _ => rfl
  have hzs := fun A => hF (fun ρ => ρ.zs A) fun _ => rfl
  have hoth : ∀ wa', IsWa (Γ 0).role wa' → WgOk n Γ w wa' → WgOk n (upd Γ 0 (L.turn (.main (m.at r p d)) L.q)) w' wa' := fun wa' hw' hx => by
    by_cases hne : wa' = wa
    · rw [hne]; exact hnew
    · obtain ⟨n1, n2, n3, n4⟩ := hwa.ne hw' hne
      obtain ⟨p1, p2⟩ := hp wa' hne
      refine hb.wg (by rcases had with rfl | rfl <;> assumption) (by rcases had with rfl | rfl <;> assumption) hx (cnt_congr fun j _ => hh wa' j) (by rw [hm0, hrm]; exact p1) (by rw [hm0, hrm]; exact p2) (hls wa')
  have hunder : ∀ e, under n (upd Γ 0 (L.turn (.main (m.at r p d)) L.q)) w' e = under n Γ w e := fun e => by
    refine under_next (by rw [hm0, hrm]; rfl) fun A sp hA => ?_
    rw [hrm] at hA
    rw [hdr A sp hA, cnt_congr fun j _ => hus j]
  refine h.one h.pos ⟨hon, ?_, ?_, by rw [hd]; rfl, fun a ha => by rw [hb.size]; exact h.blk 0 a (by rw [hL]; exact ha), by rw [hb.size]; exact Nat.le_refl _, fun a ha => by rw [hATe] at ha; rw [hb.size]; exact h.blkA a ha, fun a ha => ?_, ?_, fun j hj a ha => ⟨hb.cell a fun e => ?_, hb.froz a⟩, hb.shut, ⟨fun _ => rfl, fun _ => ⟨_, rfl⟩⟩, fun _ => ?_, fun wa' ho => (hOp wa').2 ho, fun wa' zs f s h0 _ => absurd h0 (Nat.lt_irrefl 0), fun wa' h0 _ => absurd h0 (Nat.lt_irrefl 0), fun wa' r' hr' => ?_, fun wa' hw' => ?_, fun j wa' zs f s hj hs => ?_, fun A sp hA z hz hdz => ?_, ?_⟩
  · have e1 : (fun j => (upd Γ 0 (L.turn (.main (m.at r p d)) L.q) j).M) = fun j => (Γ j).M := funext fun j => (eM j).1
    have e2 : (fun j => (upd Γ 0 (L.turn (.main (m.at r p d)) L.q) j).R) = fun j => (Γ j).R := funext fun j => (eM j).2.1
    have e3 : (fun j => (upd Γ 0 (L.turn (.main (m.at r p d)) L.q) j).h) = fun j => (Γ j).h := funext fun j => (eM j).2.2.2.1
    rw [hATe, e1, e2, e3, hb.size]
    exact h.tr.step h.apart h.pos h.main0 (Nat.le_refl _) fun op hop => ⟨(hu op hop).1, by rw [hL]; have := (hu op hop).2.1; rw [hL] at this; exact this⟩
  · have e1 : (fun j => (upd Γ 0 (L.turn (.main (m.at r p d)) L.q) j).M) = fun j => (Γ j).M := funext fun j => (eM j).1
    have e2 : (fun j => (upd Γ 0 (L.turn (.main (m.at r p d)) L.q) j).R) = fun j => (Γ j).R := funext fun j => (eM j).2.1
    rw [hATe, e1, e2]; exact h.apart
  · obtain ⟨v1, v2⟩ := h.virg 0 a (by rw [hL]; exact ha)
    refine ⟨by rw [hL] at v1; exact v1, untouched v2 hon fun hat => (h.apart.shared 0 a hat).1 v1⟩
  · exact Lo.keepS (L := L) h hL hat hb
  · subst e
    exact ha.elim (h.apart.shared j _ hat).1 (h.apart.shared j _ hat).2
  · have := h.main0
    rw [hL] at this; exact this
  · have := h.main0
    rw [hL] at this
    have e : HSt.alive = .rel wa' r' := this.symm.trans hr'
    cases e
  · rw [hm0] at hw' ⊢
    obtain ⟨h1, h2, h3⟩ := hreg wa' hw'
    refine ⟨h1, ?_⟩
    simp only [OpenWa, hrm] at h2
    rcases h2 with ⟨e, he, hf, rfl⟩ | ⟨A, sp, hA, rfl⟩
    · exact .inl ⟨e, he, hf, rfl, h3 e he rfl⟩
    · exact .inr ⟨A, sp, hA, rfl⟩
  · rw [hm0]
    exact hlst j wa' zs f s ((hK j _ fun m' => by simp).1 hj) hs
  · rw [hm0] at hA
    rw [hATe]
    obtain ⟨v1, v2, v3⟩ := h.virgin A sp (by rw [hrm]; exact hA) z hz (by rw [← hdr A sp hA]; exact hdz)
    exact ⟨v1, v2, untouched v3 hon v2⟩
  · have hw := h.wld
    refine ⟨fun e he => ?_, by rw [hm0]; have := hw.same; rw [hrm] at this; exact this, by rw [hm0]; have := hw.chans; rw [hrm] at this; exact this, by rw [hm0]; have := hw.fns; rw [hrm] at this; exact this, fun A sp hA => ?_, fun hA j A zs cur f hj => ?_, fun j p' job hj => ?_, fun k p' c v b hk => ?_, fun k k' p1 p2 c v v' b b' hk hk' => ?_, fun j Q hQ => ?_, fun j j' Q Q' hQ hQ' => ?_, fun j Q hQ => ?_, fun c hc => ?_, fun e he => ?_, fun wa' k hw' => ?_, fun A sp hA j zs cur hj => ?_⟩
    · rw [hm0] at he
      have he' : e ∈ (Γ 0).role.m.ps := by rw [hrm]; exact he
      obtain ⟨⟨s1, r1, p1⟩, ⟨s2, r2, p2⟩, p3, p3', ⟨T, p4, p5, p6⟩, p7, p8, p9⟩ := hw.pools e he'
      rw [hrm] at p2 p3 p3' p6 p8 p9
      refine ⟨⟨s1, r1, hb.ch p1⟩, ⟨s2, r2, by rw [hm0]; exact hb.ch p2⟩, by rw [hm0]; exact p3, by rw [hm0]; exact p3', ⟨T, hb.cellI (h8 e) p4, p5, ?_⟩, hoth _ (.inl ⟨e, he', rfl⟩) p7, ?_, ?_⟩
      · rw [hunder, hm0, cnt_congr fun j _ => hpd e j]; exact p6
      · rw [hm0, cnt_congr fun j _ => hh (handsA e) j]; exact p8
      · rw [hm0, cnt_congr fun j _ => hh (handsA e) j]; exact p9
    · rw [hm0] at hA
      have hA' : (Γ 0).role.m.al = some (A, sp) := by rw [hrm]; exact hA
      obtain ⟨a1, a2, ⟨z, a3, a4, a5⟩, a6, a7, a8, a9, a10, a11, a12, a13⟩ := hw.all A sp hA'
      refine ⟨a1, a2, ⟨z, hb.cellI (Ne.symm (hnext A sp hA)) a3, a4, ?_⟩, ?_, hoth _ (.inr ⟨A, sp, hA', rfl⟩) a7, fun j A' zs cur f hj => a8 j A' zs cur f ((hK j _ fun m' => by simp).1 hj), ?_, fun z hz => ?_, fun z hz hd => ?_, fun j zs f s hj => ?_, fun j z hz => ?_⟩
      · rw [cnt_congr fun j _ => by rw [hfa j, hin A j]]; exact a5
      · rw [cnt_congr fun j _ => hin A j]; exact a6
      · rw [hm0]; rw [hrm] at a9; exact a9
      · rw [hdr A sp hA] at hz
        obtain ⟨j, hj, hm⟩ := a10 z hz
        exact ⟨j, hj, by rw [hzs A j]; exact hm⟩
      · rw [hdr A sp hA] at hd
        obtain ⟨⟨v, b1⟩, b2, b3⟩ := a11 z hz hd
        refine ⟨⟨v, (hb.cell _ fun e => ?_).trans b1⟩, (hb.froz _).trans b2, fun j => by rw [(eM j).1, (eM j).2.1]; exact b3 j⟩
        exact (h.virgin A sp hA' z hz hd).2.1 (e ▸ hat)
      · rw [hnx A sp hA, (eM j).2.2.1]
        exact a12 j zs f s ((hK j _ fun m' => by simp).1 hj)
      · rw [hzs A j] at hz
        rw [(eM j).1]; exact a13 j z hz
    · rw [hm0] at hA
      exact hw.noall (by rw [hrm]; exact hA) j A zs cur f ((hK j _ fun m' => by simp).1 hj)
    · rw [hm0]
      have := hw.work j p' job ((hK j _ fun m' => by simp).1 hj)
      rw [hrm] at this; exact this
    · obtain ⟨h1, h2⟩ := hw.job k p' c v b ((hK k _ fun m' => by simp).1 hk)
      exact ⟨hb.ch h1, h2.imp fun j hj => by rw [(eM j).2.2.2.2]; exact hj⟩
    · exact hw.jobs k k' p1 p2 c v v' b b' ((hK k _ fun m' => by simp).1 hk) ((hK k' _ fun m' => by simp).1 hk')
    · rw [(eM j).2.2.2.2] at hQ
      rw [hm0]
      obtain ⟨q1, q2, q3⟩ := hw.q j Q hQ
      rw [hrm] at q1
      exact ⟨q1, fun x => hb.ch (q2 x), fun x => (q3 x).imp (fun ⟨k, b, hk⟩ => ⟨k, b, (hK k _ fun m' => by simp).2 hk⟩) fun hc => hb.ch hc⟩
    · rw [(eM j).2.2.2.2] at hQ
      rw [(eM j').2.2.2.2] at hQ'
      exact hw.qs j j' Q Q' hQ hQ'
    · rw [(eM j).2.2.2.2] at hQ
      exact (hw.qwho j Q hQ).imp id fun ⟨A, zs, cur, f, hj⟩ => ⟨A, zs, cur, f, (hK j _ fun m' => by simp).2 hj⟩
    · rw [hm0] at hc ⊢
      have := hw.mks c (by rw [hrm]; exact hc)
      rw [hrm] at this
      exact ⟨hb.ch this.1, this.2⟩
    · rw [hm0] at he ⊢
      have := hw.wss e (by rw [hrm]; exact he)
      rw [hrm] at this
      rw [cnt_congr fun j _ => hh (handsA e) j]; exact this
    · rw [hm0] at hw' ⊢
      obtain ⟨h1, h2, h3⟩ := hdn wa' k hw'
      exact ⟨h1, h2, by rw [cnt_congr fun j _ => hh wa' j]; exact h3⟩
    · rw [hm0] at hA
      rw [hnx A sp hA]
      exact hw.fls A sp (by rw [hrm]; exact hA) j zs cur ((hK j _ fun m' => by simp).1 hj)
end Go.Proofs.Ytaceedenkmccdaa
