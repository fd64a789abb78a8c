/- Pools: the walk of those who ask for All. -/
import Derived.Test.YtaceedenkmccdaaSa
namespace Go.Proofs.Ytaceedenkmccdaa
open Go Go.Conc Go.ConcN
set_option linter.unusedSimpArgs false
set_option linter.unusedVariables false
variable {X : Cx} {i : Nat} {L L' : Lo} {Post : Value → Lo → Prop}
set_option maxRecDepth 100000
set_option maxHeartbeats 4000000
/-- What is held of oneself is told anew, at a step that turns nothing. -/
theorem safe_told [Inhabited Base] {c : Nat} {g g' : Goroutine} (hs : g.status = .running) (hnl : ¬ Lefty L) (hst : ∀ w, stepG X.P (i == 0) g w = .go g' w #[]) (hI' : ∀ n Γ w t, Inv X.ap n Γ w t → Γ i = L → i < n → Inv X.ap n (upd Γ i L') w t) (hm : ∀ n Γ w t, Inv X.ap n Γ w t → Γ i = L → i < n → L'.role.m.cl = L.role.m.cl) (hS : X.safe i c g' L') : X.safe i (c + 1) g L := by
  refine safe_step (c := c) hs hnl fun n Γ w t hI hL hi => ⟨g', w, #[], upd Γ i L', hst w, by rw [opsOf_nil, Array.append_empty]; exact hI' n Γ w t hI hL hi, fun j hj => .inl (upd_ne _ _ hj), .inr ⟨?_, fun _ _ x => x⟩, fun b' hb' => ?_, ⟨Aged.refl _, fun _ _ _ _ x => x⟩, by rw [upd_same]; exact hS⟩
  · rcases upd_eq Γ i L' 0 with ⟨e, ei⟩ | ⟨e, _⟩
    · rw [e, ei, hL]; exact hm n Γ w t hI hL hi
    · rw [e]
  · rcases upd_eq Γ i L' 0 with ⟨e, ei⟩ | ⟨e, _⟩
    · rw [e, hm n Γ w t hI hL hi]; rw [← hL, ← ei]; exact hb'
    · rw [e]; exact hb'
theorem wpS_region_told [Inhabited Base] {fn : FuncId} {id n : Nat} {ops : Array Oper} {Q' : Exit → Act → Lo → Prop} {a : Act} (hnl : ¬ Lefty L) (hI' : ∀ n Γ w t, Inv X.ap n Γ w t → Γ i = L → i < n → Inv X.ap n (upd Γ i L') w t) (hm : ∀ n Γ w t, Inv X.ap n Γ w t → Γ i = L → i < n → L'.role.m.cl = L.role.m.cl) (h : OpsS X i fn ops (List.range ops.size) n Q' a L') : wpS X i fn (.region id ops false) (n + 1) Q' a L :=
  fun b k cs m hb hk hc => safe_told rfl hnl (fun w => stepG_region) hI' hm (h b k cs m hb hk hc)
theorem HasE.sets {a : Addr} (h : HasE L a) (v : Value) : Has (L.sets a v) a v := ⟨fun w x => (x.1 h.own).1, fun w x => (x.1 h.own).2, h.own, h.nv⟩
theorem sets_SE [Inhabited Base] {a : Addr} (v : Value) (h : HasE L a) {w : World} (hS : L.S w) : (L.sets a v).S (w.setCell a v) := by
  obtain ⟨u, hu⟩ := h.know w hS
  exact ⟨fun _ => ⟨World.cell?_setCell_same _ _ _ hu, by rw [World.frozen?_setCell]; exact h.froz w hS⟩, w, hS, fun b hb _ => ⟨World.cell?_setCell_other _ _ _ _ (Ne.symm hb), World.frozen?_setCell _ _ _ _⟩, setCell_shut hu⟩
/-- A cell of one's own is written, whatever it held. -/
theorem opsS_putE [Inhabited Base] {fn : FuncId} {ops : Array Oper} {j k : Nat} {rest : List Nat} {o : Oper} {Q' : Exit → Act → Lo → Prop} {a : Act} {ad : Addr} {v : Value} (hh : HasE L ad) (ho : ops[j]? = some o) (hw : Region.wanted o (yielded ops a.tmps) = true) (hlv : Live L) (hV : ∀ a, L.V a → L.M a) (hr : ∀ w u, w.cell? ad = some u → w.frozen? ad = false → (execOp a.eval o).run X.P w = .ok .skip (w.setCell ad v))
    (he : ∀ w u, w.cell? ad = some u → w.frozen? ad = false → ∀ e ∈ listed X.P fn a o w, e = ⟨.cell ad, true, false⟩) (h : OpsS X i fn ops rest k Q' (a.put o.dst undef) (L.sets ad v)) : OpsS X i fn ops (j :: rest) (k + 1) Q' a L :=
  opsS_set (L' := L.sets ad v) ho hw hlv hh.own (fun b hb => ⟨hV b hb, fun e => hh.nv (e ▸ hb)⟩) (fun w hS => hh.know w hS) (fun w hS => .inr ⟨(let ⟨u, hu⟩ := hh.know w hS; hr w u hu (hh.froz w hS)), rfl⟩) (fun w hS e hin => by
    obtain ⟨u, hu⟩ := hh.know w hS
    rw [he w u hu (hh.froz w hS) e hin]
    exact .inl ⟨ad, true, false, rfl, hh.nv, .inl hh.own⟩) ⟨rfl, rfl, rfl, rfl, rfl, rfl, rfl⟩ (fun w hS => sets_SE v hh hS) h
/-- A cell that may be read, and is not one's own to write. -/
structure Reads (L : Lo) (a : Addr) (v : Value) : Prop where
  sees : Sees L a v
  r : L.R a
theorem Grows.reads (g : Grows L L') {a : Addr} {v : Value} (h : Reads L a v) : Reads L' a v := ⟨g.sees h.sees, by rw [g.r]; exact h.r⟩
/-- What one who asks for All has. -/
structure AskS (A : AllG) (i : Nat) (L : Lo) (bi bp bt : Nat) (sb : Addr) (cap : Nat) : Prop where
  q : L.q = none
  h : L.h = .alive
  d : L.d = 0
  nv : ∀ a, ¬ L.V a
  i0 : i ≠ 0
  s2 : Reads L ⟨bi, 0, none⟩ (.slice (some sb) A.items.length cap)
  s3 : Reads L ⟨bp, 0, none⟩ (.pointer (A.p.map fun p => ⟨p.b, 0, none⟩))
  s4 : Reads L ⟨bt, 0, none⟩ (.slice (some ⟨A.bo, 0, none⟩) A.items.length A.items.length)
  items : ∀ z, z < A.items.length → Reads L (sb.add z) (.int .i64 (A.items.getD z 0))
  pool : ∀ p, A.p = some p → Reads L ⟨p.b, 1, none⟩ (.chan (some p.ci)) ∧ Reads L ⟨p.b, 2, none⟩ (.chan (some p.ce))
  ro : ∀ z, ¬ L.R ⟨A.bo, z, none⟩
theorem AskS.grow [Inhabited Base] {A : AllG} {bi bp bt : Nat} {sb : Addr} {cap : Nat} (h : AskS A i L bi bp bt sb cap) (g : Grows L L') (hq : L'.q = none) : AskS A i L' bi bp bt sb cap :=
  ⟨hq, by rw [g.h]; exact h.h, by rw [g.d]; exact h.d, g.nv h.nv, h.i0, g.reads h.s2, g.reads h.s3, g.reads h.s4, fun z hz => g.reads (h.items z hz), fun p hp => ⟨g.reads (h.pool p hp).1, g.reads (h.pool p hp).2⟩, by rw [g.r]; exact h.ro⟩
/-- Behind a write into an answer's place. -/
theorem AskS.put [Inhabited Base] {A : AllG} {bi bp bt : Nat} {sb : Addr} {cap z : Nat} {v : Value} (h : AskS A i L bi bp bt sb cap) : AskS A i (L.sets ⟨A.bo, z, none⟩ v) bi bp bt sb cap := by
  have g : ∀ {a : Addr} {u : Value}, Reads L a u → Reads (L.sets ⟨A.bo, z, none⟩ v) a u := fun {a u} x => ⟨x.sees.sets fun e => h.ro z (e ▸ x.r), x.r⟩
  exact ⟨h.q, h.h, h.d, h.nv, h.i0, g h.s2, g h.s3, g h.s4, fun z hz => g (h.items z hz), fun p hp => ⟨g (h.pool p hp).1, g (h.pool p hp).2⟩, h.ro⟩
theorem AskS.turn [Inhabited Base] {A : AllG} {bi bp bt : Nat} {sb : Addr} {cap : Nat} (h : AskS A i L bi bp bt sb cap) (r : Role) : AskS A i (L.turn r none) bi bp bt sb cap := h.grow (Grows.turn _ _ _) rfl
theorem Grows.draws (A : AllG) (zs : List Nat) (z : Nat) : Grows L (L.draws A zs z) :=
  ⟨fun h => ⟨fun w x => h.know w x.1, h.acc.imp .inl id, h.nv⟩, fun h => ⟨fun w x => h.know w x.1, fun w x => h.froz w x.1, .inl h.own, h.nv⟩, fun h => ⟨fun w x => h.know w x.1, fun w x => h.froz w x.1, .inl h.own, h.nv⟩, fun a h => .inl h, fun a h => h.imp .inl id, rfl, rfl, rfl, fun h a x => .inl (h a x), fun h => h⟩
theorem draws_has {A : AllG} {zs : List Nat} {z : Nat} (hnv : ∀ a, ¬ L.V a) : HasE (L.draws A zs z) ⟨A.bo, z, none⟩ := ⟨fun w x => x.2.1, fun w x => x.2.2, .inr rfl, hnv _⟩
theorem AskS.fit {A : AllG} {bi bp bt : Nat} {sb : Addr} {cap : Nat} (h : AskS A i L bi bp bt sb cap) {zs : List Nat} {cur : Option (Nat × Bool)} {f : Bool} (hr : L.role = .asker A zs cur f) : Fit L := ⟨⟨h.h, fun wa zs f s e => by rw [hr] at e; cases e⟩, fun a ha => absurd ha (h.nv a)⟩
/-- Ask, by one who asks for All. -/
theorem w_askA [Inhabited Base] (hP : X.P = Try.prog) (hCW : X.CW = 10000) {A : AllG} {bi bp bt : Nat} {sb : Addr} {cap : Nat} (h : AskS A i L bi bp bt sb cap) {zs : List Nat} {z : Nat} {f : Bool} {x : Int} (hr : L.role = .asker A zs (some (z, false)) f) : CallsS X i 11 #[.pointer (A.p.map fun p => ⟨p.b, 0, none⟩), .int .i64 x] 10400 L fun r L' => r = .tuple #[.int .i64 (A.val X.ap x), .bool (A.p.isSome && !A.cl)] ∧ Grows L L' ∧ (∃ b, L'.role = .asker A zs (some (z, b)) f ∧ (b = true ∨ A.cl = true ∨ A.p = none)) ∧ L'.q = none := by
  have hI : ∀ p, A.p = some p → ∀ n Γ w t, Inv X.ap n Γ w t → Γ i = L → i < n → p ∈ (Γ 0).role.m.ps ∧ (Γ 0).role.m.cl p.b = A.cl ∧ (Γ 0).role.m.rd p.b = true := fun p hp n Γ w t hI hL hi => by
    obtain ⟨sp, hA⟩ := asker_all hI (i := i) (by rw [hL]; exact hr)
    exact (hI.wld.all A sp hA).2.2.2.2.2.2.1 p hp
  cases hp : A.p with
  | none =>
    refine ((w_ask0 (i := i) (L := L) (v := x) hP).more (by decide)).mono fun r L' ⟨h1, h2⟩ => ?_
    subst h2
    exact ⟨by rw [h1]; simp [AllG.val, hp], Grows.refl _, ⟨false, hr, .inr (.inr rfl)⟩, h.q⟩
  | some p =>
    have hsee : Sees L ⟨p.b, 1, none⟩ (.chan (some p.ci)) ∧ Sees L ⟨p.b, 2, none⟩ (.chan (some p.ce)) := ⟨(h.pool p hp).1.sees, (h.pool p hp).2.sees⟩
    cases hc : A.cl with
    | true =>
      refine ((w_askShut (i := i) (L := L) (v := x) (p := p) hP (h.fit hr) hsee.2 fun n Γ w t a b c => ?_).more (by decide)).mono fun r L' ⟨h1, h2⟩ => ?_
      · have := hI p hp n Γ w t a b c
        exact ⟨this.1, this.2.1.trans hc⟩
      · subst h2
        exact ⟨by rw [h1]; simp [AllG.val, hp, hc], Grows.refl _, ⟨false, hr, .inr (.inl rfl)⟩, h.q⟩
    | false =>
      refine (w_askOpen (i := i) (L := L) (v := x) (p := p) hP hCW (h.fit hr) h.q hsee.1 hsee.2 (fun n Γ w t a b c => ?_) (.inr ⟨_, _, _, _, hr⟩) (.inr ⟨A, zs, z, f, hr, hp, hc⟩)).mono fun r L' ⟨h1, h2, h3, h4⟩ => ?_
      · have := hI p hp n Γ w t a b c
        exact ⟨this.1, this.2.1.trans hc, this.2.2⟩
      · refine ⟨by rw [h1]; simp [AllG.val, hp, hc], h2, ⟨true, ?_, .inl rfl⟩, h4⟩
        rw [h3, hr]; rfl
/-- An index is drawn: a greater one each time. -/
theorem mv_draw2 [Inhabited Base] {A : AllG} {zs : List Nat} (h0 : i ≠ 0) (hr : L.role = .asker A zs none false) (hq : L.q = none) (hal : L.h = .alive) : Move X i L (Extern.Atomic.update (Op.intArith .add) .i64 true #[.pointer (some (ca A.bn 0)), .int .i64 1]) fun r L' =>
    ∃ z : Nat, r = .int .i64 ((z : Int) + 1) ∧ (z : Int) ≤ 2000000000000000 ∧ ((z < A.items.length ∧ (∀ y ∈ zs, y < z) ∧ L' = L.draws A zs z) ∨ (A.items.length ≤ z ∧ L' = L.turn (.asker A zs none true) none)) := by
  refine ⟨nl_of hr fun wa zs f => by simp, fun n Γ w t hI hL hi => ?_⟩
  obtain ⟨z, h1, h2, h2', h3⟩ := hI.draw hi h0 hL hr hq hal
  obtain ⟨e1, e2⟩ := ent_add (w := w) X.P h1 h2
  obtain ⟨hb, hc⟩ := setCell_but (y := (z : Int) + 1) h1
  rcases Nat.lt_or_ge z A.items.length with hlt | hge
  · refine ⟨_, _, _, _, e1, e2, sync_ok sync2, fun fn pos => (h3 _ hb hc fn pos).1 hlt, others_upd, kid_cl h0, hb.fill, z, rfl, h2', .inl ⟨hlt, fun y hy => ?_, upd_same _ _ _⟩⟩
    obtain ⟨sp, hA⟩ := asker_all hI (i := i) (by rw [hL]; exact hr)
    obtain ⟨_, _, _, _, _, _, _, _, a11, _, a13⟩ := hI.wld.all A sp hA
    have hy' : y ∈ (Γ i).role.zs A := by rw [hL, hr]; simp [Role.zs, hy]
    obtain ⟨b1, b2⟩ := a13 i y hy'
    apply Classical.byContradiction
    intro hn
    have hdr : drawn w A ≤ y := by
      unfold drawn nextOf
      rw [h1.1]
      simp only
      omega
    exact ((a11 y b1 hdr).2.2 i).1 b2
  · exact ⟨_, _, _, _, e1, e2, sync_ok sync2, fun fn pos => (h3 _ hb hc fn pos).2 hge, others_upd, kid_cl h0, hb.fill, z, rfl, h2', .inr ⟨hge, upd_same _ _ _⟩⟩
end Go.Proofs.Ytaceedenkmccdaa
