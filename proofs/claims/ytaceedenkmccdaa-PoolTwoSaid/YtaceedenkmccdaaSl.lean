/- Pools: the start; the whole run. -/
import Derived.Test.YtaceedenkmccdaaSk
namespace Go.Proofs.Ytaceedenkmccdaa
open Go Go.Conc Go.ConcN
set_option linter.unusedSimpArgs false
set_option linter.unusedVariables false
variable {X : Cx} {L L' : Lo} {Post : Value → Lo → Prop}
theorem stepG_root {P : Program} {b : Frame} {a : Act} {todo : List Item} {w : World} {fn : Func} {v : Value} (hn : b.kind = .normal) (hi : P.inits.idxOf? b.fn = none) (hd : a.defers = []) (hf : P.funcs[b.fn]? = some fn) (hr : (results fn a.tmps).run P w = .ok v w) (he : (results fn a.tmps).events P w #[] = #[]) :
    stepG P true (G { b.at a todo with mode := .returning } []) w = .ended (.done v) w #[] := by
  simp [G, stepG, unwind, doReturn, Frame.at, hn, hi, hd, hf, hr, he, seen, GStep.after]
/-- What a law's body must achieve. -/
def rootS (X : Cx) (fnn : Func) (Post : Value → Lo → Prop) : Exit → Act → Lo → Prop
  | .normal, a, L | .ret, a, L => ∃ v, ResultsC X.P fnn a.tmps v ∧ a.defers = [] ∧ Post v L
  | _, _, _ => False
theorem safe_end [Inhabited Base] {b : Frame} {a : Act} {todo : List Item} {fnn : Func} {v : Value} (hn : b.kind = .normal) (hi : X.P.inits.idxOf? b.fn = none) (hf : X.P.funcs[b.fn]? = some fnn) (hr : ResultsC X.P fnn a.tmps v) (hd : a.defers = []) {m : MainR} (hb : Boss L m) (hfin : AllFin m) (hQ : ∀ w, L.S w → X.Q v w) :
    X.safe 0 1 (G { b.at a todo with mode := .returning } []) L := by
  have hnl : ¬ Lefty L := nl_of hb.role fun wa zs f => by simp
  refine .inl ⟨hnl, ?_⟩
  rw [Safe]
  refine .inr ⟨rfl, hnl, fun n Γ w t hI hL hi0 => .inr (.inr (.inr (.inr (.inr (.inr (.inr (.inr ⟨rfl, v, w, #[], stepG_root hn hi hd hf (hr w).1 (hr w).2, hQ w (by have := hI.know 0; rwa [hL] at this), Aged.refl w, ?_⟩)))))))⟩
  rw [hb.role, opsOf_nil, Array.append_empty]
  exact ⟨hb.al, hb.reg, hfin, hI⟩
theorem safe_root [Inhabited Base] {f : FuncId} {fnn : Func} {c : Code} {args : Array Value} {n : Nat} (hi : X.P.inits.idxOf? f = none) (hf : X.P.funcs[f]? = some fnn) (hb : fnn.body = some c)
    (h : wpS X 0 f c n (rootS X fnn fun v L' => ∃ m, Boss L' m ∧ AllFin m ∧ ∀ w, L'.S w → X.Q v w) { tmps := args ++ Array.replicate (fnn.ntmps - args.size) undef, defers := [] } L) : X.safe 0 (n + 2) (G (Frame.enter X.P f args .normal) []) L := by
  have hleave : ∀ (a' : Act) (L' : Lo) (todo : List Item), (∃ v, ResultsC X.P fnn a'.tmps v ∧ a'.defers = [] ∧ ∃ m, Boss L' m ∧ AllFin m ∧ ∀ w, L'.S w → X.Q v w) → X.safe 0 1 (G { (base f).at a' todo with mode := .returning } []) L' := by
    rintro a' L' todo ⟨v, hr, hd, m, hb, hfin, hQ⟩
    exact safe_end (b := base f) rfl hi hf hr hd hb hfin hQ
  have := h (base f) [] [] 2 rfl (by simp [base]) fun e a' L' q => by
    cases e with
    | normal => exact safe_silent rfl (fun w => stepG_end) (hleave a' L' [] q)
    | ret => exact fun todo => Safe.more (hleave a' L' todo q) (by omega)
    | exit id => exact q.elim
    | goto l => exact q.elim
    | panic ch => exact q.elim
    | outgrown => exact q.elim
  rw [enter_at args hf hb]
  exact Safe.more this (by omega)
/-! ### the start -/
def noMain : MainR := ⟨[], fun _ => false, fun _ => false, fun _ => false, fun _ => 0, none, none, none, [], fun _ => 0, none⟩
def startLo (W : World) : Lo :=
  ⟨fun _ => False, fun a => a.block < W.heap.size, fun _ => False, fun w => ∀ a : Addr, a.block < W.heap.size → w.cell? a = W.cell? a, fun w w' hc _ h a ha => (hc a (.inr ha)).1.trans (h a ha), .alive, 0, .main noMain, none⟩
theorem start_sees [Inhabited Base] {W : World} {a : Addr} {v : Value} (h : W.cell? a = some v) : Sees (startLo W) a v := by
  obtain ⟨cs, el, fr, hb⟩ := cell_some h
  have hlt := lt_of_some hb
  exact ⟨fun w hw => (hw a hlt).trans h, .inr hlt, fun x => x⟩
theorem start_boss (W : World) : Boss (startLo W) noMain := ⟨rfl, rfl, rfl, rfl, fun _ x => x, rfl, rfl, rfl, rfl, rfl, fun b h => by cases h⟩
theorem start_fin : AllFin noMain := fun e h => by cases h
theorem touch_empty {idx : Nat} : touchAt #[] idx = none := by simp [touchAt, Trace.act?]
theorem start_inv [Inhabited Base] {ap : Nat → Int → Int} {W : World} (hB : Base.B = W.heap.size) : Inv ap 1 (upd (fun _ => Lo.nil) 0 (startLo W)) W #[] := by
  have e0 : upd (fun _ => Lo.nil) 0 (startLo W) 0 = startLo W := upd_same _ _ _
  have hne : ∀ j, j ≠ 0 → upd (fun _ => Lo.nil) 0 (startLo W) j = Lo.nil := fun j hj => upd_ne _ _ hj
  generalize upd (fun _ => Lo.nil) 0 (startLo W) = Γ at e0 hne
  have hj : ∀ j, Γ j = startLo W ∨ Γ j = Lo.nil := fun j => by
    by_cases e : j = 0
    · subst e; exact .inl e0
    · exact .inr (hne j e)
  have hM : ∀ j a, ¬ (Γ j).M a := fun j a h => by rcases hj j with e | e <;> (rw [e] at h; exact h)
  have hV : ∀ j a, ¬ (Γ j).V a := fun j a h => by rcases hj j with e | e <;> (rw [e] at h; exact h)
  have hR : ∀ j a, (Γ j).R a → j = 0 ∧ a.block < W.heap.size := fun j a h => by
    by_cases e : j = 0
    · subst e; rw [e0] at h; exact ⟨rfl, h⟩
    · rw [hne j e] at h; exact h.elim
  have hh : ∀ j, (Γ j).h = .alive := fun j => by rcases hj j with e | e <;> rw [e] <;> rfl
  have hd : ∀ j, (Γ j).d = 0 := fun j => by rcases hj j with e | e <;> rw [e] <;> rfl
  have hq : ∀ j, (Γ j).q = none := fun j => by rcases hj j with e | e <;> rw [e] <;> rfl
  have hr : ∀ j, (Γ j).role = .main noMain ∨ (Γ j).role = .left dead [] false 0 := fun j => by rcases hj j with e | e <;> rw [e]; exact .inl rfl; exact .inr rfl
  have hm : (Γ 0).role.m = noMain := by rw [e0]; rfl
  have hAT : ∀ a, ¬ AT (Γ 0).role a := fun a h => by
    rcases h with ⟨e, he, _⟩ | ⟨A, sp, hA, _⟩
    · rw [hm] at he; cases he
    · rw [hm] at hA; cases hA
  have hps : ∀ e, ¬ e ∈ (Γ 0).role.m.ps := fun e h => by rw [hm] at h; cases h
  have hal : ∀ x, (Γ 0).role.m.al ≠ some x := fun x h => by rw [hm] at h; cases h
  have hwk : ∀ j p job, (Γ j).role ≠ .worker p job := fun j p job h => by rcases hr j with e | e <;> (rw [e] at h; cases h)
  have has : ∀ j A zs cur f, (Γ j).role ≠ .asker A zs cur f := fun j A zs cur f h => by rcases hr j with e | e <;> (rw [e] at h; cases h)
  refine ⟨Nat.one_pos, by rw [hB]; exact Nat.le_refl _, ⟨fun said h => ?_, fun i a h => absurd h (hM i a), fun i a _ idx x hx => ?_, fun a h => absurd h (hAT a), fun idx x r hx => ?_, fun op hop => ?_, fun a idx h => ?_, fun op hop => ?_, fun j b r h => ?_, fun j b r a h => ?_, fun idx g hg => ?_⟩,
    ⟨fun i j a h => absurd h (hM i a), fun i j a h => absurd h (hM i a), fun i a h => absurd h (hAT a)⟩, fun i => ?_, fun i a h => ?_, fun a h => absurd h (hAT a), fun i a h => absurd h (hV i a), fun i => ?_, fun i hi => hne i (by omega), fun i => ?_, hh 0, fun i wa zs f s h0 hi => (by omega), fun i wa h0 h => ?_, fun i wa r h => ?_, fun wa h => ?_, fun i wa zs f s h hs => ?_, fun A sp h => absurd h (hal _), ?_⟩
  · obtain ⟨i, j, _, ⟨a, b, h1, _⟩, _⟩ := h
    simp [Trace.act?] at h1
  · rw [touch_empty] at hx; cases hx
  · rw [touch_empty] at hx; cases hx
  · simp at hop
  · simp [Trace.act?] at h
  · simp at hop
  · rw [hh] at h; cases h
  · rw [hh] at h; cases h
  · simp [Trace.g?] at hg
  · rw [hd]; simp [Deaf, Trace.deaf]
  · rcases h with h | h
    · exact absurd h (hM i a)
    · exact (hR i a h).2
  · rcases hj i with e | e
    · rw [e]; exact fun a _ => rfl
    · rw [e]; trivial
  · refine ⟨fun ⟨m, h⟩ => ?_, fun e => ⟨noMain, by rw [e, e0]; rfl⟩⟩
    by_cases e : i = 0
    · exact e
    · rw [hne i e] at h; cases h
  · rcases hr i with e | e <;> (rw [e] at h; cases h)
  · rw [hh] at h; cases h
  · rw [hm] at h; cases h
  · rcases hr i with e | e
    · rw [e] at h; cases h
    · rw [e] at h; cases h; omega
  · refine ⟨fun e h => absurd h (hps e), fun e h => absurd h (hps e), fun e h => absurd h (hps e), fun e h => absurd h (hps e), fun A sp h => absurd h (hal _), fun _ => has, fun j p job h => absurd h (hwk j p job), fun k p c v b h => absurd h (hwk k p _), fun k k' p p' c v v' b b' h => absurd h (hwk k p _), fun j Q h => ?_, fun j j' Q Q' h => ?_, fun j Q h => ?_, fun c h => ?_, fun e h => absurd h (hps e), fun wa k h => ?_, fun A sp h => absurd h (hal _)⟩
    · rw [hq] at h; cases h
    · rw [hq] at h; cases h
    · rw [hq] at h; cases h
    · rw [hm] at h; cases h
    · rw [hm] at h; cases h
variable {Q : Value → World → Prop}
/-- THE RUN. -/
theorem pool_run [Inhabited Base] {W : World} {f : FuncId} {fnn : Func} {c : Code} {args : Array Value} (hB : Base.B = W.heap.size) (hi : Try.prog.inits.idxOf? f = none) (hf : Try.prog.funcs[f]? = some fnn) (hb : fnn.body = some c)
    (h : ∃ n, wpS (PX Q) 0 f c n (rootS (PX Q) fnn fun v L' => ∃ m, Boss L' m ∧ AllFin m ∧ ∀ w, L'.S w → Q v w) { tmps := args ++ Array.replicate (fnn.ntmps - args.size) undef, defers := [] } (startLo W)) :
    ∃ M last o w' t', runNT Try.prog (M + 1) (solo (G (Frame.enter Try.prog f args .normal) []) W) #[] = (.ended o w', t') ∧ runN Try.prog M (solo (G (Frame.enter Try.prog f args .normal) []) W) = .next last ∧ step Try.prog last = .ended o w' ∧ Good Try.prog (fun v w => Q v w ∧ Aged W w) last o w' t' := by
  obtain ⟨n, h⟩ := h
  have hs : (PX Q).safe 0 (n + 2) (G (Frame.enter Try.prog f args .normal) []) (startLo W) := safe_root (X := PX Q) hi hf hb h
  have hs := safe_in hs (nl_of (L := startLo W) (r := .main noMain) rfl fun wa zs f => by simp)
  have hI := start_inv (ap := (PX Q).ap) hB
  have e0 : upd (fun _ => Lo.nil) 0 (startLo W) 0 = startLo W := upd_same _ _ _
  have hM : MInv Try.prog (PX Q).ap (SelHere Try.prog) 2000 10000 Q W (4 * (n + 2) + 3) (solo (G (Frame.enter Try.prog f args .normal) []) W) #[] := by
    have hone : ∀ (i : Nat) (g : Goroutine), (#[G (Frame.enter Try.prog f args .normal) []] : Array Goroutine)[i]? = some g → i = 0 ∧ g = G (Frame.enter Try.prog f args .normal) [] := fun i g hg => by
      have hi0 : i = 0 := by have := (Array.getElem?_eq_some_iff.1 hg).1; simp at this; exact this
      subst hi0
      simp at hg
      exact ⟨rfl, hg.symm⟩
    have hoff : ∀ c b, offersAt (G (Frame.enter Try.prog f args .normal) []) c b = [] := fun c b => offersAt_of_not_blocked (by simp [G]) _ _
    refine ⟨upd (fun _ => Lo.nil) 0 (startLo W), #[G (Frame.enter Try.prog f args .normal) []], W, none, fun _ => 4 * (n + 2) + 3, rfl, hI, fun i g hg => ?_, fun c j k gj gk hj hk h1 => ?_, fun c j gj hj h1 => ?_, fun g wa hg hst => ?_, Aged.refl W, ?_⟩
    · obtain ⟨rfl, rfl⟩ := hone i g hg
      rw [e0]
      exact .run rfl hs
    · obtain ⟨rfl, rfl⟩ := hone j gj hj
      exact absurd (hoff _ _) h1
    · obtain ⟨rfl, rfl⟩ := hone j gj hj
      exact absurd (hoff _ _) h1
    · obtain ⟨_, rfl⟩ := hone _ g hg
      cases hst
    · simp [sumTo]
  exact run_of_inv (r := fun a b : Nat => a < b) Nat.lt_wfRel.wf (fun μ m t => MInv Try.prog (PX Q).ap (SelHere Try.prog) 2000 10000 Q W μ m t) (fun m o w t => Good Try.prog (fun v w => Q v w ∧ Aged W w) m o w t) (fun μ m t hM => machine_step (fun p i g L h1 h2 => px_rest h1 h2) W μ m t hM) _ _ _ hM
end Go.Proofs.Ytaceedenkmccdaa
