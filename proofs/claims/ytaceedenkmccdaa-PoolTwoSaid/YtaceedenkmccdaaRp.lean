/- Pools: the walk: regions that draw their order, and whose operations yield the same in whatever order. -/
import Derived.Test.YtaceedenkmccdaaRo
namespace Go.Proofs.Ytaceedenkmccdaa
open Go Go.Conc Go.ConcN
set_option linter.unusedSimpArgs false
set_option linter.unusedVariables false
/-- What the slots hold, of those operations that have come up. -/
structure Fill (ops : Array Oper) (v : Nat → Value) (a0 : Act) (done : Array Bool) (a : Act) : Prop where
  defers : a.defers = a0.defers
  size : a.tmps.size = a0.tmps.size
  yes : ∀ k o s, ops[k]? = some o → o.dst = some s → done.getD k false = true → a.tmps[s]? = some (v k)
  no : ∀ s, (∀ k o, ops[k]? = some o → o.dst = some s → done.getD k false = false) → a.tmps[s]? = a0.tmps[s]?
/-- All have come up. -/
def puts (ops : Array Oper) (v : Nat → Value) (a0 : Act) : Nat → Act
  | 0 => a0
  | n + 1 => match ops[n]? with
    | some o => (puts ops v a0 n).put o.dst (v n)
    | none => puts ops v a0 n
/-- All come up, whatever the order: a few sweeps mark every operation. -/
def sweep (md : Region.Mode) (ops : Array Oper) (m : List Bool) : List Bool :=
  (List.range ops.size).foldl (fun m j => m.set j (match ops[j]? with | some o => o.after.all fun e => !Region.binds md e || m.getD e.on false | none => false)) m
def comesUp (md : Region.Mode) (ops : Array Oper) : Bool :=
  (List.range ops.size).all fun j => (sweep md ops (sweep md ops (sweep md ops (List.replicate ops.size false)))).getD j false
def regionOk (ops : Array Oper) (sz : Nat) : Bool :=
  comesUp .text ops && comesUp .gc ops && comesUp .any ops && (List.range ops.size).all fun j => match ops[j]? with
    | some o => match o.dst with
      | some s => decide (s < sz) && (List.range j).all fun k => (ops[k]?).bind (·.dst) != some s
      | none => true
    | none => true
section
variable {ops : Array Oper} {v : Nat → Value} {a0 a : Act} {done : Array Bool} {sz : Nat}
theorem region_dst (h : regionOk ops sz = true) {j : Nat} {o : Oper} (ho : ops[j]? = some o) : ∀ s, o.dst = some s → s < sz ∧ ∀ k o', k ≠ j → ops[k]? = some o' → o'.dst ≠ some s := by
  have one : ∀ {j : Nat} {o : Oper}, ops[j]? = some o → ∀ s, o.dst = some s → s < sz ∧ ∀ k, k < j → (ops[k]?).bind (·.dst) ≠ some s := fun {j o} ho s hs => by
    have hlt : j < ops.size := (Array.getElem?_eq_some_iff.1 ho).1
    unfold regionOk at h
    rw [Bool.and_eq_true, List.all_eq_true] at h
    have h2 := h.2 j (List.mem_range.2 hlt)
    simp only [ho, hs] at h2
    simp only [Bool.and_eq_true, decide_eq_true_eq, List.all_eq_true, List.mem_range, bne_iff_ne, ne_eq] at h2
    exact ⟨h2.1, fun k hk => h2.2 k hk⟩
  refine fun s hs => ⟨(one ho s hs).1, fun k o' hk ho' hs' => ?_⟩
  rcases Nat.lt_or_gt_of_ne hk with x | x
  · exact (one ho s hs).2 k x (by rw [ho']; exact hs')
  · exact (one ho' s hs').2 j x (by rw [ho]; exact hs)
theorem getD_setL (m : List Bool) (j k : Nat) (b : Bool) : (m.set j b).getD k false = true → m.getD k false = true ∨ (k = j ∧ b = true) := by
  intro h
  rw [List.getD_eq_getElem?_getD, List.getElem?_set] at h
  by_cases e : j = k
  · subst e
    rw [if_pos rfl] at h
    by_cases hl : j < m.length
    · rw [if_pos hl] at h; exact .inr ⟨rfl, by simpa using h⟩
    · rw [if_neg hl] at h; simp at h
  · rw [if_neg e] at h
    exact .inl (by rw [List.getD_eq_getElem?_getD]; exact h)
theorem sweep_done [Inhabited Base] {md : Region.Mode} (hs : done.size = ops.size) (hr : Region.ready md ops done = []) (m : List Bool) (hm : ∀ j, m.getD j false = true → done.getD j false = true) : ∀ j, (sweep md ops m).getD j false = true → done.getD j false = true := by
  unfold sweep
  generalize List.range ops.size = l
  induction l generalizing m with
  | nil => exact hm
  | cons j l ih =>
    rw [List.foldl_cons]
    refine ih _ fun k hk => ?_
    rcases getD_setL _ _ _ _ hk with h | ⟨rfl, h⟩
    · exact hm k h
    · cases ho : ops[k]? with
      | none => rw [ho] at h; cases h
      | some o =>
        rw [ho] at h
        simp only [Array.all_eq_true_iff_forall_mem, Bool.or_eq_true, Bool.not_eq_true'] at h
        apply Classical.byContradiction
        intro hne
        have hlt : k < ops.size := (Array.getElem?_eq_some_iff.1 ho).1
        have : k ∈ Region.ready md ops done := by
          rw [mem_ready]
          refine ⟨?_, o, ho, fun e he hb => ?_⟩
          · have hks : k < done.size := by omega
            simp [hks] at hne ⊢
            exact hne
          · rcases h e he with x | x
            · rw [hb] at x; cases x
            · exact hm _ x
        rw [hr] at this
        cases this
theorem all_done [Inhabited Base] {md : Region.Mode} (h : regionOk ops sz = true) (hs : done.size = ops.size) (hr : Region.ready md ops done = []) : ∀ k, k < ops.size → done.getD k false = true := fun k hk => by
  have hc : comesUp md ops = true := by
    unfold regionOk at h
    simp only [Bool.and_eq_true] at h
    cases md
    · exact h.1.1.1
    · exact h.1.1.2
    · exact h.1.2
  unfold comesUp at hc
  have := List.all_eq_true.1 hc k (List.mem_range.2 hk)
  refine sweep_done hs hr _ (sweep_done hs hr _ (sweep_done hs hr _ fun j hj => ?_)) k this
  rw [List.getD_eq_getElem?_getD, List.getElem?_replicate] at hj
  split at hj <;> simp at hj
theorem put_tmps (a : Act) (d : Option Tmp) (u : Value) (s : Nat) : (a.put d u).tmps[s]? = if d = some s then (if s < a.tmps.size then some u else none) else a.tmps[s]? := by
  cases d with
  | none => simp [Act.put]
  | some d =>
    by_cases e : d = s
    · subst e
      simp [Act.put, Array.getElem?_setIfInBounds]
    · simp [Act.put, Array.getElem?_setIfInBounds, e]
theorem put_size (a : Act) (d : Option Tmp) (u : Value) : (a.put d u).tmps.size = a.tmps.size := by cases d <;> simp [Act.put]
theorem put_defers (a : Act) (d : Option Tmp) (u : Value) : (a.put d u).defers = a.defers := by cases d <;> rfl
theorem rep_false (n k : Nat) : (Array.replicate n false).getD k false = false := by
  rw [Array.getD_eq_getD_getElem?, Array.getElem?_replicate]
  split <;> rfl
theorem Fill.init : Fill ops v a0 (Array.replicate ops.size false) a0 := ⟨rfl, rfl, fun k o s ho _ h => by
  have hlt : k < ops.size := (Array.getElem?_eq_some_iff.1 ho).1
  simp [hlt] at h, fun _ _ => rfl⟩
theorem done_set [Inhabited Base] {j k : Nat} (hj : j < done.size) : (done.setIfInBounds j true).getD k false = if k = j then true else done.getD k false := by
  have := congrFun (getD_set done hj) k
  rw [this]
  by_cases e : k = j
  · rw [if_pos e, e, upd_same]
  · rw [if_neg e, upd_ne _ _ e]
theorem Fill.step [Inhabited Base] (h : Fill ops v a0 done a) (hok : regionOk ops a0.tmps.size = true) (hs : done.size = ops.size) {j : Nat} {o : Oper} (ho : ops[j]? = some o) : Fill ops v a0 (done.setIfInBounds j true) (a.put o.dst (v j)) := by
  have hlt : j < done.size := by rw [hs]; exact (Array.getElem?_eq_some_iff.1 ho).1
  refine ⟨by rw [put_defers]; exact h.defers, by rw [put_size]; exact h.size, fun k o' s ho' hd hk => ?_, fun s hno => ?_⟩
  · rw [put_tmps]
    by_cases e : k = j
    · subst e
      rw [ho] at ho'; cases ho'
      rw [if_pos hd, if_pos (by rw [h.size]; exact ((region_dst hok ho) s hd).1)]
    · rw [if_neg fun x => ((region_dst hok ho) s x).2 k o' e ho' hd]
      rw [done_set hlt, if_neg e] at hk
      exact h.yes k o' s ho' hd hk
  · have hne : o.dst ≠ some s := fun x => by
      have := hno j o ho x
      rw [done_set hlt, if_pos rfl] at this; cases this
    rw [put_tmps, if_neg hne]
    refine h.no s fun k o' ho' hd => ?_
    have := hno k o' ho' hd
    rw [done_set hlt] at this
    by_cases e : k = j
    · rw [if_pos e] at this; cases this
    · rw [if_neg e] at this; exact this
theorem puts_fill [Inhabited Base] (hok : regionOk ops a0.tmps.size = true) : ∀ n, n ≤ ops.size → ∃ done : Array Bool, done.size = ops.size ∧ (∀ k, done.getD k false = decide (k < n)) ∧ Fill ops v a0 done (puts ops v a0 n) := by
  intro n
  induction n with
  | zero => exact fun _ => ⟨Array.replicate ops.size false, by simp, fun k => by rw [rep_false]; simp, Fill.init⟩
  | succ n ih =>
    intro hn
    obtain ⟨done, h1, h2, h3⟩ := ih (by omega)
    have ho : ops[n]? = some ops[n] := Array.getElem?_eq_getElem (by omega)
    refine ⟨done.setIfInBounds n true, by simpa using h1, fun k => ?_, ?_⟩
    · rw [done_set (by omega), h2]
      by_cases e : k = n
      · rw [if_pos e]; simp [e]
      · rw [if_neg e]
        simp only [decide_eq_decide]
        omega
    · unfold puts
      rw [ho]
      exact h3.step hok h1 ho
theorem Fill.eq [Inhabited Base] (h : Fill ops v a0 done a) (hok : regionOk ops a0.tmps.size = true) (hall : ∀ k, k < ops.size → done.getD k false = true) : a = puts ops v a0 ops.size := by
  obtain ⟨d2, h1, h2, h3⟩ := puts_fill (v := v) hok ops.size (Nat.le_refl _)
  have ht : a.tmps = (puts ops v a0 ops.size).tmps := by
    apply Array.ext_getElem?
    intro s
    by_cases hex : ∃ (k : Nat) (o : Oper), ops[k]? = some o ∧ o.dst = some s
    · obtain ⟨k, o, ho, hd⟩ := hex
      have hlt : k < ops.size := (Array.getElem?_eq_some_iff.1 ho).1
      rw [h.yes k o s ho hd (hall k hlt), h3.yes k o s ho hd (by rw [h2]; simpa using hlt)]
    · rw [h.no s (fun k o ho hd => absurd ⟨k, o, ho, hd⟩ hex), h3.no s (fun k o ho hd => absurd ⟨k, o, ho, hd⟩ hex)]
  have hd : a.defers = (puts ops v a0 ops.size).defers := h.defers.trans h3.defers.symm
  cases a; cases hp : puts ops v a0 ops.size
  rw [hp] at ht hd
  simp only at ht hd
  rw [ht, hd]
theorem Fill.at (h : Fill ops v a0 done a) {k : Nat} {o : Oper} {s : Nat} {u : Value} (hu : v k = u) (ho : ops[k]? = some o) (hd : o.dst = some s) (hk : done.getD k false = true) : a.tmps[s]? = some u := by rw [← hu]; exact h.yes k o s ho hd hk
theorem Fill.base (h : Fill ops v a0 done a) {s : Nat} {u : Value} (hno : (ops.toList.all fun (o : Oper) => o.dst != some s) = true) (hu : a0.tmps[s]? = some u) : a.tmps[s]? = some u := by
  rw [← hu]
  refine h.no s fun k o ho hd => ?_
  have := List.all_eq_true.1 hno o (by
      have := Array.mem_of_getElem? ho
      exact Array.mem_toList_iff.2 this)
  rw [hd] at this
  simp at this
end
section
variable {X : Cx} {i : Nat} {fn : FuncId} {Q' : Exit → Act → Lo → Prop} {a : Act} {L L' : Lo} {w w' : World}
variable {ops : Array Oper} {j : Nat} {o : Oper} {C : Nat} {K : Act → Lo → Prop}
theorem opS_pure [Inhabited Base] (u : Value) (ho : ops[j]? = some o) (hw : Region.wanted o (yielded ops a.tmps) = true) (hr : ∀ w, (execOp a.eval o).run X.P w = .ok (.value u) w) (he : ∀ w, (execOp a.eval o).events X.P w #[] = #[]) (hK : K (a.put o.dst u) L) (hC : 1 ≤ C) : OpS X i fn ops j C K a L :=
  fun rest n Q' h => opsS_more (opsS_pure u ho hw hr he (h _ _ hK)) (by omega)
theorem opS_read [Inhabited Base] (u : Value) (ho : ops[j]? = some o) (hw : Region.wanted o (yielded ops a.tmps) = true) (hlv : Live L) (hv : ∀ ad, L.V ad → L.M ad) (hr : ∀ w, L.S w → (execOp a.eval o).run X.P w = .ok (.value u) w) (he : ∀ w, L.S w → ∀ e ∈ listed X.P fn a o w, EvLoc L e) (hK : K (a.put o.dst u) L) (hC : 1 ≤ C) : OpS X i fn ops j C K a L :=
  fun rest n Q' h => opsS_more (opsS_read u ho hw hlv hv hr he (h _ _ hK)) (by omega)
theorem opS_call [Inhabited Base] {nf : Nat} {f : FuncId} {fnn : Func} {c : Code} {args : Array Operand} {ats : Array TypeId} {Post : Value → Lo → Prop} (ho : ops[j]? = some o) (hw : Region.wanted o (yielded ops a.tmps) = true)
    (hop : o.op = .call { callee := .value (.func f), args := args, argTypes := ats }) (hf : X.P.funcs[f]? = some fnn) (hname : (fnn.name == "runtime.NumGoroutine") = false) (hb : fnn.body = some c)
    (hcall : CallsS X i f (args.map a.eval) nf L Post) (hnext : ∀ v L', Post v L' → K (a.put o.dst v) L') (hC : nf + 1 ≤ C) : OpS X i fn ops j C K a L :=
  fun rest n Q' h => opsS_more (opsS_call (k := n) ho hw hop hf hname hb hcall fun v L' hv => h _ _ (hnext v L' hv)) (by omega)
theorem opS_enter [Inhabited Base] {nf : Nat} {f : FuncId} {args : Array Value} {Post : Value → Lo → Prop} (ho : ops[j]? = some o) (hw : Region.wanted o (yielded ops a.tmps) = true) (hr : ∀ w, (execOp a.eval o).run X.P w = .ok (.enter f args) w) (he : ∀ w, (execOp a.eval o).events X.P w #[] = #[])
    (hcall : CallsS X i f args nf L Post) (hnext : ∀ v L', Post v L' → K (a.put o.dst v) L') (hC : nf + 1 ≤ C) : OpS X i fn ops j C K a L :=
  fun rest n Q' h => opsS_more (opsS_enter (k := n) ho hw hr he hcall fun v L' hv => h _ _ (hnext v L' hv)) (by omega)
theorem opS_entry [Inhabited Base] {f : FuncId} {fnn : Func} {args : Array Operand} {ats : Array TypeId} {e : Array Value → Sem Value} {Post : Value → Lo → Prop} (ho : ops[j]? = some o) (hw : Region.wanted o (yielded ops a.tmps) = true)
    (hop : o.op = .call { callee := .value (.func f), args := args, argTypes := ats }) (hf : X.P.funcs[f]? = some fnn) (hname : (fnn.name == "runtime.NumGoroutine") = false) (hb : fnn.body.isNone = true) (hn : Extern.findNext fnn = none) (he : Extern.find fnn = some e)
    (hm : Move X i L (e (args.map a.eval)) Post) (hnext : ∀ v L', Post v L' → K (a.put o.dst v) L') (hC : 1 ≤ C) : OpS X i fn ops j C K a L :=
  fun rest n Q' h => opsS_more (opsS_entry (k := n) ho hw hop hf hname hb hn he hm fun v L' hv => h _ _ (hnext v L' hv)) (by omega)
def hard (e : Edge) : Bool := match e.ground with | .textOnly _ => false | .gcOnly _ => false | _ => true
theorem wpS_fill [Inhabited Base] {id : Nat} (v : Nat → Value) (St : Array Bool → Lo → Prop) (C : Nat) (hok : regionOk ops a.tmps.size = true) (hnl : ¬ Lefty L) (h0 : St (Array.replicate ops.size false) L)
    (step : ∀ done j o a' L', done.size = ops.size → ops[j]? = some o → done.getD j false = false → (∀ e ∈ o.after, hard e = true → done.getD e.on false = true) → Fill ops v a done a' → St done L' →
      OpS X i fn ops j C (fun a'' L'' => a'' = a'.put o.dst (v j) ∧ St (done.setIfInBounds j true) L'') a' L')
    (fin : ∀ done a' L', done.size = ops.size → (∀ k, k < ops.size → done.getD k false = true) → Fill ops v a done a' → a' = puts ops v a ops.size → St done L' → Q' .normal a' L') : wpS X i fn (.region id ops true) (ops.size * C + 2) Q' a L := by
  refine wpS_region_draw (n := ops.size * C + 1) (fun t => ?_) hnl
  have main : ∀ md t, OpsS X i fn ops (Region.linearise md ops t) (ops.size * C + 1) Q' a L := fun md t => by
    refine opsS_any (md := md) (fun done a' L' => Fill ops v a done a' ∧ St done L') C (fun done j a' L' hs hj hJ => ?_) (fun done a' L' hs hr hJ => ?_) ops.size t (Array.replicate ops.size false) a L (by simp) ?_ ⟨Fill.init, h0⟩
    · obtain ⟨h1, o, ho, h2⟩ := mem_ready.1 hj
      have hlt : j < done.size := by rw [hs]; exact (Array.getElem?_eq_some_iff.1 ho).1
      have := step done j o a' L' hs ho (getD_ff hlt h1) (fun e he hh => h2 e he (by unfold hard at hh; unfold Region.binds; split at hh <;> simp_all)) hJ.1 hJ.2
      intro rest n Q2 hn
      exact this rest n Q2 fun a2 L2 ⟨e, hst⟩ => hn a2 L2 ⟨by rw [e]; exact hJ.1.step hok hs ho, hst⟩
    · have hall := all_done hok hs hr
      exact fin done a' L' hs hall hJ.1 (hJ.1.eq hok hall) hJ.2
    · rw [cnt_none fun x hx => rep_false _ _]; omega
  unfold Region.schedule
  split
  · exact main _ _
  · exact main _ _
end
end Go.Proofs.Ytaceedenkmccdaa
