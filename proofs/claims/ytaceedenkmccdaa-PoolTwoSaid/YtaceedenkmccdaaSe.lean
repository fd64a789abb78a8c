/- Pools: main: what it has; regions that draw their order and make things. -/
import Derived.Test.YtaceedenkmccdaaSd
namespace Go.Proofs.Ytaceedenkmccdaa
open Go Go.Conc Go.ConcN
set_option linter.unusedSimpArgs false
set_option linter.unusedVariables false
variable {X : Cx} {i : Nat} {L L' : Lo} {Post : Value → Lo → Prop}
set_option maxRecDepth 100000
set_option maxHeartbeats 4000000
section
variable {ops : Array Oper} {v : Nat → Value} {a0 a : Act} {done : Array Bool} {sz : Nat}
theorem Fill.stepE [Inhabited Base] (h : Fill ops v a0 done a) (hok : regionOk ops a0.tmps.size = true) (hs : done.size = ops.size) {j : Nat} {o : Oper} (ho : ops[j]? = some o) (hj : done.getD j false = false) (u : Value) : Fill ops (upd v j u) a0 (done.setIfInBounds j true) (a.put o.dst u) := by
  have h' : Fill ops (upd v j u) a0 done a := ⟨h.defers, h.size, fun k o' s ho' hd hk => by
    have hkj : k ≠ j := fun e => by rw [e, hj] at hk; cases hk
    rw [upd_ne _ _ hkj]; exact h.yes k o' s ho' hd hk, h.no⟩
  have := h'.step hok hs ho
  rwa [upd_same] at this
variable {fn : FuncId} {Q' : Exit → Act → Lo → Prop}
/-- .. and what they yield is found as they come up. -/
theorem wpS_fillE [Inhabited Base] {id : Nat} (St : (Nat → Value) → Array Bool → Lo → Prop) (C : Nat) (hok : regionOk ops a.tmps.size = true) (hnl : ¬ Lefty L) (v0 : Nat → Value) (h0 : St v0 (Array.replicate ops.size false) L)
    (step : ∀ v done j o a' L', done.size = ops.size → ops[j]? = some o → done.getD j false = false → (∀ e ∈ o.after, hard e = true → done.getD e.on false = true) → Fill ops v a done a' → St v done L' →
      OpS X i fn ops j C (fun a'' L'' => ∃ u, a'' = a'.put o.dst u ∧ St (upd v j u) (done.setIfInBounds j true) L'') a' L')
    (fin : ∀ v done a' L', done.size = ops.size → (∀ k, k < ops.size → done.getD k false = true) → Fill ops v a done a' → a' = puts ops v a ops.size → St v done L' → Q' .normal a' L') : wpS X i fn (.region id ops true) (ops.size * C + 2) Q' a L := by
  refine wpS_region_draw (n := ops.size * C + 1) (fun t => ?_) hnl
  have main : ∀ md t, OpsS X i fn ops (Region.linearise md ops t) (ops.size * C + 1) Q' a L := fun md t => by
    refine opsS_any (md := md) (fun done a' L' => ∃ v, Fill ops v a done a' ∧ St v done L') C (fun done j a' L' hs hj hJ => ?_) (fun done a' L' hs hr hJ => ?_) ops.size t (Array.replicate ops.size false) a L (by simp) ?_ ⟨v0, Fill.init, h0⟩
    · obtain ⟨v, hJ1, hJ2⟩ := hJ
      obtain ⟨h1, o, ho, h2⟩ := mem_ready.1 hj
      have hlt : j < done.size := by rw [hs]; exact (Array.getElem?_eq_some_iff.1 ho).1
      have hj0 := getD_ff hlt h1
      have := step v done j o a' L' hs ho hj0 (fun e he hh => h2 e he (by unfold hard at hh; unfold Region.binds; split at hh <;> simp_all)) hJ1 hJ2
      intro rest n Q2 hn
      exact this rest n Q2 fun a2 L2 ⟨u, e, hst⟩ => hn a2 L2 ⟨_, by rw [e]; exact hJ1.stepE hok hs ho hj0 u, hst⟩
    · obtain ⟨v, hJ1, hJ2⟩ := hJ
      have hall := all_done hok hs hr
      exact fin v done a' L' hs hall hJ1 (hJ1.eq hok hall) hJ2
    · rw [cnt_none fun x hx => rep_false _ _]; omega
  unfold Region.schedule
  split
  · exact main _ _
  · exact main _ _
end
/-- What main sees and has, it sees and has yet. -/
structure Ext (L L' : Lo) : Prop where
  sees : ∀ {a v}, Sees L a v → Sees L' a v
  has : ∀ {a v}, Has L a v → Has L' a v
theorem Ext.refl (L : Lo) : Ext L L := ⟨fun h => h, fun h => h⟩
theorem Ext.trans {L L1 L2 : Lo} (h : Ext L L1) (g : Ext L1 L2) : Ext L L2 := ⟨fun x => g.sees (h.sees x), fun x => g.has (h.has x)⟩
theorem Grows.ext (h : Grows L L') : Ext L L' := ⟨h.sees, h.has⟩
theorem Ext.turn [Inhabited Base] (L : Lo) (r : Role) (q : Option QSt) : Ext L (L.turn r q) := ⟨fun h => h.turn r q, fun h => h.turn r q⟩
/-- Main, at nothing in particular. -/
structure Boss (L : Lo) (m : MainR) : Prop where
  role : L.role = .main m
  q : L.q = none
  h : L.h = .alive
  d : L.d = 0
  vm : ∀ a, L.V a → L.M a
  reg : m.reg = none
  pnd : m.pnd = none
  al : m.al = none
  dn : m.dn = none
  nw : m.nw = []
  clb : ∀ b, m.cl b = true → ∃ e ∈ m.ps, e.b = b
theorem Boss.fit {m : MainR} (h : Boss L m) : Fit L := ⟨⟨h.h, fun wa zs f s e => by rw [h.role] at e; cases e⟩, h.vm⟩
/-- A pool, as main has it. -/
structure PoolAt (L : Lo) (m : MainR) (p : PoolG) : Prop where
  mem : p ∈ m.ps
  rd : m.rd p.b = true
  ci : Sees L ⟨p.b, 1, none⟩ (.chan (some p.ci))
  ce : Sees L ⟨p.b, 2, none⟩ (.chan (some p.ce))
  once : Has L ⟨p.b, 5, none⟩ (.int .u32 (if m.cl p.b then 1 else 0))
  mu : Has L ⟨p.b, 6, none⟩ (.int .i32 0)
end Go.Proofs.Ytaceedenkmccdaa
