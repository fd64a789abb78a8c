/- Pools: every step of the machine keeps it. -/
import Derived.Test.YtaceedenkmccdaaKPa
import Derived.Conc.CompanyWords
import Derived.Conc.DeferLaws
import Derived.Conc.QuitsD
/- Pools: the machine's communications. -/
namespace Go.Proofs.Ytaceedenkmccdaa
open Go Go.Conc Go.ConcN
set_option linter.unusedSimpArgs false
set_option linter.unusedVariables false
section
variable {P : Program} {ap : Nat → Int → Int} {SelAt : PoolG → Nat → Goroutine → Lo → Prop} {CI CW : Nat} {Q : Value → World → Prop}
variable {Γ Γ' : Nat → Lo} {gs gs' : Array Goroutine} {w w' : World} {sl : Option (Nat × Nat)} {wt : Nat → Nat} {t t' : Trace}
theorem sum_upd_lt {n i : Nat} {f : Nat → Nat} {m : Nat} (hi : i < n) (hm : m < f i) : sumTo n (upd f i m) < sumTo n f := by
  have := sumTo_upd f m (fun x => x) hi
  have e1 : sumTo n (upd f i m) = sumTo n (fun a => upd f i m a) := rfl
  have e2 : sumTo n f = sumTo n (fun a => f a) := rfl
  omega
/-- One record is laid anew. -/
theorem mi_put [Inhabited Base] (hS : ∀ (j : Nat) (g : Goroutine), gs[j]? = some g → Sit P ap SelAt CI CW Q (Γ 0).role.m.cl j g (Γ j) (wt j))
    (hN : ∀ (c j k : Nat) (gj gk : Goroutine), gs[j]? = some gj → gs[k]? = some gk → offersAt gj c true ≠ [] → offersAt gk c false ≠ [] → False)
    (hB : ∀ (c j : Nat) (gj : Goroutine), gs[j]? = some gj → offersAt gj c false ≠ [] → ∀ v s r, ¬ IsCh w c 1 #[v] false s r)
    (hU : ∀ (g : Goroutine) (wa : Addr), gs[0]? = some g → g.status = .blocked → g.offers = none → (Γ 0).role.m.reg = some wa → CellI w (sem wa) .u32 0)
    (hcell : ∀ a, w'.cell? a = w.cell? a ∧ w'.frozen? a = w.frozen? a) {i : Nat} (hos : Aged w w') (hf : ∀ (c : Nat) (v : Value) (s r : Nat), IsCh w' c 1 #[v] false s r → IsCh w c 1 #[v] false s r ∨ ∀ (j : Nat) (gj : Goroutine), j ≠ i → gs[j]? = some gj → offersAt gj c false = []) {g g' : Goroutine} {m : Nat} (hfo : ∀ c, offersAt g' c false ≠ [] → ∀ v s r, ¬ IsCh w' c 1 #[v] false s r) (hi : gs[i]? = some g) (hI : Inv ap gs.size Γ' w' t') (hO : ∀ j, j ≠ i → Γ' j = Γ j) (hcl : (Γ' 0).role.m.cl = (Γ 0).role.m.cl ∧ (Γ' 0).role.m.reg = (Γ 0).role.m.reg) (hbo : g'.status = .blocked → g'.offers ≠ none) (hs : Sit P ap SelAt CI CW Q (Γ 0).role.m.cl i g' (Γ' i) m) (hm : m < wt i)
    (hoff : ∀ c, (offersAt g' c true ≠ [] → ∀ k gk, k ≠ i → gs[k]? = some gk → offersAt gk c false = []) ∧ (offersAt g' c false ≠ [] → ∀ k gk, k ≠ i → gs[k]? = some gk → offersAt gk c true = []) ∧ (offersAt g' c true ≠ [] → offersAt g' c false = [])) :
    ∃ μ', μ' < sumTo gs.size wt ∧ MInv P ap SelAt CI CW Q w μ' (crowd (gs.setIfInBounds i g') w' sl) t' := by
  obtain ⟨hlt, _⟩ := Array.getElem?_eq_some_iff.1 hi
  have hget : ∀ j : Nat, (gs.setIfInBounds i g')[j]? = if j = i then some g' else gs[j]? := fun j => by
    by_cases e : j = i
    · subst e; rw [if_pos rfl, Array.getElem?_setIfInBounds_self_of_lt hlt]
    · rw [if_neg e, Array.getElem?_setIfInBounds_ne (Ne.symm e)]
  have hsz : (gs.setIfInBounds i g').size = gs.size := by simp
  refine ⟨sumTo gs.size (upd wt i m), sum_upd_lt hlt hm, ⟨Γ', _, w', sl, upd wt i m, rfl, by rw [hsz]; exact hI, fun j gj hj => ?_, fun c j k gj gk hj hk h1 h2 => ?_, fun c j gj hj h1 v s r hc => ?_, fun g1 wa hg1 hb ho hreg => ?_, hos, by rw [hsz]⟩⟩
  · rw [hget] at hj
    rw [hcl.1]
    by_cases e : j = i
    · subst e
      rw [if_pos rfl] at hj
      cases hj
      rw [upd_same]; exact hs
    · rw [if_neg e] at hj
      rw [upd_ne _ _ e, hO j e]; exact hS j gj hj
  · rw [hget] at hj hk
    by_cases e : j = i <;> by_cases e' : k = i
    · rw [if_pos e] at hj; rw [if_pos e'] at hk
      cases hj; cases hk
      exact h2 ((hoff c).2.2 h1)
    · rw [if_pos e] at hj; rw [if_neg e'] at hk
      cases hj
      exact h2 ((hoff c).1 h1 k gk e' hk)
    · rw [if_neg e] at hj; rw [if_pos e'] at hk
      cases hk
      exact h1 ((hoff c).2.1 h2 j gj e hj)
    · rw [if_neg e] at hj; rw [if_neg e'] at hk
      exact hN c j k gj gk hj hk h1 h2
  · rw [hget] at hj
    by_cases e : j = i
    · rw [if_pos e] at hj; cases hj; exact hfo c h1 v s r hc
    · rw [if_neg e] at hj
      rcases hf c v s r hc with h2 | h2
      · exact hB c j gj hj h1 v s r h2
      · exact h1 (h2 j gj e hj)
  · rw [hget] at hg1
    rw [hcl.2] at hreg
    by_cases e : (0 : Nat) = i
    · rw [if_pos e] at hg1; cases hg1; exact absurd ho (hbo hb)
    · rw [if_neg e] at hg1
      exact (hU g1 wa hg1 hb ho hreg).keep (hcell _)
/-- Two records are laid anew. -/
theorem mi_two [Inhabited Base] (hS : ∀ (j : Nat) (g : Goroutine), gs[j]? = some g → Sit P ap SelAt CI CW Q (Γ 0).role.m.cl j g (Γ j) (wt j))
    (hN : ∀ (c j k : Nat) (gj gk : Goroutine), gs[j]? = some gj → gs[k]? = some gk → offersAt gj c true ≠ [] → offersAt gk c false ≠ [] → False)
    (hB : ∀ (c j : Nat) (gj : Goroutine), gs[j]? = some gj → offersAt gj c false ≠ [] → ∀ v s r, ¬ IsCh w c 1 #[v] false s r)
    (hU : ∀ (g : Goroutine) (wa : Addr), gs[0]? = some g → g.status = .blocked → g.offers = none → (Γ 0).role.m.reg = some wa → CellI w (sem wa) .u32 0)
    (hcell : ∀ a, w'.cell? a = w.cell? a ∧ w'.frozen? a = w.frozen? a) (hf : NoFill w w') {i j : Nat} {g g' gj gj' : Goroutine} {m mj : Nat} (hi : gs[i]? = some g) (hj : gs[j]? = some gj) (hij : j ≠ i) (hI : Inv ap gs.size Γ' w' t') (hO : ∀ k, k ≠ i → k ≠ j → Γ' k = Γ k) (hcl : (Γ' 0).role.m.cl = (Γ 0).role.m.cl ∧ (Γ' 0).role.m.reg = (Γ 0).role.m.reg)
    (hs : Sit P ap SelAt CI CW Q (Γ 0).role.m.cl i g' (Γ' i) m) (hsj : Sit P ap SelAt CI CW Q (Γ 0).role.m.cl j gj' (Γ' j) mj) (hm : m + mj < wt i + wt j) (h1 : g'.status = .running) (h2 : gj'.status = .running) :
    ∃ μ', μ' < sumTo gs.size wt ∧ MInv P ap SelAt CI CW Q w μ' (crowd ((gs.setIfInBounds j gj').setIfInBounds i g') w' sl) t' := by
  obtain ⟨hlt, _⟩ := Array.getElem?_eq_some_iff.1 hi
  obtain ⟨hltj, _⟩ := Array.getElem?_eq_some_iff.1 hj
  have hget : ∀ k : Nat, ((gs.setIfInBounds j gj').setIfInBounds i g')[k]? = if k = i then some g' else if k = j then some gj' else gs[k]? := fun k => by
    by_cases e : k = i
    · subst e; rw [if_pos rfl, Array.getElem?_setIfInBounds_self_of_lt (by simpa using hlt)]
    · rw [if_neg e, Array.getElem?_setIfInBounds_ne (Ne.symm e)]
      by_cases e' : k = j
      · subst e'; rw [if_pos rfl, Array.getElem?_setIfInBounds_self_of_lt hltj]
      · rw [if_neg e', Array.getElem?_setIfInBounds_ne (Ne.symm e')]
  have hsz : ((gs.setIfInBounds j gj').setIfInBounds i g').size = gs.size := by simp
  have o1 : ∀ c b, offersAt g' c b = [] := fun c b => offersAt_of_not_blocked (by rw [h1]; simp) _ _
  have o2 : ∀ c b, offersAt gj' c b = [] := fun c b => offersAt_of_not_blocked (by rw [h2]; simp) _ _
  have s1 := sumTo_upd wt m (fun x => x) hlt
  have s2 := sumTo_upd (upd wt i m) mj (fun x => x) hltj
  rw [upd_ne _ _ hij] at s2
  have old : ∀ (c k : Nat) (gk : Goroutine) (b : Bool), ((gs.setIfInBounds j gj').setIfInBounds i g')[k]? = some gk → offersAt gk c b ≠ [] → gs[k]? = some gk := fun c k gk b hk hne => by
    rw [hget] at hk
    by_cases e : k = i
    · rw [if_pos e] at hk; cases hk; exact absurd (o1 c b) hne
    · rw [if_neg e] at hk
      by_cases e' : k = j
      · rw [if_pos e'] at hk; cases hk; exact absurd (o2 c b) hne
      · rw [if_neg e'] at hk; exact hk
  refine ⟨sumTo gs.size (upd (upd wt i m) j mj), ?_, ⟨Γ', _, w', sl, upd (upd wt i m) j mj, rfl, by rw [hsz]; exact hI, fun k gk hk => ?_, fun c a b ga gb ha hb n1 n2 => ?_, fun c k gk hk n1 v s r hc => ?_, fun g1 wa hg1 hb ho hreg => ?_, hf.os, by rw [hsz]⟩⟩
  · have e1 : sumTo gs.size (upd wt i m) = sumTo gs.size (fun a => upd wt i m a) := rfl
    have e2 : sumTo gs.size wt = sumTo gs.size (fun a => wt a) := rfl
    have : sumTo gs.size (upd (upd wt i m) j mj) = sumTo gs.size (fun a => upd (upd wt i m) j mj a) := rfl
    omega
  · rw [hget] at hk
    rw [hcl.1]
    by_cases e : k = i
    · subst e
      rw [if_pos rfl] at hk; cases hk
      rw [upd_ne _ _ (Ne.symm hij), upd_same]; exact hs
    · rw [if_neg e] at hk
      by_cases e' : k = j
      · subst e'
        rw [if_pos rfl] at hk; cases hk
        rw [upd_same]; exact hsj
      · rw [if_neg e'] at hk
        rw [upd_ne _ _ e', upd_ne _ _ e, hO k e e']; exact hS k gk hk
  · exact hN c a b ga gb (old c a ga _ ha n1) (old c b gb _ hb n2) n1 n2
  · exact hB c k gk (old c k gk _ hk n1) n1 v s r (hf.fill c v s r hc)
  · rw [hget] at hg1
    rw [hcl.2] at hreg
    by_cases e : (0 : Nat) = i
    · rw [if_pos e] at hg1; cases hg1; rw [h1] at hb; cases hb
    · rw [if_neg e] at hg1
      by_cases e' : (0 : Nat) = j
      · rw [if_pos e'] at hg1; cases hg1; rw [h2] at hb; cases hb
      · rw [if_neg e'] at hg1
        exact (hU g1 wa hg1 hb ho hreg).keep (hcell _)
theorem mem_p {i c j kj : Nat} {b : Bool} (h : (j, kj) ∈ partners (gs.setIfInBounds i ph) c b) : j ≠ i ∧ ∃ g, gs[j]? = some g ∧ kj ∈ offersAt g c b := by
  obtain ⟨g, hg, hk⟩ := mem_partners.1 h
  rcases getElem?_stand gs i j g hg with ⟨_, rfl⟩ | ⟨e, hg'⟩
  · rw [offersAt_ph] at hk; cases hk
  · exact ⟨e, g, hg', hk⟩
theorem no_p {i c : Nat} {b : Bool} (h : ∀ (j : Nat) (g : Goroutine), j ≠ i → gs[j]? = some g → offersAt g c b = []) : partners (gs.setIfInBounds i ph) c b = [] := by
  refine partners_nil fun j g hg => ?_
  rcases getElem?_stand gs i j g hg with ⟨_, rfl⟩ | ⟨e, hg'⟩
  · exact offersAt_ph _ _
  · exact h j g e hg'
theorem ne_nil_mem {α : Type} {l : List α} (h : l ≠ []) : ∃ x, x ∈ l := by
  cases l with
  | nil => exact absurd rfl h
  | cons a l => exact ⟨a, List.mem_cons_self ..⟩
theorem nil_of_no {α : Type} {l : List α} (h : ∀ x, x ∉ l) : l = [] := by
  cases l with
  | nil => rfl
  | cons a l => exact absurd (List.mem_cons_self ..) (h a)
section
/-- Nobody sends on an end. -/
theorem no_send_end [Inhabited Base] (hR : ∀ p i g L, SelAt p i g L → idleL p i L → Rest P ap SelAt CI CW Q p i g L) (hS : ∀ (j : Nat) (g : Goroutine), gs[j]? = some g → Sit P ap SelAt CI CW Q (Γ 0).role.m.cl j g (Γ j) (wt j)) (hI : Inv ap gs.size Γ w t) {p : PoolG} (hp : p ∈ (Γ 0).role.m.ps) (j : Nat) (g : Goroutine) (hj : gs[j]? = some g) : offersAt g p.ce true = [] := nil_of_no fun kj hk => by
  obtain ⟨_, p', g₀, z, zq, cb, v, c0, c', e, _, _, _, _, hq, _⟩ := sit_sends hR (hS j g hj) hk
  obtain ⟨⟨hp', _⟩, _⟩ := hI.wld.q j _ hq
  exact hI.wld.chans p hp p' hp' e.symm
theorem no_send_back [Inhabited Base] (hR : ∀ p i g L, SelAt p i g L → idleL p i L → Rest P ap SelAt CI CW Q p i g L) (hS : ∀ (j : Nat) (g : Goroutine), gs[j]? = some g → Sit P ap SelAt CI CW Q (Γ 0).role.m.cl j g (Γ j) (wt j)) (hI : Inv ap gs.size Γ w t) {c : Nat} {buf : Array Value} {cl : Bool} {s r : Nat} (hc : IsCh w c 1 buf cl s r) (j : Nat) (g : Goroutine) (hj : gs[j]? = some g) : offersAt g c true = [] := nil_of_no fun kj hk => by
  obtain ⟨_, p', g₀, z, zq, cb, v, c0, c', e, _, _, _, _, hq, _⟩ := sit_sends hR (hS j g hj) hk
  obtain ⟨⟨hp', _⟩, _⟩ := hI.wld.q j _ hq
  obtain ⟨⟨s1, r1, tm1, e1⟩, _⟩ := hI.wld.pools p' hp'
  obtain ⟨tm, e2⟩ := hc
  subst e
  rw [e1] at e2; cases e2
end
theorem fill_at [Inhabited Base] (w : World) (d : Nat) : NoFill w (w.at d) := ⟨Aged.at w d, fun _ _ _ _ h => h⟩
theorem fill_or [Inhabited Base] {hf : NoFill w w'} {i : Nat} : ∀ (c : Nat) (v : Value) (s r : Nat), IsCh w' c 1 #[v] false s r → IsCh w c 1 #[v] false s r ∨ ∀ (j : Nat) (gj : Goroutine), j ≠ i → gs[j]? = some gj → offersAt gj c false = [] := fun c v s r h => .inl (hf.fill c v s r h)
theorem fill_set [Inhabited Base] {c cap s r s' r' d : Nat} {buf : Array Value} {cl : Bool} {tm : Bool} {cap0 : Nat} {buf0 : Array Value} {cl0 tm0 : Bool} (h0 : w.heap[c]? = some (.chan cap0 buf0 cl0 s r tm0)) (h : buf = #[]) (hcB : Base.B ≤ c) : NoFill w ((w.at d).setChan c cap buf cl s' r' tm) := .mk (Aged.but ⟨rfl, rfl, rfl⟩ hcB fun k hk => setCh_other (w.at d) hk) fun c' v s2 r2 ⟨tm2, e⟩ => by
  subst h
  by_cases ec : c' = c
  · subst ec
    rw [setCh_self (w.at d) (show (w.at d).heap[c']? = _ from h0)] at e
    cases e
  · rw [setCh_other (w.at d) ec] at e
    exact ⟨tm2, e⟩
theorem off_run [Inhabited Base] {g' : Goroutine} (h : g'.status = .running) : ∀ c, offersAt g' c false ≠ [] → ∀ v s r, ¬ IsCh w' c 1 #[v] false s r := fun c x => absurd (offersAt_of_not_blocked (by rw [h]; simp) _ _) x
theorem quiet4 {n B i j c s r cap : Nat} {fn fn' : FuncId} {pos pos' : String} (hi : i < n) (hj : j < n) (hc : c < B) {a b a' b' : Nat} (ha : a < n) (hb : b < n) (ha' : a' < n) (hb' : b' < n) {f1 f2 f3 f4 : FuncId} {p1 p2 p3 p4 : String} :
    Quiets n B #[{ g := a, fn := f1, pos := p1, act := .send c s }, { g := b, fn := f2, pos := p2, act := .recv c r cap }, { g := a', fn := f3, pos := p3, act := .sendDone c s }, { g := b', fn := f4, pos := p4, act := .recvDone c r }] := by
  intro op hop
  simp only [List.mem_toArray, List.mem_cons, List.not_mem_nil, or_false] at hop
  rcases hop with rfl | rfl | rfl | rfl <;> exact ⟨⟨by assumption, rfl, fun a e => (by cases e), hc⟩, fun g d => rfl⟩
theorem quiet_none (n B : Nat) : Quiets n B #[] := fun op hop => by simp at hop
theorem chan_low {w : World} {c : Nat} {o : Obj} (h : w.heap[c]? = some o) : c < w.heap.size := by
  rcases Nat.lt_or_ge c w.heap.size with h' | h'
  · exact h'
  · rw [Array.getElem?_eq_none h'] at h; cases h
theorem opsOf_nil (i : Nat) (g : Goroutine) : opsOf i g #[] = #[] := by simp [opsOf, ofEvents_eq]
theorem ofEvents_nil (i : Nat) (fn : FuncId) (pos : String) : MemOp.ofEvents i fn pos #[] = #[] := by simp [ofEvents_eq]
theorem status_finish (g : Goroutine) (cs : Array CommCase) (sh : CommShape) (k : Int) (v : Value) (ok : Bool) : (g.finishComm P cs sh k v ok).status = .running := rfl
/-- A worker at its select. -/
theorem shut_role [Inhabited Base] {Γ : Nat → Lo} {i ce : Nat} (j : Nat) : (upd Γ i ((Γ i).shut ce) j).role = (Γ j).role := by
  rcases upd_eq Γ i ((Γ i).shut ce) j with ⟨e, rfl⟩ | ⟨e, _⟩ <;> rw [e] <;> rfl
theorem step_sel [Inhabited Base] (hR : ∀ p i g L, SelAt p i g L → idleL p i L → Rest P ap SelAt CI CW Q p i g L) (hS : ∀ (j : Nat) (g : Goroutine), gs[j]? = some g → Sit P ap SelAt CI CW Q (Γ 0).role.m.cl j g (Γ j) (wt j)) (hI : Inv ap gs.size Γ w t)
    (hN : ∀ (c j k : Nat) (gj gk : Goroutine), gs[j]? = some gj → gs[k]? = some gk → offersAt gj c true ≠ [] → offersAt gk c false ≠ [] → False)
    (hB : ∀ (c j : Nat) (gj : Goroutine), gs[j]? = some gj → offersAt gj c false ≠ [] → ∀ v s r, ¬ IsCh w c 1 #[v] false s r)
    (hU : ∀ (g : Goroutine) (wa : Addr), gs[0]? = some g → g.status = .blocked → g.offers = none → (Γ 0).role.m.reg = some wa → CellI w (sem wa) .u32 0)
    {i : Nat} {g : Goroutine} {p : PoolG} {c : Nat} (hi : gs[i]? = some g) (hsel : SelAt p i g (Γ i)) (hc : CI ≤ c) (hid : idleL p i (Γ i)) (hw1 : 4 * c + 1 ≤ wt i) (hw3 : (Γ 0).role.m.cl p.b = false → 4 * c + 3 ≤ wt i) :
    ∃ m' ops μ', runT P (crowd gs w sl) i = (.next m', ops) ∧ μ' < sumTo gs.size wt ∧ MInv P ap SelAt CI CW Q w μ' m' (t ++ ops) := by
  obtain ⟨hlt, _⟩ := Array.getElem?_eq_some_iff.1 hi
  obtain ⟨hrun, g₀, z, zq, hst, hrecv, ⟨c', hc', hclosed⟩, hsel'⟩ := hR p i g _ hsel hid
  have hst := hst w (hI.know i)
  have hi0 : (i == 0) = false := by simpa using hid.2.2
  rw [← hi0] at hst
  obtain ⟨hp, _⟩ := hI.wld.work i p none hid.1
  obtain ⟨⟨s1, r1, tm1, e1⟩, ⟨s2, r2, tm2, e2⟩, _⟩ := hI.wld.pools p hp
  have hne : p.ci ≠ p.ce := fun e => hI.wld.chans p hp p hp e.symm
  have nse : partners (gs.setIfInBounds i ph) p.ce true = [] := no_p fun j g _ hj => no_send_end hR hS hI hp j g hj
  cases hcl : (Γ 0).role.m.cl p.b with
  | true =>
    rw [hcl] at e2
    have nsi : partners (gs.setIfInBounds i ph) p.ci true = [] := no_p fun j g _ hj => nil_of_no fun kj hk => by
      obtain ⟨_, p', g₁, z1, zq1, cb, v, c0, c1, e, _, _, _, _, hq, _⟩ := sit_sends hR (hS j g hj) hk
      obtain ⟨⟨hp', hcl', _⟩, _⟩ := hI.wld.q j _ hq
      have := hI.wld.same p' hp' p hp (.inr (.inr e))
      rw [this, hcl] at hcl'; cases hcl'
    have hrun := crowd_sel_recv_closed (sl := sl) hi hst (k := 1) (c := p.ce) (z := z) rfl (fun m cc hm hcc => by
      match m, hm, hcc with
      | 0, _, hcc =>
        simp at hcc
        subst hcc
        exact ways_recv_none e1 nsi
      | m + 2, _, hcc => simp at hcc) e2 nse
    rw [ofEvents_nil, Array.empty_append] at hrun
    obtain ⟨μ', h1, h2⟩ := mi_put (sl := sl) (Γ' := upd Γ i ((Γ i).shut p.ce)) hS hN hB hU (fun a => ⟨rfl, rfl⟩) (i := i) (Aged.at w w.drawn) (fill_or (hf := fill_at w w.drawn)) (g' := g₀.finishComm P #[rcase p.ci zq, rcase p.ce z] .select 1 z false) (m := 4 * c' + 3) (off_run rfl) hi
      (Inv.shut (hI.words (u := #[{ g := i, fn := g₀.frame.fn, pos := g₀.frame.place, act := .recvClosed p.ce }]) (fun op hop => by
        simp only [List.mem_toArray, List.mem_cons, List.not_mem_nil, or_false] at hop
        subst hop
        exact ⟨⟨hlt, rfl, fun a e => (by cases e), chan_low e2⟩, fun g d => rfl⟩) w.drawn) hlt ⟨_, _, _, _, _, e2⟩) (fun j hj => upd_ne _ _ hj) (by rw [shut_role]; exact ⟨rfl, rfl⟩) (fun h => by cases h) (.run rfl (by rw [upd_same]; exact hclosed)) (by omega) (fun c => ⟨fun h => absurd (offersAt_of_not_blocked (by rw [status_finish]; simp) _ _) h, fun h => absurd (offersAt_of_not_blocked (by rw [status_finish]; simp) _ _) h, fun h => absurd (offersAt_of_not_blocked (by rw [status_finish]; simp) _ _) h⟩)
    exact ⟨_, _, μ', hrun, h1, h2⟩
  | false =>
    rw [hcl] at e2
    have hw3 := hw3 hcl
    by_cases hpn : partners (gs.setIfInBounds i ph) p.ci true = []
    · have hrun := crowd_waits (sl := sl) hi hst (fun cc hcc => by
        simp at hcc
        rcases hcc with rfl | rfl
        · exact ways_recv_none e1 hpn
        · exact ways_recv_none e2 nse)
      rw [ofEvents_nil] at hrun
      have hsend : ∀ ch, offersAt (parked g₀ #[rcase p.ci zq, rcase p.ce z] .select) ch true = [] := fun ch => offersAt_parked_sends (fun cc hcc => by
          simp at hcc
          rcases hcc with rfl | rfl <;> rfl) ch
      have hrec : ∀ ch, offersAt (parked g₀ #[rcase p.ci zq, rcase p.ce z] .select) ch false ≠ [] → ∀ (k : Nat) (gk : Goroutine), k ≠ i → gs[k]? = some gk → offersAt gk ch true = [] := fun ch h k gk hk hgk => by
        by_cases ec : ch = p.ci
        · subst ec
          refine nil_of_no fun kj hkj => ?_
          have : (k, kj) ∈ partners (gs.setIfInBounds i ph) p.ci true := mem_partners.2 ⟨gk, by rw [Array.getElem?_setIfInBounds_ne (Ne.symm hk)]; exact hgk, hkj⟩
          rw [hpn] at this
          cases this
        · by_cases ec' : ch = p.ce
          · subst ec'
            exact no_send_end hR hS hI hp k gk hgk
          · exfalso
            apply h
            refine offersAt_parked_off (fun cc hcc => ?_) false
            simp at hcc
            rcases hcc with rfl | rfl
            · intro e; simp [rcase] at e; exact ec e.symm
            · intro e; simp [rcase] at e; exact ec' e.symm
      obtain ⟨μ', h1, h2⟩ := mi_put (sl := sl) hS hN hB hU (fun a => ⟨rfl, rfl⟩) (i := i) (Aged.at w w.drawn) (fill_or (hf := fill_at w w.drawn)) (g' := parked g₀ #[rcase p.ci zq, rcase p.ce z] .select) (m := 4 * c + 2) (fun ch h v s r hch => by
        by_cases ec : ch = p.ci
        · obtain ⟨_, ex⟩ := hch.obj ec; have ex2 : w.heap[p.ci]? = _ := ex; rw [e1] at ex2; cases ex2
        · by_cases ec' : ch = p.ce
          · obtain ⟨_, ex⟩ := hch.obj ec'; have ex2 : w.heap[p.ce]? = _ := ex; rw [e2] at ex2; cases ex2
          · apply h
            refine offersAt_parked_off (fun cc hcc => ?_) false
            simp at hcc
            rcases hcc with rfl | rfl
            · intro e; simp [rcase] at e; exact ec e.symm
            · intro e; simp [rcase] at e; exact ec' e.symm) hi (hI.words (quiet_none _ _) w.drawn) (fun j _ => rfl) ⟨rfl, rfl⟩ (fun _ h => by cases h) (.parkW hcl hc hid hrecv hsel') (by omega) (fun ch => ⟨fun h => absurd (hsend ch) h, hrec ch, fun h => absurd (hsend ch) h⟩)
      exact ⟨_, _, μ', hrun, h1, h2⟩
    · have hall : ∀ j kj, (j, kj) ∈ partners (gs.setIfInBounds i ph) p.ci true → j ≠ i ∧ ∃ gj csj shj vj zj, gs[j]? = some (parked gj csj shj) ∧ csj[kj]? = some (scase p.ci vj zj) := fun j kj hm => by
        obtain ⟨hji, gj, hgj, hk⟩ := mem_p hm
        obtain ⟨rfl, p', g₁, z1, zq1, cb, v, c0, c1, e, rfl, _⟩ := sit_sends hR (hS j gj hgj) hk
        exact ⟨hji, g₁, _, _, qval v cb, zq1, hgj, by rw [← e]; rfl⟩
      obtain ⟨j, kj, gj, csj, shj, vj, zj, d, hm, hji, hgj, hcase, hrun⟩ := sel_recv_some (sl := sl) hi hst (k := 0) (c := p.ci) (z := zq) rfl (fun m cc hm hcc => by
        match m, hm, hcc with
        | 1, _, hcc =>
          simp at hcc
          subst hcc
          exact ways_recv_none e2 nse
        | m + 2, _, hcc => simp at hcc) e1 hpn hall
      obtain ⟨_, gj', hgj', hk⟩ := mem_p hm
      rw [hgj] at hgj'
      cases hgj'
      obtain ⟨rfl, p', g₁, z1, zq1, cb, v, c0, c1, e, hpk, hwj, hnl, hcc, hq, hmay, hsafe⟩ := sit_sends hR (hS j _ hgj) hk
      obtain ⟨⟨hp', _⟩, _⟩ := hI.wld.q j _ hq
      obtain rfl : p' = p := hI.wld.same p' hp' p hp (.inr (.inr e))
      have e1' : gj.finishComm P csj shj 0 undef false = g₁.finishComm P #[scase p'.ci (qval v cb) zq1, rcase p'.ce z1] .select 0 undef false := by
        have := congrArg (fun x : Goroutine => x) hpk
        simp only [parked, Goroutine.mk.injEq, Option.some.injEq, Prod.mk.injEq] at hpk
        obtain ⟨a1, a2, _, a4, a5, a6⟩ := hpk
        subst a5 a6
        simp [Goroutine.finishComm, a1, a2, a4]
      have e2' : vj = qval v cb := by
        simp only [parked, Goroutine.mk.injEq, Option.some.injEq, Prod.mk.injEq] at hpk
        obtain ⟨_, _, _, _, a5, _⟩ := hpk
        rw [a5] at hcase
        simp [scase] at hcase
        exact hcase.1.symm
      obtain ⟨hltj, _⟩ := Array.getElem?_eq_some_iff.1 hgj
      rw [ofEvents_nil, Array.empty_append, show ((0 : Nat) : Int) = 0 from rfl, e1', e2'] at hrun
      have hmeet := hI.meet (i := j) (k := i) (d := d) (s := s1) (r := r1) (tm := tm1) hltj hlt hji hq hmay hid.1 hid.2.1 e1 (quiet4 (fn := 0) (fn' := 0) (pos := "") (pos' := "") (cap := 0) hlt hltj (chan_low e1) hltj hlt hltj hlt (f1 := gj.frame.fn) (f2 := g₀.frame.fn) (f3 := gj.frame.fn) (f4 := g₀.frame.fn) (p1 := gj.frame.place) (p2 := g₀.frame.place) (p3 := gj.frame.place) (p4 := g₀.frame.place) (s := s1) (r := r1))
      have gi := upd2_k (i := j) (k := i) Γ (sentL p' (Γ j)) ((Γ i).turn (.worker p' (some (cb, v, false))) none)
      have gj2 := upd2_i (i := j) (k := i) Γ (sentL p' (Γ j)) ((Γ i).turn (.worker p' (some (cb, v, false))) none) hji
      have hcl0 : (upd (upd Γ j (sentL p' (Γ j))) i ((Γ i).turn (.worker p' (some (cb, v, false))) none) 0).role.m.cl = (Γ 0).role.m.cl ∧ (upd (upd Γ j (sentL p' (Γ j))) i ((Γ i).turn (.worker p' (some (cb, v, false))) none) 0).role.m.reg = (Γ 0).role.m.reg := by
        rw [upd_ne _ _ (Ne.symm hid.2.2)]
        rcases upd_eq Γ j (sentL p' (Γ j)) 0 with ⟨e0, ej⟩ | ⟨e0, _⟩
        · rw [e0, ← ej]; exact ⟨((shape_sent p' (Γ 0).role).same).2.1, ((shape_sent p' (Γ 0).role).same).2.2.2.2.2.1⟩
        · rw [e0]; exact ⟨rfl, rfl⟩
      obtain ⟨μ', h1, h2⟩ := mi_two (sl := sl) hS hN hB hU (fun a => setCh_cell (w.at d) e1 a) (fill_set e1 rfl tm1.2) (i := i) (j := j) hi hgj hji hmeet (fun k h1 h2 => upd2_o Γ _ _ h2 h1) hcl0 (m := 4 * CW + 3) (mj := 4 * c1 + 3) (g' := g₀.finishComm P #[rcase p'.ci zq, rcase p'.ce z] .select 0 (qval v cb) true)
        (gj' := g₁.finishComm P #[scase p'.ci (qval v cb) zq1, rcase p'.ce z1] .select 0 undef false) (by rw [gi]; exact .run rfl (hrecv v cb)) (by rw [gj2]; exact .run rfl hsafe) (by rw [hwj]; omega) rfl rfl
      exact ⟨_, _, μ', hrun, h1, h2⟩
end
end Go.Proofs.Ytaceedenkmccdaa
/- Pools: the machine's communications: asking, answering, fetching, looking. -/
namespace Go.Proofs.Ytaceedenkmccdaa
open Go Go.Conc Go.ConcN
set_option linter.unusedSimpArgs false
set_option linter.unusedVariables false
section
variable {P : Program} {ap : Nat → Int → Int} {SelAt : PoolG → Nat → Goroutine → Lo → Prop} {CI CW : Nat} {Q : Value → World → Prop}
variable {Γ Γ' : Nat → Lo} {gs gs' : Array Goroutine} {w w' : World} {sl : Option (Nat × Nat)} {wt : Nat → Nat} {t t' : Trace}
theorem cast0 : ((0 : Nat) : Int) = 0 := rfl
section
theorem step_ask [Inhabited Base] (hR : ∀ p i g L, SelAt p i g L → idleL p i L → Rest P ap SelAt CI CW Q p i g L) (hS : ∀ (j : Nat) (g : Goroutine), gs[j]? = some g → Sit P ap SelAt CI CW Q (Γ 0).role.m.cl j g (Γ j) (wt j)) (hI : Inv ap gs.size Γ w t) (hN : ∀ (c j k : Nat) (gj gk : Goroutine), gs[j]? = some gj → gs[k]? = some gk → offersAt gj c true ≠ [] → offersAt gk c false ≠ [] → False) (hB : ∀ (c j : Nat) (gj : Goroutine), gs[j]? = some gj → offersAt gj c false ≠ [] → ∀ v s r, ¬ IsCh w c 1 #[v] false s r) (hU : ∀ (g : Goroutine) (wa : Addr), gs[0]? = some g → g.status = .blocked → g.offers = none → (Γ 0).role.m.reg = some wa → CellI w (sem wa) .u32 0) {i : Nat} {g g₂ : Goroutine} {p : PoolG} {z zq : Value} {cb : Nat} {v : Int} {c c' : Nat} (hi : gs[i]? = some g) (hst : stepG P (i == 0) g w = .comm g₂ #[scase p.ci (qval v cb) zq, rcase p.ce z] true .select w #[]) (hnl : ¬ Lefty (Γ i)) (hq : (Γ i).q = some ⟨p, cb, v, false⟩) (hmay : MayAsk (Γ i) p)
    (hcc : c' + CW < c) (hsafe : Safe P ap SelAt CI CW Q i c' (g₂.finishComm P #[scase p.ci (qval v cb) zq, rcase p.ce z] .select 0 undef false) (sentL p (Γ i))) (hw : wt i = 4 * c + 3) :
    ∃ m' ops μ', runT P (crowd gs w sl) i = (.next m', ops) ∧ μ' < sumTo gs.size wt ∧ MInv P ap SelAt CI CW Q w μ' m' (t ++ ops) := by
  obtain ⟨hlt, _⟩ := Array.getElem?_eq_some_iff.1 hi
  obtain ⟨⟨hp, hcl, _⟩, _⟩ := hI.wld.q i _ hq
  obtain ⟨⟨s1, r1, tm1, e1⟩, ⟨s2, r2, tm2, e2⟩, _⟩ := hI.wld.pools p hp
  rw [hcl] at e2
  have hne : p.ci ≠ p.ce := fun e => hI.wld.chans p hp p hp e.symm
  have nse : partners (gs.setIfInBounds i ph) p.ce true = [] := no_p fun j g _ hj => no_send_end hR hS hI hp j g hj
  have hrv : ∀ (j kj : Nat) (gj : Goroutine), gs[j]? = some gj → kj ∈ offersAt gj p.ci false → kj = 0 ∧ ∃ (g₀ : Goroutine) (z zq : Value) (c0 : Nat), gj = parked g₀ #[rcase p.ci zq, rcase p.ce z] .select ∧ wt j = 4 * c0 + 2 ∧ idleL p j (Γ j) ∧
      ∀ v cb, Safe P ap SelAt CI CW Q j CW (g₀.finishComm P #[rcase p.ci zq, rcase p.ce z] .select 0 (qval v cb) true) ((Γ j).turn (.worker p (some (cb, v, false))) none) := fun j kj gj hgj hk => by
    rcases sit_recvs hR (hS j gj hgj) hk with ⟨p', g₀, z1, zq1, c0, h1, h2, h3, h4, h5, h6⟩ | ⟨p', cb', v', h1, h2, h3⟩ | ⟨p', g₀, z1, v', c0, c1, h1, h2, h3, h4, h5, h6, h7⟩
    · obtain ⟨hp', _⟩ := hI.wld.work j p' none h4.1
      rcases h5 with ⟨rfl, e⟩ | ⟨_, e⟩
      · obtain rfl := hI.wld.same p' hp' p hp (.inr (.inr e))
        exact ⟨rfl, g₀, z1, zq1, c0, h1, h2, h4, h6⟩
      · exact absurd e (hI.wld.chans p' hp' p hp)
    · obtain ⟨⟨hp', _⟩, _⟩ := hI.wld.q j _ h3
      exact absurd h2 (hI.wld.chans p' hp' p hp)
    · obtain ⟨_, _, q3⟩ := hI.wld.q j _ h6
      rcases q3 rfl with ⟨k, b, hk'⟩ | ⟨tm', e⟩
      · obtain ⟨⟨tm', e⟩, _⟩ := hI.wld.job k p' p.ci v' b hk'
        rw [e1] at e; cases e
      · simp only at e
        rw [e1] at e; cases e
  by_cases hpn : partners (gs.setIfInBounds i ph) p.ci false = []
  · have hrun := crowd_waits (sl := sl) hi hst (fun cc hcc => by
      simp at hcc
      rcases hcc with rfl | rfl
      · exact ways_send_none e1 (Nat.zero_le _) hpn
      · exact ways_recv_none e2 nse)
    rw [ofEvents_nil] at hrun
    have hsend : ∀ ch, offersAt (parked g₂ #[scase p.ci (qval v cb) zq, rcase p.ce z] .select) ch true ≠ [] → ch = p.ci := fun ch h => by
      obtain ⟨x, hx⟩ := ne_nil_mem h
      simp [offersAt, parked, rcase, scase, Array.zipIdx] at hx
      obtain ⟨a, ha, hs, hc⟩ := hx
      rcases ha with ⟨rfl, rfl⟩ | ⟨rfl, rfl⟩
      · exact (by simpa using hc : p.ci = ch).symm
      · cases hs
    have hrecv : ∀ ch, offersAt (parked g₂ #[scase p.ci (qval v cb) zq, rcase p.ce z] .select) ch false ≠ [] → ch = p.ce := fun ch h => by
      obtain ⟨x, hx⟩ := ne_nil_mem h
      simp [offersAt, parked, rcase, scase, Array.zipIdx] at hx
      obtain ⟨a, ⟨rfl, _⟩, hs, hc⟩ := hx
      exact (by simpa using hc : p.ce = ch).symm
    have k1 : ∀ ch, offersAt (parked g₂ #[scase p.ci (qval v cb) zq, rcase p.ce z] .select) ch true ≠ [] → ∀ (k : Nat) (gk : Goroutine), k ≠ i → gs[k]? = some gk → offersAt gk ch false = [] := fun ch h k gk hk hgk => by
      have ec := hsend ch h
      subst ec
      refine nil_of_no fun kj hkj => ?_
      have : (k, kj) ∈ partners (gs.setIfInBounds i ph) p.ci false := mem_partners.2 ⟨gk, by rw [Array.getElem?_setIfInBounds_ne (Ne.symm hk)]; exact hgk, hkj⟩
      rw [hpn] at this
      cases this
    have k2 : ∀ ch, offersAt (parked g₂ #[scase p.ci (qval v cb) zq, rcase p.ce z] .select) ch false ≠ [] → ∀ (k : Nat) (gk : Goroutine), k ≠ i → gs[k]? = some gk → offersAt gk ch true = [] := fun ch h k gk hk hgk => by
      have ec := hrecv ch h
      subst ec
      exact no_send_end hR hS hI hp k gk hgk
    have k3 : ∀ ch, offersAt (parked g₂ #[scase p.ci (qval v cb) zq, rcase p.ce z] .select) ch true ≠ [] → offersAt (parked g₂ #[scase p.ci (qval v cb) zq, rcase p.ce z] .select) ch false = [] := fun ch h => by
      have ec := hsend ch h
      subst ec
      exact Classical.byContradiction fun hx => hne (hrecv _ hx)
    obtain ⟨μ', h1, h2⟩ := mi_put (sl := sl) hS hN hB hU (fun a => ⟨rfl, rfl⟩) (i := i) (Aged.at w w.drawn) (fill_or (hf := fill_at w w.drawn)) (g' := parked g₂ #[scase p.ci (qval v cb) zq, rcase p.ce z] .select) (m := 4 * c + 2) (fun ch h v s r hch => by
      obtain ⟨_, ex⟩ := hch.obj (hrecv ch h); have ex2 : w.heap[p.ce]? = _ := ex; rw [e2] at ex2; cases ex2) hi (hI.words (quiet_none _ _) w.drawn) (fun j _ => rfl) ⟨rfl, rfl⟩ (fun _ h => by cases h) (.parkA hnl hcc hq hmay hsafe) (by omega) (fun ch => ⟨k1 ch, k2 ch, k3 ch⟩)
    exact ⟨_, _, μ', hrun, h1, h2⟩
  · have hall : ∀ j kj, (j, kj) ∈ partners (gs.setIfInBounds i ph) p.ci false → j ≠ i ∧ ∃ gj csj shj zj, gs[j]? = some (parked gj csj shj) ∧ csj[kj]? = some (rcase p.ci zj) := fun j kj hm => by
      obtain ⟨hji, gj, hgj, hk⟩ := mem_p hm
      obtain ⟨rfl, g₀, z1, zq1, c0, rfl, _⟩ := hrv j kj gj hgj hk
      exact ⟨hji, g₀, _, _, zq1, hgj, rfl⟩
    obtain ⟨j, kj, gj, csj, shj, zj, d, hm, hji, hgj, hcase, hrun⟩ := sel_send_some (sl := sl) hi hst (k := 0) (c := p.ci) (v := qval v cb) (z := zq) rfl (fun m cc hm hcc => by
      match m, hm, hcc with
      | 1, _, hcc =>
        simp at hcc
        subst hcc
        exact ways_recv_none e2 nse
      | m + 2, _, hcc => simp at hcc) e1 hpn hall
    obtain ⟨_, gj', hgj', hk⟩ := mem_p hm
    rw [hgj] at hgj'
    cases hgj'
    obtain ⟨rfl, g₀, z1, zq1, c0, hpk, hwj, hid, hrecv⟩ := hrv j kj _ hgj hk
    have e1' : gj.finishComm P csj shj 0 (qval v cb) true = g₀.finishComm P #[rcase p.ci zq1, rcase p.ce z1] .select 0 (qval v cb) true := by
      simp only [parked, Goroutine.mk.injEq, Option.some.injEq, Prod.mk.injEq] at hpk
      obtain ⟨a1, a2, _, a4, a5, a6⟩ := hpk
      subst a5 a6
      simp [Goroutine.finishComm, a1, a2, a4]
    obtain ⟨hltj, _⟩ := Array.getElem?_eq_some_iff.1 hgj
    rw [ofEvents_nil, Array.empty_append, cast0, e1'] at hrun
    have hmeet := hI.meet (i := i) (k := j) (d := d) (s := s1) (r := r1) (tm := tm1) hlt hltj (Ne.symm hji) hq hmay hid.1 hid.2.1 e1 (quiet4 (fn := 0) (fn' := 0) (pos := "") (pos' := "") (cap := 0) hlt hltj (chan_low e1) hlt hltj hlt hltj (f1 := g₂.frame.fn) (f2 := gj.frame.fn) (f3 := g₂.frame.fn) (f4 := gj.frame.fn) (p1 := g₂.frame.place) (p2 := gj.frame.place) (p3 := g₂.frame.place) (p4 := gj.frame.place) (s := s1) (r := r1))
    have gk := upd2_k (i := i) (k := j) Γ (sentL p (Γ i)) ((Γ j).turn (.worker p (some (cb, v, false))) none)
    have gi2 := upd2_i (i := i) (k := j) Γ (sentL p (Γ i)) ((Γ j).turn (.worker p (some (cb, v, false))) none) (Ne.symm hji)
    have hcl0 : (upd (upd Γ i (sentL p (Γ i))) j ((Γ j).turn (.worker p (some (cb, v, false))) none) 0).role.m.cl = (Γ 0).role.m.cl ∧ (upd (upd Γ i (sentL p (Γ i))) j ((Γ j).turn (.worker p (some (cb, v, false))) none) 0).role.m.reg = (Γ 0).role.m.reg := by
      rw [upd_ne _ _ (Ne.symm hid.2.2)]
      rcases upd_eq Γ i (sentL p (Γ i)) 0 with ⟨e0, ej⟩ | ⟨e0, _⟩
      · rw [e0, ← ej]; exact ⟨((shape_sent p (Γ 0).role).same).2.1, ((shape_sent p (Γ 0).role).same).2.2.2.2.2.1⟩
      · rw [e0]; exact ⟨rfl, rfl⟩
    obtain ⟨μ', h1, h2⟩ := mi_two (sl := sl) hS hN hB hU (fun a => setCh_cell (w.at d) e1 a) (fill_set e1 rfl tm1.2) (i := i) (j := j) hi hgj hji hmeet (fun k h1 h2 => upd2_o Γ _ _ h1 h2) hcl0 (m := 4 * c' + 3) (mj := 4 * CW + 3) (g' := g₂.finishComm P #[scase p.ci (qval v cb) zq, rcase p.ce z] .select 0 undef false)
      (gj' := g₀.finishComm P #[rcase p.ci zq1, rcase p.ce z1] .select 0 (qval v cb) true) (by rw [gi2]; exact .run rfl hsafe) (by rw [gk]; exact .run rfl (hrecv v cb)) (by rw [hwj, hw]; omega) rfl rfl
    exact ⟨_, _, μ', hrun, h1, h2⟩
theorem step_peek [Inhabited Base] (hR : ∀ p i g L, SelAt p i g L → idleL p i L → Rest P ap SelAt CI CW Q p i g L) (hS : ∀ (j : Nat) (g : Goroutine), gs[j]? = some g → Sit P ap SelAt CI CW Q (Γ 0).role.m.cl j g (Γ j) (wt j)) (hI : Inv ap gs.size Γ w t) (hN : ∀ (c j k : Nat) (gj gk : Goroutine), gs[j]? = some gj → gs[k]? = some gk → offersAt gj c true ≠ [] → offersAt gk c false ≠ [] → False) (hB : ∀ (c j : Nat) (gj : Goroutine), gs[j]? = some gj → offersAt gj c false ≠ [] → ∀ v s r, ¬ IsCh w c 1 #[v] false s r) (hU : ∀ (g : Goroutine) (wa : Addr), gs[0]? = some g → g.status = .blocked → g.offers = none → (Γ 0).role.m.reg = some wa → CellI w (sem wa) .u32 0) {i : Nat} {g g₂ : Goroutine} {p : PoolG} {z : Value} {c c' : Nat} (hi : gs[i]? = some g) (hp : p ∈ (Γ 0).role.m.ps) (hst : stepG P (i == 0) g w = .comm g₂ #[rcase p.ce z] false .select w #[]) (hcc : c' < c)
    (hsafe : Safe P ap SelAt CI CW Q i c' (if (Γ 0).role.m.cl p.b = true then g₂.finishComm P #[rcase p.ce z] .select 0 z false else g₂.finishComm P #[rcase p.ce z] .select (-1) undef false) (Γ i)) (hw : wt i = 4 * c + 3) :
    ∃ m' ops μ', runT P (crowd gs w sl) i = (.next m', ops) ∧ μ' < sumTo gs.size wt ∧ MInv P ap SelAt CI CW Q w μ' m' (t ++ ops) := by
  obtain ⟨hlt, _⟩ := Array.getElem?_eq_some_iff.1 hi
  obtain ⟨⟨s1, r1, tm1, e1⟩, ⟨s2, r2, tm2, e2⟩, _⟩ := hI.wld.pools p hp
  have nse : partners (gs.setIfInBounds i ph) p.ce true = [] := no_p fun j g _ hj => no_send_end hR hS hI hp j g hj
  have off : ∀ (g' : Goroutine), g'.status = .running → ∀ ch : Nat, (offersAt g' ch true ≠ [] → ∀ (k : Nat) (gk : Goroutine), k ≠ i → gs[k]? = some gk → offersAt gk ch false = []) ∧ (offersAt g' ch false ≠ [] → ∀ (k : Nat) (gk : Goroutine), k ≠ i → gs[k]? = some gk → offersAt gk ch true = []) ∧ (offersAt g' ch true ≠ [] → offersAt g' ch false = []) := fun g' h ch =>
    ⟨fun x => absurd (offersAt_of_not_blocked (by rw [h]; simp) _ _) x, fun x => absurd (offersAt_of_not_blocked (by rw [h]; simp) _ _) x, fun x => absurd (offersAt_of_not_blocked (by rw [h]; simp) _ _) x⟩
  cases hcl : (Γ 0).role.m.cl p.b with
  | true =>
    rw [hcl] at e2
    rw [hcl, if_pos rfl] at hsafe
    have hrun := crowd_recv_closed (sl := sl) hi hst e2 nse
    rw [ofEvents_nil, Array.empty_append] at hrun
    obtain ⟨μ', h1, h2⟩ := mi_put (sl := sl) hS hN hB hU (fun a => ⟨rfl, rfl⟩) (i := i) (Aged.at w w.drawn) (fill_or (hf := fill_at w w.drawn)) (m := 4 * c' + 3) (off_run rfl) hi (hI.words (u := #[{ g := i, fn := g₂.frame.fn, pos := g₂.frame.place, act := .recvClosed p.ce }]) (fun op hop => by
        simp only [List.mem_toArray, List.mem_cons, List.not_mem_nil, or_false] at hop
        subst hop
        exact ⟨⟨hlt, rfl, fun a e => (by cases e), chan_low e2⟩, fun g d => rfl⟩) w.drawn) (fun j _ => rfl) ⟨rfl, rfl⟩ (fun h => by cases h) (.run rfl hsafe) (by omega) (off _ rfl)
    exact ⟨_, _, μ', hrun, h1, h2⟩
  | false =>
    rw [hcl] at e2
    rw [hcl, if_neg (by simp)] at hsafe
    have hrun := crowd_default (sl := sl) hi hst (fun cc hcc => by
      simp at hcc
      subst hcc
      exact ways_recv_none e2 nse)
    rw [ofEvents_nil] at hrun
    obtain ⟨μ', h1, h2⟩ := mi_put (sl := sl) hS hN hB hU (fun a => ⟨rfl, rfl⟩) (i := i) (Aged.at w w.drawn) (fill_or (hf := fill_at w w.drawn)) (m := 4 * c' + 3) (off_run rfl) hi (hI.words (quiet_none _ _) w.drawn) (fun j _ => rfl) ⟨rfl, rfl⟩ (fun h => by cases h) (.run rfl hsafe) (by omega) (off _ rfl)
    exact ⟨_, _, μ', hrun, h1, h2⟩
theorem step_recv [Inhabited Base] (hR : ∀ p i g L, SelAt p i g L → idleL p i L → Rest P ap SelAt CI CW Q p i g L) (hS : ∀ (j : Nat) (g : Goroutine), gs[j]? = some g → Sit P ap SelAt CI CW Q (Γ 0).role.m.cl j g (Γ j) (wt j)) (hI : Inv ap gs.size Γ w t) (hN : ∀ (c j k : Nat) (gj gk : Goroutine), gs[j]? = some gj → gs[k]? = some gk → offersAt gj c true ≠ [] → offersAt gk c false ≠ [] → False) (hB : ∀ (c j : Nat) (gj : Goroutine), gs[j]? = some gj → offersAt gj c false ≠ [] → ∀ v s r, ¬ IsCh w c 1 #[v] false s r) (hU : ∀ (g : Goroutine) (wa : Addr), gs[0]? = some g → g.status = .blocked → g.offers = none → (Γ 0).role.m.reg = some wa → CellI w (sem wa) .u32 0) {i : Nat} {g g₂ : Goroutine} {p : PoolG} {z : Value} {cb : Nat} {v : Int} {c c' : Nat} (hi : gs[i]? = some g) (hst : stepG P (i == 0) g w = .comm g₂ #[rcase cb z] true (.recv false) w #[]) (hnl : ¬ Lefty (Γ i)) (hq : (Γ i).q = some ⟨p, cb, v, true⟩) (hcc : c' < c)
    (hsafe : Safe P ap SelAt CI CW Q i c' (g₂.finishComm P #[rcase cb z] (.recv false) 0 (.int .i64 (ap p.fn v)) true) ((Γ i).turn (Γ i).role none)) (hw : wt i = 4 * c + 3) :
    ∃ m' ops μ', runT P (crowd gs w sl) i = (.next m', ops) ∧ μ' < sumTo gs.size wt ∧ MInv P ap SelAt CI CW Q w μ' m' (t ++ ops) := by
  obtain ⟨hlt, _⟩ := Array.getElem?_eq_some_iff.1 hi
  obtain ⟨_, _, q3⟩ := hI.wld.q i _ hq
  have hch : IsCh w cb 1 #[] false 0 0 ∨ IsCh w cb 1 #[.int .i64 (ap p.fn v)] false 1 0 := by
    rcases q3 rfl with ⟨k, b, hk⟩ | e
    · exact .inl (hI.wld.job k p cb v b hk).1
    · exact .inr e
  have nsb : partners (gs.setIfInBounds i ph) cb true = [] := by
    rcases hch with hc | hc
    · exact no_p fun j g _ hj => no_send_back hR hS hI hc j g hj
    · exact no_p fun j g _ hj => no_send_back hR hS hI hc j g hj
  rcases hch with ⟨tm, e⟩ | ⟨tm, e⟩
  · have hrun := crowd_waits (sl := sl) hi hst (fun cc hcc => by
      simp at hcc
      subst hcc
      exact ways_recv_none e nsb)
    rw [ofEvents_nil] at hrun
    obtain ⟨μ', h1, h2⟩ := mi_put (sl := sl) hS hN hB hU (fun a => ⟨rfl, rfl⟩) (i := i) (Aged.at w w.drawn) (fill_or (hf := fill_at w w.drawn)) (g' := parked g₂ #[rcase cb z] (.recv false)) (m := 4 * c + 2) (fun ch h v s r hch => by
      rw [offersAt_parked_recv] at h
      by_cases ec : cb = ch
      · obtain ⟨_, ex⟩ := hch.obj ec.symm; have ex2 : w.heap[cb]? = _ := ex; rw [e] at ex2; cases ex2
      · rw [if_neg ec] at h; exact absurd rfl h) hi (hI.words (quiet_none _ _) w.drawn) (fun j _ => rfl) ⟨rfl, rfl⟩ (fun _ h => by cases h) (.parkR hnl hcc hq hsafe) (by omega)
      (fun ch => ⟨fun h => absurd (offersAt_parked_recv' g₂ cb z _ ch) h, fun h k gk hk hgk => by
        rw [offersAt_parked_recv] at h
        by_cases ec : cb = ch
        · subst ec
          exact no_send_back hR hS hI ⟨tm, e⟩ k gk hgk
        · rw [if_neg ec] at h; exact absurd rfl h, fun h => absurd (offersAt_parked_recv' g₂ cb z _ ch) h⟩)
    exact ⟨_, _, μ', hrun, h1, h2⟩
  · have hrun := crowd_recv_buf (sl := sl) hi hst e (by simp) nsb
    rw [ofEvents_nil, Array.empty_append] at hrun
    obtain ⟨_, htk⟩ := hI.take (d := w.drawn) (s := 1) (r := 0) (tm := tm) hlt hq e (by simp) (u := #[{ g := i, fn := g₂.frame.fn, pos := g₂.frame.place, act := .recv cb 0 1 }, { g := i, fn := g₂.frame.fn, pos := g₂.frame.place, act := .recvDone cb 0 }]) (fun op hop => by
      simp only [List.mem_toArray, List.mem_cons, List.not_mem_nil, or_false] at hop
      rcases hop with rfl | rfl <;> exact ⟨⟨hlt, rfl, fun a e => (by cases e), chan_low e⟩, fun g d => rfl⟩)
    have gi : upd Γ i ((Γ i).turn (Γ i).role none) i = (Γ i).turn (Γ i).role none := upd_same _ _ _
    have hcl0 : (upd Γ i ((Γ i).turn (Γ i).role none) 0).role.m.cl = (Γ 0).role.m.cl ∧ (upd Γ i ((Γ i).turn (Γ i).role none) 0).role.m.reg = (Γ 0).role.m.reg := by
      rcases upd_eq Γ i ((Γ i).turn (Γ i).role none) 0 with ⟨e0, ej⟩ | ⟨e0, _⟩
      · rw [e0, ← ej]; exact ⟨rfl, rfl⟩
      · rw [e0]; exact ⟨rfl, rfl⟩
    obtain ⟨μ', h1, h2⟩ := mi_put (sl := sl) hS hN hB hU (fun a => setCh_cell (w.at w.drawn) e a) (i := i) (fill_set e rfl tm.2).os (fill_or (hf := fill_set e rfl tm.2)) (g' := g₂.finishComm P #[rcase cb z] (.recv false) 0 (.int .i64 (ap p.fn v)) true) (m := 4 * c' + 3) (off_run rfl) hi htk (fun j hj => upd_ne _ _ hj) hcl0 (fun h => by cases h) (by rw [gi]; exact .run rfl hsafe) (by omega)
      (fun ch => ⟨fun x => absurd (offersAt_of_not_blocked (by rw [status_finish]; simp) _ _) x, fun x => absurd (offersAt_of_not_blocked (by rw [status_finish]; simp) _ _) x, fun x => absurd (offersAt_of_not_blocked (by rw [status_finish]; simp) _ _) x⟩)
    exact ⟨_, _, μ', hrun, h1, h2⟩
theorem step_send [Inhabited Base] (hR : ∀ p i g L, SelAt p i g L → idleL p i L → Rest P ap SelAt CI CW Q p i g L) (hS : ∀ (j : Nat) (g : Goroutine), gs[j]? = some g → Sit P ap SelAt CI CW Q (Γ 0).role.m.cl j g (Γ j) (wt j)) (hI : Inv ap gs.size Γ w t) (hN : ∀ (c j k : Nat) (gj gk : Goroutine), gs[j]? = some gj → gs[k]? = some gk → offersAt gj c true ≠ [] → offersAt gk c false ≠ [] → False) (hB : ∀ (c j : Nat) (gj : Goroutine), gs[j]? = some gj → offersAt gj c false ≠ [] → ∀ v s r, ¬ IsCh w c 1 #[v] false s r) (hU : ∀ (g : Goroutine) (wa : Addr), gs[0]? = some g → g.status = .blocked → g.offers = none → (Γ 0).role.m.reg = some wa → CellI w (sem wa) .u32 0) {i : Nat} {g g₂ : Goroutine} {p : PoolG} {z : Value} {cb : Nat} {v : Int} {c c' : Nat} (hi : gs[i]? = some g) (hst : stepG P (i == 0) g w = .comm g₂ #[scase cb (.int .i64 (ap p.fn v)) z] true .send w #[]) (hwk : (Γ i).role = .worker p (some (cb, v, true))) (hkq : (Γ i).q = none) (hcc : c' < c)
    (hsafe : Safe P ap SelAt CI CW Q i c' (g₂.finishComm P #[scase cb (.int .i64 (ap p.fn v)) z] .send 0 undef false) ((Γ i).turn (.worker p none) none)) (hw : wt i = 4 * c + 3) :
    ∃ m' ops μ', runT P (crowd gs w sl) i = (.next m', ops) ∧ μ' < sumTo gs.size wt ∧ MInv P ap SelAt CI CW Q w μ' m' (t ++ ops) := by
  obtain ⟨hlt, _⟩ := Array.getElem?_eq_some_iff.1 hi
  obtain ⟨⟨tm, e⟩, j0, hj0⟩ := hI.wld.job i p cb v true hwk
  have hi0 : i ≠ 0 := fun e => by
    have := (hI.main i).2 e
    rw [hwk] at this
    obtain ⟨m, hm⟩ := this; cases hm
  have hrv : ∀ (j kj : Nat) (gj : Goroutine), gs[j]? = some gj → kj ∈ offersAt gj cb false → kj = 0 ∧ ∃ (p' : PoolG) (g₀ : Goroutine) (z : Value) (v' : Int) (c0 c1 : Nat), gj = parked g₀ #[rcase cb z] (.recv false) ∧ wt j = 4 * c0 + 2 ∧ c1 < c0 ∧ (Γ j).q = some ⟨p', cb, v', true⟩ ∧
      Safe P ap SelAt CI CW Q j c1 (g₀.finishComm P #[rcase cb z] (.recv false) 0 (.int .i64 (ap p'.fn v')) true) ((Γ j).turn (Γ j).role none) := fun j kj gj hgj hk => by
    rcases sit_recvs hR (hS j gj hgj) hk with ⟨p', g₀, z1, zq1, c0, h1, h2, h3, h4, h5, h6⟩ | ⟨p', cb', v', h1, h2, h3⟩ | ⟨p', g₀, z1, v', c0, c1, h1, h2, h3, h4, h5, h6, h7⟩
    · obtain ⟨hp', _⟩ := hI.wld.work j p' none h4.1
      obtain ⟨⟨s1, r1, tm1, e1⟩, ⟨s2, r2, tm2, e2⟩, _⟩ := hI.wld.pools p' hp'
      rcases h5 with ⟨rfl, e'⟩ | ⟨_, e'⟩
      · obtain ⟨_, ex⟩ := IsCh.obj ⟨tm1, e1⟩ e'; rw [e] at ex; cases ex
      · obtain ⟨_, ex⟩ := IsCh.obj ⟨tm2, e2⟩ e'; rw [e] at ex; cases ex
    · obtain ⟨⟨hp', _⟩, _⟩ := hI.wld.q j _ h3
      obtain ⟨_, ⟨s2, r2, tm2, e2⟩, _⟩ := hI.wld.pools p' hp'
      obtain ⟨_, ex⟩ := IsCh.obj ⟨tm2, e2⟩ h2; rw [e] at ex; cases ex
    · exact ⟨h3, p', g₀, z1, v', c0, c1, h1, h2, h5, h6, h7⟩
  by_cases hpn : partners (gs.setIfInBounds i ph) cb false = []
  · have hrun := crowd_send_room (sl := sl) hi hst e (by simp) hpn
    rw [ofEvents_nil, Array.empty_append] at hrun
    have hans := hI.answerBuf (d := w.drawn) (s := 0) (r := 0) (tm := tm) hlt hwk hkq e (u := #[{ g := i, fn := g₂.frame.fn, pos := g₂.frame.place, act := .send cb 0 }, { g := i, fn := g₂.frame.fn, pos := g₂.frame.place, act := .sendDone cb 0 }]) (fun op hop => by
      simp only [List.mem_toArray, List.mem_cons, List.not_mem_nil, or_false] at hop
      rcases hop with rfl | rfl <;> exact ⟨⟨hlt, rfl, fun a e => (by cases e), chan_low e⟩, fun g d => rfl⟩)
    have gi : upd Γ i ((Γ i).turn (.worker p none) none) i = (Γ i).turn (.worker p none) none := upd_same _ _ _
    have hcl0 : (upd Γ i ((Γ i).turn (.worker p none) none) 0).role.m.cl = (Γ 0).role.m.cl ∧ (upd Γ i ((Γ i).turn (.worker p none) none) 0).role.m.reg = (Γ 0).role.m.reg := by rw [upd_ne _ _ (Ne.symm hi0)]; exact ⟨rfl, rfl⟩
    obtain ⟨μ', h1, h2⟩ := mi_put (sl := sl) hS hN hB hU (fun a => setCh_cell (w.at w.drawn) e a) (i := i) (Aged.but ⟨rfl, rfl, rfl⟩ tm.2 fun k hk => setCh_other (w.at w.drawn) hk) (fun c v2 s r hc => by
      by_cases ec : c = cb
      · refine .inr fun j gj hj hgj => nil_of_no fun kj hkj => ?_
        rw [ec] at hkj
        have : (j, kj) ∈ partners (gs.setIfInBounds i ph) cb false := mem_partners.2 ⟨gj, by rw [Array.getElem?_setIfInBounds_ne (Ne.symm hj)]; exact hgj, hkj⟩
        rw [hpn] at this
        cases this
      · obtain ⟨tm2, e2⟩ := hc
        rw [setCh_other (w.at w.drawn) ec] at e2
        exact .inl ⟨tm2, e2⟩) (g' := g₂.finishComm P #[scase cb (.int .i64 (ap p.fn v)) z] .send 0 undef false) (m := 4 * c' + 3) (off_run rfl) hi hans (fun j hj => upd_ne _ _ hj) hcl0 (fun h => by cases h) (by rw [gi]; exact .run rfl hsafe) (by omega)
      (fun ch => ⟨fun x => absurd (offersAt_of_not_blocked (by rw [status_finish]; simp) _ _) x, fun x => absurd (offersAt_of_not_blocked (by rw [status_finish]; simp) _ _) x, fun x => absurd (offersAt_of_not_blocked (by rw [status_finish]; simp) _ _) x⟩)
    exact ⟨_, _, μ', hrun, h1, h2⟩
  · have hall : ∀ j kj, (j, kj) ∈ partners (gs.setIfInBounds i ph) cb false → j ≠ i ∧ ∃ gj csj shj zj, gs[j]? = some (parked gj csj shj) ∧ csj[kj]? = some (rcase cb zj) := fun j kj hm => by
      obtain ⟨hji, gj, hgj, hk⟩ := mem_p hm
      obtain ⟨rfl, p', g₀, z1, v', c0, c1, rfl, _⟩ := hrv j kj gj hgj hk
      exact ⟨hji, g₀, _, _, z1, hgj, rfl⟩
    obtain ⟨j, kj, gj, csj, shj, zj, d, hm, hji, hgj, hcase, hrun⟩ := sel_send_some (sl := sl) hi hst (k := 0) (c := cb) (v := .int .i64 (ap p.fn v)) (z := z) rfl (fun m cc hm hcc => by
      match m, hm, hcc with
      | m + 1, _, hcc => simp at hcc) e hpn hall
    obtain ⟨_, gj', hgj', hk⟩ := mem_p hm
    rw [hgj] at hgj'
    cases hgj'
    obtain ⟨rfl, p', g₀, z1, v', c0, c1, hpk, hwj, hc1, hq, hsj⟩ := hrv j kj _ hgj hk
    have e1' : gj.finishComm P csj shj 0 (.int .i64 (ap p.fn v)) true = g₀.finishComm P #[rcase cb z1] (.recv false) 0 (.int .i64 (ap p.fn v)) true := by
      simp only [parked, Goroutine.mk.injEq, Option.some.injEq, Prod.mk.injEq] at hpk
      obtain ⟨a1, a2, _, a4, a5, a6⟩ := hpk
      subst a5 a6
      simp [Goroutine.finishComm, a1, a2, a4]
    obtain ⟨hltj, _⟩ := Array.getElem?_eq_some_iff.1 hgj
    rw [ofEvents_nil, Array.empty_append, cast0, e1'] at hrun
    obtain ⟨⟨rfl, rfl, hik⟩, hans⟩ := hI.answerMeet (i := j) (k := i) (d := d) (s := 0) (r := 0) (tm := tm) hltj hlt hwk hkq hq e (quiet4 (fn := 0) (fn' := 0) (pos := "") (pos' := "") (cap := 1) hlt hltj (chan_low e) hlt hltj hlt hltj (f1 := g₂.frame.fn) (f2 := gj.frame.fn) (f3 := g₂.frame.fn) (f4 := gj.frame.fn) (p1 := g₂.frame.place) (p2 := gj.frame.place) (p3 := g₂.frame.place) (p4 := gj.frame.place) (s := 0) (r := 0))
    have gk := upd2_k (i := j) (k := i) Γ ((Γ j).turn (Γ j).role none) ((Γ i).turn (.worker p' none) none)
    have gi2 := upd2_i (i := j) (k := i) Γ ((Γ j).turn (Γ j).role none) ((Γ i).turn (.worker p' none) none) hji
    have hcl0 : (upd (upd Γ j ((Γ j).turn (Γ j).role none)) i ((Γ i).turn (.worker p' none) none) 0).role.m.cl = (Γ 0).role.m.cl ∧ (upd (upd Γ j ((Γ j).turn (Γ j).role none)) i ((Γ i).turn (.worker p' none) none) 0).role.m.reg = (Γ 0).role.m.reg := by
      rw [upd_ne _ _ (Ne.symm hi0)]
      rcases upd_eq Γ j ((Γ j).turn (Γ j).role none) 0 with ⟨e0, ej⟩ | ⟨e0, _⟩
      · rw [e0, ← ej]; exact ⟨rfl, rfl⟩
      · rw [e0]; exact ⟨rfl, rfl⟩
    obtain ⟨μ', h1, h2⟩ := mi_two (sl := sl) hS hN hB hU (fun a => setCh_cell (w.at d) e a) (fill_set e rfl tm.2) (i := i) (j := j) hi hgj hji hans (fun k h1 h2 => upd2_o Γ _ _ h2 h1) hcl0 (m := 4 * c' + 3) (mj := 4 * c1 + 3) (g' := g₂.finishComm P #[scase cb (.int .i64 (ap p'.fn v')) z] .send 0 undef false)
      (gj' := g₀.finishComm P #[rcase cb z1] (.recv false) 0 (.int .i64 (ap p'.fn v')) true) (by rw [gk]; exact .run rfl hsafe) (by rw [gi2]; exact .run rfl hsj) (by rw [hwj, hw]; omega) rfl rfl
    exact ⟨_, _, μ', hrun, h1, h2⟩
end
end
end Go.Proofs.Ytaceedenkmccdaa
/- Pools: whatever the tape, the run ends, and ends well. -/
namespace Go.Proofs.Ytaceedenkmccdaa
open Go Go.Conc Go.ConcN
set_option linter.unusedSimpArgs false
set_option linter.unusedVariables false
section
variable {P : Program} {ap : Nat → Int → Int} {SelAt : PoolG → Nat → Goroutine → Lo → Prop} {CI CW : Nat} {Q : Value → World → Prop}
variable {Γ Γ' : Nat → Lo} {gs gs' : Array Goroutine} {w w' : World} {sl : Option (Nat × Nat)} {wt : Nat → Nat} {t t' : Trace}
section
/-- A worker of a pool that is at rest is parked there. -/
theorem worker_at [Inhabited Base] (hR : ∀ p i g L, SelAt p i g L → idleL p i L → Rest P ap SelAt CI CW Q p i g L) (hS : ∀ (j : Nat) (g : Goroutine), gs[j]? = some g → Sit P ap SelAt CI CW Q (Γ 0).role.m.cl j g (Γ j) (wt j)) (hI : Inv ap gs.size Γ w t) {j : Nat} {g : Goroutine} {p : PoolG} {job : Option (Nat × Int × Bool)} (hj : gs[j]? = some g) (hr : (Γ j).role = .worker p job) : g.status = .running ∨ (job = none ∧ offersAt g p.ci false ≠ [] ∧ (Γ 0).role.m.cl p.b = false) := by
  have hj0 : j ≠ 0 := fun e => by
    have := (hI.main j).2 e
    rw [hr] at this
    obtain ⟨m, hm⟩ := this; cases hm
  have noq : ∀ Q, (Γ j).q ≠ some Q := fun Q hq => by
    rcases hI.wld.qwho j Q hq with e | ⟨A, zs, cur, f, hm⟩
    · exact hj0 e
    · rw [hr] at hm; cases hm
  have h := hS j g hj
  generalize hL : Γ j = L at h hr noq
  generalize wt j = m at h
  cases h with
  | run h1 _ => exact .inl h1
  | selW _ h1 _ h2 => exact .inl (hR _ _ _ _ h1 h2).1
  | @parkW g₀ _ c0 p' z zq h0 h1 h2 h3 h4 =>
    refine .inr ?_
    rw [h2.1] at hr
    cases hr
    refine ⟨rfl, ?_, h0⟩
    have hp := (hI.wld.work j p none (by rw [hL]; exact h2.1)).1
    have hne : p.ci ≠ p.ce := fun e => hI.wld.chans p hp p hp e.symm
    rw [offersAt_parked_at (k := 0) (z := zq) rfl fun m cc hm hcc => ?_]
    · simp
    · match m, hm, hcc with
      | 1, _, hcc =>
        simp at hcc
        subst hcc
        intro e; simp [rcase] at e; exact hne e.symm
      | m + 2, _, hcc => simp at hcc
  | parkA _ _ h3 _ _ => exact absurd h3 (noq _)
  | parkR _ _ h3 _ => exact absurd h3 (noq _)
  | semB h0 _ => exact absurd h0 hj0
  | semR h0 _ => exact absurd h0 hj0
  | quits _ h1 _ =>
    obtain ⟨⟨wa, zs, f, hl⟩, _⟩ := h1
    rw [hl] at hr; cases hr
/-- A pool that is ready and open has a worker that runs, or one that waits there. -/
theorem some_worker [Inhabited Base] (hR : ∀ p i g L, SelAt p i g L → idleL p i L → Rest P ap SelAt CI CW Q p i g L) (hS : ∀ (j : Nat) (g : Goroutine), gs[j]? = some g → Sit P ap SelAt CI CW Q (Γ 0).role.m.cl j g (Γ j) (wt j)) (hI : Inv ap gs.size Γ w t) {p : PoolG} (hp : p ∈ (Γ 0).role.m.ps) (hcl : (Γ 0).role.m.cl p.b = false) (hrd : (Γ 0).role.m.rd p.b = true) : (∃ (j : Nat) (g : Goroutine), gs[j]? = some g ∧ g.status = .running) ∨ ∃ (j : Nat) (g : Goroutine), gs[j]? = some g ∧ offersAt g p.ci false ≠ [] := by
  obtain ⟨_, _, _, _, _, _, h8, _⟩ := hI.wld.pools p hp
  obtain ⟨j, hj, hh⟩ := cnt_some (h8 hcl hrd)
  obtain ⟨g, hg⟩ : ∃ g, gs[j]? = some g := ⟨gs[j], Array.getElem?_eq_getElem hj⟩
  cases hr : (Γ j).role with
  | worker p' job =>
    rw [hr] at hh
    have hb : handsA p' = handsA p := by simpa [Role.holds] using hh
    have hb' : p'.b = p.b := by simp [handsA, ca] at hb; exact hb
    obtain ⟨hp', _⟩ := hI.wld.work j p' job hr
    obtain rfl := hI.wld.same p' hp' p hp (.inl hb')
    rcases worker_at hR hS hI hg hr with h | ⟨_, h, _⟩
    · exact .inl ⟨j, g, hg, h⟩
    · exact .inr ⟨j, g, hg, h⟩
  | main m => rw [hr] at hh; simp [Role.holds] at hh
  | asker A zs c f =>
    rw [hr] at hh
    have hb : groupA A = handsA p := by simpa [Role.holds] using hh
    simp [groupA, handsA, ca] at hb
  | left a b c d => rw [hr] at hh; simp [Role.holds] at hh
/-- Whoever asks does not wait in vain. -/
theorem asks_run [Inhabited Base] (hR : ∀ p i g L, SelAt p i g L → idleL p i L → Rest P ap SelAt CI CW Q p i g L) (hS : ∀ (j : Nat) (g : Goroutine), gs[j]? = some g → Sit P ap SelAt CI CW Q (Γ 0).role.m.cl j g (Γ j) (wt j)) (hI : Inv ap gs.size Γ w t) (hN : ∀ (c j k : Nat) (gj gk : Goroutine), gs[j]? = some gj → gs[k]? = some gk → offersAt gj c true ≠ [] → offersAt gk c false ≠ [] → False) (hB : ∀ (c j : Nat) (gj : Goroutine), gs[j]? = some gj → offersAt gj c false ≠ [] → ∀ v s r, ¬ IsCh w c 1 #[v] false s r) (hno : ∀ (i : Nat) (g : Goroutine), gs[i]? = some g → g.status ≠ .running) (j : Nat) (g : Goroutine) (Q : QSt) (hg : gs[j]? = some g) (hq : (Γ j).q = some Q) : False := by
  obtain ⟨p, cb, v, s⟩ := Q
  obtain ⟨⟨hp, hcl, hrd⟩, _, q3⟩ := hI.wld.q j _ hq
  have h := hS j g hg
  generalize hL : Γ j = L at h hq
  generalize wt j = m at h
  cases h with
  | run h1 _ => exact hno j _ hg h1
  | selW _ h1 _ h2 => exact hno j _ hg (hR _ _ _ _ h1 h2).1
  | parkW _ _ h2 _ _ => rw [h2.2.1] at hq; cases hq
  | @parkA g₀ _ c0 c' p' z zq cb' v' h1 h2 h3 h4 h5 =>
    rw [h3] at hq
    cases hq
    rcases some_worker hR hS hI hp hcl hrd with ⟨k, gk, hk, h⟩ | ⟨k, gk, hk, h⟩
    · exact hno k gk hk h
    · refine hN p.ci j k _ gk hg hk ?_ h
      simp [offersAt, parked, rcase, scase, Array.zipIdx]
  | @parkR g₀ _ c0 c' p' z cb' v' h1 h2 h3 h4 =>
    rw [h3] at hq
    cases hq
    rcases q3 rfl with ⟨k, b, hk⟩ | hc
    · have hkn : k < gs.size := Classical.byContradiction fun hn => by
        rw [hI.beyond k (by omega)] at hk; cases hk
      obtain ⟨gk, hgk⟩ : ∃ g, gs[k]? = some g := ⟨gs[k], Array.getElem?_eq_getElem hkn⟩
      rcases worker_at hR hS hI hgk hk with h | ⟨h, _⟩
      · exact hno k gk hgk h
      · cases h
    · refine hB cb j _ hg ?_ _ _ _ hc
      rw [offersAt_parked_recv, if_pos rfl]; simp
  | semB h0 hs =>
    obtain ⟨_, _, wa, _, hq0, _⟩ := hs
    rw [hq0] at hq; cases hq
  | semR => exact hno j _ hg rfl
  | quits _ h1 _ => rw [h1.2] at hq; cases hq
/-- Somebody can go on. -/
theorem progress [Inhabited Base] (hR : ∀ p i g L, SelAt p i g L → idleL p i L → Rest P ap SelAt CI CW Q p i g L) (hS : ∀ (j : Nat) (g : Goroutine), gs[j]? = some g → Sit P ap SelAt CI CW Q (Γ 0).role.m.cl j g (Γ j) (wt j)) (hI : Inv ap gs.size Γ w t) (hN : ∀ (c j k : Nat) (gj gk : Goroutine), gs[j]? = some gj → gs[k]? = some gk → offersAt gj c true ≠ [] → offersAt gk c false ≠ [] → False) (hB : ∀ (c j : Nat) (gj : Goroutine), gs[j]? = some gj → offersAt gj c false ≠ [] → ∀ v s r, ¬ IsCh w c 1 #[v] false s r) (hU : ∀ (g : Goroutine) (wa : Addr), gs[0]? = some g → g.status = .blocked → g.offers = none → (Γ 0).role.m.reg = some wa → CellI w (sem wa) .u32 0) : ∃ (i : Nat) (g : Goroutine), gs[i]? = some g ∧ g.status = .running := by
  apply Classical.byContradiction
  intro hno'
  have hno : ∀ (i : Nat) (g : Goroutine), gs[i]? = some g → g.status ≠ .running := fun i g hg h => hno' ⟨i, g, hg, h⟩
  have asks := asks_run hR hS hI hN hB hno
  -- whoever is counted by the group that main waits at runs
  have inGroup : ∀ wa, (Γ 0).role.m.reg = some wa → ∀ j, j < gs.size → (Γ j).role.holds wa = true → False := fun wa hreg j hj hh => by
    obtain ⟨g, hg⟩ : ∃ g, gs[j]? = some g := ⟨gs[j], Array.getElem?_eq_getElem hj⟩
    cases hr : (Γ j).role with
    | worker p' job =>
      rcases worker_at hR hS hI hg hr with h | ⟨_, _, hcl⟩
      · exact hno j g hg h
      · rw [hr] at hh
        have hb : handsA p' = wa := by simpa [Role.holds] using hh
        obtain ⟨_, ⟨e, he, _, he2, he3⟩ | ⟨A, sp, _, he2⟩⟩ := hI.regs wa hreg
        · have hb' : p'.b = e.b := by rw [he2] at hb; simp [handsA, ca] at hb; exact hb
          rw [hb', he3] at hcl; cases hcl
        · rw [he2] at hb; simp [handsA, groupA, ca] at hb
    | asker A zs c f =>
      have h := hS j g hg
      generalize hL : Γ j = L at h hr
      generalize wt j = m at h
      cases h with
      | run h1 _ => exact hno j _ hg h1
      | selW _ h1 _ h2 => exact hno j _ hg (hR _ _ _ _ h1 h2).1
      | parkW _ _ h2 _ _ => rw [h2.1] at hr; cases hr
      | parkA _ _ h3 _ _ => exact asks j _ _ hg (by rw [hL]; exact h3)
      | parkR _ _ h3 _ => exact asks j _ _ hg (by rw [hL]; exact h3)
      | semB h0 _ =>
        obtain ⟨m, hm⟩ := (hI.main j).2 h0
        rw [hL, hr] at hm; cases hm
      | semR => exact hno j _ hg rfl
      | quits _ h1 _ =>
        obtain ⟨⟨wa, zs, f, hl⟩, _⟩ := h1
        rw [hl] at hr; cases hr
    | main m => rw [hr] at hh; simp [Role.holds] at hh
    | left a b c d => rw [hr] at hh; simp [Role.holds] at hh
  have inLast : ∀ wa j, j < gs.size → (Γ j).role.lastS wa ≠ 0 → False := fun wa j hj hh => by
    obtain ⟨g, hg⟩ : ∃ g, gs[j]? = some g := ⟨gs[j], Array.getElem?_eq_getElem hj⟩
    cases hr : (Γ j).role with
    | left wa' zs f s =>
      rw [hr] at hh
      have hs : s ≠ 0 := by
        simp only [Role.lastS] at hh
        by_cases e : wa' = wa
        · rw [if_pos e] at hh; exact hh
        · rw [if_neg e] at hh; exact absurd rfl hh
      have h := hS j g hg
      generalize hL : Γ j = L at h hr
      generalize wt j = m at h
      cases h with
      | run h1 _ => exact hno j _ hg h1
      | selW _ h1 _ h2 => exact hno j _ hg (hR _ _ _ _ h1 h2).1
      | parkW _ _ h2 _ _ => rw [h2.1] at hr; cases hr
      | parkA _ _ h3 _ _ => exact asks j _ _ hg (by rw [hL]; exact h3)
      | parkR _ _ h3 _ => exact asks j _ _ hg (by rw [hL]; exact h3)
      | semB h0 _ =>
        obtain ⟨m, hm⟩ := (hI.main j).2 h0
        rw [hL, hr] at hm; cases hm
      | semR => exact hno j _ hg rfl
      | quits _ h1 _ =>
        obtain ⟨⟨wa, zs, f, hl⟩, _⟩ := h1
        rw [hl] at hr
        cases hr
        exact hs rfl
    | worker p' job => rw [hr] at hh; exact hh rfl
    | asker A zs c f => rw [hr] at hh; exact hh rfl
    | main m => rw [hr] at hh; exact hh rfl
  obtain ⟨g, hg⟩ : ∃ g, gs[0]? = some g := ⟨gs[0]'hI.pos, Array.getElem?_eq_getElem hI.pos⟩
  have h := hS 0 g hg
  generalize hL : Γ 0 = L at h
  generalize wt 0 = m at h
  cases h with
  | run h1 _ => exact hno 0 _ hg h1
  | selW _ h1 _ h2 => exact hno 0 _ hg (hR _ _ _ _ h1 h2).1
  | parkW _ _ h2 _ _ => exact h2.2.2 rfl
  | parkA _ _ h3 _ _ => exact asks 0 _ _ hg (by rw [hL]; exact h3)
  | parkR _ _ h3 _ => exact asks 0 _ _ hg (by rw [hL]; exact h3)
  | semR => exact hno 0 _ hg rfl
  | quits h0 _ _ => exact h0 rfl
  | @semB g₀ _ c0 h0 hs =>
    obtain ⟨_, _, wa, hreg, _⟩ := hs
    rw [← hL] at hreg
    have hsm := hU _ wa hg rfl rfl hreg
    have hwg : WgOk gs.size Γ w wa := by
      obtain ⟨_, ⟨e, he, _, rfl, _⟩ | ⟨A, sp, hA, rfl⟩⟩ := hI.regs wa hreg
      · exact (hI.wld.pools e he).2.2.2.2.2.1
      · exact (hI.wld.all A sp hA).2.2.2.2.1
    obtain ⟨st, sm, v, _, a2, a3, a4⟩ := hwg
    have hsm0 : sm = 0 := by
      have := hsm.1
      rw [a2.1] at this
      cases this; rfl
    rcases a4 with ⟨b1, _⟩ | ⟨_, _, b3, _⟩ | ⟨_, _, ⟨j, hj, b3, _⟩, _⟩ | ⟨_, _, _, _, b5⟩
    · exact b1 hreg
    · rw [(hI.regs wa hreg).1, if_neg (by simp)] at a3
      have hv : 1 ≤ cnt gs.size fun j => (Γ j).role.holds wa := by rw [a3] at b3; exact b3
      obtain ⟨j, hj, hh⟩ := cnt_some hv
      exact inGroup wa hreg j hj hh
    · refine inLast wa j hj ?_
      rcases b3 with ⟨e, _⟩ | ⟨e, _⟩ <;> rw [e] <;> simp
    · rw [hsm0] at b5; cases b5
end
end
end Go.Proofs.Ytaceedenkmccdaa
/- Pools: whatever the tape, the run ends, and ends well: the machine's step. -/
namespace Go.Proofs.Ytaceedenkmccdaa
open Go Go.Conc Go.ConcN
set_option linter.unusedSimpArgs false
set_option linter.unusedVariables false
section
variable {ap : Nat → Int → Int} {n : Nat} {Γ Γ' : Nat → Lo} {w w' : World} {t u : Trace}
/-- The same but how deaf. -/
def Lo.deafen (L : Lo) (d : Nat) : Lo := { L with d := d }
/-- A goroutine says 'disable' or 'enable', or nothing. -/
theorem Inv.mute [Inhabited Base] (h : Inv ap n Γ w t) {i d' : Nat} (hi : i < n) (hu : ∀ op ∈ u, op.g = i ∧ op.act.touch? = none ∧ (∀ a, op.act ≠ .mark (.release a)) ∧ op.act.low w.heap.size) (hd : Deaf (t ++ u) i = d') : Inv ap n (upd Γ i ((Γ i).deafen d')) w (t ++ u) := by
  have eM : ∀ j, (upd Γ i ((Γ i).deafen d') j).M = (Γ j).M ∧ (upd Γ i ((Γ i).deafen d') j).R = (Γ j).R ∧ (upd Γ i ((Γ i).deafen d') j).V = (Γ j).V ∧ (upd Γ i ((Γ i).deafen d') j).S = (Γ j).S ∧ (upd Γ i ((Γ i).deafen d') j).h = (Γ j).h ∧ (upd Γ i ((Γ i).deafen d') j).role = (Γ j).role ∧ (upd Γ i ((Γ i).deafen d') j).q = (Γ j).q := fun j => by
    rcases upd_eq Γ i ((Γ i).deafen d') j with ⟨e, rfl⟩ | ⟨e, _⟩
    · rw [e]; exact ⟨rfl, rfl, rfl, rfl, rfl, rfl, rfl⟩
    · rw [e]; exact ⟨rfl, rfl, rfl, rfl, rfl, rfl, rfl⟩
  have hno : ∀ op ∈ u, op.act.touch? = none := fun op hop => (hu op hop).2.1
  have hdj : ∀ j, Deaf (t ++ u) j = (upd Γ i ((Γ i).deafen d') j).d := fun j => by
    rcases upd_eq Γ i ((Γ i).deafen d') j with ⟨e, ej⟩ | ⟨e, hj⟩
    · rw [e, ej]; exact hd
    · rw [e, ← h.deaf j]
      exact Deaf_other t (Ne.symm hj) u fun op hop => (hu op hop).1
  have hbey : ∀ j, n ≤ j → upd Γ i ((Γ i).deafen d') j = Lo.nil := fun j hj => by rw [upd_ne _ _ (by omega)]; exact h.beyond j hj
  have hw : Wld ap n (upd Γ i ((Γ i).deafen d')) w := h.wld.keep (fun j => ⟨(eM j).2.2.2.2.2.1, (eM j).2.2.2.2.2.2⟩) (fun a _ => ⟨rfl, rfl⟩) (fun c cap buf cl s r tm e => e) (fun j A z _ hm => by rw [(eM j).1]; exact hm) (fun j a _ hj => by rw [(eM j).1, (eM j).2.1] at hj; exact hj) (fun j wa zs f s _ u hu => by rw [(eM j).2.2.2.1] at hu; exact hu)
  generalize upd Γ i ((Γ i).deafen d') = Γ' at eM hdj hbey hw ⊢
  have e1 : (fun j => (Γ' j).M) = fun j => (Γ j).M := funext fun j => (eM j).1
  have e2 : (fun j => (Γ' j).R) = fun j => (Γ j).R := funext fun j => (eM j).2.1
  have e3 : (fun j => (Γ' j).h) = fun j => (Γ j).h := funext fun j => (eM j).2.2.2.2.1
  have er : ∀ j, (Γ' j).role = (Γ j).role := fun j => (eM j).2.2.2.2.2.1
  refine ⟨h.pos, h.old, ?_, ?_, hdj, fun j a hj => ?_, fun a ha => ?_, fun j a hj => ?_, fun j => ?_, hbey, fun j => ?_, ?_, fun j wa zs f s h0 hj hr => ?_, fun j wa h0 hr => ?_, fun j wa r hr => ?_, ?_, fun j wa zs f s hr hs => ?_, fun A sp hA z hz hdz => ?_, hw⟩
  · rw [e1, e2, e3, er]
    exact h.tr.mute fun op hop => ⟨by rw [(hu op hop).1]; exact hi, (hu op hop).2⟩
  · rw [e1, e2, er]; exact h.apart
  · rw [(eM j).1, (eM j).2.1] at hj; exact h.blk j a hj
  · rw [er] at ha; exact h.blkA a ha
  · rw [(eM j).2.2.1] at hj
    rw [(eM j).1]
    exact ⟨(h.virg j a hj).1, fun idx x hx => (touch_old_or hx).elim (fun y => (h.virg j a hj).2 idx x y.2) fun ⟨_, op, hop, hxo, _⟩ => by rw [hno op hop] at hxo; cases hxo⟩
  · rw [(eM j).2.2.2.1]; exact h.know j
  · rw [er]; exact h.main j
  · rw [(eM 0).2.2.2.2.1]; exact h.main0
  · rw [er] at hr; rw [(eM j).2.2.2.2.1, er]; exact h.left j wa zs f s h0 hj hr
  · rw [er] at hr; rw [(eM j).2.2.2.2.1]; exact h.held j wa h0 hr
  · rw [(eM j).2.2.2.2.1] at hr; rw [er]; exact h.rels j wa r hr
  · rw [er]; exact h.regs
  · rw [er] at hr; rw [er]; exact h.lst j wa zs f s hr hs
  · rw [er] at hA ⊢
    obtain ⟨v1, v2, v3⟩ := h.virgin A sp hA z hz hdz
    exact ⟨v1, v2, fun idx x hx => (touch_old_or hx).elim (fun y => v3 idx x y.2) fun ⟨_, op, hop, hxo, _⟩ => by rw [hno op hop] at hxo; cases hxo⟩
theorem mute_ok {e : Event} (h : e.mute = true) (B : Nat) : (MemAct.ofEvent e).touch? = none ∧ (∀ a, MemAct.ofEvent e ≠ .mark (.release a)) ∧ (MemAct.ofEvent e).low B := by
  refine ⟨touch_mute h, fun a he => ?_, low_mute h B⟩
  obtain ⟨loc, wr, sy⟩ := e
  cases loc <;> simp_all [Event.mute]
  rename_i m
  cases m <;> simp_all [MemAct.ofEvent]
end
section
variable {P : Program} {ap : Nat → Int → Int} {SelAt : PoolG → Nat → Goroutine → Lo → Prop} {CI CW : Nat} {Q : Value → World → Prop}
variable {Γ Γ' : Nat → Lo} {gs gs' : Array Goroutine} {w w' : World} {sl : Option (Nat × Nat)} {wt : Nat → Nat} {t t' : Trace}
theorem off_not {g : Goroutine} (h : g.status ≠ .blocked) : ∀ c b, offersAt g c b = [] := fun c b => offersAt_of_not_blocked h _ _
theorem fired {g g' : Goroutine} (h : mayWake P g = true) (hs : g'.status = .running ∨ g'.status = .finished) : (mayWake P g && g'.status != .blocked && g'.status != .waiting) = true := by
  rcases hs with e | e <;> rw [h, e] <;> rfl
theorem wakes_fired [Inhabited Base] {g g' : Goroutine} (h : Wakes P g Γ Γ' w w') (hs : g'.status = .running ∨ g'.status = .finished) : (mayWake P g && g'.status != .blocked && g'.status != .waiting) = true ∨ ((Γ' 0).role.m.cl = (Γ 0).role.m.cl ∧ ∀ wa, (Γ 0).role.m.reg = some wa → CellI w (sem wa) .u32 0 → CellI w' (sem wa) .u32 0) :=
  h.imp (fun x => fired x hs) id
section
/-- A go statement. -/
theorem mi_spawn [Inhabited Base] (hR : ∀ p i g L, SelAt p i g L → idleL p i L → Rest P ap SelAt CI CW Q p i g L) (hS : ∀ (j : Nat) (g : Goroutine), gs[j]? = some g → Sit P ap SelAt CI CW Q (Γ 0).role.m.cl j g (Γ j) (wt j)) (hI : Inv ap gs.size Γ w t) (hN : ∀ (c j k : Nat) (gj gk : Goroutine), gs[j]? = some gj → gs[k]? = some gk → offersAt gj c true ≠ [] → offersAt gk c false ≠ [] → False) (hB : ∀ (c j : Nat) (gj : Goroutine), gs[j]? = some gj → offersAt gj c false ≠ [] → ∀ v s r, ¬ IsCh w c 1 #[v] false s r) (hU : ∀ (g : Goroutine) (wa : Addr), gs[0]? = some g → g.status = .blocked → g.offers = none → (Γ 0).role.m.reg = some wa → CellI w (sem wa) .u32 0) {g g' child : Goroutine} {es : Array Event} {c c1 c2 : Nat} (hi : gs[0]? = some g) (hst : stepG P true g w = .spawn g' child w' es)
    (hI' : Inv ap (gs.size + 1) Γ' w' (t ++ ((opsOf 0 g es).push { g := 0, fn := g.frame.fn, pos := g.frame.place, act := .go gs.size } |>.push { g := gs.size, fn := child.frame.fn, pos := g.frame.place, act := .start })))
    (hO : ∀ j, j ≠ 0 → j ≠ gs.size → Γ' j = Γ j) (hcl : (Γ' 0).role.m.cl = (Γ 0).role.m.cl) (hf : NoFill w w') (hc : c1 + c2 < c) (h1 : Safe P ap SelAt CI CW Q 0 c1 g' (Γ' 0)) (h2 : Safe P ap SelAt CI CW Q gs.size c2 child (Γ' gs.size)) (hw : wt 0 = 4 * c + 3) :
    ∃ m' ops μ', runT P (crowd gs w sl) 0 = (.next m', ops) ∧ μ' < sumTo gs.size wt ∧ MInv P ap SelAt CI CW Q w μ' m' (t ++ ops) := by
  obtain ⟨hlt, _⟩ := Array.getElem?_eq_some_iff.1 hi
  have hrun := runT_crowd_spawn (P := P) (sl := sl) hi (show stepG P (0 == 0) g w = _ from hst)
  have hsz : ((gs.setIfInBounds 0 g').push child).size = gs.size + 1 := by simp
  have hget : ∀ k : Nat, ((gs.setIfInBounds 0 g').push child)[k]? = if k = gs.size then some child else if k = 0 then some g' else gs[k]? := fun k => by
    by_cases e : k = gs.size
    · subst e; rw [if_pos rfl]; simp [Array.getElem?_push, Array.getElem_push]
    · rw [if_neg e]
      have : ((gs.setIfInBounds 0 g').push child)[k]? = (gs.setIfInBounds 0 g')[k]? := by
        simp [Array.getElem?_push, e]
      rw [this]
      by_cases e' : k = 0
      · subst e'; rw [if_pos rfl, Array.getElem?_setIfInBounds_self_of_lt hlt]
      · rw [if_neg e', Array.getElem?_setIfInBounds_ne (Ne.symm e')]
  have r1 := SafeRun hR h1
  have r2 := SafeRun hR h2
  have o1 : ∀ c b, offersAt g' c b = [] := off_not (by rw [r1]; simp)
  have o2 : ∀ c b, offersAt child c b = [] := off_not (by rw [r2]; simp)
  have s1 := sumTo_upd wt (4 * c1 + 3) (fun x => x) hlt
  have s2 := sumTo_upd_out (upd wt 0 (4 * c1 + 3)) (4 * c2 + 3) (fun x => x) (i := gs.size) (j := gs.size) (Nat.le_refl _)
  have hold : ∀ (c k : Nat) (gk : Goroutine) (b : Bool), ((gs.setIfInBounds 0 g').push child)[k]? = some gk → offersAt gk c b ≠ [] → gs[k]? = some gk := fun c k gk b hk hne => by
    rw [hget] at hk
    by_cases e : k = gs.size
    · rw [if_pos e] at hk; cases hk; exact absurd (o2 c b) hne
    · rw [if_neg e] at hk
      by_cases e' : k = 0
      · rw [if_pos e'] at hk; cases hk; exact absurd (o1 c b) hne
      · rw [if_neg e'] at hk; exact hk
  refine ⟨_, _, sumTo (gs.size + 1) (upd (upd wt 0 (4 * c1 + 3)) gs.size (4 * c2 + 3)), hrun, ?_, ⟨Γ', _, w', sl, upd (upd wt 0 (4 * c1 + 3)) gs.size (4 * c2 + 3), rfl, by rw [hsz]; exact hI', fun k gk hk => ?_, fun c a b ga gb ha hb n1 n2 => ?_, fun c k gk hk n1 v s r hc => ?_, fun g1 wa hg1 hb ho hreg => ?_, hf.os, by rw [hsz]⟩⟩
  · have e1 : sumTo (gs.size + 1) (upd (upd wt 0 (4 * c1 + 3)) gs.size (4 * c2 + 3)) = sumTo gs.size (upd (upd wt 0 (4 * c1 + 3)) gs.size (4 * c2 + 3)) + (4 * c2 + 3) := by rw [sumTo, upd_same]
    have e2 : sumTo gs.size (upd (upd wt 0 (4 * c1 + 3)) gs.size (4 * c2 + 3)) = sumTo gs.size fun a => upd (upd wt 0 (4 * c1 + 3)) gs.size (4 * c2 + 3) a := rfl
    have e3 : sumTo gs.size wt = sumTo gs.size fun a => wt a := rfl
    have e4 : (sumTo gs.size fun a => upd wt 0 (4 * c1 + 3) a) = sumTo gs.size fun a => (fun x => x) (upd wt 0 (4 * c1 + 3) a) := rfl
    omega
  · rw [hget] at hk
    rw [hcl]
    by_cases e : k = gs.size
    · subst e
      rw [if_pos rfl] at hk; cases hk
      rw [upd_same]; exact .run r2 h2
    · rw [if_neg e] at hk
      by_cases e' : k = 0
      · subst e'
        rw [if_pos rfl] at hk; cases hk
        rw [upd_ne _ _ e, upd_same]; exact .run r1 h1
      · rw [if_neg e'] at hk
        rw [upd_ne _ _ e, upd_ne _ _ e', hO k e' e]; exact hS k gk hk
  · exact hN c a b ga gb (hold c a ga _ ha n1) (hold c b gb _ hb n2) n1 n2
  · exact hB c k gk (hold c k gk _ hk n1) n1 v s r (hf.fill c v s r hc)
  · rw [hget] at hg1
    rw [if_neg (by omega), if_pos rfl] at hg1
    cases hg1
    rw [r1] at hb; cases hb
/-- Main at the semaphore. -/
theorem step_sem [Inhabited Base] (hR : ∀ p i g L, SelAt p i g L → idleL p i L → Rest P ap SelAt CI CW Q p i g L) (hS : ∀ (j : Nat) (g : Goroutine), gs[j]? = some g → Sit P ap SelAt CI CW Q (Γ 0).role.m.cl j g (Γ j) (wt j)) (hI : Inv ap gs.size Γ w t) (hN : ∀ (c j k : Nat) (gj gk : Goroutine), gs[j]? = some gj → gs[k]? = some gk → offersAt gj c true ≠ [] → offersAt gk c false ≠ [] → False) (hB : ∀ (c j : Nat) (gj : Goroutine), gs[j]? = some gj → offersAt gj c false ≠ [] → ∀ v s r, ¬ IsCh w c 1 #[v] false s r) (hU : ∀ (g : Goroutine) (wa : Addr), gs[0]? = some g → g.status = .blocked → g.offers = none → (Γ 0).role.m.reg = some wa → CellI w (sem wa) .u32 0) {g : Goroutine} {c m : Nat} (hi : gs[0]? = some g) (hsem : SemAt P ap SelAt CI CW Q c g (Γ 0)) (hw : 4 * c + 1 ≤ wt 0) :
    ∃ m' ops μ', runT P (crowd gs w sl) 0 = (.next m', ops) ∧ μ' < sumTo gs.size wt ∧ MInv P ap SelAt CI CW Q w μ' m' (t ++ ops) := by
  have hsem0 := hsem
  obtain ⟨hrun, hnl, wa, hreg, hq, h0, h1⟩ := hsem
  have hwg : WgOk gs.size Γ w wa := by
    obtain ⟨_, ⟨e, he, _, rfl, _⟩ | ⟨A, sp, hA, rfl⟩⟩ := hI.regs wa hreg
    · exact (hI.wld.pools e he).2.2.2.2.2.1
    · exact (hI.wld.all A sp hA).2.2.2.2.1
  obtain ⟨st, sm, v, _, a2, a3, a4⟩ := hwg
  have hsm : sm = 0 ∨ sm = 1 := by
    rcases a4 with ⟨_, _, _, e⟩ | ⟨_, _, _, _, e⟩ | ⟨_, _, _, e⟩ | ⟨_, _, _, _, e⟩
    · exact .inl e
    · exact .inl e
    · exact .inl e
    · exact .inr e
  rcases hsm with rfl | rfl
  · have hst := h0 w a2
    have hI' : Inv ap gs.size Γ w (t ++ opsOf 0 g #[]) := by rw [opsOf_nil, Array.append_empty]; exact hI
    exact mi_go (sl := sl) hR hS hN hB (⟨Aged.refl _, fun _ _ _ _ h => h⟩) hU (i := 0) (g' := { g with status := .blocked, offers := none }) (m := 4 * c) hi (show stepG P (0 == 0) g w = _ from hst) hI' (fun j _ => .inl rfl) (.inr ⟨rfl, fun _ _ h => h⟩) (fun _ _ wa' hr => by rw [hreg] at hr; cases hr; exact a2) (fun b h => h)
      (.semB rfl hsem0) (by rw [if_pos rfl]; omega) (fun c b => by simp [offersAt])
  · obtain ⟨g', w', es, Γ', hst, hI', hO, hcl, hf, hnl', c', hc', hsafe⟩ := h1 gs.size Γ w t hI rfl a2
    have hr := SafeRun hR hsafe
    exact mi_go (sl := sl) hR hS hN hB hf hU (i := 0) (g' := g') (m := 4 * c' + 3) hi (show stepG P (0 == 0) g w = _ from hst) hI' hO (by
      by_cases hm : mayWake P g = true
      · exact .inl (fired hm (.inl hr))
      · refine .inr ⟨hcl, fun wa' hreg' h0' => ?_⟩
        rw [hreg] at hreg'
        cases hreg'
        have := h0'.1
        rw [a2.1] at this; cases this) (fun _ hb => by rw [hr] at hb; cases hb) (fun b h => by rw [hcl]; exact h) (.run hr hsafe) (by rw [if_pos rfl]; omega) (off_not (by rw [hr]; simp))
end
theorem MInv.aged [Inhabited Base] {O w : World} {μ : Nat} {m : Machine} {t : Trace} (h : Aged O w) (hm : MInv P ap SelAt CI CW Q w μ m t) : MInv P ap SelAt CI CW Q O μ m t := by
  obtain ⟨Γ, gs, w', sl, wt, h1, h2, h3, h4, h5, h6, h7, h8⟩ := hm
  exact ⟨Γ, gs, w', sl, wt, h1, h2, h3, h4, h5, h6, h.trans h7, h8⟩
/-- EVERY STEP OF THE MACHINE. -/
theorem machine_step [Inhabited Base] (hR : ∀ p i g L, SelAt p i g L → idleL p i L → Rest P ap SelAt CI CW Q p i g L) (O : World) (μ : Nat) (m : Machine) (t : Trace) (h : MInv P ap SelAt CI CW Q O μ m t) :
    (∃ o w ops, stepT P m = (.ended o w, ops) ∧ Good P (fun v w => Q v w ∧ Aged O w) m o w (t ++ ops)) ∨ ∃ m' ops μ', stepT P m = (.next m', ops) ∧ μ' < μ ∧ MInv P ap SelAt CI CW Q O μ' m' (t ++ ops) := by
  obtain ⟨Γ, gs, w, sl, wt, rfl, hI, hS, hN, hB, hU, hos, rfl⟩ := h
  obtain ⟨i, g, d, sl', hg, hrun, hstep⟩ := crowd_pick (P := P) (w := w) (sl := sl) (fun g hg => by
    obtain ⟨j, hj, rfl⟩ := Array.mem_iff_getElem.1 hg
    exact sit_awake hR (hS j _ (Array.getElem?_eq_getElem hj))) (progress hR hS hI hN hB hU)
  rw [hstep]
  have hI := hI.at d
  have hB : ∀ (c j : Nat) (gj : Goroutine), gs[j]? = some gj → offersAt gj c false ≠ [] → ∀ v s r, ¬ IsCh (w.at d) c 1 #[v] false s r := hB
  have hU : ∀ (g : Goroutine) (wa : Addr), gs[0]? = some g → g.status = .blocked → g.offers = none → (Γ 0).role.m.reg = some wa → CellI (w.at d) (sem wa) .u32 0 := hU
  have hos : Aged O (w.at d) := hos.trans (Aged.at w d)
  generalize w.at d = w at hI hB hU hos
  suffices hsuf : _ ∨ ∃ m' ops μ', runT P (crowd gs w sl') i = (.next m', ops) ∧ μ' < sumTo gs.size wt ∧ MInv P ap SelAt CI CW Q w μ' m' (t ++ ops) from hsuf.imp id fun ⟨m', ops, μ', a, b, c⟩ => ⟨m', ops, μ', a, b, c.aged hos⟩
  obtain ⟨hlt, _⟩ := Array.getElem?_eq_some_iff.1 hg
  have hs := hS i g hg
  generalize hL : Γ i = L at hs
  generalize hm : wt i = m at hs
  cases hs with
  | @run _ _ c h1 hf =>
    unfold Safe at hf
    rcases hf with ⟨p, hsel, hc, hid⟩ | ⟨_, hnl, hmove⟩
    · exact .inr (step_sel hR hS hI hN hB hU hg (by rw [hL]; exact hsel) hc (by rw [hL]; exact hid) (by omega) (fun _ => by omega))
    rcases hmove gs.size Γ w t hI hL hlt with ⟨g', w', es, Γ', hst, hI', hO, hwk, hmono, hfill, ⟨c', hc', hsafe⟩, hnl'⟩ | ⟨g', w', es, Γ', hst, hI', hO, hwk, hmono, hfill, hi0, hlf, c', hc', hq⟩ | ⟨rfl, g', child, w', es, Γ', hst, hI', hO, hcl, hfill, _, _, c1, c2, hc', hs1, hs2⟩ |
      ⟨g₂, z, p, hp, hst, c', hc', hsafe⟩ | ⟨g₂, z, zq, p, cb, v, hst, hq, hmay, c', hc', hsafe⟩ | ⟨g₂, z, p, cb, v, hst, hq, c', hc', hsafe⟩ | ⟨g₂, z, p, cb, v, hst, hwk, hq, c', hc', hsafe⟩ | ⟨rfl, wa, hreg, hq, h0, h1'⟩ | ⟨rfl, v, w', es, hst, hQ, hos', hal, hreg, hfin, hI'⟩
    · have hr := SafeRun hR hsafe
      exact .inr (mi_go (sl := sl') hR hS hN hB hfill hU hg hst hI' hO (wakes_fired hwk (.inl hr)) (fun _ hb => by rw [hr] at hb; cases hb) hmono (.run hr hsafe) (by split <;> omega) (off_not (by rw [hr]; simp)))
    · have hr := hq.status
      exact .inr (mi_go (sl := sl') hR hS hN hB hfill hU hg hst hI' hO (wakes_fired hwk hr) (fun e => absurd e hi0) hmono (.quits hi0 hlf hq) (by rw [if_neg hi0]; omega) (off_not (by rcases hr with e | e <;> rw [e] <;> simp)))
    · exact .inr (mi_spawn hR hS hI hN hB hU hg hst hI' hO hcl hfill hc' hs1 hs2 hm)
    · exact .inr (step_peek hR hS hI hN hB hU hg hp hst hc' (by rw [hL]; exact hsafe) hm)
    · exact .inr (step_ask hR hS hI hN hB hU hg hst (by rw [hL]; exact hnl) (by rw [hL]; exact hq) (by rw [hL]; exact hmay) hc' (by rw [hL]; exact hsafe) hm)
    · exact .inr (step_recv hR hS hI hN hB hU hg hst (by rw [hL]; exact hnl) (by rw [hL]; exact hq) hc' (by rw [hL]; exact hsafe) hm)
    · exact .inr (step_send hR hS hI hN hB hU hg hst (by rw [hL]; exact hwk) (by rw [hL]; exact hq) hc' (by rw [hL]; exact hsafe) hm)
    · exact .inr (step_sem (m := 0) hR hS hI hN hB hU hg (c := c) (by rw [hL]; exact ⟨h1, hnl, wa, hreg, hq, h0, h1'⟩) (by omega))
    · refine .inl ⟨_, _, _, runT_many_ended (sl := sl') hg (show stepG P (0 == 0) g w = _ from hst), v, rfl, ⟨hQ, hos.trans hos'⟩, hI'.tr.clean, ?_, ⟨fun g' hg' => ?_, rfl⟩, fun j g' hj hj0 => ?_⟩
      all_goals
        have hlefts : ∀ j, 0 < j → j < gs.size → (∃ wa zs f, (Γ j).role = .left wa zs f 0) ∧ (Γ j).h = .over := fun j h0 hj => by
          cases hr : (Γ j).role with
          | main m => exact absurd ((hI.main j).1 ⟨m, hr⟩) (by omega)
          | worker p job =>
            obtain ⟨hp, _⟩ := hI.wld.work j p job hr
            have := ((hI.wld.pools p hp).2.2.2.2.2.2.2 (by rw [hL]; exact hfin p (by rw [← hL]; exact hp))).2
            have := cnt_pos (f := fun j => (Γ j).role.holds (handsA p)) hj (by simp only [hr, Role.holds, decide_true])
            omega
          | asker A zs cur f => exact absurd hr (hI.wld.noall (by rw [hL]; exact hal) j A zs cur f)
          | left wa zs f s =>
            refine ⟨⟨wa, zs, f, ?_⟩, ?_⟩
            · rcases Nat.eq_zero_or_pos s with e | e
              · rw [e]
              · have := hI.lst j wa zs f s hr e
                rw [hL, hreg] at this; cases this
            · rcases hI.left j wa zs f s h0 hj hr with e | ⟨_, ⟨e, he, he2, _⟩ | ⟨A, sp, he, _⟩⟩
              · exact e.1
              · rw [hL] at he he2
                rw [hfin e he] at he2; cases he2
              · rw [hL, hal] at he; cases he
        have hquit : ∀ (j : Nat) (g' : Goroutine), gs[j]? = some g' → 0 < j → ∃ k, QuitsD P k (Γ j).d g' := fun j g' hg' hj => by
          obtain ⟨hlj, _⟩ := Array.getElem?_eq_some_iff.1 hg'
          obtain ⟨⟨wa, zs, f, hr⟩, _⟩ := hlefts j hj hlj
          have hsj := hS j g' hg'
          have hqn : (Γ j).q = none := by
            cases hq : (Γ j).q with
            | none => rfl
            | some Q =>
              rcases hI.wld.qwho j Q hq with e | ⟨A, zs, cur, f, hm⟩
              · omega
              · rw [hr] at hm; cases hm
          have hlf : Lefty (Γ j) := ⟨⟨wa, zs, f, hr⟩, hqn⟩
          generalize hLj : Γ j = Lj at hsj hlf hr hqn
          generalize wt j = mj at hsj
          cases hsj with
          | run hs hf =>
            unfold Safe at hf
            rcases hf with ⟨p, _, _, hi⟩ | ⟨_, hn, _⟩
            · rw [hi.1] at hr; cases hr
            · exact absurd hlf hn
          | parkW _ _ hi _ _ => rw [hi.1] at hr; cases hr
          | selW _ _ _ hi => rw [hi.1] at hr; cases hr
          | parkA hn => exact absurd hlf hn
          | parkR hn => exact absurd hlf hn
          | semB e _ => omega
          | semR e _ => omega
          | quits _ _ hq => exact ⟨_, hq⟩
      · exact hI'.tr.handedOver fun j h0 hj => (hlefts j h0 hj).2
      · obtain ⟨k, hk, rfl⟩ := List.mem_iff_getElem.1 hg'
        rw [List.getElem_drop]
        have hk' : 1 + k < gs.size := by simp [crowd] at hk; omega
        obtain ⟨kq, hq⟩ := hquit (1 + k) gs[1 + k] (Array.getElem?_eq_getElem hk') (by omega)
        exact ⟨kq, by simpa [crowd] using hq.leaves⟩
      · obtain ⟨kq, hq⟩ := hquit j g' hj (by omega)
        refine ⟨kq, ?_⟩
        have this : Deaf (t ++ MemOp.ofEvents 0 g.frame.fn g.frame.place es) j = (Γ j).d := hI'.deaf j
        rw [show Trace.deaf _ j _ = Deaf _ j from rfl, this]
        exact hq.hears _
  | @selW _ _ c p hcl hsel hc hid =>
    exact .inr (step_sel hR hS hI hN hB hU hg (by rw [hL]; exact hsel) hc (by rw [hL]; exact hid) (by omega) (fun e => by rw [hcl] at e; cases e))
  | parkW => cases hrun
  | parkA => cases hrun
  | parkR => cases hrun
  | semB => cases hrun
  | @semR g₀ _ c h0 hsem =>
    subst h0
    have hs2 : SemAt P ap SelAt CI CW Q c { g₀ with status := .running, offers := none } L := by
      obtain ⟨h1, h2, wa, h3, h4, h5, h6⟩ := hsem
      have hsame : ∀ w, stepG P true { g₀ with status := .running, offers := none } w = stepG P true g₀ w := fun w => stepG_same rfl rfl rfl w
      exact ⟨rfl, h2, wa, h3, h4, fun w hw => by rw [hsame]; exact h5 w hw, fun n Γ w t a b e => by
        obtain ⟨g', w', es, Γ', x1, x2⟩ := h6 n Γ w t a b e
        exact ⟨g', w', es, Γ', by rw [hsame]; exact x1, x2⟩⟩
    exact .inr (step_sem (m := 0) hR hS hI hN hB hU hg (c := c) (by rw [hL]; exact hs2) (by omega))
  | @quits _ _ c h0 hlf hq =>
    cases c with
    | zero => rw [hq.1] at hrun; cases hrun
    | succ c =>
      rcases hq with ⟨e, _⟩ | ⟨_, g', es, hmute, hst, hq⟩
      · rw [e] at hrun; cases hrun
      · have hi0 : (i == 0) = false := by simpa using h0
        have hd : Deaf (t ++ opsOf i g es) i = deafBehind L.d es := by rw [opsOf, Deaf_own, hI.deaf i, hL]
        have hI' := hI.mute (u := opsOf i g es) hlt (fun op hop => by
          obtain ⟨e, he, rfl⟩ := Go.Conc.mem_ofEvents hop
          exact ⟨rfl, mute_ok (hmute e he) _⟩) hd
        have hr := hq.status
        have gi : upd Γ i ((Γ i).deafen (deafBehind L.d es)) i = (Γ i).deafen (deafBehind L.d es) := upd_same _ _ _
        have g0 : upd Γ i ((Γ i).deafen (deafBehind L.d es)) 0 = Γ 0 := upd_ne _ _ (Ne.symm h0)
        exact .inr (mi_go (sl := sl') hR hS hN hB (⟨Aged.refl _, fun _ _ _ _ h => h⟩) hU (g' := g') (m := 4 * c) hg (by rw [hi0]; exact hst w) hI' (fun j hj => .inl (upd_ne _ _ hj)) (.inr ⟨by rw [g0], fun _ _ h => h⟩) (fun e => absurd e h0) (fun b h => by rw [g0]; exact h)
          (.quits h0 (by rw [gi, hL]; exact hlf) (by rw [gi]; exact hq)) (by rw [if_neg h0]; omega) (off_not (by rcases hr with e | e <;> rw [e] <;> simp)))
end
end Go.Proofs.Ytaceedenkmccdaa
/- Pools: the walk: pieces of code, in the company of whomever ('wpS'). -/
namespace Go.Proofs.Ytaceedenkmccdaa
open Go Go.Conc Go.ConcN
set_option linter.unusedSimpArgs false
set_option linter.unusedVariables false
/-- What the walks go by: the program's text, the functions' meanings, an idle worker's place, the costs, what is to hold at the end. -/
structure Cx where
  P : Program
  ap : Nat → Int → Int
  SelAt : PoolG → Nat → Goroutine → Lo → Prop
  CI : Nat
  CW : Nat
  Q : Value → World → Prop
section
variable (X : Cx)
/-- Within c steps of its own the goroutine is done: it is safe, or (having said goodbye) leaves. -/
def Cx.safe [Inhabited Base] (i c : Nat) (g : Goroutine) (L : Lo) : Prop := (¬ Lefty L ∧ Safe X.P X.ap X.SelAt X.CI X.CW X.Q i c g L) ∨ (Lefty L ∧ i ≠ 0 ∧ QuitsD X.P c L.d g)
variable {X}
variable {i c : Nat} {g g' : Goroutine} {L L' : Lo}
theorem wakes_refl (P : Program) (g : Goroutine) (Γ : Nat → Lo) (w : World) : Wakes P g Γ Γ w w := .inr ⟨rfl, fun _ _ h => h⟩
theorem quits_more {P : Program} {d : Nat} : ∀ {n n' : Nat} {g : Goroutine}, QuitsD P n d g → n ≤ n' → QuitsD P n' d g := by
  intro n
  induction n generalizing d with
  | zero => intro n' g h _; cases n' with
    | zero => exact h
    | succ n' => exact .inl h
  | succ n ih =>
    intro n' g h hn
    cases n' with
    | zero => omega
    | succ n' => exact h.imp id fun ⟨hs, g', es, hm, hst, hq⟩ => ⟨hs, g', es, hm, hst, ih hq (by omega)⟩
theorem main_not {i : Nat} (h : i ≠ 0) : (i == 0) = false := by simpa using h
/-- A step that turns nothing and says nothing. -/
theorem safe_silent [Inhabited Base] (hs : g.status = .running) (h : ∀ w, stepG X.P (i == 0) g w = .go g' w #[]) (hS : X.safe i c g' L) : X.safe i (c + 1) g L := by
  rcases hS with ⟨hnl, hS⟩ | ⟨hl, h0, hq⟩
  · refine .inl ⟨hnl, ?_⟩
    rw [Safe]
    refine .inr ⟨hs, hnl, fun n Γ w t hI hL hi => .inl ⟨g', w, #[], Γ, h w, ?_, fun j _ => .inl rfl, wakes_refl _ _ _ _, fun _ h => h, ⟨Aged.refl _, fun _ _ _ _ h => h⟩, ⟨c, Nat.lt_succ_self c, by rw [hL]; exact hS⟩, by rw [hL]; exact hnl⟩⟩
    rw [opsOf_nil, Array.append_empty]; exact hI
  · exact .inr ⟨hl, h0, .ctl hs (fun w => by rw [← main_not h0]; exact h w) hq⟩
theorem Safe.more' [Inhabited Base] {c' : Nat} (h : Safe X.P X.ap X.SelAt X.CI X.CW X.Q i c g L) (hc : c ≤ c') : Safe X.P X.ap X.SelAt X.CI X.CW X.Q i c' g L := by
  rw [Safe] at h ⊢
  rcases h with ⟨p, h1, h2, h3⟩ | ⟨hs, hnl, h⟩
  · exact .inl ⟨p, h1, by omega, h3⟩
  · refine .inr ⟨hs, hnl, fun n Γ w t hI hL hi => ?_⟩
    rcases h n Γ w t hI hL hi with ⟨g', w', es, Γ', a1, a2, a3, a4, a5, a6, ⟨d, hd, a7⟩, a8⟩ | ⟨g', w', es, Γ', a1, a2, a3, a4, a5, a6, a7, a8, d, hd, a9⟩ | ⟨a0, g', ch, w', es, Γ', a1, a2, a3, a4, a5, a6, a7, c1, c2, hd, a8, a9⟩ | ⟨g₂, z, p, a1, a2, d, hd, a3⟩ | ⟨g₂, z, zq, p, cb, v, a1, a2, a3, d, hd, a4⟩ | ⟨g₂, z, p, cb, v, a1, a2, d, hd, a3⟩ | ⟨g₂, z, p, cb, v, a1, a2, a3, d, hd, a4⟩ | ⟨a0, wa, a1, a2, a3, a4⟩ | h
    · exact .inl ⟨g', w', es, Γ', a1, a2, a3, a4, a5, a6, ⟨d, by omega, a7⟩, a8⟩
    · exact .inr (.inl ⟨g', w', es, Γ', a1, a2, a3, a4, a5, a6, a7, a8, d, by omega, a9⟩)
    · exact .inr (.inr (.inl ⟨a0, g', ch, w', es, Γ', a1, a2, a3, a4, a5, a6, a7, c1, c2, by omega, a8, a9⟩))
    · exact .inr (.inr (.inr (.inl ⟨g₂, z, p, a1, a2, d, by omega, a3⟩)))
    · exact .inr (.inr (.inr (.inr (.inl ⟨g₂, z, zq, p, cb, v, a1, a2, a3, d, by omega, a4⟩))))
    · exact .inr (.inr (.inr (.inr (.inr (.inl ⟨g₂, z, p, cb, v, a1, a2, d, by omega, a3⟩)))))
    · exact .inr (.inr (.inr (.inr (.inr (.inr (.inl ⟨g₂, z, p, cb, v, a1, a2, a3, d, by omega, a4⟩))))))
    · refine .inr (.inr (.inr (.inr (.inr (.inr (.inr (.inl ⟨a0, wa, a1, a2, a3, fun n Γ w t x y z => ?_⟩)))))))
      obtain ⟨g', w', es, Γ', b1, b2, b3, b4, b5, b6, d, hd, b7⟩ := a4 n Γ w t x y z
      exact ⟨g', w', es, Γ', b1, b2, b3, b4, b5, b6, d, by omega, b7⟩
    · exact .inr (.inr (.inr (.inr (.inr (.inr (.inr (.inr h)))))))
theorem Safe.more [Inhabited Base] {c' : Nat} (h : X.safe i c g L) (hc : c ≤ c') : X.safe i c' g L := h.imp (fun x => ⟨x.1, x.2.more' hc⟩) fun x => ⟨x.1, x.2.1, quits_more x.2.2 hc⟩
/-- A step of one who is there yet. -/
theorem safe_step [Inhabited Base] (hs : g.status = .running) (hnl : ¬ Lefty L) (h : ∀ (n : Nat) (Γ : Nat → Lo) (w : World) (t : Trace), Inv X.ap n Γ w t → Γ i = L → i < n → ∃ (g' : Goroutine) (w' : World) (es : Array Event) (Γ' : Nat → Lo), stepG X.P (i == 0) g w = .go g' w' es ∧
    Inv X.ap n Γ' w' (t ++ opsOf i g es) ∧ Others Γ Γ' i ∧ Wakes X.P g Γ Γ' w w' ∧ (∀ b, (Γ 0).role.m.cl b = true → (Γ' 0).role.m.cl b = true) ∧ NoFill w w' ∧ X.safe i c g' (Γ' i)) : X.safe i (c + 1) g L := by
  refine .inl ⟨hnl, ?_⟩
  rw [Safe]
  refine .inr ⟨hs, hnl, fun n Γ w t hI hL hi => ?_⟩
  obtain ⟨g', w', es, Γ', a1, a2, a3, a4, a5, a6, ⟨h1, h2⟩ | ⟨h1, h2, h3⟩⟩ := h n Γ w t hI hL hi
  · exact .inl ⟨g', w', es, Γ', a1, a2, a3, a4, a5, a6, ⟨c, Nat.lt_succ_self c, h2⟩, h1⟩
  · exact .inr (.inl ⟨g', w', es, Γ', a1, a2, a3, a4, a5, a6, h2, h1, c, Nat.lt_succ_self c, h3⟩)
end
section
variable (X : Cx) (i : Nat)
/-- Where the walk goes on behind a piece of code that is left by this way out. -/
def AfterS [Inhabited Base] (m : Nat) (b : Frame) (k : List Item) (cs : List Frame) : Exit → Act → Lo → Prop
  | .normal, a, L => X.safe i m (G (b.at a k) cs) L
  | .exit id, a, L => ∃ k', exitTo id k = some k' ∧ X.safe i m (G (b.at a k') cs) L
  | .ret, a, L => ∀ todo, X.safe i m (G { b.at a todo with mode := .returning } cs) L
  | _, _, _ => False
def wpS [Inhabited Base] (fn : FuncId) (c : Code) (n : Nat) (Q' : Exit → Act → Lo → Prop) (a : Act) (L : Lo) : Prop :=
  ∀ (b : Frame) (k : List Item) (cs : List Frame) (m : Nat), b.fn = fn → b.kind ≠ .early → (∀ e a' L', Q' e a' L' → AfterS X i m b k cs e a' L') → X.safe i (m + n) (G (b.at a (.code c :: k)) cs) L
def OpsS [Inhabited Base] (fn : FuncId) (ops : Array Oper) (todo : List Nat) (n : Nat) (Q' : Exit → Act → Lo → Prop) (a : Act) (L : Lo) : Prop :=
  ∀ (b : Frame) (k : List Item) (cs : List Frame) (m : Nat), b.fn = fn → b.kind ≠ .early → (∀ e a' L', Q' e a' L' → AfterS X i m b k cs e a' L') → X.safe i (m + n) (G (b.at a (.inRegion ops todo :: k)) cs) L
end
section
variable {X : Cx} {i : Nat} {fn : FuncId} {Q' Q'' : Exit → Act → Lo → Prop} {a : Act} {L : Lo}
theorem AfterS.mono [Inhabited Base] {m m' : Nat} {b : Frame} {k : List Item} {cs : List Frame} {e : Exit} (h : AfterS X i m b k cs e a L) (hm : m ≤ m') : AfterS X i m' b k cs e a L := by
  cases e with
  | normal => exact Safe.more h hm
  | exit id => obtain ⟨k', hk, hg⟩ := h; exact ⟨k', hk, Safe.more hg hm⟩
  | ret => exact fun todo => Safe.more (h todo) hm
  | goto l => exact h
  | panic ch => exact h
  | outgrown => exact h
theorem AfterS.push [Inhabited Base] {m : Nat} {b : Frame} {x : Item} {k : List Item} {cs : List Frame} {e : Exit} (hx : x.plain = true) (he : e ≠ .normal) (h : AfterS X i m b k cs e a L) : AfterS X i m b (x :: k) cs e a L := by
  cases e with
  | normal => exact absurd rfl he
  | exit id => obtain ⟨k', hk, hg⟩ := h; exact ⟨k', by cases x <;> simp_all [exitTo, Item.plain], hg⟩
  | ret => exact h
  | goto l => exact h
  | panic ch => exact h
  | outgrown => exact h
theorem wpS_more [Inhabited Base] {c : Code} {n n' : Nat} (h : wpS X i fn c n Q' a L) (hn : n ≤ n') : wpS X i fn c n' Q' a L := fun b k cs m hb hk hc => Safe.more (h b k cs m hb hk hc) (by omega)
theorem wpS_mono [Inhabited Base] {c : Code} {n : Nat} (h : wpS X i fn c n Q' a L) (hq : ∀ e a L, Q' e a L → Q'' e a L) : wpS X i fn c n Q'' a L := fun b k cs m hb hk hc => h b k cs m hb hk fun e a' L' q => hc e a' L' (hq e a' L' q)
theorem wpS_skip [Inhabited Base] (h : Q' .normal a L) : wpS X i fn .skip 1 Q' a L := fun b k cs m _ _ hc => safe_silent rfl (fun w => stepG_skip) (hc _ _ _ h)
theorem wpS_label [Inhabited Base] {l : Nat} (h : Q' .normal a L) : wpS X i fn (.label l) 1 Q' a L := fun b k cs m _ _ hc => safe_silent rfl (fun w => stepG_label) (hc _ _ _ h)
theorem wpS_ret [Inhabited Base] (h : Q' .ret a L) : wpS X i fn .ret 1 Q' a L := fun b k cs m _ _ hc => safe_silent rfl (fun w => stepG_ret') (hc _ _ _ h _)
theorem wpS_exit [Inhabited Base] {id : Nat} (h : Q' (.exit id) a L) : wpS X i fn (.exit id) 1 Q' a L := fun b k cs m _ _ hc => by
  obtain ⟨k', hk', hg⟩ := hc _ _ _ h
  exact safe_silent rfl (fun w => stepG_exit hk') hg
theorem wpS_seq [Inhabited Base] {x y : Code} {n₁ n₂ : Nat} (h : wpS X i fn x n₁ (fun e a' L' => match e with | .normal => wpS X i fn y n₂ Q' a' L' | e => Q' e a' L') a L) : wpS X i fn (.seq x y) (n₁ + n₂ + 1) Q' a L := by
  intro b k cs m hb hk hc
  have hx : X.safe i (m + n₂ + n₁) (G (b.at a (.code x :: .code y :: k)) cs) L := by
    refine h b (.code y :: k) cs (m + n₂) hb hk fun e a' L' q => ?_
    cases e with
    | normal => exact q b k cs m hb hk hc
    | exit id => exact ((hc _ _ _ q).mono (Nat.le_add_right _ _)).push rfl (by simp)
    | ret => exact ((hc _ _ _ q).mono (Nat.le_add_right _ _)).push (x := .code y) rfl (by simp)
    | goto l => exact hc _ _ _ q
    | panic ch => exact hc _ _ _ q
    | outgrown => exact hc _ _ _ q
  have e : m + (n₁ + n₂ + 1) = (m + n₂ + n₁) + 1 := by omega
  rw [e]
  exact safe_silent rfl (fun w => stepG_seq) hx
theorem wpS_cond [Inhabited Base] {c : Operand} {x y : Code} {t : Bool} {n : Nat} (hc : a.eval c = .bool t) (h : wpS X i fn (if t then x else y) n Q' a L) : wpS X i fn (.cond c x y) (n + 1) Q' a L :=
  fun b k cs m hb hk hq => safe_silent rfl (fun w => stepG_cond hc) (h b k cs m hb hk hq)
theorem wpS_cond_split [Inhabited Base] {c : Operand} {x y : Code} {t : Bool} {n₁ n₂ : Nat} (hc : a.eval c = .bool t) (ht : t = true → wpS X i fn x n₁ Q' a L) (hf : t = false → wpS X i fn y n₂ Q' a L) : wpS X i fn (.cond c x y) (max n₁ n₂ + 1) Q' a L := by
  refine wpS_cond hc ?_
  cases t with
  | true => exact wpS_more (ht rfl) (Nat.le_max_left _ _)
  | false => exact wpS_more (hf rfl) (Nat.le_max_right _ _)
theorem wpS_block [Inhabited Base] {id : Nat} {c : Code} {n : Nat} (h : wpS X i fn c n (fun e a' L' => match e with | .exit id' => if id' = id then Q' .normal a' L' else Q' (.exit id') a' L' | e => Q' e a' L') a L) : wpS X i fn (.block id c) (n + 2) Q' a L := by
  intro b k cs m hb hk hc
  have hx : X.safe i (m + 1 + n) (G (b.at a (.code c :: .inBlock id :: k)) cs) L := by
    refine h b (.inBlock id :: k) cs (m + 1) hb hk fun e a' L' q => ?_
    cases e with
    | normal => exact safe_silent rfl (fun w => stepG_inBlock) (hc _ _ _ q)
    | exit id' =>
      by_cases hid : id' = id
      · simp only [hid, if_true] at q
        exact ⟨k, by simp [exitTo, hid], Safe.more (hc _ _ _ q) (by omega)⟩
      · simp only [hid, if_false] at q
        obtain ⟨k', hk', hg⟩ := hc _ _ _ q
        have : (id == id') = false := by simp; exact fun h => hid h.symm
        exact ⟨k', by simp [exitTo, this, hk'], Safe.more hg (by omega)⟩
    | ret => exact fun todo => Safe.more (hc _ _ _ q todo) (by omega)
    | goto l => exact hc _ _ _ q
    | panic ch => exact hc _ _ _ q
    | outgrown => exact hc _ _ _ q
  have e : m + (n + 2) = (m + 1 + n) + 1 := by omega
  rw [e]
  exact safe_silent rfl (fun w => stepG_block) hx
/-- A loop: an invariant and a measure; the rounds' bound is one for all. -/
theorem wpS_loop [Inhabited Base] {c : Code} (I : Act → Lo → Prop) (μ : Act → Lo → Nat) (r N : Nat) (h₀ : I a L) (hN : μ a L ≤ N)
    (round : ∀ a L, I a L → wpS X i fn c r (fun e a' L' => match e with | .normal => I a' L' ∧ μ a' L' < μ a L | e => Q' e a' L') a L) : wpS X i fn (.loop c) ((N + 1) * (r + 1) + 1) Q' a L := by
  intro b k cs m hb hk hc
  have key : ∀ N a L, μ a L ≤ N → I a L → X.safe i (m + (N + 1) * (r + 1)) (G (b.at a (.code c :: .inLoop c :: k)) cs) L := by
    intro N
    induction N with
    | zero =>
      intro a L hμ hI
      have := round a L hI b (.inLoop c :: k) cs (m + 1) hb hk fun e a' L' q => by
        cases e with
        | normal => exact absurd q.2 (by omega)
        | exit id => exact ((hc _ _ _ q).mono (Nat.le_add_right _ _)).push rfl (by simp)
        | ret => exact ((hc _ _ _ q).mono (Nat.le_add_right _ _)).push (x := .inLoop c) rfl (by simp)
        | goto l => exact hc _ _ _ q
        | panic ch => exact hc _ _ _ q
        | outgrown => exact hc _ _ _ q
      exact Safe.more this (by simp; omega)
    | succ N ih =>
      intro a L hμ hI
      have := round a L hI b (.inLoop c :: k) cs (m + (N + 1) * (r + 1) + 1) hb hk fun e a' L' q => by
        cases e with
        | normal => exact safe_silent rfl (fun w => stepG_inLoop) (ih a' L' (by have := q.2; omega) q.1)
        | exit id => exact ((hc _ _ _ q).mono (by omega)).push rfl (by simp)
        | ret => exact ((hc _ _ _ q).mono (by omega)).push (x := .inLoop c) rfl (by simp)
        | goto l => exact hc _ _ _ q
        | panic ch => exact hc _ _ _ q
        | outgrown => exact hc _ _ _ q
      refine Safe.more this ?_
      have : (N + 1 + 1) * (r + 1) = (N + 1) * (r + 1) + (r + 1) := by rw [Nat.succ_mul]
      omega
  have e : m + ((N + 1) * (r + 1) + 1) = (m + (N + 1) * (r + 1)) + 1 := by omega
  rw [e]
  exact safe_silent rfl (fun w => stepG_loop) (key N a L hN h₀)
theorem wpS_region [Inhabited Base] {id : Nat} {ops : Array Oper} {n : Nat} (h : OpsS X i fn ops (List.range ops.size) n Q' a L) : wpS X i fn (.region id ops false) (n + 1) Q' a L :=
  fun b k cs m hb hk hc => safe_silent rfl (fun w => stepG_region) (h b k cs m hb hk hc)
theorem opsS_nil [Inhabited Base] {ops : Array Oper} (h : Q' .normal a L) : OpsS X i fn ops [] 1 Q' a L := fun b k cs m _ _ hc => safe_silent rfl (fun w => stepG_region_end) (hc _ _ _ h)
theorem opsS_unwanted [Inhabited Base] {ops : Array Oper} {j : Nat} {rest : List Nat} {o : Oper} {n : Nat} (ho : ops[j]? = some o) (hw : Region.wanted o (yielded ops a.tmps) = false) (h : OpsS X i fn ops rest n Q' (a.put o.dst undef) L) : OpsS X i fn ops (j :: rest) (n + 1) Q' a L :=
  fun b k cs m hb hk hc => safe_silent rfl (fun w => stepG_unwanted ho hw) (h b k cs m hb hk hc)
theorem opsS_more [Inhabited Base] {ops : Array Oper} {todo : List Nat} {n n' : Nat} (h : OpsS X i fn ops todo n Q' a L) (hn : n ≤ n') : OpsS X i fn ops todo n' Q' a L := fun b k cs m hb hk hc => Safe.more (h b k cs m hb hk hc) (by omega)
theorem opsS_mono [Inhabited Base] {ops : Array Oper} {todo : List Nat} {n : Nat} (h : OpsS X i fn ops todo n Q' a L) (hq : ∀ e a L, Q' e a L → Q'' e a L) : OpsS X i fn ops todo n Q'' a L := fun b k cs m hb hk hc => h b k cs m hb hk fun e a' L' q => hc e a' L' (hq e a' L' q)
/-- An operation that yields a value (or nothing), and what it does to all that is held. -/
theorem opsS_op [Inhabited Base] {ops : Array Oper} {j : Nat} {rest : List Nat} {o : Oper} {k : Nat} (ho : ops[j]? = some o) (hw : Region.wanted o (yielded ops a.tmps) = true) (hnl : ¬ Lefty L)
    (h : ∀ (n : Nat) (Γ : Nat → Lo) (w : World) (t : Trace), Inv X.ap n Γ w t → Γ i = L → i < n → ∃ (r : Next) (v : Value) (w' : World) (Γ' : Nat → Lo), (execOp a.eval o).run X.P w = .ok r w' ∧ ((r = .value v) ∨ (r = .skip ∧ v = undef)) ∧
      (∀ pos, Inv X.ap n Γ' w' (t ++ MemOp.ofEvents i fn pos (listed X.P fn a o w))) ∧ Others Γ Γ' i ∧ (∀ (b : Frame) (kk : List Item) (cs : List Frame), Wakes X.P (G (b.at a (.inRegion ops (j :: rest) :: kk)) cs) Γ Γ' w w') ∧ (∀ b, (Γ 0).role.m.cl b = true → (Γ' 0).role.m.cl b = true) ∧ NoFill w w' ∧
      OpsS X i fn ops rest k Q' (a.put o.dst v) (Γ' i)) : OpsS X i fn ops (j :: rest) (k + 1) Q' a L := by
  intro b kk cs m hb hk hc
  refine safe_step (c := m + k) rfl hnl fun n Γ w t hI hL hi => ?_
  obtain ⟨r, v, w', Γ', h1, h2, h3, h4, h5, h6, h7, h8⟩ := h n Γ w t hI hL hi
  have hst : stepG X.P (i == 0) (G (b.at a (.inRegion ops (j :: rest) :: kk)) cs) w = .go (G (b.at (a.put o.dst v) (.inRegion ops rest :: kk)) cs) w' (listed X.P b.fn a o w) := by
    rcases h2 with rfl | ⟨rfl, rfl⟩
    · exact stepG_value ho hw hk h1
    · exact stepG_none ho hw hk h1
  rw [hb] at hst
  refine ⟨_, w', _, Γ', hst, ?_, h4, h5 b kk cs, h6, h7, h8 b kk cs m hb hk hc⟩
  have := h3 (G (b.at a (.inRegion ops (j :: rest) :: kk)) cs).frame.place
  unfold opsOf
  have e : (G (b.at a (.inRegion ops (j :: rest) :: kk)) cs).frame.fn = fn := hb
  rw [e]; exact this
/-- An operation that neither asks nor turns the world. -/
theorem opsS_pure [Inhabited Base] {ops : Array Oper} {j : Nat} {rest : List Nat} {o : Oper} {k : Nat} (v : Value) (ho : ops[j]? = some o) (hw : Region.wanted o (yielded ops a.tmps) = true) (hr : ∀ w, (execOp a.eval o).run X.P w = .ok (.value v) w) (he : ∀ w, (execOp a.eval o).events X.P w #[] = #[])
    (h : OpsS X i fn ops rest k Q' (a.put o.dst v) L) : OpsS X i fn ops (j :: rest) (k + 1) Q' a L :=
  fun b kk cs m hb hk hc => safe_silent rfl (fun w => by rw [stepG_value ho hw hk (hr w)]; unfold listed; rw [he w, seen_none]) (h b kk cs m hb hk hc)
end
end Go.Proofs.Ytaceedenkmccdaa
/- Pools: the walk: operations on what is one's own; calls; deferred calls. -/
namespace Go.Proofs.Ytaceedenkmccdaa
open Go Go.Conc Go.ConcN
set_option linter.unusedSimpArgs false
set_option linter.unusedVariables false
/-- What a step on one's own may list. -/
def EvLoc (L : Lo) (e : Event) : Prop := (∃ ad wr sy, e = ⟨.cell ad, wr, sy⟩ ∧ ¬ L.V ad ∧ (L.M ad ∨ (L.R ad ∧ wr = false))) ∨ ∃ m, e.loc = .mark m ∧ Neutral m
/-- A step on what is one's own. -/
structure LocOK [Inhabited Base] (L L' : Lo) (w w' : World) (es : Array Event) : Prop where
  role : L'.role = L.role
  q : L'.q = L.q
  h : L'.h = L.h
  d : L'.d = L.d
  keep : Keeps L.M w w'
  M : ∀ a, L'.M a → L.M a ∨ (w.heap.size ≤ a.block ∧ a.block < w'.heap.size)
  R : ∀ a, L'.R a → L.R a ∨ L.M a
  Mz : ∀ A z, z ∈ L.role.zs A → L.M (ca A.bo z) → L'.M (ca A.bo z)
  V : ∀ a, L'.V a → L'.M a ∧ (L.V a ∨ w.heap.size ≤ a.block)
  S : L'.S w'
  ev : ∀ e ∈ es, EvLoc L e
section
variable {X : Cx} {i : Nat} {fn : FuncId} {Q' Q'' : Exit → Act → Lo → Prop} {a : Act} {L L' : Lo} {w w' : World}
theorem LocOK.refl [Inhabited Base] (h : L.S w') (hk : Keeps L.M w w') {es : Array Event} (he : ∀ e ∈ es, EvLoc L e) (hv : ∀ a, L.V a → L.M a) : LocOK L L w w' es := ⟨rfl, rfl, rfl, rfl, hk, fun a h => .inl h, fun a h => .inl h, fun _ _ _ h => h, fun a h => ⟨hv a h, .inl h⟩, h, he⟩
theorem Keeps.refl [Inhabited Base] (M : Addr → Prop) (w : World) : Keeps M w w := ⟨Nat.le_refl _, fun _ _ _ => ⟨rfl, rfl⟩, fun _ _ _ _ _ _ _ h => h, ⟨Aged.refl _, fun _ _ _ _ h => h⟩⟩
theorem inv_loc [Inhabited Base] {n : Nat} {Γ : Nat → Lo} {t : Trace} (h : Inv X.ap n Γ w t) (hi : i < n) (hL : Γ i = L) (hal : L.h = .alive) (hnl : ∀ wa zs f s, L.role ≠ .left wa zs f s) {es : Array Event} (ho : LocOK L L' w w' es) (fn : FuncId) (pos : String) :
    Inv X.ap n (upd Γ i L') w' (t ++ MemOp.ofEvents i fn pos es) := by
  have hblk : ∀ a, L.M a ∨ L.R a → a.block < w.heap.size := fun a ha => h.blk i a (by rw [hL]; exact ha)
  have hev : ∀ op ∈ MemOp.ofEvents i fn pos es, op.g = i ∧ ∃ e ∈ es, op.act = MemAct.ofEvent e := fun op hop => by
    obtain ⟨e, he, rfl⟩ := Go.Conc.mem_ofEvents hop
    exact ⟨rfl, e, he, rfl⟩
  refine h.loc hi hL hal hnl ho.role ho.q ho.h ho.keep (fun a ha => (ho.M a ha).imp id (·.1)) ho.R ho.Mz (fun a ha => ?_) (fun a ha => ⟨(ho.V a ha).1, (ho.V a ha).2, fun op hop x hx hl => ?_⟩) ho.S (fun op hop => ?_) ?_
  · rcases ho.M a ha with hm | hm
    · exact Nat.lt_of_lt_of_le (hblk a (.inl hm)) ho.keep.size
    · exact hm.2
  · obtain ⟨_, e, he, hact⟩ := hev op hop
    rw [hact] at hx
    rcases ho.ev e he with ⟨ad, wr, sy, rfl, hnv, hm⟩ | ⟨m, hm, hneu⟩
    · simp only [Go.ConcR.ofEvent_cell, MemAct.touch?, Option.some.injEq] at hx
      subst hx
      simp only [Loc.cell.injEq] at hl
      subst hl
      rcases (ho.V _ ha).2 with hv | hf
      · exact hnv hv
      · have := hblk ad (hm.imp id (·.1)); omega
    · rw [Go.ConcR.ofEvent_loc_mark hm, hneu.touch] at hx; cases hx
  · obtain ⟨hg, e, he, hact⟩ := hev op hop
    refine ⟨hg, ?_⟩
    rw [hact]
    rcases ho.ev e he with ⟨ad, wr, sy, rfl, hnv, hm⟩ | ⟨m, hm, hneu⟩
    · rw [Go.ConcR.ofEvent_cell]
      refine ⟨fun y hy => ?_, fun b e => (by cases e), ?_⟩
      · simp only [MemAct.touch?, Option.some.injEq] at hy
        subst hy
        exact hm.imp id fun x => .inl x
      · exact Nat.lt_of_lt_of_le (hblk ad (hm.imp id (·.1))) ho.keep.size
    · rw [Go.ConcR.ofEvent_loc_mark hm]
      refine ⟨fun y hy => (by rw [hneu.touch] at hy; cases hy), fun b e => ?_, ?_⟩
      · unfold Neutral at hneu; subst hneu; cases e
      · unfold Neutral at hneu; subst hneu; trivial
  · rw [Deaf_own, h.deaf i, hL, ho.d]
    refine deafBehind_still (fun e he => ?_) _
    rcases ho.ev e he with ⟨ad, wr, sy, rfl, _⟩ | ⟨m, hm, hneu⟩
    · exact ⟨by simp, by simp⟩
    · rw [hm]; unfold Neutral at hneu; subst hneu; exact ⟨by simp, by simp⟩
/-- A live goroutine. -/
def Live (L : Lo) : Prop := L.h = .alive ∧ ∀ wa zs f s, L.role ≠ .left wa zs f s
theorem Live.nl (h : Live L) : ¬ Lefty L := fun ⟨⟨wa, zs, f, e⟩, _⟩ => h.2 _ _ _ _ e
theorem wakes_loc [Inhabited Base] {n : Nat} {Γ : Nat → Lo} {t : Trace} (hI : Inv X.ap n Γ w t) (hL : Γ i = L) (hr : L'.role = L.role) (hk : Keeps L.M w w') (g : Goroutine) : Wakes X.P g Γ (upd Γ i L') w w' := by
  refine .inr ⟨?_, fun wa hreg hc => ?_⟩
  · rcases upd_eq Γ i L' 0 with ⟨e, ei⟩ | ⟨e, _⟩
    · rw [e, hr, ei, hL]
    · rw [e]
  · have hat : AT (Γ 0).role (sem wa) := by
      obtain ⟨_, ⟨e, he, _, rfl, _⟩ | ⟨A, sp, hA, rfl⟩⟩ := hI.regs wa hreg
      · exact .inl ⟨e, he, .inr (.inl rfl)⟩
      · exact .inr ⟨A, sp, hA, .inr (.inl rfl)⟩
    exact hc.keep (hk.cell _ (hI.blkA _ hat) fun hm => (hI.apart.shared i _ hat).1 (by rw [hL]; exact hm))
/-- An operation on what is one's own. -/
theorem opsS_loc [Inhabited Base] {ops : Array Oper} {j : Nat} {rest : List Nat} {o : Oper} {k : Nat} (ho : ops[j]? = some o) (hw : Region.wanted o (yielded ops a.tmps) = true) (hlv : Live L)
    (h : ∀ w, L.S w → (∀ ad, L.M ad ∨ L.R ad → ad.block < w.heap.size) → ∃ (r : Next) (v : Value) (w' : World) (L' : Lo), (execOp a.eval o).run X.P w = .ok r w' ∧ ((r = .value v) ∨ (r = .skip ∧ v = undef)) ∧ LocOK L L' w w' (listed X.P fn a o w) ∧ OpsS X i fn ops rest k Q' (a.put o.dst v) L') :
    OpsS X i fn ops (j :: rest) (k + 1) Q' a L := by
  refine opsS_op ho hw hlv.nl fun n Γ w t hI hL hi => ?_
  obtain ⟨r, v, w', L', h1, h2, h3, h4⟩ := h w (by have := hI.know i; rwa [hL] at this) (fun ad had => hI.blk i ad (by rw [hL]; exact had))
  refine ⟨r, v, w', upd Γ i L', h1, h2, fun pos => inv_loc hI hi hL hlv.1 hlv.2 h3 fn pos, fun j hj => .inl (upd_ne _ _ hj), fun b kk cs => wakes_loc hI hL h3.role h3.keep _, fun b hb => ?_, h3.keep.fill, by rw [upd_same]; exact h4⟩
  rcases upd_eq Γ i L' 0 with ⟨e, ei⟩ | ⟨e, _⟩
  · rw [e, h3.role]; rw [← hL, ← ei]; exact hb
  · rw [e]; exact hb
end
/-! ### calls -/
section
variable (X : Cx) (i : Nat)
/-- A callee's contract: it comes back within n steps. -/
def CallsS [Inhabited Base] (f : FuncId) (args : Array Value) (n : Nat) (L : Lo) (Post : Value → Lo → Prop) : Prop :=
  ∀ (c : Frame) (cs : List Frame) (m : Nat), (∀ v L', Post v L' → X.safe i m (G (c.finish v) cs) L') → X.safe i (m + n) (G (Frame.enter X.P f args .normal) (c :: cs)) L
/-- .. of a deferred call: the caller is on its way out, by a plain return or (the goroutine's bottom) for good. -/
def CallsSD [Inhabited Base] (f : FuncId) (args : Array Value) (n : Nat) (L : Lo) (Post : Lo → Prop) : Prop :=
  ∀ (c : Frame) (cs : List Frame) (m : Nat), (c.mode = .returning ∨ c.mode = .panicking [goexitEntry]) → (∀ L', Post L' → X.safe i m (G c cs) L') → X.safe i (m + n) (G (Frame.enter X.P f args .deferred) (c :: cs)) L
/-- The deferred calls are made. -/
def Unwinds [Inhabited Base] (n : Nat) (ds : List Deferred) (tmps : Array Value) (L : Lo) (Post : Lo → Prop) : Prop :=
  ∀ (b : Frame) (todo : List Item) (cs : List Frame) (m : Nat), (∀ L', Post L' → X.safe i m (G { b.at ⟨tmps, []⟩ todo with mode := .returning } cs) L') → X.safe i (m + n) (G { b.at ⟨tmps, ds⟩ todo with mode := .returning } cs) L
/-- What a body must achieve. -/
def bodyS [Inhabited Base] (fnn : Func) (nu : Nat) (Post : Value → Lo → Prop) : Exit → Act → Lo → Prop
  | .normal, a, L | .ret, a, L => ∃ v, ResultsC X.P fnn a.tmps v ∧ Unwinds X i nu a.defers a.tmps L fun L' => Post v L'
  | _, _, _ => False
end
/-- The return of a deferred call to a goroutine's bottom. -/
theorem stepG_leave_born {P : Program} {main : Bool} {b : Frame} {a : Act} {todo : List Item} {cs : List Frame} {w : World} {fn : Func} {c : Frame} {v : Value} (hn : b.kind = .deferred) (hd : a.defers = []) (hf : P.funcs[b.fn]? = some fn)
    (hr : (results fn a.tmps).run P w = .ok v w) (he : (results fn a.tmps).events P w #[] = #[]) (hc : c.mode = .panicking [goexitEntry]) :
    stepG P main (G { b.at a todo with mode := .returning } (c :: cs)) w = .go (G c cs) w := by
  simp [G, stepG, unwind, doReturn, Frame.at, hn, hd, hf, hr, he, hc, seen, GStep.after, goexitEntry]
section
variable {X : Cx} {i : Nat} {fn : FuncId} {Q' Q'' : Exit → Act → Lo → Prop} {a : Act} {L L' : Lo} {w w' : World} {Post : Value → Lo → Prop}
theorem unwinds_nil [Inhabited Base] {tmps : Array Value} {P' : Lo → Prop} (h : P' L) : Unwinds X i 0 [] tmps L P' := fun b todo cs m hc => hc L h
theorem unwinds_enter [Inhabited Base] {f : FuncId} {fnn : Func} {c : Code} {args : Array Value} {ds : List Deferred} {tmps : Array Value} {n1 n2 : Nat} {P1 P' : Lo → Prop} (hf : X.P.funcs[f]? = some fnn) (hname : (fnn.name == "runtime.NumGoroutine") = false) (hb : fnn.body = some c)
    (h1 : CallsSD X i f args n1 L P1) (h2 : ∀ L', P1 L' → Unwinds X i n2 ds tmps L' P') : Unwinds X i (n2 + n1 + 1) (dcall f args :: ds) tmps L P' := by
  intro b todo cs m hc
  have := h1 { b.at ⟨tmps, ds⟩ todo with mode := .returning } cs (m + n2) (.inl rfl) fun L' hL' => h2 L' hL' b todo cs m hc
  rw [enter_atD args hf hb] at this
  have e : m + (n2 + n1 + 1) = (m + n2 + n1) + 1 := by omega
  rw [e]
  exact safe_silent rfl (fun w => stepG_unwind_enter (b := b) (a := ⟨tmps, dcall f args :: ds⟩) rfl hf hname hb) this
theorem callsS_of_wp [Inhabited Base] {f : FuncId} {fnn : Func} {c : Code} {args : Array Value} {n nu : Nat} (hf : X.P.funcs[f]? = some fnn) (hb : fnn.body = some c)
    (h : wpS X i f c n (bodyS X i fnn nu Post) { tmps := args ++ Array.replicate (fnn.ntmps - args.size) undef, defers := [] } L) : CallsS X i f args (n + nu + 2) L Post := by
  intro c0 cs m hc
  have hleave : ∀ (a' : Act) (L' : Lo) (todo : List Item), (∃ v, ResultsC X.P fnn a'.tmps v ∧ Unwinds X i nu a'.defers a'.tmps L' fun L' => Post v L') → X.safe i (m + 1 + nu) (G { (base f).at a' todo with mode := .returning } (c0 :: cs)) L' := by
    rintro a' L' todo ⟨v, hr, hu⟩
    exact hu (base f) todo (c0 :: cs) (m + 1) fun L'' hp => safe_silent rfl (fun w => stepG_leave (b := base f) (a := ⟨a'.tmps, []⟩) rfl rfl hf (hr w).1 (hr w).2) (hc v L'' hp)
  have := h (base f) [] (c0 :: cs) (m + 1 + nu + 1) rfl (by simp [base]) fun e a' L' q => by
    cases e with
    | normal => exact safe_silent rfl (fun w => stepG_end) (hleave a' L' [] q)
    | ret => exact fun todo => Safe.more (hleave a' L' todo q) (by omega)
    | exit id => exact q.elim
    | goto l => exact q.elim
    | panic ch => exact q.elim
    | outgrown => exact q.elim
  rw [enter_at args hf hb]
  exact Safe.more this (by omega)
theorem callsSD_of_wp [Inhabited Base] {f : FuncId} {fnn : Func} {c : Code} {args : Array Value} {n nu : Nat} {P' : Lo → Prop} (hf : X.P.funcs[f]? = some fnn) (hb : fnn.body = some c)
    (h : wpS X i f c n (bodyS X i fnn nu fun _ L' => P' L') { tmps := args ++ Array.replicate (fnn.ntmps - args.size) undef, defers := [] } L) : CallsSD X i f args (n + nu + 2) L P' := by
  intro c0 cs m hm hc
  have hleave : ∀ (a' : Act) (L' : Lo) (todo : List Item), (∃ v, ResultsC X.P fnn a'.tmps v ∧ Unwinds X i nu a'.defers a'.tmps L' fun L' => P' L') → X.safe i (m + 1 + nu) (G { (baseD f).at a' todo with mode := .returning } (c0 :: cs)) L' := by
    rintro a' L' todo ⟨v, hr, hu⟩
    exact hu (baseD f) todo (c0 :: cs) (m + 1) fun L'' hp => safe_silent rfl (fun w => by
      rcases hm with hm | hm
      · exact stepG_leave_deferred (b := baseD f) (a := ⟨a'.tmps, []⟩) rfl rfl hf (hr w).1 (hr w).2 hm
      · exact stepG_leave_born (b := baseD f) (a := ⟨a'.tmps, []⟩) rfl rfl hf (hr w).1 (hr w).2 hm) (hc L'' hp)
  have := h (baseD f) [] (c0 :: cs) (m + 1 + nu + 1) rfl (by simp [baseD]) fun e a' L' q => by
    cases e with
    | normal => exact safe_silent rfl (fun w => stepG_end) (hleave a' L' [] q)
    | ret => exact fun todo => Safe.more (hleave a' L' todo q) (by omega)
    | exit id => exact q.elim
    | goto l => exact q.elim
    | panic ch => exact q.elim
    | outgrown => exact q.elim
  rw [enter_atD args hf hb]
  exact Safe.more this (by omega)
theorem CallsS.mono [Inhabited Base] {f : FuncId} {args : Array Value} {n : Nat} {Post' : Value → Lo → Prop} (h : CallsS X i f args n L Post) (hp : ∀ v L', Post v L' → Post' v L') : CallsS X i f args n L Post' := fun c cs m hc => h c cs m fun v L' hv => hc v L' (hp v L' hv)
theorem CallsS.more [Inhabited Base] {f : FuncId} {args : Array Value} {n n' : Nat} (h : CallsS X i f args n L Post) (hn : n ≤ n') : CallsS X i f args n' L Post := fun c cs m hc => Safe.more (h c cs m hc) (by omega)
/-- An operation that enters a function. -/
theorem opsS_enter [Inhabited Base] {ops : Array Oper} {j : Nat} {rest : List Nat} {o : Oper} {k nf : Nat} {f : FuncId} {args : Array Value} (ho : ops[j]? = some o) (hw : Region.wanted o (yielded ops a.tmps) = true) (hr : ∀ w, (execOp a.eval o).run X.P w = .ok (.enter f args) w) (he : ∀ w, (execOp a.eval o).events X.P w #[] = #[])
    (hcall : CallsS X i f args nf L Post) (hnext : ∀ v L', Post v L' → OpsS X i fn ops rest k Q' (a.put o.dst v) L') : OpsS X i fn ops (j :: rest) (k + nf + 1) Q' a L := by
  intro b kk cs m hb hk hc
  have hfin : ∀ v, (b.at a (.inRegion ops (j :: rest) :: kk)).finish v = b.at (a.put o.dst v) (.inRegion ops rest :: kk) := fun v => by rw [Frame.finish_at, ho]; rfl
  have := hcall (b.at a (.inRegion ops (j :: rest) :: kk)) cs (m + k) fun v L' hp => by
    rw [hfin]; exact hnext v L' hp b kk cs m hb hk hc
  have e : m + (k + nf + 1) = (m + k + nf) + 1 := by omega
  rw [e]
  exact safe_silent rfl (fun w => by
    rw [stepG_enter ho hw hk (hr w)]
    unfold listed
    rw [he w, seen_none]) this
/-- A direct call. -/
theorem opsS_call [Inhabited Base] {ops : Array Oper} {j : Nat} {rest : List Nat} {o : Oper} {k nf : Nat} {f : FuncId} {fnn : Func} {c : Code} {args : Array Operand} {ats : Array TypeId} (ho : ops[j]? = some o) (hw : Region.wanted o (yielded ops a.tmps) = true)
    (hop : o.op = .call { callee := .value (.func f), args := args, argTypes := ats }) (hf : X.P.funcs[f]? = some fnn) (hname : (fnn.name == "runtime.NumGoroutine") = false) (hb : fnn.body = some c)
    (hcall : CallsS X i f (args.map a.eval) nf L Post) (hnext : ∀ v L', Post v L' → OpsS X i fn ops rest k Q' (a.put o.dst v) L') : OpsS X i fn ops (j :: rest) (k + nf + 1) Q' a L :=
  opsS_enter ho hw (fun w => run_call_body hop hf hname (by rw [hb]; rfl)) (fun w => events_call_body hop hf hname (by rw [hb]; rfl) #[]) hcall hnext
/-- A defer statement. -/
theorem opsS_defer [Inhabited Base] {ops : Array Oper} {j : Nat} {rest : List Nat} {o : Oper} {k : Nat} {f : FuncId} {ars : Array Operand} {ats : Array TypeId} (ho : ops[j]? = some o) (hw : Region.wanted o (yielded ops a.tmps) = true)
    (hop : o.op = .defer { callee := .value (.func f), args := ars, argTypes := ats }) (h : OpsS X i fn ops rest k Q' (Act.put ⟨a.tmps, dcall f (ars.map a.eval) :: a.defers⟩ o.dst undef) L) : OpsS X i fn ops (j :: rest) (k + 1) Q' a L :=
  fun b kk cs m hb hk hc => safe_silent rfl (fun w => stepG_defer ho hw hk hop) (h b kk cs m hb hk hc)
end
end Go.Proofs.Ytaceedenkmccdaa
/- Pools: the walk: entries of the model; what is said to the detector. -/
namespace Go.Proofs.Ytaceedenkmccdaa
open Go Go.Conc Go.ConcN
set_option linter.unusedSimpArgs false
set_option linter.unusedVariables false
theorem wakes_entry {P : Program} {b : Frame} {a : Act} {ops : Array Oper} {i : Nat} {rest : List Nat} {k : List Item} {cs : List Frame} {o : Oper} {f : FuncId} {fn : Func} {xs : Array Operand} {ats : Array TypeId}
    (ho : ops[i]? = some o) (hop : o.op = .call { callee := .value (.func f), args := xs, argTypes := ats }) (hf : P.funcs[f]? = some fn) (hb : fn.body.isNone = true) : mayWake P (G (b.at a (.inRegion ops (i :: rest) :: k)) cs) = true := by
  have h2 : fn.body = none := by simpa using hb
  have ef : (b.at a (.inRegion ops (i :: rest) :: k)).eval (.func f) = .func (.func f) #[] #[] := rfl
  simp [mayWake, G, Frame.at, ho, hop] at ef ⊢
  simp [ef, hf, h2]
section
variable (X : Cx) (i : Nat)
/-- What an entry does to all that is held. -/
def Move [Inhabited Base] (L : Lo) (e : Sem Value) (Post : Value → Lo → Prop) : Prop :=
  ¬ Lefty L ∧ ∀ (n : Nat) (Γ : Nat → Lo) (w : World) (t : Trace), Inv X.ap n Γ w t → Γ i = L → i < n → ∃ (v : Value) (w' : World) (es : Array Event) (Γ' : Nat → Lo), e.run X.P w = .ok v w' ∧ (∀ es0, e.events X.P w es0 = es0 ++ es) ∧ (∀ x ∈ es, x.sync = true ∧ ∀ g, x.loc ≠ .mark (.extern g)) ∧
    (∀ fn pos, Inv X.ap n Γ' w' (t ++ MemOp.ofEvents i fn pos es)) ∧ Others Γ Γ' i ∧ (∀ b, (Γ 0).role.m.cl b = true → (Γ' 0).role.m.cl b = true) ∧ NoFill w w' ∧ Post v (Γ' i)
end
section
variable {X : Cx} {i : Nat} {fn : FuncId} {Q' Q'' : Exit → Act → Lo → Prop} {a : Act} {L L' : Lo} {w w' : World} {Post : Value → Lo → Prop}
theorem Move.mono [Inhabited Base] {e : Sem Value} {Post' : Value → Lo → Prop} (h : Move X i L e Post) (hp : ∀ v L', Post v L' → Post' v L') : Move X i L e Post' := ⟨h.1, fun n Γ w t hI hL hi =>
  let ⟨v, w', es, Γ', a1, a2, a3, a4, a5, a6, a7, a8⟩ := h.2 n Γ w t hI hL hi
  ⟨v, w', es, Γ', a1, a2, a3, a4, a5, a6, a7, hp _ _ a8⟩⟩
section
variable {f : FuncId} {fnn : Func} {ops : Array Oper} {j : Nat} {rest : List Nat} {o : Oper} {k : Nat} {ats : Array TypeId} {ars : Array Operand} {e : Array Value → Sem Value}
theorem opsS_entry [Inhabited Base] (ho : ops[j]? = some o) (hw : Region.wanted o (yielded ops a.tmps) = true) (hop : o.op = .call { callee := .value (.func f), args := ars, argTypes := ats })
    (hf : X.P.funcs[f]? = some fnn) (hname : (fnn.name == "runtime.NumGoroutine") = false) (hb : fnn.body.isNone = true) (hn : Extern.findNext fnn = none) (he : Extern.find fnn = some e)
    (hm : Move X i L (e (ars.map a.eval)) Post) (hnext : ∀ v L', Post v L' → OpsS X i fn ops rest k Q' (a.put o.dst v) L') : OpsS X i fn ops (j :: rest) (k + 1) Q' a L := by
  intro b kk cs m hbf hk hc
  refine safe_step (c := m + k) rfl hm.1 fun n Γ w t hI hL hi => ?_
  obtain ⟨v, w', es, Γ', h1, h2, h3, h4, h5, h6, h7, h8⟩ := hm.2 n Γ w t hI hL hi
  refine ⟨_, w', es, Γ', stepG_entry ho hw hk hop hf hname hb hn he h1 (h2 _) h3, h4 _ _, h5, .inl (wakes_entry ho hop hf hb), h6, h7, hnext v _ h8 b kk cs m hbf hk hc⟩
/-- Deferred. -/
theorem unwinds_entry [Inhabited Base] {args : Array Value} {ds : List Deferred} {tmps : Array Value} {n2 : Nat} {P1 P' : Lo → Prop} (hf : X.P.funcs[f]? = some fnn) (hname : (fnn.name == "runtime.NumGoroutine") = false) (hb : fnn.body.isNone = true) (hn : Extern.findNext fnn = none) (he : Extern.find fnn = some e)
    (hm : Move X i L (e args) fun _ L' => P1 L') (h2 : ∀ L', P1 L' → Unwinds X i n2 ds tmps L' P') : Unwinds X i (n2 + 1) (dcall f args :: ds) tmps L P' := by
  intro b todo cs m hc
  refine safe_step (c := m + n2) rfl hm.1 fun n Γ w t hI hL hi => ?_
  obtain ⟨v, w', es, Γ', h1, h2', h3, h4, h5, h6, h7, h8⟩ := hm.2 n Γ w t hI hL hi
  exact ⟨_, w', es, Γ', stepG_unwind_entry (b := b) (a := ⟨tmps, dcall f args :: ds⟩) rfl hf hname hb hn he h1 (h2' _) h3, h4 _ _, h5, .inl rfl, h6, h7, h2 _ h8 b todo cs m hc⟩
end
/-! ### disable, enable -/
theorem mark_deafen [Inhabited Base] {m : Mark} (hm : m = .disable ∨ m = .enable) {n : Nat} {Γ : Nat → Lo} {w : World} {t : Trace} (hI : Inv X.ap n Γ w t) (hL : Γ i = L) (hi : i < n) (fn : FuncId) (pos : String) :
    Inv X.ap n (upd Γ i (L.deafen (deafBehind L.d #[⟨.mark m, false, true⟩]))) w (t ++ MemOp.ofEvents i fn pos #[⟨.mark m, false, true⟩]) := by
  have hmu : Event.mute ⟨.mark m, false, true⟩ = true := by rcases hm with rfl | rfl <;> rfl
  have := hI.mute (i := i) (u := MemOp.ofEvents i fn pos #[⟨.mark m, false, true⟩]) (d' := deafBehind L.d #[⟨.mark m, false, true⟩]) hi (fun op hop => by
    obtain ⟨e, he, rfl⟩ := Go.Conc.mem_ofEvents hop
    simp only [List.mem_toArray, List.mem_cons, List.not_mem_nil, or_false] at he
    subst he
    exact ⟨rfl, mute_ok hmu _⟩) (by rw [Deaf_own, hI.deaf i, hL])
  rwa [hL] at this
theorem others_deafen {Γ : Nat → Lo} {d : Nat} : Others Γ (upd Γ i (L.deafen d)) i := fun j hj => .inl (upd_ne _ _ hj)
theorem role_deafen [Inhabited Base] {Γ : Nat → Lo} {d : Nat} (hL : Γ i = L) : (upd Γ i (L.deafen d) 0).role = (Γ 0).role := by
  rcases upd_eq Γ i (L.deafen d) 0 with ⟨e, ei⟩ | ⟨e, _⟩
  · rw [e, ei, hL]; rfl
  · rw [e]
theorem lefty_deafen {d : Nat} : Lefty (L.deafen d) ↔ Lefty L := Iff.rfl
/-- A step that says 'disable' or 'enable'. -/
theorem safe_mark [Inhabited Base] {c : Nat} {g g' : Goroutine} {m : Mark} (hm : m = .disable ∨ m = .enable) (hs : g.status = .running) (h : ∀ w, stepG X.P (i == 0) g w = .go g' w #[⟨.mark m, false, true⟩]) (hS : X.safe i c g' (L.deafen (deafBehind L.d #[⟨.mark m, false, true⟩]))) : X.safe i (c + 1) g L := by
  rcases hS with ⟨hnl, hS⟩ | ⟨hl, h0, hq⟩
  · refine safe_step hs hnl fun n Γ w t hI hL hi => ⟨g', w, _, upd Γ i (L.deafen (deafBehind L.d #[⟨.mark m, false, true⟩])), h w, mark_deafen hm hI hL hi _ _, others_deafen, ?_, fun b hb => by rw [role_deafen hL]; exact hb, ⟨Aged.refl _, fun _ _ _ _ x => x⟩, by rw [upd_same]; exact .inl ⟨hnl, hS⟩⟩
    exact .inr ⟨by rw [role_deafen hL], fun _ _ x => x⟩
  · exact .inr ⟨hl, h0, .said ⟨.mark m, false, true⟩ (by rcases hm with rfl | rfl <;> rfl) hs (fun w => by have := h w; rwa [main_not h0] at this) hq⟩
section
variable {f : FuncId} {fnn : Func} {ops : Array Oper} {j : Nat} {rest : List Nat} {o : Oper} {k : Nat} {ats : Array TypeId} {ars : Array Operand}
theorem opsS_mark [Inhabited Base] {m : Mark} (hm : m = .disable ∨ m = .enable) (ho : ops[j]? = some o) (hw : Region.wanted o (yielded ops a.tmps) = true) (hop : o.op = .call { callee := .value (.func f), args := ars, argTypes := ats })
    (hf : X.P.funcs[f]? = some fnn) (hname : (fnn.name == "runtime.NumGoroutine") = false) (hb : fnn.body.isNone = true) (hn : Extern.findNext fnn = none) (he : Extern.find fnn = some (fun _ => do mark m; pure Extern.Race.none_))
    (h : OpsS X i fn ops rest k Q' (a.put o.dst (.tuple #[])) (L.deafen (deafBehind L.d #[⟨.mark m, false, true⟩]))) : OpsS X i fn ops (j :: rest) (k + 1) Q' a L :=
  fun b kk cs mm hbf hk hc => safe_mark hm rfl (fun w => stepG_mark0 m (by rcases hm with rfl | rfl <;> simp) ho hw hk hop hf hname hb hn he) (h b kk cs mm hbf hk hc)
theorem unwinds_mark [Inhabited Base] {m : Mark} (hm : m = .disable ∨ m = .enable) {ds : List Deferred} {tmps : Array Value} {n2 : Nat} {P' : Lo → Prop} (hf : X.P.funcs[f]? = some fnn) (hname : (fnn.name == "runtime.NumGoroutine") = false) (hb : fnn.body.isNone = true) (hn : Extern.findNext fnn = none) (he : Extern.find fnn = some (fun _ => do mark m; pure Extern.Race.none_))
    (h : Unwinds X i n2 ds tmps (L.deafen (deafBehind L.d #[⟨.mark m, false, true⟩])) P') : Unwinds X i (n2 + 1) (dcall f #[] :: ds) tmps L P' :=
  fun b todo cs mm hc => safe_mark hm rfl (fun w => stepG_unwind_entry (b := b) (a := ⟨tmps, dcall f #[] :: ds⟩) (v := .tuple #[]) rfl hf hname hb hn he (by simp [Extern.Race.none_]) (by simp) (by
    intro x hx'
    simp at hx'
    subst hx'
    exact ⟨rfl, fun g h => by cases h; rcases hm with h | h <;> cases h⟩)) (h b todo cs mm hc)
end
end
end Go.Proofs.Ytaceedenkmccdaa
