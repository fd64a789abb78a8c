/- Pools: the worker, whole. -/
import Derived.Test.YtaceedenkmccdaaRx
namespace Go.Proofs.Ytaceedenkmccdaa
open Go Go.Conc Go.ConcN
set_option linter.unusedSimpArgs false
set_option linter.unusedVariables false
variable {X : Cx} {i : Nat} {L : Lo} {Post : Value → Lo → Prop}
set_option maxRecDepth 100000
set_option maxHeartbeats 4000000
theorem w_shut2 [Inhabited Base] (hP : X.P = Try.prog) {p : PoolG} {a : Act} (ha : WA p a) (h16 : a.tmps[16]? = some (.bool false)) (h17 : a.tmps[17]? = some (.bool true)) : wpS X i 16 wB2 20 (fun e a' L' => e = .ret ∧ a'.defers = [dcall 18 #[.pointer (some ⟨p.b, 3, none⟩)]] ∧ L' = L) a L := by
  (obtain ⟨P, ap, SelAt, CI, CW, Q⟩ := X; dsimp only at hP; subst hP)
  obtain ⟨tmps, defers⟩ := a
  obtain ⟨ds, sz, p0⟩ := ha
  dsimp only at ds sz p0 h16 h17
  subst ds
  obtain ⟨f0, hlit, hf0⟩ := lit tmps 32 sz
  have e0 := hf0 0 _ p0
  have e16 := hf0 16 _ h16
  have e17 := hf0 17 _ h17
  subst hlit
  clear sz p0 hf0 h16 h17
  simp only [List.range, List.range.loop, List.map, e0, e16, e17]
  clear e0 e16 e17
  dsimp only [wB2, Try.f16]
  co_apply wpS_more
  co_apply wpS_block
  (repeat (first | (co_apply wpS_region; simp only [List.size_toArray, List.length_cons, List.length_nil, Nat.reduceAdd, Nat.zero_add, List.range, List.range.loop]) | (co_apply opsS_pure; (focus (exact rfl)); (focus (exact rfl)); (focus (intro w; go_simp <;> exact rfl)); (focus (intro w; simp [go_sem, execOp, Act.eval]; done)); try walk_nrm) | (co_apply opsS_nil; try dsimp only) | co_apply wpS_seq | co_apply wpS_skip | (co_apply wpS_cond; (focus (exact rfl)); simp only [if_true, if_false, reduceIte, Bool.false_eq_true])))
  co_apply wpS_ret
  exact ⟨rfl, rfl, rfl⟩
  decide
noncomputable def wLoop : Code := .block 1 (.seq wR12 (.seq (.region 3 wOps false) wB2))
noncomputable def selK : List Item := [.code wB2, .inBlock 1, .inLoop wLoop, .inBlock 0]
/-- An idle worker's place. -/
def SelHere (P : Program) (p : PoolG) (i : Nat) (g : Goroutine) (L : Lo) : Prop :=
  ∃ a : Act, g.frame = (baseD 16).at a (.inRegion wOps [0, 1, 2, 3] :: selK) ∧ g.callers = [bot P] ∧ g.dying = none ∧ g.status = .running ∧ WA p a ∧ a.tmps[9]? = some (.chan (some p.ci)) ∧ a.tmps[13]? = some (.chan (some p.ce)) ∧ WS p i L ∧ L.role = .worker p none
/-- What all walks go by. -/
noncomputable def PX (Q : Value → World → Prop) : Cx := ⟨Try.prog, fun f v => if f = 9 then IntKind.i64.wrap (v + v) else IntKind.i64.wrap (v.tdiv 2), SelHere Try.prog, 2000, 10000, Q⟩
theorem px_ap (Q : Value → World → Prop) : ∀ v, (PX Q).ap 9 v = IntKind.i64.wrap (v + v) ∧ (PX Q).ap 14 v = IntKind.i64.wrap (v.tdiv 2) := fun v => ⟨rfl, rfl⟩
theorem px_P (Q : Value → World → Prop) : (PX Q).P = Try.prog := rfl
variable {Q : Value → World → Prop}
theorem to_sel [Inhabited Base] {p : PoolG} {a : Act} (ha : WA p a) (hs : WS p i L) (hr : L.role = .worker p none) : (PX Q).safe i 2200 (G ((baseD 16).at a [.code wLoop, .inLoop wLoop, .inBlock 0]) [bot Try.prog]) L := by
  refine safe_silent (c := 2199) rfl (fun w => stepG_block) ?_
  refine safe_silent (c := 2198) rfl (fun w => stepG_seq) ?_
  have := w_work1 (X := PX Q) rfl ha hs hr (baseD 16) [.code (.seq (.region 3 wOps false) wB2), .inBlock 1, .inLoop wLoop, .inBlock 0] [bot Try.prog] 2158 rfl (by simp [baseD]) fun e a' L' q => ?_
  · exact this
  obtain ⟨rfl, rfl, q1, q2, q3⟩ := q
  refine safe_silent (c := 2157) rfl (fun w => stepG_seq) ?_
  refine safe_silent (c := 2156) rfl (fun w => stepG_region) ?_
  refine .inl ⟨nl_of hr fun wa zs f => by simp, ?_⟩
  rw [Safe]
  exact .inl ⟨p, ⟨a', rfl, rfl, rfl, rfl, q1, q2, q3, hs, hr⟩, (by show (2000 : Nat) ≤ 2156; decide), hr, hs.q, hs.i0⟩
theorem WS.turn [Inhabited Base] {p : PoolG} (h : WS p i L) (r : Role) : WS p i (L.turn r none) := ⟨rfl, h.h, h.d, h.vm, h.f.turn _ _, h.ci.turn _ _, h.ce.turn _ _, h.fn, h.i0⟩
theorem WS.shut [Inhabited Base] {p : PoolG} (h : WS p i L) (c : Nat) : WS p i (L.shut c) := ⟨h.q, h.h, h.d, h.vm, h.f.shut _, h.ci.shut _, h.ce.shut _, h.fn, h.i0⟩
theorem wops2 : ∃ o, wOps[0]? = some o ∧ o.op = .select #[{ chan := .tmp 9, send := none, elem := 63 }, { chan := .tmp 13, send := none, elem := 38 }] true ∧ o.dst = some 14 ∧ ∀ y, Region.wanted o y = true := ⟨_, rfl, rfl, rfl, fun y => rfl⟩
/-- An idle worker rests. -/
theorem px_rest [Inhabited Base] {p : PoolG} {g : Goroutine} (h : SelHere Try.prog p i g L) (hid : idleL p i L) : Rest Try.prog (PX Q).ap (SelHere Try.prog) 2000 10000 Q p i g L := by
  obtain ⟨a, h1, h2, h3, h4, ha, h9, h13, hs, hr⟩ := h
  obtain ⟨o, ho, hop, hdst, hw⟩ := wops2
  have hk : (baseD 16).kind ≠ .early := by simp [baseD]
  have e9 : a.eval (.tmp 9) = .chan (some p.ci) := by simp [Act.eval, Array.getD_eq_getD_getElem?, h9]
  have e13 : a.eval (.tmp 13) = .chan (some p.ce) := by simp [Act.eval, Array.getD_eq_getD_getElem?, h13]
  have fin : ∀ (n : Int) (v : Value) (ok : Bool) (cc : Array CommCase), (G ((baseD 16).at a (.inRegion wOps [0, 1, 2, 3] :: selK)) [bot Try.prog]).finishComm Try.prog cc .select n v ok = G ((baseD 16).at (a.put (some 14) (commResult cc .select n v ok)) (.inRegion wOps [1, 2, 3] :: selK)) [bot Try.prog] := fun n v ok cc => by
    rw [comm_fin Try.prog ho, hdst]
  refine ⟨h4, G ((baseD 16).at a (.inRegion wOps [0, 1, 2, 3] :: selK)) [bot Try.prog], .agg #[], .agg #[.int .i64 0, .chan none], fun w _ => ?_, fun v cb => ?_, ?_, ⟨a, rfl, rfl, rfl, rfl, ha, h9, h13, hs, hr⟩⟩
  · rw [stepG_same (h := G ((baseD 16).at a (.inRegion wOps [0, 1, 2, 3] :: selK)) [bot Try.prog]) h1 h2 h3]
    have hrun : (execOp a.eval o).run Try.prog w = .ok (.comm #[rcase p.ci (.agg #[.int .i64 0, .chan none]), rcase p.ce (.agg #[])] true .select) w := by
      unfold execOp
      rw [hop]
      simp only [Act.eval, Array.getD_eq_getD_getElem?, h9, h13]
      go_simp
      simp [rcase, h9, h13]
    have hl : listed Try.prog 16 a o w = #[] := by
      unfold listed execOp
      rw [hop]
      simp [go_sem, h9, h13, seen_none]
    rw [stepG_comm ho (hw _) hk hrun]
    show GStep.comm _ _ _ _ _ (listed Try.prog 16 a o w) = _
    rw [hl]
  · have hl : ¬ Lefty (L.turn (.worker p (some (cb, v, false))) none) := nl_of (r := .worker p (some (cb, v, false))) rfl fun wa zs f => by simp
    refine safe_in (X := PX Q) ?_ hl
    show (PX Q).safe i 10000 (Goroutine.finishComm _ _ _ _ _ _ _) _
    rw [fin]
    have hw2 := w_work2 (X := PX Q) (i := i) (L := L.turn (.worker p (some (cb, v, false))) none) (u0 := undef) (u1 := .bool true) (u2 := qval v cb) (u3 := .agg #[]) (k := 0) rfl ha
    have hres : commResult #[rcase p.ci (.agg #[.int .i64 0, .chan none]), rcase p.ce (.agg #[])] .select 0 (qval v cb) true = .tuple #[.int .i64 0, .bool true, qval v cb, .agg #[]] := by simp [commResult, rcase, goInt, Array.zipIdx]
    rw [hres]
    refine Safe.more (c := 4300 + 20) (hw2 (baseD _) selK [bot Try.prog] 4300 rfl hk fun e a' L' q => ?_) (by decide)
    obtain ⟨rfl, rfl, q1, q2, q3, q4⟩ := q
    have hw3 := w_serve (X := PX Q) (i := i) rfl (px_ap Q) q1 q2 q3 q4 (hs.turn _) rfl
    refine Safe.more (c := 2202 + 2000) (hw3 (baseD _) [.inBlock 1, .inLoop wLoop, .inBlock 0] [bot Try.prog] 2202 rfl hk fun e a'' L'' q => ?_) (by decide)
    obtain ⟨rfl, r1, r2, r3⟩ := q
    refine safe_silent (c := 2201) rfl (fun w => stepG_inBlock) ?_
    refine safe_silent (c := 2200) rfl (fun w => stepG_inLoop) ?_
    exact to_sel r1 r2 r3
  · have hr' : (L.shut p.ce).role = .worker p none := hr
    have hl : ¬ Lefty (L.shut p.ce) := nl_of hr' fun wa zs f => by simp
    refine ⟨1000, by decide, safe_in (X := PX Q) ?_ hl⟩
    show (PX Q).safe i 1000 (Goroutine.finishComm _ _ _ _ _ _ _) _
    rw [fin]
    have hw2 := w_work2 (X := PX Q) (i := i) (L := L.shut p.ce) (u0 := undef) (u1 := .bool false) (u2 := .agg #[.int .i64 0, .chan none]) (u3 := .agg #[]) (k := 1) rfl ha
    have hres : commResult #[rcase p.ci (.agg #[.int .i64 0, .chan none]), rcase p.ce (.agg #[])] .select 1 (.agg #[]) false = .tuple #[.int .i64 1, .bool false, .agg #[.int .i64 0, .chan none], .agg #[]] := by simp [commResult, rcase, goInt, Array.zipIdx]
    rw [hres]
    refine Safe.more (c := 900 + 20) (hw2 (baseD _) selK [bot Try.prog] 900 rfl hk fun e a' L' q => ?_) (by decide)
    obtain ⟨rfl, rfl, q1, q2, q3, q4⟩ := q
    have hw3 := w_shut2 (X := PX Q) (i := i) (L := L.shut p.ce) rfl q1 q3 q4
    refine Safe.more (c := 800 + 20) (hw3 (baseD _) [.inBlock 1, .inLoop wLoop, .inBlock 0] [bot Try.prog] 800 rfl hk fun e a'' L'' q => ?_) (by decide)
    obtain ⟨rfl, r1, rfl⟩ := q
    intro todo
    have hd := w_done (X := PX Q) (i := i) (L := L.shut p.ce) (wa := handsA p) (zs := []) (f := false) rfl hs.i0 (.inl ⟨p, hr', rfl, rfl, rfl, fun w hS => hS.2⟩) hs.q hs.h hs.d (by rw [hr']; simp [Role.holds])
    have hun : Unwinds (PX Q) i (0 + 450 + 1) a''.defers a''.tmps (L.shut p.ce) (fun L' => ∃ rr, L' = ((L.shut p.ce).says (handsA p) rr).turn (.left (handsA p) [] false 0) none) := by
      rw [r1]
      exact unwinds_enter Try.func18 rfl rfl hd fun L' hL' => unwinds_nil hL'
    refine Safe.more (c := 2 + (0 + 450 + 1)) (hun (baseD _) todo [bot Try.prog] 2 fun L' hL' => ?_) (by decide)
    obtain ⟨rr, rfl⟩ := hL'
    refine safe_silent (c := 1) rfl (fun w => stepG_leave_born (b := baseD _) (a := ⟨a''.tmps, []⟩) rfl rfl Try.func16 (results_none rfl _ _ _) (events_results_none rfl _ _) rfl) ?_
    exact safe_bot (X := PX Q) ⟨⟨_, _, _, rfl⟩, rfl⟩ hs.i0 hs.d
/-- A worker's first steps. -/
theorem px_worker [Inhabited Base] {p : PoolG} (hs : WS p i L) (hr : L.role = .worker p none) : (PX Q).safe i 2300 (born Try.prog { target := .fn (.func 16) #[], args := #[.pointer (some ⟨p.b, 0, none⟩)] }) L := by
  refine safe_born (X := PX Q) (n := 2299) Try.func16 rfl w_body ?_
  have he := enter_atD (P := Try.prog) (#[Value.pointer (some ⟨p.b, 0, none⟩)] ++ #[]) Try.func16 w_body
  show (PX Q).safe i 2299 (G (Frame.enter Try.prog 16 (#[Value.pointer (some ⟨p.b, 0, none⟩)] ++ #[]) .deferred) [bot Try.prog]) L
  rw [he]
  refine safe_silent (c := 2298) rfl (fun w => stepG_seq) ?_
  have h0 := w_work0 (X := PX Q) (i := i) (L := L) (p := p) rfl
  refine Safe.more (c := 2202 + 20) (h0 (baseD _) [.code (.block 0 (.loop wLoop))] [bot Try.prog] 2202 rfl (by simp [baseD]) fun e a' L' q => ?_) (by decide)
  obtain ⟨rfl, rfl, q1⟩ := q
  refine safe_silent (c := 2201) rfl (fun w => stepG_block) ?_
  refine safe_silent (c := 2200) rfl (fun w => stepG_loop) ?_
  exact to_sel q1 hs hr
end Go.Proofs.Ytaceedenkmccdaa
