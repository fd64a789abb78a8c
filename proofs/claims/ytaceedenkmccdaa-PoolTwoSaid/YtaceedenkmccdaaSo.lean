/- Pools: append, in company. -/
import Derived.Test.YtaceedenkmccdaaSk
import Derived.ArgAppend
import Derived.Conc.AppendWalk
namespace Go.Proofs.Ytaceedenkmccdaa
open Go Go.Conc Go.ConcN
set_option linter.unusedSimpArgs false
set_option linter.unusedVariables false
set_option maxRecDepth 100000
/-! ### what append lists -/
theorem ev_loadCells {P : Program} (a : Addr) (C : Addr → Prop) : ∀ (n i : Nat) (acc : Array Value) (w : World) (es : Array Event), (∀ j, j < n → (w.cell? (a.add (i + j))).isSome ∧ C (a.add (i + j))) → ∀ ev ∈ (loadCellsFrom a i n acc).events P w es, ev ∈ es ∨ ∃ ad, ev.loc = .cell ad ∧ ev.write = false ∧ C ad
  | 0, _, _, _, _, _ => fun ev h => .inl (by simpa [loadCellsFrom] using h)
  | n + 1, i, acc, w, es, hc => fun ev h => by
    simp only [loadCellsFrom, Sem.events_bind] at h
    obtain ⟨u, hu⟩ := Option.isSome_iff_exists.1 (hc 0 (by omega)).1
    simp only [Nat.add_zero] at hu
    have hr : (load (a.add i)).run P w = .ok u w := by simp [hu]
    rw [hr] at h
    rcases ev_loadCells a C n (i + 1) (acc.push u) w _ (fun j hj => by have := hc (j + 1) (by omega); rwa [show i + (j + 1) = i + 1 + j by omega] at this) ev h with h | h
    · rcases events_load_at w _ _ es hu ev h with h | ⟨h1, h2⟩
      · exact .inl h
      · exact .inr ⟨_, h1, h2, by simpa using (hc 0 (by omega)).2⟩
    · exact .inr h
theorem ev_firstCells {P : Program} (C : Addr → Prop) (size n : Nat) (x : Value) (w : World) (es : Array Event)
    (hx : ∀ a l c, x = .slice (some a) l c → ∀ j, j < n * size → (w.cell? (a.add j)).isSome ∧ C (a.add j)) : ∀ ev ∈ (Builtin.firstCells size n x).events P w es, ev ∈ es ∨ ∃ ad, ev.loc = .cell ad ∧ ev.write = false ∧ C ad := by
  intro ev h
  unfold Builtin.firstCells at h
  split at h
  · rename_i a l c
    exact ev_loadCells a C _ 0 _ w es (fun j hj => by simpa using hx a l c rfl j hj) ev h
  · exact .inl h
  · exact .inl h
  · exact .inl h
section
variable {P : Program} {w : World} {t ty e : TypeId} {ie : TypeInfo} {z : Value}
/-- What the arm that grows yields. -/
theorem run_grow (ht : P.underlying t = some (.slice e)) (hi : P.info? e = some ie) (hz : ie.zero = some z) (h1 : ie.size = 1) {so : Option Addr} {cap c : Nat} {sa : Addr} {olds news : List Value}
    (hso : (so = none ∧ olds = [] ∧ cap = 0) ∨ ∃ sb, so = some sb ∧ ∀ j v, olds[j]? = some v → w.cell? (sb.add j) = some v) (hnews : ∀ j v, news[j]? = some v → w.cell? (sa.add j) = some v)
    (hm : 0 < news.length) (hg : cap < olds.length + news.length) (hbd : (olds.length + news.length) * ie.bytes ≤ 140737488355328) (hml : olds.length + news.length ≤ 140737488355328) :
    (Builtin.append_ #[t, t] ty #[.slice so olds.length cap, .slice (some sa) news.length c]).run P w =
      .ok (.slice (some ⟨w.heap.size, 0, none⟩) (olds.length + news.length) (grownCap w (olds.length + news.length) cap e)) (w.drew.alloc (.cells (olds.toArray ++ news.toArray ++ Builtin.zeroCells z.cells (grownCap w (olds.length + news.length) cap e - (olds.length + news.length))) e)) := by
  rcases hso with ⟨rfl, rfl, rfl⟩ | ⟨sb, rfl, hold⟩
  · have := run_append_nil (P := P) (w := w) t ty e ie z ht hi hz sa news.length c news (by rw [h1, Nat.mul_one]) hnews hm (by simp only [List.length_nil] at hml; omega) (by simp only [List.length_nil, Nat.zero_add] at hbd; omega)
    simpa using this
  · exact run_append_grow (P := P) (w := w) t ty e ie z ht hi hz sb olds.length cap olds (by rw [h1, Nat.mul_one]) hold sa news.length c news (by rw [h1, Nat.mul_one]) hnews hg (by omega) (growslice_fits (by omega) hbd)
/-- What the arm that grows lists. -/
theorem ev_grow (ht : P.underlying t = some (.slice e)) (hi : P.info? e = some ie) (hz : ie.zero = some z) (h1 : ie.size = 1) {so : Option Addr} {cap c : Nat} {sa : Addr} {olds news : List Value} (C : Addr → Prop)
    (hso : (so = none ∧ olds = [] ∧ cap = 0) ∨ ∃ sb, so = some sb ∧ ∀ j v, olds[j]? = some v → w.cell? (sb.add j) = some v ∧ C (sb.add j)) (hnews : ∀ j v, news[j]? = some v → w.cell? (sa.add j) = some v ∧ C (sa.add j))
    (hm : 0 < news.length) (hg : cap < olds.length + news.length) (hbd : (olds.length + news.length) * ie.bytes ≤ 140737488355328) (hml : olds.length + news.length ≤ 140737488355328) :
    ∀ ev ∈ (Builtin.append_ #[t, t] ty #[.slice so olds.length cap, .slice (some sa) news.length c]).events P w #[], (∃ ad, ev.loc = .cell ad ∧ ev.write = false ∧ C ad) ∨ ∃ m, ev = ⟨.mark m, false, true⟩ ∧ Conc.Neutral m := by
  intro ev hev
  have some1 : ∀ {l : List Value} {b : Addr}, (∀ j v, l[j]? = some v → w.cell? (b.add j) = some v ∧ C (b.add j)) → ∀ j, j < l.length * ie.size → (w.cell? (b.add j)).isSome ∧ C (b.add j) := fun {l b} h j hj => by
    rw [h1, Nat.mul_one] at hj
    obtain ⟨x, y⟩ := h j l[j] (List.getElem?_eq_getElem hj)
    exact ⟨by rw [x]; rfl, y⟩
  have srcN : ∀ a' l' c', Value.slice (some sa) news.length c = .slice (some a') l' c' → ∀ j, j < news.length * ie.size → (w.drew.cell? (a'.add j)).isSome ∧ C (a'.add j) := fun a' l' c' x => by
    cases x; exact some1 hnews
  have hf := run_firstCells_some (P := P) w.drew ie.size news.length sa news.length c news (by rw [h1, Nat.mul_one]) (fun j v h => (hnews j v h).1)
  have hn : ¬ (olds.length + news.length ≤ cap) := by omega
  have h63' : ¬ (9223372036854775807 < ((olds.length : Int) + (news.length : Int))) := by omega
  have h48' : ¬ (281474976710656 < Builtin.nextslicecap (olds.length + news.length) cap * ie.bytes) := by have := growslice_fits (need := olds.length + news.length) (old := cap) (bytes := ie.bytes) (by omega) hbd; omega
  rcases hso with ⟨rfl, rfl, rfl⟩ | ⟨sb, rfl, hold⟩
  · have hne : news ≠ [] := fun e => by rw [e] at hm; exact absurd hm (by simp)
    simp only [List.length_nil, Nat.zero_add, Int.ofNat_zero, Int.zero_add] at hn h63' h48'
    simp [Builtin.append_, run_underlying ht, sizeOf, typeInfo, zeroValue, hi, hz, Builtin.lenOf, hne, hn, h63', h48', Question.forced, run_firstCells_none, hf, newRow] at hev
    rcases ev_firstCells C _ _ _ _ _ srcN ev hev with h | h
    · rcases ev_firstCells C _ _ (.slice none 0 0) _ _ (fun a' l' c' x => by cases x) ev h with h | h
      · exact (Conc.events_askRoom _ _ _ ev h).elim (fun x => by simp at x) .inr
      · exact .inl h
    · exact .inl h
  · have srcO : ∀ a' l' c', Value.slice (some sb) olds.length cap = .slice (some a') l' c' → ∀ j, j < olds.length * ie.size → (w.drew.cell? (a'.add j)).isSome ∧ C (a'.add j) := fun a' l' c' x => by
      cases x; exact some1 hold
    have hfo := run_firstCells_some (P := P) w.drew ie.size olds.length sb olds.length cap olds (by rw [h1, Nat.mul_one]) (fun j v h => (hold j v h).1)
    simp [Builtin.append_, run_underlying ht, sizeOf, typeInfo, zeroValue, hi, hz, Builtin.lenOf, hn, h63', h48', Question.forced, hf, hfo, newRow] at hev
    rcases ev_firstCells C _ _ _ _ _ srcN ev hev with h | h
    · rcases ev_firstCells C _ _ _ _ _ srcO ev h with h | h
      · exact (Conc.events_askRoom _ _ _ ev h).elim (fun x => by simp at x) .inr
      · exact .inl h
    · exact .inl h
/-- A room that is there for one. -/
theorem run_room1 (ht : P.underlying t = some (.slice e)) (hi : P.info? e = some ie) (h1 : ie.size = 1) {b n cap c : Nat} {sa : Addr} {v u : Value} (hv : v.oneCell' = true) (hr : n + 1 ≤ cap) (ha : w.cell? (sa.add 0) = some v) (hc : w.cell? ⟨b, n, none⟩ = some u) (hf : w.frozen? ⟨b, n, none⟩ = false) :
    (Builtin.append_ #[t, t] ty #[.slice (some ⟨b, 0, none⟩) n cap, .slice (some sa) 1 c]).run P w = .ok (.slice (some ⟨b, 0, none⟩) (n + 1) cap) (w.setCell ⟨b, n, none⟩ v) := by
  have := run_append_room_cells (P := P) (w := w) t ty e ie ht hi b 0 n cap sa 1 c [v] (by rw [h1]; rfl) (fun j u hj => by
    match j, hj with
    | 0, hj => cases hj; exact ha) (fun u hu => by simp at hu; rw [hu]; exact hv) hr (fun j hj => by
    have : j = 0 := by simp at hj; exact hj
    subst this
    rw [h1]; simp [hc]) (fun j hj => by
    have : j = 0 := by simp at hj; exact hj
    subst this
    rw [h1]; simp [hf])
  rw [this, h1]
  simp [World.setCells]
theorem ev_room1 (ht : P.underlying t = some (.slice e)) (hi : P.info? e = some ie) (h1 : ie.size = 1) {b n cap c : Nat} {sa : Addr} {v u : Value} (C : Addr → Prop) (hv : v.oneCell' = true) (hr : n + 1 ≤ cap) (ha : w.cell? (sa.add 0) = some v) (hC : C (sa.add 0)) (hc : w.cell? ⟨b, n, none⟩ = some u) (hf : w.frozen? ⟨b, n, none⟩ = false) :
    ∀ ev ∈ (Builtin.append_ #[t, t] ty #[.slice (some ⟨b, 0, none⟩) n cap, .slice (some sa) 1 c]).events P w #[], (∃ ad, ev.loc = .cell ad ∧ ev.write = false ∧ C ad) ∨ ev = ⟨.cell ⟨b, n, none⟩, true, false⟩ := by
  intro ev hev
  have hfc := run_firstCells_some (P := P) w 1 1 sa 1 c [v] rfl (fun j u hj => by
    match j, hj with
    | 0, hj => cases hj; exact ha)
  simp [Builtin.append_, run_underlying ht, sizeOf, typeInfo, hi, h1, Builtin.lenOf, hr, hfc, Addr.add_lit, storeCells] at hev
  have hst := fun es => events_store P w es ⟨b, n, none⟩ v .plain hv
  rw [hst, hc] at hev
  simp only [hf, Bool.false_eq_true, if_false] at hev
  rcases Array.mem_push.1 hev with h | rfl
  · rcases ev_firstCells C 1 1 _ _ _ (fun a' l' c' x j hj => by
      cases x
      have : j = 0 := by omega
      subst this
      exact ⟨by rw [ha]; rfl, hC⟩) ev h with h | h
    · simp at h
    · exact .inl h
  · exact .inr rfl
/-- Nothing is appended. -/
theorem run_room0 (ht : P.underlying t = some (.slice e)) (hi : P.info? e = some ie) {b n cap c : Nat} {so : Option Addr} (hr : n ≤ cap) :
    (Builtin.append_ #[t, t] ty #[.slice (some ⟨b, 0, none⟩) n cap, .slice so 0 c]).run P w = .ok (.slice (some ⟨b, 0, none⟩) n cap) w := by
  cases so <;> simp [Builtin.append_, run_underlying ht, sizeOf, typeInfo, hi, Builtin.lenOf, hr, Builtin.firstCells, loadCells, loadCellsFrom, storeCells]
theorem ev_room0 (ht : P.underlying t = some (.slice e)) (hi : P.info? e = some ie) {b n cap c : Nat} {so : Option Addr} (hr : n ≤ cap) (es : Array Event) :
    (Builtin.append_ #[t, t] ty #[.slice (some ⟨b, 0, none⟩) n cap, .slice so 0 c]).events P w es = es := by
  cases so <;> simp [Builtin.append_, run_underlying ht, sizeOf, typeInfo, hi, Builtin.lenOf, hr, Builtin.firstCells, loadCells, loadCellsFrom, storeCells]
end
/-! ### one's own row -/
/-- A row of one's own, with what is spare. -/
structure Row22 (L : Lo) (so : Option Addr) (cap : Nat) (xs : List Int) : Prop where
  fit : xs.length ≤ cap
  row : (so = none ∧ xs = [] ∧ cap = 0) ∨ ∃ b, so = some ⟨b, 0, none⟩ ∧ (∀ z, z < xs.length → Has L ⟨b, z, none⟩ (.int .i64 (xs.getD z 0))) ∧ ∀ z, xs.length ≤ z → z < cap → ∃ u, Has L ⟨b, z, none⟩ u
/-- What has turned behind an append. -/
structure App22 (L L' : Lo) (so so' : Option Addr) (n : Nat) : Prop where
  sees : ∀ {a u}, (∀ b, so = some ⟨b, 0, none⟩ → a ≠ ⟨b, n, none⟩) → Sees L a u → Sees L' a u
  has : ∀ {a u}, (∀ b, so = some ⟨b, 0, none⟩ → a ≠ ⟨b, n, none⟩) → Has L a u → Has L' a u
  same : L'.role = L.role ∧ L'.q = L.q ∧ L'.h = L.h ∧ L'.d = L.d
  vm : (∀ a, L.V a → L.M a) → ∀ a, L'.V a → L'.M a
  acc : ∀ ad, L.M ad ∨ L.R ad → L'.M ad ∨ L'.R ad
  far : so' = so ∨ ∃ bk, so' = some ⟨bk, 0, none⟩ ∧ ∀ ad, L.M ad ∨ L.R ad → ad.block < bk
theorem run_append_op {P : Program} {o : Oper} {a : Act} {w w' : World} {v xv v' : Value} (s x : Operand) (t : TypeId) (ho : o.op = .call { callee := .builtin .append, args := #[s, x], argTypes := #[t, t] }) (hs : a.eval s = v) (hx : a.eval x = xv)
    (hr : (Builtin.append_ #[t, t] o.type #[v, xv]).run P w = .ok v' w') : (execOp a.eval o).run P w = .ok (.value v') w' := by
  unfold execOp
  simp only [ho, resolve, invoke, builtin, Sem.run_bind, Sem.run_pure, Result.andThen_ok, List.map_toArray, List.map_cons, List.map_nil, hs, hx, hr]
theorem keeps_drew [Inhabited Base] {M : Addr → Prop} (w : World) : Keeps M w w.drew := ⟨Nat.le_refl _, fun _ _ _ => ⟨rfl, rfl⟩, fun _ _ _ _ _ _ _ h => h, ⟨Aged.at w _, fun _ _ _ _ h => h⟩⟩
section
variable {X : Cx} {i : Nat} {fn : FuncId} {Q' : Exit → Act → Lo → Prop} {a : Act} {L : Lo} {ops : Array Oper} {j : Nat} {rest : List Nat} {o : Oper} {k : Nat} {t e : TypeId} {ie : TypeInfo} {z : Value} {s x : Operand}
theorem opsS_grow [Inhabited Base] (ht : X.P.underlying t = some (.slice e)) (hi : X.P.info? e = some ie) (hz : ie.zero = some z) (h1 : ie.size = 1) {so : Option Addr} {cap c : Nat} {sa : Addr} {olds news : List Value}
    (ho : ops[j]? = some o) (hw : Region.wanted o (yielded ops a.tmps) = true) (hop : o.op = .call { callee := .builtin .append, args := #[s, x], argTypes := #[t, t] }) (hs : a.eval s = .slice so olds.length cap) (hx : a.eval x = .slice (some sa) news.length c)
    (hso : (so = none ∧ olds = [] ∧ cap = 0) ∨ ∃ sb, so = some sb ∧ ∀ j v, olds[j]? = some v → Sees L (sb.add j) v) (hnews : ∀ j v, news[j]? = some v → Sees L (sa.add j) v)
    (hm : 0 < news.length) (hg : cap < olds.length + news.length) (hbd : (olds.length + news.length) * ie.bytes ≤ 140737488355328) (hml : olds.length + news.length ≤ 140737488355328) (hlv : Live L) (hV : ∀ a, L.V a → L.M a)
    (h : ∀ bk cp, (∀ ad, L.M ad ∨ L.R ad → ad.block < bk) → olds.length + news.length ≤ cp → OpsS X i fn ops rest k Q' (a.put o.dst (.slice (some ⟨bk, 0, none⟩) (olds.length + news.length) cp)) (L.adds bk (olds.toArray ++ news.toArray ++ Builtin.zeroCells z.cells (cp - (olds.length + news.length))) fun _ => False)) :
    OpsS X i fn ops (j :: rest) (k + 1) Q' a L := by
  refine opsS_loc ho hw hlv fun w hS hbk => ?_
  have hS2 : L.S w.drew := L.sup w _ (fun a _ => ⟨rfl, rfl⟩) (fun c h => h) hS
  have hrun := run_append_op s x t hop hs hx (run_grow (P := X.P) (w := w) (ty := o.type) (c := c) ht hi hz h1 (hso.imp id fun ⟨sb, e, y⟩ => ⟨sb, e, fun j v hj => (y j v hj).know w hS⟩) (fun j v hj => (hnews j v hj).know w hS) hm hg hbd hml)
  have hge := grownCap_ge w (olds.length + news.length) cap e
  refine ⟨_, _, _, L.adds w.heap.size (olds.toArray ++ news.toArray ++ Builtin.zeroCells z.cells (grownCap w (olds.length + news.length) cap e - (olds.length + news.length))) fun _ => False, hrun, .inl rfl, ⟨rfl, rfl, rfl, rfl, (keeps_drew w).trans (keeps_new w.drew _ e), fun a ha => ?_, fun a ha => .inl ha, fun A z _ ha => .inl ha, fun a ha => ?_, ⟨?_, fun k v hk => alloc_cells w.drew _ e k v hk⟩, fun ev hev => ?_⟩, h _ _ hbk hge⟩
  · rcases ha with y | ⟨k, _, y⟩
    · exact .inl y
    · refine .inr ?_
      rw [y, alloc_size]
      exact ⟨Nat.le_refl _, Nat.lt_succ_self _⟩
  · rcases ha with y | ⟨_, _, _, y⟩
    · exact ⟨.inl (hV a y), .inl y⟩
    · exact y.elim
  · exact L.sup w.drew _ (fun a ha => alloc_cell w.drew _ a (hbk a ha)) (fun c ⟨cap, buf, s, r, tm, e⟩ => ⟨cap, buf, s, r, tm, alloc_keep w.drew _ e⟩) hS2
  · have hin := mem_listed hev
    rw [events_append_op s x t hop hs hx] at hin
    rcases ev_grow (P := X.P) (w := w) (ty := o.type) (c := c) ht hi hz h1 (fun ad => ¬ L.V ad ∧ (L.M ad ∨ L.R ad)) (hso.imp id fun ⟨sb, e, y⟩ => ⟨sb, e, fun j v hj => ⟨(y j v hj).know w hS, (y j v hj).nv, (y j v hj).acc⟩⟩) (fun j v hj => ⟨(hnews j v hj).know w hS, (hnews j v hj).nv, (hnews j v hj).acc⟩) hm hg hbd hml ev hin with ⟨ad, e1, e2, e3⟩ | ⟨m, rfl, hm⟩
    · obtain ⟨loc, wr, sy⟩ := ev
      dsimp only at e1 e2
      subst e1 e2
      exact .inl ⟨ad, false, sy, rfl, e3.1, e3.2.imp id fun y => ⟨y, rfl⟩⟩
    · exact .inr ⟨m, rfl, hm⟩
theorem ints_at {xs : List Int} {j : Nat} {v : Value} (h : (xs.map fun x => Value.int .i64 x)[j]? = some v) : j < xs.length ∧ v = .int .i64 (xs.getD j 0) := by
  rw [List.getElem?_map] at h
  obtain ⟨x, hx, rfl⟩ := Option.map_eq_some_iff.1 h
  obtain ⟨hlt, hx⟩ := List.getElem?_eq_some_iff.1 hx
  exact ⟨hlt, by rw [List.getD_eq_getElem?_getD, List.getElem?_eq_getElem hlt, hx]; rfl⟩
theorem new_row [Inhabited Base] {L : Lo} {bk cp : Nat} {xs ys : List Int} {zs : Array Value} (hbk : ∀ ad, L.M ad ∨ L.R ad → ad.block < bk) (hV : ∀ a, L.V a → L.M a) (hcp : xs.length + ys.length ≤ cp) (hzs : zs.size = cp - (xs.length + ys.length)) :
    Row22 (L.adds bk ((xs.map fun x => Value.int .i64 x).toArray ++ (ys.map fun x => Value.int .i64 x).toArray ++ zs) fun _ => False) (some ⟨bk, 0, none⟩) cp (xs ++ ys) := by
  have hat : ∀ z v, ((xs.map fun x => Value.int .i64 x).toArray ++ (ys.map fun x => Value.int .i64 x).toArray ++ zs)[z]? = some v → Has (L.adds bk ((xs.map fun x => Value.int .i64 x).toArray ++ (ys.map fun x => Value.int .i64 x).toArray ++ zs) fun _ => False) ⟨bk, z, none⟩ v := fun z v h => has_new h (fun x => x) fun a ha => hbk a (.inl (hV a ha))
  have hsz : ((xs.map fun x => Value.int .i64 x).toArray ++ (ys.map fun x => Value.int .i64 x).toArray ++ zs).size = cp := by simp [hzs]; omega
  refine ⟨by simp; omega, .inr ⟨bk, rfl, fun z hz => hat z _ ?_, fun z h1 h2 => ?_⟩⟩
  · simp only [List.length_append] at hz
    rw [Array.getElem?_append_left (by simp; omega), List.append_toArray, List.getElem?_toArray, ← List.map_append, List.getElem?_map, List.getElem?_eq_getElem (by simp; omega)]
    simp [List.getD_eq_getElem?_getD, List.getElem?_eq_getElem (show z < (xs ++ ys).length by simp; omega)]
  · exact ⟨_, hat z _ (Array.getElem?_eq_getElem (by omega))⟩
theorem app_adds [Inhabited Base] {L : Lo} {bk : Nat} {cs : Array Value} {so : Option Addr} {n : Nat} (hbk : ∀ ad, L.M ad ∨ L.R ad → ad.block < bk) : App22 L (L.adds bk cs fun _ => False) so (some ⟨bk, 0, none⟩) n :=
  ⟨fun _ h => h.adds (hbk _ h.acc), fun _ h => h.adds (hbk _ (.inl h.own)), ⟨rfl, rfl, rfl, rfl⟩, fun h a ha => ha.elim (fun y => .inl (h a y)) fun ⟨_, _, _, y⟩ => y.elim, fun ad h => h.imp .inl id, .inr ⟨bk, rfl, hbk⟩⟩
theorem app_refl {L : Lo} {so : Option Addr} {n : Nat} : App22 L L so so n := ⟨fun _ h => h, fun _ h => h, ⟨rfl, rfl, rfl, rfl⟩, fun h => h, fun _ h => h, .inl rfl⟩
/-- One number is appended to a row of one's own. -/
theorem opsS_app1 [Inhabited Base] (hP : X.P = Try.prog) {so : Option Addr} {cap c : Nat} {sa : Addr} {xs : List Int} {v : Int} (hrow : Row22 L so cap xs)
    (ho : ops[j]? = some o) (hw : Region.wanted o (yielded ops a.tmps) = true) (hop : o.op = .call { callee := .builtin .append, args := #[s, x], argTypes := #[22, 22] }) (hs : a.eval s = .slice so xs.length cap) (hx : a.eval x = .slice (some sa) 1 c) (hv : Sees L (sa.add 0) (.int .i64 v))
    (hml : xs.length ≤ 1000000) (hlv : Live L) (hV : ∀ a, L.V a → L.M a)
    (h : ∀ so' cp L', Row22 L' so' cp (xs ++ [v]) → App22 L L' so so' xs.length → OpsS X i fn ops rest k Q' (a.put o.dst (.slice so' (xs.length + 1) cp)) L') :
    OpsS X i fn ops (j :: rest) (k + 1) Q' a L := by
  have ht : X.P.underlying 22 = some (.slice 2) := by rw [hP]; exact Try.underlying22
  have hi : (X.P.info? 2).map (fun i => (i.zero, i.size, i.bytes)) = some (some (.int .i64 0), 1, 8) := by rw [hP]; kernel_rfl
  obtain ⟨ie, hi, hi2⟩ := Option.map_eq_some_iff.1 hi
  simp only [Prod.mk.injEq] at hi2
  obtain ⟨z1, z2, z3⟩ := hi2
  by_cases hroom : xs.length + 1 ≤ cap
  · rcases hrow.row with ⟨rfl, rfl, rfl⟩ | ⟨b, rfl, hxs, hsp⟩
    · simp at hroom
    · obtain ⟨u, hu⟩ := hsp xs.length (Nat.le_refl _) (by omega)
      refine opsS_set (ad := ⟨b, xs.length, none⟩) (v := .int .i64 v) (r := .slice (some ⟨b, 0, none⟩) (xs.length + 1) cap) (L' := L.sets ⟨b, xs.length, none⟩ (.int .i64 v)) ho hw hlv hu.own (fun a ha => ⟨hV a ha, fun e => hu.nv (e ▸ ha)⟩) (fun w hS => ⟨u, hu.know w hS⟩)
        (fun w hS => .inl (run_append_op s x 22 hop hs hx (run_room1 ht hi z2 rfl hroom (hv.know w hS) (hu.know w hS) (hu.froz w hS)))) (fun w hS ev hev => ?_) ⟨rfl, rfl, rfl, rfl, rfl, rfl, rfl⟩ (fun w hS => sets_S _ hu hS) (h _ _ _ ?_ ?_)
      · have hin := mem_listed hev
        rw [events_append_op s x 22 hop hs hx] at hin
        rcases ev_room1 (P := X.P) (w := w) (ty := o.type) (c := c) ht hi z2 (fun ad => ¬ L.V ad ∧ (L.M ad ∨ L.R ad)) rfl hroom (hv.know w hS) ⟨hv.nv, hv.acc⟩ (hu.know w hS) (hu.froz w hS) ev hin with ⟨ad, e1, e2, e3⟩ | rfl
        · obtain ⟨loc, wr, sy⟩ := ev
          dsimp only at e1 e2
          subst e1 e2
          exact .inl ⟨ad, false, sy, rfl, e3.1, e3.2.imp id fun y => ⟨y, rfl⟩⟩
        · exact .inl ⟨_, true, false, rfl, hu.nv, .inl hu.own⟩
      · refine ⟨by simp; omega, .inr ⟨b, rfl, fun z hz => ?_, fun z h1 h2 => ?_⟩⟩
        · simp only [List.length_append, List.length_cons, List.length_nil] at hz
          by_cases e : z = xs.length
          · subst e
            have : (xs ++ [v]).getD xs.length 0 = v := by simp [List.getD_eq_getElem?_getD]
            rw [this]
            exact hu.sets _
          · have : (xs ++ [v]).getD z 0 = xs.getD z 0 := by simp only [List.getD_eq_getElem?_getD]; rw [List.getElem?_append_left (by omega)]
            rw [this]
            exact (hxs z (by omega)).other fun x => e (by cases x; rfl)
        · simp only [List.length_append, List.length_cons, List.length_nil] at h1
          obtain ⟨u2, hu2⟩ := hsp z (by omega) h2
          exact ⟨u2, hu2.other fun x => by cases x; omega⟩
      · exact ⟨fun hne h => h.sets (hne b rfl), fun hne h => h.other (hne b rfl), ⟨rfl, rfl, rfl, rfl⟩, fun h => h, fun _ h => h, .inl rfl⟩
  · refine opsS_grow (olds := xs.map fun x => Value.int .i64 x) (news := [v].map fun x => Value.int .i64 x) (so := so) (cap := cap) (c := c) (sa := sa) ht hi z1 z2 ho hw hop (by rw [List.length_map]; exact hs) hx ?_ (fun j u hj => ?_) (by simp) (by simp; omega) (by rw [z3]; simp; omega) (by simp; omega) hlv hV (fun bk cp hbk hcp => ?_)
    · rcases hrow.row with ⟨rfl, rfl, rfl⟩ | ⟨b, rfl, hxs, _⟩
      · exact .inl ⟨rfl, rfl, rfl⟩
      · refine .inr ⟨_, rfl, fun j u hj => ?_⟩
        obtain ⟨h1, rfl⟩ := ints_at hj
        have := (hxs j h1).sees
        rw [Addr.add_lit, Nat.zero_add]
        exact this
    · obtain ⟨h1, rfl⟩ := ints_at hj
      have : j = 0 := by simp at h1; exact h1
      subst this
      exact hv
    · have hr := new_row (L := L) (bk := bk) (cp := cp) (xs := xs) (ys := [v]) (zs := Builtin.zeroCells (Value.int .i64 0).cells (cp - ((xs.map fun x => Value.int .i64 x).length + ([v].map fun x => Value.int .i64 x).length))) hbk hV (by simpa using hcp) (by simp [Builtin.zeroCells, Value.cells])
      have := h (some ⟨bk, 0, none⟩) cp _ hr (app_adds hbk)
      simpa using this
/-- Numbers are appended to an empty row that has no room. -/
theorem opsS_appN [Inhabited Base] (hP : X.P = Try.prog) {b c : Nat} {sa : Option Addr} {ys : List Int} (hb : L.M ⟨b, 0, none⟩)
    (ho : ops[j]? = some o) (hw : Region.wanted o (yielded ops a.tmps) = true) (hop : o.op = .call { callee := .builtin .append, args := #[s, x], argTypes := #[22, 22] }) (hs : a.eval s = .slice (some ⟨b, 0, none⟩) 0 0) (hx : a.eval x = .slice sa ys.length c) (hsa : ys.length ≠ 0 → ∃ sb, sa = some sb) (hv : ∀ sb, sa = some sb → ∀ z, z < ys.length → Sees L (sb.add z) (.int .i64 (ys.getD z 0)))
    (hml : ys.length ≤ 1000000) (hlv : Live L) (hV : ∀ a, L.V a → L.M a)
    (h : ∀ so' cp L', Row22 L' so' cp ys → App22 L L' (some ⟨b, 0, none⟩) so' 0 → OpsS X i fn ops rest k Q' (a.put o.dst (.slice so' ys.length cp)) L') :
    OpsS X i fn ops (j :: rest) (k + 1) Q' a L := by
  have ht : X.P.underlying 22 = some (.slice 2) := by rw [hP]; exact Try.underlying22
  have hi : (X.P.info? 2).map (fun i => (i.zero, i.size, i.bytes)) = some (some (.int .i64 0), 1, 8) := by rw [hP]; kernel_rfl
  obtain ⟨ie, hi, hi2⟩ := Option.map_eq_some_iff.1 hi
  simp only [Prod.mk.injEq] at hi2
  obtain ⟨z1, z2, z3⟩ := hi2
  by_cases h0 : ys.length = 0
  · obtain rfl : ys = [] := List.eq_nil_of_length_eq_zero h0
    refine opsS_pure (v := .slice (some ⟨b, 0, none⟩) 0 0) ho hw (fun w => run_append_op s x 22 hop hs hx (run_room0 ht hi (Nat.le_refl _))) (fun w => ?_) (h _ _ _ ⟨Nat.le_refl _, .inr ⟨b, rfl, fun z hz => by simp at hz, fun z _ hz => by simp at hz⟩⟩ app_refl)
    rw [events_append_op s x 22 hop hs hx]
    exact ev_room0 ht hi (Nat.le_refl _) _
  · obtain ⟨sb, rfl⟩ := hsa h0
    refine opsS_grow (olds := []) (news := ys.map fun x => Value.int .i64 x) (so := some ⟨b, 0, none⟩) (cap := 0) (c := c) (sa := sb) ht hi z1 z2 ho hw hop hs (by rw [List.length_map]; exact hx) (.inr ⟨_, rfl, fun j u hj => by simp at hj⟩) (fun j u hj => ?_) (by simp; omega) (by simp; omega) (by rw [z3]; simp; omega) (by simp; omega) hlv hV (fun bk cp hbk hcp => ?_)
    · obtain ⟨h1, rfl⟩ := ints_at hj
      exact hv sb rfl j h1
    · have hr := new_row (L := L) (bk := bk) (cp := cp) (xs := []) (ys := ys) (zs := Builtin.zeroCells (Value.int .i64 0).cells (cp - (([] : List Value).length + (ys.map fun x => Value.int .i64 x).length))) hbk hV (by simpa using hcp) (by simp [Builtin.zeroCells, Value.cells])
      have := h (some ⟨bk, 0, none⟩) cp _ (by simpa using hr) (app_adds hbk)
      simpa using this
end
end Go.Proofs.Ytaceedenkmccdaa
