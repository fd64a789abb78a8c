/- Pools: the walk: what one has: cells that are seen, cells that are had; how that turns. -/
import Derived.Test.YtaceedenkmccdaaRn
namespace Go.Proofs.Ytaceedenkmccdaa
open Go Go.Conc Go.ConcN
set_option linter.unusedSimpArgs false
set_option linter.unusedVariables false
/-- A cell whose content is known, and that may be read. -/
structure Sees (L : Lo) (a : Addr) (v : Value) : Prop where
  know : ∀ w, L.S w → w.cell? a = some v
  acc : L.M a ∨ L.R a
  nv : ¬ L.V a
/-- A cell of one's own. -/
structure Has (L : Lo) (a : Addr) (v : Value) : Prop where
  know : ∀ w, L.S w → w.cell? a = some v
  froz : ∀ w, L.S w → w.frozen? a = false
  own : L.M a
  nv : ¬ L.V a
/-- A cell of one's own that nobody has touched. -/
structure New1 (L : Lo) (a : Addr) (v : Value) : Prop where
  know : ∀ w, L.S w → w.cell? a = some v
  froz : ∀ w, L.S w → w.frozen? a = false
  own : L.M a
  virg : L.V a
theorem Has.sees {L : Lo} {a : Addr} {v : Value} (h : Has L a v) : Sees L a v := ⟨h.know, .inl h.own, h.nv⟩
theorem Sees.turn {L : Lo} {a : Addr} {v : Value} (h : Sees L a v) (r : Role) (q : Option QSt) : Sees (L.turn r q) a v := ⟨h.know, h.acc, h.nv⟩
theorem Has.turn {L : Lo} {a : Addr} {v : Value} (h : Has L a v) (r : Role) (q : Option QSt) : Has (L.turn r q) a v := ⟨h.know, h.froz, h.own, h.nv⟩
theorem New1.turn {L : Lo} {a : Addr} {v : Value} (h : New1 L a v) (r : Role) (q : Option QSt) : New1 (L.turn r q) a v := ⟨h.know, h.froz, h.own, h.virg⟩
theorem Sees.deafen {L : Lo} {a : Addr} {v : Value} (h : Sees L a v) (d : Nat) : Sees (L.deafen d) a v := ⟨h.know, h.acc, h.nv⟩
theorem Has.deafen {L : Lo} {a : Addr} {v : Value} (h : Has L a v) (d : Nat) : Has (L.deafen d) a v := ⟨h.know, h.froz, h.own, h.nv⟩
theorem Sees.shut {L : Lo} {a : Addr} {v : Value} (h : Sees L a v) (c : Nat) : Sees (L.shut c) a v := ⟨fun w x => h.know w x.1, h.acc, h.nv⟩
theorem turn_same {L : Lo} {r : Role} {q : Option QSt} (h1 : L.role = r) (h2 : L.q = q) : L.turn r q = L := by subst h1; subst h2; rfl
theorem deafen_same {L : Lo} {d : Nat} (h : L.d = d) : L.deafen d = L := by subst h; rfl
theorem turn_turn (L : Lo) (r r' : Role) (q q' : Option QSt) : (L.turn r q).turn r' q' = L.turn r' q' := rfl
theorem ev_callFunc {P : Program} {f : FuncId} {fn : Func} {c : Code} (hf : P.funcs[f]? = some fn) (hname : (fn.name == "runtime.NumGoroutine") = false) (hb : fn.body = some c) (args : Array Value) (w : World) (es : Array Event) : (callFunc f args).events P w es = es := by
  have h1 : ¬ fn.name = "runtime.NumGoroutine" := by simpa using hname
  simp [callFunc, hf, h1, hb]
/-! ### a cell is written -/
/-- What is known behind a write. -/
def Lo.sets (L : Lo) (a : Addr) (v : Value) : Lo :=
  { L with S := fun w => (L.M a → w.cell? a = some v ∧ w.frozen? a = false) ∧ ∃ w0, L.S w0 ∧ (∀ b, b ≠ a → L.M b ∨ L.R b → w.cell? b = w0.cell? b ∧ w.frozen? b = w0.frozen? b) ∧ ∀ c, ShutCh w0 c → ShutCh w c,
           sup := fun w w' hc hs ⟨h1, w0, h2, h3, h4⟩ => ⟨fun hm => by rw [(hc a (.inl hm)).1, (hc a (.inl hm)).2]; exact h1 hm, w0, h2, fun b hb hmr => by rw [(hc b hmr).1, (hc b hmr).2]; exact h3 b hb hmr, fun c x => hs c (h4 c x)⟩ }
theorem Has.sets {L : Lo} {a : Addr} {u : Value} (h : Has L a u) (v : Value) : Has (L.sets a v) a v := ⟨fun w x => (x.1 h.own).1, fun w x => (x.1 h.own).2, h.own, h.nv⟩
theorem Sees.sets {L : Lo} {a b : Addr} {u v : Value} (h : Sees L b u) (hb : b ≠ a) : Sees (L.sets a v) b u := ⟨fun w ⟨_, w0, x, y, _⟩ => by rw [(y b hb h.acc).1]; exact h.know w0 x, h.acc, h.nv⟩
theorem Has.other {L : Lo} {a b : Addr} {u v : Value} (h : Has L b u) (hb : b ≠ a) : Has (L.sets a v) b u := ⟨fun w ⟨_, w0, x, y, _⟩ => by rw [(y b hb (.inl h.own)).1]; exact h.know w0 x, fun w ⟨_, w0, x, y, _⟩ => by rw [(y b hb (.inl h.own)).2]; exact h.froz w0 x, h.own, h.nv⟩
theorem New1.sets {L : Lo} {a b : Addr} {u v : Value} (h : New1 L b u) (hb : b ≠ a) : New1 (L.sets a v) b u := ⟨fun w ⟨_, w0, x, y, _⟩ => by rw [(y b hb (.inl h.own)).1]; exact h.know w0 x, fun w ⟨_, w0, x, y, _⟩ => by rw [(y b hb (.inl h.own)).2]; exact h.froz w0 x, h.own, h.virg⟩
theorem cell_some {w : World} {a : Addr} {v : Value} (h : w.cell? a = some v) : ∃ cs el fr, w.heap[a.block]? = some (.cells cs el fr) := by
  unfold World.cell? at h
  cases hb : w.heap[a.block]? with
  | none => rw [hb] at h; cases h
  | some o => rw [hb] at h; cases o <;> simp at h ⊢
theorem setCell_shut [Inhabited Base] {w : World} {a : Addr} {u v : Value} (h : w.cell? a = some u) : ∀ c, ShutCh w c → ShutCh (w.setCell a v) c := by
  rintro c ⟨cap, buf, s, r, tm, e⟩
  obtain ⟨cs, el, fr, hb⟩ := cell_some h
  have : c ≠ a.block := fun x => by rw [x, hb] at e; cases e
  exact ⟨cap, buf, s, r, tm, by rw [← e]; simp [World.setCell, Array.getElem?_modify, Ne.symm this]⟩
theorem sets_S [Inhabited Base] {L : Lo} {a : Addr} {u : Value} (v : Value) (h : Has L a u) {w : World} (hS : L.S w) : (L.sets a v).S (w.setCell a v) :=
  ⟨fun _ => ⟨World.cell?_setCell_same _ _ _ (h.know w hS), by rw [World.frozen?_setCell]; exact h.froz w hS⟩, w, hS, fun b hb _ => ⟨World.cell?_setCell_other _ _ _ _ (Ne.symm hb), World.frozen?_setCell _ _ _ _⟩, setCell_shut (h.know w hS)⟩
/-! ### a new block -/
def Lo.adds (L : Lo) (bk : Nat) (cs : Array Value) (Vn : Nat → Prop) : Lo :=
  { L with M := fun a => L.M a ∨ ∃ k, (k < cs.size ∨ k = 0) ∧ a = ca bk k, V := fun a => L.V a ∨ ∃ k, k < cs.size ∧ a = ca bk k ∧ Vn k,
           S := fun w => L.S w ∧ ∀ k v, cs[k]? = some v → w.cell? (ca bk k) = some v ∧ w.frozen? (ca bk k) = false,
           sup := fun w w' hc hs h => ⟨L.sup w w' (fun a ha => hc a (ha.imp .inl id)) hs h.1, fun k v hk => by
             have hlt : k < cs.size := (Array.getElem?_eq_some_iff.1 hk).1
             rw [(hc (ca bk k) (.inl (.inr ⟨k, .inl hlt, rfl⟩))).1, (hc (ca bk k) (.inl (.inr ⟨k, .inl hlt, rfl⟩))).2]; exact h.2 k v hk⟩ }
theorem ca_eq {b b' i i' : Nat} (h : ca b i = ca b' i') : b = b' ∧ i = i' := by cases h; exact ⟨rfl, rfl⟩
section
variable {L : Lo} {bk : Nat} {cs : Array Value} {Vn : Nat → Prop}
theorem Sees.adds {a : Addr} {v : Value} (h : Sees L a v) (hb : a.block < bk) : Sees (L.adds bk cs Vn) a v := ⟨fun w x => h.know w x.1, h.acc.imp .inl id, fun x => x.elim h.nv fun ⟨k, _, e, _⟩ => by rw [e] at hb; exact absurd hb (Nat.lt_irrefl _)⟩
theorem Has.adds {a : Addr} {v : Value} (h : Has L a v) (hb : a.block < bk) : Has (L.adds bk cs Vn) a v := ⟨fun w x => h.know w x.1, fun w x => h.froz w x.1, .inl h.own, fun x => x.elim h.nv fun ⟨k, _, e, _⟩ => by rw [e] at hb; exact absurd hb (Nat.lt_irrefl _)⟩
theorem New1.adds {a : Addr} {v : Value} (h : New1 L a v) : New1 (L.adds bk cs Vn) a v := ⟨fun w x => h.know w x.1, fun w x => h.froz w x.1, .inl h.own, .inl h.virg⟩
theorem has_new [Inhabited Base] {k : Nat} {v : Value} (hk : cs[k]? = some v) (hV : ¬ Vn k) (hf : ∀ a, L.V a → a.block < bk) : Has (L.adds bk cs Vn) (ca bk k) v :=
  ⟨fun w x => (x.2 k v hk).1, fun w x => (x.2 k v hk).2, .inr ⟨k, .inl (Array.getElem?_eq_some_iff.1 hk).1, rfl⟩, fun x => x.elim (fun y => Nat.lt_irrefl _ (hf _ y)) fun ⟨k', _, e, y⟩ => hV (by rw [(ca_eq e).2]; exact y)⟩
theorem new_new {k : Nat} {v : Value} (hk : cs[k]? = some v) (hV : Vn k) : New1 (L.adds bk cs Vn) (ca bk k) v :=
  ⟨fun w x => (x.2 k v hk).1, fun w x => (x.2 k v hk).2, .inr ⟨k, .inl (Array.getElem?_eq_some_iff.1 hk).1, rfl⟩, .inr ⟨k, (Array.getElem?_eq_some_iff.1 hk).1, rfl, hV⟩⟩
end
/-! ### cells are lent: they may be read yet -/
def Lo.lends (L : Lo) (P : Addr → Prop) : Lo :=
  { L with M := fun a => L.M a ∧ ¬ P a, R := fun a => L.R a ∨ (L.M a ∧ P a), V := fun a => L.V a ∧ ¬ P a,
           sup := fun w w' hc hs h => L.sup w w' (fun a ha => hc a (by
             rcases ha with x | x
             · exact (Classical.em (P a)).elim (fun y => .inr (.inr ⟨x, y⟩)) fun y => .inl ⟨x, y⟩
             · exact .inr (.inl x))) hs h }
theorem Sees.lends {L : Lo} {a : Addr} {v : Value} (h : Sees L a v) (P : Addr → Prop) : Sees (L.lends P) a v := ⟨h.know, by
  rcases h.acc with x | x
  · exact (Classical.em (P a)).elim (fun y => .inr (.inr ⟨x, y⟩)) fun y => .inl ⟨x, y⟩
  · exact .inr (.inl x), fun x => h.nv x.1⟩
theorem Has.lends {L : Lo} {a : Addr} {v : Value} (h : Has L a v) {P : Addr → Prop} (hP : ¬ P a) : Has (L.lends P) a v := ⟨h.know, h.froz, ⟨h.own, hP⟩, fun x => h.nv x.1⟩
theorem New1.lends {L : Lo} {a : Addr} {v : Value} (h : New1 L a v) {P : Addr → Prop} (hP : ¬ P a) : New1 (L.lends P) a v := ⟨h.know, h.froz, ⟨h.own, hP⟩, ⟨h.virg, hP⟩⟩
/-! ### cells are given away -/
def Lo.gives (L : Lo) (P : Addr → Prop) : Lo :=
  { L with M := fun a => L.M a ∧ ¬ P a, R := fun a => L.R a ∧ ¬ P a, V := fun a => L.V a ∧ ¬ P a,
           S := fun w => ∃ w0, L.S w0 ∧ (∀ b, ¬ P b → L.M b ∨ L.R b → w.cell? b = w0.cell? b ∧ w.frozen? b = w0.frozen? b) ∧ ∀ c, ShutCh w0 c → ShutCh w c,
           sup := fun w w' hc hs ⟨w0, h2, h3, h4⟩ => ⟨w0, h2, fun b hb hmr => by
             have : w'.cell? b = w.cell? b ∧ w'.frozen? b = w.frozen? b := hc b (hmr.imp (fun x => ⟨x, hb⟩) fun x => ⟨x, hb⟩)
             rw [this.1, this.2]; exact h3 b hb hmr, fun c x => hs c (h4 c x)⟩ }
theorem Sees.gives {L : Lo} {a : Addr} {v : Value} (h : Sees L a v) {P : Addr → Prop} (hP : ¬ P a) : Sees (L.gives P) a v := ⟨fun w ⟨w0, x, y, _⟩ => by rw [(y a hP h.acc).1]; exact h.know w0 x, h.acc.imp (fun x => ⟨x, hP⟩) fun x => ⟨x, hP⟩, fun x => h.nv x.1⟩
theorem Has.gives {L : Lo} {a : Addr} {v : Value} (h : Has L a v) {P : Addr → Prop} (hP : ¬ P a) : Has (L.gives P) a v := ⟨fun w ⟨w0, x, y, _⟩ => by rw [(y a hP (.inl h.own)).1]; exact h.know w0 x, fun w ⟨w0, x, y, _⟩ => by rw [(y a hP (.inl h.own)).2]; exact h.froz w0 x, ⟨h.own, hP⟩, fun x => h.nv x.1⟩
theorem New1.gives {L : Lo} {a : Addr} {v : Value} (h : New1 L a v) {P : Addr → Prop} (hP : ¬ P a) : New1 (L.gives P) a v := ⟨fun w ⟨w0, x, y, _⟩ => by rw [(y a hP (.inl h.own)).1]; exact h.know w0 x, fun w ⟨w0, x, y, _⟩ => by rw [(y a hP (.inl h.own)).2]; exact h.froz w0 x, ⟨h.own, hP⟩, ⟨h.virg, hP⟩⟩
theorem gives_S {L : Lo} {P : Addr → Prop} {w : World} (h : L.S w) : (L.gives P).S w := ⟨w, h, fun _ _ _ => ⟨rfl, rfl⟩, fun _ x => x⟩
/-! ### rules -/
section
variable {X : Cx} {i : Nat} {fn : FuncId} {Q' : Exit → Act → Lo → Prop} {a : Act} {L L' : Lo} {w w' : World}
variable {ops : Array Oper} {j : Nat} {rest : List Nat} {o : Oper} {k : Nat}
/-- What a read lists. -/
theorem Sees.ev {ad : Addr} {v : Value} (h : Sees L ad v) (sy : Bool) : EvLoc L ⟨.cell ad, false, sy⟩ := .inl ⟨ad, false, sy, rfl, h.nv, h.acc.imp id fun x => ⟨x, rfl⟩⟩
theorem Has.ev {ad : Addr} {v : Value} (h : Has L ad v) (wr sy : Bool) : EvLoc L ⟨.cell ad, wr, sy⟩ := .inl ⟨ad, wr, sy, rfl, h.nv, .inl h.own⟩
/-- A cell of one's own is written. -/
theorem opsS_put [Inhabited Base] {ad : Addr} {u v r : Value} (hh : Has L ad u) (ho : ops[j]? = some o) (hw : Region.wanted o (yielded ops a.tmps) = true) (hlv : Live L) (hV : ∀ a, L.V a → L.M a) (hr : ∀ w, w.cell? ad = some u → w.frozen? ad = false → (execOp a.eval o).run X.P w = .ok (.value r) (w.setCell ad v) ∨ (execOp a.eval o).run X.P w = .ok .skip (w.setCell ad v) ∧ r = undef)
    (he : ∀ w, w.cell? ad = some u → w.frozen? ad = false → ∀ e ∈ listed X.P fn a o w, EvLoc L e) (h : OpsS X i fn ops rest k Q' (a.put o.dst r) (L.sets ad v)) : OpsS X i fn ops (j :: rest) (k + 1) Q' a L :=
  opsS_set (L' := L.sets ad v) ho hw hlv hh.own (fun b hb => ⟨hV b hb, fun e => hh.nv (e ▸ hb)⟩) (fun w hS => ⟨u, hh.know w hS⟩) (fun w hS => hr w (hh.know w hS) (hh.froz w hS)) (fun w hS => he w (hh.know w hS) (hh.froz w hS)) ⟨rfl, rfl, rfl, rfl, rfl, rfl, rfl⟩ (fun w hS => sets_S v hh hS) h
theorem Keeps.trans [Inhabited Base] {M : Addr → Prop} {w w1 w2 : World} (h1 : Keeps M w w1) (h2 : Keeps M w1 w2) : Keeps M w w2 :=
  ⟨Nat.le_trans h1.size h2.size, fun a ha hn => by
    have x := h1.cell a ha hn
    have y := h2.cell a (Nat.lt_of_lt_of_le ha h1.size) hn
    exact ⟨y.1.trans x.1, y.2.trans x.2⟩, fun c cap buf cl s r tm e => h2.chan _ _ _ _ _ _ _ (h1.chan _ _ _ _ _ _ _ e), ⟨h1.fill.os.trans h2.fill.os, fun c v s r e => h1.fill.fill c v s r (h2.fill.fill c v s r e)⟩⟩
/-- Two cells of one's own are written. -/
theorem opsS_put2 [Inhabited Base] {ad ad1 : Addr} {u0 u1 : Value} (v0 v1 : Value) (h0 : Has L ad u0) (h1 : Has L ad1 u1) (hne : ad1 ≠ ad) (ho : ops[j]? = some o) (hw : Region.wanted o (yielded ops a.tmps) = true) (hlv : Live L) (hV : ∀ a, L.V a → L.M a)
    (hr : ∀ w, w.cell? ad = some u0 → w.frozen? ad = false → w.cell? ad1 = some u1 → w.frozen? ad1 = false → (execOp a.eval o).run X.P w = .ok .skip ((w.setCell ad v0).setCell ad1 v1))
    (he : ∀ w, w.cell? ad = some u0 → w.frozen? ad = false → w.cell? ad1 = some u1 → w.frozen? ad1 = false → ∀ e ∈ listed X.P fn a o w, EvLoc L e) (h : OpsS X i fn ops rest k Q' (a.put o.dst undef) ((L.sets ad v0).sets ad1 v1)) : OpsS X i fn ops (j :: rest) (k + 1) Q' a L := by
  refine opsS_loc ho hw hlv fun w hS _ => ?_
  have k0 := keeps_set (v := v0) (h0.know w hS) h0.own
  have h1' := h1.other (v := v0) hne
  have S1 := sets_S v0 h0 hS
  have k1 := keeps_set (v := v1) (h1'.know _ S1) h1.own
  exact ⟨_, undef, _, (L.sets ad v0).sets ad1 v1, hr w (h0.know w hS) (h0.froz w hS) (h1.know w hS) (h1.froz w hS), .inr ⟨rfl, rfl⟩, ⟨rfl, rfl, rfl, rfl, k0.trans k1, fun a ha => .inl ha, fun a ha => .inl ha, fun _ _ _ ha => ha, fun a ha => ⟨hV a ha, .inl ha⟩, sets_S v1 h1' S1, he w (h0.know w hS) (h0.froz w hS) (h1.know w hS) (h1.froz w hS)⟩, h⟩
theorem alloc_cells [Inhabited Base] (w : World) (cs : Array Value) (ty : TypeId) (k : Nat) (v : Value) (hk : cs[k]? = some v) : (w.alloc (.cells cs ty)).cell? (ca w.heap.size k) = some v ∧ (w.alloc (.cells cs ty)).frozen? (ca w.heap.size k) = false := by
  have := alloc_new w (.cells cs ty)
  unfold World.cell? World.frozen?
  rw [show (ca w.heap.size k).block = w.heap.size from rfl, this]
  simp [ca, hk]
/-- A new block of one's own. -/
theorem opsS_add [Inhabited Base] {r : Nat → Value} {cs : Array Value} {ty : TypeId} (Vn : Nat → Prop) (ho : ops[j]? = some o) (hw : Region.wanted o (yielded ops a.tmps) = true) (hlv : Live L) (hV : ∀ a, L.V a → L.M a) (hr : ∀ w, L.S w → (execOp a.eval o).run X.P w = .ok (.value (r w.heap.size)) (w.alloc (.cells cs ty)))
    (he : ∀ w, L.S w → listed X.P fn a o w = #[]) (h : ∀ bk, (∀ ad, L.M ad ∨ L.R ad → ad.block < bk) → OpsS X i fn ops rest k Q' (a.put o.dst (r bk)) (L.adds bk cs Vn)) : OpsS X i fn ops (j :: rest) (k + 1) Q' a L := by
  refine opsS_new (Ln := fun bk => L.adds bk cs Vn) ho hw hlv hV hr he (fun bk => ⟨rfl, rfl, rfl, rfl, fun a ha => ha.imp id fun ⟨k, _, e⟩ => by rw [e]; rfl, fun a ha => .inl ha, fun a ha => .inl ha, fun a ha => ?_⟩) (fun w hS hbk => ⟨?_, fun k v hk => alloc_cells w cs ty k v hk⟩) h
  · rcases ha with x | ⟨k, hk, e, y⟩
    · exact ⟨.inl (hV a x), .inl x⟩
    · exact ⟨.inr ⟨k, .inl hk, e⟩, .inr (by rw [e]; rfl)⟩
  · exact L.sup w _ (fun a ha => alloc_cell w _ a (hbk a ha)) (fun c ⟨cap, buf, s, r, tm, e⟩ => ⟨cap, buf, s, r, tm, alloc_keep w _ e⟩) hS
/-! ### atomic steps on one's own -/
theorem mv_own_load [Inhabited Base] {ad : Addr} {k : IntKind} {x : Int} (h : Sees L ad (.int k x)) (hlv : Live L) (hV : ∀ a, L.V a → L.M a) : Move X i L (Extern.Atomic.loadT (.int k) #[.pointer (some ad)]) fun r L' => r = .int k x ∧ L' = L :=
  move_loc hlv fun w hS _ => by
    have hc := h.know w hS
    refine ⟨_, w, #[⟨.cell ad, false, true⟩], L, ?_, ?_, sync_ok sync1, LocOK.refl hS (Keeps.refl _ _) (fun e he => ?_) hV, rfl, rfl⟩
    · change Sem.run X.P (do Extern.Atomic.read (.int k) (← asAddr (.pointer (some ad)))) w = _
      simp [Extern.Atomic.read, asAddr, hc]
    · intro es0
      change Sem.events X.P (do Extern.Atomic.read (.int k) (← asAddr (.pointer (some ad)))) w es0 = _
      simp [Extern.Atomic.read, asAddr, hc, events_load]
    · simp only [List.mem_toArray, List.mem_cons, List.not_mem_nil, or_false] at he
      rw [he]; exact h.ev true
theorem locok_set [Inhabited Base] {ad : Addr} {u v : Value} (h : Has L ad u) (hV : ∀ a, L.V a → L.M a) {w : World} (hS : L.S w) {es : Array Event} (he : ∀ e ∈ es, EvLoc L e) : LocOK L (L.sets ad v) w (w.setCell ad v) es :=
  ⟨rfl, rfl, rfl, rfl, keeps_set (h.know w hS) h.own, fun a ha => .inl ha, fun a ha => .inl ha, fun _ _ _ ha => ha, fun a ha => ⟨hV a ha, .inl ha⟩, sets_S v h hS, he⟩
theorem mv_own_store [Inhabited Base] {ad : Addr} {k : IntKind} {x y : Int} (h : Has L ad (.int k x)) (hlv : Live L) (hV : ∀ a, L.V a → L.M a) : Move X i L (Extern.Atomic.storeT #[.pointer (some ad), .int k y]) fun r L' => r = .tuple #[] ∧ L' = L.sets ad (.int k y) :=
  move_loc hlv fun w hS _ => by
    obtain ⟨e1, e2⟩ := ent_store (w := w) (y := y) X.P ⟨h.know w hS, h.froz w hS⟩
    refine ⟨_, _, _, _, e1, e2, sync_ok sync1, locok_set h hV hS fun e he => ?_, rfl, rfl⟩
    simp only [List.mem_toArray, List.mem_cons, List.not_mem_nil, or_false] at he
    rw [he]; exact h.ev _ _
theorem mv_own_cas [Inhabited Base] {ad : Addr} {k : IntKind} {x y : Int} (h : Has L ad (.int k x)) (hlv : Live L) (hV : ∀ a, L.V a → L.M a) : Move X i L (Extern.Atomic.casT (.int k) #[.pointer (some ad), .int k x, .int k y]) fun r L' => r = .bool true ∧ L' = L.sets ad (.int k y) :=
  move_loc hlv fun w hS _ => by
    obtain ⟨e1, e2⟩ := ent_cas_hit (w := w) (y := y) X.P ⟨h.know w hS, h.froz w hS⟩
    refine ⟨_, _, _, _, e1, e2, sync_ok sync2, locok_set h hV hS fun e he => ?_, rfl, rfl⟩
    simp only [List.mem_toArray, List.mem_cons, List.not_mem_nil, or_false] at he
    rcases he with rfl | rfl <;> exact h.ev _ _
theorem mv_own_add [Inhabited Base] {ad : Addr} {k : IntKind} {x d y : Int} (h : Has L ad (.int k x)) (hy : k.wrap (x + d) = y) (hlv : Live L) (hV : ∀ a, L.V a → L.M a) : Move X i L (Extern.Atomic.update (Op.intArith .add) k true #[.pointer (some ad), .int k d]) fun r L' => r = .int k y ∧ L' = L.sets ad (.int k y) :=
  move_loc hlv fun w hS _ => by
    obtain ⟨e1, e2⟩ := ent_add (w := w) X.P ⟨h.know w hS, h.froz w hS⟩ hy
    refine ⟨_, _, _, _, e1, e2, sync_ok sync2, locok_set h hV hS fun e he => ?_, rfl, rfl⟩
    simp only [List.mem_toArray, List.mem_cons, List.not_mem_nil, or_false] at he
    rcases he with rfl | rfl <;> exact h.ev _ _
end
end Go.Proofs.Ytaceedenkmccdaa
