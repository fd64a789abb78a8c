/- docketlaw03.live: what is kept in its loop. -/
import Derived.Test.YtocameknhglklaaPlay1
import Derived.Test.YtocameknhglklaaWalDead
namespace Go.Proofs.Ytocameknhglklaa
open Go Go.RowKit
set_option linter.unusedSimpArgs false
set_option linter.unusedVariables false
set_option maxRecDepth 100000

/-- The memory of a life: w0 the law's world, w the life's. X: what may turn of w. -/
structure MemL (w0 w wr : World) (X : Nat → Prop) (bb fb rs : Nat) (F : Nat → Prop) (o : LifeR) (bv : List Value) (all : List Batch) (al : Nat) (x : Option Addr) (c : Nat) (vs : List Value) : Prop where
  len : all.length = al
  mid : Mid wr 1 (.slice x al c) al vs
  whole : Whole wr 1 (.slice x al c)
  rows : RowsAt wr vs all (fun q => q < w0.heap.size)
  upd : Upd X w wr
  newF : ∀ q, F q → X q ∨ w.heap.size ≤ q
  newO : ∀ q, (Value.slice x al c).ownBlock = some q → (X q ∨ w.heap.size ≤ q) ∧ ¬ F q
  bnd : CellsAt wr bb 64 bv
  lif : CellsAt wr fb 66 (lifeV o)
  res : CellsAt wr rs 64 [.int .i64 0, .int .i64 0, .int .i64 0, .int .i64 0]
  awayF : ¬ F bb ∧ ¬ F fb ∧ ¬ F rs
  awayO : ∀ q, (Value.slice x al c).ownBlock = some q → q ≠ bb ∧ q ≠ fb ∧ q ≠ rs
  dist : bb ≠ fb ∧ bb ≠ rs ∧ fb ≠ rs
  lo : w.heap.size ≤ bb ∧ w.heap.size ≤ fb ∧ w.heap.size ≤ rs
  ltF : ∀ q, F q → q < wr.heap.size
  base : w0.heap.size ≤ w.heap.size ∧ ∀ q, X q → w0.heap.size ≤ q
section
variable {w0 w wr w' : World} {X : Nat → Prop} {bb fb rs : Nat} {F : Nat → Prop} {o : LifeR} {bv : List Value} {all : List Batch} {al : Nat} {x : Option Addr} {c : Nat} {vs : List Value}
theorem MemL.hiF (h : MemL w0 w wr X bb fb rs F o bv all al x c vs) : ∀ q, F q → w0.heap.size ≤ q := fun q hq => by
  have hb := h.base.1
  rcases h.newF q hq with e | e
  · exact h.base.2 q e
  · omega
theorem MemL.hiO (h : MemL w0 w wr X bb fb rs F o bv all al x c vs) : ∀ q, (Value.slice x al c).ownBlock = some q → w0.heap.size ≤ q := fun q hq => by
  have hb := h.base.1
  rcases (h.newO q hq).1 with e | e
  · exact h.base.2 q e
  · omega
theorem MemL.log (h : MemL w0 w wr X bb fb rs F o bv all al x c vs) {F' : Nat → Prop} (hu : Upd F wr w') (hF : ∀ q, F' q → F q ∨ wr.heap.size ≤ q) (hlt : ∀ q, F' q → q < w'.heap.size) : MemL w0 w w' X bb fb rs F' o bv all al x c vs := by
  have hz := h.upd.size
  have hb := h.base.1
  have b1 := h.bnd.lt
  have b2 := h.lif.lt
  have b3 := h.res.lt
  refine ⟨h.len, h.mid.upd hu (fun q hq => (h.newO q hq).2), h.whole.upd hu (fun q hq => (h.newO q hq).2) h.mid.lt, h.rows.upd hu (fun q hq hf => by have := h.hiF q hf; omega), h.upd.then hu h.newF, fun q hq => ?_, fun q hq => ⟨(h.newO q hq).1, fun hf => ?_⟩,
    h.bnd.upd hu h.awayF.1, h.lif.upd hu h.awayF.2.1, h.res.upd hu h.awayF.2.2, ⟨fun hf => ?_, fun hf => ?_, fun hf => ?_⟩, h.awayO, h.dist, h.lo, hlt, h.base⟩
  · rcases hF q hq with e | e
    · exact h.newF q e
    · exact .inr (by omega)
  · rcases hF q hf with e | e
    · exact (h.newO q hq).2 e
    · have := h.mid.lt q hq; omega
  · rcases hF _ hf with e | e
    · exact h.awayF.1 e
    · omega
  · rcases hF _ hf with e | e
    · exact h.awayF.2.1 e
    · omega
  · rcases hF _ hf with e | e
    · exact h.awayF.2.2 e
    · omega
theorem MemL.step (h : MemL w0 w wr X bb fb rs F o bv all al x c vs) (hu : Upd (fun _ => False) wr w') : MemL w0 w w' X bb fb rs F o bv all al x c vs :=
  h.log (hu.mono (fun _ _ e => e.elim)) (fun q hq => .inl hq) (fun q hq => Nat.lt_of_lt_of_le (h.ltF q hq) hu.size)
theorem MemL.setb (h : MemL w0 w wr X bb fb rs F o bv all al x c vs) (i : Nat) (v : Value) : MemL w0 w (wr.setCell ⟨bb, i, none⟩ v) X bb fb rs F o (bv.set i v) all al x c vs := by
  have hu : Upd (fun q => q = bb) wr (wr.setCell ⟨bb, i, none⟩ v) := (Upd.refl _ _).setCell _ (.inl rfl)
  have hb := h.base.1
  have hl := h.lo.1
  exact ⟨h.len, h.mid.upd hu (fun q hq => (h.awayO q hq).1), h.whole.upd hu (fun q hq => (h.awayO q hq).1) h.mid.lt, h.rows.upd hu (fun q hq e => by omega), h.upd.then hu (fun q hq => .inr (by omega)), h.newF, h.newO, h.bnd.set i v,
    h.lif.upd hu (fun e => h.dist.1 e.symm), h.res.upd hu (fun e => h.dist.2.1 e.symm), h.awayF, h.awayO, h.dist, h.lo, fun q hq => Nat.lt_of_lt_of_le (h.ltF q hq) hu.size, h.base⟩
theorem MemL.app (h : MemL w0 w wr X bb fb rs F o bv all al x c vs) {b : Batch} {ob : Obj} {x' : Option Addr} {c' : Nat} {v : Value} (hm : Mid w' 1 (.slice x' (al + 1) c') (al + 1) (vs ++ [v])) (hu : Upd (fun q => (Value.slice x al c).ownBlock = some q) (wr.alloc ob) w')
    (hb : (Value.slice x' (al + 1) c').ownBlock = (Value.slice x al c).ownBlock ∨ (Value.slice x' (al + 1) c').ownBlock = some (wr.alloc ob).heap.size) (hw : Whole w' 1 (.slice x' (al + 1) c'))
    (hv : Sees w0 1 v b.length (strsV b)) (hvl : ∀ q, v.ownBlock = some q → 0 < b.length → q < w0.heap.size) (hu0 : Upd (fun _ => False) w0 w) : MemL w0 w w' X bb fb rs F o bv (all ++ [b]) (al + 1) x' c' (vs ++ [v]) := by
  have hal : Upd (fun _ => False) wr (wr.alloc ob) := (Upd.refl _ wr).alloc ob
  have h1 := h.step hal
  have hz := hal.size
  have hz2 := h.upd.size
  have b1 := h.bnd.lt
  have b2 := h.lif.lt
  have b3 := h.res.lt
  have hU : Upd X w w' := h1.upd.then hu (fun q hq => (h.newO q hq).1)
  have hU0 : Upd (fun _ => False) w0 w' := hu0.then hU (fun q hq => .inr (h.base.2 q hq))
  have hown : ∀ q, (Value.slice x' (al + 1) c').ownBlock = some q → (Value.slice x al c).ownBlock = some q ∨ (wr.alloc ob).heap.size ≤ q := fun q hq => by
    rcases hb with e | e
    · rw [e] at hq; exact .inl hq
    · rw [e] at hq; cases hq; exact .inr (Nat.le_refl _)
  refine ⟨by rw [List.length_append, h.len]; rfl, hm, hw, (h1.rows.upd hu (fun q hq e => by have := h.hiO q e; omega)).snoc v b (hv.upd hU0 (fun _ _ _ h => h)) hvl (fun _ h => h), hU, h.newF, fun q hq => ?_,
    h1.bnd.upd hu (fun e => (h.awayO _ e).1 rfl), h1.lif.upd hu (fun e => (h.awayO _ e).2.1 rfl), h1.res.upd hu (fun e => (h.awayO _ e).2.2 rfl), h.awayF, fun q hq => ?_, h.dist, h.lo, fun q hq => Nat.lt_of_lt_of_le (h1.ltF q hq) hu.size, h.base⟩
  · rcases hown q hq with e | e
    · exact h.newO q e
    · exact ⟨.inr (by omega), fun hf => by have := h.ltF q hf; omega⟩
  · rcases hown q hq with e | e
    · exact h.awayO q e
    · exact ⟨by omega, by omega, by omega⟩
end
/-- What is known of the log in a life. -/
structure LiveL (L : LSt) (D : DSt) (p N k B fi th sy als : Nat) (all : List Batch) (al : Nat) : Prop where
  fr : L.fr = p
  n : L.n = N
  waits : D.waits.length ≤ 4096 * k
  live : D.dead = false → Inv L D fi all ∧ L.synced = sy ∧ th = fi ∧ als = sy
  died : D.dead = true → Safe D p N all (fun t s => (t = fi ∨ t = th) ∧ (s = sy ∨ s = als))
  le : al ≤ B + k
  b1 : fi ≤ al
  b2 : th ≤ al
  b3 : sy ≤ al
  b4 : als ≤ al
def bndV (fi th sy als : Nat) : List Value := [.int .i64 fi, .int .i64 th, .int .i64 sy, .int .i64 als]
theorem LiveL.safe {L : LSt} {D : DSt} {p N k B fi th sy als : Nat} {all : List Batch} {al : Nat} (h : LiveL L D p N k B fi th sy als all al) : Safe D p N all (fun t s => (t = fi ∨ t = th) ∧ (s = sy ∨ s = als)) := by
  cases hd : D.dead with
  | true => exact h.died hd
  | false =>
    obtain ⟨h1, h2, _, _⟩ := h.live hd
    have := h1.safe
    rw [h.fr, h.n] at this
    exact this.mono (fun t s ⟨e1, e2⟩ => ⟨.inl e1, .inl (e2.trans h2)⟩)
theorem needB_room {L : LSt} {b : Batch} (h : L.check b = 0) : needB b ≤ L.n := by
  unfold LSt.check at h
  split at h
  · cases h
  · split at h
    · cases h
    · split at h
      · cases h
      · split at h
        · cases h
        · rename_i hr
          unfold LSt.room at hr
          omega
theorem trim_waits (L : LSt) (D : DSt) (u : Int) : (L.trim D u).2.1.waits.length ≤ D.waits.length + 1 := by
  have h2 := mark_waits (L.cut u) D
  unfold LSt.trim
  split
  · exact Nat.le_succ _
  · split
    · exact Nat.le_succ _
    · dsimp only
      split
      · exact h2
      · exact h2
/-- An Append, the disk alive. -/
theorem live_append {L : LSt} {D : DSt} {p N k B fi th sy als : Nat} {all : List Batch} {al : Nat} (h : LiveL L D p N k B fi th sy als all al) (hd : D.dead = false) (hal : all.length = al) (hN : N ≤ 4096) (hB : B + k < 100000) (b : Batch) :
    ((L.append D b).2.2.2 ≠ 0 ∧ (L.append D b).2.2.2 ≠ 10 ∧ (L.append D b).2.1.dead = false ∧ LiveL (L.append D b).1 (L.append D b).2.1 p N (k + 1) B fi th sy als all al) ∨
    ((L.append D b).2.2 = ((al : Int) + 1, 0) ∧ (L.append D b).2.1.dead = false ∧ LiveL (L.append D b).1 (L.append D b).2.1 p N (k + 1) B fi th sy als (all ++ [b]) (al + 1)) ∨
    ((L.append D b).2.2.2 = 10 ∧ (L.append D b).2.1.dead = true ∧ LiveL (L.append D b).1 (L.append D b).2.1 p N (k + 1) B fi th sy als all al) := by
  obtain ⟨hi, h2, h3, h4⟩ := h.live hd
  have hle := h.le
  have hw := h.waits
  rcases append_inv hi b (by rw [hi.last, hal]; omega) with ⟨a1, a2, a3⟩ | ⟨a1, a2, a3, a4, a5, a6, a7, a8⟩ | ⟨a1, a2, a3, a4, a5, a6⟩
  · rw [a2]
    exact .inl ⟨a1, a3, hd, ⟨h.fr, h.n, by show D.waits.length ≤ _; omega, h.live, h.died, by omega, h.b1, h.b2, h.b3, h.b4⟩⟩
  · have hwt := append_waits L D b
    have hn := needB_room a1
    rw [h.n] at hn
    have g1 := h.b1
    have g2 := h.b2
    have g3 := h.b3
    have g4 := h.b4
    refine .inr (.inl ⟨by rw [a2, hal, show ((al + 1 : Nat) : Int) = (al : Int) + 1 by omega], a3.live, ⟨a5.trans h.fr, a6.trans h.n, by omega, fun _ => ⟨a3, a4.trans h2, h3, h4⟩, (fun hd' => by rw [a3.live] at hd'; cases hd'), by omega, by omega, by omega, by omega, by omega⟩⟩)
  · have hwt := append_waits L D b
    have hn := needB_room a1
    rw [h.n] at hn
    refine .inr (.inr ⟨by rw [a2], a4, ⟨by rw [a3]; exact h.fr, by rw [a3]; exact h.n, by omega, (fun hd' => by rw [a4] at hd'; cases hd'), fun _ => ?_, by omega, h.b1, h.b2, h.b3, h.b4⟩⟩)
    rw [h.fr, h.n] at a5
    exact a5.mono (fun t s ⟨e1, e2⟩ => ⟨.inl e1, .inl (e2.trans h2)⟩)
/-- A Sync, the disk alive. -/
theorem live_sync {L : LSt} {D : DSt} {p N k B fi th sy als : Nat} {all : List Batch} {al : Nat} (h : LiveL L D p N k B fi th sy als all al) (hd : D.dead = false) (hal : all.length = al) :
    ((L.sync D).2.2 = 0 ∧ (L.sync D).2.1.dead = false ∧ LiveL (L.sync D).1 (L.sync D).2.1 p N (k + 1) B fi th al al all al) ∨
    ((L.sync D).2.2 = 10 ∧ (L.sync D).2.1.dead = true ∧ LiveL (L.sync D).1 (L.sync D).2.1 p N (k + 1) B fi th sy al all al) := by
  obtain ⟨hi, h2, h3, h4⟩ := h.live hd
  have hle := h.le
  have hw := h.waits
  have hwt := sync_waits L D
  rcases sync_inv hi with ⟨a1, a2, a3, a4, a5⟩ | ⟨a1, a2, a3, a4, a5⟩
  · exact .inl ⟨a1, a2.live, ⟨by rw [a3]; exact h.fr, by rw [a3]; exact h.n, by omega, fun _ => ⟨a2, by rw [a3]; exact hal, h3, rfl⟩, (fun hd' => by rw [a2.live] at hd'; cases hd'), by omega, h.b1, h.b2, Nat.le_refl _, Nat.le_refl _⟩⟩
  · refine .inr ⟨a1, a3, ⟨by rw [a2]; exact h.fr, by rw [a2]; exact h.n, by omega, (fun hd' => by rw [a3] at hd'; cases hd'), fun _ => ?_, by omega, h.b1, h.b2, h.b3, Nat.le_refl _⟩⟩
    rw [h.fr, h.n] at a4
    exact a4.mono (fun t s ⟨e1, e2⟩ => ⟨.inl e1, by rcases e2 with e | e; exact .inl (e.trans h2); exact .inr (e.trans hal)⟩)
/-- A Trim, the disk alive. -/
theorem live_trim {L : LSt} {D : DSt} {p N k B fi th sy als : Nat} {all : List Batch} {al : Nat} (h : LiveL L D p N k B fi th sy als all al) (hd : D.dead = false) (u : Int) :
    ((L.trim D u).2.2 = 1 ∧ (L.trim D u).2.1.dead = false ∧ LiveL (L.trim D u).1 (L.trim D u).2.1 p N (k + 1) B fi th sy als all al) ∨
    (∃ U : Nat, max (fi : Int) u = U ∧ (L.trim D u).2.2 = 0 ∧ (L.trim D u).2.1.dead = false ∧ LiveL (L.trim D u).1 (L.trim D u).2.1 p N (k + 1) B U U sy als all al) ∨
    (∃ U : Nat, max (fi : Int) u = U ∧ (L.trim D u).2.2 = 10 ∧ (L.trim D u).2.1.dead = true ∧ LiveL (L.trim D u).1 (L.trim D u).2.1 p N (k + 1) B fi U sy als all al) := by
  obtain ⟨hi, h2, h3, h4⟩ := h.live hd
  have hle := h.le
  have hw := h.waits
  have g3 := h.b3
  have hwt := trim_waits L D u
  have hlow := hi.low
  rcases trim_inv hi u with ⟨a1, a2⟩ | ⟨a1, a2, a3, a4, a5, a6, a7, a8, a9⟩ | ⟨a1, a2, a3, a4, a5, a6, a7⟩
  · rw [a2]
    exact .inl ⟨rfl, hd, ⟨h.fr, h.n, by show D.waits.length ≤ _; omega, h.live, h.died, by omega, h.b1, h.b2, h.b3, h.b4⟩⟩
  · have e : max fi u.toNat ≤ sy := by omega
    exact .inr (.inl ⟨max fi u.toNat, by omega, a3, a4.live, ⟨a6.trans h.fr, a7.trans h.n, by omega, fun _ => ⟨a4, a5.trans h2, rfl, h4⟩, (fun hd' => by rw [a4.live] at hd'; cases hd'), by omega, by omega, by omega, h.b3, h.b4⟩⟩)
  · have e : max fi u.toNat ≤ sy := by omega
    refine .inr (.inr ⟨max fi u.toNat, by omega, a3, a5, ⟨by rw [a4]; exact h.fr, by rw [a4]; exact h.n, by omega, (fun hd' => by rw [a5] at hd'; cases hd'), fun _ => ?_, by omega, h.b1, by omega, h.b3, h.b4⟩⟩)
    rw [h.fr, h.n] at a6
    exact a6.mono (fun t s ⟨e1, e2⟩ => ⟨e1, .inl (e2.trans h2)⟩)
theorem sizeBnd : (Try.prog.info? 64).map (·.size) = some 4 := by kernel_rfl
theorem sizeWop3 : (Try.prog.info? 55).map (·.size) = some 3 := by kernel_rfl
theorem bndV_one (fi th sy als : Nat) : ∀ u ∈ bndV fi th sy als, u.oneCell' = true := by
  intro u hu
  simp only [bndV, List.mem_cons, List.not_mem_nil, or_false] at hu
  rcases hu with rfl | rfl | rfl | rfl <;> rfl
theorem results_tct {P : Program} {fn : Func} {a p b : Tmp} {ty : TypeId} (h : fn.results = #[.tmp a, .cell p ty, .tmp b]) (tmps : Array Value) (w : World) (g : Nat) (t : TypeId) (cs : Array Value) (fr : Nat × Nat) (d : TypeDesc)
    (hp : tmps.getD p undef = .pointer (some ⟨g, 0, none⟩)) (hg : w.heap[g]? = some (.cells cs t fr))
    (hu : P.underlying ty = some d) (hd : (match d with | .struct _ | .array _ _ => true | _ => false) = true) (hi : (P.info? ty).map (·.size) = some cs.size) :
    (results fn tmps).run P w = .ok (.tuple #[tmps.getD a undef, .agg cs, tmps.getD b undef]) w := by
  have hp' : tmps[p]?.getD undef = .pointer (some ⟨g, 0, none⟩) := by simpa using hp
  simp [results, h, hp', asAddr, run_loadVar_row w g t ty cs fr d hg hu hd hi]
theorem wal_lb {w : World} {lb db : Nat} {L : LSt} {D : DSt} {F : Nat → Prop} (h : WalAt w lb db L D F) : F lb := by
  obtain ⟨lv, G, h0, h1, h2, h3, h4, h5, h6⟩ := h
  exact (h6 lb).2 (.inl rfl)
theorem LiveL.more {L : LSt} {D : DSt} {p N k B fi th sy als : Nat} {all : List Batch} {al : Nat} (h : LiveL L D p N k B fi th sy als all al) : LiveL L D p N (k + 1) B fi th sy als all al :=
  ⟨h.fr, h.n, by have := h.waits; omega, h.live, h.died, by have := h.le; omega, h.b1, h.b2, h.b3, h.b4⟩
theorem fuel_live {L : LSt} {D : DSt} {p N k B fi th sy als : Nat} {all : List Batch} {al : Nat} (h : LiveL L D p N k B fi th sy als all al) (n : Int) : LiveL L (D.setFuel n) p N k B fi th sy als all al :=
  ⟨h.fr, h.n, h.waits, fun hd => ⟨setFuel_inv (h.live hd).1 n, (h.live hd).2⟩, h.died, h.le, h.b1, h.b2, h.b3, h.b4⟩
theorem dead_wal {w : World} {lb db : Nat} {L : LSt} {D : DSt} {F : Nat → Prop} (h : WalAt w lb db L D F) : Calls Try.prog 35 #[.pointer (some ⟨db, 0, none⟩)] w fun e w' => e = .returned (.bool D.dead) ∧ w = w' := by
  obtain ⟨G, hG, _⟩ := h.disk
  exact dead_disk hG
/-- The state of a life. -/
def LiveR (w0 w wr : World) (X : Nat → Prop) (lb db bb fb rs : Nat) (o : LifeR) (p N k B fi th sy als : Nat) (all : List Batch) (al : Nat) (x : Option Addr) (c : Nat) (vs : List Value) : Prop :=
  ∃ (L : LSt) (D : DSt) (F : Nat → Prop), WalAt wr lb db L D F ∧ MemL w0 w wr X bb fb rs F o (bndV fi th sy als) all al x c vs ∧ LiveL L D p N k B fi th sy als all al
/-- What a life leaves. -/
def LivePost (w0 w : World) (X : Nat → Prop) (db p N B : Nat) (al : Nat) (x : Option Addr) (c : Nat) (fi th sy als : Nat) (w' : World) : Prop :=
  ∃ (D : DSt) (G : Nat → Prop) (all : List Batch) (vs : List Value) (T s st : Nat), DiskAt w' db D G ∧ D.waits = [] ∧ D.dead = false ∧ D.fuel = -1 ∧ (T = fi ∨ T = th) ∧ (s = sy ∨ s = als) ∧ T ≤ s ∧ s ≤ al ∧ Good D.secs p N st (T + 1) s (seg all T s) ∧
    al ≤ B + 60 ∧ all.length = al ∧ Mid w' 1 (.slice x al c) al vs ∧ Whole w' 1 (.slice x al c) ∧ RowsAt w' vs all (fun q => q < w0.heap.size) ∧ Upd X w w' ∧ (∀ q, G q → X q ∨ w.heap.size ≤ q) ∧ (∀ q, (Value.slice x al c).ownBlock = some q → (X q ∨ w.heap.size ≤ q) ∧ ¬ G q) ∧
    fi ≤ al ∧ th ≤ al ∧ sy ≤ al ∧ als ≤ al
/-- The end of a life. -/
theorem live_exit {w0 w wr w9 : World} {X : Nat → Prop} {lb db bb fb rs : Nat} {F G : Nat → Prop} {o : LifeR} {p N k B fi th sy als : Nat} {L : LSt} {D : DSt} {all : List Batch} {al : Nat} {x : Option Addr} {c : Nat} {vs : List Value} {keep : List Bool}
    (h : MemL w0 w wr X bb fb rs F o (bndV fi th sy als) all al x c vs) (hl : LiveL L D p N k B fi th sy als all al) (hw : WalAt wr lb db L D F) (hk : k ≤ 60) (hpN : p + N ≤ 4096) (hD : DiskAt w9 db (D.crash keep) G) (hu : Upd G wr w9) (hGF : ∀ q, G q → F q) :
    LivePost w0 w X db p N B al x c fi th sy als (w9.setCells rs 0 (bndV fi th sy als)) ∧ CellsAt (w9.setCells rs 0 (bndV fi th sy als)) rs 64 (bndV fi th sy als) ∧ (w9.setCells rs 0 (bndV fi th sy als)).rangeAt bb 0 (bndV fi th sy als) := by
  have h9 := h.log (F' := F) (hu.mono (fun q _ e => hGF q e)) (fun q hq => .inl hq) (fun q hq => Nat.lt_of_lt_of_le (h.ltF q hq) hu.size)
  have hset : Upd (fun q => q = rs) w9 (w9.setCells rs 0 (bndV fi th sy als)) := upd_setCells rs _ 0 (Upd.refl _ _) (.inl rfl)
  obtain ⟨T, s, st, ⟨o1, o2⟩, o3, o4, o5, _⟩ := crash_inv hpN hl.safe keep
  have hle := hl.le
  have hb := h.base.1
  have hlo := h.lo.2.2
  refine ⟨⟨D.crash keep, G, all, vs, T, s, st, hD.upd hset (fun q hq e => h.awayF.2.2 (e ▸ hGF q hq)), rfl, rfl, rfl, o1, o2, o3, by rw [← h.len]; exact o4, o5, by omega, h.len, h9.mid.upd hset (fun q hq => (h.awayO q hq).2.2), h9.whole.upd hset (fun q hq => (h.awayO q hq).2.2) h9.mid.lt, h9.rows.upd hset (fun q hq e => by omega),
    h9.upd.then hset (fun q hq => .inr (by omega)), fun q hq => h.newF q (hGF q hq), fun q hq => ⟨(h.newO q hq).1, fun hg => (h.newO q hq).2 (hGF q hg)⟩, hl.b1, hl.b2, hl.b3, hl.b4⟩, ?_, CellsAt.range (h9.bnd.upd hset (fun e => h.dist.2.1 e))⟩
  have h1 := heap_setCells_same rs 64 (bndV fi th sy als) 0 _ w9 h9.res (by simp [bndV])
  exact h1
/-- The start of a life. -/
theorem live_start {w0 w : World} {lb db p N B : Nat} {L : LSt} {D : DSt} {F : Nat → Prop} {fi sy : Nat} {all : List Batch} {al : Nat} {x : Option Addr} {c : Nat} {vs : List Value} (hwal : WalAt w lb db L D F) (hinv : Inv L D fi all) (hsy : L.synced = sy) (hfr : L.fr = p) (hn : L.n = N)
    (hwt : D.waits = []) (hlen : all.length = al) (hal : al ≤ B) (hu0 : Upd (fun _ => False) w0 w) (hmid : Mid w 1 (.slice x al c) al vs) (hwh : Whole w 1 (.slice x al c)) (hrows : RowsAt w vs all (fun q => q < w0.heap.size)) (hF : ∀ q, F q → w0.heap.size ≤ q)
    (hO : ∀ q, (Value.slice x al c).ownBlock = some q → w0.heap.size ≤ q ∧ ¬ F q) (o : LifeR) :
    WalAt (((w.alloc (.cells (lifeV o).toArray 66)).alloc (.cells #[.int .i64 fi, .int .i64 fi, .int .i64 sy, .int .i64 sy] 64)).alloc (.cells #[.int .i64 0, .int .i64 0, .int .i64 0, .int .i64 0] 64)) lb db L D F ∧
      MemL w0 w (((w.alloc (.cells (lifeV o).toArray 66)).alloc (.cells #[.int .i64 fi, .int .i64 fi, .int .i64 sy, .int .i64 sy] 64)).alloc (.cells #[.int .i64 0, .int .i64 0, .int .i64 0, .int .i64 0] 64)) (fun q => F q ∨ (Value.slice x al c).ownBlock = some q) (w.heap.size + 1) w.heap.size (w.heap.size + 1 + 1) F o (bndV fi fi sy sy) all al x c vs ∧
      LiveL L D p N 0 B fi fi sy sy all al := by
  have u1 : Upd (fun _ => False) w (w.alloc (.cells (lifeV o).toArray 66)) := (Upd.refl _ _).alloc _
  have c1 := CellsAt.new w 66 (lifeV o)
  have s1 : (w.alloc (.cells (lifeV o).toArray 66)).heap.size = w.heap.size + 1 := by simp
  generalize w.alloc (.cells (lifeV o).toArray 66) = w1 at *
  have u2 : Upd (fun _ => False) w1 (w1.alloc (.cells #[.int .i64 fi, .int .i64 fi, .int .i64 sy, .int .i64 sy] 64)) := (Upd.refl _ _).alloc _
  have c2 : CellsAt (w1.alloc (.cells #[.int .i64 fi, .int .i64 fi, .int .i64 sy, .int .i64 sy] 64)) w1.heap.size 64 (bndV fi fi sy sy) := CellsAt.new w1 _ (bndV fi fi sy sy)
  have s2 : (w1.alloc (.cells #[.int .i64 fi, .int .i64 fi, .int .i64 sy, .int .i64 sy] 64)).heap.size = w1.heap.size + 1 := by simp
  generalize w1.alloc (.cells #[.int .i64 fi, .int .i64 fi, .int .i64 sy, .int .i64 sy] 64) = w2 at *
  have u3 : Upd (fun _ => False) w2 (w2.alloc (.cells #[.int .i64 0, .int .i64 0, .int .i64 0, .int .i64 0] 64)) := (Upd.refl _ _).alloc _
  have c3 : CellsAt (w2.alloc (.cells #[.int .i64 0, .int .i64 0, .int .i64 0, .int .i64 0] 64)) w2.heap.size 64 [.int .i64 0, .int .i64 0, .int .i64 0, .int .i64 0] := CellsAt.new w2 _ [.int .i64 0, .int .i64 0, .int .i64 0, .int .i64 0]
  have s3 : (w2.alloc (.cells #[.int .i64 0, .int .i64 0, .int .i64 0, .int .i64 0] 64)).heap.size = w2.heap.size + 1 := by simp
  generalize w2.alloc (.cells #[.int .i64 0, .int .i64 0, .int .i64 0, .int .i64 0] 64) = w3 at *
  have hU : Upd (fun _ => False) w w3 := (u1.trans u2).trans u3
  have hlow := hinv.low
  have hhigh := hinv.high
  have hFl := hwal.lt
  have hz := hu0.size
  rw [s1] at c2
  rw [s2, s1] at c3
  refine ⟨hwal.upd hU (fun _ _ h => h), ⟨hlen, hmid.upd hU (fun _ _ h => h), hwh.upd hU (fun _ _ h => h) hmid.lt, hrows.upd hU (fun _ _ h => h), hU.mono (fun _ _ h => h.elim), fun q hq => .inl (.inl hq), fun q hq => ⟨.inl (.inr hq), (hO q hq).2⟩, c2.upd u3 (fun h => h), (c1.upd u2 (fun h => h)).upd u3 (fun h => h), c3,
    ⟨fun hf => by have := hFl _ hf; omega, fun hf => by have := hFl _ hf; omega, fun hf => by have := hFl _ hf; omega⟩, fun q hq => by have := hmid.lt q hq; omega, by omega, by omega, fun q hq => Nat.lt_of_lt_of_le (hFl q hq) hU.size, hz, fun q hq => by rcases hq with e | e; exact hF q e; exact (hO q e).1⟩,
    ⟨hfr, hn, by rw [hwt]; exact Nat.zero_le _, fun _ => ⟨hinv, hsy, rfl, rfl⟩, (fun hd => by rw [hinv.live] at hd; cases hd), by omega, by omega, by omega, by omega, by omega⟩⟩
end Go.Proofs.Ytocameknhglklaa
