/- Pools: All: what its askers begin with. -/
import Derived.Test.YtaceedenkmccdaaSh
import Derived.Laws.MakeOwn
namespace Go.Proofs.Ytaceedenkmccdaa
open Go Go.Conc Go.ConcN
set_option linter.unusedSimpArgs false
set_option linter.unusedVariables false
variable {X : Cx} {i : Nat} {L L' : Lo} {Post : Value → Lo → Prop}
set_option maxRecDepth 100000
set_option maxHeartbeats 4000000
theorem mkslice {P : Program} {t e : TypeId} {z : Value} (ht : P.underlying t = some (.slice e)) (hi : (P.info? e).map (fun i => (i.zero, i.bytes, i.size)) = some (some z, 8, 1)) (hz : z.cells = #[z]) (n : Nat) (hn : n * 8 ≤ 140737488355328) (w : World) :
    (Instr.makeSlice t (.int .i64 n) (.int .i64 n)).run P w = .ok (.slice (some ⟨w.heap.size, 0, none⟩) n n) (w.alloc (.cells (Array.replicate n z) e)) ∧ ∀ es, (Instr.makeSlice t (.int .i64 n) (.int .i64 n)).events P w es = es := by
  obtain ⟨i, hi, hi2⟩ := Option.map_eq_some_iff.1 hi
  simp only [Prod.mk.injEq] at hi2
  obtain ⟨z1, z2, z3⟩ := hi2
  have hb : (i.bytes : Int) * (n : Int) ≤ 281474976710656 := by rw [z2]; omega
  have hr := run_make (P := P) w t e i z ht hi z1 .i64 .i64 n n (by omega) (Int.le_refl _) hb (by omega)
  have hm : madeCells z.cells ((n : Int).toNat * i.size) = Array.replicate n z := by
    rw [z3, hz]
    apply Array.ext
    · simp [madeCells]
    · intro k h1 h2
      simp [madeCells, Nat.mod_one]
  rw [hm] at hr
  refine ⟨by simpa using hr, fun es => ?_⟩
  have wn : IntKind.i64.wrap (n : Int) = n := by rw [IntKind.wrap_i64]; omega
  have n1 : ¬ ((n : Int) < 0) := by omega
  have n2 : ¬ (281474976710656 < (i.bytes : Int) * n) := by rw [z2]; omega
  have n3 : ¬ (roomBytes < n * i.bytes) := by rw [z2]; unfold roomBytes; omega
  simp [Instr.makeSlice, run_underlying ht, asInt, asIntOf, typeInfo, hi, wn, n1, n2, sizeOf, askRoom, n3, z3]
  split
  · simp [newRow]
  · cases (zeroValue e).run P w <;> simp [newRow]
theorem add_blk (a : Addr) (n : Nat) : (a.add n).block = a.block := by unfold Addr.add; split <;> rfl
theorem ne_add {a sb : Addr} {z : Nat} (h : a.block ≠ sb.block) : a ≠ sb.add z := fun e => h (by rw [e, add_blk])
/-- What an asker reads. -/
def KidR (A : AllG) (bi bp bt : Nat) (sb : Addr) (a : Addr) : Prop :=
  a = ⟨bi, 0, none⟩ ∨ a = ⟨bp, 0, none⟩ ∨ a = ⟨bt, 0, none⟩ ∨ (∃ z, z < A.items.length ∧ a = sb.add z) ∨ ∃ p, A.p = some p ∧ (a = ⟨p.b, 1, none⟩ ∨ a = ⟨p.b, 2, none⟩)
/-- .. and knows. -/
structure KidK (A : AllG) (bi bp bt : Nat) (sb : Addr) (cap : Nat) (w : World) : Prop where
  k2 : w.cell? ⟨bi, 0, none⟩ = some (.slice (some sb) A.items.length cap)
  k3 : w.cell? ⟨bp, 0, none⟩ = some (.pointer (A.p.map fun p => ⟨p.b, 0, none⟩))
  k4 : w.cell? ⟨bt, 0, none⟩ = some (.slice (some ⟨A.bo, 0, none⟩) A.items.length A.items.length)
  items : ∀ z, z < A.items.length → w.cell? (sb.add z) = some (.int .i64 (A.items.getD z 0))
  pool : ∀ p, A.p = some p → w.cell? ⟨p.b, 1, none⟩ = some (.chan (some p.ci)) ∧ w.cell? ⟨p.b, 2, none⟩ = some (.chan (some p.ce))
def askLo (A : AllG) (bi bp bt : Nat) (sb : Addr) (cap : Nat) : Lo :=
  ⟨fun _ => False, KidR A bi bp bt sb, fun _ => False, KidK A bi bp bt sb cap, fun w w' hc _ h => by
    have g : ∀ a, KidR A bi bp bt sb a → w'.cell? a = w.cell? a := fun a ha => (hc a (.inr ha)).1
    exact ⟨by rw [g _ (.inl rfl)]; exact h.k2, by rw [g _ (.inr (.inl rfl))]; exact h.k3, by rw [g _ (.inr (.inr (.inl rfl)))]; exact h.k4, fun z hz => by rw [g _ (.inr (.inr (.inr (.inl ⟨z, hz, rfl⟩))))]; exact h.items z hz,
      fun p hp => ⟨by rw [g _ (.inr (.inr (.inr (.inr ⟨p, hp, .inl rfl⟩))))]; exact (h.pool p hp).1, by rw [g _ (.inr (.inr (.inr (.inr ⟨p, hp, .inr rfl⟩))))]; exact (h.pool p hp).2⟩⟩, .alive, 0, .asker A [] none false, none⟩
theorem askLo_ok [Inhabited Base] {A : AllG} {bi bp bt : Nat} {sb : Addr} {cap : Nat} (hi : i ≠ 0) (h1 : A.bo ≠ bi) (h2 : A.bo ≠ bp) (h3 : A.bo ≠ bt) (h4 : A.items.length ≠ 0 → A.bo ≠ sb.block) (h5 : ∀ p, A.p = some p → A.bo ≠ p.b) : AskS A i (askLo A bi bp bt sb cap) bi bp bt sb cap := by
  have mk : ∀ {a : Addr} {v : Value}, (∀ w, KidK A bi bp bt sb cap w → w.cell? a = some v) → KidR A bi bp bt sb a → Reads (askLo A bi bp bt sb cap) a v := fun {a v} k r => ⟨⟨k, .inr r, fun h => h⟩, r⟩
  refine ⟨rfl, rfl, rfl, fun a h => h, hi, mk (fun w h => h.k2) (.inl rfl), mk (fun w h => h.k3) (.inr (.inl rfl)), mk (fun w h => h.k4) (.inr (.inr (.inl rfl))), fun z hz => mk (fun w h => h.items z hz) (.inr (.inr (.inr (.inl ⟨z, hz, rfl⟩)))),
    fun p hp => ⟨mk (fun w h => (h.pool p hp).1) (.inr (.inr (.inr (.inr ⟨p, hp, .inl rfl⟩)))), mk (fun w h => (h.pool p hp).2) (.inr (.inr (.inr (.inr ⟨p, hp, .inr rfl⟩))))⟩, fun z hr => ?_⟩
  rcases hr with e | e | e | ⟨y, hy, e⟩ | ⟨p, hp, e | e⟩
  · exact h1 (congrArg Addr.block e)
  · exact h2 (congrArg Addr.block e)
  · exact h3 (congrArg Addr.block e)
  · have := congrArg Addr.block e
    rw [add_blk] at this
    exact h4 (by omega) this
  · exact h5 p hp (congrArg Addr.block e)
  · exact h5 p hp (congrArg Addr.block e)
/-- What main knows while the askers are started. -/
structure ARole (m mm : MainR) (A : AllG) (j : Nat) : Prop where
  ps : mm.ps = m.ps
  cl : mm.cl = m.cl
  rd : mm.rd = m.rd
  fin : mm.fin = m.fin
  asks : mm.asks = m.asks
  al : mm.al = some (A, j)
  reg : mm.reg = none
  pnd : mm.pnd = none
  dn : mm.dn = none
  nw : mm.nw = []
/-- .. and has. -/
structure ALoop (L : Lo) (m : MainR) (A : AllG) (bi bp bt : Nat) (sb : Addr) (cap j : Nat) (L' : Lo) (mm : MainR) : Prop where
  role : L'.role = .main mm
  q : L'.q = none
  h : L'.h = .alive
  d : L'.d = 0
  vm : ∀ a, L'.V a → L'.M a
  r : ARole m mm A j
  sees : ∀ {a v}, Sees L a v → Sees L' a v
  has : ∀ {a v}, Has L a v → ¬ KidR A bi bp bt sb a → Has L' a v
  know : A.items.length ≠ 0 → ∀ w, L'.S w → KidK A bi bp bt sb cap w
  acc : ∀ a, KidR A bi bp bt sb a → L'.M a ∨ L'.R a
  nv : ∀ a, KidR A bi bp bt sb a → ¬ L'.V a
  nvo : ∀ z, z < A.items.length → ¬ L'.V ⟨A.bo, z, none⟩
  st : Sees L' ⟨bt, 0, none⟩ (.slice (some ⟨A.bo, 0, none⟩) A.items.length A.items.length)
theorem ALoop.fit {L : Lo} {m : MainR} {A : AllG} {bi bp bt : Nat} {sb : Addr} {cap j : Nat} {mm : MainR} (h : ALoop L m A bi bp bt sb cap j L' mm) : Fit L' := ⟨⟨h.h, fun wa zs f s e => by rw [h.role] at e; cases e⟩, h.vm⟩
/-- One more is started. -/
def nextR (mm : MainR) (A : AllG) (j : Nat) : MainR := { mm.at none (some (groupA A)) none with pnd := none, al := some (A, j + 1) }
theorem ALoop.next [Inhabited Base] {L : Lo} {m : MainR} {A : AllG} {bi bp bt : Nat} {sb : Addr} {cap j : Nat} {mm : MainR} (h : ALoop L m A bi bp bt sb cap j L' mm) (r : Role) : ALoop L m A bi bp bt sb cap (j + 1) (((L'.turn r none).lends (KidR A bi bp bt sb)).turn (.main (nextR mm A j)) none) (nextR mm A j) :=
  ⟨rfl, rfl, h.h, h.d, fun a ha => ⟨h.vm a ha.1, ha.2⟩, ⟨h.r.ps, h.r.cl, h.r.rd, h.r.fin, h.r.asks, rfl, rfl, rfl, rfl, h.r.nw⟩, fun x => (((h.sees x).turn _ _).lends _).turn _ _, fun x hk => (((h.has x hk).turn _ _).lends hk).turn _ _, fun hn w x => h.know hn w x,
    fun a ha => (h.acc a ha).elim (fun x => .inr (.inr ⟨x, ha⟩)) fun x => .inr (.inl x), fun a ha x => h.nv a ha x.1, fun z hz x => h.nvo z hz x.1, ((h.st.turn _ _).lends _).turn _ _⟩
end Go.Proofs.Ytaceedenkmccdaa
