/- Pools: the law of two pools. -/
import Derived.Test.YtaceedenkmccdaaSm
import Derived.Test.YtaceedenkmccdaaSo
import Derived.Test.YtaceedenkmccdaaPw
import Derived.DataShut
namespace Go.Proofs.Ytaceedenkmccdaa
open Go Go.Conc Go.ConcN
set_option linter.unusedSimpArgs false
set_option linter.unusedVariables false
variable {X : Cx} {L L' : Lo} {Post : Value → Lo → Prop}
set_option maxRecDepth 100000
set_option maxHeartbeats 8000000
theorem App22.boss2 {so so' : Option Addr} {n : Nat} {m : MainR} (q : App22 L L' so so' n) (hb : Boss L m) : Boss L' m :=
  ⟨q.same.1.trans hb.role, q.same.2.1.trans hb.q, q.same.2.2.1.trans hb.h, q.same.2.2.2.trans hb.d, q.vm hb.vm, hb.reg, hb.pnd, hb.al, hb.dn, hb.nw, hb.clb⟩
theorem Row22.mono2 {so : Option Addr} {cap : Nat} {xs : List Int} (h : Row22 L so cap xs) (g : ∀ {a v}, Has L a v → Has L' a v) : Row22 L' so cap xs :=
  ⟨h.fit, h.row.imp id fun ⟨b, e, h1, h2⟩ => ⟨b, e, fun z hz => g (h1 z hz), fun z hz hc => let ⟨u, hu⟩ := h2 z hz hc; ⟨u, g hu⟩⟩⟩
/-- The numbers that were taken up so far. -/
structure Two (L0 : Lo) (m : MainR) (p q : PoolG) (xs : List Int) (so : Option Addr) (cap j : Nat) (L : Lo) : Prop where
  boss : Boss L m
  row : Row22 L so cap (xs.take j)
  far : ∀ b, so = some ⟨b, 0, none⟩ → p.b < b ∧ q.b < b
  pp : PoolAt L m p
  pq : PoolAt L m q
  old : ∀ {a v}, Sees L0 a v → Sees L a v
/-- A pool, behind steps that leave the blocks up to its own alone. -/
theorem PoolAt.low [Inhabited Base] {m : MainR} {p : PoolG} (hp : PoolAt L m p) (g : ∀ {a v}, a.block ≤ p.b → Sees L a v → Sees L' a v) (h : ∀ {a v}, a.block ≤ p.b → Has L a v → Has L' a v) : PoolAt L' m p :=
  ⟨hp.mem, hp.rd, g (Nat.le_refl _) hp.ci, g (Nat.le_refl _) hp.ce, h (Nat.le_refl _) hp.once, h (Nat.le_refl _) hp.mu⟩
/-- One number more. -/
theorem Two.next [Inhabited Base] {L0 L1 L2 : Lo} {m : MainR} {p q : PoolG} {xs : List Int} {so so' : Option Addr} {cap cap' j : Nat} {v : Int} (h : Two L0 m p q xs so cap j L) (hj : j < xs.length) (hv : v = xs.getD j 0) (hpq : p.b < q.b) (h0 : ∀ {a v}, Sees L0 a v → a.block < p.b)
    (hbt : Grows L L1) (hbd : Boss L1 m) (row : Row22 L2 so' cap' (xs.take j ++ [v])) (q2 : App22 L1 L2 so so' (xs.take j).length) : Two L0 m p q xs so' cap' (j + 1) L2 := by
  have fr : ∀ b, so' = some ⟨b, 0, none⟩ → p.b < b ∧ q.b < b := fun b e => by
    rcases q2.far with h' | ⟨bk, h', hk⟩
    · rw [h'] at e; exact h.far b e
    · rw [h'] at e
      cases e
      exact ⟨hk ⟨p.b, 1, none⟩ (hbt.acc _ h.pp.ci.acc), hk ⟨q.b, 1, none⟩ (hbt.acc _ h.pq.ci.acc)⟩
  have up : ∀ {a v}, a.block ≤ q.b → Sees L a v → Sees L2 a v := fun {a v} h' hs => q2.sees (fun b e x => by have := (h.far b e).2; rw [x] at h'; exact absurd h' (by show ¬ b ≤ q.b; omega)) (hbt.sees hs)
  have uph : ∀ {a v}, a.block ≤ q.b → Has L a v → Has L2 a v := fun {a v} h' hs => q2.has (fun b e x => by have := (h.far b e).2; rw [x] at h'; exact absurd h' (by show ¬ b ≤ q.b; omega)) (hbt.has hs)
  refine ⟨q2.boss2 hbd, ?_, fr, h.pp.low (fun h' => up (by omega)) (fun h' => uph (by omega)), h.pq.low up uph, fun {a v} hs => up (by have := h0 hs; omega) (h.old hs)⟩
  have : xs.take (j + 1) = xs.take j ++ [v] := by
    rw [List.take_add_one, List.getElem?_eq_getElem hj, hv, List.getD_eq_getElem?_getD, List.getElem?_eq_getElem hj]
    rfl
  rw [this]
  exact row
theorem two_wrap {x : Int} (h : (Lit.int .i32 x).wf = true) : IntKind.i64.wrap x = x ∧ IntKind.i64.wrap ((IntKind.i64.wrap (x + x)).tdiv 2) = x := by
  have hx : -2147483648 ≤ x ∧ x ≤ 2147483647 := by
    have := (Lit.wf_int_iff .i32 x).1 h
    have e1 : IntKind.i32.min = -2147483648 := by decide
    have e2 : IntKind.i32.max = 2147483647 := by decide
    rw [e1, e2] at this
    exact this
  have e1 : IntKind.i64.wrap (x + x) = x + x := wrap_i64 _ (by omega) (by omega)
  have e2 : (x + x).tdiv 2 = x := by
    have : x + x = x * 2 := by omega
    rw [this]
    exact Int.mul_tdiv_cancel _ (by decide)
  exact ⟨wrap_i64 _ (by omega) (by omega), by rw [e1, e2]; exact wrap_i64 _ (by omega) (by omega)⟩
end Go.Proofs.Ytaceedenkmccdaa
