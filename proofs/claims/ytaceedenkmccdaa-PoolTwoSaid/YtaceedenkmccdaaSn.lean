/- Pools: what comes in; what is left behind. -/
import Derived.Test.YtaceedenkmccdaaSl
import Derived.Test.YtaceedenkmccdaaRows
import Derived.WalkKit
import Derived.ProofKit
import Derived.OpenShut
import Derived.ChangeOld
import Derived.Below
import Derived.SizedLaws
import Derived.Deep.Slices
import Derived.ChangeSlices
import Derived.Conc.HoldsTime
namespace Go.Proofs.Ytaceedenkmccdaa
open Go Go.Conc Go.ConcM Go.ConcN Go.ChangeShapes Go.WideShapes Go.ChangeAt
open Go.RowKit (Below)
set_option linter.unusedSimpArgs false
set_option linter.unusedVariables false
set_option maxRecDepth 100000
theorem reach_slice22 {H : Type} {enc : TypeId × Value → H} {P : Program} {W : World} {ts : List TypeId} {ds : List (DataW H)} {t e : TypeId} {a : Option Addr} {n c : Nat} {d : DataW H} {p : List MemPlace} (hu : P.underlying t = some (.slice e))
    (h : DataW.Trod enc P W 0 (fun _ => true) true t (.slice a n c) d p) (hsz : (DataW.weightsEach P ts ds).all (· ≤ reachBytes) = true) (j : Nat) (ht : ts[j]? = some t) (hd : ds[j]? = some d) : n * P.bytesOf e ≤ reachBytes := by
  obtain ⟨fuel, hf⟩ := h
  rcases Go.Deep.open_slice hu hf with ⟨hcs, _⟩ | ⟨x, len, cap, m, k, D, Pl, hcs, _, hl, hm, hmm, hx, _⟩
  · simp [Value.cells] at hcs
    obtain ⟨rfl, rfl, rfl⟩ := hcs
    simp
  · simp [Value.cells] at hcs
    obtain ⟨rfl, rfl, rfl⟩ := hcs
    simp only [Prod.mk.injEq] at hx
    obtain ⟨rfl, _⟩ := hx
    have h1 := sized_slice hsz ht hd hu
    simp only [List.length_map, List.length_range] at h1
    refine Nat.le_trans (Nat.mul_le_mul_right _ ?_) h1
    omega
theorem bytes22_64 : Try.prog.bytesOf 2 = 8 := by kernel_rfl
section
variable {H : Type} {enc : TypeId × Value → H} {W : World} {base : Nat}
theorem open_row {t e : TypeId} {k : IntKind} {v : Value} {d : DataW H} {p : List MemPlace} (ht : Try.prog.underlying t = some (.slice e)) (he : Try.prog.underlying e = some (.int k)) (hc : Try.prog.cellsOf e = 1) (hv : Value.okWide Try.prog W .any base t v) (h : DataW.Trod enc Try.prog W 0 (fun _ => true) true t v d p) :
    ∃ (a : Option Addr) (c : Nat) (xs : List Int), v = .slice a xs.length c ∧ xs.length ≤ c ∧ (xs.length ≠ 0 → ∃ sb, a = some sb) ∧ (∀ sb, a = some sb → ∀ z, z < xs.length → W.cell? (sb.add z) = some (.int k (xs.getD z 0))) ∧ ∀ x ∈ xs, (Lit.int k x).wf = true := by
  obtain ⟨a0, len, cap, rfl⟩ := okWide_slice ht hv
  obtain ⟨fuel, hf⟩ := h
  rcases open_ints ht he hc hf with ⟨hcs, hx⟩ | ⟨x, l, c, zs, hcs, _, hl, hm, hz, hx, hcell, hwz⟩
  · simp [Value.cells] at hcs
    obtain ⟨rfl, rfl, rfl⟩ := hcs
    exact ⟨none, 0, [], rfl, Nat.le_refl _, fun h => absurd rfl h, fun sb h => (by cases h), fun x h => by cases h⟩
  · simp [Value.cells] at hcs
    obtain ⟨rfl, rfl, rfl⟩ := hcs
    have hz' : zs.length = cap := by simpa using hz
    have hlen : (zs.take len).length = len := by simp; omega
    refine ⟨some x, cap, zs.take len, by rw [hlen], by rw [hlen]; exact hl, fun _ => ⟨x, rfl⟩, fun sb hsb z hz2 => ?_, fun y hy => hwz y (List.mem_of_mem_take hy)⟩
    cases hsb
    rw [hlen] at hz2
    rw [hcell z (by omega)]
    simp [List.getD_eq_getElem?_getD, List.getElem?_take, hz2]
end
/-- What is left behind. -/
theorem kept_below [Inhabited Base] {W w' : World} (hB : Base.B = W.heap.size) (ha : Aged W w') (hc : ∀ (a : Addr) (v : Value), W.cell? a = some v → w'.cell? a = some v) : Below W.heap.size W { w' with os := W.os } ∧ OsLater W.os w'.os := by
  have hk : ∀ k, k < W.heap.size → w'.heap[k]? = W.heap[k]? := fun k hk => by
    have e : W.heap[k]? = some W.heap[k] := Array.getElem?_eq_getElem hk
    have h1 := ha.old k _ (by rw [hB]; exact hk) e
    generalize W.heap[k] = o at e h1
    rw [e]
    cases hw : w'.heap[k]? with
    | none => rw [hw] at h1; cases o <;> simp [kindOf] at h1
    | some o' =>
      rw [hw] at h1
      cases o with
      | cells c t fr =>
        cases o' with
        | cells c' t' fr' =>
          simp only [kindOf, Option.some.injEq, Obj.cells.injEq] at h1
          obtain ⟨h2, rfl, rfl⟩ := h1
          have hs : c'.size = c.size := by have := congrArg Array.size h2; simpa using this
          have : c' = c := by
            apply Array.ext hs
            intro j j1 j2
            have h3 : W.cell? ⟨k, j, none⟩ = some c[j] := by
              simp [World.cell?, e, j2]
            have h4 := hc _ _ h3
            simp [World.cell?, hw, j1] at h4
            exact h4
          rw [this]
        | _ => simp [kindOf] at h1
      | _ => cases o' <;> simp [kindOf] at h1 ⊢ <;> simp [h1]
  have hsz : W.heap.size ≤ w'.heap.size := by
    apply Classical.byContradiction
    intro hlt
    have h1 : w'.heap.size < W.heap.size := by omega
    have := hk w'.heap.size h1
    rw [Array.getElem?_eq_none (Nat.le_refl _), Array.getElem?_eq_getElem h1] at this
    cases this
  refine ⟨⟨rfl, ha.tape, ha.out, hsz, hk⟩, ?_⟩
  rw [ha.os]
  exact OsLater.refl _
/-- What is asked of the law's end. -/
def Kept22 (W : World) : Value → World → Prop := fun v w => v = .bool true ∧ ∀ (a : Addr) (u : Value), W.cell? a = some u → w.cell? a = some u
theorem root_mono {X : Cx} {fnn : Func} {P1 P2 : Value → Lo → Prop} (h : ∀ v L, P1 v L → P2 v L) : ∀ e a L, rootS X fnn P1 e a L → rootS X fnn P2 e a L := fun e a L q => by
  cases e with
  | normal => obtain ⟨v, q1, q2, q3⟩ := q; exact ⟨v, q1, q2, h v L q3⟩
  | ret => obtain ⟨v, q1, q2, q3⟩ := q; exact ⟨v, q1, q2, h v L q3⟩
  | exit id => exact q.elim
  | goto l => exact q.elim
  | panic ch => exact q.elim
  | outgrown => exact q.elim
/-- A law of the pools', run. -/
theorem law_run [Inhabited Base] {W : World} {f : FuncId} {fnn : Func} {args : Array Value} (hB : Base.B = W.heap.size) (hi : Try.prog.inits.idxOf? f = none) (hf : Try.prog.funcs[f]? = some fnn)
    (h : ∃ n c, fnn.body = some c ∧ wpS (PX (Kept22 W)) 0 f c n (rootS (PX (Kept22 W)) fnn fun v L' => v = .bool true ∧ ∃ m, Boss L' m ∧ AllFin m ∧ ∀ a v, Sees (startLo W) a v → Sees L' a v) { tmps := args ++ Array.replicate (fnn.ntmps - args.size) undef, defers := [] } (startLo W)) :
    ∃ M last o w' t', runNT Try.prog (M + 1) (solo (G (Frame.enter Try.prog f args .normal) []) W) #[] = (.ended o w', t') ∧ runN Try.prog M (solo (G (Frame.enter Try.prog f args .normal) []) W) = .next last ∧ step Try.prog last = .ended o w' ∧
      Conc.Good Try.prog (fun v w' => v = .bool true ∧ Below W.heap.size W { w' with os := W.os } ∧ OsLater W.os w'.os) last o w' t' := by
  obtain ⟨n, c, hb, h⟩ := h
  obtain ⟨M, last, o, w', t', h1, h2, h3, v, e, ⟨⟨q1, q2⟩, q3⟩, g⟩ := pool_run (Q := Kept22 W) (args := args) hB hi hf hb ⟨n, wpS_mono h (root_mono fun v L' ⟨e, m, b, f, x⟩ => ⟨m, b, f, fun w hS => ⟨e, fun a u ha => (x a u (start_sees ha)).know w hS⟩⟩)⟩
  obtain ⟨k1, k2⟩ := kept_below hB q3 q2
  exact ⟨M, last, o, w', t', h1, h2, h3, v, e, ⟨q1, k1, k2⟩, g⟩
end Go.Proofs.Ytaceedenkmccdaa
