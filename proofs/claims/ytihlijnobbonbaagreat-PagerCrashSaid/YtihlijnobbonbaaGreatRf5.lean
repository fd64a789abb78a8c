/- docketref04: its calls, what is inner left out. -/
import Derived.Test.YtihlijnobbonbaaGreatRf4
namespace Go.Proofs.YtihlijnobbonbaaGreat
open Go Go.RowKit
set_option linter.unusedSimpArgs false
set_option linter.unusedVariables false
set_option maxRecDepth 100000

/-- The answer's pager: its commits; K: (at least) its blocks. -/
def Rpg (w : World) (rb N rg : Nat) (cs : List Img) (K : Nat → Prop) : Prop :=
  ∃ (x : Option Addr) (c : Nat) (vs : List Value) (A : Nat → Prop), RPg w rb N rg cs x c vs A ∧ (∀ q, ownR rb cs.length x c A q → K q) ∧ (∀ q, K q → q < w.heap.size)
/-- Its transaction; l: what it has written. -/
def Rtx (w : World) (xb rb N rg : Nat) (cs : List Img) (l : Img) (K : Nat → Prop) : Prop :=
  ∃ (x : Option Addr) (c : Nat) (vs : List Value) (A : Nat → Prop) (y : Option Addr) (d : Nat), RTx w xb rb N rg cs l x c vs A y d ∧ (∀ q, ownX xb rb cs.length x c A l.length y d q → K q) ∧ (∀ q, K q → q < w.heap.size)
section
variable {w w' : World} {xb rb N rg : Nat} {cs : List Img} {l : Img} {K H : Nat → Prop}
theorem Rpg.upd (h : Rpg w rb N rg cs K) (hu : Upd H w w') (hf : ∀ q, K q → ¬ H q) : Rpg w' rb N rg cs K :=
  let ⟨x, c, vs, A, h1, h2, h3⟩ := h
  ⟨x, c, vs, A, h1.upd hu (fun q hq => hf q (h2 q hq)), h2, fun q hq => Nat.lt_of_lt_of_le (h3 q hq) hu.size⟩
theorem Rtx.upd (h : Rtx w xb rb N rg cs l K) (hu : Upd H w w') (hf : ∀ q, K q → ¬ H q) : Rtx w' xb rb N rg cs l K :=
  let ⟨x, c, vs, A, y, d, h1, h2, h3⟩ := h
  ⟨x, c, vs, A, y, d, h1.upd hu (fun q hq => hf q (h2 q hq)), h2, fun q hq => Nat.lt_of_lt_of_le (h3 q hq) hu.size⟩
theorem Rpg.lt (h : Rpg w rb N rg cs K) : ∀ q, K q → q < w.heap.size := let ⟨_, _, _, _, _, _, h3⟩ := h; h3
theorem Rtx.lt (h : Rtx w xb rb N rg cs l K) : ∀ q, K q → q < w.heap.size := let ⟨_, _, _, _, _, _, _, _, h3⟩ := h; h3
theorem Rtx.pg (h : Rtx w xb rb N rg cs l K) : Rpg w rb N rg cs K :=
  let ⟨x, c, vs, A, y, d, h1, h2, h3⟩ := h
  ⟨x, c, vs, A, h1.pg, fun q hq => h2 q (.inr (.inr hq)), h3⟩
theorem Rpg.new (h : CellsA w rb 48 [.int .i64 N, .int .i64 rg, .slice none 0 0]) : Rpg w rb N rg [] (fun q => q = rb) :=
  ⟨none, 0, [], fun _ => False, ⟨h, Mid.nil _ _, Whole.nil _ _, PutsAt.nil _ _, (fun q hq => by cases hq), fun h => h, (fun p hp => by cases hp), fun q h => h.elim⟩, (fun q hq => by
    rcases hq with hq | hq | hq
    · exact hq
    · cases hq
    · exact hq.elim), fun q hq => by rw [hq]; exact h.lt⟩
theorem Rpg.tx (h : Rpg w rb N rg cs K) (hc : CellsA w xb 51 [.pointer (some ⟨rb, 0, none⟩), .slice none 0 0]) (hn : ¬ K xb) : Rtx w xb rb N rg cs [] (fun q => q = xb ∨ K q) :=
  let ⟨x, c, vs, A, h1, h2, h3⟩ := h
  ⟨x, c, vs, A, none, 0, ⟨h1, hc, Mid.nil _ _, EsOk.nil N, fun e => hn (h2 _ e), (fun q hq => by cases hq)⟩, (fun q hq => by
    rcases hq with hq | hq | hq
    · exact .inl hq
    · cases hq
    · exact .inr (h2 q hq)), fun q hq => by
    rcases hq with hq | hq
    · rw [hq]; exact hc.lt
    · exact h3 q hq⟩
theorem Rtx.ok (h : Rtx w xb rb N rg cs l K) : EsOk N l ∧ ∀ c ∈ cs, EsOk N c := let ⟨_, _, _, _, _, _, h1, _⟩ := h; ⟨h1.ok, h1.pg.okC⟩
theorem Rpg.ok (h : Rpg w rb N rg cs K) : ∀ c ∈ cs, EsOk N c := let ⟨_, _, _, _, h1, _⟩ := h; h1.okC
theorem Rtx.cells (h : Rtx w xb rb N rg cs l K) : w.cell? ⟨xb, 0, none⟩ = some (.pointer (some ⟨rb, 0, none⟩)) ∧ ∃ y d, w.cell? ⟨xb, 1, none⟩ = some (.slice y l.length d) :=
  let ⟨_, _, _, _, y, d, h1, _⟩ := h
  ⟨h1.tx.cell 0, y, d, h1.tx.cell 1⟩
theorem Rpg.cells (h : Rpg w rb N rg cs K) : w.cell? ⟨rb, 0, none⟩ = some (.int .i64 N) ∧ ∃ x c, w.cell? ⟨rb, 2, none⟩ = some (.slice x cs.length c) :=
  let ⟨x, c, _, _, h1, _⟩ := h
  ⟨h1.cells.cell 0, x, c, h1.cells.cell 2⟩
theorem rqat_ok (h : Rpg w rb N rg cs K) (b : Int) (k : Nat) (hk : k ≤ 1000000000000000000) (kI : Int) (hkI : kI = (k : Nat)) :
    Calls Tryz.prog 21 #[.pointer (some ⟨rb, 0, none⟩), .int .i64 b, .int .i64 kI] w fun e w' => e = .returned (.string (strV (atC (cs.take k) b))) ∧ Upd (fun _ => False) w w' := by
  obtain ⟨x, c, vs, A, h1, h2, h3⟩ := h
  subst hkI
  exact at_ok h1 b k hk
theorem rqread_ok (h : Rtx w xb rb N rg cs l K) (hN : N ≤ 1000000) (hcl : cs.length ≤ 1000000000000000000) (b : Int) :
    Calls Tryz.prog 58 #[.pointer (some ⟨xb, 0, none⟩), .int .i64 b] w fun e w' =>
      e = .returned (.tuple (if b < 0 ∨ (N : Int) ≤ b then #[.string ⟨#[]⟩, .int .i64 1] else #[.string (strV ((lookB l b).getD (atC cs b))), .int .i64 0])) ∧ Upd (fun _ => False) w w' := by
  obtain ⟨x, c, vs, A, y, d, h1, h2, h3⟩ := h
  exact rread_ok h1 hN hcl b
/-- What Write does. -/
def RwrPost (w : World) (xb rb N rg : Nat) (cs : List Img) (l : Img) (K : Nat → Prop) (b : Int) (s : ByteArray) (r : Int) (w' : World) : Prop :=
  ((b < 0 ∨ (N : Int) ≤ b ∨ 512 < s.size) ∧ r = 1 ∧ w = w') ∨
  (0 ≤ b ∧ b < (N : Int) ∧ s.size ≤ 512 ∧ r = 0 ∧ ∃ K', Rtx w' xb rb N rg cs (wrR l b (pad s.data.toList)) K' ∧ Fut w w' K K')
theorem rqwrite_ok (h : Rtx w xb rb N rg cs l K) (hN : N ≤ 1000000) (b : Int) (s : ByteArray) (hs : s.size ≤ maxLen) :
    Calls Tryz.prog 19 #[.pointer (some ⟨xb, 0, none⟩), .int .i64 b, .string s] w fun e w' => ∃ r, e = .returned (.int .i64 r) ∧ RwrPost w xb rb N rg cs l K b s r w' := by
  obtain ⟨x, c, vs, A, y, d, h1, h2, h3⟩ := h
  by_cases hb : b < 0 ∨ (N : Int) ≤ b ∨ 512 < s.size
  · refine (rwrite_bad h1 hN b s hs hb).mono ?_
    rintro e w' ⟨rfl, rfl⟩
    exact ⟨1, rfl, .inl ⟨hb, rfl, rfl⟩⟩
  · refine (rwrite_ok h1 hN b s (by omega) (by omega) (by omega)).mono ?_
    rintro e w' ⟨rfl, y', d', ht, hu, ho⟩
    have hx : K xb := h2 _ (.inl rfl)
    refine ⟨0, rfl, .inr ⟨by omega, by omega, by omega, rfl, fun q => K q ∨ (Value.slice y' (wrR l b (pad s.data.toList)).length d').ownBlock = some q, ⟨x, c, vs, A, y', d', ht, ?_, ?_⟩, ⟨hu.mono (fun q _ e => by rw [e]; exact hx), fun q hq => ?_⟩⟩⟩
    · rintro q (h | h | h)
      · exact .inl (h2 q (.inl h))
      · exact .inr h
      · exact .inl (h2 q (.inr (.inr h)))
    · rintro q (h | h)
      · exact Nat.lt_of_lt_of_le (h3 q h) hu.size
      · exact ht.mid.lt q h
    · rcases hq with h | h
      · exact .inl h
      · exact .inr (ho q h)
/-- What Commit does. -/
def RcmPost (w : World) (xb rb N rg : Nat) (cs : List Img) (l : Img) (K : Nat → Prop) (a r : Int) (w' : World) : Prop :=
  ∃ K', Fut w w' K K' ∧ w'.cell? ⟨xb, 0, none⟩ = some (.pointer (some ⟨rb, 0, none⟩)) ∧
  ((l.length = 0 ∧ a = (cs.length : Nat) ∧ r = 0 ∧ Rpg w' rb N rg cs K') ∨
   (l.length ≠ 0 ∧ RLong rg l.length ∧ a = 0 ∧ r = 13 ∧ Rpg w' rb N rg cs K') ∨
   (l.length ≠ 0 ∧ ¬ RLong rg l.length ∧ a = ((cs.length + 1 : Nat) : Int) ∧ r = 0 ∧ Rpg w' rb N rg (cs ++ [l]) K'))
theorem rqcommit_ok (h : Rtx w xb rb N rg cs l K) (hN : N ≤ 1000000) (hcl : cs.length ≤ 5000000000000) (hrg : rg ≤ 1000000) :
    Calls Tryz.prog 20 #[.pointer (some ⟨xb, 0, none⟩)] w fun e w' => ∃ a r, e = .returned (.tuple #[.int .i64 a, .int .i64 r]) ∧ RcmPost w xb rb N rg cs l K a r w' := by
  have hp := h.pg
  have hc := h.cells.1
  obtain ⟨x, c, vs, A, y, d, h1, h2, h3⟩ := h
  refine (rcommit_ok h1 hN hcl hrg).mono ?_
  rintro e w' ⟨a, r, rfl, h⟩
  refine ⟨a, r, rfl, ?_⟩
  rcases h with ⟨g0, rfl, rfl, rfl⟩ | ⟨g0, g1, rfl, rfl, rfl⟩ | ⟨g0, g1, rfl, rfl, x', c', vs', A', hr, hu, ho⟩
  · exact ⟨K, Fut.refl _ _, hc, .inl ⟨g0, rfl, rfl, hp⟩⟩
  · exact ⟨K, Fut.refl _ _, hc, .inr (.inl ⟨g0, g1, rfl, rfl, hp⟩)⟩
  · refine ⟨ownR rb (cs ++ [l]).length x' c' A', ⟨hu.mono (fun q _ e => ?_), fun q hq => (ho q hq).elim (fun e => .inl (h2 q e)) .inr⟩, hu.cell_some hc (fun e => h1.n1 (e.elim .inl (fun e => .inr (.inl e)))), .inr (.inr ⟨g0, g1, rfl, rfl, x', c', vs', A', hr, fun q hq => hq, hr.lt⟩)⟩
    rcases e with e | e
    · exact h2 q (.inr (.inr (.inl e)))
    · exact h2 q (.inr (.inr (.inr (.inl e))))
end
/-- The same bound. -/
theorem long_same {N skip : Nat} {ds : Img} (h : EsOk N ds) : TooLong skip ds ↔ RLong (skip - 1) ds.length := by
  rw [TooLong, RLong, needB_encC h]
end Go.Proofs.YtihlijnobbonbaaGreat
