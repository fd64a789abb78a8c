/- docketlaw04: both sides in step: a pager and the answer's. -/
import Derived.Test.YtihlijnobbonbaaGreatPb2
import Derived.Test.YtihlijnobbonbaaGreatRf5
namespace Go.Proofs.YtihlijnobbonbaaGreat
open Go Go.RowKit
set_option linter.unusedSimpArgs false
set_option linter.unusedVariables false
set_option maxRecDepth 100000

/-- Abort, and what it leaves of the transaction. -/
theorem pabort2_ok {w : World} {tb mb pb db lb fb skip : Nat} {L : LSt} {D : DSt} {ds es : Img} {F : Nat → Prop} (h : TxP w tb mb pb db lb fb skip L D ds es F) : Calls Tryz.prog 17 #[.pointer (some ⟨tb, 0, none⟩)] w fun e w' => e = .returned (.tuple #[]) ∧ PgAt w' pb db lb fb skip none false L D es F ∧ Upd (fun q => q = tb ∨ q = pb) w w' ∧ Shut w' tb (ownP pb fb F) := by
  have c0 := h.tx.cell 0
  have f0 := h.tx.frozen 0
  have c5 := h.pg.pg.cell 5
  have f5 := h.pg.pg.frozen 5
  have hne : tb ≠ pb := fun e => h.n2 (.inl e)
  simp only [pgD, List.getElem?_cons_zero, List.getElem?_cons_succ] at c0 c5
  have H := Lib.hid h
  clear h
  go_enter Tryz.func17, Tryz.ntmps17
  go_wp2_with fail
  go_end0
  have h := H.out
  have u1 : Upd (fun q => q = tb ∨ q = pb) w ((w.setCell ⟨pb, 5, none⟩ (.pointer none)).setCell ⟨tb, 0, none⟩ (.pointer none)) := ((Upd.refl _ w).setCell _ (.inl (.inr rfl))).setCell _ (.inl (.inl rfl))
  have p1 : CellsA ((w.setCell ⟨pb, 5, none⟩ (.pointer none)).setCell ⟨tb, 0, none⟩ (.pointer none)) pb 85 (pgD db lb skip fb none false) := (h.pg.pg.set 5 (.pointer none)).upd ((Upd.refl (fun q => q = tb) _).setCell _ (.inl rfl)) (fun e => hne e.symm)
  have k1 : CellsA ((w.setCell ⟨pb, 5, none⟩ (.pointer none)).setCell ⟨tb, 0, none⟩ (.pointer none)) tb 91 [.pointer none, .map (some mb)] := (h.tx.upd ((Upd.refl (fun q => q = pb) w).setCell _ (.inl rfl)) hne).set 0 (.pointer none)
  refine ⟨rfl, ⟨p1, h.pg.fresh.upd u1 ?_, h.pg.wal.upd u1 ?_, h.pg.ne, h.pg.g1, h.pg.g2⟩, u1, k1.cell 0, h.n2⟩
  · rintro (e | e)
    · exact h.n2 (.inr (.inl e.symm))
    · exact h.pg.ne e
  · rintro q hq (e | e)
    · exact h.n2 (.inr (.inr (e ▸ hq)))
    · exact h.pg.g1 (e ▸ hq)
section
variable {w w' : World} {tb pb db skip N sy : Nat} {cs : List Img} {ds : Img} {f : Int} {K H : Nat → Prop}
theorem qabort2_ok (h : Txr w tb pb db skip N cs ds sy f K) : Calls Tryz.prog 17 #[.pointer (some ⟨tb, 0, none⟩)] w fun e w' => ∃ K', e = .returned (.tuple #[]) ∧ Pgr w' pb db skip N cs sy f K' ∧ Fut w w' K K' ∧ Shut w' tb K' := by
  obtain ⟨mb, lb, fb, L, D, es, F, T, h1, h2, h3, h4, h5, rfl⟩ := h
  refine (pabort2_ok h1).mono ?_
  rintro e w' ⟨rfl, a1, a2, a3⟩
  refine ⟨_, rfl, ⟨lb, fb, L, D, es, F, T, a1, h2, h4, h5, rfl⟩, ⟨a2.mono (fun q _ hq => ?_), fun q hq => .inl (.inr (.inr hq))⟩, a3⟩
  rcases hq with e | e
  · exact .inl e
  · exact .inr (.inr (.inl e))
/-- Dirty of one that is over. -/
theorem qdirty_shut (h : Shut w tb K) : Calls Tryz.prog 26 #[.pointer (some ⟨tb, 0, none⟩)] w fun e w' => e = .returned (.int .i64 0) ∧ w = w' := by
  have c0 := h.1
  clear h
  go_enter Tryz.func26, Tryz.ntmps26
  go_wp2_with fail
  go_ret
  exact ⟨rfl, rfl⟩
theorem qabort_shut (h : Shut w tb K) : Calls Tryz.prog 17 #[.pointer (some ⟨tb, 0, none⟩)] w fun e w' => e = .returned (.tuple #[]) ∧ w = w' := by
  have c0 := h.1
  clear h
  go_enter Tryz.func17, Tryz.ntmps17
  go_wp2_with fail
  go_end0
  exact ⟨rfl, rfl⟩
/-- Sync, a transaction open. -/
def SynTx (w : World) (tb pb db skip N : Nat) (cs : List Img) (ds : Img) (sy : Nat) (f : Int) (K : Nat → Prop) (r : Int) (w' : World) : Prop :=
  ∃ K', Fut w w' K K' ∧ ((r = 0 ∧ ∃ f', (f < 0 → f' = f) ∧ Txr w' tb pb db skip N cs ds cs.length f' K') ∨ (r = 10 ∧ Pgd w' pb db skip N cs sy K' ∧ 0 ≤ f))
theorem qsync_tx (h : Txr w tb pb db skip N cs ds sy f K) : Calls Tryz.prog 22 #[.pointer (some ⟨pb, 0, none⟩)] w fun e w' => ∃ r, e = .returned (.int .i64 r) ∧ SynTx w tb pb db skip N cs ds sy f K r w' := by
  obtain ⟨mb, lb, fb, L, D, es, F, T, h1, h2, h3, h4, h5, rfl⟩ := h
  have hsk : skip ≤ 4096 := by
    obtain ⟨G, hG, _⟩ := h1.pg.wal.disk
    have h9 := hG.1.most
    have h10 := h2.secs
    omega
  refine (ppsync_ok h1.pg h2 hsk).mono ?_
  rintro e w' ⟨r, rfl, L', D', F', es', g1, g2, g3⟩
  have g4 := g2.tx (tb := tb) (mb := mb)
  rcases g3 with ⟨rfl, a2, a3, a4⟩ | ⟨rfl, a2, a3, a4, a5⟩
  · refine ⟨_, rfl, ownTx tb mb pb fb F', ⟨g4.upd, fun q hq => ?_⟩, .inl ⟨rfl, _, fun hf => by rw [a4 (by omega)]; exact h5, mb, lb, fb, _, _, es', F', T, ⟨g1, h1.tx.upd g2.upd h1.n2, h1.dirty.upd g2.upd h1.n3, h1.n1, g2.out h1.tx.lt h1.n2, g2.out h1.dirty.lt h1.n3⟩, a2, h3, a3, rfl, rfl⟩⟩
    rcases hq with e | e | e
    · exact .inl (.inl e)
    · exact .inl (.inr (.inl e))
    · exact g4.own q e
  · refine ⟨_, rfl, ownP pb fb F', g4, .inr ⟨rfl, ⟨lb, fb, _, _, es', F', _, g1, a2, ?_, by rw [a4]; exact h4, h2.okC, rfl⟩, by omega⟩⟩
    rw [← h4, ← a4]; exact a3
end
/-- Two that don't meet; w: a world that was, G: what may turn of it. -/
structure Sep (G : Nat → Prop) (w wr : World) (K J : Nat → Prop) : Prop where
  upd : Upd G w wr
  k : ∀ q, K q → (G q ∨ w.heap.size ≤ q) ∧ ¬ J q
  j : ∀ q, J q → G q ∨ w.heap.size ≤ q
  kl : ∀ q, K q → q < wr.heap.size
  jl : ∀ q, J q → q < wr.heap.size
section
variable {G : Nat → Prop} {w wr w' : World} {K J K' J' : Nat → Prop}
theorem Sep.left (h : Sep G w wr K J) (hf : Fut wr w' K K') (hk : ∀ q, K' q → q < w'.heap.size) : Sep G w w' K' J :=
  ⟨h.upd.then hf.upd (fun q hq => (h.k q hq).1), fun q hq => by
    rcases hf.own q hq with e | e
    · exact h.k q e
    · exact ⟨.inr (Nat.le_trans h.upd.size e), fun e2 => by have := h.jl q e2; omega⟩, h.j, hk, fun q hq => Nat.lt_of_lt_of_le (h.jl q hq) hf.upd.size⟩
theorem Sep.right (h : Sep G w wr K J) (hf : Fut wr w' J J') (hj : ∀ q, J' q → q < w'.heap.size) : Sep G w w' K J' :=
  ⟨h.upd.then hf.upd (fun q hq => h.j q hq), fun q hq => ⟨(h.k q hq).1, fun e => by
    rcases hf.own q e with e | e
    · exact (h.k q hq).2 e
    · have := h.kl q hq; omega⟩, fun q hq => by
    rcases hf.own q hq with e | e
    · exact h.j q e
    · exact .inr (Nat.le_trans h.upd.size e), fun q hq => Nat.lt_of_lt_of_le (h.kl q hq) hf.upd.size, hj⟩
theorem Sep.quiet (h : Sep G w wr K J) (hu : Upd (fun _ => False) wr w') : Sep G w w' K J :=
  ⟨h.upd.then hu (fun _ h => h.elim), h.k, h.j, fun q hq => Nat.lt_of_lt_of_le (h.kl q hq) hu.size, fun q hq => Nat.lt_of_lt_of_le (h.jl q hq) hu.size⟩
theorem Sep.kj (h : Sep G w wr K J) : ∀ q, K q → ¬ J q := fun q hq => (h.k q hq).2
theorem Sep.jk (h : Sep G w wr K J) : ∀ q, J q → ¬ K q := fun q hq e => (h.k q e).2 hq
/-- Another world to look from. -/
theorem Sep.base {w1 : World} (h : Sep G w1 wr K J) (hu : Upd (fun _ => False) w w1) (hG : ∀ q, G q → w.heap.size ≤ q) : Sep (fun _ => False) w wr K J :=
  ⟨hu.then h.upd (fun q hq => .inr (hG q hq)), fun q hq => ⟨.inr ((h.k q hq).1.elim (hG q) (fun e => Nat.le_trans hu.size e)), (h.k q hq).2⟩, fun q hq => .inr ((h.j q hq).elim (hG q) (fun e => Nat.le_trans hu.size e)), h.kl, h.jl⟩
theorem Sep.start (h : Sep G w wr K J) : Sep (fun q => K q ∨ J q) wr wr K J := ⟨Upd.refl _ _, fun q hq => ⟨.inl (.inl hq), (h.k q hq).2⟩, fun q hq => .inl (.inr hq), h.kl, h.jl⟩
end
/-- Both sides, a transaction open. -/
def TT (G : Nat → Prop) (w wr : World) (tb pb db xb rb skip N : Nat) (cs ct : List Img) (ds l : Img) (sy : Nat) (f : Int) : Prop :=
  ∃ (K J : Nat → Prop), Txr wr tb pb db skip N cs ds sy f K ∧ Rtx wr xb rb N (skip - 1) ct l J ∧ Sep G w wr K J ∧ SameI ds l ∧ SameC cs ct
/-- Both, the pager's transaction tb is over. -/
def PS (G : Nat → Prop) (w wr : World) (tb pb db rb skip N : Nat) (cs ct : List Img) (sy : Nat) (f : Int) : Prop :=
  ∃ (K J : Nat → Prop), Pgr wr pb db skip N cs sy f K ∧ Rpg wr rb N (skip - 1) ct J ∧ Sep G w wr K J ∧ SameC cs ct ∧ Shut wr tb K ∧ ¬ J tb ∧ tb < wr.heap.size
/-- Both, and that alone. -/
def PP (G : Nat → Prop) (w wr : World) (pb db rb skip N : Nat) (cs ct : List Img) (sy : Nat) (f : Int) : Prop :=
  ∃ (K J : Nat → Prop), Pgr wr pb db skip N cs sy f K ∧ Rpg wr rb N (skip - 1) ct J ∧ Sep G w wr K J ∧ SameC cs ct
/-- The pager has begun a transaction, the answer has not. -/
def TB (G : Nat → Prop) (w wr : World) (tb pb db rb skip N : Nat) (cs ct : List Img) (sy : Nat) (f : Int) : Prop :=
  ∃ (K J : Nat → Prop), Txr wr tb pb db skip N cs [] sy f K ∧ Rpg wr rb N (skip - 1) ct J ∧ Sep G w wr K J ∧ SameC cs ct
/-- The pager's disk has died. -/
def PD (G : Nat → Prop) (w wr : World) (pb db rb skip N : Nat) (cs ct : List Img) (lo : Nat) : Prop :=
  ∃ (K J : Nat → Prop), Pgd wr pb db skip N cs lo K ∧ Rpg wr rb N (skip - 1) ct J ∧ Sep G w wr K J
section
variable {G : Nat → Prop} {w wr w' : World} {tb pb db xb rb skip N sy : Nat} {cs ct : List Img} {ds l : Img} {f : Int}
theorem Pgd.upd {lo : Nat} {K H : Nat → Prop} (h : Pgd wr pb db skip N cs lo K) (hu : Upd H wr w') (hf : ∀ q, K q → ¬ H q) : Pgd w' pb db skip N cs lo K := by
  obtain ⟨lb, fb, L, D, es, F, ot, h1, h2, h3, h4, h5, rfl⟩ := h
  exact ⟨lb, fb, L, D, es, F, ot, h1.upd hu hf, h2, h3, h4, h5, rfl⟩
theorem Pgd.lt {lo : Nat} {K : Nat → Prop} (h : Pgd wr pb db skip N cs lo K) : ∀ q, K q → q < wr.heap.size := by
  obtain ⟨lb, fb, L, D, es, F, ot, h1, h2, h3, h4, h5, rfl⟩ := h
  exact h1.lt
theorem Shut.upd {K H : Nat → Prop} (h : Shut wr tb K) (hu : Upd H wr w') (hf : ¬ H tb) : Shut w' tb K := ⟨hu.cell_some h.1 hf, h.2⟩
theorem PS.pp (h : PS G w wr tb pb db rb skip N cs ct sy f) : PP G w wr pb db rb skip N cs ct sy f := let ⟨K, J, h1, h2, h3, h4, _⟩ := h; ⟨K, J, h1, h2, h3, h4⟩
theorem TT.upd0 (h : TT G w wr tb pb db xb rb skip N cs ct ds l sy f) : Upd G w wr := let ⟨_, _, _, _, h, _⟩ := h; h.upd
theorem PS.upd0 (h : PS G w wr tb pb db rb skip N cs ct sy f) : Upd G w wr := let ⟨_, _, _, _, h, _⟩ := h; h.upd
theorem PP.upd0 (h : PP G w wr pb db rb skip N cs ct sy f) : Upd G w wr := let ⟨_, _, _, _, h, _⟩ := h; h.upd
theorem TB.upd0 (h : TB G w wr tb pb db rb skip N cs ct sy f) : Upd G w wr := let ⟨_, _, _, _, h, _⟩ := h; h.upd
theorem PD.upd0 {lo : Nat} (h : PD G w wr pb db rb skip N cs ct lo) : Upd G w wr := let ⟨_, _, _, _, h⟩ := h; h.upd
theorem TT.quiet (h : TT G w wr tb pb db xb rb skip N cs ct ds l sy f) (hu : Upd (fun _ => False) wr w') : TT G w w' tb pb db xb rb skip N cs ct ds l sy f :=
  let ⟨K, J, h1, h2, h3, h4, h5⟩ := h; ⟨K, J, h1.upd hu (fun _ _ h => h), h2.upd hu (fun _ _ h => h), h3.quiet hu, h4, h5⟩
theorem PS.quiet (h : PS G w wr tb pb db rb skip N cs ct sy f) (hu : Upd (fun _ => False) wr w') : PS G w w' tb pb db rb skip N cs ct sy f :=
  let ⟨K, J, h1, h2, h3, h4, h5, h6, h7⟩ := h; ⟨K, J, h1.upd hu (fun _ _ h => h), h2.upd hu (fun _ _ h => h), h3.quiet hu, h4, h5.upd hu (fun h => h), h6, Nat.lt_of_lt_of_le h7 hu.size⟩
theorem PP.quiet (h : PP G w wr pb db rb skip N cs ct sy f) (hu : Upd (fun _ => False) wr w') : PP G w w' pb db rb skip N cs ct sy f :=
  let ⟨K, J, h1, h2, h3, h4⟩ := h; ⟨K, J, h1.upd hu (fun _ _ h => h), h2.upd hu (fun _ _ h => h), h3.quiet hu, h4⟩
theorem TB.quiet (h : TB G w wr tb pb db rb skip N cs ct sy f) (hu : Upd (fun _ => False) wr w') : TB G w w' tb pb db rb skip N cs ct sy f :=
  let ⟨K, J, h1, h2, h3, h4⟩ := h; ⟨K, J, h1.upd hu (fun _ _ h => h), h2.upd hu (fun _ _ h => h), h3.quiet hu, h4⟩
theorem PD.quiet {lo : Nat} (h : PD G w wr pb db rb skip N cs ct lo) (hu : Upd (fun _ => False) wr w') : PD G w w' pb db rb skip N cs ct lo :=
  let ⟨K, J, h1, h2, h3⟩ := h; ⟨K, J, h1.upd hu (fun _ _ h => h), h2.upd hu (fun _ _ h => h), h3.quiet hu⟩
theorem TT.ok (h : TT G w wr tb pb db xb rb skip N cs ct ds l sy f) : EsOk N ds ∧ EsOk N l ∧ ds.length = l.length ∧ cs.length = ct.length ∧ sy ≤ cs.length ∧ skip + N ≤ 4096 := by
  obtain ⟨K, J, h1, h2, h3, h4, h5⟩ := h
  refine ⟨h1.ok.1, h2.ok.1, h4.len h1.ok.1 h2.ok.1, h5.1, h1.ok.2.2.2, ?_⟩
  obtain ⟨mb, lb, fb, L, D, es, F, T, g1, g2, _⟩ := h1
  obtain ⟨G, hG, _⟩ := g1.pg.wal.disk
  have h9 := hG.1.most
  have h10 := g2.secs
  omega
theorem PP.ok (h : PP G w wr pb db rb skip N cs ct sy f) : cs.length = ct.length ∧ sy ≤ cs.length ∧ skip + N ≤ 4096 ∧ (∀ c ∈ cs, EsOk N c) ∧ (∀ c ∈ ct, EsOk N c) :=
  let ⟨K, J, h1, h2, h3, h4⟩ := h; ⟨h4.1, h1.ok.2.2.1, h1.ok.2.2.2, h1.ok.1, h2.ok⟩
theorem TB.ok (h : TB G w wr tb pb db rb skip N cs ct sy f) : cs.length = ct.length ∧ sy ≤ cs.length :=
  let ⟨K, J, h1, h2, h3, h4⟩ := h; ⟨h4.1, h1.ok.2.2.2⟩
/-- The answer's new transaction. -/
theorem TB.new (h : TB G w wr tb pb db rb skip N cs ct sy f) : TT G w (wr.alloc (.cells #[.pointer (some ⟨rb, 0, none⟩), .slice none 0 0] 51)) tb pb db wr.heap.size rb skip N cs ct [] [] sy f := by
  obtain ⟨K, J, h1, h2, h3, h4⟩ := h
  have hu : Upd (fun _ => False) wr (wr.alloc (.cells #[.pointer (some ⟨rb, 0, none⟩), .slice none 0 0] 51)) := (Upd.refl _ wr).alloc _
  have hc := CellsA.new wr 51 [.pointer (some ⟨rb, 0, none⟩), .slice none 0 0]
  have h5 := (h2.upd hu (fun _ _ h => h)).tx hc (fun e => by have := h2.lt _ e; omega)
  refine ⟨K, _, h1.upd hu (fun _ _ h => h), h5, h3.right ⟨hu.mono (fun _ _ h => h.elim), fun q hq => ?_⟩ h5.lt, fun j => rfl, h4⟩
  rcases hq with e | e
  · exact .inr (by omega)
  · exact .inl e
/-- Begin. -/
theorem PP.begin (h : PP G w wr pb db rb skip N cs ct sy f) : Calls Tryz.prog 13 #[.pointer (some ⟨pb, 0, none⟩)] wr fun e w' => ∃ tb, e = .returned (.tuple #[.pointer (some ⟨tb, 0, none⟩), .int .i64 0]) ∧ TB G w w' tb pb db rb skip N cs ct sy f := by
  obtain ⟨K, J, h1, h2, h3, h4⟩ := h
  refine (qbegin_ok h1).mono ?_
  rintro e w' ⟨tb, K', rfl, ht, hf⟩
  exact ⟨tb, rfl, K', J, ht, h2.upd hf.upd h3.jk, h3.left hf ht.lt, h4⟩
theorem TT.busy (h : TT G w wr tb pb db xb rb skip N cs ct ds l sy f) : Calls Tryz.prog 13 #[.pointer (some ⟨pb, 0, none⟩)] wr fun e w' => e = .returned (.tuple #[.pointer none, .int .i64 6]) ∧ wr = w' := by
  obtain ⟨K, J, h1, _⟩ := h
  exact qbegin_busy h1
theorem PD.begin {lo : Nat} (h : PD G w wr pb db rb skip N cs ct lo) : Calls Tryz.prog 13 #[.pointer (some ⟨pb, 0, none⟩)] wr fun e w' => e = .returned (.tuple #[.pointer none, .int .i64 10]) ∧ wr = w' := by
  obtain ⟨K, J, h1, _⟩ := h
  exact qbegin_dead h1
/-- Abort. -/
theorem TT.abort (h : TT G w wr tb pb db xb rb skip N cs ct ds l sy f) : Calls Tryz.prog 17 #[.pointer (some ⟨tb, 0, none⟩)] wr fun e w' => e = .returned (.tuple #[]) ∧ PS G w w' tb pb db rb skip N cs ct sy f := by
  obtain ⟨K, J, h1, h2, h3, h4, h5⟩ := h
  have hK : K tb := by obtain ⟨mb, lb, fb, L, D, es, F, T, g1, _, _, _, _, rfl⟩ := h1; exact .inl rfl
  refine (qabort2_ok h1).mono ?_
  rintro e w' ⟨K', rfl, hp, hf, hs⟩
  exact ⟨rfl, K', J, hp, h2.pg.upd hf.upd h3.jk, h3.left hf hp.lt, h5, hs, h3.kj _ hK, Nat.lt_of_lt_of_le (h3.kl _ hK) hf.upd.size⟩
/-- Done, Synced, Dirty. -/
theorem PP.done (h : PP G w wr pb db rb skip N cs ct sy f) : Calls Tryz.prog 14 #[.pointer (some ⟨pb, 0, none⟩)] wr fun e w' => e = .returned (.int .i64 (cs.length : Nat)) ∧ wr = w' := by
  obtain ⟨K, J, h1, _⟩ := h
  exact qdone_ok h1
theorem PP.synced (h : PP G w wr pb db rb skip N cs ct sy f) : Calls Tryz.prog 24 #[.pointer (some ⟨pb, 0, none⟩)] wr fun e w' => e = .returned (.int .i64 (sy : Nat)) ∧ wr = w' := by
  obtain ⟨K, J, h1, _⟩ := h
  exact qsynced_ok h1
theorem TT.done (h : TT G w wr tb pb db xb rb skip N cs ct ds l sy f) : Calls Tryz.prog 14 #[.pointer (some ⟨pb, 0, none⟩)] wr fun e w' => e = .returned (.int .i64 (cs.length : Nat)) ∧ wr = w' := by
  obtain ⟨K, J, h1, _⟩ := h
  exact qdone_tx h1
theorem TT.synced (h : TT G w wr tb pb db xb rb skip N cs ct ds l sy f) : Calls Tryz.prog 24 #[.pointer (some ⟨pb, 0, none⟩)] wr fun e w' => e = .returned (.int .i64 (sy : Nat)) ∧ wr = w' := by
  obtain ⟨K, J, h1, _⟩ := h
  exact qsynced_tx h1
theorem PD.synced {lo : Nat} (h : PD G w wr pb db rb skip N cs ct lo) : Calls Tryz.prog 24 #[.pointer (some ⟨pb, 0, none⟩)] wr fun e w' => e = .returned (.int .i64 (lo : Nat)) ∧ wr = w' := by
  obtain ⟨K, J, h1, _⟩ := h
  exact qsynced_dead h1
theorem TT.dirty (h : TT G w wr tb pb db xb rb skip N cs ct ds l sy f) : Calls Tryz.prog 26 #[.pointer (some ⟨tb, 0, none⟩)] wr fun e w' => e = .returned (.int .i64 (ds.length : Nat)) ∧ wr = w' := by
  obtain ⟨K, J, h1, _⟩ := h
  exact qdirty_ok h1
theorem PS.dirty (h : PS G w wr tb pb db rb skip N cs ct sy f) : Calls Tryz.prog 26 #[.pointer (some ⟨tb, 0, none⟩)] wr fun e w' => e = .returned (.int .i64 0) ∧ wr = w' := by
  obtain ⟨K, J, h1, h2, h3, h4, h5, _⟩ := h
  exact qdirty_shut h5
theorem PP.cells (h : PP G w wr pb db rb skip N cs ct sy f) : wr.cell? ⟨rb, 0, none⟩ = some (.int .i64 N) ∧ ∃ x c, wr.cell? ⟨rb, 2, none⟩ = some (.slice x cs.length c) := by
  obtain ⟨K, J, h1, h2, h3, h4⟩ := h
  rw [h4.1]; exact h2.cells
theorem TT.cells (h : TT G w wr tb pb db xb rb skip N cs ct ds l sy f) : wr.cell? ⟨rb, 0, none⟩ = some (.int .i64 N) ∧ (∃ x c, wr.cell? ⟨rb, 2, none⟩ = some (.slice x cs.length c)) ∧ ∃ y d, wr.cell? ⟨xb, 1, none⟩ = some (.slice y ds.length d) := by
  obtain ⟨K, J, h1, h2, h3, h4, h5⟩ := h
  rw [h5.1, h4.len h1.ok.1 h2.ok.1]
  exact ⟨h2.pg.cells.1, h2.pg.cells.2, h2.cells.2⟩
theorem PD.cells {lo : Nat} (h : PD G w wr pb db rb skip N cs ct lo) : ∃ x c, wr.cell? ⟨rb, 2, none⟩ = some (.slice x ct.length c) := by
  obtain ⟨K, J, h1, h2, h3⟩ := h
  exact h2.cells.2
/-- Sync. -/
def TS (G : Nat → Prop) (w : World) (tb pb db xb rb skip N : Nat) (cs ct : List Img) (ds l : Img) (sy : Nat) (f : Int) (r : Int) (w' : World) : Prop :=
  (r = 0 ∧ ∃ f', (f < 0 → f' = f) ∧ TT G w w' tb pb db xb rb skip N cs ct ds l cs.length f') ∨ (r = 10 ∧ PD G w w' pb db rb skip N cs ct sy ∧ 0 ≤ f)
theorem TT.sync (h : TT G w wr tb pb db xb rb skip N cs ct ds l sy f) : Calls Tryz.prog 22 #[.pointer (some ⟨pb, 0, none⟩)] wr fun e w' => ∃ r, e = .returned (.int .i64 r) ∧ TS G w tb pb db xb rb skip N cs ct ds l sy f r w' := by
  obtain ⟨K, J, h1, h2, h3, h4, h5⟩ := h
  refine (qsync_tx h1).mono ?_
  rintro e w' ⟨r, rfl, K', hf, ⟨rfl, f', g1, g2⟩ | ⟨rfl, g1, g2⟩⟩
  · exact ⟨_, rfl, .inl ⟨rfl, f', g1, K', J, g2, h2.upd hf.upd h3.jk, h3.left hf g2.lt, h4, h5⟩⟩
  · exact ⟨_, rfl, .inr ⟨rfl, ⟨K', J, g1, h2.pg.upd hf.upd h3.jk, h3.left hf g1.lt⟩, g2⟩⟩
theorem PS.sync (h : PS G w wr tb pb db rb skip N cs ct sy f) (hf0 : f < 0) : Calls Tryz.prog 22 #[.pointer (some ⟨pb, 0, none⟩)] wr fun e w' => e = .returned (.int .i64 0) ∧ PS G w w' tb pb db rb skip N cs ct cs.length f := by
  obtain ⟨K, J, h1, h2, h3, h4, h5, h6, h7⟩ := h
  refine (qsync_ok h1).mono ?_
  rintro e w' ⟨r, rfl, K', hf, ⟨rfl, f', g1, g2⟩ | ⟨rfl, g1, g2⟩⟩
  · obtain rfl := g1 hf0
    exact ⟨rfl, K', J, g2, h2.upd hf.upd h3.jk, h3.left hf g2.lt, h4, ⟨hf.upd.cell_some h5.1 h5.2, hf.out h7 h5.2⟩, h6, Nat.lt_of_lt_of_le h7 hf.upd.size⟩
  · omega
/-- Open behind a Sync. -/
theorem PS.open (h : PS G w wr tb pb db rb skip N cs ct cs.length f) (hf0 : f < 0) (h2s : 2 ≤ skip) (hN : 1 ≤ N) (skI : Int) (hsk : skI = (skip : Nat)) :
    Calls Tryz.prog 29 #[.pointer (some ⟨db, 0, none⟩), .int .i64 skI] wr fun e w' => ∃ pb', e = .returned (.tuple #[.pointer (some ⟨pb', 0, none⟩), .int .i64 0]) ∧ PS G w w' tb pb' db rb skip N cs ct cs.length f := by
  obtain ⟨K, J, h1, h2, h3, h4, h5, h6, h7⟩ := h
  obtain ⟨D, G, T, st, d1, d2, d3, d4, d5⟩ := h1.opb
  refine (qopen_ok d1 d3 h2s hN h1.ok.1 skI hsk).mono ?_
  rintro e w' (⟨pb', K', f', rfl, hp, hf, hft⟩ | ⟨_, _, _, _, _, _, _, hf⟩)
  · rw [List.take_length, hf (by omega), d5] at hp
    have hft2 : Fut wr w' K K' := ⟨hft.upd.mono (fun q _ hq => d2 q hq), fun q hq => (hft.own q hq).imp (d2 q) id⟩
    exact ⟨pb', rfl, K', J, hp, h2.upd hft2.upd h3.jk, h3.left hft2 hp.lt, h4, ⟨hft2.upd.cell_some h5.1 h5.2, hft2.out h7 h5.2⟩, h6, Nat.lt_of_lt_of_le h7 hft2.upd.size⟩
  · omega
/-- Commit, on the pager's side. -/
def CM (G : Nat → Prop) (w : World) (tb pb db xb rb skip N : Nat) (cs ct : List Img) (ds l : Img) (sy : Nat) (f : Int) (a r : Int) (w' : World) : Prop :=
  ∃ (K J : Nat → Prop), Rtx w' xb rb N (skip - 1) ct l J ∧ Sep G w w' K J ∧ SameI ds l ∧ SameC cs ct ∧ Shut w' tb K ∧ ¬ J tb ∧ tb < w'.heap.size ∧ EsOk N ds ∧
    ((ds.length = 0 ∧ a = (cs.length : Nat) ∧ r = 0 ∧ Pgr w' pb db skip N cs sy f K) ∨
     (ds.length ≠ 0 ∧ TooLong skip ds ∧ a = 0 ∧ r = 13 ∧ Pgr w' pb db skip N cs sy f K) ∨
     (ds.length ≠ 0 ∧ ¬ TooLong skip ds ∧ a = ((cs.length + 1 : Nat) : Int) ∧ r = 0 ∧ ∃ sy' f', sy ≤ sy' ∧ (f < 0 → f' = f) ∧ Pgr w' pb db skip N (cs ++ [ds]) sy' f' K) ∨
     (ds.length ≠ 0 ∧ ¬ TooLong skip ds ∧ a = 0 ∧ r = 10 ∧ (∃ lo, Pgd w' pb db skip N cs lo K) ∧ 0 ≤ f))
theorem TT.commit (h : TT G w wr tb pb db xb rb skip N cs ct ds l sy f) (hN : 1 ≤ N) (hcl : cs.length ≤ 5000000000000) : Calls Tryz.prog 16 #[.pointer (some ⟨tb, 0, none⟩)] wr fun e w' => ∃ a r, e = .returned (.tuple #[.int .i64 a, .int .i64 r]) ∧ CM G w tb pb db xb rb skip N cs ct ds l sy f a r w' := by
  obtain ⟨K, J, h1, h2, h3, h4, h5⟩ := h
  have hK : K tb := by obtain ⟨mb, lb, fb, L, D, es, F, T, g1, _, _, _, _, rfl⟩ := h1; exact .inl rfl
  refine (qcommit2_ok h1 hN (by omega)).mono ?_
  rintro e w' ⟨a, r, rfl, K', hf, hs, hp⟩
  have hlt : ∀ q, K' q → q < w'.heap.size := by
    rcases hp with ⟨_, _, _, hp⟩ | ⟨_, _, _, _, hp⟩ | ⟨_, _, _, _, _, _, _, _, hp⟩ | ⟨_, _, _, _, ⟨_, hp⟩, _⟩
    · exact hp.lt
    · exact hp.lt
    · exact hp.lt
    · exact hp.lt
  exact ⟨a, r, rfl, K', J, h2.upd hf.upd h3.jk, h3.left hf hlt, h4, h5, hs, h3.kj _ hK, Nat.lt_of_lt_of_le (h3.kl _ hK) hf.upd.size, h1.ok.1, hp⟩
/-- And on the answer's. -/
def CQ (G : Nat → Prop) (w : World) (tb pb db rb skip N : Nat) (cs ct : List Img) (ds : Img) (sy : Nat) (f : Int) (a r a' r' : Int) (w' : World) : Prop :=
  (r ≠ 10 ∧ a' = a ∧ r' = r ∧ ∃ cs' ct' sy' f', PS G w w' tb pb db rb skip N cs' ct' sy' f' ∧ cs'.length ≤ cs.length + 1 ∧ cs.length ≤ cs'.length ∧ sy ≤ sy' ∧ (f < 0 → f' = f)) ∨
  (r = 10 ∧ a = 0 ∧ ds.length ≠ 0 ∧ 0 ≤ f ∧ ∃ lo l, PD G w w' pb db rb skip N cs (ct ++ [l]) lo)
theorem CM.commit {a r : Int} (h : CM G w tb pb db xb rb skip N cs ct ds l sy f a r wr) (hcl : cs.length ≤ 5000000000000) (hN : N ≤ 4096) (hsk : skip ≤ 4096) : Calls Tryz.prog 20 #[.pointer (some ⟨xb, 0, none⟩)] wr fun e w' => ∃ a' r', e = .returned (.tuple #[.int .i64 a', .int .i64 r']) ∧ CQ G w tb pb db rb skip N cs ct ds sy f a r a' r' w' := by
  obtain ⟨K, J, h1, h2, h3, h4, h5, h6, h7, h8, h9⟩ := h
  have hll := h3.len h8 h1.ok.1
  have hcc := h4.1
  refine (rqcommit_ok h1 (by omega) (by omega) (by omega)).mono ?_
  rintro e w' ⟨a', r', rfl, J', hf, hc, hp⟩
  have hJl : ∀ q, J' q → q < w'.heap.size := by
    rcases hp with ⟨_, _, _, hp⟩ | ⟨_, _, _, _, hp⟩ | ⟨_, _, _, _, hp⟩ <;> exact hp.lt
  have hsep := h2.right hf hJl
  have hsh : Shut w' tb K := h5.upd hf.upd h6
  have hjt : ¬ J' tb := hf.out h7 h6
  have htl : tb < w'.heap.size := Nat.lt_of_lt_of_le h7 hf.upd.size
  refine ⟨a', r', rfl, ?_⟩
  rcases h9 with ⟨g1, rfl, rfl, hg⟩ | ⟨g1, g2, rfl, rfl, hg⟩ | ⟨g1, g2, rfl, rfl, sy', f', g3, g4, hg⟩ | ⟨g1, g2, rfl, rfl, ⟨lo, hg⟩, g3⟩
  · rcases hp with ⟨_, rfl, rfl, hp⟩ | ⟨e0, _⟩ | ⟨e0, _⟩
    · exact .inl ⟨by decide, by rw [hcc], rfl, cs, ct, sy, f, ⟨K, J', hg.upd hf.upd h2.kj, hp, hsep, h4, hsh, hjt, htl⟩, by omega, Nat.le_refl _, Nat.le_refl _, fun _ => rfl⟩
    · exact absurd (by omega : l.length = 0) e0
    · exact absurd (by omega : l.length = 0) e0
  · rw [long_same h8, hll] at g2
    rcases hp with ⟨e0, _⟩ | ⟨_, _, rfl, rfl, hp⟩ | ⟨_, e0, _⟩
    · omega
    · exact .inl ⟨by decide, rfl, rfl, cs, ct, sy, f, ⟨K, J', hg.upd hf.upd h2.kj, hp, hsep, h4, hsh, hjt, htl⟩, by omega, Nat.le_refl _, Nat.le_refl _, fun _ => rfl⟩
    · exact absurd g2 e0
  · rw [long_same h8, hll] at g2
    rcases hp with ⟨e0, _⟩ | ⟨_, e0, _⟩ | ⟨_, _, rfl, rfl, hp⟩
    · omega
    · exact absurd e0 g2
    · exact .inl ⟨by decide, by rw [hcc], rfl, cs ++ [ds], ct ++ [l], sy', f', ⟨K, J', hg.upd hf.upd h2.kj, hp, hsep, h4.snoc h3, hsh, hjt, htl⟩, by simp, by simp, g3, g4⟩
  · rw [long_same h8, hll] at g2
    rcases hp with ⟨e0, _⟩ | ⟨_, e0, _⟩ | ⟨_, _, rfl, rfl, hp⟩
    · omega
    · exact absurd e0 g2
    · exact .inr ⟨rfl, rfl, g1, g3, lo, l, K, J', hg.upd hf.upd h2.kj, hp, hsep⟩
end
end Go.Proofs.YtihlijnobbonbaaGreat
