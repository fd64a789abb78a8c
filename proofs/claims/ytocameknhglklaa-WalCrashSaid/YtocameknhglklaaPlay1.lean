/- docketlaw03.WalPlays: what is kept in its loop. -/
import Derived.Test.YtocameknhglklaaKRef3
import Derived.Test.YtocameknhglklaaHeavy
import Derived.Test.YtocameknhglklaaWalRound
namespace Go.Proofs.Ytocameknhglklaa
open Go Go.RowKit
set_option linter.unusedSimpArgs false
set_option linter.unusedVariables false
set_option maxRecDepth 100000

/-- The front of a list. -/
theorem slice_cut {P : Program} (t e : TypeId) (hu : P.underlying t = some (.slice e)) (hs : (P.info? e).map (·.size) = some 1) {w0 : World} {x : Option Addr} {n cap : Nat} {xs : List Value} (hm : Mid w0 1 (.slice x n cap) n xs) (k : Nat) (hk : k ≤ n) (w : World) :
    (Instr.slice t (.slice x n cap) none (some (.int .i64 k)) none).run P w = .ok (.slice x k cap) w := by
  cases hq : P.info? e with
  | none => simp [hq] at hs
  | some i =>
    have hi : i.size = 1 := by simpa [hq] using hs
    have hu' : P.underlying t = some (.slice (P.elem t)) := by rw [hu]; simp [Program.elem, hu]
    have he : P.elem t = e := by simp [Program.elem, hu]
    have hnc : n ≤ cap := by
      obtain ⟨m1, ⟨e1, e2⟩ | ⟨g, off, c, e1, e2, e3, e4, e5⟩⟩ := hm
      · cases e1; omega
      · cases e1; exact e2
    rw [run_slice_h w t x n cap hu' .i64 k (by omega) (by omega)]
    obtain ⟨m1, ⟨e1, e2⟩ | ⟨g, off, c, e1, e2, e3, e4, e5⟩⟩ := hm
    · cases e1
      obtain rfl : k = 0 := by omega
      simp [sizeOf, typeInfo, he, hq, hi, sliced, Addr.add_mid]
    · cases e1
      simp [sizeOf, typeInfo, he, hq, hi, sliced, Addr.add_mid]
/-- The log, the answer's log, and all that was appended. -/
structure PlaysW (w wr : World) (lb db rb p N k : Nat) (L : LSt) (D : DSt) (F : Nat → Prop) (T : Nat) (all : List Batch) (al : Nat) (x : Option Addr) (c : Nat) (vs : List Value) (A : Nat → Prop) : Prop where
  hist : Hist wr lb db L D F T all
  fr : L.fr = p
  n : L.n = N
  waits : D.waits.length ≤ 4096 * k
  ref : RefL wr rb (N - 1) T L.synced all al x c vs A
  le : al ≤ k
  upd : Upd (fun _ => False) w wr
  new : ∀ q, F q → w.heap.size ≤ q
  apart : ∀ q, ownRL rb al x c A q → w.heap.size ≤ q ∧ ¬ F q
  bytes : ∀ b ∈ all, bytesOf b ≤ 1000000000000000000
theorem PlaysW.step {w wr w' : World} {lb db rb p N k : Nat} {L : LSt} {D : DSt} {F : Nat → Prop} {T : Nat} {all : List Batch} {al : Nat} {x : Option Addr} {c : Nat} {vs : List Value} {A : Nat → Prop} (h : PlaysW w wr lb db rb p N k L D F T all al x c vs A)
    (hu : Upd (fun _ => False) wr w') : PlaysW w w' lb db rb p N k L D F T all al x c vs A :=
  ⟨h.hist.upd hu (fun _ _ h => h), h.fr, h.n, h.waits, h.ref.upd hu (fun _ _ h => h), h.le, h.upd.trans hu, h.new, h.apart, h.bytes⟩
theorem PlaysW.more {w wr : World} {lb db rb p N k : Nat} {L : LSt} {D : DSt} {F : Nat → Prop} {T : Nat} {all : List Batch} {al : Nat} {x : Option Addr} {c : Nat} {vs : List Value} {A : Nat → Prop} (h : PlaysW w wr lb db rb p N k L D F T all al x c vs A) : PlaysW w wr lb db rb p N (k + 1) L D F T all al x c vs A :=
  ⟨h.hist, h.fr, h.n, by have := h.waits; omega, h.ref, by have := h.le; omega, h.upd, h.new, h.apart, h.bytes⟩
/-- Behind a call of the log. -/
theorem PlaysW.log {w wr w' : World} {lb db rb p N k : Nat} {L : LSt} {D : DSt} {F : Nat → Prop} {T : Nat} {all : List Batch} {al : Nat} {x : Option Addr} {c : Nat} {vs : List Value} {A : Nat → Prop} (h : PlaysW w wr lb db rb p N k L D F T all al x c vs A)
    {F' : Nat → Prop} (hu : Upd F wr w') (hF : ∀ q, F' q → F q ∨ wr.heap.size ≤ q) : RefL w' rb (N - 1) T L.synced all al x c vs A ∧ Upd (fun _ => False) w w' ∧ (∀ q, F' q → w.heap.size ≤ q) ∧ (∀ q, ownRL rb al x c A q → w.heap.size ≤ q ∧ ¬ F' q) := by
  have hz := h.upd.size
  refine ⟨h.ref.upd hu (fun q hq => (h.apart q hq).2), h.upd.then hu (fun q hq => .inr (h.new q hq)), fun q hq => ?_, fun q hq => ⟨(h.apart q hq).1, fun hf => ?_⟩⟩
  · rcases hF q hq with e | e
    · exact h.new q e
    · omega
  · rcases hF q hf with e | e
    · exact (h.apart q hq).2 e
    · have := h.ref.lt q hq; omega
theorem PlaysW.needs {w wr : World} {lb db rb p N k : Nat} {L : LSt} {D : DSt} {F : Nat → Prop} {T : Nat} {all : List Batch} {al : Nat} {x : Option Addr} {c : Nat} {vs : List Value} {A : Nat → Prop} (h : PlaysW w wr lb db rb p N k L D F T all al x c vs A) : needsB (all.drop T) ≤ N - 1 := by
  have h1 := h.hist.inv.used
  have h2 := h.hist.inv.ok.used
  have h3 := h.n
  omega
theorem PlaysW.low {w wr : World} {lb db rb p N k : Nat} {L : LSt} {D : DSt} {F : Nat → Prop} {T : Nat} {all : List Batch} {al : Nat} {x : Option Addr} {c : Nat} {vs : List Value} {A : Nat → Prop} (h : PlaysW w wr lb db rb p N k L D F T all al x c vs A) : T ≤ L.synced ∧ L.synced ≤ al := by
  have h1 := h.hist.inv.low
  have h2 := h.hist.inv.high
  have h3 := h.ref.len
  omega
theorem PlaysW.check {w wr : World} {lb db rb p N k : Nat} {L : LSt} {D : DSt} {F : Nat → Prop} {T : Nat} {all : List Batch} {al : Nat} {x : Option Addr} {c : Nat} {vs : List Value} {A : Nat → Prop} (h : PlaysW w wr lb db rb p N k L D F T all al x c vs A) (b : Batch) : L.check b = rcheck (N - 1 - needsB (all.drop T)) b := by
  rw [LSt.check, rcheck, if_neg (by rw [h.hist.inv.alive]; decide), LSt.room, h.n, h.hist.inv.used]

theorem AppPost.foot {w w' : World} {lb db : Nat} {L : LSt} {D : DSt} {F : Nat → Prop} {T : Nat} {all : List Batch} {b : Batch} {a r : Int} (h : AppPost w lb db L D F T all b a r w') : ∃ F' : Nat → Prop, Upd F w w' ∧ (∀ k, F' k → F k ∨ w.heap.size ≤ k) := by
  rcases h with ⟨_, _, _, _, F', _, h2, h3⟩ | ⟨_, _, _, L', D', F', _, h2, h3, _⟩
  · exact ⟨F', h2, h3⟩
  · exact ⟨F', h2, h3⟩
/-- An Append of both. -/
theorem app_both {w w1 w2 w3 : World} {lb db rb p N k : Nat} {L : LSt} {D : DSt} {F : Nat → Prop} {T : Nat} {all : List Batch} {al : Nat} {x : Option Addr} {c : Nat} {vs : List Value} {A : Nat → Prop} (h : PlaysW w w1 lb db rb p N k L D F T all al x c vs A)
    {b : Batch} {a r a2 r2 : Int} (hp : AppPost w1 lb db L D F T all b a r w2) (hq : AppRef w2 rb (N - 1) T L.synced all al x c vs A (N - 1 - needsB (all.drop T)) b a2 r2 w3) (hbb : bytesOf b ≤ 1000000000000000000) :
    a2 = a ∧ r2 = r ∧ Upd (fun q => F q ∨ ownRL rb al x c A q) w1 w3 ∧ ∃ (L' : LSt) (D' : DSt) (F' : Nat → Prop) (all' : List Batch) (al' : Nat) (x' : Option Addr) (c' : Nat) (vs' : List Value) (A' : Nat → Prop),
      PlaysW w w3 lb db rb p N (k + 1) L' D' F' T all' al' x' c' vs' A' := by
  have hck := h.check b
  rcases hp with ⟨h1, h2, rfl, rfl, F', hH, hu, hF⟩ | ⟨h1, rfl, rfl, L', D', F', hH, hu, hF, hsy, hfr, hn, hw, hs⟩
  · rcases hq with ⟨q1, rfl, rfl, rfl⟩ | ⟨q1, _⟩
    · obtain ⟨g1, g2, g3, g4⟩ := h.log hu hF
      exact ⟨rfl, hck.symm, hu.mono (fun _ _ h => .inl h), L, D, F', all, al, x, c, vs, A, ⟨hH, h.fr, h.n, by have := h.waits; omega, g1, by have := h.le; omega, g2, g3, g4, h.bytes⟩⟩
    · exact absurd (hck.trans q1) h1
  · rcases hq with ⟨q1, _⟩ | ⟨q1, rfl, rfl, x', c', v, A', hR, hu2, hA⟩
    · exact absurd (hck.symm.trans h1) q1
    · obtain ⟨g1, g2, g3, g4⟩ := h.log hu hF
      have hz := h.upd.size
      have hz2 := hu.size
      have hFlt := hH.wal.lt
      have hH3 := hH.upd hu2 (fun q hq e => by
        rcases e with e | e
        · exact (g4 q (.inl e)).2 hq
        · exact (g4 q (.inr (.inl e))).2 hq)
      refine ⟨by rw [h.ref.len]; omega, rfl, (hu.mono (fun _ _ h => .inl h)).trans (hu2.mono (fun q _ e => .inr (e.elim .inl (fun e => .inr (.inl e))))) , L', D', F', all ++ [b], al + 1, x', c', vs ++ [v], A', ⟨hH3, hfr.trans h.fr, hn.trans h.n, by have := h.waits; omega, by rw [hsy]; exact hR, by have := h.le; omega, ?_, g3, fun q hq => ?_, fun b' hb' => ?_⟩⟩
      · refine g2.then hu2 (fun q hq => .inr ?_)
        rcases hq with e | e
        · exact (g4 q (.inl e)).1
        · exact (g4 q (.inr (.inl e))).1
      · rcases hA q hq with e | e
        · exact g4 q e
        · exact ⟨by omega, fun hf => by have := hFlt q hf; omega⟩
      · rcases List.mem_append.1 hb' with e | e
        · exact h.bytes b' e
        · rw [List.mem_singleton] at e; rw [e]; exact hbb

/-- What the round's end looks at. -/
theorem tail_step {w u u' : World} {lb db rb p N k : Nat} {L : LSt} {D : DSt} {F : Nat → Prop} {T : Nat} {all : List Batch} {al : Nat} {x : Option Addr} {c : Nat} {vs : List Value} {A : Nat → Prop} {sy : Nat}
    (h : Hid (PlaysW w u lb db rb p N k L D F T all al x c vs A) ∧ u.cell? ⟨rb, 1, none⟩ = some (.slice x al c) ∧ u.cell? ⟨rb, 2, none⟩ = some (.int .i64 T) ∧ u.cell? ⟨rb, 3, none⟩ = some (.int .i64 sy)) (hu : Upd (fun _ => False) u u') :
    Hid (PlaysW w u' lb db rb p N k L D F T all al x c vs A) ∧ u'.cell? ⟨rb, 1, none⟩ = some (.slice x al c) ∧ u'.cell? ⟨rb, 2, none⟩ = some (.int .i64 T) ∧ u'.cell? ⟨rb, 3, none⟩ = some (.int .i64 sy) :=
  ⟨h.1.out.step hu, hu.cell_some (a := ⟨rb, 1, none⟩) h.2.1 (fun h => h), hu.cell_some (a := ⟨rb, 2, none⟩) h.2.2.1 (fun h => h), hu.cell_some (a := ⟨rb, 3, none⟩) h.2.2.2 (fun h => h)⟩
theorem tail_cells {w u : World} {lb db rb p N k : Nat} {L : LSt} {D : DSt} {F : Nat → Prop} {T : Nat} {all : List Batch} {al : Nat} {x : Option Addr} {c : Nat} {vs : List Value} {A : Nat → Prop} {sy : Nat} (h : PlaysW w u lb db rb p N k L D F T all al x c vs A) (hsy : L.synced = sy) :
    Hid (PlaysW w u lb db rb p N k L D F T all al x c vs A) ∧ u.cell? ⟨rb, 1, none⟩ = some (.slice x al c) ∧ u.cell? ⟨rb, 2, none⟩ = some (.int .i64 T) ∧ u.cell? ⟨rb, 3, none⟩ = some (.int .i64 sy) := by
  subst hsy
  exact ⟨h, h.ref.cells.cell 1, h.ref.cells.cell 2, h.ref.cells.cell 3⟩
theorem tail_room {w u : World} {lb db rb p N k : Nat} {L : LSt} {D : DSt} {F : Nat → Prop} {T : Nat} {all : List Batch} {al : Nat} {x : Option Addr} {c : Nat} {vs : List Value} {A : Nat → Prop} {R : Nat} (h : PlaysW w u lb db rb p N k L D F T all al x c vs A) (hR : N - 1 - needsB (all.drop T) = R) :
    Calls Try.prog 19 #[.pointer (some ⟨lb, 0, none⟩)] u fun e w' => e = .returned (.int .i64 (R : Nat)) ∧ w' = u.drew := hist_room h.hist R (by rw [h.n]; exact hR)
theorem tail_rroom {w u : World} {lb db rb p N k : Nat} {L : LSt} {D : DSt} {F : Nat → Prop} {T : Nat} {all : List Batch} {al : Nat} {x : Option Addr} {c : Nat} {vs : List Value} {A : Nat → Prop} {R : Nat} (h : PlaysW w u lb db rb p N k L D F T all al x c vs A) (hR : N - 1 - needsB (all.drop T) = R) (hk : k ≤ 100000000) :
    Calls Try.prog 32 #[.pointer (some ⟨rb, 0, none⟩)] u fun e w' => e = .returned (.int .i64 (R : Nat)) ∧ u = w' := by
  have h1 := h.low
  have h2 := h.le
  have h3 := h.hist.inv.ok.fit
  have h4 := h.n
  exact room_ref h.ref (by omega) (by omega) (by omega) h.needs h.bytes R hR
theorem tail_first {w u : World} {lb db rb p N k : Nat} {L : LSt} {D : DSt} {F : Nat → Prop} {T : Nat} {all : List Batch} {al : Nat} {x : Option Addr} {c : Nat} {vs : List Value} {A : Nat → Prop} (h : PlaysW w u lb db rb p N k L D F T all al x c vs A) :
    Calls Try.prog 20 #[.pointer (some ⟨lb, 0, none⟩)] u fun e w' => e = .returned (.int .i64 ((T : Int) + 1)) ∧ u = w' := by
  have := hist_first h.hist
  rwa [show ((T + 1 : Nat) : Int) = (T : Int) + 1 by omega] at this
theorem tail_last {w u : World} {lb db rb p N k : Nat} {L : LSt} {D : DSt} {F : Nat → Prop} {T : Nat} {all : List Batch} {al : Nat} {x : Option Addr} {c : Nat} {vs : List Value} {A : Nat → Prop} (h : PlaysW w u lb db rb p N k L D F T all al x c vs A) :
    Calls Try.prog 22 #[.pointer (some ⟨lb, 0, none⟩)] u fun e w' => e = .returned (.int .i64 (al : Nat)) ∧ u = w' := by
  have := hist_last h.hist
  rwa [h.ref.len] at this
theorem tail_synced {w u : World} {lb db rb p N k : Nat} {L : LSt} {D : DSt} {F : Nat → Prop} {T : Nat} {all : List Batch} {al : Nat} {x : Option Addr} {c : Nat} {vs : List Value} {A : Nat → Prop} {sy : Nat} (h : PlaysW w u lb db rb p N k L D F T all al x c vs A) (hsy : L.synced = sy) :
    Calls Try.prog 33 #[.pointer (some ⟨lb, 0, none⟩)] u fun e w' => e = .returned (.int .i64 (sy : Nat)) ∧ u = w' := by
  have := hist_synced h.hist
  rwa [hsy] at this

/-- Sync of both. -/
theorem sync_both {w w1 w2 w3 : World} {lb db rb p N k : Nat} {L : LSt} {D : DSt} {F : Nat → Prop} {T : Nat} {all : List Batch} {al : Nat} {x : Option Addr} {c : Nat} {vs : List Value} {A : Nat → Prop} (h : PlaysW w w1 lb db rb p N k L D F T all al x c vs A)
    (h2 : w2 = w1.setCell ⟨rb, 3, none⟩ (.int .i64 al)) {D' : DSt} {F' : Nat → Prop} (hH : Hist w3 lb db { L with synced := all.length } D' F' T all) (hu : Upd F w2 w3) (hF : ∀ q, F' q → F q ∨ w2.heap.size ≤ q) (hw : D'.waits = []) :
    PlaysW w w3 lb db rb p N (k + 1) { L with synced := all.length } D' F' T all al x c vs A := by
  have hset : Upd (fun q => q = rb) w1 w2 := by rw [h2]; exact (Upd.refl _ _).setCell _ (.inl rfl)
  have hz := hset.size
  have hzw := h.upd.size
  have hR2 : RefL w2 rb (N - 1) T al all al x c vs A := ⟨by rw [h2]; exact h.ref.cells.set 3 (.int .i64 al), h.ref.len, h.ref.mid.upd hset (fun q hq => (h.ref.own q hq).1), h.ref.rows.upd hset (fun q hq e => h.ref.arb (e ▸ hq)), fun q hq => Nat.lt_of_lt_of_le (h.ref.alt q hq) hz, h.ref.own, h.ref.arb, h.ref.whole.upd hset (fun q hq => (h.ref.own q hq).1) h.ref.mid.lt⟩
  have hU2 : Upd (fun _ => False) w w2 := h.upd.then hset (fun q hq => .inr (h.apart q (.inl hq)).1)
  refine ⟨hH, h.fr, h.n, by rw [hw]; exact Nat.zero_le _, ?_, by have := h.le; omega, hU2.then hu (fun q hq => .inr (h.new q hq)), fun q hq => ?_, fun q hq => ⟨(h.apart q hq).1, fun hf => ?_⟩, h.bytes⟩
  · show RefL w3 rb (N - 1) T all.length all al x c vs A
    rw [h.ref.len]
    exact hR2.upd hu (fun q hq => (h.apart q hq).2)
  · rcases hF q hq with e | e
    · exact h.new q e
    · omega
  · rcases hF q hf with e | e
    · exact (h.apart q hq).2 e
    · have := hR2.lt q hq; omega
/-- Trim of both. -/
theorem TrimPost.foot {w w' : World} {lb db : Nat} {L : LSt} {D : DSt} {F : Nat → Prop} {T : Nat} {all : List Batch} {u r : Int} (h : TrimPost w lb db L D F T all u r w') : ∃ F' : Nat → Prop, Upd F w w' ∧ (∀ k, F' k → F k ∨ w.heap.size ≤ k) := by
  rcases h with ⟨_, _, F', _, h2, h3⟩ | ⟨_, _, _, L', D', F', _, h2, h3, _⟩
  · exact ⟨F', h2, h3⟩
  · exact ⟨F', h2, h3⟩
theorem trim_both {w w1 w2 w3 : World} {lb db rb p N k : Nat} {L : LSt} {D : DSt} {F : Nat → Prop} {T : Nat} {all : List Batch} {al : Nat} {x : Option Addr} {c : Nat} {vs : List Value} {A : Nat → Prop} (h : PlaysW w w1 lb db rb p N k L D F T all al x c vs A)
    {u r r2 : Int} (hp : TrimPost w1 lb db L D F T all u r w2) (hq : TrimRef w2 rb (N - 1) T L.synced all al x c vs A u r2 w3) :
    r2 = r ∧ ∃ (L' : LSt) (D' : DSt) (F' : Nat → Prop) (T' : Nat), PlaysW w w3 lb db rb p N (k + 1) L' D' F' T' all al x c vs A := by
  rcases hp with ⟨h1, rfl, F', hH, hu, hF⟩ | ⟨h1, h2, rfl, L', D', F', hH, hu, hF, hsy, hfr, hn, hw⟩
  · rcases hq with ⟨_, rfl, rfl⟩ | ⟨q1, q2, _⟩
    · obtain ⟨g1, g2, g3, g4⟩ := h.log hu hF
      exact ⟨rfl, L, D, F', T, ⟨hH, h.fr, h.n, by have := h.waits; omega, g1, by have := h.le; omega, g2, g3, g4, h.bytes⟩⟩
    · omega
  · rcases hq with ⟨q1, _⟩ | ⟨_, _, rfl, hR, hu2⟩
    · omega
    · obtain ⟨g1, g2, g3, g4⟩ := h.log hu hF
      refine ⟨rfl, L', D', F', _, ⟨hH.upd hu2 (fun q hq e => (g4 q (.inl e)).2 hq), hfr.trans h.fr, hn.trans h.n, by rw [hw]; exact Nat.zero_le _, by rw [hsy]; exact hR, by have := h.le; omega, g2.then hu2 (fun q hq => .inr (g4 q (.inl hq)).1), g3, g4, h.bytes⟩⟩
/-- Open, and the answer's list cut. -/
theorem open_both {w w1 w2 w3 : World} {lb db rb p N k : Nat} {L : LSt} {D : DSt} {F : Nat → Prop} {T : Nat} {all : List Batch} {al : Nat} {x : Option Addr} {c : Nat} {vs : List Value} {A : Nat → Prop} (h : PlaysW w w1 lb db rb p N k L D F T all al x c vs A)
    {lb2 : Nat} {L' : LSt} {F' : Nat → Prop} (hH : Hist w2 lb2 db L' D F' T (all.take L.synced)) (hu : Upd (fun _ => False) w1 w2) (hF : ∀ q, F' q → F q ∨ w1.heap.size ≤ q) (hfr : L'.fr = p) (hn : L'.n = N) (hsy : L'.synced = L.synced)
    (h3 : w3 = w2.setCell ⟨rb, 1, none⟩ (.slice x L.synced c)) : PlaysW w w3 lb2 db rb p N (k + 1) L' D F' T (all.take L.synced) L.synced x c (vs.take L.synced) A := by
  have hlow := h.low
  obtain ⟨g1, g2, g3, g4⟩ := h.log (F' := F') (hu.mono (fun _ _ e => e.elim)) hF
  have hset : Upd (fun q => q = rb) w2 w3 := by rw [h3]; exact (Upd.refl _ _).setCell _ (.inl rfl)
  have hob : (Value.slice x L.synced c).ownBlock = (Value.slice x al c).ownBlock := by cases x <;> rfl
  obtain ⟨hmid, hwh⟩ := g1.mid.cut g1.whole hlow.2
  rw [Nat.mul_one] at hmid
  have hown := g1.own
  rw [← hob] at hown
  refine ⟨?_, hfr, hn, by have := h.waits; omega, ⟨?_, by rw [List.length_take, h.ref.len]; omega, hmid.upd hset (fun q hq => (hown q hq).1), ?_, fun q hq => Nat.lt_of_lt_of_le (g1.alt q hq) hset.size, hown, g1.arb, hwh.upd hset (fun q hq => (hown q hq).1) hmid.lt⟩, by have := h.le; omega, g2.then hset (fun q hq => .inr (g4 q (.inl hq)).1), g3, fun q hq => ?_, fun b hb => h.bytes b (List.mem_of_mem_take hb)⟩
  · exact hH.upd hset (fun q hq e => (g4 q (.inl e)).2 hq)
  · rw [hsy, h3]
    exact g1.cells.set 1 (.slice x L.synced c)
  · refine RowsAt.upd (A := A) ⟨by rw [List.length_take, List.length_take, g1.rows.1], fun i h1 h2 => ?_⟩ hset (fun q hq e => g1.arb (e ▸ hq))
    rw [List.length_take] at h1 h2
    rw [List.getElem_take, List.getElem_take]
    exact g1.rows.2 i (by omega) (by omega)
  · rcases hq with e | e | e
    · exact g4 q (.inl e)
    · rw [hob] at e
      exact g4 q (.inr (.inl e))
    · exact g4 q (.inr (.inr e))
end Go.Proofs.Ytocameknhglklaa
