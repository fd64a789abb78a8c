/- Package wal: contracts, second part (load, Open, a log that lives). -/
import Derived.Test.YtndhcimepgcfaaaKWal
import Derived.Test.YtndhcimepgcfaaaKPlain
import Derived.Deep.CutBlock
set_option linter.unusedSimpArgs false
set_option linter.unusedVariables false
/- wal: load. -/
namespace Go.Proofs.Ytndhcimepgcfaaa
open Go.RowKit
set_option linter.unusedSimpArgs false
set_option linter.unusedVariables false
set_option maxRecDepth 100000

theorem read_of_vis {D : DSt} {i : Nat} {x : Bytes} (hd : D.dead = false) (h : (done D.secs D.waits)[i]? = some x) : D.read (i : Nat) = (x, 0) := by
  have hi : i < D.secs.length := by
    rcases Nat.lt_or_ge i D.secs.length with h' | h'
    · exact h'
    · rw [List.getElem?_eq_none (by rw [done_length]; exact h')] at h; cases h
  rw [done_lastOf _ _ _ hi] at h
  cases h
  exact DSt.read_eq hd (by omega) (by omega)
theorem slice_fromk {P : Program} (t e : TypeId) (hu : P.underlying t = some (.slice e)) (hs : (P.info? e).map (·.size) = some 1) (g off n cap k : Nat) (h1 : k ≤ n) (h2 : k < cap) (w : World) :
    (Instr.slice t (.slice (some ⟨g, off, none⟩) n cap) (some (.int .i64 k)) none none).run P w = .ok (.slice (some ⟨g, off + k, none⟩) (n - k) (cap - k)) w := by
  cases hq : P.info? e with
  | none => simp [hq] at hs
  | some i =>
    have hi : i.size = 1 := by simpa [hq] using hs
    have hu' : P.underlying t = some (.slice (P.elem t)) := by rw [hu]; simp [Program.elem, hu]
    have he : P.elem t = e := by simp [Program.elem, hu]
    rw [run_slice_l w t (some ⟨g, off, none⟩) n cap hu' .i64 k (by omega) (by omega)]
    simp [sizeOf, typeInfo, he, hq, hi, sliced, Addr.add_mid]
    omega
theorem slice_fromI {P : Program} (t e : TypeId) (hu : P.underlying t = some (.slice e)) (hs : (P.info? e).map (·.size) = some 1) (g off n cap k : Nat) (kI : Int) (n' c' : Nat) (hk : kI = (k : Nat)) (h1 : k ≤ n) (h2 : k < cap) (hn : n - k = n') (hc : cap - k = c') (w : World) :
    (Instr.slice t (.slice (some ⟨g, off, none⟩) n cap) (some (.int .i64 kI)) none none).run P w = .ok (.slice (some ⟨g, off + k, none⟩) n' c') w := by
  subst hk; subst hn; subst hc
  exact slice_fromk t e hu hs g off n cap k h1 h2 w
theorem slice_to {P : Program} (t e : TypeId) (hu : P.underlying t = some (.slice e)) (hs : (P.info? e).map (·.size) = some 1) (g off n cap k : Nat) (h1 : k ≤ cap) (h0 : 0 < cap) (w : World) :
    (Instr.slice t (.slice (some ⟨g, off, none⟩) n cap) none (some (.int .i64 k)) none).run P w = .ok (.slice (some ⟨g, off, none⟩) k cap) w := by
  cases hq : P.info? e with
  | none => simp [hq] at hs
  | some i =>
    have hi : i.size = 1 := by simpa [hq] using hs
    have hu' : P.underlying t = some (.slice (P.elem t)) := by rw [hu]; simp [Program.elem, hu]
    have he : P.elem t = e := by simp [Program.elem, hu]
    rw [run_slice_h w t (some ⟨g, off, none⟩) n cap hu' .i64 k (by omega) (by omega)]
    simp [sizeOf, typeInfo, he, hq, hi, sliced, Addr.add_mid]
/-- A part of what a slice of bytes shows. -/
theorem sees_part {w : World} {g off n cap : Nat} {bs : Bytes} (h : w.rangeAt g off (bvs bs)) (i k c : Nat) (hk : i + k ≤ bs.length) (hm : k ≤ maxLen) : Sees w 1 (.slice (some ⟨g, off + i, none⟩) k c) k (bvs ((bs.drop i).take k)) := by
  have hl : ((bs.drop i).take k).length = k := by rw [List.length_take, List.length_drop]; omega
  refine Sees.at (by rw [bvs_length, hl]; omega) hm (rangeAt.sub h i ?_)
  rw [bvs_length, hl, bvs, bvs, ← List.map_drop, ← List.map_take]
/-- What load leaves. -/
def LoadPost (w : World) (lb : Nat) (pre : List Value) (b : Batch) (x : Option Addr) (c : Nat) (w' : World) : Prop :=
  Mid w' 1 (.slice x b.length c) b.length (strsV b) ∧ (∀ k, (Value.slice x b.length c).ownBlock = some k → w.heap.size ≤ k) ∧ Upd (fun k => k = lb) w w' ∧ Cells9 w' lb pre

/-- The sectors so far. -/
def LdR (w : World) (e : Bytes) (k m : Nat) (x : Option Addr) (c : Nat) (wr : World) : Prop :=
  Mid wr 1 (.slice x m c) m (bvs (catP e k)) ∧ Upd (fun _ => False) w wr ∧ (∀ j, (Value.slice x m c).ownBlock = some j → w.heap.size ≤ j) ∧ m = 512 * k
theorem infoS : (Try.prog.info? 9).map (fun i => (i.zero, i.size, i.bytes)) = some (some (.string .empty), 1, 16) := by kernel_rfl
/-- The records so far: j of them are read, the rest lies from o on. -/
def PrR (w : World) (lb : Nat) (pre : List Value) (b : Batch) (g2 j : Nat) (x : Option Addr) (c o M rc : Nat) (wr : World) : Prop :=
  Mid wr 1 (.slice x j c) j (strsV (b.take j)) ∧ wr.rangeAt g2 o (bvs (bodyB (b.drop j))) ∧ M = (bodyB (b.drop j)).length ∧ M ≤ rc ∧ Upd (fun k => k = lb) w wr ∧ (∀ k, (Value.slice x j c).ownBlock = some k → w.heap.size ≤ k ∧ k ≠ g2) ∧ Cells9 wr lb pre ∧ w.heap.size ≤ g2 ∧ g2 < wr.heap.size
/-- A part of bytes, however little is left. -/
theorem slice_lhA {P : Program} (t e : TypeId) (hu : P.underlying t = some (.slice e)) (hs : (P.info? e).map (·.size) = some 1) (g off n cap lo hi : Nat) (lI hI : Int) (n' c' o' : Nat) (hl : lI = (lo : Nat)) (hh : hI = (hi : Nat)) (h1 : lo ≤ hi) (h2 : hi ≤ cap) (hn : hi - lo = n') (hc : cap - lo = c') (ho : (if cap = lo then off else off + lo) = o') (w : World) :
    (Instr.slice t (.slice (some ⟨g, off, none⟩) n cap) (some (.int .i64 lI)) (some (.int .i64 hI)) none).run P w = .ok (.slice (some ⟨g, o', none⟩) n' c') w := by
  subst hl; subst hh; subst hn; subst hc; subst ho
  cases hq : P.info? e with
  | none => simp [hq] at hs
  | some i =>
    have hi' : i.size = 1 := by simpa [hq] using hs
    have hu' : P.underlying t = some (.slice (P.elem t)) := by rw [hu]; simp [Program.elem, hu]
    have he : P.elem t = e := by simp [Program.elem, hu]
    rw [run_slice_lh w t (some ⟨g, off, none⟩) n cap hu' .i64 .i64 lo hi (by omega) (by omega) (by omega)]
    by_cases hc : cap = lo
    · simp [sizeOf, typeInfo, he, hq, hi', sliced, hc]
    · simp [sizeOf, typeInfo, he, hq, hi', sliced, Addr.add_mid, hc]
theorem slice_fromA {P : Program} (t e : TypeId) (hu : P.underlying t = some (.slice e)) (hs : (P.info? e).map (·.size) = some 1) (g off n cap k : Nat) (kI : Int) (n' c' o' : Nat) (hk : kI = (k : Nat)) (h1 : k ≤ n) (hn : n - k = n') (hc : cap - k = c') (ho : (if cap = k then off else off + k) = o') (w : World) :
    (Instr.slice t (.slice (some ⟨g, off, none⟩) n cap) (some (.int .i64 kI)) none none).run P w = .ok (.slice (some ⟨g, o', none⟩) n' c') w := by
  subst hk; subst hn; subst hc; subst ho
  cases hq : P.info? e with
  | none => simp [hq] at hs
  | some i =>
    have hi : i.size = 1 := by simpa [hq] using hs
    have hu' : P.underlying t = some (.slice (P.elem t)) := by rw [hu]; simp [Program.elem, hu]
    have he : P.elem t = e := by simp [Program.elem, hu]
    rw [run_slice_l w t (some ⟨g, off, none⟩) n cap hu' .i64 k (by omega) (by omega)]
    by_cases hc : cap = k
    · simp [sizeOf, typeInfo, he, hq, hi, sliced, hc]
    · simp [sizeOf, typeInfo, he, hq, hi, sliced, Addr.add_mid, hc]
end Go.Proofs.Ytndhcimepgcfaaa
/- wal: Open, up to its header. -/
namespace Go.Proofs.Ytndhcimepgcfaaa
open Go.RowKit
set_option linter.unusedSimpArgs false
set_option linter.unusedVariables false
set_option maxRecDepth 100000

theorem slice_toI {P : Program} (t e : TypeId) (hu : P.underlying t = some (.slice e)) (hs : (P.info? e).map (·.size) = some 1) (g off n cap k : Nat) (kI : Int) (hk : kI = (k : Nat)) (h1 : k ≤ cap) (h0 : 0 < cap) (w : World) :
    (Instr.slice t (.slice (some ⟨g, off, none⟩) n cap) none (some (.int .i64 kI)) none).run P w = .ok (.slice (some ⟨g, off, none⟩) k cap) w := by
  subst hk
  exact slice_to t e hu hs g off n cap k h1 h0 w
/-- Open, behind the read of the log's own sector: where its parts lie. -/
structure Hdr (w : World) (g c pb pk lb : Nat) (m : Bytes) (pre : List Value) (wr : World) : Prop where
  upd : Upd (fun _ => False) w wr
  range : wr.rangeAt g 0 (bvs m)
  len : m.length = 512
  cap : 512 ≤ c
  b : wr.cell? ⟨pb, 0, none⟩ = some (.slice (some ⟨g, 0, none⟩) 512 c)
  k : wr.cell? ⟨pk, 0, none⟩ = some (.int .i64 12)
  log : Cells9 wr lb pre
  new : w.heap.size ≤ lb ∧ w.heap.size ≤ g ∧ g ≠ lb ∧ pb ≠ lb ∧ pk ≠ lb

theorem Hdr.drew {w : World} {g c pb pk lb : Nat} {m : Bytes} {pre : List Value} {wr : World} (h : Hdr w g c pb pk lb m pre wr) : Hdr w g c pb pk lb m pre wr.drew :=
  ⟨h.upd.drew, h.range, h.len, h.cap, h.b, h.k, h.log.upd ((Upd.refl (fun _ => False) wr).drew) (fun h => h), h.new⟩
theorem Hdr.sees12 {w : World} {g c pb pk lb : Nat} {m : Bytes} {pre : List Value} {wr : World} (h : Hdr w g c pb pk lb m pre wr) : Sees wr 1 (.slice (some ⟨g, 0, none⟩) 12 c) (m.take 12).length (bvs (m.take 12)) := by
  have hl : (m.take 12).length = 12 := by rw [List.length_take, h.len]; rfl
  have h1 := sees_part (n := 512) (cap := c) h.range 0 12 c (by rw [h.len]; decide) (by decide)
  rw [List.drop_zero] at h1
  rw [hl]
  exact h1
theorem Hdr.write {w : World} {g c pb pk lb : Nat} {m : Bytes} {pre pre' : List Value} {wr wr' : World} (h : Hdr w g c pb pk lb m pre wr) (hu : Upd (fun k => k = lb) wr wr') (hC : Cells9 wr' lb pre') : Hdr w g c pb pk lb m pre' wr' :=
  ⟨h.upd.then hu (fun k hk => .inr (by rw [hk]; exact h.new.1)), hu.range h.range (fun e => h.new.2.2.1 e), h.len, h.cap, hu.cell_some (a := ⟨pb, 0, none⟩) h.b (fun e => h.new.2.2.2.1 e), hu.cell_some (a := ⟨pk, 0, none⟩) h.k (fun e => h.new.2.2.2.2 e), hC, h.new⟩
theorem hdr_new {w w1 : World} {g c : Nat} {m : Bytes} (hu : Upd (fun _ => False) w w1) (hr : w1.rangeAt g 0 (bvs m)) (hm : m.length = 512) (hc : 512 ≤ c) (hg : w.heap.size ≤ g) (hgl : g < w1.heap.size) (db fr n : Nat) :
    Hdr w g c w1.heap.size (w1.heap.size + 1) (w1.heap.size + 1 + 1) m (preL (LSt.made fr n) db (.slice none 0 0)) (((w1.alloc (.cells #[.slice (some ⟨g, 0, none⟩) 512 c] 51)).alloc (.cells #[.int .i64 12] 3)).alloc (.cells (((Try.zeroCells117.setIfInBounds 0 (.pointer (some ⟨db, 0, none⟩))).setIfInBounds 1 (.int .i64 fr)).setIfInBounds 2 (.int .i64 n)) 117)) := by
  have u1 : Upd (fun _ => False) w1 (w1.alloc (.cells #[.slice (some ⟨g, 0, none⟩) 512 c] 51)) := (Upd.refl _ w1).alloc _
  have u2 : Upd (fun _ => False) (w1.alloc (.cells #[.slice (some ⟨g, 0, none⟩) 512 c] 51)) ((w1.alloc (.cells #[.slice (some ⟨g, 0, none⟩) 512 c] 51)).alloc (.cells #[.int .i64 12] 3)) := (Upd.refl _ _).alloc _
  have u3 : Upd (fun _ => False) ((w1.alloc (.cells #[.slice (some ⟨g, 0, none⟩) 512 c] 51)).alloc (.cells #[.int .i64 12] 3)) (((w1.alloc (.cells #[.slice (some ⟨g, 0, none⟩) 512 c] 51)).alloc (.cells #[.int .i64 12] 3)).alloc (.cells (((Try.zeroCells117.setIfInBounds 0 (.pointer (some ⟨db, 0, none⟩))).setIfInBounds 1 (.int .i64 fr)).setIfInBounds 2 (.int .i64 n)) 117)) := (Upd.refl _ _).alloc _
  have s1 : (w1.alloc (.cells #[.slice (some ⟨g, 0, none⟩) 512 c] 51)).heap.size = w1.heap.size + 1 := by simp
  have s2 : ((w1.alloc (.cells #[.slice (some ⟨g, 0, none⟩) 512 c] 51)).alloc (.cells #[.int .i64 12] 3)).heap.size = w1.heap.size + 1 + 1 := by simp
  have n1 := heap_alloc_new w1 (.cells #[.slice (some ⟨g, 0, none⟩) 512 c] 51)
  have n2 := heap_alloc_new (w1.alloc (.cells #[.slice (some ⟨g, 0, none⟩) 512 c] 51)) (.cells #[.int .i64 12] 3)
  rw [s1] at n2
  have n3 := log_new ((w1.alloc (.cells #[.slice (some ⟨g, 0, none⟩) 512 c] 51)).alloc (.cells #[.int .i64 12] 3)) db fr n
  rw [s2] at n3
  have hs := hu.size
  refine ⟨((hu.trans u1).trans u2).trans u3, ((u1.trans u2).trans u3).range hr (fun h => h), hm, hc, ?_, ?_, n3, by omega, by omega, by omega, by omega, by omega⟩
  · exact (u2.trans u3).cell_some (a := ⟨w1.heap.size, 0, none⟩) (by rw [cell_of_row _ _ _ _ _ _ n1]; rfl) (fun h => h)
  · exact u3.cell_some (a := ⟨w1.heap.size + 1, 0, none⟩) (by rw [cell_of_row _ _ _ _ _ _ n2]; rfl) (fun h => h)
end Go.Proofs.Ytndhcimepgcfaaa
/- wal: Open of a log. -/
namespace Go.Proofs.Ytndhcimepgcfaaa
open Go.RowKit
set_option linter.unusedSimpArgs false
set_option linter.unusedVariables false
set_option maxRecDepth 100000

theorem laid_get {S : List Bytes} {fr n : Nat} : ∀ (bs : List Batch) (a num : Nat), laid S fr n a num bs → ∀ (k : Nat) (hk : k < bs.length) (j : Nat), j < needB bs[k] → S[ringAt fr n (a + needsB (bs.take k) + j)]? = some (pad (chunk (encB (num + k) bs[k]) j))
  | b :: r, a, num, h, 0, hk, j, hj => by
    have := h.1 j hj
    simpa [needsB_nil] using this
  | b :: r, a, num, h, k + 1, hk, j, hj => by
    have := laid_get r _ _ h.2 k (by simpa using hk) j hj
    rw [List.take_succ_cons, needsB_cons, ← Nat.add_assoc, show num + (k + 1) = num + 1 + k by omega]
    exact this
theorem needsB_take_succ (bs : List Batch) (k : Nat) (hk : k < bs.length) : needsB (bs.take (k + 1)) = needsB (bs.take k) + needB bs[k] := by
  rw [List.take_succ_eq_append_getElem hk, needsB_append]; simp [needsB]
theorem needsB_take_le (bs : List Batch) (k : Nat) : needsB (bs.take k) ≤ needsB bs := by
  have h : needsB bs = needsB (bs.take k) + needsB (bs.drop k) := by rw [← needsB_append, List.take_append_drop]
  omega
theorem number_take_succ (bs : List Batch) (f k : Nat) (hk : k < bs.length) : number f (bs.take (k + 1)) = number f (bs.take k) ++ [(f + k, needB bs[k])] := by
  rw [List.take_succ_eq_append_getElem hk, number_append, List.length_take, Nat.min_eq_left (by omega)]; rfl
/-- The log while it is opened: k of its batches are told. -/
def LSt.part (fr n st fi sy : Nat) (bs : List Batch) (k : Nat) : LSt := ⟨fr, n, st, needsB (bs.take k), number fi (bs.take k), sy, sy, false⟩
theorem part_ok {S : List Bytes} {fr n st fi sy : Nat} {bs : List Batch} (h : Good S fr n st fi sy bs) (hm : S.length ≤ 4096) (k : Nat) : (LSt.part fr n st fi sy bs k).Ok := by
  have hle := needsB_take_le bs k
  have hf := h.fit
  refine ⟨h.two, by show fr + n ≤ 4096; omega, h.start, ?_, number_sum _ _, fun p hp => (number_mem _ _ p hp).1, fun p hp => ?_, h.big, Nat.le_refl _⟩
  · show needsB (bs.take k) ≤ n - 1
    have := h.need; omega
  · have h1 := (number_mem _ _ p hp).2.2
    have h2 := h.len
    have h3 : (bs.take k).length ≤ bs.length := by rw [List.length_take]; omega
    show p.1 ≤ sy
    omega
/-- Values that show batches. -/
def RowsAt (w : World) (vs : List Value) (bs : List Batch) (A : Nat → Prop) : Prop :=
  vs.length = bs.length ∧ ∀ i (h1 : i < vs.length) (h2 : i < bs.length), Sees w 1 vs[i] bs[i].length (strsV bs[i]) ∧ (∀ k, vs[i].ownBlock = some k → 0 < bs[i].length → A k)
theorem RowsAt.upd {w w' : World} {vs : List Value} {bs : List Batch} {A F : Nat → Prop} (h : RowsAt w vs bs A) (hu : Upd F w w') (hA : ∀ k, A k → ¬ F k) : RowsAt w' vs bs A :=
  ⟨h.1, fun i h1 h2 => ⟨(h.2 i h1 h2).1.upd hu (fun k hk h0 => hA k ((h.2 i h1 h2).2 k hk h0)), (h.2 i h1 h2).2⟩⟩
theorem RowsAt.nil (w : World) (A : Nat → Prop) : RowsAt w [] [] A := ⟨rfl, fun i h1 _ => absurd h1 (Nat.not_lt_zero _)⟩
theorem RowsAt.snoc {w : World} {vs : List Value} {bs : List Batch} {A A' : Nat → Prop} (h : RowsAt w vs bs A) (v : Value) (b : Batch) (hv : Sees w 1 v b.length (strsV b)) (hb : ∀ k, v.ownBlock = some k → 0 < b.length → A' k) (hA : ∀ k, A k → A' k) : RowsAt w (vs ++ [v]) (bs ++ [b]) A' := by
  refine ⟨by simp [h.1], fun i h1 h2 => ?_⟩
  by_cases hi : i < vs.length
  · have hi2 : i < bs.length := by rw [← h.1]; exact hi
    rw [List.getElem_append_left hi, List.getElem_append_left hi2]
    exact ⟨(h.2 i hi hi2).1, fun k hk h0 => hA k ((h.2 i hi hi2).2 k hk h0)⟩
  · have e1 : i = vs.length := by simp at h1; omega
    subst e1
    have e2 : (bs ++ [b])[vs.length] = b := by
      have := h.1
      simp [this]
    rw [List.getElem_append_right (Nat.le_refl _)]
    simp only [Nat.sub_self, List.getElem_singleton, e2]
    exact ⟨hv, hb⟩
/-- In the middle of Open's loop. -/
def OpnR (w : World) (db lb fr n st fi sy : Nat) (bs : List Batch) (k : Nat) (x : Option Addr) (c : Nat) (wr : World) : Prop :=
  ∃ (lv : Value) (vs : List Value) (A : Nat → Prop), Cells9 wr lb (preL (LSt.part fr n st fi sy bs k) db lv) ∧ Mid wr 2 lv k (listV (number fi (bs.take k))) ∧ Mid wr 1 (.slice x k c) k vs ∧ RowsAt wr vs (bs.take k) A ∧
    Upd (fun _ => False) w wr ∧ (∀ j, A j → w.heap.size ≤ j ∧ j < wr.heap.size ∧ j ≠ lb ∧ lv.ownBlock ≠ some j ∧ (Value.slice x k c).ownBlock ≠ some j) ∧ w.heap.size ≤ lb ∧
    (∀ j, lv.ownBlock = some j → w.heap.size ≤ j ∧ j ≠ lb ∧ (Value.slice x k c).ownBlock ≠ some j) ∧ (∀ j, (Value.slice x k c).ownBlock = some j → w.heap.size ≤ j ∧ j ≠ lb)
theorem opR_step {w : World} {db lb fr n st fi sy : Nat} {bs : List Batch} {k : Nat} {x : Option Addr} {c : Nat} {wr : World} {lv : Value} {vs : List Value} {A : Nat → Prop}
    (c1 : Cells9 wr lb (preL (LSt.part fr n st fi sy bs k) db lv)) (m1 : Mid wr 2 lv k (listV (number fi (bs.take k)))) (m2 : Mid wr 1 (.slice x k c) k vs) (r : RowsAt wr vs (bs.take k) A) (u : Upd (fun _ => False) w wr)
    (a : ∀ j, A j → w.heap.size ≤ j ∧ j < wr.heap.size ∧ j ≠ lb ∧ lv.ownBlock ≠ some j ∧ (Value.slice x k c).ownBlock ≠ some j) (l : w.heap.size ≤ lb)
    (b1 : ∀ j, lv.ownBlock = some j → w.heap.size ≤ j ∧ j ≠ lb ∧ (Value.slice x k c).ownBlock ≠ some j) (b2 : ∀ j, (Value.slice x k c).ownBlock = some j → w.heap.size ≤ j ∧ j ≠ lb)
    (hk : k < bs.length) {w1 : World} {xb : Option Addr} {cb : Nat} (l1 : LoadPost wr lb (preL (LSt.part fr n st fi sy bs k) db lv) bs[k] xb cb w1) {o1 o2 : Obj} {W2 W4 : World} {x1 x2 : Option Addr} {c1' c2' s' : Nat}
    (hs' : s' = needsB (bs.take (k + 1)))
    (hm2 : Mid W2 2 (.slice x1 (k + 1) c1') (k + 1) (listV (number fi (bs.take k)) ++ entryV (fi + k, needB bs[k]))) (hu2 : Upd (fun j => lv.ownBlock = some j) (w1.drew.alloc o1) W2)
    (hb2 : (Value.slice x1 (k + 1) c1').ownBlock = lv.ownBlock ∨ (Value.slice x1 (k + 1) c1').ownBlock = some (w1.drew.alloc o1).heap.size)
    (hm4 : Mid W4 1 (.slice x2 (k + 1) c2') (k + 1) (vs ++ [.slice xb bs[k].length cb])) (hu4 : Upd (fun j => (Value.slice x k c).ownBlock = some j) (((W2.setCell ⟨lb, 5, none⟩ (.slice x1 (k + 1) c1')).setCell ⟨lb, 4, none⟩ (.int .i64 s')).alloc o2) W4)
    (hb4 : (Value.slice x2 (k + 1) c2').ownBlock = (Value.slice x k c).ownBlock ∨ (Value.slice x2 (k + 1) c2').ownBlock = some (((W2.setCell ⟨lb, 5, none⟩ (.slice x1 (k + 1) c1')).setCell ⟨lb, 4, none⟩ (.int .i64 s')).alloc o2).heap.size) :
    OpnR w db lb fr n st fi sy bs (k + 1) x2 c2' W4 := by
  obtain ⟨lm, lo, lu, lc⟩ := l1
  have ua : Upd (fun _ => False) w1 (w1.drew.alloc o1) := ((Upd.refl _ w1).drew).alloc _
  have ub : Upd (fun k => k = lb) W2 ((W2.setCell ⟨lb, 5, none⟩ (.slice x1 (k + 1) c1')).setCell ⟨lb, 4, none⟩ (.int .i64 s')) := upd_set 4 _ (upd_set 5 _ (Upd.refl _ W2))
  have uc : Upd (fun _ => False) ((W2.setCell ⟨lb, 5, none⟩ (.slice x1 (k + 1) c1')).setCell ⟨lb, 4, none⟩ (.int .i64 s')) (((W2.setCell ⟨lb, 5, none⟩ (.slice x1 (k + 1) c1')).setCell ⟨lb, 4, none⟩ (.int .i64 s')).alloc o2) := (Upd.refl _ _).alloc _
  have s0 := u.size
  have s1 := lu.size
  have s2 := ua.size
  have s3 := hu2.size
  have s4 := ub.size
  have s5 := uc.size
  have s6 := hu4.size
  have hlvlt := m1.lt
  have hxlt := m2.lt
  have hlblt := c1.lt
  have hx1 : ∀ j, (Value.slice x1 (k + 1) c1').ownBlock = some j → (lv.ownBlock = some j ∨ j = (w1.drew.alloc o1).heap.size) := fun j hj => by
    rcases hb2 with h | h
    · exact .inl (by rw [← h]; exact hj)
    · rw [h] at hj; cases hj; exact .inr rfl
  have hx2 : ∀ j, (Value.slice x2 (k + 1) c2').ownBlock = some j → ((Value.slice x k c).ownBlock = some j ∨ (w1.drew.alloc o1).heap.size ≤ j ∧ W2.heap.size ≤ j) := fun j hj => by
    rcases hb4 with h | h
    · exact .inl (by rw [← h]; exact hj)
    · rw [h] at hj; cases hj; exact .inr ⟨by omega, by omega⟩
  have hx1lt := hm2.lt
  have hlbF : lv.ownBlock ≠ some lb := fun h => (b1 lb h).2.1 rfl
  have hlbX : (Value.slice x k c).ownBlock ≠ some lb := fun h => (b2 lb h).2 rfl
  refine ⟨.slice x1 (k + 1) c1', vs ++ [.slice xb bs[k].length cb], fun j => A j ∨ (Value.slice xb bs[k].length cb).ownBlock = some j, ?_, ?_, hm4, ?_, ?_, ?_, l, ?_, ?_⟩
  · have h1 := ((((lc.upd ua (fun h => h)).upd hu2 hlbF).set 5 (by decide) (.slice x1 (k + 1) c1')).set 4 (by decide) (.int .i64 s'))
    have h2 := (h1.upd uc (fun h => h)).upd hu4 hlbX
    have e : ((preL (LSt.part fr n st fi sy bs k) db lv).set 5 (.slice x1 (k + 1) c1')).set 4 (.int .i64 s') = preL (LSt.part fr n st fi sy bs (k + 1)) db (.slice x1 (k + 1) c1') := by
      rw [hs']; rfl
    rwa [e] at h2
  · have e : listV (number fi (bs.take k)) ++ entryV (fi + k, needB bs[k]) = listV (number fi (bs.take (k + 1))) := by
      rw [number_take_succ bs fi k hk]; simp [listV]
    rw [e] at hm2
    refine ((hm2.upd ub (fun j hj e => ?_)).upd uc (fun _ _ h => h)).upd hu4 (fun j hj h => ?_)
    · rcases hx1 j hj with h | h
      · exact (b1 j h).2.1 e
      · omega
    · rcases hx1 j hj with h' | h'
      · exact (b1 j h').2.2 h
      · have := hxlt j h; omega
  · rw [List.take_succ_eq_append_getElem hk]
    refine RowsAt.snoc (A := A) (r.upd (((((lu.mono (fun j _ h => (.inl h : j = lb ∨ lv.ownBlock = some j ∨ (Value.slice x k c).ownBlock = some j))).trans (ua.mono (fun _ _ h => h.elim))).trans (hu2.mono (fun _ _ h => .inr (.inl h)))).trans (ub.mono (fun _ _ h => .inl h))).trans (uc.mono (fun _ _ h => h.elim)) |>.trans (hu4.mono (fun _ _ h => .inr (.inr h)))) (fun j hj h => ?_)) _ _ ?_ (fun j hj _ => .inr hj) (fun j hj => .inl hj)
    · have h1 := a j hj
      rcases h with h | h | h
      · exact h1.2.2.1 h
      · exact h1.2.2.2.1 h
      · exact h1.2.2.2.2 h
    · refine ((((lm.sees.upd ua (fun _ _ _ h => h)).upd hu2 (fun j hj _ h => ?_)).upd ub (fun j hj _ h => ?_)).upd uc (fun _ _ _ h => h)).upd hu4 (fun j hj _ h => ?_)
      · have := lo j hj; have := hlvlt j h; omega
      · have := lo j hj; omega
      · have := lo j hj; have := hxlt j h; omega
  · refine ((((u.then lu (fun j hj => .inr (by omega))).trans ua).then hu2 (fun j hj => .inr (b1 j hj).1)).then ub (fun j hj => .inr (by omega))).trans uc |>.then hu4 (fun j hj => .inr (b2 j hj).1)
  · intro j hj
    rcases hj with hj | hj
    · have h1 := a j hj
      refine ⟨h1.1, by omega, h1.2.2.1, fun h => ?_, fun h => ?_⟩
      · rcases hx1 j h with h | h
        · exact h1.2.2.2.1 h
        · omega
      · rcases hx2 j h with h | h
        · exact h1.2.2.2.2 h
        · omega
    · have h1 := lo j hj
      have h2 := lm.lt j hj
      refine ⟨by omega, by omega, by omega, fun h => ?_, fun h => ?_⟩
      · rcases hx1 j h with h | h
        · have := hlvlt j h; omega
        · omega
      · rcases hx2 j h with h | h
        · have := hxlt j h; omega
        · omega
  · intro j hj
    refine ⟨?_, ?_, fun h => ?_⟩
    · rcases hx1 j hj with h | h
      · exact (b1 j h).1
      · omega
    · rcases hx1 j hj with h | h
      · exact (b1 j h).2.1
      · omega
    · rcases hx2 j h with h' | h'
      · rcases hx1 j hj with h'' | h''
        · exact (b1 j h'').2.2 h'
        · have := hxlt j h'; omega
      · have := hx1lt j hj; omega
  · intro j hj
    rcases hx2 j hj with h | h
    · exact b2 j h
    · exact ⟨by omega, by omega⟩
/-- What Open leaves. -/
def OpenPost (w : World) (lb db : Nat) (L : LSt) (D : DSt) (F : Nat → Prop) (bs : List Batch) (x : Option Addr) (c : Nat) (w' : World) : Prop :=
  ∃ (F' : Nat → Prop) (vs : List Value) (A : Nat → Prop), WalAt w' lb db L D F' ∧ Upd (fun _ => False) w w' ∧ (∀ k, F' k → F k ∨ w.heap.size ≤ k) ∧ Mid w' 1 (.slice x bs.length c) bs.length vs ∧ RowsAt w' vs bs A ∧
    (∀ k, A k → w.heap.size ≤ k ∧ k < w'.heap.size ∧ ¬ F' k ∧ (Value.slice x bs.length c).ownBlock ≠ some k) ∧ (∀ k, (Value.slice x bs.length c).ownBlock = some k → w.heap.size ≤ k ∧ ¬ F' k)

end Go.Proofs.Ytndhcimepgcfaaa
/- docketlaw03.fixed and what it leans on. -/
namespace Go.Proofs.Ytndhcimepgcfaaa
open Go.RowKit
set_option linter.unusedSimpArgs false
set_option linter.unusedVariables false
set_option maxRecDepth 100000

theorem make_inv {D : DSt} {fr n : Nat} (hOk : D.Ok) (h2 : 2 ≤ n) (hf : fr + n ≤ D.secs.length) (hd : D.dead = false) (hfu : D.fuel < 0) :
    (makeD D fr n).2 = 0 ∧ Inv (LSt.made fr n) (makeD D fr n).1 0 [] ∧ (makeD D fr n).1.fuel = D.fuel ∧ (makeD D fr n).1.waits = [] ∧ (makeD D fr n).1.secs.length = D.secs.length := by
  have hfl := DSt.flush_eq (D := D) hd (by omega)
  have hm : makeD D fr n = (((LSt.made fr n).mark D.flush.1).2.1, ((LSt.made fr n).mark D.flush.1).2.2) := by
    rw [makeD, if_pos (by rw [hfl])]
  rw [hm]
  have hb := burnt_neg hfu
  rcases mark_spec (LSt.made fr n) D.flush.1 (by rw [hfl]; exact hd) (by rw [hfl]; show fr < _; rw [done_length]; omega) with ⟨a1, a2, a3, a4, a5, a6⟩ | ⟨a1, a2, a3, a4, a5, a6⟩
  · have e1 : D.flush.1.fuel = D.fuel := by rw [hfl]; exact hb
    have e2 : D.flush.1.waits = [] := by rw [hfl]
    have e3 : D.flush.1.secs.length = D.secs.length := by rw [hfl]; exact done_length _ _
    rw [e2] at a4
    refine ⟨a1, made_inv (S := D.flush.1.secs) h2 (by rw [e3]; exact hf) (by rw [e3]; exact hOk.most) a3 a4 a5, (a6 (by rw [e1]; exact hfu)).trans e1, a5, ?_⟩
    rw [a4, List.length_set]
    exact e3
  · have e1 : D.flush.1.fuel = D.fuel := by rw [hfl]; exact hb
    rw [e1] at a6
    omega
theorem batch_eq (s : ByteArray) (t : ByteArray) : (s.toList == t.toList) = decide (s = t) := by
  have h : s.toList = t.toList ↔ s = t := by
    constructor
    · intro h
      rw [← strV_data s, ← strV_data t]
      have e : ∀ x : ByteArray, x.data.toList = x.toList := fun x => by
        have := strV_list x.data.toList
        rw [strV_data] at this
        exact this.symm
      rw [e, e, h]
    · rintro rfl; rfl
  by_cases hst : s = t
  · subst hst; simp
  · rw [decide_eq_false hst, beq_eq_false_iff_ne]
    exact fun h' => hst (h.1 h')
end Go.Proofs.Ytndhcimepgcfaaa
/- wal: the calls, with all that was appended kept beside; the disk never dies. -/
namespace Go.Proofs.Ytndhcimepgcfaaa
open Go.RowKit
set_option linter.unusedSimpArgs false
set_option linter.unusedVariables false
set_option maxRecDepth 100000

theorem writes_waits (L : LSt) (bs : Bytes) : ∀ (k i : Nat) (D : DSt), (L.writes bs k i D).1.waits.length ≤ D.waits.length + k
  | 0, i, D => Nat.le_refl _
  | k + 1, i, D => by
    have h1 := write_waits D (L.ring (L.start + L.used + i) : Nat) (chunk bs i)
    rw [LSt.writes]
    split
    · have h2 := writes_waits L bs k (i + 1) (D.write (L.ring (L.start + L.used + i) : Nat) (chunk bs i)).1
      omega
    · omega
theorem append_waits (L : LSt) (D : DSt) (b : Batch) : (L.append D b).2.1.waits.length ≤ D.waits.length + needB b := by
  unfold LSt.append
  split
  · exact Nat.le_add_right _ _
  · have h := writes_waits L (encB (L.last + 1) b) (needB b) 0 D
    dsimp only
    split <;> exact h
structure Hist (w : World) (lb db : Nat) (L : LSt) (D : DSt) (F : Nat → Prop) (T : Nat) (all : List Batch) : Prop where
  wal : WalAt w lb db L D F
  inv : Inv L D T all
  fuel : D.fuel = -1
theorem Hist.upd {w w' : World} {lb db : Nat} {L : LSt} {D : DSt} {F : Nat → Prop} {T : Nat} {all : List Batch} (h : Hist w lb db L D F T all) {H : Nat → Prop} (hu : Upd H w w') (hf : ∀ k, F k → ¬ H k) : Hist w' lb db L D F T all := ⟨h.wal.upd hu hf, h.inv, h.fuel⟩

theorem make_live {w : World} {db : Nat} {D : DSt} {F : Nat → Prop} (hD : DiskAt w db D F) (fr n : Nat) (h2 : 2 ≤ n) (hf : fr + n ≤ D.secs.length) (hwt : D.waits.length < 99999999990) (hd : D.dead = false) (hfu : D.fuel = -1) (frI nI : Int) (hfI : frI = (fr : Nat)) (hnI : nI = (n : Nat)) :
    Calls Try.prog 40 #[.pointer (some ⟨db, 0, none⟩), .int .i64 frI, .int .i64 nI] w fun e w' => ∃ lb F', e = .returned (.tuple #[.pointer (some ⟨lb, 0, none⟩), .int .i64 0]) ∧ Hist w' lb db (LSt.made fr n) (makeD D fr n).1 F' 0 [] ∧ Upd F w w' ∧ (∀ k, F' k → F k ∨ w.heap.size ≤ k) ∧ (makeD D fr n).1.waits = [] ∧ (makeD D fr n).1.secs.length = D.secs.length := by
  subst hfI; subst hnI
  obtain ⟨i1, i2, i3, i4, i5⟩ := make_inv hD.1 h2 hf hd (by omega)
  refine (make_ok hD fr n h2 hf hwt).mono ?_
  rintro e w' ⟨p, rfl, hp⟩
  rw [i1] at hp ⊢
  rcases hp with ⟨_, lb, F', rfl, g1, g2, g3⟩ | ⟨h, _⟩
  · exact ⟨lb, F', rfl, ⟨g1, i2, i3.trans hfu⟩, g2, g3, i4, i5⟩
  · exact absurd rfl h

/-- What an Append leaves. -/
def AppPost (w : World) (lb db : Nat) (L : LSt) (D : DSt) (F : Nat → Prop) (T : Nat) (all : List Batch) (b : Batch) (a r : Int) (w' : World) : Prop :=
  (L.check b ≠ 0 ∧ L.check b ≠ 10 ∧ a = 0 ∧ r = L.check b ∧ ∃ F', Hist w' lb db L D F' T all ∧ Upd F w w' ∧ (∀ k, F' k → F k ∨ w.heap.size ≤ k)) ∨
  (L.check b = 0 ∧ a = ((all.length + 1 : Nat) : Int) ∧ r = 0 ∧ ∃ L' D' F', Hist w' lb db L' D' F' T (all ++ [b]) ∧ Upd F w w' ∧ (∀ k, F' k → F k ∨ w.heap.size ≤ k) ∧ L'.synced = L.synced ∧ L'.fr = L.fr ∧ L'.n = L.n ∧ D'.waits.length ≤ D.waits.length + 4096 ∧ D'.secs.length = D.secs.length)
/-- What a Trim leaves. -/
def TrimPost (w : World) (lb db : Nat) (L : LSt) (D : DSt) (F : Nat → Prop) (T : Nat) (all : List Batch) (u r : Int) (w' : World) : Prop :=
  ((u < 0 ∨ (L.synced : Int) < u) ∧ r = 1 ∧ ∃ F', Hist w' lb db L D F' T all ∧ Upd F w w' ∧ (∀ k, F' k → F k ∨ w.heap.size ≤ k)) ∨
  (0 ≤ u ∧ u ≤ (L.synced : Int) ∧ r = 0 ∧ ∃ L' D' F', Hist w' lb db L' D' F' (max T u.toNat) all ∧ Upd F w w' ∧ (∀ k, F' k → F k ∨ w.heap.size ≤ k) ∧ L'.synced = L.synced ∧ L'.fr = L.fr ∧ L'.n = L.n ∧ D'.waits = [])
theorem hist_first {w : World} {lb db : Nat} {L : LSt} {D : DSt} {F : Nat → Prop} {T : Nat} {all : List Batch} (h : Hist w lb db L D F T all) :
    Calls Try.prog 48 #[.pointer (some ⟨lb, 0, none⟩)] w fun e w' => e = .returned (.int .i64 ((T + 1 : Nat) : Int)) ∧ w = w' := by
  obtain ⟨lv, G, h0, h1, h2, _⟩ := h.wal
  have := first_ok h1 h2 h0
  rw [h.inv.first] at this
  exact this
theorem WalAt.disk {w : World} {lb db : Nat} {L : LSt} {D : DSt} {F : Nat → Prop} (h : WalAt w lb db L D F) : ∃ G, DiskAt w db D G ∧ (∀ k, G k → F k) := by
  obtain ⟨lv, G, h0, h1, h2, h3, h4, h5, h6⟩ := h
  exact ⟨G, h3, fun k hk => (h6 k).2 (.inr (.inr hk))⟩
end Go.Proofs.Ytndhcimepgcfaaa
