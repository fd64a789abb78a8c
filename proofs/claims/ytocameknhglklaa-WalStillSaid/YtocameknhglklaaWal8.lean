/- wal: Trim. -/
import Derived.Test.YtocameknhglklaaWal7
import Derived.Deep.LoopGhost
namespace Go.Proofs.Ytocameknhglklaa
open Go.RowKit
set_option linter.unusedSimpArgs false
set_option linter.unusedVariables false
set_option maxRecDepth 100000

theorem trim_nil (u : Int) (w : World) : Calls Try.prog 18 #[.pointer none, .int .i64 u] w fun e w' => e = .returned (.int .i64 2) ∧ w = w' := by
  go_enter Try.func18, Try.ntmps18
  go_wp2_with fail
  go_ret
  exact ⟨rfl, rfl⟩

def ShapePost (w : World) (sb : Nat) (v3 v4 v5 : Value) (w' : World) : Prop := w'.heap[sb]? = some (.cells #[v3, v4, v5] 108 (0, 0)) ∧ Upd (fun _ => False) w w' ∧ w.heap.size ≤ sb
theorem shape_ok {w : World} {lb : Nat} {v0 v1 v2 v6 v7 v8 : Value} (st us : Int) (sa : Option Addr) (n c : Nat) (h : Cells9 w lb [v0, v1, v2, .int .i64 st, .int .i64 us, .slice sa n c, v6, v7, v8]) :
    Calls Try.prog 45 #[.pointer (some ⟨lb, 0, none⟩)] w fun e w' => ∃ sb, e = .returned (.pointer (some ⟨sb, 0, none⟩)) ∧ ShapePost w sb (.int .i64 st) (.int .i64 us) (.slice sa n c) w' := by
  obtain ⟨c0, c1, c2, c3, c4, c5, c6, c7, c8⟩ := nine h
  clear h c0 c1 c2 c6 c7 c8
  go_enter Try.func45, Try.ntmps45
  go_wp2_with fail
  have HS : w.drew.cell? ⟨lb, 3, none⟩ = some (.int .i64 st) ∧ w.drew.cell? ⟨lb, 4, none⟩ = some (.int .i64 us) ∧ w.drew.cell? ⟨lb, 5, none⟩ = some (.slice sa n c) := ⟨c3, c4, c5⟩
  refine wp_region_planD (fun w' => w'.cell? ⟨lb, 3, none⟩ = some (.int .i64 st) ∧ w'.cell? ⟨lb, 4, none⟩ = some (.int .i64 us) ∧ w'.cell? ⟨lb, 5, none⟩ = some (.slice sa n c)) 15 [(0, true), (1, true), (2, true), (3, true), (4, true), (5, true), (6, true), (7, true), (8, true), (9, true), (10, true), (11, true), (12, true), (13, false), (14, true)] (by kernel_rfl) (by kernel_rfl) (fun d _ _ _ _ h => by cases d <;> exact h) HS ?_
  iterate 13 (apply planD_held rfl rfl rfl (by simp) HS; (intro w' hS K hK; go_simp; exact hK))
  refine planD_op rfl rfl (fun K hK => ?_)
  go_simp
  have hl : lb < w.heap.size := World.block_lt_of_cell? w ⟨lb, 3, none⟩ c3
  have hu : Upd (fun _ => False) w ((w.alloc (.cells #[.int .i64 st, .int .i64 us, .slice sa n c] 108)).drew) := ((Upd.refl _ w).alloc _).drew
  have hn : ((w.alloc (.cells #[.int .i64 st, .int .i64 us, .slice sa n c] 108)).drew).heap[w.heap.size]? = some (.cells #[.int .i64 st, .int .i64 us, .slice sa n c] 108 (0, 0)) := heap_alloc_new w _
  have HS2 : ((w.alloc (.cells #[.int .i64 st, .int .i64 us, .slice sa n c] 108)).drew).cell? ⟨lb, 3, none⟩ = some (.int .i64 st) ∧ ((w.alloc (.cells #[.int .i64 st, .int .i64 us, .slice sa n c] 108)).drew).cell? ⟨lb, 4, none⟩ = some (.int .i64 us) ∧ ((w.alloc (.cells #[.int .i64 st, .int .i64 us, .slice sa n c] 108)).drew).cell? ⟨lb, 5, none⟩ = some (.slice sa n c) :=
    ⟨(hu.cell hl (fun h => h)).trans c3, (hu.cell hl (fun h => h)).trans c4, (hu.cell hl (fun h => h)).trans c5⟩
  refine hK _ _ _ (fun u h => h) (fun _ => HS2) ?_
  have H := Lib.hid (And.intro hn hu)
  clear hu hn hK HS hl
  try (simp only [Act.put, List.setIfInBounds_toArray, List.set_cons_zero, List.set_cons_succ])
  (apply planD_held rfl rfl rfl (by simp) HS2; (intro w' hS K hK; go_simp; exact hK))
  refine planD_nil ?_
  clear HS2
  generalize (w.alloc (.cells #[.int .i64 st, .int .i64 us, .slice sa n c] 108)).drew = W at *
  go_wp2_with fail
  go_ret
  exact ⟨w.heap.size, rfl, H.out.1, H.out.2, Nat.le_refl _⟩

theorem upd_set {a w : World} {lb : Nat} (i : Nat) (v : Value) (h : Upd (fun k => k = lb) a w) : Upd (fun k => k = lb) a (w.setCell ⟨lb, i, none⟩ v) := h.setCell v (.inl rfl)
/-- In the middle of the loop. -/
def TrimR (w : World) (lb db : Nat) (L : LSt) (lv : Value) (upto : Int) (k : Nat) (wr : World) : Prop :=
  ∃ (M : LSt) (mv : Value), M.Ok ∧ M.cut upto = L.cut upto ∧ M.list.length = k ∧ Cells9 wr lb (preL M db mv) ∧ Mid wr 2 mv M.list.length (listV M.list) ∧ Upd (fun k => k = lb) w wr ∧ (mv.ownBlock = lv.ownBlock)
theorem cut_step {M : LSt} {p : Nat × Nat} {r : List (Nat × Nat)} {upto : Int} (h : M.Ok) (hl : M.list = p :: r) (hp : (p.1 : Int) ≤ upto) :
    ({ M with start := (M.start + p.2) % (M.n - 1), used := M.used - p.2, list := r } : LSt).Ok ∧ ({ M with start := (M.start + p.2) % (M.n - 1), used := M.used - p.2, list := r } : LSt).cut upto = M.cut upto ∧ p.2 ≤ M.used := by
  have hs := h.sum
  rw [hl] at hs
  simp only [List.map_cons, List.foldr_cons] at hs
  have h2 := h.two
  have hu := h.used
  refine ⟨⟨h.two, h.fit, ?_, ?_, ?_, ?_, ?_, h.last, h.synced⟩, ?_, by omega⟩
  · exact Nat.mod_lt _ (by omega)
  · show M.used - p.2 ≤ M.n - 1; omega
  · show (r.map (·.2)).foldr (· + ·) 0 = M.used - p.2; omega
  · exact fun q hq => h.needs q (by rw [hl]; exact List.mem_cons_of_mem _ hq)
  · exact fun q hq => h.nums q (by rw [hl]; exact List.mem_cons_of_mem _ hq)
  · rw [LSt.cut, LSt.cut, hl, trimTo, if_pos hp]
theorem cut_stop {M : LSt} {upto : Int} (h : ∀ p r, M.list = p :: r → upto < (p.1 : Int)) : M.cut upto = M := by
  rw [LSt.cut]
  cases hl : M.list with
  | nil => rw [trimTo, ← hl]
  | cons p r =>
    rw [trimTo, if_neg (by have := h p r hl; omega), ← hl]
theorem slice_from1 {P : Program} (t e : TypeId) (size : Nat) (hu : P.underlying t = some (.slice e)) (hs : (P.info? e).map (·.size) = some size) (g off m cap : Nat) (w : World) :
    (Instr.slice t (.slice (some ⟨g, off, none⟩) (m + 1) (cap + 1)) (some (.int .i64 1)) none none).run P w = .ok (.slice (some ⟨g, if cap = 0 then off else off + size, none⟩) m cap) w := by
  cases hq : P.info? e with
  | none => simp [hq] at hs
  | some i =>
    have hi : i.size = size := by simpa [hq] using hs
    have hb : (Instr.sliceBound (.int .i64 1) (m + 1) BoundsCode.sliceB).run P w = .ok 1 w := by
      rw [run_sliceBound w .i64 1 (m + 1) BoundsCode.sliceB (by decide) (by omega)]
      rfl
    simp [Instr.slice, run_underlying hu, Instr.sliceBounds, hb, sizeOf, typeInfo, hq, hi]
    by_cases hc : cap = 0
    · simp [hc]
    · rw [if_neg (by omega)]
      simp [Addr.add_mid, hc]
/-- All but the first. -/
theorem Mid.tail {w : World} {x : Option Addr} {c m : Nat} {p : Nat × Nat} {r : List (Nat × Nat)} (h : Mid w 2 (.slice x (m + 1) c) (m + 1) (listV (p :: r))) :
    ∃ g off cap, x = some ⟨g, off, none⟩ ∧ c = cap + 1 ∧ m ≤ cap ∧ cap + 1 ≤ maxLen ∧ w.cell? ⟨g, off, none⟩ = some (.int .i64 (p.1 : Nat)) ∧ w.cell? ⟨g, off + 1, none⟩ = some (.int .i64 (p.2 : Nat)) ∧
      Mid w 2 (.slice (some ⟨g, if cap = 0 then off else off + 2, none⟩) m cap) m (listV r) := by
  obtain ⟨hl, ⟨h0, h1⟩ | ⟨g, off, cap, he, h1, h2, h3, h4, h5⟩⟩ := h
  · cases h1
  · cases he
    obtain ⟨cap, rfl⟩ : ∃ c', c = c' + 1 := ⟨c - 1, by omega⟩
    have e : listV (p :: r) = entryV p ++ listV r := by simp [listV]
    rw [e] at h4 hl
    have hl2 : (listV r).length = m * 2 := by rw [List.length_append, entryV_length] at hl; omega
    refine ⟨g, off, cap, rfl, rfl, by omega, h2, h4 0 _ rfl, h4 1 _ rfl, hl2, .inr ⟨g, _, cap, rfl, by omega, by omega, h3, ?_, ?_⟩⟩
    · by_cases hc : cap = 0
      · have hm0 : m = 0 := by omega
        subst hm0
        have hn : listV r = [] := List.eq_nil_of_length_eq_zero (by simpa using hl2)
        rw [hn]
        intro j v hj
        cases hj
      · rw [if_neg hc]
        intro j v hj
        have := h4 (j + 2) v (by rw [List.getElem?_append_right (by rw [entryV_length]; omega), entryV_length]; exact hj)
        rwa [show off + (j + 2) = off + 2 + j by omega] at this
    · by_cases hc : cap = 0
      · intro j hj
        have : (cap - m) * 2 = 0 := by rw [hc]; simp
        omega
      · rw [if_neg hc]
        intro j hj
        have := h5 j (by omega)
        rwa [show off + (m + 1) * 2 + j = off + 2 + m * 2 + j by omega] at this
end Go.Proofs.Ytocameknhglklaa
