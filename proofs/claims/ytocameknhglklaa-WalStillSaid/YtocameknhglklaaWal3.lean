/- The log in memory; its small functions. -/
import Derived.Test.YtocameknhglklaaWal2
namespace Go.Proofs.Ytocameknhglklaa
open Go.RowKit
set_option linter.unusedSimpArgs false
set_option linter.unusedVariables false
set_option maxRecDepth 100000

def entryV (p : Nat × Nat) : List Value := [.int .i64 (p.1 : Nat), .int .i64 (p.2 : Nat)]
def listV (l : List (Nat × Nat)) : List Value := l.flatMap entryV
theorem entryV_length (p : Nat × Nat) : (entryV p).length = 2 := rfl
theorem listV_length (l : List (Nat × Nat)) : (listV l).length = l.length * 2 := flat_length entryV 2 l (fun p _ => entryV_length p)
def preL (L : LSt) (db : Nat) (lv : Value) : List Value :=
  [.pointer (some ⟨db, 0, none⟩), .int .i64 L.fr, .int .i64 L.n, .int .i64 L.start, .int .i64 L.used, lv, .int .i64 L.last, .int .i64 L.synced, .bool L.dead]
/-- A Log's cells: the first nine, and the table. -/
def Cells9 (w : World) (lb : Nat) (pre : List Value) : Prop := ∃ c, Ready w lb 9 pre [] 96 c

theorem Cells9.heap {w : World} {lb : Nat} {pre : List Value} (h : Cells9 w lb pre) : pre.length = 9 ∧ ∃ rest : List Value, w.heap[lb]? = some (.cells (pre ++ rest).toArray 96 (0, 0)) := by
  obtain ⟨c, ⟨rows, h⟩ | h⟩ := h
  · exact ⟨h.1, _, by rw [h.heap, List.append_assoc]⟩
  · exact ⟨h.1, _, by rw [h.heap, List.append_assoc]⟩
theorem Cells9.cell {w : World} {lb : Nat} {pre : List Value} (h : Cells9 w lb pre) (i : Nat) (hi : i < 9) : w.cell? ⟨lb, i, none⟩ = pre[i]? := by
  obtain ⟨hl, rest, hh⟩ := h.heap
  rw [cell_of_row _ _ _ _ _ _ hh]
  simp only [List.getElem?_toArray]
  rw [List.getElem?_append_left (by omega)]
theorem Cells9.lt {w : World} {lb : Nat} {pre : List Value} (h : Cells9 w lb pre) : lb < w.heap.size := by
  obtain ⟨_, rest, hh⟩ := h.heap
  exact lt_of_block hh
theorem Cells9.frozen {w : World} {lb : Nat} {pre : List Value} (h : Cells9 w lb pre) (i : Nat) : w.frozen? ⟨lb, i, none⟩ = false := by
  obtain ⟨_, rest, hh⟩ := h.heap
  exact unfrozen hh i
theorem Cells9.upd {w w' : World} {lb : Nat} {pre : List Value} {F : Nat → Prop} (h : Cells9 w lb pre) (hu : Upd F w w') (hf : ¬ F lb) : Cells9 w' lb pre := by
  obtain ⟨c, ⟨rows, h⟩ | h⟩ := h
  · exact ⟨c, .inl ⟨rows, h.upd hu hf⟩⟩
  · exact ⟨c, .inr (h.upd hu hf)⟩
theorem tab_pre {b o : Nat} {pre post : List Value} {t : TypeId} {w : World} {d m : Int} {rows : List (BitVec 32)} {c : Int} (h : TabAt w b o pre post t d m rows c) (i : Nat) (hi : i < o) (v : Value) : TabAt (w.setCell ⟨b, i, none⟩ v) b o (pre.set i v) post t d m rows c := by
  have hl := h.1
  refine ⟨by rw [List.length_set]; exact h.1, h.2.1, ?_⟩
  rw [stored h.2.2, List.setIfInBounds_toArray, List.append_assoc, List.set_append_left _ _ (by omega), List.append_assoc]
theorem Cells9.set {w : World} {lb : Nat} {pre : List Value} (h : Cells9 w lb pre) (i : Nat) (hi : i < 9) (v : Value) : Cells9 (w.setCell ⟨lb, i, none⟩ v) lb (pre.set i v) := by
  obtain ⟨c, ⟨rows, h⟩ | h⟩ := h
  · exact ⟨c, .inl ⟨rows, tab_pre h i hi v⟩⟩
  · exact ⟨c, .inr (tab_pre h i hi v)⟩
theorem nine {w : World} {lb : Nat} {v0 v1 v2 v3 v4 v5 v6 v7 v8 : Value} (h : Cells9 w lb [v0, v1, v2, v3, v4, v5, v6, v7, v8]) :
    w.cell? ⟨lb, 0, none⟩ = some v0 ∧ w.cell? ⟨lb, 1, none⟩ = some v1 ∧ w.cell? ⟨lb, 2, none⟩ = some v2 ∧ w.cell? ⟨lb, 3, none⟩ = some v3 ∧ w.cell? ⟨lb, 4, none⟩ = some v4 ∧ w.cell? ⟨lb, 5, none⟩ = some v5 ∧ w.cell? ⟨lb, 6, none⟩ = some v6 ∧ w.cell? ⟨lb, 7, none⟩ = some v7 ∧ w.cell? ⟨lb, 8, none⟩ = some v8 :=
  ⟨h.cell 0 (by decide), h.cell 1 (by decide), h.cell 2 (by decide), h.cell 3 (by decide), h.cell 4 (by decide), h.cell 5 (by decide), h.cell 6 (by decide), h.cell 7 (by decide), h.cell 8 (by decide)⟩
/-- The sum of bytes, by the log's own table. -/
theorem sum9 {w : World} {lb : Nat} {pre : List Value} (h : Cells9 w lb pre) (v : Value) (bs : Bytes) (hv : Sees w 1 v bs.length (bvs bs)) (hvb : ∀ k, v.ownBlock = some k → 0 < bs.length → k ≠ lb) :
    Calls Try.prog 41 #[.pointer (some ⟨lb, 9, none⟩), v] w fun e w' => e = .returned (.int .u32 (updB 0 bs).toNat) ∧ Upd (fun j => j = lb) w w' ∧ Cells9 w' lb pre := by
  obtain ⟨c, h⟩ := h
  refine (table_sum lb 9 pre [] _ c v bs w h hv hvb).mono ?_
  rintro e w' ⟨rfl, h1, h2⟩
  exact ⟨rfl, h1, _, .inr h2⟩

/-- A Log at block lb that is L, on the disk at block db; F: all blocks that are its own. -/
def LogAt (w : World) (lb : Nat) (L : LSt) (db : Nat) (F : Nat → Prop) : Prop :=
  L.Ok ∧ F lb ∧ (∀ k, F k → k < w.heap.size) ∧ ∃ lv, Cells9 w lb (preL L db lv) ∧ Mid w 2 lv L.list.length (listV L.list) ∧ (∀ k, lv.ownBlock = some k → F k ∧ k ≠ lb)
theorem LogAt.lt {w : World} {lb : Nat} {L : LSt} {db : Nat} {F : Nat → Prop} (h : LogAt w lb L db F) : ∀ k, F k → k < w.heap.size := h.2.2.1
theorem LogAt.upd {w w' : World} {lb : Nat} {L : LSt} {db : Nat} {F G : Nat → Prop} (h : LogAt w lb L db F) (hu : Upd G w w') (hf : ∀ k, F k → ¬ G k) : LogAt w' lb L db F := by
  obtain ⟨h0, h1, h2, lv, h3, h4, h5⟩ := h
  exact ⟨h0, h1, fun k hk => Nat.lt_of_lt_of_le (h2 k hk) hu.size, lv, h3.upd hu (hf lb h1), h4.upd hu (fun k hk => hf k (h5 k hk).1), h5⟩

theorem fail_ok (lb : Nat) (pre : List Value) (e : Int) (w : World) (h : Cells9 w lb pre) :
    Calls Try.prog 44 #[.pointer (some ⟨lb, 0, none⟩), .int .i64 e] w fun r w' => r = .returned (.int .i64 (if e = 0 then 0 else 10)) ∧ Upd (fun k => k = lb) w w' ∧ Cells9 w' lb (if e = 0 then pre else pre.set 8 (.bool true)) := by
  have hf := h.frozen 8
  have hc := h.cell 8 (by decide)
  obtain ⟨v8, hv8⟩ : ∃ v8, pre[8]? = some v8 := by
    obtain ⟨hl, _⟩ := h.heap
    exact ⟨_, List.getElem?_eq_getElem (by omega)⟩
  rw [hv8] at hc
  clear hv8
  by_cases he : e = 0
  · subst he
    have H := Lib.hid h
    clear h hc
    go_enter Try.func44, Try.ntmps44
    go_wp2_with fail
    go_ret
    exact ⟨rfl, Upd.refl _ _, H.out⟩
  · have hne : (e != 0) = true := by simp [he]
    have H : Hid (Upd (fun k => k = lb) w (w.setCell ⟨lb, 8, none⟩ (.bool true)) ∧ Cells9 (w.setCell ⟨lb, 8, none⟩ (.bool true)) lb (pre.set 8 (.bool true))) := ⟨(Upd.refl _ _).setCell _ (.inl rfl), h.set 8 (by decide) _⟩
    rw [if_neg he, if_neg he]
    clear h he
    go_enter Try.func44, Try.ntmps44
    go_wp2_with fail
    go_ret
    exact ⟨rfl, H.out⟩

theorem ring_ok (lb : Nat) (L : LSt) (db : Nat) (lv : Value) (i : Nat) (w : World) (h : Cells9 w lb (preL L db lv)) (hOk : L.Ok) (hi : i ≤ 100000000000) :
    Calls Try.prog 43 #[.pointer (some ⟨lb, 0, none⟩), .int .i64 i] w fun e w' => e = .returned (.int .i64 (L.ring i : Nat)) ∧ w' = w.drew := by
  obtain ⟨c0, c1, c2, c3, c4, c5, c6, c7, c8⟩ := nine h
  have h1 := hOk.two
  have h2 := hOk.fit
  obtain ⟨n, hn⟩ : ∃ n, L.n = n + 2 := ⟨L.n - 2, by omega⟩
  obtain ⟨fr, hfr⟩ : ∃ fr, L.fr = fr := ⟨_, rfl⟩
  have hring : (L.ring i : Int) = (fr : Int) + 1 + (i : Int) % ((n : Int) + 1) := by
    rw [LSt.ring, hn, hfr, show n + 2 - 1 = n + 1 from rfl]
    push_cast
    rfl
  rw [hring]
  rw [hn] at c2
  rw [hfr] at c1
  have hb1 : (fr : Int) ≤ 4096 := by omega
  have hb2 : (n : Int) ≤ 4096 := by omega
  have hb3 : (i : Int) ≤ 100000000000 := by omega
  clear h hOk h1 h2 hn hfr hring c0 c3 c4 c5 c6 c7 c8 hi
  have e1 : ((n + 2 : Nat) : Int) = (n : Int) + 2 := by omega
  rw [e1] at c2
  clear e1
  go_enter Try.func43, Try.ntmps43
  go_wp2_with fail
  have f1 : IntKind.i64.wrap ((fr : Int) + 1) = (fr : Int) + 1 := by rw [IntKind.wrap_i64]; omega
  have f2 : IntKind.i64.wrap ((n : Int) + 2 - 1) = (n : Int) + 1 := by rw [IntKind.wrap_i64]; omega
  have HS : w.drew.cell? ⟨lb, 1, none⟩ = some (.int .i64 fr) ∧ w.drew.cell? ⟨lb, 2, none⟩ = some (.int .i64 ((n : Int) + 2)) := ⟨c1, c2⟩
  refine wp_region_planD (fun w' => w'.cell? ⟨lb, 1, none⟩ = some (.int .i64 fr) ∧ w'.cell? ⟨lb, 2, none⟩ = some (.int .i64 ((n : Int) + 2))) 14 [(0, true), (1, true), (2, true), (3, true), (4, true), (5, true), (6, true), (7, true), (8, true), (9, true), (10, true), (11, true), (12, true), (13, true)] (by kernel_rfl) (by kernel_rfl) (fun d _ _ _ _ h => by cases d <;> exact h) HS ?_
  have hne : ((n : Int) + 1 == 0) = false := by rw [beq_eq_false_iff_ne]; omega
  have hne2 : ¬ ((n : Int) + 1 = 0) := by omega
  have htm : (i : Int).tmod ((n : Int) + 1) = (i : Int) % ((n : Int) + 1) := Int.tmod_eq_emod_of_nonneg (by omega)
  have hm0 : 0 ≤ (i : Int) % ((n : Int) + 1) := Int.emod_nonneg _ (by omega)
  have hm1 : (i : Int) % ((n : Int) + 1) < (n : Int) + 1 := Int.emod_lt_of_pos _ (by omega)
  have f3 : IntKind.i64.wrap ((i : Int).tmod ((n : Int) + 1)) = (i : Int) % ((n : Int) + 1) := by rw [htm, IntKind.wrap_i64]; omega
  have f4 : IntKind.i64.wrap ((fr : Int) + 1 + (i : Int) % ((n : Int) + 1)) = (fr : Int) + 1 + (i : Int) % ((n : Int) + 1) := by rw [IntKind.wrap_i64]; omega
  iterate 14 (first | (apply planD_held rfl rfl rfl (by simp) HS; (intro w' hS K hK; go_simp; exact hK)) | (apply planD_wanted rfl rfl rfl (by simp) HS; (intro w' hS K hK; go_simp; exact hK)))
  refine planD_nil ?_
  clear HS f1 f2 f3 f4 htm
  go_wp2_with fail
  go_ret
  exact ⟨rfl, rfl⟩
end Go.Proofs.Ytocameknhglklaa
