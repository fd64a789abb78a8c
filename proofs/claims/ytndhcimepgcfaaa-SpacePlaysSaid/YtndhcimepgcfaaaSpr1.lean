/- Package space: Store; what docketlaw05.SpaceRests keeps. -/
import Derived.Test.YtndhcimepgcfaaaSp7
namespace Go.Proofs.Ytndhcimepgcfaaa
open Go Go.RowKit
set_option linter.unusedSimpArgs false
set_option linter.unusedVariables false
set_option maxRecDepth 100000
theorem zcSet : Try.zeroCells69 = (bvs zeros512).toArray := by kernel_rfl
theorem nil_write (tb : Nat) (u : World) : (Go.nilAhead 265 25 (.pointer (some ⟨tb, 0, none⟩)) "Write").run Try.prog u = .ok (some false) u := by kernel_rfl
set_option maxHeartbeats 4000000 in
theorem store_ok {w : World} {tb pb mb db lb fb skip ring N : Nat} {ot : Option Addr} {D : DSt} {es : List (Int × Bytes)} {G : Nat → Prop} (h : TxS w tb pb mb db lb fb skip ring N ot D es G) (hN : 1 ≤ N) {m n : Nat} {now old : Bytes} (hm : MapS w m n now old) :
    Calls Try.prog 19 #[.pointer (some ⟨m, 0, none⟩), .iface 25 (.pointer (some ⟨tb, 0, none⟩))] w fun e w' => e = .returned (.int .i64 0) ∧ TxS w' tb pb mb db lb fb skip ring N ot D (putB es 0 (pad now)) G ∧ Upd (fun q => q = mb) w w' := by
  have hr := hm.rnow
  have hlx : (bvs now).toArray.size = 512 := by simp [bvs_length, hm.l1]
  have hsz : (Try.prog.info? 69).map (·.size) = some (bvs now).length := by rw [bvs_length, hm.l1]; exact sizeSet
  have Hsz := Lib.hid hsz
  have Hlx := hlx
  have Hall : (bvs now).toArray.all (·.oneCell') = true := by rw [List.all_toArray]; exact List.all_eq_true.2 (bvs_one now)
  have H := Lib.hid (And.intro h (And.intro hm hN))
  have hmW := meth_write tb
  have hnW := nil_write tb
  clear h hm hN hsz hlx
  go_enter Try.func19, Try.ntmps19
  go_wp2_with (first | ((with_reducible apply wpl_load_mid m 1 (bvs now)); exact rfl; exact hr; exact Try.underlying69; exact rfl; exact Hsz.out; try (simp only [Act.put, List.setIfInBounds_toArray, List.set_cons_zero, List.set_cons_succ])) | ((with_reducible apply wpl_store_new); exact rfl; exact rfl; (rw [Hlx]; exact sizeSet); exact Try.zeroCells69_size.trans Hlx.symm; exact Hall; try (simp only [Act.put, List.setIfInBounds_toArray, List.set_cons_zero, List.set_cons_succ])))
  have hal : Upd (fun _ => False) w (w.alloc (.cells (bvs now).toArray 69)) := (Upd.refl _ w).alloc _
  have hcx := CellsA.new w 69 (bvs now)
  have hse : Sees ((w.alloc (.cells (bvs now).toArray 69)).drew) 1 (.slice (some ⟨w.heap.size, 0, none⟩) now.length 512) now.length (bvs now) := (Sees.at (by rw [bvs_length, Nat.mul_one]) (by rw [H.out.2.1.l1]; decide) hcx.range).upd ((Upd.refl (fun _ => False) _).drew) (fun _ _ _ h => h)
  have hw := txwrite_ok (H.out.1.upd hal.drew (fun _ _ h => h)) 0 (by decide) (by decide) (some ⟨w.heap.size, 0, none⟩) 512 now hse
  rw [H.out.2.1.l1] at hw
  have Hw := Lib.hid (And.intro hw hal)
  clear hal hcx hse hw
  generalize w.alloc (.cells (bvs now).toArray 69) = w2 at *
  generalize w.heap.size = xb at *
  have HS : True := trivial
  refine wp_region_planD (fun _ => True) 7 [(0, true), (1, true), (2, false), (3, true), (4, true), (5, false), (6, true)] (by kernel_rfl) (by kernel_rfl) (fun d _ _ _ _ h => by cases d <;> exact h) HS ?_
  iterate 2 (first | (apply planD_held rfl rfl rfl (by simp) HS; (intro w' hS K hK; go_simp; exact hK)) | (apply planD_wanted rfl rfl rfl (by simp) HS; (intro w' hS K hK; go_simp; exact hK)))
  refine planD_op rfl rfl (fun K hK => ?_)
  go_simp
  refine hK _ _ _ (fun u h => h) (fun _ => trivial) ?_
  clear hK
  try (simp only [Act.put, List.setIfInBounds_toArray, List.set_cons_zero, List.set_cons_succ])
  iterate 2 (first | (apply planD_held rfl rfl rfl (by simp) HS; (intro w' hS K hK; go_simp; exact hK)) | (apply planD_wanted rfl rfl rfl (by simp) HS; (intro w' hS K hK; go_simp; exact hK)))
  refine planD_op rfl rfl (fun K hK => ?_)
  go_simp
  refine Hw.out.1.mono ?_
  rintro e w3 ⟨r, rfl, hp⟩
  obtain ⟨_, _, _, rfl, hT, hu⟩ := Or.resolve_left hp (fun h => by have h1 := h.1; have h2 := H.out.2.2; have h3 := H.out.2.1.l1; omega)
  dsimp only
  have HT := Lib.hid (And.intro hT ((Hw.out.2.drew.mono (fun _ _ h => h.elim)).trans hu))
  refine hK _ _ _ (fun u h => h) (fun _ => trivial) ?_
  clear hK hp hT hu
  try (simp only [Act.put, List.setIfInBounds_toArray, List.set_cons_zero, List.set_cons_succ])
  iterate 1 (first | (apply planD_held rfl rfl rfl (by simp) HS; (intro w' hS K hK; go_simp; exact hK)) | (apply planD_wanted rfl rfl rfl (by simp) HS; (intro w' hS K hK; go_simp; exact hK)))
  refine planD_nil ?_
  go_wp2_with fail
  go_ret
  exact ⟨rfl, HT.out.1, HT.out.2⟩
theorem pad_id {l : Bytes} (h : l.length = 512) : pad l = l := by
  unfold pad
  rw [h]
  simp
theorem take_full {w : World} {mb N : Nat} {now old : Bytes} (h : MapS w mb N now old) (hN : N ≤ 4096) (hf : ∀ c, c < N → Free2 now old c = false) :
    Calls Try.prog 12 #[.pointer (some ⟨mb, 0, none⟩)] w fun e w' => e = .returned (.tuple #[.int .i64 0, .int .i64 12]) ∧ Upd (fun _ => False) w w' := by
  refine (mtake_ok h hN).mono ?_
  rintro e w' ⟨a, r, rfl, ⟨b', h1, h2, _⟩ | ⟨_, rfl, rfl, hu⟩⟩
  · rw [hf b' h1] at h2; cases h2
  · exact ⟨rfl, hu⟩
/-- The first loop. -/
structure RestA (w wr : World) (tb pb mb db lb fb N m k : Nat) (ot : Option Addr) (D : DSt) (es : List (Int × Bytes)) (G : Nat → Prop) (now : Bytes) : Prop where
  tx : TxS wr tb pb mb db lb fb 4 3 N ot D es G
  map : MapS wr m N now three
  has : ∀ c, c < 4096 → hasB now c = decide (c < 2 + k)
  upd : Upd (fun _ => False) w wr
  lo : w.heap.size ≤ m
  far : ¬ ownT tb pb mb G m
  own : ∀ q, ownT tb pb mb G q → w.heap.size ≤ q
/-- The second. -/
structure RestB (w wr : World) (m N K : Nat) (nw old : Bytes) : Prop where
  map : MapS wr m N nw old
  sub : ∀ c, c < 4096 → hasB nw c = true → c < 2 + K
  old : ∀ c, c < 4096 → hasB old c = decide (c < 2 + K)
  upd : Upd (fun _ => False) w wr
  lo : w.heap.size ≤ m
theorem RestB.freed {w wr w' : World} {m N K : Nat} {nw old : Bytes} (h : RestB w wr m N K nw old) (hN : N ≤ 4096) {b r : Int} (hp : FreePost wr m N nw old b r w') : ∃ nw', RestB w w' m N K nw' old := by
  have hlo := h.lo
  rcases hp with ⟨_, _, rfl⟩ | ⟨h1, h2, _, hM, hu⟩
  · exact ⟨nw, h⟩
  · have hb : b.toNat < 4096 := by simp [hasM] at h2; omega
    refine ⟨_, hM, fun c hc hh => ?_, h.old, h.upd.then hu (fun q hq => .inr (by omega)), h.lo⟩
    rw [has_cut nw h.map.l1 _ _ hb] at hh
    simp at hh
    exact h.sub c hc hh.2
def outV (N a j : Nat) : List Value := (List.range N).map fun c => .bool (decide (a ≤ c) && decide (c < a + j))
/-- The third. -/
structure RestC (w wr : World) (m N K j ob : Nat) (nw old : Bytes) : Prop where
  map : MapS wr m N nw old
  has : ∀ c, c < 4096 → 2 + K ≤ c → hasB nw c = decide (c < 2 + K + j)
  old : ∀ c, c < 4096 → hasB old c = decide (c < 2 + K)
  out : CellsA wr ob 4 (outV N (2 + K) j)
  upd : Upd (fun _ => False) w wr
  lo : w.heap.size ≤ m
  lo2 : w.heap.size ≤ ob
  ne : ob ≠ m
theorem RestC.free {w wr : World} {m N K j ob : Nat} {nw old : Bytes} (h : RestC w wr m N K j ob nw old) (c : Nat) (hc : c < 4096) : Free2 nw old c = decide (2 + K + j ≤ c) := by
  rw [Free2, h.old c hc]
  by_cases h1 : 2 + K ≤ c
  · rw [h.has c hc h1]
    rcases Nat.lt_or_ge c (2 + K + j) with h2 | h2
    · have h3 : ¬ (2 + K + j ≤ c) := by omega
      simp [h2, h3]
    · have h3 : ¬ (c < 2 + K + j) := by omega
      have h4 : ¬ (c < 2 + K) := by omega
      simp [h2, h3, h4]
  · have : c < 2 + K := by omega
    simp [this]; omega
theorem outV_get (N a j c : Nat) (hc : c < N) : (outV N a j)[c]? = some (.bool (decide (a ≤ c) && decide (c < a + j))) := by simp [outV, hc]
theorem outV_set (N a j : Nat) : (outV N a j).set (a + j) (.bool true) = outV N a (j + 1) := by
  apply List.ext_getElem?
  intro c
  rw [List.getElem?_set]
  by_cases hc : c < N
  · rw [outV_get N a (j + 1) c hc]
    by_cases e : a + j = c
    · subst e
      simp [outV, hc]
    · rw [if_neg e, outV_get N a j c hc]
      congr 2
      have : (c < a + j) ↔ (c < a + (j + 1)) := by omega
      simp [this]
  · rw [List.getElem?_eq_none (l := outV N a (j + 1)) (by simp [outV]; omega), List.getElem?_eq_none (l := outV N a j) (by simp [outV]; omega)]
    simp [outV]
    omega
theorem RestC.taken {w wr w4 : World} {m N K j ob : Nat} {nw old : Bytes} (h : RestC w wr m N K j ob nw old) (hlt : 2 + K + j < N) (hN : N ≤ 4096) (hM : MapS w4 m N (setB nw (2 + K + j)) old) (hu : Upd (fun q => q = m) wr w4) :
    RestC w (w4.setCell ⟨ob, 2 + K + j, none⟩ (.bool true)) m N K (j + 1) ob (setB nw (2 + K + j)) old := by
  have hlo := h.lo
  have hlo2 := h.lo2
  have hset : Upd (fun q => q = ob) w4 (w4.setCell ⟨ob, 2 + K + j, none⟩ (.bool true)) := (Upd.refl _ _).setCell _ (.inl rfl)
  refine ⟨hM.upd hset (fun e => h.ne e.symm), fun c hc h1 => ?_, h.old, ?_, (h.upd.then hu (fun q hq => .inr (by omega))).then hset (fun q hq => .inr (by omega)), h.lo, h.lo2, h.ne⟩
  · rw [has_set nw h.map.l1 _ _ (by omega), h.has c hc h1]
    by_cases e : c = 2 + K + j
    · subst e; simp
    · simp [e]; omega
  · have := (h.out.upd hu h.ne).set (2 + K + j) (.bool true)
    rw [outV_set] at this
    exact this
theorem infoBool : (Try.prog.info? 4).map (fun i => (i.zero, i.size, i.bytes)) = some (some (.bool false), 1, 1) := by kernel_rfl
theorem mk_bools (N : Nat) (h1 : N ≤ 4096) (a : Nat) (u : World) : (Instr.makeSlice 22 (.int .i64 (N : Int)) (.int .i64 (N : Int))).run Try.prog u =
    .ok (.slice (some ⟨u.heap.size, 0, none⟩) N N) (u.alloc (.cells (outV N a 0).toArray 4)) := by
  obtain ⟨i, hi, hz0, hz1, hz2⟩ := info_parts infoBool
  have h := run_make (P := Try.prog) u 22 4 i _ Try.underlying22 hi hz0 .i64 .i64 (N : Int) (N : Int) (by omega) (Int.le_refl _) (by rw [hz2]; omega) (by omega)
  rw [hz1] at h
  have e : madeCells (Value.bool false).cells (N * 1) = (outV N a 0).toArray := by
    have h2 := madeCells_flat [Value.bool false] N
    apply Array.ext'
    have : (Value.bool false).cells = [Value.bool false].toArray := rfl
    rw [this]
    refine h2.trans ?_
    apply List.ext_getElem?
    intro c
    by_cases hc : c < N
    · rw [outV_get N a 0 c hc]
      simp [hc]
    · rw [List.getElem?_eq_none (by simp; omega), List.getElem?_eq_none (by simp [outV]; omega)]
  rw [Int.toNat_natCast, e] at h
  exact h
end Go.Proofs.Ytndhcimepgcfaaa
