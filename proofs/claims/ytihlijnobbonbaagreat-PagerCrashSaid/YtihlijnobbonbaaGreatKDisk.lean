/- Package disk: contracts. -/
import Derived.Test.YtihlijnobbonbaaGreatRows
import Derived.WalkKit
import Derived.ProofKit
import Derived.Deep.QuietTactic
import Derived.BigQuiet
import Derived.Below
import Derived.Test.YtihlijnobbonbaaGreatKBase
import Derived.Test.YtihlijnobbonbaaGreatKPlain
import Derived.Lib.Hide
import Derived.Outline
import Derived.WalkSpells
import Derived.OpenShut
import Derived.ShutString
import Derived.ChangeOld
import Derived.Deep.Slices
set_option linter.unusedSimpArgs false
set_option linter.unusedVariables false
/- Contracts of package disk. -/
namespace Go.Proofs.YtihlijnobbonbaaGreat
open Go.RowKit

theorem check_nil (i : Int) (w : World) :
    Calls Tryz.prog 56 #[.pointer none, .int .i64 i] w fun e w' => e = .returned (.int .i64 2) ∧ w = w' := by
  go_enter Tryz.func56, Tryz.ntmps56
  go_wp2
  go_ret
  exact ⟨rfl, rfl⟩

theorem check_dead (b : Nat) (i : Int) (w : World) (h3 : w.cell? ⟨b, 3, none⟩ = some (.bool true)) :
    Calls Tryz.prog 56 #[.pointer (some ⟨b, 0, none⟩), .int .i64 i] w fun e w' => e = .returned (.int .i64 10) ∧ w = w' := by
  go_enter Tryz.func56, Tryz.ntmps56
  go_wp2
  go_ret
  exact ⟨rfl, rfl⟩

theorem check_neg (b : Nat) (i : Int) (w : World) (h3 : w.cell? ⟨b, 3, none⟩ = some (.bool false)) (hi : i < 0) :
    Calls Tryz.prog 56 #[.pointer (some ⟨b, 0, none⟩), .int .i64 i] w fun e w' => e = .returned (.int .i64 1) ∧ w = w' := by
  go_enter Tryz.func56, Tryz.ntmps56
  go_wp2
  go_ret
  exact ⟨rfl, rfl⟩

theorem check_big (b n c : Nat) (sa : Option Addr) (i : Int) (w : World) (h3 : w.cell? ⟨b, 3, none⟩ = some (.bool false)) (h0 : w.cell? ⟨b, 0, none⟩ = some (.slice sa n c)) (hi : 0 ≤ i) (hn : n ≤ i) :
    Calls Tryz.prog 56 #[.pointer (some ⟨b, 0, none⟩), .int .i64 i] w fun e w' => e = .returned (.int .i64 1) ∧ w = w' := by
  go_enter Tryz.func56, Tryz.ntmps56
  go_wp2
  go_ret
  exact ⟨rfl, rfl⟩

theorem check_ok (b n c : Nat) (sa : Option Addr) (i : Int) (w : World) (h3 : w.cell? ⟨b, 3, none⟩ = some (.bool false)) (h0 : w.cell? ⟨b, 0, none⟩ = some (.slice sa n c)) (hi : 0 ≤ i) (hn : i < n) :
    Calls Tryz.prog 56 #[.pointer (some ⟨b, 0, none⟩), .int .i64 i] w fun e w' => e = .returned (.int .i64 0) ∧ w = w' := by
  go_enter Tryz.func56, Tryz.ntmps56
  go_wp2
  go_ret
  exact ⟨rfl, rfl⟩
end Go.Proofs.YtihlijnobbonbaaGreat
/- Contracts of package disk. -/
namespace Go.Proofs.YtihlijnobbonbaaGreat
open Go.RowKit

def secsV (l : List Bytes) : List Value := l.flatMap bvs
def waitV (p : Nat × Bytes) : List Value := .int .i64 p.1 :: bvs p.2
def waitsV (l : List (Nat × Bytes)) : List Value := l.flatMap waitV

/-- A Disk at block b that holds D; F: all blocks that are its own. -/
def DiskAt (w : World) (b : Nat) (D : DSt) (F : Nat → Prop) : Prop :=
  D.Ok ∧ F b ∧ (∀ k, F k → k < w.heap.size) ∧ ∃ sb sc scur wv,
    w.heap[b]? = some (.cells #[.slice (some ⟨sb, 0, none⟩) D.secs.length sc, wv, .int .i64 D.fuel, .bool D.dead] 89 (0, 0)) ∧
    (w.heap[sb]? = some (.cells scur 114 (0, 0)) ∧ D.secs.length ≤ sc ∧ sc ≤ maxLen ∧ scur.size = sc * 512 ∧ scur.toList.take (D.secs.length * 512) = secsV D.secs) ∧
    w.ownsRow 0 116 513 wv D.waits.length (waitsV D.waits) ∧
    F sb ∧ b ≠ sb ∧ (∀ k, wv.ownBlock = some k → F k ∧ k ≠ b ∧ k ≠ sb)

theorem infoW : (Tryz.prog.info? 116).map (fun i => (i.zero, i.size, i.bytes)) = some (some (.agg (waitV (0, zeros512)).toArray), 513, 520) := by kernel_rfl
theorem zeroW : (Tryz.prog.info? 116).map (·.zero) = some (some (.agg (waitV (0, zeros512)).toArray)) := by kernel_rfl
theorem sizeW : (Tryz.prog.info? 116).map (·.size) = some 513 := by kernel_rfl
theorem buildW (i : Int) (w : World) : (Instr.build 116 #[(0, .int .i64 i)]).run Tryz.prog w = .ok (.agg (Value.int .i64 i :: bvs zeros512).toArray) w := by kernel_rfl

theorem bvs_all (l : Bytes) : (bvs l).toArray.all (·.oneCell') = true := by
  rw [List.all_toArray, List.all_eq_true]
  exact bvs_one l
theorem waitV_all (i : Int) (l : Bytes) : (Value.int .i64 i :: bvs l).toArray.all (·.oneCell') = true := by
  rw [List.all_toArray, List.all_cons, Bool.and_eq_true]
  exact ⟨rfl, List.all_eq_true.2 (bvs_one l)⟩

theorem burn_die (b : Nat) (sv wv : Value) (f : Int) (d : Bool) (w : World) (hf : f = 0)
    (hb : w.heap[b]? = some (.cells #[sv, wv, .int .i64 f, .bool d] 89 (0, 0))) :
    Calls Tryz.prog 57 #[.pointer (some ⟨b, 0, none⟩)] w fun e w' => e = .returned (.bool false) ∧ w' = w.setCell ⟨b, 3, none⟩ (.bool true) := by
  obtain ⟨c0, c1, c2, c3⟩ := four hb
  have u3 := unfrozen hb 3
  subst hf
  go_enter Tryz.func57, Tryz.ntmps57
  go_wp2
  go_ret
  exact ⟨rfl, rfl⟩
theorem burn_all (b : Nat) (sv wv : Value) (f : Int) (w : World) (hf : f < 0)
    (hb : w.heap[b]? = some (.cells #[sv, wv, .int .i64 f, .bool false] 89 (0, 0))) :
    Calls Tryz.prog 57 #[.pointer (some ⟨b, 0, none⟩)] w fun e w' => e = .returned (.bool true) ∧ w' = w := by
  obtain ⟨c0, c1, c2, c3⟩ := four hb
  go_enter Tryz.func57, Tryz.ntmps57
  go_wp2
  go_ret
  exact ⟨rfl, rfl⟩
theorem burn_one (b : Nat) (sv wv : Value) (f : Int) (w : World) (hf : 0 < f) (hm : f ≤ 9223372036854775807)
    (hb : w.heap[b]? = some (.cells #[sv, wv, .int .i64 f, .bool false] 89 (0, 0))) :
    Calls Tryz.prog 57 #[.pointer (some ⟨b, 0, none⟩)] w fun e w' => e = .returned (.bool true) ∧ w' = w.setCell ⟨b, 2, none⟩ (.int .i64 (f - 1)) := by
  obtain ⟨c0, c1, c2, c3⟩ := four hb
  have u2 := unfrozen hb 2
  go_enter Tryz.func57, Tryz.ntmps57
  go_wp2
  go_ret
  exact ⟨rfl, rfl⟩
/-- What a burn that goes through leaves. -/
theorem burn_ok (b : Nat) (sv wv : Value) (f : Int) (w : World) (hf : f ≠ 0) (hm : f ≤ 9223372036854775807)
    (hb : w.heap[b]? = some (.cells #[sv, wv, .int .i64 f, .bool false] 89 (0, 0))) :
    Calls Tryz.prog 57 #[.pointer (some ⟨b, 0, none⟩)] w fun e w' => e = .returned (.bool true) ∧
      w'.heap[b]? = some (.cells #[sv, wv, .int .i64 (burnt f), .bool false] 89 (0, 0)) ∧ Upd (· = b) w w' ∧ w'.heap.size = w.heap.size := by
  rcases Int.lt_trichotomy f 0 with h | h | h
  · refine (burn_all b sv wv f w h hb).mono ?_
    rintro e w' ⟨rfl, rfl⟩
    exact ⟨rfl, by rw [burnt, if_neg (by omega)]; exact hb, Upd.refl _ _, rfl⟩
  · exact absurd h hf
  · refine (burn_one b sv wv f w h hm hb).mono ?_
    rintro e w' ⟨rfl, rfl⟩
    refine ⟨rfl, ?_, (Upd.refl _ _).setCell _ (.inl rfl), by simp⟩
    rw [stored hb, burnt, if_pos h]
    rfl

theorem sizeW' (i : Int) (l : Bytes) (h : l.length = 512) : (Tryz.prog.info? 116).map (·.size) = some (Value.int .i64 i :: bvs l).toArray.size := by
  rw [sizeW]; simp [bvs_length, h]
theorem pad_splice (i : Int) (l : Bytes) : splice (Value.int .i64 i :: bvs zeros512) 1 (bvs l) = Value.int .i64 i :: bvs (pad l) := by
  simp only [splice, pad, List.take_succ_cons, List.take_zero, bvs_append, bvs_length]
  rw [Nat.add_comm 1, List.drop_succ_cons]
  simp only [bvs, ← List.map_drop, zeros512, List.drop_replicate]
  rfl

theorem zcW (i : Int) : Tryz.zeroCells116.setIfInBounds 0 (.int .i64 i) = (Value.int .i64 i :: bvs zeros512).toArray := by kernel_rfl
theorem zsW (i : Int) : (Tryz.prog.info? 116).map (·.size) = some (Tryz.zeroCells116.setIfInBounds 0 (.int .i64 i)).size := by rw [zcW]; exact sizeW' i _ zeros512_length
theorem zoW (i : Int) : (Tryz.zeroCells116.setIfInBounds 0 (.int .i64 i)).all (·.oneCell') = true := by rw [zcW]; exact waitV_all i _
theorem sizeB : (Tryz.prog.info? 5).map (·.size) = some 1 := by kernel_rfl
set_option maxHeartbeats 1000000 in
set_option maxRecDepth 100000 in
theorem write_core (b : Nat) (wv : Value) (sa : Option Addr) (n c m : Nat) (ws : List Value) (f : Int) (w : World) (hb : w.heap[b]? = some (.cells #[.slice sa n c, wv, .int .i64 f, .bool false] 89 (0, 0)))
    (hwv : w.ownsRow 0 116 513 wv m ws) (hm : m < 100000000000)
    (i : Int) (da : Option Addr) (dc : Nat) (data : Bytes) (hdv : Sees w 1 (.slice da data.length dc) data.length (bvs data)) (hdb : ∀ x, da = some x → 0 < data.length → x.block ≠ b) (hwb : wv.ownBlock ≠ some b)
    (hi0 : 0 ≤ i) (hi1 : i < n) (hd : (data.length : Int) ≤ 512) (hf : f ≠ 0) (hfm : f ≤ 9223372036854775807) :
    Calls Tryz.prog 38 #[.pointer (some ⟨b, 0, none⟩), .int .i64 i, .slice da data.length dc] w fun e w' => e = .returned (.int .i64 0) ∧
      ∃ nv, w'.heap[b]? = some (.cells #[.slice sa n c, nv, .int .i64 (burnt f), .bool false] 89 (0, 0)) ∧ w'.ownsRow 0 116 513 nv (m + 1) (ws ++ (.int .i64 i :: bvs (pad data))) ∧
        Upd (fun k => k = b ∨ wv.ownBlock = some k) w w' ∧ (∀ k, nv.ownBlock = some k → wv.ownBlock = some k ∨ w.heap.size ≤ k) := by
  obtain ⟨c0, c1, c2, c3⟩ := four hb
  have Hf := Lib.hid hf
  have Hm := Lib.hid hm
  clear hf hm
  go_enter Tryz.func38, Tryz.ntmps38
  go_wp2_with fail
  refine (check_ok b _ _ _ i _ c3 c0 hi0 hi1).mono ?_
  rintro e w' ⟨rfl, rfl⟩
  dsimp only
  go_wp2_with fail
  refine (burn_ok b _ _ _ _ Hf.out hfm hb).mono ?_
  rintro e w1 ⟨rfl, hb1, hu1, hs1⟩
  dsimp only
  obtain ⟨d0, d1, d2, d3⟩ := four hb1
  have Hs := Lib.hid hs1
  clear c0 c1 c2 c3 hs1
  have hmin : min data.length 512 = data.length := by omega
  have Hcp : Hid ((w1.alloc (.cells (Value.int .i64 i :: bvs zeros512).toArray 116)).setCells w1.heap.size 1 ((bvs data).take (min data.length 512 * 1)) = w1.alloc (.cells (Value.int .i64 i :: bvs (pad data)).toArray 116)) := by
    rw [hmin, Nat.mul_one, List.take_of_length_le (by rw [bvs_length]; exact Nat.le_refl _), setCells_alloc _ _ _ _ _ (by simp [bvs_length, zeros512_length]; omega), pad_splice]
    exact Lib.hid rfl
  have Hse : Sees (w1.alloc (.cells (Value.int .i64 i :: bvs zeros512).toArray 116)) 1 (.slice da data.length dc) data.length (bvs data) :=
    Sees.upd ((Upd.refl (fun _ => False) w1).alloc _) (Sees.upd hu1 hdv (fun k hk h0 e => by cases da with | none => cases hk | some x => exact hdb x rfl h0 (by subst e; simpa [Value.ownBlock] using hk))) (fun _ _ _ h => h)
  have Hth : (w1.alloc (.cells (Value.int .i64 i :: bvs zeros512).toArray 116)).there w1.heap.size 1 (min data.length 512 * 1) :=
    there_of_row (heap_alloc_new _ _) (by simp [bvs_length, zeros512_length]; omega)
  have Hmin := Lib.hid hmin
  clear hmin
  go_wp2_with (first | ((with_reducible apply wpl_store_new); exact rfl; exact rfl; exact zsW _; exact Array.size_setIfInBounds.symm; exact zoW _; rw [zcW]; simp only [Act.put, List.setIfInBounds_toArray, List.set_cons_zero, List.set_cons_succ]) | ((with_reducible apply wpl_copy_sees); exact Tryz.underlying38; exact sizeB; exact rfl; exact Hse; exact Hth; exact bvs_one _; rw [Hcp.out]; simp only [Act.put, List.setIfInBounds_toArray, List.set_cons_zero, List.set_cons_succ]))
  have hWb : (w1.alloc (.cells (Value.int .i64 i :: bvs (pad data)).toArray 116)).heap[b]? = some (.cells #[.slice sa n c, wv, .int .i64 (burnt f), .bool false] 89 (0, 0)) := alloc_heap hb1 _
  have hWH := heap_alloc_new w1 (.cells (Value.int .i64 i :: bvs (pad data)).toArray 116)
  have hWu := hu1.alloc (.cells (Value.int .i64 i :: bvs (pad data)).toArray 116)
  have hHn : w.heap.size ≤ w1.heap.size := hu1.size
  generalize hW : w1.alloc (.cells (Value.int .i64 i :: bvs (pad data)).toArray 116) = W at *
  generalize hH : w1.heap.size = H at *
  clear hW hH Hcp Hse Hth d0 d1 d2 d3
  obtain ⟨g0, g1, g2, g3⟩ := four hWb
  have hR : W.rangeAt H 0 (Value.int .i64 i :: bvs (pad data)) := rangeAt_of_row hWH (by simp)
  have HS : W.drew.cell? ⟨b, 1, none⟩ = some wv ∧ W.drew.rangeAt H 0 (Value.int .i64 i :: bvs (pad data)) := ⟨g1, hR⟩
  refine wp_region_plan (fun w' => w'.cell? ⟨b, 1, none⟩ = some wv ∧ w'.rangeAt H 0 (Value.int .i64 i :: bvs (pad data))) 10 [(0, true), (1, true), (2, true), (3, true), (4, true), (5, true), (6, false), (7, false), (8, true), (9, true), (10, false)] (by kernel_rfl) (by kernel_rfl) (fun d _ _ _ _ h => by cases d <;> exact h) HS ?_
  iterate 5 (apply plan_held rfl rfl rfl (by simp) HS; (intro w' hS K hK; go_simp; exact hK))
  apply plan_held rfl rfl rfl (by simp) HS
  · intro w' hS K hK
    exact gives_load_mid H 0 rfl _ _ hS.2 Tryz.underlying116 rfl (by rw [sizeW]; simp [bvs_length, pad_length (show data.length ≤ 512 by omega)]) hK
  simp only [Act.put, List.setIfInBounds_toArray, List.set_cons_zero, List.set_cons_succ]
  have hSz : (Value.agg (Value.int .i64 i :: bvs (pad data)).toArray).cells.size = 513 := by simp [Value.cells, bvs_length, pad_length (show data.length ≤ 512 by omega)]
  refine plan_op rfl rfl (fun K hK => ?_)
  refine wp_buildSlice_one 116 513 520 _ (.agg (Value.int .i64 i :: bvs (pad data)).toArray) Tryz.underlying87 infoW (by decide) (by decide) rfl hSz ?_
  refine hK _ _ (fun _ => ⟨?_, ?_⟩) ?_
  · exact (World.cell?_alloc_lt _ _ _ (World.block_lt_of_cell? _ _ HS.1)).trans HS.1
  · exact World.rangeAt_alloc HS.2 _
  simp only [Act.put, List.setIfInBounds_toArray, List.set_cons_zero, List.set_cons_succ]
  have hXb : (W.drew.alloc (.cells (Value.agg (Value.int .i64 i :: bvs (pad data)).toArray).cells 116)).heap[b]? = some (.cells #[.slice sa n c, wv, .int .i64 (burnt f), .bool false] 89 (0, 0)) := alloc_heap (w := W.drew) hWb _
  have hXn := heap_alloc_new W.drew (.cells (Value.agg (Value.int .i64 i :: bvs (pad data)).toArray).cells 116)
  have hXu : Upd (· = b) w (W.drew.alloc (.cells (Value.agg (Value.int .i64 i :: bvs (pad data)).toArray).cells 116)) := hWu.drew.alloc _
  have hNs : w.heap.size ≤ W.drew.heap.size := by simpa using hWu.size
  have hXr : Hid ((W.drew.alloc (.cells (Value.agg (Value.int .i64 i :: bvs (pad data)).toArray).cells 116)).rangeAt H 0 (Value.int .i64 i :: bvs (pad data))) := World.rangeAt_alloc HS.2 _
  generalize hX : W.drew.alloc (.cells (Value.agg (Value.int .i64 i :: bvs (pad data)).toArray).cells 116) = X at *
  generalize hN : W.drew.heap.size = N at *
  have hXw : X.ownsRow 0 116 513 wv m ws := hXu.row hwv (fun k hk e => hwb (by rw [hk, e]))
  have hXs : Sees X 513 (.slice (some ⟨N, 0, none⟩) 1 1) 1 (Value.int .i64 i :: bvs (pad data)) :=
    Sees.at (by simp [bvs_length, pad_length (show data.length ≤ 512 by omega)]) (by decide) (rangeAt_of_row hXn (by simp))
  have Hm := Hm.out
  refine plan_op rfl rfl (fun K hK => ?_)
  refine wp_append_sees 0 116 513 520 _ wv m ws 1 (Value.int .i64 i :: bvs (pad data)) Tryz.underlying87 infoW (by simp [Value.cells, waitV, bvs_length, zeros512_length]) (by decide) rfl hXw hXs ?_ (by unfold maxLen; omega) (by omega) (Nat.zero_le _) ?_
  · intro u hu
    rcases List.mem_cons.1 hu with rfl | hu
    · rfl
    · exact bvs_one _ u hu
  intro x' c' Y hYo hYg hYn
  have hYb : Y.heap[b]? = some (.cells #[.slice sa n c, wv, .int .i64 (burnt f), .bool false] 89 (0, 0)) := (hYg.block b (lt_of_block hXb) (fun e => hwb e.symm)).trans hXb
  have hYu : Upd (fun k => k = b ∨ wv.ownBlock = some k) w Y := (hXu.mono (fun _ _ h => .inl h)).grown hYg (fun k hk => .inl (.inr hk))
  obtain ⟨y0, y1, y2, y3⟩ := four hYb
  have fr1 := unfrozen hYb 1
  have hYr : Y.rangeAt H 0 (Value.int .i64 i :: bvs (pad data)) := fun j u hj => hYg.cell (hXr.out j u hj) (fun e => by
    have := (hwv.lt H e.symm).2
    omega)
  have HY : Y.cell? ⟨b, 1, none⟩ = some wv ∧ Y.rangeAt H 0 (Value.int .i64 i :: bvs (pad data)) := ⟨y1, hYr⟩
  refine hK _ _ (fun _ => HY) ?_
  simp only [Act.put, List.setIfInBounds_toArray, List.set_cons_zero, List.set_cons_succ]
  iterate 2 (apply plan_held rfl rfl rfl (by simp) HY; (intro w' hS K hK; go_simp; exact hK))
  refine plan_op rfl rfl (fun K hK => ?_)
  go_simp
  refine hK _ _ (fun h => absurd rfl h) ?_
  refine plan_nil ?_
  go_wp2_with fail
  go_ret
  refine ⟨rfl, .slice x' (m + 1) c', by rw [stored hYb]; rfl, ?_, hYu.setCell _ (.inl (.inl rfl)), fun k hk => ?_⟩
  · exact Upd.row (((Upd.refl (fun k => k = b) Y).setCell _ (.inl rfl))) hYo (fun k hk e => by
      subst e
      rcases hYn with h | h
      · exact hwb (h ▸ hk)
      · rw [h] at hk; have := lt_of_block hXb; have := lt_of_block hb; cases hk; omega)
  · rcases hYn with h | h
    · exact .inl (h ▸ hk)
    · rw [h] at hk; cases hk; right; exact Nat.le_trans hYu.size (Nat.le_of_eq rfl) |> fun _ => hXu.size
end Go.Proofs.YtihlijnobbonbaaGreat
/- Contracts of slices.Clone at three instances. -/
namespace Go.Proofs.YtihlijnobbonbaaGreat
open Go.RowKit
set_option linter.unusedSimpArgs false

theorem infoB : (Tryz.prog.info? 5).map (fun i => (i.zero, i.size, i.bytes)) = some (some (.int .u8 0), 1, 1) := by kernel_rfl
theorem infoK : (Tryz.prog.info? 114).map (fun i => (i.zero, i.size, i.bytes)) = some (some (.agg (bvs zeros512).toArray), 512, 512) := by kernel_rfl


set_option maxRecDepth 100000 in
theorem cloneB_nil (w : World) : Calls Tryz.prog 70 #[.slice none 0 0] w fun e w' => e = .returned (.slice none 0 0) ∧ w = w' := by
  have hq : (binOp .eql 38 (.slice none 0 0) (.slice none 0 0)).run Tryz.prog w = .ok (.bool true) w := Lib.run_eql_slice_nil w _ _ none 0 0 0 0 Tryz.underlying38
  go_enter Tryz.func70, Tryz.ntmps70
  go_wp2_with fail
  go_ret
  exact ⟨rfl, rfl⟩
set_option maxRecDepth 100000 in
theorem cloneB_some (x : Addr) (m c : Nat) (news : List Value) (w : World) (hx : Sees w 1 (.slice (some x) m c) m news) (h1 : ∀ u ∈ news, u.oneCell' = true) (hm : m * 1 ≤ 140737488355328) :
    Calls Tryz.prog 70 #[.slice (some x) m c] w fun e w' => ∃ x' c', e = .returned (.slice (some x') m c') ∧ w'.ownsRow w.heap.size 5 1 (.slice (some x') m c') m news ∧ Upd (fun _ => False) w w' := by
  have hq : (binOp .eql 38 (.slice (some x) m c) (.slice none 0 0)).run Tryz.prog w = .ok (.bool false) w := Lib.run_eql_slice_nil w _ _ (some x) m c 0 0 Tryz.underlying38
  have Hm := Lib.hid hm
  clear hm
  go_enter Tryz.func70, Tryz.ntmps70
  go_wp2_with ((with_reducible apply wpl_append_sees w.heap.size 5 1 1 _ (.slice (some ⟨w.heap.size, 0, none⟩) 0 0) 0 [] m news))
  · exact Tryz.underlying38
  · exact infoB
  · rfl
  · decide
  · rfl
  · exact World.ownsRow_made w #[] 0 (Nat.le_refl _) (Nat.zero_le _) (by simp)
  · exact Sees.upd ((Upd.refl (fun _ => False) w).alloc _) hx (fun _ _ _ h => h)
  · exact h1
  · have := Hm.out; unfold maxLen; omega
  · have := Hm.out; omega
  · simp
  intro x' c' w' hown hg hb
  simp only [Act.put, List.setIfInBounds_toArray, List.set_cons_zero, List.set_cons_succ]
  simp only [Nat.zero_add, List.nil_append] at hown hb ⊢
  obtain ⟨y, rfl⟩ : ∃ y, x' = some y := by
    rcases hb with hb | hb <;> (cases x' with
      | none => simp [Value.ownBlock] at hb
      | some y => exact ⟨y, rfl⟩)
  go_wp2_with fail
  go_ret
  exact ⟨y, c', rfl, hown, ((Upd.refl (fun _ => False) w).alloc _).grown hg (fun k hk => .inr (by simp [Value.ownBlock] at hk; omega))⟩


end Go.Proofs.YtihlijnobbonbaaGreat
/- What came in, as lists of bytes and of truths. -/
namespace Go.Proofs.YtihlijnobbonbaaGreat
open Go.ChangeShapes Go.WideShapes Go.ChangeAt Go.RowKit Go.Deep
set_option linter.unusedSimpArgs false
set_option maxRecDepth 100000

def boolsV (l : List Bool) : List Value := l.map Value.bool

theorem Addr.add_none {x : Addr} {j : Nat} {v : Value} {w : World} (h : w.cell? (x.add j) = some v) (h0 : j = 0 → x.spot = none) : w.cell? ⟨x.block, x.off + j, none⟩ = some v := by
  obtain ⟨b, off, spot⟩ := x
  by_cases hj : j = 0
  · subst hj
    have : spot = none := h0 rfl
    subst this
    simpa [Addr.add] using h
  · simpa [Addr.add, hj] using h

/-- A slice of cells of one kind: what it shows. -/
theorem sees_of_cells {w : World} {a : Addr} {len cap : Nat} {V : Nat → Value} (hm : len ≤ maxLen) (hc : ∀ i, i < len → w.cell? (a.add i) = some (V i)) :
    Sees w 1 (.slice (some a) len cap) len ((List.range len).map V) ∧ (0 < len → a.block < w.heap.size) := by
  refine ⟨⟨by simp, hm, _, _, rfl, fun h0 => ?_⟩, fun h0 => ?_⟩
  · have hs : a.spot = none := by have := hc 0 h0; exact World.cell?_spot (by simpa [Addr.add] using this)
    refine ⟨a.block, a.off, ?_, fun j v hj => ?_⟩
    · obtain ⟨b, o, s⟩ := a; simp at hs; subst hs; rfl
    · have hjl : j < len := by
        rcases Nat.lt_or_ge j len with h | h
        · exact h
        · rw [List.getElem?_eq_none (by simpa using h)] at hj; cases hj
      have := hc j hjl
      simp [hjl] at hj
      subst hj
      exact Addr.add_none this (fun _ => hs)
  · have := hc 0 h0
    exact World.block_lt_of_cell? _ a (by simpa [Addr.add] using this)

section
variable {H : Type} {enc : TypeId × Value → H} {W : World} {base : Nat}

theorem open_bytes {v : Value} {d : DataW H} {p : List MemPlace} (hv : Value.okWide Tryz.prog W .any base 38 v) (h : DataW.Trod enc Tryz.prog W 0 (fun _ => true) true 38 v d p) :
    ∃ (a : Option Addr) (c : Nat) (bs : List UInt8), v = .slice a bs.length c ∧ Sees W 1 (.slice a bs.length c) bs.length (bvs bs) ∧ (∀ x, a = some x → 0 < bs.length → x.block < W.heap.size) ∧
      (d = .nil ∨ ∃ zs, zs.length = bs.length ∧ ∃ sp, d = .slice (lits .u8 zs) sp) := by
  obtain ⟨a0, len, cap, rfl⟩ := okWide_slice Tryz.underlying38 hv
  obtain ⟨fuel, hf⟩ := h
  rcases open_ints Tryz.underlying38 Tryz.underlying5 (by kernel_rfl) hf with ⟨hcs, hx⟩ | ⟨x, l, c, zs, hcs, _, hl, hm, hz, hx, hcell, hwz⟩
  · simp [Value.cells] at hcs
    obtain ⟨rfl, rfl, rfl⟩ := hcs
    simp only [Prod.mk.injEq] at hx
    exact ⟨none, 0, [], rfl, Sees.zero _ _ _ _, (fun x hx => by cases hx), .inl hx.1⟩
  · simp [Value.cells] at hcs
    obtain ⟨rfl, rfl, rfl⟩ := hcs
    have hz' : zs.length = cap := by simpa using hz
    simp only [Prod.mk.injEq] at hx
    have hlen : ((zs.take len).map (fun n => UInt8.ofNat n.toNat)).length = len := by simp; omega
    have hc : ∀ i, i < len → W.cell? (x.add i) = some (.int .u8 (zs.getD i 0)) := fun i hi => hcell i (by omega)
    obtain ⟨h1, h2⟩ := sees_of_cells (cap := cap) (Nat.le_trans hl hm) hc
    have e : (List.range len).map (fun i => Value.int .u8 (zs.getD i 0)) = bvs ((zs.take len).map (fun n => UInt8.ofNat n.toNat)) := by
      apply List.ext_getElem?
      intro i
      by_cases hi : i < len
      · have hiz : i < zs.length := by omega
        have hw := hwz zs[i] (List.getElem_mem hiz)
        have hb := bounds_u8 hw
        simp [bvs, hi, hiz, bv, List.getElem?_take]
        omega
      · rw [List.getElem?_eq_none (by simpa using hi), List.getElem?_eq_none (by rw [bvs_length, hlen]; omega)]
    rw [e] at h1
    exact ⟨some x, cap, _, by rw [hlen], by rw [hlen]; exact h1, (fun y hy h0 => by cases hy; exact h2 (by omega)), .inr ⟨zs.take len, by rw [hlen]; simp; omega, _, hx.1⟩⟩

theorem open_bools {v : Value} {d : DataW H} {p : List MemPlace} (hv : Value.okWide Tryz.prog W .any base 66 v) (h : DataW.Trod enc Tryz.prog W 0 (fun _ => true) true 66 v d p) :
    ∃ (a : Option Addr) (c : Nat) (bs : List Bool), v = .slice a bs.length c ∧ Sees W 1 (.slice a bs.length c) bs.length (boolsV bs) ∧ (∀ x, a = some x → 0 < bs.length → x.block < W.heap.size) := by
  obtain ⟨a0, len, cap, rfl⟩ := okWide_slice Tryz.underlying66 hv
  obtain ⟨fuel, hf⟩ := h
  rcases open_slice1 Tryz.underlying66 (by kernel_rfl) hf with ⟨hcs, _⟩ | ⟨x, l, c, m, n, V, D, Pl, hcs, _, hl, hm, hmm, _, hcell⟩
  · simp [Value.cells] at hcs
    obtain ⟨rfl, rfl, rfl⟩ := hcs
    exact ⟨none, 0, [], rfl, Sees.zero _ _ _ _, fun x hx => by cases hx⟩
  · simp [Value.cells] at hcs
    obtain ⟨rfl, rfl, rfl⟩ := hcs
    have hm' : m = cap := by simpa using hmm
    have hb : ∀ i, i < m → ∃ b, V i = .bool b := fun i hi => by
      obtain ⟨b, hb, _⟩ := DataW.trod_bool Tryz.underlying4 (hcell i hi).2
      exact ⟨b, by simpa using hb⟩
    obtain ⟨f, hf'⟩ := choose_lt hb
    have hc : ∀ i, i < len → W.cell? (x.add i) = some (.bool (f i)) := fun i hi => by rw [(hcell i (by omega)).1, hf' i (by omega)]
    obtain ⟨h1, h2⟩ := sees_of_cells (cap := cap) (Nat.le_trans hl hm) hc
    refine ⟨some x, cap, (List.range len).map f, by simp, ?_, fun y hy h0 => by cases hy; exact h2 (by simpa using h0)⟩
    have e : (List.range len).map (fun i => Value.bool (f i)) = boolsV ((List.range len).map f) := by simp [boolsV]
    rw [e] at h1
    simpa using h1
end
end Go.Proofs.YtihlijnobbonbaaGreat
/- Contracts of package disk: Flush. -/
namespace Go.Proofs.YtihlijnobbonbaaGreat
open Go.RowKit
set_option linter.unusedSimpArgs false
set_option maxRecDepth 100000

theorem secsV_length {l : List Bytes} (h : ∀ x ∈ l, x.length = 512) : (secsV l).length = l.length * 512 := flat_length bvs 512 l (fun x hx => by rw [bvs_length, h x hx])
theorem waitV_length {p : Nat × Bytes} (h : p.2.length = 512) : (waitV p).length = 513 := by simp [waitV, bvs_length, h]
theorem waits_piece {l : List (Nat × Bytes)} (h : ∀ p ∈ l, p.2.length = 512) (k : Nat) (hk : k < l.length) : ((waitsV l).drop (k * 513)).take (waitV l[k]).length = waitV l[k] := by
  rw [waitV_length (h _ (List.getElem_mem hk))]
  exact flat_piece waitV 513 l k hk (fun p hp => waitV_length (h p hp))
theorem secs_piece {l : List Bytes} (h : ∀ x ∈ l, x.length = 512) (k : Nat) (hk : k < l.length) : ((secsV l).drop (k * 512)).take 512 = bvs l[k] :=
  flat_piece bvs 512 l k hk (fun x hx => by rw [bvs_length, h x hx])
theorem sizeK : (Tryz.prog.info? 114).map (·.size) = some 512 := by kernel_rfl

/-- The world in the middle of a loop that writes sectors: what w0 was, but for the sectors' row, that holds s. -/
def SecsR (w0 : World) (b : Nat) (B : Obj) (sb sc : Nat) (s : List Bytes) (wr : World) : Prop :=
  Upd (fun x => x = b ∨ x = sb) w0 wr ∧ wr.heap[b]? = some B ∧ ∃ cur : List Value, wr.heap[sb]? = some (.cells cur.toArray 114 (0, 0)) ∧ cur.length = sc * 512 ∧ cur.take (s.length * 512) = secsV s

theorem SecsR.drew {w0 : World} {b : Nat} {B : Obj} {sb sc : Nat} {s : List Bytes} {wr : World} (h : SecsR w0 b B sb sc s wr) : SecsR w0 b B sb sc s wr.drew := ⟨h.1.drew, h.2⟩
theorem SecsR.store {w0 : World} {b : Nat} {B : Obj} {sb sc : Nat} {s : List Bytes} {wr : World} (h : SecsR w0 b B sb sc s wr) (hb : b ≠ sb) (hsc : s.length ≤ sc) (hs : ∀ x ∈ s, x.length = 512) (i : Nat) (hi : i < s.length) (d : Bytes) (hd : d.length = 512) :
    SecsR w0 b B sb sc (s.set i d) (wr.setCells sb (i * 512) (bvs d)) := by
  obtain ⟨hu, hB, cur, hc, hl, ht⟩ := h
  have hle : s.length * 512 ≤ sc * 512 := Nat.mul_le_mul_right _ hsc
  have hii : i * 512 + 512 ≤ s.length * 512 := by omega
  refine ⟨upd_setCells sb _ _ hu (.inl (.inr rfl)), (heap_setCells_other sb _ _ wr b hb).trans hB, splice cur (i * 512) (bvs d), heap_setCells_same sb _ _ _ cur wr hc (by rw [bvs_length, hd, hl]; omega), ?_, ?_⟩
  · rw [length_splice cur _ _ (by rw [bvs_length, hd, hl]; omega), hl]
  · rw [List.length_set]
    have e : splice (secsV s) (i * 512) (bvs d) = secsV (s.set i d) := flat_set bvs 512 s i d hi (fun x hx => by rw [bvs_length, hs x hx]) (by rw [bvs_length, hd])
    rw [← e, ← ht]
    exact take_splice cur (bvs d) (s.length * 512) (i * 512) (by rw [bvs_length, hd]; exact hii) (by rw [hl]; exact hle)

theorem done_take (s : List Bytes) (ws : List (Nat × Bytes)) (k : Nat) (hk : k < ws.length) : done s (ws.take (k + 1)) = (done s (ws.take k)).set ws[k].1 ws[k].2 := by
  rw [List.take_succ_eq_append_getElem hk, done_append]
  rfl

set_option maxHeartbeats 1000000 in
theorem flush_core (b sb sc : Nat) (xa : Option Addr) (xc : Nat) (S : List Bytes) (W : List (Nat × Bytes)) (f : Int) (cur : List Value) (w : World) (hb : w.heap[b]? = some (.cells #[.slice (some ⟨sb, 0, none⟩) S.length sc, .slice xa W.length xc, .int .i64 f, .bool false] 89 (0, 0)))
    (hwv : w.ownsRow 0 116 513 (.slice xa W.length xc) W.length (waitsV W)) (hc : w.heap[sb]? = some (.cells cur.toArray 114 (0, 0))) (hl : cur.length = sc * 512) (ht : cur.take (S.length * 512) = secsV S) (hsc : S.length ≤ sc)
    (hS : ∀ x ∈ S, x.length = 512) (hW : ∀ p ∈ W, p.1 < S.length ∧ p.2.length = 512) (hbs : b ≠ sb) (hwb : ∀ x, xa = some x → x.block ≠ b ∧ x.block ≠ sb) (hm : W.length < 100000000000) (h1 : 1 ≤ S.length) (h2 : S.length ≤ 4096)
    (hf : f ≠ 0) (hfm : f ≤ 9223372036854775807) :
    Calls Tryz.prog 31 #[.pointer (some ⟨b, 0, none⟩)] w fun e w' => e = .returned (.int .i64 0) ∧
      SecsR w b (.cells #[.slice (some ⟨sb, 0, none⟩) S.length sc, .slice none 0 0, .int .i64 (burnt f), .bool false] 89 (0, 0)) sb sc (done S W) w' := by
  obtain ⟨c0, c1, c2, c3⟩ := four hb
  have hm2 : (W.length : Int) ≤ 100000000000 := by omega
  have Hf := Lib.hid hf
  have HW := Lib.hid hW
  have HS := Lib.hid hS
  have Ht := Lib.hid ht
  have Hl := Lib.hid hl
  have H2 := Lib.hid (And.intro h1 (And.intro h2 hm))
  have hn1 : (0 : Int) < S.length := by omega
  clear hf hm h1 h2 hW hS ht hl
  go_enter Tryz.func31, Tryz.ntmps31
  go_wp2_with (go_at_call 56; refine (check_ok b _ _ _ 0 _ c3 c0 (Int.le_refl _) hn1).mono ?_; rintro e w' ⟨rfl, rfl⟩; dsimp only)
  refine (burn_ok b _ _ _ _ Hf.out hfm hb).mono ?_
  rintro e w1 ⟨rfl, hb1, hu1, hs1⟩
  dsimp only
  obtain ⟨d0, d1, d2, d3⟩ := four hb1
  have Hs := Lib.hid hs1
  have hc1 := hu1.heap hc (fun e => hbs e.symm)
  have hwv1 : w1.ownsRow 0 116 513 (.slice xa W.length xc) W.length (waitsV W) := hu1.row hwv (fun k hk e => by cases xa with | none => cases hk | some x => exact (hwb x rfl).1 (by subst e; simpa [Value.ownBlock] using hk))
  clear c0 c1 c2 c3 hs1 hb hc hwv
  go_wp2_with fail
  go_loopw [19] (fun v wr => ∃ k : Nat, k ≤ W.length ∧ v = .int .i64 k ∧ SecsR w1 b (.cells #[.slice (some ⟨sb, 0, none⟩) S.length sc, .slice xa W.length xc, .int .i64 (burnt f), .bool false] 89 (0, 0)) sb sc (done S (W.take k)) wr)
    (fun v _ => W.length - (intOf v).toNat)
  case atStart => exact ⟨0, Nat.zero_le _, rfl, Upd.refl _ _, hb1, cur, hc1, Hl.out, Ht.out⟩
  case round =>
    obtain ⟨k, hk, rfl, hR⟩ := hrel
    have hRb := hR.2.1
    obtain ⟨r0, r1, r2, r3⟩ := four hRb
    clear d0 d1 d2 d3
    by_cases hlt : k < W.length
    · obtain ⟨g, rfl⟩ : ∃ g, xa = some ⟨g, 0, none⟩ := by
        rcases hwv1.2 with ⟨_, h0⟩ | ⟨g, _, _, h, _⟩
        · omega
        · cases h; exact ⟨g, rfl⟩
      have hgb := hwb _ rfl
      obtain ⟨i, d, hWk⟩ : ∃ i d, W[k] = (i, d) := ⟨_, _, rfl⟩
      have hdt := done_take S W k hlt
      have hpc := waits_piece (fun p hp => (HW.out p hp).2) k hlt
      have hp := HW.out W[k] (List.getElem_mem hlt)
      rw [hWk] at hdt hpc hp
      have hwvr := hR.1.row hwv1 (fun j hj e => by cases hj; rcases e with e | e; exact hgb.1 e; exact hgb.2 e)
      have hrg := row_range hwvr hpc
      have hlt' : (k : Int) < (W.length : Int) := by omega
      have hq1 := hp.1
      have hq1' : (i : Int) < (S.length : Int) := by have := hp.1; omega
      have Hq2 : Hid (d.length = 512) := hp.2
      have Hpl : Hid ((waitV (i, d)).length = 513) := waitV_length hp.2
      have Hdt := Lib.hid hdt
      clear hp hdt hpc hWk
      go_wp2_with (first | ((with_reducible apply wpl_load_mid g (k * 513) (waitV (i, d))); exact rfl; exact hrg; exact Tryz.underlying116; exact rfl; (rw [Hpl.out]; exact sizeW); simp only [Act.put, List.setIfInBounds_toArray, List.set_cons_zero, List.set_cons_succ]) | ((with_reducible apply wpl_store_new); exact rfl; exact rfl; (rw [List.size_toArray, Hpl.out]; exact sizeW); exact Tryz.zeroCells116_size.trans (by rw [List.size_toArray, Hpl.out]); exact waitV_all _ _; simp only [Act.put, List.setIfInBounds_toArray, List.set_cons_zero, List.set_cons_succ]))
      have hXR : SecsR w1 b (.cells #[.slice (some ⟨sb, 0, none⟩) S.length sc, .slice (some ⟨g, 0, none⟩) W.length xc, .int .i64 (burnt f), .bool false] 89 (0, 0)) sb sc (done S (W.take k)) (wr.alloc (.cells (waitV (i, d)).toArray 116)) := by
        obtain ⟨q1, q2, cu, q3, q4⟩ := hR
        exact ⟨q1.alloc _, alloc_heap q2 _, cu, alloc_heap q3 _, q4⟩
      have hXn := heap_alloc_new wr (.cells (waitV (i, d)).toArray 116)
      generalize hX : wr.alloc (.cells (waitV (i, d)).toArray 116) = X at *
      generalize hN : wr.heap.size = N at *
      clear hX hN hR hRb r0 r1 r2 r3 hrg hwvr
      obtain ⟨x0, x1, x2, x3⟩ := four hXR.2.1
      have hr0 : X.rangeAt N 0 (waitV (i, d)) := rangeAt_of_row hXn (by simp)
      have hr1 : X.rangeAt N 1 (bvs d) := rangeAt_of_row hXn (by simp [waitV])
      have hc0 : X.cell? ⟨N, 0, none⟩ = some (.int .i64 i) := rangeAt.cell hr0 0 rfl
      have HS2 : X.drew.cell? ⟨b, 0, none⟩ = some (.slice (some ⟨sb, 0, none⟩) S.length sc) ∧ X.drew.cell? ⟨N, 0, none⟩ = some (.int .i64 i) ∧ X.drew.rangeAt N 1 (bvs d) := ⟨x0, hc0, hr1⟩
      refine wp_region_plan (fun w' => w'.cell? ⟨b, 0, none⟩ = some (.slice (some ⟨sb, 0, none⟩) S.length sc) ∧ w'.cell? ⟨N, 0, none⟩ = some (.int .i64 i) ∧ w'.rangeAt N 1 (bvs d)) 9 [(0, true), (1, true), (2, true), (3, true), (4, true), (5, true), (6, true), (7, true), (8, true), (9, false)] (by kernel_rfl) (by kernel_rfl) (fun d _ _ _ _ h => by cases d <;> exact h) HS2 ?_
      iterate 7 (apply plan_held rfl rfl rfl (by simp) HS2; (intro w' hS K hK; go_simp; exact hK))
      apply plan_held rfl rfl rfl (by simp) HS2
      · intro w' hS K hK
        exact gives_load_mid N 1 rfl _ _ hS.2.2 Tryz.underlying114 rfl (by rw [bvs_length, Hq2.out]; exact sizeK) hK
      simp only [Act.put, List.setIfInBounds_toArray, List.set_cons_zero, List.set_cons_succ]
      (apply plan_held rfl rfl rfl (by simp) HS2; (intro w' hS K hK; go_simp; exact hK))
      refine plan_op rfl rfl (fun K hK => ?_)
      obtain ⟨q1, q2, cu, q3, q4, q5⟩ := id hXR
      have hdl : (done S (W.take k)).length = S.length := done_length _ _
      refine wp_store_mid' sb (i * 512) (bvs d) rfl rfl (there_of_row q3 (by rw [bvs_length, Hq2.out, List.size_toArray, q4]; omega)) (by rw [bvs_length, Hq2.out]; exact sizeK) (bvs_one d) ?_
      refine hK _ _ (fun h => absurd rfl h) ?_
      refine plan_nil ?_
      simp only [Act.put, List.setIfInBounds_toArray, List.set_cons_zero, List.set_cons_succ]
      have hSR := hXR.drew.store hbs (by rw [hdl]; exact hsc) (done_ok HS.out (fun p hp => (HW.out p (List.mem_of_mem_take hp)).2)) i (by rw [hdl]; exact hq1) d Hq2.out
      rw [← Hdt.out] at hSR
      have HSR := Lib.hid hSR
      clear hSR hXR q1 q2 q3 q4 q5
      go_wp2_with fail
      exact ⟨⟨k + 1, by omega, by go_num, HSR.out⟩, by simp [intOf]; omega⟩
    · obtain rfl : k = W.length := by omega
      have fr1 := unfrozen hRb 1
      rw [List.take_length] at hR
      have HR := Lib.hid hR
      clear hR
      go_wp2_with fail
      go_ret
      obtain ⟨q1, q2, cu, q3, q4, q5⟩ := HR.out
      rw [done_length] at q5
      refine ⟨rfl, ?_, ?_, cu, ?_, q4, by rw [done_length]; exact q5⟩
      · exact Upd.setCell ((hu1.mono (fun _ _ h => .inl h)).trans q1) _ (.inl (.inl rfl))
      · rw [stored q2]; rfl
      · rw [heap_setCell_other _ _ _ _ (fun e => hbs e.symm)]; exact q3
end Go.Proofs.YtihlijnobbonbaaGreat
/- Contracts of package disk: Crash. -/
namespace Go.Proofs.YtihlijnobbonbaaGreat
open Go.RowKit
set_option linter.unusedSimpArgs false
set_option maxRecDepth 100000

theorem kept_take (W : List (Nat × Bytes)) (keep : List Bool) (k : Nat) (hk : k < W.length) : kept (W.take (k + 1)) keep = kept (W.take k) keep ++ (if keep.getD k false then [W[k]] else []) := by
  induction W generalizing keep k with
  | nil => simp at hk
  | cons p r ih =>
    cases k with
    | zero =>
      cases keep with
      | nil => simp [kept]
      | cons b ks => cases b <;> simp [kept]
    | succ k =>
      cases keep with
      | nil => simp [kept]
      | cons b ks =>
        have := ih ks k (by simpa using hk)
        simp only [List.take_succ_cons, kept, this, List.getElem_cons_succ, List.getD_cons_succ]
        cases b <;> simp
theorem kept_mem {W : List (Nat × Bytes)} {keep : List Bool} : ∀ p ∈ kept W keep, p ∈ W := by
  induction W generalizing keep with
  | nil => intro p hp; simp [kept] at hp
  | cons q r ih =>
    intro p hp
    cases keep with
    | nil => simp [kept] at hp
    | cons b ks =>
      cases b
      · exact List.mem_cons_of_mem _ (ih p (by simpa [kept] using hp))
      · have : p = q ∨ p ∈ kept r ks := by simpa [kept] using hp
        rcases this with h | h
        · rw [h]; exact List.mem_cons_self ..
        · exact List.mem_cons_of_mem _ (ih p h)


set_option maxHeartbeats 2000000 in
theorem crash_core (b sb sc : Nat) (xa : Option Addr) (xc : Nat) (S : List Bytes) (W : List (Nat × Bytes)) (f : Int) (dd : Bool) (ka : Option Addr) (kc : Nat) (keep : List Bool) (cur : List Value) (w1 : World) (hb1 : w1.heap[b]? = some (.cells #[.slice (some ⟨sb, 0, none⟩) S.length sc, .slice xa W.length xc, .int .i64 f, .bool dd] 89 (0, 0)))
    (hwv1 : w1.ownsRow 0 116 513 (.slice xa W.length xc) W.length (waitsV W)) (hc1 : w1.heap[sb]? = some (.cells cur.toArray 114 (0, 0))) (hl : cur.length = sc * 512) (ht : cur.take (S.length * 512) = secsV S) (hsc : S.length ≤ sc)
    (hS : ∀ x ∈ S, x.length = 512) (hW : ∀ p ∈ W, p.1 < S.length ∧ p.2.length = 512) (hbs : b ≠ sb) (hwb : ∀ x, xa = some x → x.block ≠ b ∧ x.block ≠ sb) (hm : W.length < 100000000000)
    (hke : Sees w1 1 (.slice ka keep.length kc) keep.length (boolsV keep)) (hkb : ∀ x, ka = some x → 0 < keep.length → x.block ≠ b ∧ x.block ≠ sb) :
    Calls Tryz.prog 32 #[.pointer (some ⟨b, 0, none⟩), .slice ka keep.length kc] w1 fun e w' => e = .returned (.tuple #[]) ∧
      SecsR w1 b (.cells #[.slice (some ⟨sb, 0, none⟩) S.length sc, .slice none 0 0, .int .i64 (-1), .bool false] 89 (0, 0)) sb sc (done S (kept W keep)) w' := by
  obtain ⟨c0, c1, c2, c3⟩ := four hb1
  have hm2 : (W.length : Int) ≤ 100000000000 := by omega
  have HW := Lib.hid hW
  have HS := Lib.hid hS
  have Ht := Lib.hid ht
  have Hl := Lib.hid hl
  have Hke := Lib.hid hke
  clear hm hW hS ht hl hke
  go_enter Tryz.func32, Tryz.ntmps32
  go_wp2_with fail
  go_loopw [13] (fun v wr => ∃ k : Nat, k ≤ W.length ∧ v = .int .i64 k ∧ SecsR w1 b (.cells #[.slice (some ⟨sb, 0, none⟩) S.length sc, .slice xa W.length xc, .int .i64 f, .bool dd] 89 (0, 0)) sb sc (done S (kept (W.take k) keep)) wr)
    (fun v _ => W.length - (intOf v).toNat)
  case atStart => exact ⟨0, Nat.zero_le _, rfl, Upd.refl _ _, hb1, cur, hc1, Hl.out, Ht.out⟩
  case round =>
    obtain ⟨k, hk, rfl, hR⟩ := hrel
    have hRb := hR.2.1
    obtain ⟨r0, r1, r2, r3⟩ := four hRb
    clear c0 c1 c2 c3
    by_cases hlt : k < W.length
    · obtain ⟨g, rfl⟩ : ∃ g, xa = some ⟨g, 0, none⟩ := by
        rcases hwv1.2 with ⟨_, h0⟩ | ⟨g, _, _, h, _⟩
        · omega
        · cases h; exact ⟨g, rfl⟩
      have hgb := hwb _ rfl
      obtain ⟨i, d, hWk⟩ : ∃ i d, W[k] = (i, d) := ⟨_, _, rfl⟩
      have hdt := kept_take W keep k hlt
      have hpc := waits_piece (fun p hp => (HW.out p hp).2) k hlt
      have hp := HW.out W[k] (List.getElem_mem hlt)
      rw [hWk] at hdt hpc hp
      have hwvr := hR.1.row hwv1 (fun j hj e => by cases hj; rcases e with e | e; exact hgb.1 e; exact hgb.2 e)
      have hrg := row_range hwvr hpc
      have hlt' : (k : Int) < (W.length : Int) := by omega
      have hq1 := hp.1
      have hq1' : (i : Int) < (S.length : Int) := by have := hp.1; omega
      have Hq2 : Hid (d.length = 512) := hp.2
      have Hpl : Hid ((waitV (i, d)).length = 513) := waitV_length hp.2
      have Hdt := Lib.hid hdt
      clear hp hdt hpc hWk
      -- is it kept?
      have hkeep : (k < keep.length ∧ ∃ kb ko, ka = some ⟨kb, ko, none⟩ ∧ wr.cell? ⟨kb, ko + k, none⟩ = some (.bool (keep.getD k false))) ∨ (¬ k < keep.length ∧ keep.getD k false = false) := by
        by_cases h : k < keep.length
        · refine .inl ⟨h, ?_⟩
          obtain ⟨_, _, xo, _, e, hce⟩ := Hke.out
          obtain ⟨kb, ko, rfl, hr⟩ := hce (by omega)
          · cases e
            refine ⟨kb, ko, rfl, hR.1.cell_some (hr k (.bool (keep.getD k false)) (by simp [boolsV, List.getD, h])) ?_⟩
            have := hkb _ rfl (by omega)
            intro e; rcases e with e | e
            · exact this.1 e
            · exact this.2 e
        · exact .inr ⟨h, by simp [List.getD, List.getElem?_eq_none (Nat.le_of_not_lt h)]⟩
      have hXR : SecsR w1 b (.cells #[.slice (some ⟨sb, 0, none⟩) S.length sc, .slice (some ⟨g, 0, none⟩) W.length xc, .int .i64 f, .bool dd] 89 (0, 0)) sb sc (done S (kept (W.take k) keep)) (wr.alloc (.cells (waitV (i, d)).toArray 116)) := by
        obtain ⟨q1, q2, cu, q3, q4⟩ := hR
        exact ⟨q1.alloc _, alloc_heap q2 _, cu, alloc_heap q3 _, q4⟩
      have hXn := heap_alloc_new wr (.cells (waitV (i, d)).toArray 116)
      have HXR := Lib.hid hXR
      have HXn := Lib.hid hXn
      clear hXR hXn hR hRb
      rcases hkeep with ⟨hkl, kb, ko, rfl, hkc⟩ | ⟨hkl, hkd⟩
      · have hkl' : (k : Int) < (keep.length : Int) := by omega
        generalize hkv : keep.getD k false = kv at hkc
        have hkN : kb < wr.heap.size := World.block_lt_of_cell? _ _ hkc
        cases kv with
        | false =>
          have Hkv := Lib.hid hkv
          clear hkv
          go_wp2_with (first | ((with_reducible apply wpl_load_mid g (k * 513) (waitV (i, d))); exact rfl; exact hrg; exact Tryz.underlying116; exact rfl; (rw [Hpl.out]; exact sizeW); simp only [Act.put, List.setIfInBounds_toArray, List.set_cons_zero, List.set_cons_succ]) | ((with_reducible apply wpl_store_new); exact rfl; exact rfl; (rw [List.size_toArray, Hpl.out]; exact sizeW); exact Tryz.zeroCells116_size.trans (by rw [List.size_toArray, Hpl.out]); exact waitV_all _ _; simp only [Act.put, List.setIfInBounds_toArray, List.set_cons_zero, List.set_cons_succ]))
          have e : kept (W.take (k + 1)) keep = kept (W.take k) keep := by rw [Hdt.out, Hkv.out]; simp
          exact ⟨⟨k + 1, by omega, by go_num, by rw [e]; exact HXR.out⟩, by simp [intOf]; omega⟩
        | true =>
          have Hkv := Lib.hid hkv
          clear hkv
          go_wp2_with (first | ((with_reducible apply wpl_load_mid g (k * 513) (waitV (i, d))); exact rfl; exact hrg; exact Tryz.underlying116; exact rfl; (rw [Hpl.out]; exact sizeW); simp only [Act.put, List.setIfInBounds_toArray, List.set_cons_zero, List.set_cons_succ]) | ((with_reducible apply wpl_store_new); exact rfl; exact rfl; (rw [List.size_toArray, Hpl.out]; exact sizeW); exact Tryz.zeroCells116_size.trans (by rw [List.size_toArray, Hpl.out]); exact waitV_all _ _; simp only [Act.put, List.setIfInBounds_toArray, List.set_cons_zero, List.set_cons_succ]))
          have hXR := HXR.out
          have hXn := HXn.out
          generalize hX : wr.alloc (.cells (waitV (i, d)).toArray 116) = X at *
          generalize hN : wr.heap.size = N at *
          clear hX hN r0 r1 r2 r3 hrg hwvr HXR HXn hkc hkN
          obtain ⟨x0, x1, x2, x3⟩ := four hXR.2.1
          have hr0 : X.rangeAt N 0 (waitV (i, d)) := rangeAt_of_row hXn (by simp)
          have hr1 : X.rangeAt N 1 (bvs d) := rangeAt_of_row hXn (by simp [waitV])
          have hc0 : X.cell? ⟨N, 0, none⟩ = some (.int .i64 i) := rangeAt.cell hr0 0 rfl
          have HS2 : X.drew.cell? ⟨b, 0, none⟩ = some (.slice (some ⟨sb, 0, none⟩) S.length sc) ∧ X.drew.cell? ⟨N, 0, none⟩ = some (.int .i64 i) ∧ X.drew.rangeAt N 1 (bvs d) := ⟨x0, hc0, hr1⟩
          refine wp_region_plan (fun w' => w'.cell? ⟨b, 0, none⟩ = some (.slice (some ⟨sb, 0, none⟩) S.length sc) ∧ w'.cell? ⟨N, 0, none⟩ = some (.int .i64 i) ∧ w'.rangeAt N 1 (bvs d)) 9 [(0, true), (1, true), (2, true), (3, true), (4, true), (5, true), (6, true), (7, true), (8, true), (9, false)] (by kernel_rfl) (by kernel_rfl) (fun d _ _ _ _ h => by cases d <;> exact h) HS2 ?_
          iterate 7 (apply plan_held rfl rfl rfl (by simp) HS2; (intro w' hS K hK; go_simp; exact hK))
          apply plan_held rfl rfl rfl (by simp) HS2
          · intro w' hS K hK
            exact gives_load_mid N 1 rfl _ _ hS.2.2 Tryz.underlying114 rfl (by rw [bvs_length, Hq2.out]; exact sizeK) hK
          simp only [Act.put, List.setIfInBounds_toArray, List.set_cons_zero, List.set_cons_succ]
          (apply plan_held rfl rfl rfl (by simp) HS2; (intro w' hS K hK; go_simp; exact hK))
          refine plan_op rfl rfl (fun K hK => ?_)
          obtain ⟨q1, q2, cu, q3, q4, q5⟩ := id hXR
          have hdl : (done S (kept (W.take k) keep)).length = S.length := done_length _ _
          refine wp_store_mid' sb (i * 512) (bvs d) rfl rfl (there_of_row q3 (by rw [bvs_length, Hq2.out, List.size_toArray, q4]; omega)) (by rw [bvs_length, Hq2.out]; exact sizeK) (bvs_one d) ?_
          refine hK _ _ (fun h => absurd rfl h) ?_
          refine plan_nil ?_
          simp only [Act.put, List.setIfInBounds_toArray, List.set_cons_zero, List.set_cons_succ]
          have hSR := hXR.drew.store hbs (by rw [hdl]; exact hsc) (done_ok HS.out (fun p hp => (HW.out p (List.mem_of_mem_take (kept_mem p hp))).2)) i (by rw [hdl]; exact hq1) d Hq2.out
          have e : done S (kept (W.take (k + 1)) keep) = (done S (kept (W.take k) keep)).set i d := by rw [Hdt.out, Hkv.out, done_append]; rfl
          rw [← e] at hSR
          have HSR := Lib.hid hSR
          clear hSR hXR q1 q2 q3 q4 q5 e
          go_wp2_with fail
          exact ⟨⟨k + 1, by omega, by go_num, HSR.out⟩, by simp [intOf]; omega⟩
      · have hkl' : (keep.length : Int) ≤ (k : Int) := by omega
        have Hkv := Lib.hid hkd
        clear hkd
        go_wp2_with (first | ((with_reducible apply wpl_load_mid g (k * 513) (waitV (i, d))); exact rfl; exact hrg; exact Tryz.underlying116; exact rfl; (rw [Hpl.out]; exact sizeW); simp only [Act.put, List.setIfInBounds_toArray, List.set_cons_zero, List.set_cons_succ]) | ((with_reducible apply wpl_store_new); exact rfl; exact rfl; (rw [List.size_toArray, Hpl.out]; exact sizeW); exact Tryz.zeroCells116_size.trans (by rw [List.size_toArray, Hpl.out]); exact waitV_all _ _; simp only [Act.put, List.setIfInBounds_toArray, List.set_cons_zero, List.set_cons_succ]))
        have e : kept (W.take (k + 1)) keep = kept (W.take k) keep := by rw [Hdt.out, Hkv.out]; simp
        exact ⟨⟨k + 1, by omega, by go_num, by rw [e]; exact HXR.out⟩, by simp [intOf]; omega⟩
    · obtain rfl : k = W.length := by omega
      have fr1 := unfrozen hRb 1
      have fr2 := unfrozen hRb 2
      have fr3 := unfrozen hRb 3
      rw [List.take_length] at hR
      have HR := Lib.hid hR
      clear hR
      go_wp2_with fail
      go_end0
      obtain ⟨q1, q2, cu, q3, q4, q5⟩ := HR.out
      rw [done_length] at q5
      refine ⟨rfl, ?_, ?_, cu, ?_, q4, by rw [done_length]; exact q5⟩
      · exact ((q1.setCell _ (.inl (.inl rfl))).setCell _ (.inl (.inl rfl))).setCell _ (.inl (.inl rfl))
      · rw [stored (stored (stored q2 1 _) 2 _) 3 _]; rfl
      · rw [heap_setCell_other _ _ _ _ (fun e => hbs e.symm), heap_setCell_other _ _ _ _ (fun e => hbs e.symm), heap_setCell_other _ _ _ _ (fun e => hbs e.symm)]; exact q3
end Go.Proofs.YtihlijnobbonbaaGreat
/- Contracts of package disk: Read, Durable. -/
namespace Go.Proofs.YtihlijnobbonbaaGreat
open Go.RowKit
set_option linter.unusedSimpArgs false
set_option maxRecDepth 100000

theorem lastOf_none (ws : List (Nat × Bytes)) (i : Nat) (was : Bytes) (h : ∀ p ∈ ws, p.1 ≠ i) : lastOf ws i was = was := by
  induction ws generalizing was with
  | nil => rfl
  | cons p r ih =>
    rw [lastOf, List.foldl_cons, if_neg (h p (List.mem_cons_self ..))]
    exact ih _ (fun q hq => h q (List.mem_cons_of_mem _ hq))
theorem lastOf_append (a b : List (Nat × Bytes)) (i : Nat) (was : Bytes) : lastOf (a ++ b) i was = lastOf b i (lastOf a i was) := by simp [lastOf]
theorem lastOf_hit (ws : List (Nat × Bytes)) (i : Nat) (was : Bytes) (k : Nat) (hk : k < ws.length) (he : ws[k].1 = i) (h : ∀ j (hj : j < ws.length), k < j → ws[j].1 ≠ i) : lastOf ws i was = ws[k].2 := by
  have e : ws = ws.take k ++ ws[k] :: ws.drop (k + 1) := by rw [← List.drop_eq_getElem_cons hk, List.take_append_drop]
  have e2 : lastOf ws i was = lastOf (ws.take k ++ ws[k] :: ws.drop (k + 1)) i was := congrArg (fun l => lastOf l i was) e
  rw [e2, lastOf_append, lastOf, List.foldl_cons, if_pos he]
  refine (lastOf_none _ i _ fun p hp => ?_).trans (by simp)
  obtain ⟨j, hj, rfl⟩ := List.getElem_of_mem hp
  simp only [List.length_drop] at hj
  rw [List.getElem_drop]
  exact h _ (by omega) (by omega)

set_option maxHeartbeats 2000000 in
theorem read_core (b sb sc : Nat) (xa : Option Addr) (xc : Nat) (S : List Bytes) (W : List (Nat × Bytes)) (f : Int) (cur : List Value) (i : Nat) (w : World) (hb : w.heap[b]? = some (.cells #[.slice (some ⟨sb, 0, none⟩) S.length sc, .slice xa W.length xc, .int .i64 f, .bool false] 89 (0, 0)))
    (hwv : w.ownsRow 0 116 513 (.slice xa W.length xc) W.length (waitsV W)) (hc : w.heap[sb]? = some (.cells cur.toArray 114 (0, 0))) (hl : cur.length = sc * 512) (ht : cur.take (S.length * 512) = secsV S) (hsc : S.length ≤ sc)
    (hS : ∀ x ∈ S, x.length = 512) (hW : ∀ p ∈ W, p.1 < S.length ∧ p.2.length = 512) (hm : W.length < 100000000000) (hi : i < S.length) :
    Calls Tryz.prog 53 #[.pointer (some ⟨b, 0, none⟩), .int .i64 i] w fun e w' => ∃ x' c', e = .returned (.tuple #[.slice (some x') 512 c', .int .i64 0]) ∧
      w'.ownsRow w.heap.size 5 1 (.slice (some x') 512 c') 512 (bvs (lastOf W i (S.getD i []))) ∧ Upd (fun _ => False) w w' := by
  obtain ⟨c0, c1, c2, c3⟩ := four hb
  have hm2 : (W.length : Int) ≤ 100000000000 := by omega
  have hi0 : (0 : Int) ≤ (i : Int) := by omega
  have hi1 : (i : Int) < (S.length : Int) := by omega
  have HW := Lib.hid hW
  have hSi : S[i].length = 512 := hS _ (List.getElem_mem hi)
  have hlS : (secsV S).length = S.length * 512 := secsV_length hS
  have hrS : w.rangeAt sb (i * 512) (bvs S[i]) := rangeAt_of_row hc (by
    have h1 := secs_piece hS i hi
    rw [bvs_length, hSi, ← h1, ← ht, List.drop_take, List.take_take, Nat.min_eq_left (by omega)])
  have Hg : Hid (S.getD i [] = S[i]) := by simp [List.getD, hi, Hid]
  have HSi := Lib.hid hSi
  clear hm hW hS hl ht hSi hlS
  go_enter Tryz.func53, Tryz.ntmps53
  go_wp2_with (go_at_call 56; refine (check_ok b _ _ _ i _ c3 c0 hi0 hi1).mono ?_; rintro e w' ⟨rfl, rfl⟩; dsimp only)
  go_loop [7] (fun v => ∃ j : Nat, j ≤ W.length ∧ v = .int .i64 ((j : Int) - 1) ∧ Hid (∀ t (ht : t < W.length), j ≤ t → W[t].1 ≠ i))
    (fun v => (intOf v + 1).toNat)
  case atStart => exact ⟨W.length, Nat.le_refl _, rfl, fun t ht hj => by omega⟩
  case round =>
    obtain ⟨j, hj, rfl, hR⟩ := hrel
    by_cases h0 : j = 0
    · subst h0
      have hneg : decide ((0 : Int) ≤ ((0 : Nat) : Int) - 1) = false := by decide
      go_wp2_with fail
      refine (cloneB_some ⟨sb, i * 512, none⟩ 512 512 (bvs S[i]) _ (Sees.at (by rw [bvs_length, HSi.out]) (by decide) hrS) (bvs_one _) (by decide)).mono ?_
      rintro e w' ⟨x', c', rfl, hown, hu⟩
      dsimp only
      go_wp2_with fail
      go_ret2
      refine ⟨x', c', rfl, ?_, hu⟩
      rw [lastOf_none W i _ (fun p hp => by obtain ⟨t, ht, rfl⟩ := List.getElem_of_mem hp; exact hR.out t ht (Nat.zero_le _)), Hg.out]
      exact hown
    · obtain ⟨k, rfl⟩ : ∃ k, j = k + 1 := ⟨j - 1, by omega⟩
      have hlt : k < W.length := by omega
      obtain ⟨g, rfl⟩ : ∃ g, xa = some ⟨g, 0, none⟩ := by
        rcases hwv.2 with ⟨_, h0⟩ | ⟨g, _, _, h, _⟩
        · omega
        · cases h; exact ⟨g, rfl⟩
      have hpc := waits_piece (fun p hp => (HW.out p hp).2) k hlt
      have hrg := row_range hwv hpc
      have hp := HW.out W[k] (List.getElem_mem hlt)
      obtain ⟨q, d, hWk⟩ : ∃ q d, W[k] = (q, d) := ⟨_, _, rfl⟩
      rw [hWk] at hrg hp
      have hc0 : w.cell? ⟨g, k * 513, none⟩ = some (.int .i64 q) := rangeAt.cell hrg 0 rfl
      have hr1 : w.rangeAt g (k * 513 + 1) (bvs d) := rangeAt.sub hrg 1 (by simp [waitV])
      have hlt' : (k : Int) < (W.length : Int) := by omega
      have hk0 : (0 : Int) ≤ (k : Int) := by omega
      have e1 : ((k + 1 : Nat) : Int) - 1 = (k : Int) := by omega
      have Hd := Lib.hid hp.2
      have HWk := Lib.hid hWk
      clear hpc hp hWk hrg
      rw [e1]
      clear e1
      by_cases hq : q = i
      · subst hq
        go_wp2_with fail
        refine (cloneB_some ⟨g, k * 513 + 1, none⟩ 512 512 (bvs d) _ (Sees.at (by rw [bvs_length, Hd.out]) (by decide) hr1) (bvs_one _) (by decide)).mono ?_
        rintro e w' ⟨x', c', rfl, hown, hu⟩
        dsimp only
        go_wp2_with fail
        go_ret2
        refine ⟨x', c', rfl, ?_, hu⟩
        rw [lastOf_hit W q _ k hlt (by rw [HWk.out]) (fun t ht hkt => hR.out t ht hkt), HWk.out]
        exact hown
      · have hne : ((q : Int) == (i : Int)) = false := by simp; omega
        have Hq := Lib.hid hq
        clear hq
        go_wp2_with fail
        refine ⟨⟨k, by omega, rfl, fun t ht hkt => ?_⟩, by simp [intOf]⟩
        by_cases h : t = k
        · subst h; rw [HWk.out]; exact Hq.out
        · exact hR.out t ht (by omega)

/-- A read that is refused. -/
theorem read_err (b : Nat) (i r : Int) (w : World) (hr : (r != 0) = true) (hc : Calls Tryz.prog 56 #[.pointer (some ⟨b, 0, none⟩), .int .i64 i] w fun e w' => e = .returned (.int .i64 r) ∧ w = w') :
    Calls Tryz.prog 53 #[.pointer (some ⟨b, 0, none⟩), .int .i64 i] w fun e w' => e = .returned (.tuple #[.slice none 0 0, .int .i64 r]) ∧ w = w' := by
  have Hc := Lib.hid hc
  clear hc
  go_enter Tryz.func53, Tryz.ntmps53
  go_wp2_with fail
  refine Hc.out.mono ?_
  rintro e w' ⟨rfl, rfl⟩
  dsimp only
  go_wp2_with fail
  go_ret2
  exact ⟨rfl, rfl⟩
theorem write_err (b : Nat) (i r : Int) (v : Value) (w : World) (hr : (r != 0) = true) (hc : Calls Tryz.prog 56 #[.pointer (some ⟨b, 0, none⟩), .int .i64 i] w fun e w' => e = .returned (.int .i64 r) ∧ w = w') :
    Calls Tryz.prog 38 #[.pointer (some ⟨b, 0, none⟩), .int .i64 i, v] w fun e w' => e = .returned (.int .i64 r) ∧ w = w' := by
  have Hc := Lib.hid hc
  clear hc
  go_enter Tryz.func38, Tryz.ntmps38
  go_wp2_with fail
  refine Hc.out.mono ?_
  rintro e w' ⟨rfl, rfl⟩
  dsimp only
  go_wp2_with fail
  go_ret
  exact ⟨rfl, rfl⟩
theorem write_long (b : Nat) (i : Int) (da : Option Addr) (n dc : Nat) (w : World) (hn : (512 : Int) < (n : Int)) (hc : Calls Tryz.prog 56 #[.pointer (some ⟨b, 0, none⟩), .int .i64 i] w fun e w' => e = .returned (.int .i64 0) ∧ w = w') :
    Calls Tryz.prog 38 #[.pointer (some ⟨b, 0, none⟩), .int .i64 i, .slice da n dc] w fun e w' => e = .returned (.int .i64 1) ∧ w = w' := by
  have Hc := Lib.hid hc
  clear hc
  go_enter Tryz.func38, Tryz.ntmps38
  go_wp2_with fail
  refine Hc.out.mono ?_
  rintro e w' ⟨rfl, rfl⟩
  dsimp only
  go_wp2_with fail
  go_ret
  exact ⟨rfl, rfl⟩
theorem write_die (b : Nat) (i : Int) (da : Option Addr) (n dc : Nat) (sv wv : Value) (f : Int) (w : World) (hf : f = 0) (hb : w.heap[b]? = some (.cells #[sv, wv, .int .i64 f, .bool false] 89 (0, 0))) (hn : (n : Int) ≤ (512 : Int)) (hc : Calls Tryz.prog 56 #[.pointer (some ⟨b, 0, none⟩), .int .i64 i] w fun e w' => e = .returned (.int .i64 0) ∧ w = w') :
    Calls Tryz.prog 38 #[.pointer (some ⟨b, 0, none⟩), .int .i64 i, .slice da n dc] w fun e w' => e = .returned (.int .i64 10) ∧ w' = w.setCell ⟨b, 3, none⟩ (.bool true) := by
  have Hc := Lib.hid hc
  have Hf := Lib.hid hf
  clear hc hf
  go_enter Tryz.func38, Tryz.ntmps38
  go_wp2_with fail
  refine Hc.out.mono ?_
  rintro e w' ⟨rfl, rfl⟩
  dsimp only
  go_wp2_with fail
  refine (burn_die b _ _ _ _ _ Hf.out hb).mono ?_
  rintro e w' ⟨rfl, rfl⟩
  dsimp only
  go_wp2_with fail
  go_ret
  exact ⟨rfl, rfl⟩
theorem flush_err (b : Nat) (r : Int) (w : World) (hr : (r != 0) = true) (hc : Calls Tryz.prog 56 #[.pointer (some ⟨b, 0, none⟩), .int .i64 0] w fun e w' => e = .returned (.int .i64 r) ∧ w = w') :
    Calls Tryz.prog 31 #[.pointer (some ⟨b, 0, none⟩)] w fun e w' => e = .returned (.int .i64 r) ∧ w = w' := by
  have Hc := Lib.hid hc
  clear hc
  go_enter Tryz.func31, Tryz.ntmps31
  go_wp2_with fail
  refine Hc.out.mono ?_
  rintro e w' ⟨rfl, rfl⟩
  dsimp only
  go_wp2_with fail
  go_ret
  exact ⟨rfl, rfl⟩
theorem flush_die (b : Nat) (sv wv : Value) (f : Int) (w : World) (hf : f = 0) (hb : w.heap[b]? = some (.cells #[sv, wv, .int .i64 f, .bool false] 89 (0, 0))) (hc : Calls Tryz.prog 56 #[.pointer (some ⟨b, 0, none⟩), .int .i64 0] w fun e w' => e = .returned (.int .i64 0) ∧ w = w') :
    Calls Tryz.prog 31 #[.pointer (some ⟨b, 0, none⟩)] w fun e w' => e = .returned (.int .i64 10) ∧ w' = w.setCell ⟨b, 3, none⟩ (.bool true) := by
  have Hc := Lib.hid hc
  have Hf := Lib.hid hf
  clear hc hf
  go_enter Tryz.func31, Tryz.ntmps31
  go_wp2_with fail
  refine Hc.out.mono ?_
  rintro e w' ⟨rfl, rfl⟩
  dsimp only
  go_wp2_with fail
  refine (burn_die b _ _ _ _ _ Hf.out hb).mono ?_
  rintro e w' ⟨rfl, rfl⟩
  dsimp only
  go_wp2_with fail
  go_ret
  exact ⟨rfl, rfl⟩
end Go.Proofs.YtihlijnobbonbaaGreat
/- Contracts of package disk: New, Size, Pending, Fuel, Dead, Clone. -/
namespace Go.Proofs.YtihlijnobbonbaaGreat
open Go.RowKit
set_option linter.unusedSimpArgs false
set_option maxRecDepth 100000

theorem size_ok (b n c : Nat) (sa : Option Addr) (w : World) (h0 : w.cell? ⟨b, 0, none⟩ = some (.slice sa n c)) :
    Calls Tryz.prog 28 #[.pointer (some ⟨b, 0, none⟩)] w fun e w' => e = .returned (.int .i64 n) ∧ w = w' := by
  go_enter Tryz.func28, Tryz.ntmps28
  go_wp2_with fail
  go_ret
  exact ⟨rfl, rfl⟩
theorem dead_ok (b : Nat) (d : Bool) (w : World) (h0 : w.cell? ⟨b, 3, none⟩ = some (.bool d)) :
    Calls Tryz.prog 36 #[.pointer (some ⟨b, 0, none⟩)] w fun e w' => e = .returned (.bool d) ∧ w = w' := by
  go_enter Tryz.func36, Tryz.ntmps36
  go_wp2_with fail
  go_ret
  exact ⟨by simp, rfl⟩
theorem fuel_ok (b : Nat) (n : Int) (sv wv f d : Value) (w : World) (hb : w.heap[b]? = some (.cells #[sv, wv, f, d] 89 (0, 0))) :
    Calls Tryz.prog 30 #[.pointer (some ⟨b, 0, none⟩), .int .i64 n] w fun e w' => e = .returned (.tuple #[]) ∧ w' = w.setCell ⟨b, 2, none⟩ (.int .i64 (max n (-1))) := by
  obtain ⟨c0, c1, c2, c3⟩ := four hb
  have u2 := unfrozen hb 2
  go_enter Tryz.func30, Tryz.ntmps30
  go_wp2_with fail
  · go_end0
    exact ⟨rfl, by rw [show max n (-1) = -1 by omega]⟩
  · go_end0
    exact ⟨rfl, by rw [show max n (-1) = n by omega]⟩
theorem mk_secs (N : Int) (h0 : 0 ≤ N) (h1 : N ≤ 4096) (u : World) : (Instr.makeSlice 86 (.int .i64 N) (.int .i64 N)).run Tryz.prog u =
    .ok (.slice (some ⟨u.heap.size, 0, none⟩) N.toNat N.toNat) (u.alloc (.cells (madeCells (bvs zeros512).toArray (N.toNat * 512)) 114)) := by
  obtain ⟨i, hi, hz0, hz1, hz2⟩ := info_parts infoK
  have h := run_make (P := Tryz.prog) u 86 114 i _ Tryz.underlying86 hi hz0 .i64 .i64 N N h0 (Int.le_refl _) (by rw [hz2]; omega) (by omega)
  rw [hz1] at h
  exact h
theorem madeCells_flat (z : List Value) : ∀ (n : Nat), (madeCells z.toArray (n * z.length)).toList = (List.replicate n z).flatten := by
  intro n
  apply List.ext_getElem?
  intro k
  by_cases hz : z.length = 0
  · have : z = [] := List.eq_nil_of_length_eq_zero hz
    subst this
    simp [madeCells]
  · have hl : ((List.replicate n z).flatten).length = n * z.length := by simp
    by_cases hk : k < n * z.length
    · have h1 : (List.replicate n z).flatMap (fun x => x) = (List.replicate n z).flatten := by simp [List.flatMap]
      have hq : k / z.length < n := by rw [Nat.div_lt_iff_lt_mul (by omega)]; exact hk
      have h2 := flat_piece (fun x : List Value => x) z.length (List.replicate n z) (k / z.length) (by simpa using hq) (fun x hx => by rw [List.eq_of_mem_replicate hx])
      rw [h1] at h2
      simp only [List.getElem_replicate] at h2
      have hm : k % z.length < z.length := Nat.mod_lt _ (by omega)
      have h3 : ((List.replicate n z).flatten)[k]? = z[k % z.length]? := by
        rw [← h2, List.getElem?_take, if_pos (by rw [h2]; exact hm), List.getElem?_drop, h2]
        congr 1
        rw [Nat.mul_comm]; exact (Nat.div_add_mod k z.length).symm
      rw [h3]
      simp [madeCells, hk, hm]
    · rw [List.getElem?_eq_none (by simp [madeCells]; omega), List.getElem?_eq_none (by rw [hl]; omega)]
theorem secs_new (n : Nat) : (madeCells (bvs zeros512).toArray (n * 512)).toList = secsV (List.replicate n zeros512) := by
  have h := madeCells_flat (bvs zeros512) n
  rw [bvs_length, zeros512_length] at h
  rw [h, secsV, List.flatMap, List.map_replicate]
theorem new_core (n : Int) (w : World) (N : Nat) (hN : (N : Int) = min (max n 1) 4096) :
    Calls Tryz.prog 12 #[.int .i64 n] w fun e w' => e = .returned (.pointer (some ⟨w.heap.size + 1, 0, none⟩)) ∧
      w' = (w.alloc (.cells (madeCells (bvs zeros512).toArray (N * 512)) 114)).alloc (.cells #[.slice (some ⟨w.heap.size, 0, none⟩) N N, .slice none 0 0, .int .i64 (-1), .bool false] 89) := by
  by_cases h : n < 1
  · obtain rfl : N = 1 := by omega
    have hmk := mk_secs 1 (by decide) (by decide) w
    go_enter Tryz.func12, Tryz.ntmps12
    go_wp2_with fail
    go_ret
    exact ⟨rfl, rfl⟩
  · by_cases h2 : 4096 < n
    · obtain rfl : N = 4096 := by omega
      have hmk := mk_secs 4096 (by decide) (by decide) w
      go_enter Tryz.func12, Tryz.ntmps12
      go_wp2_with fail
      go_ret
      exact ⟨rfl, rfl⟩
    · obtain rfl : n = N := by omega
      have hmk := mk_secs N (by omega) (by omega) w
      clear hN
      have e : (N : Int).toNat = N := by omega
      rw [e] at hmk
      clear e
      go_enter Tryz.func12, Tryz.ntmps12
      go_wp2_with fail
      go_ret
      exact ⟨rfl, rfl⟩

/-! ### The disk as its callers see it -/
theorem new_disk (n : Int) (w : World) :
    Calls Tryz.prog 12 #[.int .i64 n] w fun e w' => ∃ b F, e = .returned (.pointer (some ⟨b, 0, none⟩)) ∧ DiskAt w' b (DSt.new n) F ∧ Upd (fun _ => False) w w' ∧ (∀ k, F k → w.heap.size ≤ k) := by
  obtain ⟨N, hN⟩ : ∃ N : Nat, (N : Int) = min (max n 1) 4096 := ⟨(min (max n 1) 4096).toNat, by omega⟩
  have e : (min (max n 1) 4096).toNat = N := by omega
  have e2 : (DSt.new n).secs.length = N := by rw [DSt.new, e, List.length_replicate]
  refine (new_core n w N hN).mono ?_
  rintro e' w' ⟨rfl, rfl⟩
  refine ⟨_, fun k => w.heap.size ≤ k ∧ k < w.heap.size + 2, rfl, ⟨⟨?_, ?_, ?_, ?_, ?_, ?_⟩, ?_, ?_, w.heap.size, N, madeCells (bvs zeros512).toArray (N * 512), .slice none 0 0, ?_, ⟨?_, ?_, ?_, ?_, ?_⟩, ?_, ?_, ?_, ?_⟩, ?_, ?_⟩
  · rw [e2]; omega
  · rw [e2]; omega
  · intro x hx
    rw [DSt.new] at hx
    rw [List.eq_of_mem_replicate hx, zeros512_length]
  · intro p hp; cases hp
  · show (-1 : Int) ≤ -1; omega
  · show (-1 : Int) ≤ 9223372036854775807; omega
  · exact ⟨by omega, by omega⟩
  · intro k hk; simp; omega
  · rw [e2]
    have h := heap_alloc_new (w.alloc (.cells (madeCells (bvs zeros512).toArray (N * 512)) 114)) (.cells #[.slice (some ⟨w.heap.size, 0, none⟩) N N, .slice none 0 0, .int .i64 (-1), .bool false] 89)
    rw [World.size_alloc] at h
    exact h
  · exact alloc_heap (heap_alloc_new w _) _
  · rw [e2]; exact Nat.le_refl _
  · unfold maxLen; omega
  · simp [madeCells]
  · rw [e2, DSt.new, e, secs_new]
    exact List.take_of_length_le (by rw [secsV_length (fun x hx => by rw [List.eq_of_mem_replicate hx, zeros512_length]), List.length_replicate]; exact Nat.le_refl _)
  · exact World.ownsRow_nil _ _ _ _
  · exact ⟨by omega, by omega⟩
  · omega
  · intro k hk; cases hk
  · exact ((Upd.refl _ _).alloc _).alloc _
  · intro k hk; exact hk.1

/-- What a caller must show of a slice that it hands in. -/
theorem write_disk {w : World} {b : Nat} {D : DSt} {F : Nat → Prop} (hD : DiskAt w b D F) (i : Int) (da : Option Addr) (dc : Nat) (data : Bytes) (hdv : Sees w 1 (.slice da data.length dc) data.length (bvs data)) (hdF : ∀ x, da = some x → 0 < data.length → ¬ F x.block) (hm : D.waits.length < 100000000000)
    {D' : DSt} {r : Int} (hr : D.write i data = (D', r)) :
    Calls Tryz.prog 38 #[.pointer (some ⟨b, 0, none⟩), .int .i64 i, .slice da data.length dc] w fun e w' => e = .returned (.int .i64 r) ∧
      ∃ F', DiskAt w' b D' F' ∧ Upd F w w' ∧ (∀ k, F' k → F k ∨ w.heap.size ≤ k) := by
  obtain ⟨hOk, hFb, hFlt, sb, sc, scur, wv, hb, hs, hwv, hFs, hbs, hFw⟩ := id hD
  obtain ⟨c0, c1, c2, c3⟩ := four hb
  have same : Calls Tryz.prog 38 #[.pointer (some ⟨b, 0, none⟩), .int .i64 i, .slice da data.length dc] w (fun e w' => e = .returned (.int .i64 r) ∧ w = w') → D' = D → Calls Tryz.prog 38 #[.pointer (some ⟨b, 0, none⟩), .int .i64 i, .slice da data.length dc] w fun e w' => e = .returned (.int .i64 r) ∧
      ∃ F', DiskAt w' b D' F' ∧ Upd F w w' ∧ (∀ k, F' k → F k ∨ w.heap.size ≤ k) := fun h e => by
    refine h.mono ?_
    rintro e' w' ⟨rfl, rfl⟩
    exact ⟨rfl, F, by rw [e]; exact hD, Upd.refl _ _, fun k hk => .inl hk⟩
  by_cases hd : D.dead = true
  · rw [DSt.write, if_pos hd] at hr
    cases hr
    rw [hd] at c3
    exact same (write_err b i 10 _ w rfl (check_dead b i w c3)) rfl
  · have hd' : D.dead = false := by simpa using hd
    rw [hd'] at c3 hb
    rw [DSt.write, if_neg hd] at hr
    by_cases hi : i < 0 ∨ (D.secs.length : Int) ≤ i
    · rw [if_pos hi] at hr
      cases hr
      rcases hi with hi | hi
      · exact same (write_err b i 1 _ w rfl (check_neg b i w c3 hi)) rfl
      · exact same (write_err b i 1 _ w rfl (check_big b _ _ _ i w c3 c0 (by omega) hi)) rfl
    · rw [if_neg hi] at hr
      have hchk := check_ok b _ _ _ i w c3 c0 (by omega) (by omega)
      by_cases hl : 512 < data.length
      · rw [if_pos hl] at hr
        cases hr
        exact same (write_long b i da _ dc w (by omega) hchk) rfl
      · rw [if_neg hl] at hr
        by_cases hf : D.fuel = 0
        · rw [if_pos hf] at hr
          cases hr
          refine (write_die b i da _ dc _ _ _ w hf hb (by omega) hchk).mono ?_
          rintro e' w' ⟨rfl, rfl⟩
          refine ⟨rfl, F, ⟨⟨hOk.one, hOk.most, hOk.secs, hOk.waits, hOk.fuel, hOk.fuelMax⟩, hFb, by simpa using hFlt, sb, sc, scur, wv, by rw [stored hb]; rfl, ⟨by rw [heap_setCell_other _ _ _ _ (fun e => hbs e.symm)]; exact hs.1, hs.2⟩, ?_, hFs, hbs, hFw⟩, (Upd.refl _ _).setCell _ (.inl hFb), fun k hk => .inl hk⟩
          exact Upd.row ((Upd.refl (fun k => k = b) w).setCell _ (.inl rfl)) hwv (fun k hk e => (hFw k hk).2.1 e)
        · rw [if_neg hf] at hr
          cases hr
          obtain ⟨j, rfl⟩ : ∃ j : Nat, i = j := ⟨i.toNat, by omega⟩
          refine (write_core b wv _ _ sc _ _ _ w hb hwv hm j da dc data hdv (fun x hx h0 e => hdF x hx h0 (by rw [e]; exact hFb)) (fun e => (hFw b e).2.1 rfl) (by omega) (by omega) (by omega) hf hOk.fuelMax).mono ?_
          rintro e' w' ⟨rfl, nv, h1, h2, h3, h4⟩
          have hlen : (D.waits ++ [((j : Int).toNat, pad data)]).length = D.waits.length + 1 := by simp
          have hval : waitsV (D.waits ++ [((j : Int).toNat, pad data)]) = waitsV D.waits ++ (.int .i64 j :: bvs (pad data)) := by
            rw [waitsV, List.flatMap_append]; simp [waitsV, waitV]
          have hFu : Upd F w w' := h3.mono (fun k hk h => by
            rcases h with h | h
            · rw [h]; exact hFb
            · exact (hFw k h).1)
          refine ⟨rfl, fun k => (F k ∨ w.heap.size ≤ k) ∧ k < w'.heap.size, ⟨⟨hOk.one, hOk.most, hOk.secs, ?_, ?_, ?_⟩, ⟨.inl hFb, lt_of_block h1⟩, fun k hk => hk.2, sb, sc, scur, nv, by rw [h1, hd'], ⟨?_, hs.2⟩, ?_, ⟨.inl hFs, ?_⟩, hbs, ?_⟩, hFu, fun k hk => hk.1⟩
          · intro p hp
            rcases List.mem_append.1 hp with hp | hp
            · exact hOk.waits p hp
            · simp at hp; subst hp; exact ⟨by simp; omega, pad_length (by omega)⟩
          · have := hOk.fuel; show -1 ≤ burnt D.fuel; unfold burnt; split <;> omega
          · have := hOk.fuelMax; show burnt D.fuel ≤ 9223372036854775807; unfold burnt; split <;> omega
          · exact h3.heap hs.1 (fun h => by rcases h with h | h; exact hbs h.symm; exact (hFw sb h).2.2 rfl)
          · rw [hlen, hval]; exact h2
          · exact Nat.lt_of_lt_of_le (lt_of_block hs.1) h3.size
          · intro k hk
            have hklt := (h2.lt k hk).2
            refine ⟨⟨?_, hklt⟩, ?_, ?_⟩
            · rcases h4 k hk with h | h
              · exact .inl (hFw k h).1
              · exact .inr h
            · rcases h4 k hk with h | h
              · exact (hFw k h).2.1
              · have := lt_of_block hb; omega
            · rcases h4 k hk with h | h
              · exact (hFw k h).2.2
              · have := lt_of_block hs.1; omega
end Go.Proofs.YtihlijnobbonbaaGreat
/- The disk as its callers see it: Flush, Crash, Read, Durable, Fuel. -/
namespace Go.Proofs.YtihlijnobbonbaaGreat
open Go.RowKit
set_option linter.unusedSimpArgs false
set_option maxRecDepth 100000

theorem DiskAt.upd {w w' : World} {b : Nat} {D : DSt} {F G : Nat → Prop} (h : DiskAt w b D F) (hu : Upd G w w') (hFG : ∀ k, F k → ¬ G k) : DiskAt w' b D F := by
  obtain ⟨hOk, hFb, hFlt, sb, sc, scur, wv, hb, hs, hwv, hFs, hbs, hFw⟩ := h
  exact ⟨hOk, hFb, fun k hk => Nat.lt_of_lt_of_le (hFlt k hk) hu.size, sb, sc, scur, wv, hu.heap hb (hFG b hFb), ⟨hu.heap hs.1 (hFG sb hFs), hs.2⟩, hu.row hwv (fun k hk => hFG k (hFw k hk).1), hFs, hbs, hFw⟩
theorem DiskAt.lt {w : World} {b : Nat} {D : DSt} {F : Nat → Prop} (h : DiskAt w b D F) : ∀ k, F k → k < w.heap.size := h.2.2.1

/-- Out of the middle of a loop that writes sectors: a disk on which nothing waits. -/
theorem DiskAt.of_secs {w w' : World} {b sb sc : Nat} {D : DSt} {F : Nat → Prop} {s : List Bytes} {f : Int} {d : Bool} (hFlt : ∀ k, F k → k < w.heap.size) (hFb : F b) (hFs : F sb) (hbs : b ≠ sb) (hm : sc ≤ maxLen) (hsc : s.length ≤ sc) (h1 : 1 ≤ s.length) (h2 : s.length ≤ 4096) (hs : ∀ x ∈ s, x.length = 512) (hf : -1 ≤ f) (hf2 : f ≤ 9223372036854775807)
    (hD : D = ⟨s, [], f, d⟩) (n : Nat) (hn : n = s.length) (h : SecsR w b (.cells #[.slice (some ⟨sb, 0, none⟩) n sc, .slice none 0 0, .int .i64 f, .bool d] 89 (0, 0)) sb sc s w') : DiskAt w' b D F ∧ Upd F w w' := by
  obtain ⟨q1, q2, cu, q3, q4, q5⟩ := h
  subst hD
  subst hn
  refine ⟨⟨⟨h1, h2, hs, (fun p hp => by cases hp), hf, hf2⟩, hFb, fun k hk => Nat.lt_of_lt_of_le (hFlt k hk) q1.size, sb, sc, cu.toArray, .slice none 0 0, q2, ⟨q3, hsc, hm, by simpa using q4, by simpa using q5⟩, World.ownsRow_nil _ _ _ _, hFs, hbs, fun k hk => by cases hk⟩, q1.mono fun k _ hk => ?_⟩
  rcases hk with h | h
  · rw [h]; exact hFb
  · rw [h]; exact hFs

theorem flush_disk {w : World} {b : Nat} {D : DSt} {F : Nat → Prop} (hD : DiskAt w b D F) (hm : D.waits.length < 100000000000) {D' : DSt} {r : Int} (hr : D.flush = (D', r)) :
    Calls Tryz.prog 31 #[.pointer (some ⟨b, 0, none⟩)] w fun e w' => e = .returned (.int .i64 r) ∧ DiskAt w' b D' F ∧ Upd F w w' := by
  obtain ⟨hOk, hFb, hFlt, sb, sc, scur, wv, hb, hs, hwv, hFs, hbs, hFw⟩ := id hD
  obtain ⟨c0, c1, c2, c3⟩ := four hb
  by_cases hd : D.dead = true
  · rw [DSt.flush, if_pos hd] at hr
    cases hr
    rw [hd] at c3
    refine (flush_err b 10 w rfl (check_dead b 0 w c3)).mono ?_
    rintro e' w' ⟨rfl, rfl⟩
    exact ⟨rfl, hD, Upd.refl _ _⟩
  · have hd' : D.dead = false := by simpa using hd
    rw [hd'] at c3 hb
    rw [DSt.flush, if_neg hd] at hr
    have h1 := hOk.one
    have hchk := check_ok b _ _ _ 0 w c3 c0 (Int.le_refl _) (by omega)
    by_cases hf : D.fuel = 0
    · rw [if_pos hf] at hr
      cases hr
      refine (flush_die b _ _ _ w hf hb hchk).mono ?_
      rintro e' w' ⟨rfl, rfl⟩
      refine ⟨rfl, ⟨⟨hOk.one, hOk.most, hOk.secs, hOk.waits, hOk.fuel, hOk.fuelMax⟩, hFb, by simpa using hFlt, sb, sc, scur, wv, by rw [stored hb]; rfl, ⟨by rw [heap_setCell_other _ _ _ _ (fun e => hbs e.symm)]; exact hs.1, hs.2⟩, ?_, hFs, hbs, hFw⟩, (Upd.refl _ _).setCell _ (.inl hFb)⟩
      exact Upd.row ((Upd.refl (fun k => k = b) w).setCell _ (.inl rfl)) hwv (fun k hk e => (hFw k hk).2.1 e)
    · rw [if_neg hf] at hr
      cases hr
      obtain ⟨xa, xc, rfl⟩ := (sees_of_row hwv).shape
      refine (flush_core b sb sc xa xc D.secs D.waits D.fuel scur.toList w hb hwv (by simpa using hs.1) (by simpa using hs.2.2.2.1) hs.2.2.2.2 hs.2.1 hOk.secs hOk.waits hbs (fun x hx => by subst hx; exact (hFw _ rfl).2) hm hOk.one hOk.most hf hOk.fuelMax).mono ?_
      rintro e' w' ⟨rfl, h⟩
      have hfu := hOk.fuel
      have hfu2 := hOk.fuelMax
      exact ⟨rfl, DiskAt.of_secs hFlt hFb hFs hbs hs.2.2.1 (by rw [done_length]; exact hs.2.1) (by rw [done_length]; exact hOk.one) (by rw [done_length]; exact hOk.most) (done_ok hOk.secs (fun p hp => (hOk.waits p hp).2))
        (by unfold burnt; split <;> omega) (by unfold burnt; split <;> omega) (by rw [hd']) _ (done_length _ _).symm h⟩

theorem crash_disk {w : World} {b : Nat} {D : DSt} {F : Nat → Prop} (hD : DiskAt w b D F) (hm : D.waits.length < 100000000000) (ka : Option Addr) (kc : Nat) (keep : List Bool) (hke : Sees w 1 (.slice ka keep.length kc) keep.length (boolsV keep)) (hkF : ∀ x, ka = some x → 0 < keep.length → ¬ F x.block) :
    Calls Tryz.prog 32 #[.pointer (some ⟨b, 0, none⟩), .slice ka keep.length kc] w fun e w' => e = .returned (.tuple #[]) ∧ DiskAt w' b (D.crash keep) F ∧ Upd F w w' := by
  obtain ⟨hOk, hFb, hFlt, sb, sc, scur, wv, hb, hs, hwv, hFs, hbs, hFw⟩ := id hD
  obtain ⟨xa, xc, rfl⟩ := (sees_of_row hwv).shape
  refine (crash_core b sb sc xa xc D.secs D.waits D.fuel D.dead ka kc keep scur.toList w hb hwv (by simpa using hs.1) (by simpa using hs.2.2.2.1) hs.2.2.2.2 hs.2.1 hOk.secs hOk.waits hbs (fun x hx => by subst hx; exact (hFw _ rfl).2) hm hke
    (fun x hx h0 => ⟨fun e => hkF x hx h0 (by rw [e]; exact hFb), fun e => hkF x hx h0 (by rw [e]; exact hFs)⟩)).mono ?_
  rintro e' w' ⟨rfl, h⟩
  exact ⟨rfl, DiskAt.of_secs hFlt hFb hFs hbs hs.2.2.1 (by rw [done_length]; exact hs.2.1) (by rw [done_length]; exact hOk.one) (by rw [done_length]; exact hOk.most) (done_ok hOk.secs (fun p hp => (hOk.waits p (kept_mem p hp)).2))
    (by omega) (by omega) rfl _ (done_length _ _).symm h⟩

theorem read_disk {w : World} {b : Nat} {D : DSt} {F : Nat → Prop} (hD : DiskAt w b D F) (hm : D.waits.length < 100000000000) (i : Int) {bs : Bytes} {r : Int} (hr : D.read i = (bs, r)) :
    Calls Tryz.prog 53 #[.pointer (some ⟨b, 0, none⟩), .int .i64 i] w fun e w' => ∃ xa xc, e = .returned (.tuple #[.slice xa bs.length xc, .int .i64 r]) ∧
      w'.ownsRow w.heap.size 5 1 (.slice xa bs.length xc) bs.length (bvs bs) ∧ Upd (fun _ => False) w w' ∧ (r ≠ 0 → bs = [] ∧ xa = none ∧ xc = 0) ∧ (r = 0 → bs.length = 512) := by
  obtain ⟨hOk, hFb, hFlt, sb, sc, scur, wv, hb, hs, hwv, hFs, hbs, hFw⟩ := id hD
  obtain ⟨c0, c1, c2, c3⟩ := four hb
  by_cases hd : D.dead = true
  · rw [DSt.read, if_pos hd] at hr
    cases hr
    rw [hd] at c3
    refine (read_err b i 10 w rfl (check_dead b i w c3)).mono ?_
    rintro e' w' ⟨rfl, rfl⟩
    exact ⟨none, 0, rfl, World.ownsRow_nil _ _ _ _, Upd.refl _ _, fun _ => ⟨rfl, rfl, rfl⟩, fun h => by cases h⟩
  · have hd' : D.dead = false := by simpa using hd
    rw [hd'] at c3 hb
    rw [DSt.read, if_neg hd] at hr
    by_cases hi : i < 0 ∨ (D.secs.length : Int) ≤ i
    · rw [if_pos hi] at hr
      cases hr
      have hchk : Calls Tryz.prog 56 #[.pointer (some ⟨b, 0, none⟩), .int .i64 i] w fun e w' => e = .returned (.int .i64 1) ∧ w = w' := by
        rcases hi with hi | hi
        · exact check_neg b i w c3 hi
        · by_cases h0 : i < 0
          · exact check_neg b i w c3 h0
          · exact check_big b _ _ _ i w c3 c0 (by omega) hi
      refine (read_err b i 1 w rfl hchk).mono ?_
      rintro e' w' ⟨rfl, rfl⟩
      exact ⟨none, 0, rfl, World.ownsRow_nil _ _ _ _, Upd.refl _ _, fun _ => ⟨rfl, rfl, rfl⟩, fun h => by cases h⟩
    · rw [if_neg hi] at hr
      cases hr
      obtain ⟨j, rfl⟩ : ∃ j : Nat, i = j := ⟨i.toNat, by omega⟩
      have hj : j < D.secs.length := by omega
      obtain ⟨xa, xc, rfl⟩ := (sees_of_row hwv).shape
      have hlen : ∀ (W : List (Nat × Bytes)) (x : Bytes), (∀ p ∈ W, p.2.length = 512) → x.length = 512 → (lastOf W j x).length = 512 := by
        intro W
        induction W with
        | nil => intro x _ hx; exact hx
        | cons p r ih =>
          intro x hW hx
          rw [lastOf, List.foldl_cons]
          refine ih _ (fun q hq => hW q (List.mem_cons_of_mem _ hq)) ?_
          split
          · exact hW p (List.mem_cons_self ..)
          · exact hx
      have hl := hlen D.waits (D.secs.getD j []) (fun p hp => (hOk.waits p hp).2) (by simp [List.getD, hj]; exact hOk.secs _ (List.getElem_mem hj))
      refine (read_core b sb sc xa xc D.secs D.waits D.fuel scur.toList j w hb hwv (by simpa using hs.1) (by simpa using hs.2.2.2.1) hs.2.2.2.2 hs.2.1 hOk.secs hOk.waits hm hj).mono ?_
      rintro e' w' ⟨x', c', rfl, hown, hu⟩
      rw [show ((j : Int).toNat) = j by omega]
      refine ⟨some x', c', by rw [hl], by rw [hl]; exact hown, hu, fun h => absurd rfl h, fun _ => hl⟩

theorem fuel_disk {w : World} {b : Nat} {D : DSt} {F : Nat → Prop} (hD : DiskAt w b D F) (n : Int) (hn : n ≤ 9223372036854775807) :
    Calls Tryz.prog 30 #[.pointer (some ⟨b, 0, none⟩), .int .i64 n] w fun e w' => e = .returned (.tuple #[]) ∧ DiskAt w' b (D.setFuel n) F ∧ Upd F w w' := by
  obtain ⟨hOk, hFb, hFlt, sb, sc, scur, wv, hb, hs, hwv, hFs, hbs, hFw⟩ := id hD
  refine (fuel_ok b n _ _ _ _ w hb).mono ?_
  rintro e' w' ⟨rfl, rfl⟩
  refine ⟨rfl, ⟨⟨hOk.one, hOk.most, hOk.secs, hOk.waits, ?_, ?_⟩, hFb, by simpa using hFlt, sb, sc, scur, wv, by rw [stored hb]; rfl, ⟨by rw [heap_setCell_other _ _ _ _ (fun e => hbs e.symm)]; exact hs.1, hs.2⟩, ?_, hFs, hbs, hFw⟩, (Upd.refl _ _).setCell _ (.inl hFb)⟩
  · show -1 ≤ max n (-1); omega
  · show max n (-1) ≤ 9223372036854775807; omega
  · exact Upd.row ((Upd.refl (fun k => k = b) w).setCell _ (.inl rfl)) hwv (fun k hk e => (hFw k hk).2.1 e)

theorem size_disk {w : World} {b : Nat} {D : DSt} {F : Nat → Prop} (hD : DiskAt w b D F) :
    Calls Tryz.prog 28 #[.pointer (some ⟨b, 0, none⟩)] w fun e w' => e = .returned (.int .i64 D.secs.length) ∧ w = w' := by
  obtain ⟨hOk, hFb, hFlt, sb, sc, scur, wv, hb, hs, hwv, hFs, hbs, hFw⟩ := id hD
  exact size_ok b _ _ _ w (four hb).1
theorem dead_disk {w : World} {b : Nat} {D : DSt} {F : Nat → Prop} (hD : DiskAt w b D F) :
    Calls Tryz.prog 36 #[.pointer (some ⟨b, 0, none⟩)] w fun e w' => e = .returned (.bool D.dead) ∧ w = w' := by
  obtain ⟨hOk, hFb, hFlt, sb, sc, scur, wv, hb, hs, hwv, hFs, hbs, hFw⟩ := id hD
  exact dead_ok b _ w (four hb).2.2.2
end Go.Proofs.YtihlijnobbonbaaGreat
