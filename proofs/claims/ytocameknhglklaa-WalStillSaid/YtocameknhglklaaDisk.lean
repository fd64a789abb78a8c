/- Contracts of package disk. -/
import Derived.Test.YtocameknhglklaaOps
import Derived.Test.YtocameknhglklaaDiskM
import Derived.Test.YtocameknhglklaaDisk1
import Derived.Lib.Hide
import Derived.Outline
import Derived.Deep.QuietTactic
import Derived.BigQuiet
namespace Go.Proofs.Ytocameknhglklaa
open Go.RowKit

def secsV (l : List Bytes) : List Value := l.flatMap bvs
def waitV (p : Nat × Bytes) : List Value := .int .i64 p.1 :: bvs p.2
def waitsV (l : List (Nat × Bytes)) : List Value := l.flatMap waitV

/-- A Disk at block b that holds D; F: all blocks that are its own. -/
def DiskAt (w : World) (b : Nat) (D : DSt) (F : Nat → Prop) : Prop :=
  D.Ok ∧ F b ∧ (∀ k, F k → k < w.heap.size) ∧ ∃ sb sc scur wv,
    w.heap[b]? = some (.cells #[.slice (some ⟨sb, 0, none⟩) D.secs.length sc, wv, .int .i64 D.fuel, .bool D.dead] 74 (0, 0)) ∧
    (w.heap[sb]? = some (.cells scur 118 (0, 0)) ∧ D.secs.length ≤ sc ∧ sc ≤ maxLen ∧ scur.size = sc * 512 ∧ scur.toList.take (D.secs.length * 512) = secsV D.secs) ∧
    w.ownsRow 0 120 513 wv D.waits.length (waitsV D.waits) ∧
    F sb ∧ b ≠ sb ∧ (∀ k, wv.ownBlock = some k → F k ∧ k ≠ b ∧ k ≠ sb)

theorem infoW : (Try.prog.info? 120).map (fun i => (i.zero, i.size, i.bytes)) = some (some (.agg (waitV (0, zeros512)).toArray), 513, 520) := by kernel_rfl
theorem zeroW : (Try.prog.info? 120).map (·.zero) = some (some (.agg (waitV (0, zeros512)).toArray)) := by kernel_rfl
theorem sizeW : (Try.prog.info? 120).map (·.size) = some 513 := by kernel_rfl
theorem buildW (i : Int) (w : World) : (Instr.build 120 #[(0, .int .i64 i)]).run Try.prog w = .ok (.agg (Value.int .i64 i :: bvs zeros512).toArray) w := by kernel_rfl

theorem bvs_all (l : Bytes) : (bvs l).toArray.all (·.oneCell') = true := by
  rw [List.all_toArray, List.all_eq_true]
  exact bvs_one l
theorem waitV_all (i : Int) (l : Bytes) : (Value.int .i64 i :: bvs l).toArray.all (·.oneCell') = true := by
  rw [List.all_toArray, List.all_cons, Bool.and_eq_true]
  exact ⟨rfl, List.all_eq_true.2 (bvs_one l)⟩

theorem burn_die (b : Nat) (sv wv : Value) (f : Int) (d : Bool) (w : World) (hf : f = 0)
    (hb : w.heap[b]? = some (.cells #[sv, wv, .int .i64 f, .bool d] 74 (0, 0))) :
    Calls Try.prog 51 #[.pointer (some ⟨b, 0, none⟩)] w fun e w' => e = .returned (.bool false) ∧ w' = w.setCell ⟨b, 3, none⟩ (.bool true) := by
  obtain ⟨c0, c1, c2, c3⟩ := four hb
  have u3 := unfrozen hb 3
  subst hf
  go_enter Try.func51, Try.ntmps51
  go_wp2
  go_ret
  exact ⟨rfl, rfl⟩
theorem burn_all (b : Nat) (sv wv : Value) (f : Int) (w : World) (hf : f < 0)
    (hb : w.heap[b]? = some (.cells #[sv, wv, .int .i64 f, .bool false] 74 (0, 0))) :
    Calls Try.prog 51 #[.pointer (some ⟨b, 0, none⟩)] w fun e w' => e = .returned (.bool true) ∧ w' = w := by
  obtain ⟨c0, c1, c2, c3⟩ := four hb
  go_enter Try.func51, Try.ntmps51
  go_wp2
  go_ret
  exact ⟨rfl, rfl⟩
theorem burn_one (b : Nat) (sv wv : Value) (f : Int) (w : World) (hf : 0 < f) (hm : f ≤ 9223372036854775807)
    (hb : w.heap[b]? = some (.cells #[sv, wv, .int .i64 f, .bool false] 74 (0, 0))) :
    Calls Try.prog 51 #[.pointer (some ⟨b, 0, none⟩)] w fun e w' => e = .returned (.bool true) ∧ w' = w.setCell ⟨b, 2, none⟩ (.int .i64 (f - 1)) := by
  obtain ⟨c0, c1, c2, c3⟩ := four hb
  have u2 := unfrozen hb 2
  go_enter Try.func51, Try.ntmps51
  go_wp2
  go_ret
  exact ⟨rfl, rfl⟩
/-- What a burn that goes through leaves. -/
theorem burn_ok (b : Nat) (sv wv : Value) (f : Int) (w : World) (hf : f ≠ 0) (hm : f ≤ 9223372036854775807)
    (hb : w.heap[b]? = some (.cells #[sv, wv, .int .i64 f, .bool false] 74 (0, 0))) :
    Calls Try.prog 51 #[.pointer (some ⟨b, 0, none⟩)] w fun e w' => e = .returned (.bool true) ∧
      w'.heap[b]? = some (.cells #[sv, wv, .int .i64 (burnt f), .bool false] 74 (0, 0)) ∧ Upd (· = b) w w' ∧ w'.heap.size = w.heap.size := by
  rcases Int.lt_trichotomy f 0 with h | h | h
  · refine (burn_all b sv wv f w h hb).mono ?_
    rintro e w' ⟨rfl, rfl⟩
    exact ⟨rfl, by rw [burnt, if_neg (by omega)]; exact hb, Upd.refl _ _, rfl⟩
  · exact absurd h hf
  · refine (burn_one b sv wv f w h hm hb).mono ?_
    rintro e w' ⟨rfl, rfl⟩
    refine ⟨rfl, ?_, (Upd.refl _ _).setCell _ (.inl rfl), by simp⟩
    rw [stored hb, burnt, if_pos h]
    rfl

theorem sizeW' (i : Int) (l : Bytes) (h : l.length = 512) : (Try.prog.info? 120).map (·.size) = some (Value.int .i64 i :: bvs l).toArray.size := by
  rw [sizeW]; simp [bvs_length, h]
theorem pad_splice (i : Int) (l : Bytes) : splice (Value.int .i64 i :: bvs zeros512) 1 (bvs l) = Value.int .i64 i :: bvs (pad l) := by
  simp only [splice, pad, List.take_succ_cons, List.take_zero, bvs_append, bvs_length]
  rw [Nat.add_comm 1, List.drop_succ_cons]
  simp only [bvs, ← List.map_drop, zeros512, List.drop_replicate]
  rfl

theorem zcW (i : Int) : Try.zeroCells120.setIfInBounds 0 (.int .i64 i) = (Value.int .i64 i :: bvs zeros512).toArray := by kernel_rfl
theorem zsW (i : Int) : (Try.prog.info? 120).map (·.size) = some (Try.zeroCells120.setIfInBounds 0 (.int .i64 i)).size := by rw [zcW]; exact sizeW' i _ zeros512_length
theorem zoW (i : Int) : (Try.zeroCells120.setIfInBounds 0 (.int .i64 i)).all (·.oneCell') = true := by rw [zcW]; exact waitV_all i _
theorem sizeB : (Try.prog.info? 5).map (·.size) = some 1 := by kernel_rfl
set_option maxHeartbeats 1000000 in
set_option maxRecDepth 100000 in
theorem write_core (b : Nat) (wv : Value) (sa : Option Addr) (n c m : Nat) (ws : List Value) (f : Int) (w : World) (hb : w.heap[b]? = some (.cells #[.slice sa n c, wv, .int .i64 f, .bool false] 74 (0, 0)))
    (hwv : w.ownsRow 0 120 513 wv m ws) (hm : m < 100000000000)
    (i : Int) (da : Option Addr) (dc : Nat) (data : Bytes) (hdv : Sees w 1 (.slice da data.length dc) data.length (bvs data)) (hdb : ∀ x, da = some x → 0 < data.length → x.block ≠ b) (hwb : wv.ownBlock ≠ some b)
    (hi0 : 0 ≤ i) (hi1 : i < n) (hd : (data.length : Int) ≤ 512) (hf : f ≠ 0) (hfm : f ≤ 9223372036854775807) :
    Calls Try.prog 42 #[.pointer (some ⟨b, 0, none⟩), .int .i64 i, .slice da data.length dc] w fun e w' => e = .returned (.int .i64 0) ∧
      ∃ nv, w'.heap[b]? = some (.cells #[.slice sa n c, nv, .int .i64 (burnt f), .bool false] 74 (0, 0)) ∧ w'.ownsRow 0 120 513 nv (m + 1) (ws ++ (.int .i64 i :: bvs (pad data))) ∧
        Upd (fun k => k = b ∨ wv.ownBlock = some k) w w' ∧ (∀ k, nv.ownBlock = some k → wv.ownBlock = some k ∨ w.heap.size ≤ k) := by
  obtain ⟨c0, c1, c2, c3⟩ := four hb
  have Hf := Lib.hid hf
  have Hm := Lib.hid hm
  clear hf hm
  go_enter Try.func42, Try.ntmps42
  go_wp2_with fail
  refine (check_ok b _ _ _ i _ c3 c0 hi0 hi1).mono ?_
  rintro e w' ⟨rfl, rfl⟩
  dsimp only
  go_wp2_with fail
  refine (burn_ok b _ _ _ _ Hf.out hfm hb).mono ?_
  rintro e w1 ⟨rfl, hb1, hu1, hs1⟩
  dsimp only
  obtain ⟨d0, d1, d2, d3⟩ := four hb1
  have Hs := Lib.hid hs1
  clear c0 c1 c2 c3 hs1
  have hmin : min data.length 512 = data.length := by omega
  have Hcp : Hid ((w1.alloc (.cells (Value.int .i64 i :: bvs zeros512).toArray 120)).setCells w1.heap.size 1 ((bvs data).take (min data.length 512 * 1)) = w1.alloc (.cells (Value.int .i64 i :: bvs (pad data)).toArray 120)) := by
    rw [hmin, Nat.mul_one, List.take_of_length_le (by rw [bvs_length]; exact Nat.le_refl _), setCells_alloc _ _ _ _ _ (by simp [bvs_length, zeros512_length]; omega), pad_splice]
    exact Lib.hid rfl
  have Hse : Sees (w1.alloc (.cells (Value.int .i64 i :: bvs zeros512).toArray 120)) 1 (.slice da data.length dc) data.length (bvs data) :=
    Sees.upd ((Upd.refl (fun _ => False) w1).alloc _) (Sees.upd hu1 hdv (fun k hk h0 e => by cases da with | none => cases hk | some x => exact hdb x rfl h0 (by subst e; simpa [Value.ownBlock] using hk))) (fun _ _ _ h => h)
  have Hth : (w1.alloc (.cells (Value.int .i64 i :: bvs zeros512).toArray 120)).there w1.heap.size 1 (min data.length 512 * 1) :=
    there_of_row (heap_alloc_new _ _) (by simp [bvs_length, zeros512_length]; omega)
  have Hmin := Lib.hid hmin
  clear hmin
  go_wp2_with (first | ((with_reducible apply wpl_store_new); exact rfl; exact rfl; exact zsW _; exact Array.size_setIfInBounds.symm; exact zoW _; rw [zcW]; simp only [Act.put, List.setIfInBounds_toArray, List.set_cons_zero, List.set_cons_succ]) | ((with_reducible apply wpl_copy_sees); exact Try.underlying98; exact sizeB; exact rfl; exact Hse; exact Hth; exact bvs_one _; rw [Hcp.out]; simp only [Act.put, List.setIfInBounds_toArray, List.set_cons_zero, List.set_cons_succ]))
  have hWb : (w1.alloc (.cells (Value.int .i64 i :: bvs (pad data)).toArray 120)).heap[b]? = some (.cells #[.slice sa n c, wv, .int .i64 (burnt f), .bool false] 74 (0, 0)) := alloc_heap hb1 _
  have hWH := heap_alloc_new w1 (.cells (Value.int .i64 i :: bvs (pad data)).toArray 120)
  have hWu := hu1.alloc (.cells (Value.int .i64 i :: bvs (pad data)).toArray 120)
  have hHn : w.heap.size ≤ w1.heap.size := hu1.size
  generalize hW : w1.alloc (.cells (Value.int .i64 i :: bvs (pad data)).toArray 120) = W at *
  generalize hH : w1.heap.size = H at *
  clear hW hH Hcp Hse Hth d0 d1 d2 d3
  obtain ⟨g0, g1, g2, g3⟩ := four hWb
  have hR : W.rangeAt H 0 (Value.int .i64 i :: bvs (pad data)) := rangeAt_of_row hWH (by simp)
  have HS : W.drew.cell? ⟨b, 1, none⟩ = some wv ∧ W.drew.rangeAt H 0 (Value.int .i64 i :: bvs (pad data)) := ⟨g1, hR⟩
  refine wp_region_plan (fun w' => w'.cell? ⟨b, 1, none⟩ = some wv ∧ w'.rangeAt H 0 (Value.int .i64 i :: bvs (pad data))) 10 [(0, true), (1, true), (2, true), (3, true), (4, true), (5, true), (6, false), (7, false), (8, true), (9, true), (10, false)] (by kernel_rfl) (by kernel_rfl) (fun d _ _ _ _ h => by cases d <;> exact h) HS ?_
  iterate 5 (apply plan_held rfl rfl rfl (by simp) HS; (intro w' hS K hK; go_simp; exact hK))
  apply plan_held rfl rfl rfl (by simp) HS
  · intro w' hS K hK
    exact gives_load_mid H 0 rfl _ _ hS.2 Try.underlying120 rfl (by rw [sizeW]; simp [bvs_length, pad_length (show data.length ≤ 512 by omega)]) hK
  simp only [Act.put, List.setIfInBounds_toArray, List.set_cons_zero, List.set_cons_succ]
  have hSz : (Value.agg (Value.int .i64 i :: bvs (pad data)).toArray).cells.size = 513 := by simp [Value.cells, bvs_length, pad_length (show data.length ≤ 512 by omega)]
  refine plan_op rfl rfl (fun K hK => ?_)
  refine wp_buildSlice_one 120 513 520 _ (.agg (Value.int .i64 i :: bvs (pad data)).toArray) Try.underlying72 infoW (by decide) (by decide) rfl hSz ?_
  refine hK _ _ (fun _ => ⟨?_, ?_⟩) ?_
  · exact (World.cell?_alloc_lt _ _ _ (World.block_lt_of_cell? _ _ HS.1)).trans HS.1
  · exact World.rangeAt_alloc HS.2 _
  simp only [Act.put, List.setIfInBounds_toArray, List.set_cons_zero, List.set_cons_succ]
  have hXb : (W.drew.alloc (.cells (Value.agg (Value.int .i64 i :: bvs (pad data)).toArray).cells 120)).heap[b]? = some (.cells #[.slice sa n c, wv, .int .i64 (burnt f), .bool false] 74 (0, 0)) := alloc_heap (w := W.drew) hWb _
  have hXn := heap_alloc_new W.drew (.cells (Value.agg (Value.int .i64 i :: bvs (pad data)).toArray).cells 120)
  have hXu : Upd (· = b) w (W.drew.alloc (.cells (Value.agg (Value.int .i64 i :: bvs (pad data)).toArray).cells 120)) := hWu.drew.alloc _
  have hNs : w.heap.size ≤ W.drew.heap.size := by simpa using hWu.size
  have hXr : Hid ((W.drew.alloc (.cells (Value.agg (Value.int .i64 i :: bvs (pad data)).toArray).cells 120)).rangeAt H 0 (Value.int .i64 i :: bvs (pad data))) := World.rangeAt_alloc HS.2 _
  generalize hX : W.drew.alloc (.cells (Value.agg (Value.int .i64 i :: bvs (pad data)).toArray).cells 120) = X at *
  generalize hN : W.drew.heap.size = N at *
  have hXw : X.ownsRow 0 120 513 wv m ws := hXu.row hwv (fun k hk e => hwb (by rw [hk, e]))
  have hXs : Sees X 513 (.slice (some ⟨N, 0, none⟩) 1 1) 1 (Value.int .i64 i :: bvs (pad data)) :=
    Sees.at (by simp [bvs_length, pad_length (show data.length ≤ 512 by omega)]) (by decide) (rangeAt_of_row hXn (by simp))
  have Hm := Hm.out
  refine plan_op rfl rfl (fun K hK => ?_)
  refine wp_append_sees 0 120 513 520 _ wv m ws 1 (Value.int .i64 i :: bvs (pad data)) Try.underlying72 infoW (by simp [Value.cells, waitV, bvs_length, zeros512_length]) (by decide) rfl hXw hXs ?_ (by unfold maxLen; omega) (by omega) (Nat.zero_le _) ?_
  · intro u hu
    rcases List.mem_cons.1 hu with rfl | hu
    · rfl
    · exact bvs_one _ u hu
  intro x' c' Y hYo hYg hYn
  have hYb : Y.heap[b]? = some (.cells #[.slice sa n c, wv, .int .i64 (burnt f), .bool false] 74 (0, 0)) := (hYg.block b (lt_of_block hXb) (fun e => hwb e.symm)).trans hXb
  have hYu : Upd (fun k => k = b ∨ wv.ownBlock = some k) w Y := (hXu.mono (fun _ _ h => .inl h)).grown hYg (fun k hk => .inl (.inr hk))
  obtain ⟨y0, y1, y2, y3⟩ := four hYb
  have fr1 := unfrozen hYb 1
  have hYr : Y.rangeAt H 0 (Value.int .i64 i :: bvs (pad data)) := fun j u hj => hYg.cell (hXr.out j u hj) (fun e => by
    have := (hwv.lt H e.symm).2
    omega)
  have HY : Y.cell? ⟨b, 1, none⟩ = some wv ∧ Y.rangeAt H 0 (Value.int .i64 i :: bvs (pad data)) := ⟨y1, hYr⟩
  refine hK _ _ (fun _ => HY) ?_
  simp only [Act.put, List.setIfInBounds_toArray, List.set_cons_zero, List.set_cons_succ]
  iterate 2 (apply plan_held rfl rfl rfl (by simp) HY; (intro w' hS K hK; go_simp; exact hK))
  refine plan_op rfl rfl (fun K hK => ?_)
  go_simp
  refine hK _ _ (fun h => absurd rfl h) ?_
  refine plan_nil ?_
  go_wp2_with fail
  go_ret
  refine ⟨rfl, .slice x' (m + 1) c', by rw [stored hYb]; rfl, ?_, hYu.setCell _ (.inl (.inl rfl)), fun k hk => ?_⟩
  · exact Upd.row (((Upd.refl (fun k => k = b) Y).setCell _ (.inl rfl))) hYo (fun k hk e => by
      subst e
      rcases hYn with h | h
      · exact hwb (h ▸ hk)
      · rw [h] at hk; have := lt_of_block hXb; have := lt_of_block hb; cases hk; omega)
  · rcases hYn with h | h
    · exact .inl (h ▸ hk)
    · rw [h] at hk; cases hk; right; exact Nat.le_trans hYu.size (Nat.le_of_eq rfl) |> fun _ => hXu.size
end Go.Proofs.Ytocameknhglklaa
