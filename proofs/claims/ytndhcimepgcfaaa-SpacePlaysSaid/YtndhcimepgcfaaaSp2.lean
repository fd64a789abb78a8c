/- Package space: a Map; Has, Free. -/
import Derived.Test.YtndhcimepgcfaaaSp1
namespace Go.Proofs.Ytndhcimepgcfaaa
open Go Go.RowKit
set_option linter.unusedSimpArgs false
set_option linter.unusedVariables false
set_option maxRecDepth 100000

/-- A Map at block mb. -/
structure MapS (w : World) (mb N : Nat) (now old : Bytes) : Prop where
  cells : CellsA w mb 71 (.int .i64 N :: (bvs now ++ bvs old))
  l1 : now.length = 512
  l2 : old.length = 512
theorem MapS.upd {w w' : World} {mb N : Nat} {now old : Bytes} {F : Nat → Prop} (h : MapS w mb N now old) (hu : Upd F w w') (hf : ¬ F mb) : MapS w' mb N now old := ⟨h.cells.upd hu hf, h.l1, h.l2⟩
theorem MapS.rnow {w : World} {mb N : Nat} {now old : Bytes} (h : MapS w mb N now old) : w.rangeAt mb 1 (bvs now) := by
  refine rangeAt_of_row h.cells (off := 1) ?_
  rw [List.drop_succ_cons, List.drop_zero, List.take_left' (by rw [bvs_length])]
theorem MapS.rold {w : World} {mb N : Nat} {now old : Bytes} (h : MapS w mb N now old) : w.rangeAt mb 513 (bvs old) := by
  refine rangeAt_of_row h.cells (off := 513) ?_
  rw [List.drop_succ_cons, List.drop_left' (by rw [bvs_length, h.l1]), List.take_of_length_le (Nat.le_refl _)]
theorem MapS.there {w : World} {mb N : Nat} {now old : Bytes} (h : MapS w mb N now old) : w.there mb 1 512 :=
  there_of_row h.cells (by simp [bvs_length, h.l1, h.l2])
theorem bvs_set (l : Bytes) (i : Nat) (x : UInt8) : (bvs l).set i (bv x) = bvs (l.set i x) := by simp only [bvs, List.map_set]
theorem MapS.turn {w : World} {mb N : Nat} {now old now' : Bytes} (h : MapS w mb N now old) (i : Nat) (hi : i < 512) (x : UInt8) (hn : now' = now.set i x) : MapS (w.setCell ⟨mb, 1 + i, none⟩ (bv (now'.getD i 0))) mb N now' old := by
  have e : now'.getD i 0 = x := by rw [hn]; simp [List.getD, h.l1, hi]
  have hc := h.cells.set (1 + i) (bv x)
  refine ⟨?_, by rw [hn, List.length_set]; exact h.l1, h.l2⟩
  rw [e, hn]
  have e2 : (Value.int .i64 (N : Int) :: (bvs now ++ bvs old)).set (1 + i) (bv x) = .int .i64 (N : Int) :: (bvs (now.set i x) ++ bvs old) := by
    rw [Nat.add_comm 1 i, List.set_cons_succ, List.set_append_left _ _ (by rw [bvs_length, h.l1]; exact hi), bvs_set]
  rw [e2] at hc
  exact hc
theorem MapS.put {w : World} {mb N : Nat} {now old : Bytes} (h : MapS w mb N now old) (b : Nat) (hb : b < 4096) : MapS ((w.setCell ⟨mb, 1 + b / 8, none⟩ (bv ((setB now b).getD (b / 8) 0))).drew) mb N (setB now b) old :=
  (h.turn (b / 8) (by omega) _ rfl).upd ((Upd.refl (fun _ => False) _).drew) (fun h => h)
theorem MapS.cut {w : World} {mb N : Nat} {now old : Bytes} (h : MapS w mb N now old) (b : Nat) (hb : b < 4096) : MapS ((w.setCell ⟨mb, 1 + b / 8, none⟩ (bv ((cutB now b).getD (b / 8) 0))).drew) mb N (cutB now b) old :=
  (h.turn (b / 8) (by omega) _ rfl).upd ((Upd.refl (fun _ => False) _).drew) (fun h => h)
/-- Is a block taken? -/
def hasM (N : Nat) (now : Bytes) (b : Int) : Bool := decide (0 ≤ b) && decide (b < (N : Int)) && hasB now b.toNat
set_option maxHeartbeats 1000000 in
theorem mhas_ok {w : World} {mb N : Nat} {now old : Bytes} (h : MapS w mb N now old) (hN : N ≤ 4096) (b : Int) : Calls Try.prog 15 #[.pointer (some ⟨mb, 0, none⟩), .int .i64 b] w fun e w' => e = .returned (.bool (hasM N now b)) ∧ w = w' := by
  have c0 := h.cells.cell 0
  simp only [List.getElem?_cons_zero] at c0
  have H := Lib.hid h
  have hNI : (N : Int) ≤ 4096 := by omega
  by_cases h0 : 0 ≤ b
  · by_cases h1 : b < (N : Int)
    · obtain ⟨k, rfl⟩ : ∃ k : Nat, b = k := ⟨b.toNat, by omega⟩
      have hh := has_ok w mb 1 now h.l1 h.rnow k (by omega)
      have e : hasM N now (k : Int) = hasB now k := by simp [hasM]; omega
      rw [e]
      obtain ⟨v, hv⟩ : ∃ v, hasB now k = v := ⟨_, rfl⟩
      rw [hv] at hh ⊢
      have Hh := Lib.hid hh
      have q1 : decide (k < N) = true := by simp; omega
      clear hh hv e h
      go_enter Try.func15, Try.ntmps15
      go_wp2_with fail
      refine Hh.out.mono ?_
      rintro e w1 ⟨rfl, rfl⟩
      dsimp only
      go_wp2_with fail
      go_ret
      exact ⟨rfl, rfl⟩
    · have e : hasM N now b = false := by simp [hasM, h1]
      rw [e]
      have q1 : decide (b < (N : Int)) = false := by simpa using h1
      have q0 : decide (b ≥ 0) = true := by simpa using h0
      clear e h
      go_enter Try.func15, Try.ntmps15
      go_wp2_with fail
      go_ret
      exact ⟨rfl, rfl⟩
  · have e : hasM N now b = false := by simp [hasM, h0]
    rw [e]
    have q0 : decide (b ≥ 0) = false := by simpa using h0
    clear e h
    go_enter Try.func15, Try.ntmps15
    go_wp2_with fail
    go_ret
    exact ⟨rfl, rfl⟩
/-- What a Free leaves. -/
def FreePost (w : World) (mb N : Nat) (now old : Bytes) (b r : Int) (w' : World) : Prop :=
  ((b < 2 ∨ hasM N now b = false) ∧ r = 1 ∧ w = w') ∨ (2 ≤ b ∧ hasM N now b = true ∧ r = 0 ∧ MapS w' mb N (cutB now b.toNat) old ∧ Upd (fun q => q = mb) w w')
set_option maxHeartbeats 1000000 in
theorem mfree_ok {w : World} {mb N : Nat} {now old : Bytes} (h : MapS w mb N now old) (hN : N ≤ 4096) (b : Int) : Calls Try.prog 13 #[.pointer (some ⟨mb, 0, none⟩), .int .i64 b] w fun e w' => ∃ r, e = .returned (.int .i64 r) ∧ FreePost w mb N now old b r w' := by
  have hh := mhas_ok h hN b
  by_cases h0 : b < 2
  · have q0 : decide (b < 2) = true := by simpa using h0
    have Hh := Lib.hid h0
    clear hh h
    go_enter Try.func13, Try.ntmps13
    go_wp2_with fail
    go_ret
    exact ⟨1, rfl, .inl ⟨.inl Hh.out, rfl, rfl⟩⟩
  · have q0 : decide (b < 2) = false := by simpa using h0
    obtain ⟨v, hv⟩ : ∃ v, hasM N now b = v := ⟨_, rfl⟩
    rw [hv] at hh
    have Hh := Lib.hid hh
    have Hv := Lib.hid (And.intro hv (And.intro h0 h))
    cases v with
    | false =>
      clear hh h hv
      go_enter Try.func13, Try.ntmps13
      go_wp2_with fail
      refine Hh.out.mono ?_
      rintro e w1 ⟨rfl, rfl⟩
      dsimp only
      go_wp2_with fail
      go_ret
      exact ⟨1, rfl, .inl ⟨.inr Hv.out.1, rfl, rfl⟩⟩
    | true =>
      have hb : b < (N : Int) := by simp [hasM] at hv; omega
      obtain ⟨k, rfl⟩ : ∃ k : Nat, b = k := ⟨b.toNat, by omega⟩
      have hc := cut_ok w mb 1 now h.l1 h.rnow h.there k (by omega)
      have Hc := Lib.hid (And.intro hc (show k < 4096 by omega))
      clear hh h hv hc
      go_enter Try.func13, Try.ntmps13
      go_wp2_with fail
      refine Hh.out.mono ?_
      rintro e w1 ⟨rfl, rfl⟩
      dsimp only
      go_wp2_with fail
      refine Hc.out.1.mono ?_
      rintro e w1 ⟨rfl, hw⟩
      dsimp only
      have Hw := Lib.hid hw
      clear hw
      go_wp2_with fail
      go_ret
      refine ⟨0, rfl, .inr ⟨by omega, Hv.out.1, rfl, ?_, ?_⟩⟩
      · rw [Hw.out, Int.toNat_natCast]
        exact Hv.out.2.2.cut k Hc.out.2
      · rw [Hw.out]
        have hset : Upd (fun q => q = mb) w (w.setCell ⟨mb, 1 + k / 8, none⟩ (bv ((cutB now k).getD (k / 8) 0))) := (Upd.refl _ _).setCell _ (.inl rfl)
        exact hset.drew
end Go.Proofs.Ytndhcimepgcfaaa
