/- Package space: Make, Load, Store. -/
import Derived.Test.YtndhcimepgcfaaaSp3
namespace Go.Proofs.Ytndhcimepgcfaaa
open Go Go.RowKit
set_option linter.unusedSimpArgs false
set_option linter.unusedVariables false
set_option maxRecDepth 100000
theorem meth_write (tb : Nat) (u : World) : (Go.method 265 25 (.pointer (some ⟨tb, 0, none⟩)) "Write").run Try.prog u = .ok (24, .pointer (some ⟨tb, 0, none⟩)) u := by kernel_rfl
theorem meth_read (tb : Nat) (u : World) : (Go.method 265 25 (.pointer (some ⟨tb, 0, none⟩)) "Read").run Try.prog u = .ok (20, .pointer (some ⟨tb, 0, none⟩)) u := by kernel_rfl
theorem spcheck_ok (w : World) (tb : Nat) (n : Int) (h2 : 2 ≤ n) (h3 : n ≤ 4096) : Calls Try.prog 28 #[.iface 25 (.pointer (some ⟨tb, 0, none⟩)), .int .i64 n] w fun e w' => e = .returned (.int .i64 0) ∧ w = w' := by
  have q1 : decide (n < 2) = false := by simp; omega
  have q2 : decide (n > 4096) = false := by simp; omega
  go_enter Try.func28, Try.ntmps28
  go_wp2_with fail
  go_ret
  exact ⟨rfl, rfl⟩
set_option maxHeartbeats 2000000 in
theorem spmake_ok {w : World} {tb pb mb db lb fb skip ring N : Nat} {ot : Option Addr} {D : DSt} {es : List (Int × Bytes)} {G : Nat → Prop} (h : TxS w tb pb mb db lb fb skip ring N ot D es G) (hN : 1 ≤ N) (n : Int) (h2 : 2 ≤ n) (h3 : n ≤ 4096) :
    Calls Try.prog 10 #[.iface 25 (.pointer (some ⟨tb, 0, none⟩)), .int .i64 n] w fun e w' => e = .returned (.int .i64 0) ∧ TxS w' tb pb mb db lb fb skip ring N ot D (putB es 0 (pad [3])) G ∧ Upd (fun q => q = mb) w w' := by
  have hc := spcheck_ok w tb n h2 h3
  have H := Lib.hid (And.intro h (And.intro hN hc))
  clear h hc hN
  go_enter Try.func10, Try.ntmps10
  go_wp2_with fail
  refine H.out.2.2.mono ?_
  rintro e w1 ⟨rfl, rfl⟩
  dsimp only
  have hmW := meth_write tb
  have hal : Upd (fun _ => False) w (w.alloc (.cells #[.int .u8 3] 5)) := (Upd.refl _ w).alloc _
  have hse : Sees (w.alloc (.cells #[.int .u8 3] 5)) 1 (.slice (some ⟨w.heap.size, 0, none⟩) ([3] : Bytes).length 1) ([3] : Bytes).length (bvs [3]) := Sees.at rfl (by decide) (rangeAt_of_row (heap_alloc_new w (.cells ([.int .u8 3] : List Value).toArray 5)) rfl)
  have hw := txwrite_ok (H.out.1.upd hal (fun _ _ h => h)) 0 (by decide) (by decide) (some ⟨w.heap.size, 0, none⟩) 1 [3] hse
  have Hw := Lib.hid (And.intro hw hal)
  clear hw hse hal
  go_wp2_with fail
  refine Hw.out.1.mono ?_
  rintro e w2 ⟨r, rfl, hp⟩
  rcases hp with ⟨h0, _⟩ | ⟨_, _, _, rfl, hT, hu⟩
  · exfalso
    have hN := H.out.2.1
    simp at h0
    omega
  dsimp only
  have HT := Lib.hid (And.intro hT ((Hw.out.2.mono (fun _ _ h => h.elim)).trans hu))
  clear hT hu Hw
  go_wp2_with fail
  go_ret
  exact ⟨rfl, HT.out.1, HT.out.2⟩
theorem buildM (i : Int) (w : World) : (Instr.build 71 #[(0, .int .i64 i)]).run Try.prog w = .ok (.agg (Value.int .i64 i :: (bvs zeros512 ++ bvs zeros512)).toArray) w := by kernel_rfl
theorem sizeMap : (Try.prog.info? 71).map (·.size) = some 1025 := by kernel_rfl
theorem wpl_store_midL {P : Program} {ops : Array Oper} {Q : Exit → Act → World → Prop} {rest : List Oper} {dst : Option Tmp} {ty : TypeId} {pos : String} {aft : Array Edge} {a : Act} {w : World} {t : TypeId} {x y : Operand} (b off : Nat) (cells : List Value) (hx : a.eval x = .pointer (some ⟨b, off, none⟩)) (hy : a.eval y = .agg cells.toArray) (ht : w.there b off cells.length)
    (hi : (P.info? t).map (·.size) = some cells.length) (h1 : ∀ u ∈ cells, u.oneCell' = true) (h : wpList P ops Q rest (a.put dst undef) (w.setCells b off cells)) : wpList P ops Q (⟨dst, .store t x y, ty, pos, aft, none⟩ :: rest) a w :=
  wpList_plain rfl fun _ hK => wp_store_mid' b off cells hx hy ht hi h1 (hK _ _ h)
def GoodM (n : Nat) (x : Bytes) : Prop := hasB x 0 = true ∧ hasB x 1 = true ∧ ∀ c, n ≤ c → c < 4096 → hasB x c = false
/-- What a Load leaves. -/
def SpLoadPost (w : World) (n : Nat) (x : Bytes) (p : Option Addr) (r : Int) (w' : World) : Prop :=
  (GoodM n x ∧ ∃ m, p = some ⟨m, 0, none⟩ ∧ r = 0 ∧ w.heap.size ≤ m ∧ MapS w' m n x x ∧ Upd (fun _ => False) w w') ∨ (¬ GoodM n x ∧ p = none ∧ r = 11 ∧ Upd (fun _ => False) w w')
set_option maxHeartbeats 4000000 in
theorem spload_ok {w : World} {tb pb mb db lb fb skip ring N : Nat} {ot : Option Addr} {D : DSt} {es : List (Int × Bytes)} {G : Nat → Prop} (h : TxS w tb pb mb db lb fb skip ring N ot D es G) (hN : 1 ≤ N) (x : Bytes) (hx : lookV (imgs es) 0 = some (.agg (bvs x).toArray)) (hxl : x.length = 512) (n : Nat) (h2 : 2 ≤ n) (h3 : n ≤ 4096) :
    Calls Try.prog 11 #[.iface 25 (.pointer (some ⟨tb, 0, none⟩)), .int .i64 n] w fun e w' => ∃ p r, e = .returned (.tuple #[.pointer p, .int .i64 r]) ∧ SpLoadPost w n x p r w' := by
  have hc := spcheck_ok w tb (n : Int) (by omega) (by omega)
  have hrd := txread_dirty h 0 (by omega) (by omega) x hx hxl
  have H := Lib.hid (And.intro hc (And.intro hrd (And.intro hxl (And.intro h2 h3))))
  have hnI : (n : Int) ≤ 4096 := by omega
  have hnI2 : (2 : Int) ≤ (n : Int) := by omega
  have hmR := meth_read tb
  clear h hc hrd hx hxl hN h2 h3
  go_enter Try.func11, Try.ntmps11
  go_wp2_with fail
  refine H.out.1.mono ?_
  rintro e w1 ⟨rfl, rfl⟩
  dsimp only
  go_wp2_with fail
  refine H.out.2.1.mono ?_
  rintro e w1 ⟨g, rfl, hg, hcg, hu1⟩
  dsimp only
  have H1 := Lib.hid (And.intro hg (And.intro hcg hu1))
  clear hg hcg hu1
  have hal : Upd (fun _ => False) w1 (w1.alloc (.cells (Value.int .i64 n :: (bvs zeros512 ++ bvs zeros512)).toArray 71)) := (Upd.refl _ w1).alloc _
  have Hse : Sees (w1.alloc (.cells (Value.int .i64 n :: (bvs zeros512 ++ bvs zeros512)).toArray 71)) 1 (.slice (some ⟨g, 0, none⟩) 512 512) 512 (bvs x) :=
    (Sees.at (by rw [bvs_length, H.out.2.2.1]) (by decide) H1.out.2.1.range).upd hal (fun _ _ _ h => h)
  have Hth : (w1.alloc (.cells (Value.int .i64 n :: (bvs zeros512 ++ bvs zeros512)).toArray 71)).there w1.heap.size 1 (min 512 512 * 1) := there_of_row (heap_alloc_new w1 _) (by simp [bvs_length, zeros512])
  have Hcp : Hid ((w1.alloc (.cells (Value.int .i64 n :: (bvs zeros512 ++ bvs zeros512)).toArray 71)).setCells w1.heap.size 1 ((bvs x).take (min 512 512 * 1)) = w1.alloc (.cells (Value.int .i64 n :: (bvs x ++ bvs zeros512)).toArray 71)) := by
    have hl : (bvs x).length = 512 := by rw [bvs_length, H.out.2.2.1]
    have hz : (bvs zeros512).length = 512 := by simp [bvs_length, zeros512]
    show _ = _
    rw [List.take_of_length_le (by omega), setCells_alloc _ _ _ _ _ (by simp [hl, hz])]
    have e : splice (Value.int .i64 (n : Int) :: (bvs zeros512 ++ bvs zeros512)) 1 (bvs x) = Value.int .i64 n :: (bvs x ++ bvs zeros512) := by
      simp only [splice, List.take_succ_cons, List.take_zero, hl, List.cons_append, List.nil_append]
      rw [show 1 + 512 = 512 + 1 from rfl, List.drop_succ_cons, List.drop_left' hz]
    rw [e]
  have hM : MapS (w1.alloc (.cells (Value.int .i64 n :: (bvs x ++ bvs zeros512)).toArray 71)) w1.heap.size n x zeros512 := ⟨CellsA.new w1 _ _, H.out.2.2.1, by simp [zeros512]⟩
  have hal2 : Upd (fun _ => False) w1 (w1.alloc (.cells (Value.int .i64 n :: (bvs x ++ bvs zeros512)).toArray 71)) := (Upd.refl _ w1).alloc _
  have HM := Lib.hid (And.intro hM (And.intro hal2 (And.intro H1.out.2.2.size (H1.out.2.2.trans hal2))))
  clear hal hM hal2
  go_wp2_with (first | ((with_reducible apply wpl_build1 (.int .i64 n) (.agg (Value.int .i64 n :: (bvs zeros512 ++ bvs zeros512)).toArray)); exact rfl; exact buildM _; try (simp only [Act.put, List.setIfInBounds_toArray, List.set_cons_zero, List.set_cons_succ])) | ((with_reducible apply wpl_copy_sees); exact Try.underlying51; exact sizeB; exact rfl; exact Hse; exact Hth; exact bvs_one _; rw [Hcp.out]; try (simp only [Act.put, List.setIfInBounds_toArray, List.set_cons_zero, List.set_cons_succ])))
  clear Hse Hth Hcp
  generalize w1.alloc (.cells (Value.int .i64 n :: (bvs x ++ bvs zeros512)).toArray 71) = w2 at *
  generalize w1.heap.size = mp at *
  go_loopw [10] (fun i wr => ∃ k : Nat, n ≤ k ∧ k ≤ 4096 ∧ i = .int .i64 k ∧ w2 = wr ∧ Hid (∀ c, n ≤ c → c < k → hasB x c = false)) (fun i _ => 4096 - (intOf i).toNat)
  case atStart => exact ⟨n, Nat.le_refl _, H.out.2.2.2.2, rfl, rfl, fun c h1 h2 => by omega⟩
  case round =>
    obtain ⟨k, hk1, hk2, rfl, rfl, HR⟩ := hrel
    by_cases hlt : k < 4096
    · have hkI : (k : Int) < 4096 := by omega
      have hh := has_ok w2 mp 1 x H.out.2.2.1 HM.out.1.rnow k hlt
      obtain ⟨v, hv⟩ : ∃ v, hasB x k = v := ⟨_, rfl⟩
      rw [hv] at hh
      have Hh := Lib.hid (And.intro hh hv)
      clear hh hv
      go_wp2_with fail
      refine Hh.out.1.mono ?_
      rintro e w3 ⟨rfl, rfl⟩
      dsimp only
      cases v with
      | true =>
        go_wp2_with fail
        go_ret2
        exact ⟨none, 11, rfl, .inr ⟨(fun hg => by have := hg.2.2 k hk1 hlt; rw [Hh.out.2] at this; cases this), rfl, rfl, HM.out.2.2.2⟩⟩
      | false =>
        have HRn : Hid (∀ c, n ≤ c → c < k + 1 → hasB x c = false) := fun c h1 h2 => by
          by_cases hc : c = k
          · rw [hc]; exact Hh.out.2
          · exact HR.out c h1 (by omega)
        clear HR
        go_wp2_with fail
        exact ⟨⟨k + 1, by omega, by omega, by go_num, by trivial, HRn⟩, by simp [intOf]; omega⟩
    · obtain rfl : k = 4096 := by omega
      have h0 := has_ok w2 mp 1 x H.out.2.2.1 HM.out.1.rnow 0 (by omega)
      have h1 := has_ok w2 mp 1 x H.out.2.2.1 HM.out.1.rnow 1 (by omega)
      obtain ⟨v0, hv0⟩ : ∃ v, hasB x 0 = v := ⟨_, rfl⟩
      obtain ⟨v1, hv1⟩ : ∃ v, hasB x 1 = v := ⟨_, rfl⟩
      rw [hv0] at h0
      rw [hv1] at h1
      have Hh := Lib.hid (And.intro h0 (And.intro h1 (And.intro hv0 hv1)))
      clear h0 h1 hv0 hv1 hlt
      go_wp2_with fail
      refine Hh.out.1.mono ?_
      rintro e w3 ⟨rfl, rfl⟩
      dsimp only
      cases v0 with
      | false =>
        go_wp2_with fail
        go_ret2
        exact ⟨none, 11, rfl, .inr ⟨(fun hg => by have := hg.1; rw [Hh.out.2.2.1] at this; cases this), rfl, rfl, HM.out.2.2.2⟩⟩
      | true =>
      go_wp2_with fail
      refine Hh.out.2.1.mono ?_
      rintro e w3 ⟨rfl, rfl⟩
      dsimp only
      cases v1 with
      | false =>
        go_wp2_with fail
        go_ret2
        exact ⟨none, 11, rfl, .inr ⟨(fun hg => by have := hg.2.1; rw [Hh.out.2.2.2] at this; cases this), rfl, rfl, HM.out.2.2.2⟩⟩
      | true =>
      have hr := HM.out.1.rnow
      have hsz : (Try.prog.info? 69).map (·.size) = some (bvs x).length := by rw [bvs_length, H.out.2.2.1]; exact sizeSet
      have Hsz := Lib.hid hsz
      have hto : w2.there mp 513 (bvs x).length := there_of_row HM.out.1.cells (by simp [bvs_length, H.out.2.2.1, zeros512])
      have Hto := Lib.hid hto
      clear hsz hto
      go_wp2_with (first | ((with_reducible apply wpl_load_mid mp 1 (bvs x)); exact rfl; exact hr; exact Try.underlying69; exact rfl; exact Hsz.out; try (simp only [Act.put, List.setIfInBounds_toArray, List.set_cons_zero, List.set_cons_succ])) | ((with_reducible apply wpl_store_midL mp 513 (bvs x)); exact rfl; exact rfl; exact Hto.out; exact Hsz.out; exact bvs_one x; try (simp only [Act.put, List.setIfInBounds_toArray, List.set_cons_zero, List.set_cons_succ])))
      go_ret2
      have hl := H.out.2.2.1
      have hz : (bvs zeros512).length = 512 := by simp [bvs_length, zeros512]
      have hlx : (bvs x).length = 512 := by rw [bvs_length, hl]
      have e : splice (Value.int .i64 (n : Int) :: (bvs x ++ bvs zeros512)) 513 (bvs x) = Value.int .i64 n :: (bvs x ++ bvs x) := by
        simp only [splice]
        rw [show 513 = 512 + 1 from rfl, List.take_succ_cons, List.take_left' hlx, hlx, show 512 + 1 + 512 = 1024 + 1 from rfl, List.drop_succ_cons, List.drop_of_length_le (by simp [hlx, hz]), List.append_nil]
        rfl
      have hc := heap_setCells_same mp 71 (bvs x) 513 _ w2 HM.out.1.cells (by simp [hlx, hz])
      rw [e] at hc
      have hlt0 := HM.out.2.2.1
      exact ⟨some ⟨mp, 0, none⟩, 0, rfl, .inl ⟨⟨Hh.out.2.2.1, Hh.out.2.2.2, fun c h1 h2 => HR.out c h1 h2⟩, mp, rfl, rfl, hlt0, ⟨hc, hl, hl⟩, upd_setCells mp _ 513 HM.out.2.2.2 (.inr hlt0)⟩⟩
end Go.Proofs.Ytndhcimepgcfaaa
