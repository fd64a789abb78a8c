/- docketlaw04: blocks; nil pagers and transactions. -/
import Derived.Test.YtihlijnobbonbaaGreatPa10
namespace Go.Proofs.YtihlijnobbonbaaGreat
open Go Go.RowKit
set_option linter.unusedSimpArgs false
set_option linter.unusedVariables false
set_option maxRecDepth 100000

/-- All blocks, as texts. -/
def allB (cs : List Img) (n : Nat) : Batch := (List.range n).map fun (b : Nat) => strV (atC cs (b : Int))
theorem allB_succ (cs : List Img) (n : Nat) : allB cs (n + 1) = allB cs n ++ [strV (atC cs (n : Int))] := by simp [allB, List.range_succ]
theorem allB_length (cs : List Img) (n : Nat) : (allB cs n).length = n := by simp [allB]
theorem conv_mid (v : Value) (bs : Bytes) (w : World) (h : Sees w 1 v bs.length (bvs bs)) : (convert 38 9 v).run Tryz.prog w = .ok (.string (strV bs)) w :=
  run_bytes_string 38 5 9 Tryz.underlying38 Tryz.underlying5 Tryz.underlying9 v bs h
/-- What blocks answers. -/
def BlkPost (w : World) (pb db skip N : Nat) (cs : List Img) (sy : Nat) (f : Int) (K : Nat → Prop) (e : Ending) (w' : World) : Prop :=
  ∃ (x : Option Addr) (c : Nat) (K' : Nat → Prop), e = .returned (.tuple #[.slice x N c, .bool true]) ∧ Sees w' 1 (.slice x N c) N (strsV (allB cs N)) ∧ (∀ q, (Value.slice x N c).ownBlock = some q → w.heap.size ≤ q ∧ ¬ K' q) ∧ Pgr w' pb db skip N cs sy f K' ∧ Fut w w' K K'
/-- In its loop. -/
def BlkR (w : World) (tb pb db skip N : Nat) (cs : List Img) (sy : Nat) (f : Int) (K K1 : Nat → Prop) (x : Option Addr) (c k : Nat) (wr : World) : Prop :=
  Txr wr tb pb db skip N cs [] sy f K1 ∧ Fut w wr K K1 ∧ Mid wr 1 (.slice x k c) k (strsV (allB cs k)) ∧ (∀ q, (Value.slice x k c).ownBlock = some q → w.heap.size ≤ q ∧ ¬ K1 q)
set_option maxHeartbeats 8000000 in
theorem blocks_all {w : World} {pb db skip N sy : Nat} {cs : List Img} {f : Int} {K : Nat → Prop} (h : Pgr w pb db skip N cs sy f K) :
    Calls Tryz.prog 18 #[.pointer (some ⟨pb, 0, none⟩)] w fun e w' => BlkPost w pb db skip N cs sy f K e w' := by
  have hN := h.ok.2.2.2
  have hNI : (N : Int) ≤ 4096 := by omega
  have H := Lib.hid (And.intro h hN)
  clear h hN
  go_enter Tryz.func18, Tryz.ntmps18
  go_wp2_with fail
  refine (qbegin_ok H.out.1).mono ?_
  rintro e w1 ⟨tb, K1, rfl, ht, hf⟩
  dsimp only
  have HQ : Hid (BlkR w tb pb db skip N cs sy f K K1 none 0 0 w1) := ⟨ht, hf, Mid.nil _ _, fun q hq => by cases hq⟩
  clear ht hf
  go_wp2_with fail
  go_loopw [6, 7] (fun v i wr => ∃ (k c : Nat) (x : Option Addr), k ≤ N ∧ i = .int .i64 k ∧ v = .slice x k c ∧ Hid (BlkR w tb pb db skip N cs sy f K K1 x c k wr)) (fun _ i _ => N - (intOf i).toNat)
  case atStart => exact ⟨0, 0, none, Nat.zero_le _, rfl, rfl, HQ⟩
  case round =>
    clear HQ
    obtain ⟨k, c, x, hk, rfl, rfl, HR⟩ := hrel
    by_cases hlt : k < N
    · have hltI : (k : Int) < (N : Int) := by omega
      go_wp2_with fail
      refine (qblocks_tx HR.out.1).mono ?_
      rintro e w2 ⟨rfl, hu2⟩
      dsimp only
      have HR2 : Hid (BlkR w tb pb db skip N cs sy f K K1 x c k w2) := by
        obtain ⟨r1, r2, r3, r4⟩ := HR.out
        exact ⟨r1.upd hu2 (fun _ _ h => h), r2.trans (Fut.quiet _ hu2), r3.upd hu2 (fun _ _ h => h), r4⟩
      clear hu2 HR
      go_wp2_with fail
      have hrd := qread_ok HR2.out.1 k hlt
      have hlen := HR2.out.1.look_len (k : Int)
      have e0 : (lookB ([] : Img) (k : Int)).getD (atC cs (k : Int)) = atC cs (k : Int) := rfl
      rw [e0] at hrd hlen
      obtain ⟨y, hy⟩ : ∃ y, atC cs (k : Int) = y := ⟨_, rfl⟩
      rw [hy] at hrd hlen
      refine hrd.mono ?_
      rintro e w3 ⟨xa, xc, rfl, hm, hnw, hu3⟩
      dsimp only
      have hcv := conv_mid (.slice xa 512 xc) y w3 (by rw [hlen]; exact hm.sees)
      obtain ⟨s, hs⟩ : ∃ s, strV y = s := ⟨_, rfl⟩
      rw [hs] at hcv
      have HR3 : Hid (BlkR w tb pb db skip N cs sy f K K1 x c k w3) := by
        obtain ⟨r1, r2, r3, r4⟩ := HR2.out
        exact ⟨r1.upd hu3 (fun _ _ h => h), r2.trans (Fut.quiet _ hu3), r3.upd hu3 (fun _ _ h => h), r4⟩
      have Hy : Hid (strV (atC cs (k : Int)) = s) := by rw [hy]; exact hs
      clear hm hnw hu3 HR2 hrd hlen e0 hy hs
      go_wp2_with ((with_reducible apply wpl_append_mid 9 1 16 _ (.slice x k c) k (strsV (allB cs k)) 1 [.string s]))
      · exact Tryz.underlying41
      · exact infoS
      · rfl
      · rfl
      · exact HR3.out.2.2.1.upd ((Upd.refl (fun _ => False) w3).alloc _) (fun _ _ h => h)
      · exact Sees.at rfl (by decide) (rangeAt_of_row (heap_alloc_new w3 (.cells ([.string s] : List Value).toArray 9)) rfl)
      · intro u hu; simp at hu; rw [hu]; rfl
      · unfold maxLen; omega
      · omega
      intro x' c' w4 hm4 hu4 hb4
      try (simp only [Act.put, List.setIfInBounds_toArray, List.set_cons_zero, List.set_cons_succ])
      have hst : strsV (allB cs k) ++ [.string s] = strsV (allB cs (k + 1)) := by
        rw [allB_succ, Hy.out]; simp [strsV]
      rw [hst] at hm4
      have HR4 : Hid (BlkR w tb pb db skip N cs sy f K K1 x' c' (k + 1) w4) := by
        obtain ⟨r1, r2, r3, r4⟩ := HR3.out
        have ha : Upd (fun _ => False) w3 (w3.alloc (.cells #[.string s] 9)) := (Upd.refl _ w3).alloc _
        have hz := r2.upd.size
        have hlt3 := r1.lt
        have hal : Upd (fun q => (Value.slice x k c).ownBlock = some q) w3 w4 := (ha.mono (fun _ _ h => h.elim)).trans hu4
        refine ⟨r1.upd hal (fun q hq e => (r4 q e).2 hq), ⟨r2.upd.then hal (fun q hq => .inr (r4 q hq).1), r2.own⟩, hm4, fun q hq => ?_⟩
        rcases hb4 with e | e
        · rw [e] at hq; exact r4 q hq
        · rw [e] at hq
          cases hq
          have : (w3.alloc (.cells #[.string s] 9)).heap.size = w3.heap.size + 1 := by simp
          refine ⟨by omega, fun h => ?_⟩
          have := hlt3 _ h
          omega
      clear hm4 hu4 hb4 hst HR3
      go_wp2_with fail
      exact ⟨⟨k + 1, c', x', by omega, by go_num, rfl, HR4⟩, by simp [intOf]; omega⟩
    · obtain rfl : k = N := by omega
      go_wp2_with fail
      refine (qblocks_tx HR.out.1).mono ?_
      rintro e w2 ⟨rfl, hu2⟩
      dsimp only
      have HR2 : Hid (BlkR w tb pb db skip k cs sy f K K1 x c k w2) := by
        obtain ⟨r1, r2, r3, r4⟩ := HR.out
        exact ⟨r1.upd hu2 (fun _ _ h => h), r2.trans (Fut.quiet _ hu2), r3.upd hu2 (fun _ _ h => h), r4⟩
      clear hu2 HR
      go_wp2_with fail
      refine (qabort_ok HR2.out.1).mono ?_
      rintro e w3 ⟨K3, rfl, hp, hf⟩
      dsimp only
      have HP : Hid (Pgr w3 pb db skip k cs sy f K3 ∧ Fut w w3 K K3 ∧ Sees w3 1 (.slice x k c) k (strsV (allB cs k)) ∧ (∀ q, (Value.slice x k c).ownBlock = some q → w.heap.size ≤ q ∧ ¬ K3 q)) := by
        obtain ⟨r1, r2, r3, r4⟩ := HR2.out
        exact ⟨hp, r2.trans hf, (r3.upd hf.upd (fun q hq => (r4 q hq).2)).sees, fun q hq => ⟨(r4 q hq).1, hf.out (r3.lt q hq) (r4 q hq).2⟩⟩
      clear hp hf HR2
      go_wp2_with fail
      go_ret2
      exact ⟨x, c, K3, rfl, HP.out.2.2.1, HP.out.2.2.2, HP.out.1, HP.out.2.1⟩
end Go.Proofs.YtihlijnobbonbaaGreat
