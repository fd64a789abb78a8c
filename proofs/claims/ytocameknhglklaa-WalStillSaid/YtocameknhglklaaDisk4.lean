/- Contracts of package disk: Read, Durable. -/
import Derived.Test.YtocameknhglklaaDisk3
namespace Go.Proofs.Ytocameknhglklaa
open Go.RowKit
set_option linter.unusedSimpArgs false
set_option maxRecDepth 100000

theorem lastOf_none (ws : List (Nat × Bytes)) (i : Nat) (was : Bytes) (h : ∀ p ∈ ws, p.1 ≠ i) : lastOf ws i was = was := by
  induction ws generalizing was with
  | nil => rfl
  | cons p r ih =>
    rw [lastOf, List.foldl_cons, if_neg (h p (List.mem_cons_self ..))]
    exact ih _ (fun q hq => h q (List.mem_cons_of_mem _ hq))
theorem lastOf_append (a b : List (Nat × Bytes)) (i : Nat) (was : Bytes) : lastOf (a ++ b) i was = lastOf b i (lastOf a i was) := by simp [lastOf]
theorem lastOf_hit (ws : List (Nat × Bytes)) (i : Nat) (was : Bytes) (k : Nat) (hk : k < ws.length) (he : ws[k].1 = i) (h : ∀ j (hj : j < ws.length), k < j → ws[j].1 ≠ i) : lastOf ws i was = ws[k].2 := by
  have e : ws = ws.take k ++ ws[k] :: ws.drop (k + 1) := by rw [← List.drop_eq_getElem_cons hk, List.take_append_drop]
  have e2 : lastOf ws i was = lastOf (ws.take k ++ ws[k] :: ws.drop (k + 1)) i was := congrArg (fun l => lastOf l i was) e
  rw [e2, lastOf_append, lastOf, List.foldl_cons, if_pos he]
  refine (lastOf_none _ i _ fun p hp => ?_).trans (by simp)
  obtain ⟨j, hj, rfl⟩ := List.getElem_of_mem hp
  simp only [List.length_drop] at hj
  rw [List.getElem_drop]
  exact h _ (by omega) (by omega)

set_option maxHeartbeats 2000000 in
theorem read_core (b sb sc : Nat) (xa : Option Addr) (xc : Nat) (S : List Bytes) (W : List (Nat × Bytes)) (f : Int) (cur : List Value) (i : Nat) (w : World) (hb : w.heap[b]? = some (.cells #[.slice (some ⟨sb, 0, none⟩) S.length sc, .slice xa W.length xc, .int .i64 f, .bool false] 74 (0, 0)))
    (hwv : w.ownsRow 0 120 513 (.slice xa W.length xc) W.length (waitsV W)) (hc : w.heap[sb]? = some (.cells cur.toArray 118 (0, 0))) (hl : cur.length = sc * 512) (ht : cur.take (S.length * 512) = secsV S) (hsc : S.length ≤ sc)
    (hS : ∀ x ∈ S, x.length = 512) (hW : ∀ p ∈ W, p.1 < S.length ∧ p.2.length = 512) (hm : W.length < 100000000000) (hi : i < S.length) :
    Calls Try.prog 46 #[.pointer (some ⟨b, 0, none⟩), .int .i64 i] w fun e w' => ∃ x' c', e = .returned (.tuple #[.slice (some x') 512 c', .int .i64 0]) ∧
      w'.ownsRow w.heap.size 5 1 (.slice (some x') 512 c') 512 (bvs (lastOf W i (S.getD i []))) ∧ Upd (fun _ => False) w w' := by
  obtain ⟨c0, c1, c2, c3⟩ := four hb
  have hm2 : (W.length : Int) ≤ 100000000000 := by omega
  have hi0 : (0 : Int) ≤ (i : Int) := by omega
  have hi1 : (i : Int) < (S.length : Int) := by omega
  have HW := Lib.hid hW
  have hSi : S[i].length = 512 := hS _ (List.getElem_mem hi)
  have hlS : (secsV S).length = S.length * 512 := secsV_length hS
  have hrS : w.rangeAt sb (i * 512) (bvs S[i]) := rangeAt_of_row hc (by
    have h1 := secs_piece hS i hi
    rw [bvs_length, hSi, ← h1, ← ht, List.drop_take, List.take_take, Nat.min_eq_left (by omega)])
  have Hg : Hid (S.getD i [] = S[i]) := by simp [List.getD, hi, Hid]
  have HSi := Lib.hid hSi
  clear hm hW hS hl ht hSi hlS
  go_enter Try.func46, Try.ntmps46
  go_wp2_with (go_at_call 50; refine (check_ok b _ _ _ i _ c3 c0 hi0 hi1).mono ?_; rintro e w' ⟨rfl, rfl⟩; dsimp only)
  go_loop [7] (fun v => ∃ j : Nat, j ≤ W.length ∧ v = .int .i64 ((j : Int) - 1) ∧ Hid (∀ t (ht : t < W.length), j ≤ t → W[t].1 ≠ i))
    (fun v => (intOf v + 1).toNat)
  case atStart => exact ⟨W.length, Nat.le_refl _, rfl, fun t ht hj => by omega⟩
  case round =>
    obtain ⟨j, hj, rfl, hR⟩ := hrel
    by_cases h0 : j = 0
    · subst h0
      have hneg : decide ((0 : Int) ≤ ((0 : Nat) : Int) - 1) = false := by decide
      go_wp2_with fail
      refine (cloneB_some ⟨sb, i * 512, none⟩ 512 512 (bvs S[i]) _ (Sees.at (by rw [bvs_length, HSi.out]) (by decide) hrS) (bvs_one _) (by decide)).mono ?_
      rintro e w' ⟨x', c', rfl, hown, hu⟩
      dsimp only
      go_wp2_with fail
      go_ret2
      refine ⟨x', c', rfl, ?_, hu⟩
      rw [lastOf_none W i _ (fun p hp => by obtain ⟨t, ht, rfl⟩ := List.getElem_of_mem hp; exact hR.out t ht (Nat.zero_le _)), Hg.out]
      exact hown
    · obtain ⟨k, rfl⟩ : ∃ k, j = k + 1 := ⟨j - 1, by omega⟩
      have hlt : k < W.length := by omega
      obtain ⟨g, rfl⟩ : ∃ g, xa = some ⟨g, 0, none⟩ := by
        rcases hwv.2 with ⟨_, h0⟩ | ⟨g, _, _, h, _⟩
        · omega
        · cases h; exact ⟨g, rfl⟩
      have hpc := waits_piece (fun p hp => (HW.out p hp).2) k hlt
      have hrg := row_range hwv hpc
      have hp := HW.out W[k] (List.getElem_mem hlt)
      obtain ⟨q, d, hWk⟩ : ∃ q d, W[k] = (q, d) := ⟨_, _, rfl⟩
      rw [hWk] at hrg hp
      have hc0 : w.cell? ⟨g, k * 513, none⟩ = some (.int .i64 q) := rangeAt.cell hrg 0 rfl
      have hr1 : w.rangeAt g (k * 513 + 1) (bvs d) := rangeAt.sub hrg 1 (by simp [waitV])
      have hlt' : (k : Int) < (W.length : Int) := by omega
      have hk0 : (0 : Int) ≤ (k : Int) := by omega
      have e1 : ((k + 1 : Nat) : Int) - 1 = (k : Int) := by omega
      have Hd := Lib.hid hp.2
      have HWk := Lib.hid hWk
      clear hpc hp hWk hrg
      rw [e1]
      clear e1
      by_cases hq : q = i
      · subst hq
        go_wp2_with fail
        refine (cloneB_some ⟨g, k * 513 + 1, none⟩ 512 512 (bvs d) _ (Sees.at (by rw [bvs_length, Hd.out]) (by decide) hr1) (bvs_one _) (by decide)).mono ?_
        rintro e w' ⟨x', c', rfl, hown, hu⟩
        dsimp only
        go_wp2_with fail
        go_ret2
        refine ⟨x', c', rfl, ?_, hu⟩
        rw [lastOf_hit W q _ k hlt (by rw [HWk.out]) (fun t ht hkt => hR.out t ht hkt), HWk.out]
        exact hown
      · have hne : ((q : Int) == (i : Int)) = false := by simp; omega
        have Hq := Lib.hid hq
        clear hq
        go_wp2_with fail
        refine ⟨⟨k, by omega, rfl, fun t ht hkt => ?_⟩, by simp [intOf]⟩
        by_cases h : t = k
        · subst h; rw [HWk.out]; exact Hq.out
        · exact hR.out t ht (by omega)

/-- A read that is refused. -/
theorem read_err (b : Nat) (i r : Int) (w : World) (hr : (r != 0) = true) (hc : Calls Try.prog 50 #[.pointer (some ⟨b, 0, none⟩), .int .i64 i] w fun e w' => e = .returned (.int .i64 r) ∧ w = w') :
    Calls Try.prog 46 #[.pointer (some ⟨b, 0, none⟩), .int .i64 i] w fun e w' => e = .returned (.tuple #[.slice none 0 0, .int .i64 r]) ∧ w = w' := by
  have Hc := Lib.hid hc
  clear hc
  go_enter Try.func46, Try.ntmps46
  go_wp2_with fail
  refine Hc.out.mono ?_
  rintro e w' ⟨rfl, rfl⟩
  dsimp only
  go_wp2_with fail
  go_ret2
  exact ⟨rfl, rfl⟩
theorem write_err (b : Nat) (i r : Int) (v : Value) (w : World) (hr : (r != 0) = true) (hc : Calls Try.prog 50 #[.pointer (some ⟨b, 0, none⟩), .int .i64 i] w fun e w' => e = .returned (.int .i64 r) ∧ w = w') :
    Calls Try.prog 42 #[.pointer (some ⟨b, 0, none⟩), .int .i64 i, v] w fun e w' => e = .returned (.int .i64 r) ∧ w = w' := by
  have Hc := Lib.hid hc
  clear hc
  go_enter Try.func42, Try.ntmps42
  go_wp2_with fail
  refine Hc.out.mono ?_
  rintro e w' ⟨rfl, rfl⟩
  dsimp only
  go_wp2_with fail
  go_ret
  exact ⟨rfl, rfl⟩
theorem write_long (b : Nat) (i : Int) (da : Option Addr) (n dc : Nat) (w : World) (hn : (512 : Int) < (n : Int)) (hc : Calls Try.prog 50 #[.pointer (some ⟨b, 0, none⟩), .int .i64 i] w fun e w' => e = .returned (.int .i64 0) ∧ w = w') :
    Calls Try.prog 42 #[.pointer (some ⟨b, 0, none⟩), .int .i64 i, .slice da n dc] w fun e w' => e = .returned (.int .i64 1) ∧ w = w' := by
  have Hc := Lib.hid hc
  clear hc
  go_enter Try.func42, Try.ntmps42
  go_wp2_with fail
  refine Hc.out.mono ?_
  rintro e w' ⟨rfl, rfl⟩
  dsimp only
  go_wp2_with fail
  go_ret
  exact ⟨rfl, rfl⟩
theorem write_die (b : Nat) (i : Int) (da : Option Addr) (n dc : Nat) (sv wv : Value) (f : Int) (w : World) (hf : f = 0) (hb : w.heap[b]? = some (.cells #[sv, wv, .int .i64 f, .bool false] 74 (0, 0))) (hn : (n : Int) ≤ (512 : Int)) (hc : Calls Try.prog 50 #[.pointer (some ⟨b, 0, none⟩), .int .i64 i] w fun e w' => e = .returned (.int .i64 0) ∧ w = w') :
    Calls Try.prog 42 #[.pointer (some ⟨b, 0, none⟩), .int .i64 i, .slice da n dc] w fun e w' => e = .returned (.int .i64 10) ∧ w' = w.setCell ⟨b, 3, none⟩ (.bool true) := by
  have Hc := Lib.hid hc
  have Hf := Lib.hid hf
  clear hc hf
  go_enter Try.func42, Try.ntmps42
  go_wp2_with fail
  refine Hc.out.mono ?_
  rintro e w' ⟨rfl, rfl⟩
  dsimp only
  go_wp2_with fail
  refine (burn_die b _ _ _ _ _ Hf.out hb).mono ?_
  rintro e w' ⟨rfl, rfl⟩
  dsimp only
  go_wp2_with fail
  go_ret
  exact ⟨rfl, rfl⟩
theorem flush_err (b : Nat) (r : Int) (w : World) (hr : (r != 0) = true) (hc : Calls Try.prog 50 #[.pointer (some ⟨b, 0, none⟩), .int .i64 0] w fun e w' => e = .returned (.int .i64 r) ∧ w = w') :
    Calls Try.prog 27 #[.pointer (some ⟨b, 0, none⟩)] w fun e w' => e = .returned (.int .i64 r) ∧ w = w' := by
  have Hc := Lib.hid hc
  clear hc
  go_enter Try.func27, Try.ntmps27
  go_wp2_with fail
  refine Hc.out.mono ?_
  rintro e w' ⟨rfl, rfl⟩
  dsimp only
  go_wp2_with fail
  go_ret
  exact ⟨rfl, rfl⟩
theorem flush_die (b : Nat) (sv wv : Value) (f : Int) (w : World) (hf : f = 0) (hb : w.heap[b]? = some (.cells #[sv, wv, .int .i64 f, .bool false] 74 (0, 0))) (hc : Calls Try.prog 50 #[.pointer (some ⟨b, 0, none⟩), .int .i64 0] w fun e w' => e = .returned (.int .i64 0) ∧ w = w') :
    Calls Try.prog 27 #[.pointer (some ⟨b, 0, none⟩)] w fun e w' => e = .returned (.int .i64 10) ∧ w' = w.setCell ⟨b, 3, none⟩ (.bool true) := by
  have Hc := Lib.hid hc
  have Hf := Lib.hid hf
  clear hc hf
  go_enter Try.func27, Try.ntmps27
  go_wp2_with fail
  refine Hc.out.mono ?_
  rintro e w' ⟨rfl, rfl⟩
  dsimp only
  go_wp2_with fail
  refine (burn_die b _ _ _ _ _ Hf.out hb).mono ?_
  rintro e w' ⟨rfl, rfl⟩
  dsimp only
  go_wp2_with fail
  go_ret
  exact ⟨rfl, rfl⟩
end Go.Proofs.Ytocameknhglklaa
