/- Contracts of package disk: Flush. -/
import Derived.Test.YtocameknhglklaaClone
namespace Go.Proofs.Ytocameknhglklaa
open Go.RowKit
set_option linter.unusedSimpArgs false
set_option maxRecDepth 100000

theorem secsV_length {l : List Bytes} (h : ∀ x ∈ l, x.length = 512) : (secsV l).length = l.length * 512 := flat_length bvs 512 l (fun x hx => by rw [bvs_length, h x hx])
theorem waitV_length {p : Nat × Bytes} (h : p.2.length = 512) : (waitV p).length = 513 := by simp [waitV, bvs_length, h]
theorem waits_piece {l : List (Nat × Bytes)} (h : ∀ p ∈ l, p.2.length = 512) (k : Nat) (hk : k < l.length) : ((waitsV l).drop (k * 513)).take (waitV l[k]).length = waitV l[k] := by
  rw [waitV_length (h _ (List.getElem_mem hk))]
  exact flat_piece waitV 513 l k hk (fun p hp => waitV_length (h p hp))
theorem secs_piece {l : List Bytes} (h : ∀ x ∈ l, x.length = 512) (k : Nat) (hk : k < l.length) : ((secsV l).drop (k * 512)).take 512 = bvs l[k] :=
  flat_piece bvs 512 l k hk (fun x hx => by rw [bvs_length, h x hx])
theorem sizeK : (Try.prog.info? 118).map (·.size) = some 512 := by kernel_rfl

/-- The world in the middle of a loop that writes sectors: what w0 was, but for the sectors' row, that holds s. -/
def SecsR (w0 : World) (b : Nat) (B : Obj) (sb sc : Nat) (s : List Bytes) (wr : World) : Prop :=
  Upd (fun x => x = b ∨ x = sb) w0 wr ∧ wr.heap[b]? = some B ∧ ∃ cur : List Value, wr.heap[sb]? = some (.cells cur.toArray 118 (0, 0)) ∧ cur.length = sc * 512 ∧ cur.take (s.length * 512) = secsV s

theorem SecsR.drew {w0 : World} {b : Nat} {B : Obj} {sb sc : Nat} {s : List Bytes} {wr : World} (h : SecsR w0 b B sb sc s wr) : SecsR w0 b B sb sc s wr.drew := ⟨h.1.drew, h.2⟩
theorem SecsR.store {w0 : World} {b : Nat} {B : Obj} {sb sc : Nat} {s : List Bytes} {wr : World} (h : SecsR w0 b B sb sc s wr) (hb : b ≠ sb) (hsc : s.length ≤ sc) (hs : ∀ x ∈ s, x.length = 512) (i : Nat) (hi : i < s.length) (d : Bytes) (hd : d.length = 512) :
    SecsR w0 b B sb sc (s.set i d) (wr.setCells sb (i * 512) (bvs d)) := by
  obtain ⟨hu, hB, cur, hc, hl, ht⟩ := h
  have hle : s.length * 512 ≤ sc * 512 := Nat.mul_le_mul_right _ hsc
  have hii : i * 512 + 512 ≤ s.length * 512 := by omega
  refine ⟨upd_setCells sb _ _ hu (.inl (.inr rfl)), (heap_setCells_other sb _ _ wr b hb).trans hB, splice cur (i * 512) (bvs d), heap_setCells_same sb _ _ _ cur wr hc (by rw [bvs_length, hd, hl]; omega), ?_, ?_⟩
  · rw [length_splice cur _ _ (by rw [bvs_length, hd, hl]; omega), hl]
  · rw [List.length_set]
    have e : splice (secsV s) (i * 512) (bvs d) = secsV (s.set i d) := flat_set bvs 512 s i d hi (fun x hx => by rw [bvs_length, hs x hx]) (by rw [bvs_length, hd])
    rw [← e, ← ht]
    exact take_splice cur (bvs d) (s.length * 512) (i * 512) (by rw [bvs_length, hd]; exact hii) (by rw [hl]; exact hle)

theorem done_take (s : List Bytes) (ws : List (Nat × Bytes)) (k : Nat) (hk : k < ws.length) : done s (ws.take (k + 1)) = (done s (ws.take k)).set ws[k].1 ws[k].2 := by
  rw [List.take_succ_eq_append_getElem hk, done_append]
  rfl

set_option maxHeartbeats 1000000 in
theorem flush_core (b sb sc : Nat) (xa : Option Addr) (xc : Nat) (S : List Bytes) (W : List (Nat × Bytes)) (f : Int) (cur : List Value) (w : World) (hb : w.heap[b]? = some (.cells #[.slice (some ⟨sb, 0, none⟩) S.length sc, .slice xa W.length xc, .int .i64 f, .bool false] 74 (0, 0)))
    (hwv : w.ownsRow 0 120 513 (.slice xa W.length xc) W.length (waitsV W)) (hc : w.heap[sb]? = some (.cells cur.toArray 118 (0, 0))) (hl : cur.length = sc * 512) (ht : cur.take (S.length * 512) = secsV S) (hsc : S.length ≤ sc)
    (hS : ∀ x ∈ S, x.length = 512) (hW : ∀ p ∈ W, p.1 < S.length ∧ p.2.length = 512) (hbs : b ≠ sb) (hwb : ∀ x, xa = some x → x.block ≠ b ∧ x.block ≠ sb) (hm : W.length < 100000000000) (h1 : 1 ≤ S.length) (h2 : S.length ≤ 4096)
    (hf : f ≠ 0) (hfm : f ≤ 9223372036854775807) :
    Calls Try.prog 27 #[.pointer (some ⟨b, 0, none⟩)] w fun e w' => e = .returned (.int .i64 0) ∧
      SecsR w b (.cells #[.slice (some ⟨sb, 0, none⟩) S.length sc, .slice none 0 0, .int .i64 (burnt f), .bool false] 74 (0, 0)) sb sc (done S W) w' := by
  obtain ⟨c0, c1, c2, c3⟩ := four hb
  have hm2 : (W.length : Int) ≤ 100000000000 := by omega
  have Hf := Lib.hid hf
  have HW := Lib.hid hW
  have HS := Lib.hid hS
  have Ht := Lib.hid ht
  have Hl := Lib.hid hl
  have H2 := Lib.hid (And.intro h1 (And.intro h2 hm))
  have hn1 : (0 : Int) < S.length := by omega
  clear hf hm h1 h2 hW hS ht hl
  go_enter Try.func27, Try.ntmps27
  go_wp2_with (go_at_call 50; refine (check_ok b _ _ _ 0 _ c3 c0 (Int.le_refl _) hn1).mono ?_; rintro e w' ⟨rfl, rfl⟩; dsimp only)
  refine (burn_ok b _ _ _ _ Hf.out hfm hb).mono ?_
  rintro e w1 ⟨rfl, hb1, hu1, hs1⟩
  dsimp only
  obtain ⟨d0, d1, d2, d3⟩ := four hb1
  have Hs := Lib.hid hs1
  have hc1 := hu1.heap hc (fun e => hbs e.symm)
  have hwv1 : w1.ownsRow 0 120 513 (.slice xa W.length xc) W.length (waitsV W) := hu1.row hwv (fun k hk e => by cases xa with | none => cases hk | some x => exact (hwb x rfl).1 (by subst e; simpa [Value.ownBlock] using hk))
  clear c0 c1 c2 c3 hs1 hb hc hwv
  go_wp2_with fail
  go_loopw [19] (fun v wr => ∃ k : Nat, k ≤ W.length ∧ v = .int .i64 k ∧ SecsR w1 b (.cells #[.slice (some ⟨sb, 0, none⟩) S.length sc, .slice xa W.length xc, .int .i64 (burnt f), .bool false] 74 (0, 0)) sb sc (done S (W.take k)) wr)
    (fun v _ => W.length - (intOf v).toNat)
  case atStart => exact ⟨0, Nat.zero_le _, rfl, Upd.refl _ _, hb1, cur, hc1, Hl.out, Ht.out⟩
  case round =>
    obtain ⟨k, hk, rfl, hR⟩ := hrel
    have hRb := hR.2.1
    obtain ⟨r0, r1, r2, r3⟩ := four hRb
    clear d0 d1 d2 d3
    by_cases hlt : k < W.length
    · obtain ⟨g, rfl⟩ : ∃ g, xa = some ⟨g, 0, none⟩ := by
        rcases hwv1.2 with ⟨_, h0⟩ | ⟨g, _, _, h, _⟩
        · omega
        · cases h; exact ⟨g, rfl⟩
      have hgb := hwb _ rfl
      obtain ⟨i, d, hWk⟩ : ∃ i d, W[k] = (i, d) := ⟨_, _, rfl⟩
      have hdt := done_take S W k hlt
      have hpc := waits_piece (fun p hp => (HW.out p hp).2) k hlt
      have hp := HW.out W[k] (List.getElem_mem hlt)
      rw [hWk] at hdt hpc hp
      have hwvr := hR.1.row hwv1 (fun j hj e => by cases hj; rcases e with e | e; exact hgb.1 e; exact hgb.2 e)
      have hrg := row_range hwvr hpc
      have hlt' : (k : Int) < (W.length : Int) := by omega
      have hq1 := hp.1
      have hq1' : (i : Int) < (S.length : Int) := by have := hp.1; omega
      have Hq2 : Hid (d.length = 512) := hp.2
      have Hpl : Hid ((waitV (i, d)).length = 513) := waitV_length hp.2
      have Hdt := Lib.hid hdt
      clear hp hdt hpc hWk
      go_wp2_with (first | ((with_reducible apply wpl_load_mid g (k * 513) (waitV (i, d))); exact rfl; exact hrg; exact Try.underlying120; exact rfl; (rw [Hpl.out]; exact sizeW); simp only [Act.put, List.setIfInBounds_toArray, List.set_cons_zero, List.set_cons_succ]) | ((with_reducible apply wpl_store_new); exact rfl; exact rfl; (rw [List.size_toArray, Hpl.out]; exact sizeW); exact Try.zeroCells120_size.trans (by rw [List.size_toArray, Hpl.out]); exact waitV_all _ _; simp only [Act.put, List.setIfInBounds_toArray, List.set_cons_zero, List.set_cons_succ]))
      have hXR : SecsR w1 b (.cells #[.slice (some ⟨sb, 0, none⟩) S.length sc, .slice (some ⟨g, 0, none⟩) W.length xc, .int .i64 (burnt f), .bool false] 74 (0, 0)) sb sc (done S (W.take k)) (wr.alloc (.cells (waitV (i, d)).toArray 120)) := by
        obtain ⟨q1, q2, cu, q3, q4⟩ := hR
        exact ⟨q1.alloc _, alloc_heap q2 _, cu, alloc_heap q3 _, q4⟩
      have hXn := heap_alloc_new wr (.cells (waitV (i, d)).toArray 120)
      generalize hX : wr.alloc (.cells (waitV (i, d)).toArray 120) = X at *
      generalize hN : wr.heap.size = N at *
      clear hX hN hR hRb r0 r1 r2 r3 hrg hwvr
      obtain ⟨x0, x1, x2, x3⟩ := four hXR.2.1
      have hr0 : X.rangeAt N 0 (waitV (i, d)) := rangeAt_of_row hXn (by simp)
      have hr1 : X.rangeAt N 1 (bvs d) := rangeAt_of_row hXn (by simp [waitV])
      have hc0 : X.cell? ⟨N, 0, none⟩ = some (.int .i64 i) := rangeAt.cell hr0 0 rfl
      have HS2 : X.drew.cell? ⟨b, 0, none⟩ = some (.slice (some ⟨sb, 0, none⟩) S.length sc) ∧ X.drew.cell? ⟨N, 0, none⟩ = some (.int .i64 i) ∧ X.drew.rangeAt N 1 (bvs d) := ⟨x0, hc0, hr1⟩
      refine wp_region_plan (fun w' => w'.cell? ⟨b, 0, none⟩ = some (.slice (some ⟨sb, 0, none⟩) S.length sc) ∧ w'.cell? ⟨N, 0, none⟩ = some (.int .i64 i) ∧ w'.rangeAt N 1 (bvs d)) 9 [(0, true), (1, true), (2, true), (3, true), (4, true), (5, true), (6, true), (7, true), (8, true), (9, false)] (by kernel_rfl) (by kernel_rfl) (fun d _ _ _ _ h => by cases d <;> exact h) HS2 ?_
      iterate 7 (apply plan_held rfl rfl rfl (by simp) HS2; (intro w' hS K hK; go_simp; exact hK))
      apply plan_held rfl rfl rfl (by simp) HS2
      · intro w' hS K hK
        exact gives_load_mid N 1 rfl _ _ hS.2.2 Try.underlying118 rfl (by rw [bvs_length, Hq2.out]; exact sizeK) hK
      simp only [Act.put, List.setIfInBounds_toArray, List.set_cons_zero, List.set_cons_succ]
      (apply plan_held rfl rfl rfl (by simp) HS2; (intro w' hS K hK; go_simp; exact hK))
      refine plan_op rfl rfl (fun K hK => ?_)
      obtain ⟨q1, q2, cu, q3, q4, q5⟩ := id hXR
      have hdl : (done S (W.take k)).length = S.length := done_length _ _
      refine wp_store_mid' sb (i * 512) (bvs d) rfl rfl (there_of_row q3 (by rw [bvs_length, Hq2.out, List.size_toArray, q4]; omega)) (by rw [bvs_length, Hq2.out]; exact sizeK) (bvs_one d) ?_
      refine hK _ _ (fun h => absurd rfl h) ?_
      refine plan_nil ?_
      simp only [Act.put, List.setIfInBounds_toArray, List.set_cons_zero, List.set_cons_succ]
      have hSR := hXR.drew.store hbs (by rw [hdl]; exact hsc) (done_ok HS.out (fun p hp => (HW.out p (List.mem_of_mem_take hp)).2)) i (by rw [hdl]; exact hq1) d Hq2.out
      rw [← Hdt.out] at hSR
      have HSR := Lib.hid hSR
      clear hSR hXR q1 q2 q3 q4 q5
      go_wp2_with fail
      exact ⟨⟨k + 1, by omega, by go_num, HSR.out⟩, by simp [intOf]; omega⟩
    · obtain rfl : k = W.length := by omega
      have fr1 := unfrozen hRb 1
      rw [List.take_length] at hR
      have HR := Lib.hid hR
      clear hR
      go_wp2_with fail
      go_ret
      obtain ⟨q1, q2, cu, q3, q4, q5⟩ := HR.out
      rw [done_length] at q5
      refine ⟨rfl, ?_, ?_, cu, ?_, q4, by rw [done_length]; exact q5⟩
      · exact Upd.setCell ((hu1.mono (fun _ _ h => .inl h)).trans q1) _ (.inl (.inl rfl))
      · rw [stored q2]; rfl
      · rw [heap_setCell_other _ _ _ _ (fun e => hbs e.symm)]; exact q3
end Go.Proofs.Ytocameknhglklaa
