/- Pools: the walk of those who ask for All, whole. -/
import Derived.Test.YtaceedenkmccdaaSc
namespace Go.Proofs.Ytaceedenkmccdaa
open Go Go.Conc Go.ConcN
set_option linter.unusedSimpArgs false
set_option linter.unusedVariables false
variable {X : Cx} {i : Nat} {L L' : Lo} {Post : Value → Lo → Prop}
set_option maxRecDepth 100000
set_option maxHeartbeats 4000000
def kidCost (n : Nat) : Nat := (n + 1) * (137000 + 1) + 3000
def askLeft (n : Nat) (a : Act) : Nat := match (a.tmps[5]? : Option Value) with | some (Value.int _ z) => ((n : Int) - z).toNat | _ => 0
theorem askLeft_eq {n : Nat} {a : Act} {z : Nat} (h : a.tmps[5]? = some (.int .i64 z)) : askLeft n a = n - z := by
  unfold askLeft
  rw [h]
  show ((n : Int) - (z : Int)).toNat = n - z
  omega
/-- What one who asks for All knows at the loop's head. -/
def AskI (ap : Nat → Int → Int) (A : AllG) (i : Nat) (bi bp bt : Nat) (sb : Addr) (cap z : Nat) (L : Lo) : Prop :=
  AskS A i L bi bp bt sb cap ∧ ((z < A.items.length ∧ ∃ zs, L.role = .asker A (z :: zs) (some (z, false)) false ∧ HasE L ⟨A.bo, z, none⟩ ∧ (∀ y ∈ zs, y < z) ∧ ∀ y ∈ zs, Sees L ⟨A.bo, y, none⟩ (.int .i64 (A.val ap (A.items.getD y 0)))) ∨
    (A.items.length ≤ z ∧ ∃ zs, L.role = .asker A zs none true ∧ ∀ y ∈ zs, Sees L ⟨A.bo, y, none⟩ (.int .i64 (A.val ap (A.items.getD y 0)))))
theorem AskI.mk' [Inhabited Base] {ap : Nat → Int → Int} {A : AllG} {bi bp bt : Nat} {sb : Addr} {cap z : Nat} {zs : List Nat} (hA : AskS A i L bi bp bt sb cap) (hk : ∀ y ∈ zs, Sees L ⟨A.bo, y, none⟩ (.int .i64 (A.val ap (A.items.getD y 0)))) (h : (z < A.items.length ∧ (∀ y ∈ zs, y < z) ∧ L' = L.draws A zs z) ∨ (A.items.length ≤ z ∧ L' = L.turn (.asker A zs none true) none)) : AskI ap A i bi bp bt sb cap z L' := by
  rcases h with ⟨h1, h2, rfl⟩ | ⟨h1, rfl⟩
  · have g := Grows.draws (L := L) A zs z
    exact ⟨hA.grow g hA.q, .inl ⟨h1, zs, rfl, draws_has hA.nv, h2, fun y hy => g.sees (hk y hy)⟩⟩
  · exact ⟨hA.turn _, .inr ⟨h1, zs, rfl, fun y hy => (hk y hy).turn _ _⟩⟩
theorem w_all1 [Inhabited Base] (hP : X.P = Try.prog) (hCW : X.CW = 10000) {A : AllG} {bi bp bt : Nat} {sb : Addr} {cap : Nat} (hA : AskS A i L bi bp bt sb cap) (hr : L.role = .asker A [] none false) :
    CallsSD X i 17 #[.pointer (some ⟨A.bw, 0, none⟩), .pointer (some ⟨A.bn, 0, none⟩), .pointer (some ⟨bi, 0, none⟩), .pointer (some ⟨bp, 0, none⟩), .pointer (some ⟨bt, 0, none⟩)] (kidCost A.items.length) L fun L' => Lefty L' ∧ L'.d = 0 := by
  (obtain ⟨P, ap, SelAt, CI, CW, Q⟩ := X; dsimp only at hP; subst hP)
  dsimp only at hCW
  subst hCW
  (co_apply CallsSD.more; co_apply callsSD_of_wp Try.func17 rfl; simp only [Try.ntmps17, List.size_toArray, List.length_cons, List.length_nil, Nat.reduceAdd, Nat.reduceSub, Array.replicate, List.replicate, List.append_toArray, List.cons_append, List.nil_append, List.append_eq])
  · (repeat (first | (co_apply wpS_region; simp only [List.size_toArray, List.length_cons, List.length_nil, Nat.reduceAdd, Nat.zero_add, List.range, List.range.loop]) | (co_apply opsS_pure; (focus (exact rfl)); (focus (exact rfl)); (focus (intro w; go_simp <;> exact rfl)); (focus (intro w; simp [go_sem, execOp, Act.eval]; done)); try walk_nrm) | (co_apply opsS_nil; try dsimp only) | co_apply wpS_seq | co_apply wpS_skip | (co_apply wpS_cond; (focus (exact rfl)); simp only [if_true, if_false, reduceIte, Bool.false_eq_true])))
    (co_apply opsS_defer; (focus (exact rfl)); (focus (exact rfl)); (focus (exact rfl)); simp only [List.map_toArray, List.map_cons, List.map_nil]; try walk_nrm)
    (repeat (first | (co_apply wpS_region; simp only [List.size_toArray, List.length_cons, List.length_nil, Nat.reduceAdd, Nat.zero_add, List.range, List.range.loop]) | (co_apply opsS_pure; (focus (exact rfl)); (focus (exact rfl)); (focus (intro w; go_simp <;> exact rfl)); (focus (intro w; simp [go_sem, execOp, Act.eval]; done)); try walk_nrm) | (co_apply opsS_nil; try dsimp only) | co_apply wpS_seq | co_apply wpS_skip | (co_apply wpS_cond; (focus (exact rfl)); simp only [if_true, if_false, reduceIte, Bool.false_eq_true])))
    (co_apply opsS_call; (focus (exact rfl)); (focus (exact rfl)); (focus (exact rfl)); (focus (exact Try.func19)); (focus (rfl)); (focus (rfl)); try simp only [List.map_toArray, List.map_cons, List.map_nil])
    · exact w_i64add rfl (mv_draw2 hA.i0 hr hA.q hA.h)
    rintro _ L1 ⟨z, rfl, hz2, hcase⟩
    have hI := AskI.mk' (ap := ap) hA (fun y hy => by cases hy) hcase
    clear hcase
    walk_nrm
    have hw := wrap_i64 (z : Int) (by omega) (by omega)
    (co_apply opsS_pure (v := (.int .i64 z)); (focus (exact rfl)); (focus (exact rfl)); (focus (intro w; go_simp <;> first | done | exact rfl | assumption | omega | ((simp only [IntKind.wrap_u64, IntKind.wrap_u32, IntKind.wrap_i32]); omega) | decide)); (focus (intro w; simp [go_sem, execOp, Act.eval, *]; done)); try walk_nrm)
    clear hw
    (repeat (first | (co_apply wpS_region; simp only [List.size_toArray, List.length_cons, List.length_nil, Nat.reduceAdd, Nat.zero_add, List.range, List.range.loop]) | (co_apply opsS_pure; (focus (exact rfl)); (focus (exact rfl)); (focus (intro w; go_simp <;> exact rfl)); (focus (intro w; simp [go_sem, execOp, Act.eval]; done)); try walk_nrm) | (co_apply opsS_nil; try dsimp only) | co_apply wpS_seq | co_apply wpS_skip | (co_apply wpS_cond; (focus (exact rfl)); simp only [if_true, if_false, reduceIte, Bool.false_eq_true])))
    co_apply wpS_block
    co_apply wpS_loop (fun a L' => a.defers = [dcall 18 #[.pointer (some ⟨A.bw, 0, none⟩)]] ∧ a.tmps.size = 26 ∧ a.tmps[0]? = some (.pointer (some ⟨A.bw, 0, none⟩)) ∧ a.tmps[1]? = some (.pointer (some ⟨A.bn, 0, none⟩)) ∧ a.tmps[2]? = some (.pointer (some ⟨bi, 0, none⟩)) ∧ a.tmps[3]? = some (.pointer (some ⟨bp, 0, none⟩)) ∧ a.tmps[4]? = some (.pointer (some ⟨bt, 0, none⟩)) ∧
        ∃ z : Nat, a.tmps[5]? = some (.int .i64 z) ∧ (z : Int) ≤ 2000000000000000 ∧ AskI ap A i bi bp bt sb cap z L') (fun a _ => askLeft A.items.length a) 137000 A.items.length
    · exact ⟨rfl, rfl, rfl, rfl, rfl, rfl, rfl, z, rfl, hz2, hI⟩
    · rw [askLeft_eq (z := z) rfl]
      omega
    · clear hI hz2
      clear z
      rintro ⟨tmps, defers⟩ L2 ⟨g1, g2, g3, g4, g5, g6, g7, z, g8, hz2, hAI, hcase⟩
      dsimp only at g1 g2 g3 g4 g5 g6 g7 g8
      subst g1
      obtain ⟨f0, hlit, hf0⟩ := lit tmps 26 g2
      have e0 := hf0 0 _ g3
      have e1 := hf0 1 _ g4
      have e2 := hf0 2 _ g5
      have e3 := hf0 3 _ g6
      have e4 := hf0 4 _ g7
      have e5 := hf0 5 _ g8
      subst hlit
      clear g2 g3 g4 g5 g6 g7 g8 hf0
      simp only [List.range, List.range.loop, List.map, e0, e1, e2, e3, e4, e5]
      clear e0 e1 e2 e3 e4 e5
      rcases hcase with ⟨hz, zs, hro, hE, hlt, hk⟩ | ⟨hz, zs, hro, hk⟩
      · have hzi : (z : Int) < A.items.length := by omega
        co_apply wpS_more
        (repeat (first | (co_apply wpS_region; simp only [List.size_toArray, List.length_cons, List.length_nil, Nat.reduceAdd, Nat.zero_add, List.range, List.range.loop]) | (co_apply opsS_pure; (focus (exact rfl)); (focus (exact rfl)); (focus (intro w; go_simp <;> exact rfl)); (focus (intro w; simp [go_sem, execOp, Act.eval]; done)); try walk_nrm) | (co_apply opsS_nil; try dsimp only) | co_apply wpS_seq | co_apply wpS_skip | (co_apply wpS_cond; (focus (exact rfl)); simp only [if_true, if_false, reduceIte, Bool.false_eq_true])))
        (co_apply opsS_read (.slice (some sb) A.items.length cap); (focus (rfl)); (focus (rfl)); (focus (exact (hAI.fit hro).live)); (focus (exact (hAI.fit hro).vm)); (focus (intro w hS; have hu := (hAI.s2.sees).know w hS; go_simp)); (focus (intro w hS e he; have hu := (hAI.s2.sees).know w hS; have hm := mem_listed he; simp [go_sem, execOp, Act.eval, hu] at hm; subst hm; exact (hAI.s2.sees).ev _)); try walk_nrm)
        (co_apply opsS_pure (v := (.int .i64 A.items.length)); (focus (exact rfl)); (focus (exact rfl)); (focus (intro w; go_simp <;> first | done | exact rfl | assumption | omega | ((simp only [IntKind.wrap_u64, IntKind.wrap_u32, IntKind.wrap_i32]); omega) | decide)); (focus (intro w; simp [go_sem, execOp, Act.eval, *]; done)); try walk_nrm)
        (co_apply opsS_pure (v := (.bool true)); (focus (exact rfl)); (focus (exact rfl)); (focus (intro w; go_simp <;> first | done | exact rfl | assumption | omega | ((simp only [IntKind.wrap_u64, IntKind.wrap_u32, IntKind.wrap_i32]); omega) | decide)); (focus (intro w; simp [go_sem, execOp, Act.eval, *]; done)); try walk_nrm)
        (repeat (first | (co_apply wpS_region; simp only [List.size_toArray, List.length_cons, List.length_nil, Nat.reduceAdd, Nat.zero_add, List.range, List.range.loop]) | (co_apply opsS_pure; (focus (exact rfl)); (focus (exact rfl)); (focus (intro w; go_simp <;> exact rfl)); (focus (intro w; simp [go_sem, execOp, Act.eval]; done)); try walk_nrm) | (co_apply opsS_nil; try dsimp only) | co_apply wpS_seq | co_apply wpS_skip | (co_apply wpS_cond; (focus (exact rfl)); simp only [if_true, if_false, reduceIte, Bool.false_eq_true])))
        co_apply wpS_block
        co_apply wpS_mono (w_fill17 (X := ⟨Try.prog, ap, SelAt, CI, 10000, Q⟩) (bi := bi) (bp := bp) (bt := bt) (sb := sb) (cap := cap) rfl rfl hz hAI hro hE rfl rfl rfl rfl rfl)
        rintro _ ⟨tmps, defers⟩ L3 ⟨rfl, k1, k2, k3, L4, k4, ⟨b, k5, k6⟩, k7, k8⟩
        dsimp only at k1 k2 k3
        subst k1
        have j0 : tmps[0]? = some (.pointer (some ⟨A.bw, 0, none⟩)) := (k3 0 (by decide)).trans rfl
        have j1 : tmps[1]? = some (.pointer (some ⟨A.bn, 0, none⟩)) := (k3 1 (by decide)).trans rfl
        have j2 : tmps[2]? = some (.pointer (some ⟨bi, 0, none⟩)) := (k3 2 (by decide)).trans rfl
        have j3 : tmps[3]? = some (.pointer (some ⟨bp, 0, none⟩)) := (k3 3 (by decide)).trans rfl
        have j4 : tmps[4]? = some (.pointer (some ⟨bt, 0, none⟩)) := (k3 4 (by decide)).trans rfl
        obtain ⟨f1, hlit, hf1⟩ := lit tmps 26 k2
        have e0 := hf1 0 _ j0
        have e1 := hf1 1 _ j1
        have e2 := hf1 2 _ j2
        have e3 := hf1 3 _ j3
        have e4 := hf1 4 _ j4
        subst hlit
        clear k2 k3 j0 j1 j2 j3 j4 hf1
        simp only [List.range, List.range.loop, List.map, e0, e1, e2, e3, e4]
        clear e0 e1 e2 e3 e4
        have r3 : L3.role = .asker A (z :: zs) (some (z, b)) false := by rw [k8]; exact k5
        have hA3 : AskS A i L3 bi bp bt sb cap := by rw [k8]; exact (hAI.grow k4 k7).put
        have hk3 : ∀ y ∈ z :: zs, Sees (L3.turn (.asker A (z :: zs) none false) none) ⟨A.bo, y, none⟩ (.int .i64 (A.val ap (A.items.getD y 0))) := fun y hy => by
          refine Sees.turn ?_ _ _
          rw [k8]
          rcases List.mem_cons.1 hy with rfl | hy
          · exact ((k4.hase hE).sets _).sees
          · have := hlt y hy
            exact (k4.sees (hk y hy)).sets fun e => by cases e; omega
        clear k8
        co_apply wpS_region_told (L' := L3.turn (.asker A (z :: zs) none false) none)
        · exact (hA3.fit r3).live.nl
        · intro n Γ w t hI hL hi
          exact hI.answered hi hA3.i0 hL r3 hA3.q hA3.h k6
        · intro _ _ _ _ _ _ _
          rw [r3]; rfl
        simp only [List.size_toArray, List.length_cons, List.length_nil, Nat.reduceAdd, Nat.zero_add, List.range, List.range.loop]
        (co_apply opsS_call; (focus (exact rfl)); (focus (exact rfl)); (focus (exact rfl)); (focus (exact Try.func19)); (focus (rfl)); (focus (rfl)); try simp only [List.map_toArray, List.map_cons, List.map_nil])
        · exact w_i64add rfl (mv_draw2 hA3.i0 rfl rfl hA3.h)
        rintro _ L5 ⟨z2, rfl, hz3, hcase⟩
        have hI5 := AskI.mk' (ap := ap) (hA3.turn _) hk3 hcase
        have hgt : z < z2 := by
          rcases hcase with ⟨_, h, _⟩ | ⟨h, _⟩
          · exact h z (List.mem_cons_self ..)
          · omega
        clear hcase
        walk_nrm
        have hw := wrap_i64 (z2 : Int) (by omega) (by omega)
        (co_apply opsS_pure (v := (.int .i64 z2)); (focus (exact rfl)); (focus (exact rfl)); (focus (intro w; go_simp <;> first | done | exact rfl | assumption | omega | ((simp only [IntKind.wrap_u64, IntKind.wrap_u32, IntKind.wrap_i32]); omega) | decide)); (focus (intro w; simp [go_sem, execOp, Act.eval, *]; done)); try walk_nrm)
        clear hw
        (repeat (first | (co_apply wpS_region; simp only [List.size_toArray, List.length_cons, List.length_nil, Nat.reduceAdd, Nat.zero_add, List.range, List.range.loop]) | (co_apply opsS_pure; (focus (exact rfl)); (focus (exact rfl)); (focus (intro w; go_simp <;> exact rfl)); (focus (intro w; simp [go_sem, execOp, Act.eval]; done)); try walk_nrm) | (co_apply opsS_nil; try dsimp only) | co_apply wpS_seq | co_apply wpS_skip | (co_apply wpS_cond; (focus (exact rfl)); simp only [if_true, if_false, reduceIte, Bool.false_eq_true])))
        refine ⟨⟨rfl, rfl, rfl, rfl, rfl, rfl, rfl, z2, rfl, hz3, hI5⟩, ?_⟩
        rw [askLeft_eq (z := z2) rfl, askLeft_eq (z := z) rfl]
        omega
        decide
      · have hzi : (A.items.length : Int) ≤ z := by omega
        co_apply wpS_more
        co_apply wpS_seq (n₂ := 0)
        (repeat (first | (co_apply wpS_region; simp only [List.size_toArray, List.length_cons, List.length_nil, Nat.reduceAdd, Nat.zero_add, List.range, List.range.loop]) | (co_apply opsS_pure; (focus (exact rfl)); (focus (exact rfl)); (focus (intro w; go_simp <;> exact rfl)); (focus (intro w; simp [go_sem, execOp, Act.eval]; done)); try walk_nrm) | (co_apply opsS_nil; try dsimp only) | co_apply wpS_seq | co_apply wpS_skip | (co_apply wpS_cond; (focus (exact rfl)); simp only [if_true, if_false, reduceIte, Bool.false_eq_true])))
        (co_apply opsS_read (.slice (some sb) A.items.length cap); (focus (rfl)); (focus (rfl)); (focus (exact (hAI.fit hro).live)); (focus (exact (hAI.fit hro).vm)); (focus (intro w hS; have hu := (hAI.s2.sees).know w hS; go_simp)); (focus (intro w hS e he; have hu := (hAI.s2.sees).know w hS; have hm := mem_listed he; simp [go_sem, execOp, Act.eval, hu] at hm; subst hm; exact (hAI.s2.sees).ev _)); try walk_nrm)
        (co_apply opsS_pure (v := (.int .i64 A.items.length)); (focus (exact rfl)); (focus (exact rfl)); (focus (intro w; go_simp <;> first | done | exact rfl | assumption | omega | ((simp only [IntKind.wrap_u64, IntKind.wrap_u32, IntKind.wrap_i32]); omega) | decide)); (focus (intro w; simp [go_sem, execOp, Act.eval, *]; done)); try walk_nrm)
        (co_apply opsS_pure (v := (.bool false)); (focus (exact rfl)); (focus (exact rfl)); (focus (intro w; go_simp <;> first | done | exact rfl | assumption | omega | ((simp only [IntKind.wrap_u64, IntKind.wrap_u32, IntKind.wrap_i32]); omega) | decide)); (focus (intro w; simp [go_sem, execOp, Act.eval, *]; done)); try walk_nrm)
        (repeat (first | (co_apply wpS_region; simp only [List.size_toArray, List.length_cons, List.length_nil, Nat.reduceAdd, Nat.zero_add, List.range, List.range.loop]) | (co_apply opsS_pure; (focus (exact rfl)); (focus (exact rfl)); (focus (intro w; go_simp <;> exact rfl)); (focus (intro w; simp [go_sem, execOp, Act.eval]; done)); try walk_nrm) | (co_apply opsS_nil; try dsimp only) | co_apply wpS_seq | co_apply wpS_skip | (co_apply wpS_cond; (focus (exact rfl)); simp only [if_true, if_false, reduceIte, Bool.false_eq_true])))
        co_apply wpS_exit
        try dsimp only
        try simp only [if_true, reduceIte]
        refine ⟨_, fun w => ⟨results_none rfl _ _ _, events_results_none rfl _ _⟩, ?_⟩
        co_apply unwinds_enter Try.func18 rfl rfl
        · exact w_done rfl hAI.i0 (.inr ⟨A, hro, rfl, rfl, fun y hy w hS => (hk y hy).know w hS⟩) hAI.q hAI.h hAI.d (by rw [hro]; simp [Role.holds, groupA, ca])
        rintro _ ⟨rr, rfl⟩
        exact unwinds_nil ⟨⟨⟨_, _, _, rfl⟩, rfl⟩, hAI.d⟩
        decide
  · show _ ≤ kidCost A.items.length
    unfold kidCost
    omega
end Go.Proofs.Ytaceedenkmccdaa
