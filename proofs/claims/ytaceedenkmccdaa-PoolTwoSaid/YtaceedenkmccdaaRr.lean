/- Pools: the walks of sync.Mutex and sync.Once. -/
import Derived.Test.YtaceedenkmccdaaRq
namespace Go.Proofs.Ytaceedenkmccdaa
open Go Go.Conc Go.ConcN
set_option linter.unusedSimpArgs false
set_option linter.unusedVariables false
variable {X : Cx} {i : Nat} {L : Lo} {Post : Value → Lo → Prop}
set_option maxRecDepth 100000
set_option maxHeartbeats 4000000
theorem Fit.sets (h : Fit L) (a : Addr) (v : Value) : Fit (L.sets a v) := ⟨h.live, h.vm⟩
theorem Fit.deafen (h : Fit L) (d : Nat) : Fit (L.deafen d) := ⟨h.live, h.vm⟩
theorem back_deaf (hd : L.d = 0) : deafBehind (deafBehind L.d #[⟨.mark .disable, false, true⟩]) #[⟨.mark .enable, false, true⟩] = 0 := by rw [hd]; rfl
theorem w_lock1 [Inhabited Base] (hP : X.P = Try.prog) {ad : Addr} (hfit : Fit L) (hd : L.d = 0) (h : Has L ad (.int .i32 0)) : CallsS X i 55 #[.pointer (some ad)] 100 L fun r L' => r = .tuple #[] ∧ L' = L.sets ad (.int .i32 1) := by
  (obtain ⟨P, ap, SelAt, CI, CW, Q⟩ := X; dsimp only at hP; subst hP)
  (co_apply CallsS.more; co_apply callsS_of_wp Try.func55 rfl; simp only [Try.ntmps55, List.size_toArray, List.length_cons, List.length_nil, Nat.reduceAdd, Nat.reduceSub, Array.replicate, List.replicate, List.append_toArray, List.cons_append, List.nil_append, List.append_eq])
  · (co_apply wpS_seq)
    (repeat (first | (co_apply wpS_region; simp only [List.size_toArray, List.length_cons, List.length_nil, Nat.reduceAdd, Nat.zero_add, List.range, List.range.loop]) | (co_apply opsS_pure; (focus (exact rfl)); (focus (exact rfl)); (focus (intro w; go_simp <;> exact rfl)); (focus (intro w; simp [go_sem, execOp, Act.eval]; done)); try walk_nrm) | (co_apply opsS_nil; try dsimp only) | co_apply wpS_skip | (co_apply wpS_cond; (focus (exact rfl)); simp only [if_true, if_false, reduceIte, Bool.false_eq_true])))
    (co_apply opsS_mark (.inl rfl); (focus (exact rfl)); (focus (exact rfl)); (focus (exact rfl)); (focus (exact Try.func25)); (focus (rfl)); (focus (rfl)); (focus (kernel_rfl)); (focus (kernel_rfl)); try walk_nrm)
    (repeat (first | (co_apply wpS_region; simp only [List.size_toArray, List.length_cons, List.length_nil, Nat.reduceAdd, Nat.zero_add, List.range, List.range.loop]) | (co_apply opsS_pure; (focus (exact rfl)); (focus (exact rfl)); (focus (intro w; go_simp <;> exact rfl)); (focus (intro w; simp [go_sem, execOp, Act.eval]; done)); try walk_nrm) | (co_apply opsS_nil; try dsimp only) | co_apply wpS_skip | (co_apply wpS_cond; (focus (exact rfl)); simp only [if_true, if_false, reduceIte, Bool.false_eq_true])))
    co_apply wpS_seq (n₂ := 0)
    (repeat (first | (co_apply wpS_region; simp only [List.size_toArray, List.length_cons, List.length_nil, Nat.reduceAdd, Nat.zero_add, List.range, List.range.loop]) | (co_apply opsS_pure; (focus (exact rfl)); (focus (exact rfl)); (focus (intro w; go_simp <;> exact rfl)); (focus (intro w; simp [go_sem, execOp, Act.eval]; done)); try walk_nrm) | (co_apply opsS_nil; try dsimp only) | co_apply wpS_seq | co_apply wpS_skip | (co_apply wpS_cond; (focus (exact rfl)); simp only [if_true, if_false, reduceIte, Bool.false_eq_true])))
    (co_apply opsS_entry (e := Extern.Atomic.casT (.int .i32)); (focus (exact rfl)); (focus (exact rfl)); (focus (exact rfl)); (focus (exact Try.func59)); (focus (rfl)); (focus (rfl)); (focus (kernel_rfl)); (focus (kernel_rfl)); try simp only [List.map_toArray, List.map_cons, List.map_nil])
    · exact mv_own_cas (h.deafen _) hfit.live hfit.vm
    rintro _ _ ⟨rfl, rfl⟩
    walk_nrm
    (repeat (first | (co_apply wpS_region; simp only [List.size_toArray, List.length_cons, List.length_nil, Nat.reduceAdd, Nat.zero_add, List.range, List.range.loop]) | (co_apply opsS_pure; (focus (exact rfl)); (focus (exact rfl)); (focus (intro w; go_simp <;> exact rfl)); (focus (intro w; simp [go_sem, execOp, Act.eval]; done)); try walk_nrm) | (co_apply opsS_nil; try dsimp only) | co_apply wpS_seq | co_apply wpS_skip | (co_apply wpS_cond; (focus (exact rfl)); simp only [if_true, if_false, reduceIte, Bool.false_eq_true])))
    (co_apply opsS_mark (.inr rfl); (focus (exact rfl)); (focus (exact rfl)); (focus (exact rfl)); (focus (exact Try.func26)); (focus (rfl)); (focus (rfl)); (focus (kernel_rfl)); (focus (kernel_rfl)); try walk_nrm)
    have hL : (((L.deafen (deafBehind L.d #[⟨.mark .disable, false, true⟩])).sets ad (.int .i32 1)).deafen (deafBehind ((L.deafen (deafBehind L.d #[⟨.mark .disable, false, true⟩])).sets ad (.int .i32 1)).d #[⟨.mark .enable, false, true⟩])) = L.sets ad (.int .i32 1) := by
      have : ((L.deafen (deafBehind L.d #[⟨.mark .disable, false, true⟩])).sets ad (.int .i32 1)).d = deafBehind L.d #[⟨.mark .disable, false, true⟩] := rfl
      rw [this, back_deaf hd]
      exact deafen_same (L := L.sets ad (.int .i32 1)) hd
    rw [hL]
    have h1 := h.sets (.int .i32 1)
    (repeat (first | (co_apply wpS_region; simp only [List.size_toArray, List.length_cons, List.length_nil, Nat.reduceAdd, Nat.zero_add, List.range, List.range.loop]) | (co_apply opsS_pure; (focus (exact rfl)); (focus (exact rfl)); (focus (intro w; go_simp <;> exact rfl)); (focus (intro w; simp [go_sem, execOp, Act.eval]; done)); try walk_nrm) | (co_apply opsS_nil; try dsimp only) | co_apply wpS_seq | co_apply wpS_skip | (co_apply wpS_cond; (focus (exact rfl)); simp only [if_true, if_false, reduceIte, Bool.false_eq_true])))
    co_apply opsS_read (.pointer (some ad))
    · rfl
    · rfl
    · exact hfit.live
    · exact hfit.vm
    · intro w hS
      have hu := h1.know w hS
      have hcv := run_convert_to_unsafe (P := Try.prog) (src := 98) (dst := 67) Try.underlying98 Try.underlying67 (by kernel_rfl) hu
      go_simp
    · intro w hS
      have hu := h1.know w hS
      have hce := fun es => events_convert_to_unsafe (P := Try.prog) (src := 98) (dst := 67) Try.underlying98 Try.underlying67 (by kernel_rfl) hu es
      intro e he
      have hm := mem_listed he
      simp [go_sem, execOp, Act.eval, hce] at hm
    walk_nrm
    (repeat (first | (co_apply wpS_region; simp only [List.size_toArray, List.length_cons, List.length_nil, Nat.reduceAdd, Nat.zero_add, List.range, List.range.loop]) | (co_apply opsS_pure; (focus (exact rfl)); (focus (exact rfl)); (focus (intro w; go_simp <;> exact rfl)); (focus (intro w; simp [go_sem, execOp, Act.eval]; done)); try walk_nrm) | (co_apply opsS_nil; try dsimp only) | co_apply wpS_seq | co_apply wpS_skip | (co_apply wpS_cond; (focus (exact rfl)); simp only [if_true, if_false, reduceIte, Bool.false_eq_true])))
    (co_apply opsS_entry (e := Extern.Race.marked .acquire); (focus (exact rfl)); (focus (exact rfl)); (focus (exact rfl)); (focus (exact Try.func38)); (focus (rfl)); (focus (rfl)); (focus (kernel_rfl)); (focus (kernel_rfl)); try simp only [List.map_toArray, List.map_cons, List.map_nil])
    · exact mv_mute (hfit.sets _ _).live (.inl h1.own) .acquire (.inl rfl)
    intro _ _ hE
    rw [hE]
    clear hE
    walk_nrm
    (repeat (first | (co_apply wpS_region; simp only [List.size_toArray, List.length_cons, List.length_nil, Nat.reduceAdd, Nat.zero_add, List.range, List.range.loop]) | (co_apply opsS_pure; (focus (exact rfl)); (focus (exact rfl)); (focus (intro w; go_simp <;> exact rfl)); (focus (intro w; simp [go_sem, execOp, Act.eval]; done)); try walk_nrm) | (co_apply opsS_nil; try dsimp only) | co_apply wpS_seq | co_apply wpS_skip | (co_apply wpS_cond; (focus (exact rfl)); simp only [if_true, if_false, reduceIte, Bool.false_eq_true])))
    (first | (co_apply wpS_ret; refine ⟨_, fun w => ⟨results_tmp rfl _ _ _, events_results_tmp rfl _ _⟩, unwinds_nil ?_⟩) | (refine ⟨_, fun w => ⟨results_none rfl _ _ _, events_results_none rfl _ _⟩, unwinds_nil ?_⟩) | (co_apply wpS_ret; refine ⟨_, fun w => ⟨results_none rfl _ _ _, events_results_none rfl _ _⟩, unwinds_nil ?_⟩))
    exact ⟨rfl, rfl⟩
  · decide
theorem w_lock [Inhabited Base] (hP : X.P = Try.prog) {ad : Addr} (hfit : Fit L) (hd : L.d = 0) (h : Has L ad (.int .i32 0)) : CallsS X i 52 #[.pointer (some ad)] 140 L fun r L' => r = .tuple #[] ∧ L' = L.sets ad (.int .i32 1) := by
  (obtain ⟨P, ap, SelAt, CI, CW, Q⟩ := X; dsimp only at hP; subst hP)
  (co_apply CallsS.more; co_apply callsS_of_wp Try.func52 rfl; simp only [Try.ntmps52, List.size_toArray, List.length_cons, List.length_nil, Nat.reduceAdd, Nat.reduceSub, Array.replicate, List.replicate, List.append_toArray, List.cons_append, List.nil_append, List.append_eq])
  · (repeat (first | (co_apply wpS_region; simp only [List.size_toArray, List.length_cons, List.length_nil, Nat.reduceAdd, Nat.zero_add, List.range, List.range.loop]) | (co_apply opsS_pure; (focus (exact rfl)); (focus (exact rfl)); (focus (intro w; go_simp <;> exact rfl)); (focus (intro w; simp [go_sem, execOp, Act.eval]; done)); try walk_nrm) | (co_apply opsS_nil; try dsimp only) | co_apply wpS_seq | co_apply wpS_skip | (co_apply wpS_cond; (focus (exact rfl)); simp only [if_true, if_false, reduceIte, Bool.false_eq_true])))
    (co_apply opsS_call; (focus (exact rfl)); (focus (exact rfl)); (focus (exact rfl)); (focus (exact Try.func55)); (focus (rfl)); (focus (rfl)); try simp only [List.map_toArray, List.map_cons, List.map_nil])
    · exact w_lock1 rfl hfit hd h
    rintro _ _ ⟨rfl, rfl⟩
    walk_nrm
    (repeat (first | (co_apply wpS_region; simp only [List.size_toArray, List.length_cons, List.length_nil, Nat.reduceAdd, Nat.zero_add, List.range, List.range.loop]) | (co_apply opsS_pure; (focus (exact rfl)); (focus (exact rfl)); (focus (intro w; go_simp <;> exact rfl)); (focus (intro w; simp [go_sem, execOp, Act.eval]; done)); try walk_nrm) | (co_apply opsS_nil; try dsimp only) | co_apply wpS_seq | co_apply wpS_skip | (co_apply wpS_cond; (focus (exact rfl)); simp only [if_true, if_false, reduceIte, Bool.false_eq_true])))
    (first | (co_apply wpS_ret; refine ⟨_, fun w => ⟨results_tmp rfl _ _ _, events_results_tmp rfl _ _⟩, unwinds_nil ?_⟩) | (refine ⟨_, fun w => ⟨results_none rfl _ _ _, events_results_none rfl _ _⟩, unwinds_nil ?_⟩) | (co_apply wpS_ret; refine ⟨_, fun w => ⟨results_none rfl _ _ _, events_results_none rfl _ _⟩, unwinds_nil ?_⟩))
    exact ⟨rfl, rfl⟩
  · decide
theorem w_unlock1 [Inhabited Base] (hP : X.P = Try.prog) {ad : Addr} (hfit : Fit L) (hd : L.d = 0) (h : Has L ad (.int .i32 1)) : CallsS X i 56 #[.pointer (some ad)] 120 L fun r L' => r = .tuple #[] ∧ L' = L.sets ad (.int .i32 0) := by
  (obtain ⟨P, ap, SelAt, CI, CW, Q⟩ := X; dsimp only at hP; subst hP)
  (co_apply CallsS.more; co_apply callsS_of_wp Try.func56 rfl; simp only [Try.ntmps56, List.size_toArray, List.length_cons, List.length_nil, Nat.reduceAdd, Nat.reduceSub, Array.replicate, List.replicate, List.append_toArray, List.cons_append, List.nil_append, List.append_eq])
  · (repeat (first | (co_apply wpS_region; simp only [List.size_toArray, List.length_cons, List.length_nil, Nat.reduceAdd, Nat.zero_add, List.range, List.range.loop]) | (co_apply opsS_pure; (focus (exact rfl)); (focus (exact rfl)); (focus (intro w; go_simp <;> exact rfl)); (focus (intro w; simp [go_sem, execOp, Act.eval]; done)); try walk_nrm) | (co_apply opsS_nil; try dsimp only) | co_apply wpS_seq | co_apply wpS_skip | (co_apply wpS_cond; (focus (exact rfl)); simp only [if_true, if_false, reduceIte, Bool.false_eq_true])))
    co_apply opsS_read (.int .i32 1)
    · rfl
    · rfl
    · exact hfit.live
    · exact hfit.vm
    · intro w hS
      have hu := h.know w hS
      go_simp
    · intro w hS e he
      have hu := h.know w hS
      have hm := mem_listed he
      simp [go_sem, execOp, Act.eval, hu] at hm
      subst hm
      exact h.ev _ _
    walk_nrm
    (repeat (first | (co_apply wpS_region; simp only [List.size_toArray, List.length_cons, List.length_nil, Nat.reduceAdd, Nat.zero_add, List.range, List.range.loop]) | (co_apply opsS_pure; (focus (exact rfl)); (focus (exact rfl)); (focus (intro w; go_simp <;> exact rfl)); (focus (intro w; simp [go_sem, execOp, Act.eval]; done)); try walk_nrm) | (co_apply opsS_nil; try dsimp only) | co_apply wpS_seq | co_apply wpS_skip | (co_apply wpS_cond; (focus (exact rfl)); simp only [if_true, if_false, reduceIte, Bool.false_eq_true])))
    co_apply opsS_read (.pointer (some ad))
    · rfl
    · rfl
    · exact hfit.live
    · exact hfit.vm
    · intro w hS
      have hu := h.know w hS
      have hcv := run_convert_to_unsafe (P := Try.prog) (src := 98) (dst := 67) Try.underlying98 Try.underlying67 (by kernel_rfl) hu
      go_simp
    · intro w hS
      have hu := h.know w hS
      have hce := fun es => events_convert_to_unsafe (P := Try.prog) (src := 98) (dst := 67) Try.underlying98 Try.underlying67 (by kernel_rfl) hu es
      intro e he
      have hm := mem_listed he
      simp [go_sem, execOp, Act.eval, hce] at hm
    walk_nrm
    (repeat (first | (co_apply wpS_region; simp only [List.size_toArray, List.length_cons, List.length_nil, Nat.reduceAdd, Nat.zero_add, List.range, List.range.loop]) | (co_apply opsS_pure; (focus (exact rfl)); (focus (exact rfl)); (focus (intro w; go_simp <;> exact rfl)); (focus (intro w; simp [go_sem, execOp, Act.eval]; done)); try walk_nrm) | (co_apply opsS_nil; try dsimp only) | co_apply wpS_seq | co_apply wpS_skip | (co_apply wpS_cond; (focus (exact rfl)); simp only [if_true, if_false, reduceIte, Bool.false_eq_true])))
    (co_apply opsS_entry (e := Extern.Race.marked .releaseMerge); (focus (exact rfl)); (focus (exact rfl)); (focus (exact rfl)); (focus (exact Try.func24)); (focus (rfl)); (focus (rfl)); (focus (kernel_rfl)); (focus (kernel_rfl)); try simp only [List.map_toArray, List.map_cons, List.map_nil])
    · exact mv_mute hfit.live (.inl h.own) .releaseMerge (.inr rfl)
    intro _ _ hE
    rw [hE]
    clear hE
    walk_nrm
    (repeat (first | (co_apply wpS_region; simp only [List.size_toArray, List.length_cons, List.length_nil, Nat.reduceAdd, Nat.zero_add, List.range, List.range.loop]) | (co_apply opsS_pure; (focus (exact rfl)); (focus (exact rfl)); (focus (intro w; go_simp <;> exact rfl)); (focus (intro w; simp [go_sem, execOp, Act.eval]; done)); try walk_nrm) | (co_apply opsS_nil; try dsimp only) | co_apply wpS_seq | co_apply wpS_skip | (co_apply wpS_cond; (focus (exact rfl)); simp only [if_true, if_false, reduceIte, Bool.false_eq_true])))
    (co_apply opsS_mark (.inl rfl); (focus (exact rfl)); (focus (exact rfl)); (focus (exact rfl)); (focus (exact Try.func25)); (focus (rfl)); (focus (rfl)); (focus (kernel_rfl)); (focus (kernel_rfl)); try walk_nrm)
    (repeat (first | (co_apply wpS_region; simp only [List.size_toArray, List.length_cons, List.length_nil, Nat.reduceAdd, Nat.zero_add, List.range, List.range.loop]) | (co_apply opsS_pure; (focus (exact rfl)); (focus (exact rfl)); (focus (intro w; go_simp <;> exact rfl)); (focus (intro w; simp [go_sem, execOp, Act.eval]; done)); try walk_nrm) | (co_apply opsS_nil; try dsimp only) | co_apply wpS_seq | co_apply wpS_skip | (co_apply wpS_cond; (focus (exact rfl)); simp only [if_true, if_false, reduceIte, Bool.false_eq_true])))
    (co_apply opsS_entry (e := Extern.Atomic.update (Op.intArith .add) .i32 true); (focus (exact rfl)); (focus (exact rfl)); (focus (exact rfl)); (focus (exact Try.func61)); (focus (rfl)); (focus (rfl)); (focus (kernel_rfl)); (focus (kernel_rfl)); try simp only [List.map_toArray, List.map_cons, List.map_nil])
    · exact mv_own_add (y := 0) (h.deafen _) (by decide) hfit.live hfit.vm
    rintro _ _ ⟨rfl, rfl⟩
    walk_nrm
    (repeat (first | (co_apply wpS_region; simp only [List.size_toArray, List.length_cons, List.length_nil, Nat.reduceAdd, Nat.zero_add, List.range, List.range.loop]) | (co_apply opsS_pure; (focus (exact rfl)); (focus (exact rfl)); (focus (intro w; go_simp <;> exact rfl)); (focus (intro w; simp [go_sem, execOp, Act.eval]; done)); try walk_nrm) | (co_apply opsS_nil; try dsimp only) | co_apply wpS_seq | co_apply wpS_skip | (co_apply wpS_cond; (focus (exact rfl)); simp only [if_true, if_false, reduceIte, Bool.false_eq_true])))
    (co_apply opsS_mark (.inr rfl); (focus (exact rfl)); (focus (exact rfl)); (focus (exact rfl)); (focus (exact Try.func26)); (focus (rfl)); (focus (rfl)); (focus (kernel_rfl)); (focus (kernel_rfl)); try walk_nrm)
    (repeat (first | (co_apply wpS_region; simp only [List.size_toArray, List.length_cons, List.length_nil, Nat.reduceAdd, Nat.zero_add, List.range, List.range.loop]) | (co_apply opsS_pure; (focus (exact rfl)); (focus (exact rfl)); (focus (intro w; go_simp <;> exact rfl)); (focus (intro w; simp [go_sem, execOp, Act.eval]; done)); try walk_nrm) | (co_apply opsS_nil; try dsimp only) | co_apply wpS_seq | co_apply wpS_skip | (co_apply wpS_cond; (focus (exact rfl)); simp only [if_true, if_false, reduceIte, Bool.false_eq_true])))
    (first | (co_apply wpS_ret; refine ⟨_, fun w => ⟨results_tmp rfl _ _ _, events_results_tmp rfl _ _⟩, unwinds_nil ?_⟩) | (refine ⟨_, fun w => ⟨results_none rfl _ _ _, events_results_none rfl _ _⟩, unwinds_nil ?_⟩) | (co_apply wpS_ret; refine ⟨_, fun w => ⟨results_none rfl _ _ _, events_results_none rfl _ _⟩, unwinds_nil ?_⟩))
    refine ⟨rfl, ?_⟩
    have : ((L.deafen (deafBehind L.d #[⟨.mark .disable, false, true⟩])).sets ad (.int .i32 0)).d = deafBehind L.d #[⟨.mark .disable, false, true⟩] := rfl
    rw [this, back_deaf hd]
    exact deafen_same (L := L.sets ad (.int .i32 0)) hd
  · decide
theorem w_unlock [Inhabited Base] (hP : X.P = Try.prog) {ad : Addr} (hfit : Fit L) (hd : L.d = 0) (h : Has L ad (.int .i32 1)) : CallsSD X i 53 #[.pointer (some ad)] 160 L fun L' => L' = L.sets ad (.int .i32 0) := by
  (obtain ⟨P, ap, SelAt, CI, CW, Q⟩ := X; dsimp only at hP; subst hP)
  (co_apply CallsSD.more; co_apply callsSD_of_wp Try.func53 rfl; simp only [Try.ntmps53, List.size_toArray, List.length_cons, List.length_nil, Nat.reduceAdd, Nat.reduceSub, Array.replicate, List.replicate, List.append_toArray, List.cons_append, List.nil_append, List.append_eq])
  · (repeat (first | (co_apply wpS_region; simp only [List.size_toArray, List.length_cons, List.length_nil, Nat.reduceAdd, Nat.zero_add, List.range, List.range.loop]) | (co_apply opsS_pure; (focus (exact rfl)); (focus (exact rfl)); (focus (intro w; go_simp <;> exact rfl)); (focus (intro w; simp [go_sem, execOp, Act.eval]; done)); try walk_nrm) | (co_apply opsS_nil; try dsimp only) | co_apply wpS_seq | co_apply wpS_skip | (co_apply wpS_cond; (focus (exact rfl)); simp only [if_true, if_false, reduceIte, Bool.false_eq_true])))
    (co_apply opsS_call; (focus (exact rfl)); (focus (exact rfl)); (focus (exact rfl)); (focus (exact Try.func56)); (focus (rfl)); (focus (rfl)); try simp only [List.map_toArray, List.map_cons, List.map_nil])
    · exact w_unlock1 rfl hfit hd h
    rintro _ _ ⟨rfl, rfl⟩
    walk_nrm
    (repeat (first | (co_apply wpS_region; simp only [List.size_toArray, List.length_cons, List.length_nil, Nat.reduceAdd, Nat.zero_add, List.range, List.range.loop]) | (co_apply opsS_pure; (focus (exact rfl)); (focus (exact rfl)); (focus (intro w; go_simp <;> exact rfl)); (focus (intro w; simp [go_sem, execOp, Act.eval]; done)); try walk_nrm) | (co_apply opsS_nil; try dsimp only) | co_apply wpS_seq | co_apply wpS_skip | (co_apply wpS_cond; (focus (exact rfl)); simp only [if_true, if_false, reduceIte, Bool.false_eq_true])))
    (first | (co_apply wpS_ret; refine ⟨_, fun w => ⟨results_tmp rfl _ _ _, events_results_tmp rfl _ _⟩, unwinds_nil ?_⟩) | (refine ⟨_, fun w => ⟨results_none rfl _ _ _, events_results_none rfl _ _⟩, unwinds_nil ?_⟩) | (co_apply wpS_ret; refine ⟨_, fun w => ⟨results_none rfl _ _ _, events_results_none rfl _ _⟩, unwinds_nil ?_⟩))
    rfl
  · decide
end Go.Proofs.Ytaceedenkmccdaa
