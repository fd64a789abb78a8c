/- Pools: sync.WaitGroup: Done. -/
import Derived.Test.YtaceedenkmccdaaRm
import Derived.Conc.WgArith
import Derived.Conc.SmallLaws
import Derived.Laws.LoneSync
namespace Go.Proofs.Ytaceedenkmccdaa
open Go Go.Conc Go.ConcN
set_option linter.unusedSimpArgs false
set_option linter.unusedVariables false
section
variable {X : Cx} {i : Nat} {fn : FuncId} {Q' : Exit → Act → Lo → Prop} {a : Act} {L L' : Lo} {w w' : World} {Post : Value → Lo → Prop}
/-- An operation that looks at a world that is as is held, and turns nothing. -/
theorem opsS_idle [Inhabited Base] {ops : Array Oper} {j : Nat} {rest : List Nat} {o : Oper} {k : Nat} (v : Value) (ho : ops[j]? = some o) (hw : Region.wanted o (yielded ops a.tmps) = true) (hnl : ¬ Lefty L) (hr : ∀ n Γ w t, Inv X.ap n Γ w t → Γ i = L → i < n → (execOp a.eval o).run X.P w = .ok (.value v) w ∧ (execOp a.eval o).events X.P w #[] = #[])
    (h : OpsS X i fn ops rest k Q' (a.put o.dst v) L) : OpsS X i fn ops (j :: rest) (k + 1) Q' a L := by
  refine opsS_op ho hw hnl fun n Γ w t hI hL hi => ?_
  obtain ⟨h1, h2⟩ := hr n Γ w t hI hL hi
  refine ⟨_, v, w, Γ, h1, .inl rfl, fun pos => ?_, fun j _ => .inl rfl, fun b kk cs => .inr ⟨rfl, fun _ _ x => x⟩, fun _ x => x, ⟨Aged.refl _, fun _ _ _ _ x => x⟩, by rw [hL]; exact h⟩
  have : listed X.P fn a o w = #[] := by unfold listed; rw [h2, seen_none]
  rw [this, ofEvents_nil, Array.append_empty]; exact hI
theorem mv_pure [Inhabited Base] (v : Value) (hnl : ¬ Lefty L) : Move X i L (pure v) fun r L' => r = v ∧ L' = L :=
  ⟨hnl, fun n Γ w t hI hL hi => ⟨v, w, #[], Γ, rfl, fun es0 => by simp, fun x hx => by simp at hx, fun fn pos => by rw [ofEvents_nil, Array.append_empty]; exact hI, fun j _ => .inl rfl, fun _ x => x, ⟨Aged.refl _, fun _ _ _ _ x => x⟩, rfl, hL⟩⟩
/-- A group's cell is there. -/
theorem kid_cell [Inhabited Base] {wa : Addr} {n : Nat} {Γ : Nat → Lo} {t : Trace} (hI : Inv X.ap n Γ w t) (hL : Γ i = L) (hh : L.role.holds wa = true) : ∃ v, w.cell? wa = some v := by
  obtain ⟨hpool, hall⟩ := hI.groups
  cases hr : L.role with
  | worker p job =>
    rw [hr] at hh
    simp only [Role.holds, decide_eq_true_eq] at hh
    subst hh
    obtain ⟨st, _, _, c, _⟩ := (hpool p (hI.wld.work i p job (by rw [hL]; exact hr)).1).2.2.2
    exact ⟨_, c.1⟩
  | asker A zs cur f =>
    rw [hr] at hh
    simp only [Role.holds, decide_eq_true_eq] at hh
    subst hh
    obtain ⟨sp, hA⟩ := asker_all hI (i := i) (by rw [hL]; exact hr)
    obtain ⟨st, _, _, c, _⟩ := (hall A sp hA).2.2.2.1
    exact ⟨_, c.1⟩
  | main m => rw [hr] at hh; cases hh
  | left a b c d => rw [hr] at hh; cases hh
end
section
variable {X : Cx} {i : Nat} {fn : FuncId} {Q' : Exit → Act → Lo → Prop} {a : Act} {L : Lo}
/-- Within a loop, at a round's end. -/
def InLoop [Inhabited Base] (X : Cx) (i : Nat) (fn : FuncId) (c : Code) (n : Nat) (Q' : Exit → Act → Lo → Prop) (a : Act) (L : Lo) : Prop :=
  ∀ (b : Frame) (k : List Item) (cs : List Frame) (m : Nat), b.fn = fn → b.kind ≠ .early → (∀ e a' L', Q' e a' L' → AfterS X i m b k cs e a' L') → X.safe i (m + n) (G (b.at a (.inLoop c :: k)) cs) L
theorem loop_in [Inhabited Base] {c : Code} {r n : Nat} (h : wpS X i fn c r (fun e a' L' => match e with | .normal => InLoop X i fn c n Q' a' L' | e => Q' e a' L') a L) {b : Frame} {k : List Item} {cs : List Frame} {m : Nat} (hb : b.fn = fn) (hk : b.kind ≠ .early) (hc : ∀ e a' L', Q' e a' L' → AfterS X i m b k cs e a' L') : X.safe i (m + n + r) (G (b.at a (.code c :: .inLoop c :: k)) cs) L := by
  refine h b (.inLoop c :: k) cs (m + n) hb hk fun e a' L' q => ?_
  cases e with
  | normal => exact q b k cs m hb hk hc
  | exit id => exact ((hc _ _ _ q).mono (Nat.le_add_right _ _)).push rfl (by simp)
  | ret => exact ((hc _ _ _ q).mono (Nat.le_add_right _ _)).push (x := .inLoop c) rfl (by simp)
  | goto l => exact hc _ _ _ q
  | panic ch => exact hc _ _ _ q
  | outgrown => exact hc _ _ _ q
theorem wpS_unroll [Inhabited Base] {c : Code} {r n : Nat} (h : wpS X i fn c r (fun e a' L' => match e with | .normal => InLoop X i fn c n Q' a' L' | e => Q' e a' L') a L) : wpS X i fn (.loop c) (n + r + 1) Q' a L := fun b k cs m hb hk hc => by
  have e : m + (n + r + 1) = (m + n + r) + 1 := by omega
  rw [e]
  exact safe_silent rfl (fun w => stepG_loop) (loop_in h hb hk hc)
theorem inLoop_unroll [Inhabited Base] {c : Code} {r n : Nat} (h : wpS X i fn c r (fun e a' L' => match e with | .normal => InLoop X i fn c n Q' a' L' | e => Q' e a' L') a L) : InLoop X i fn c (n + r + 1) Q' a L := fun b k cs m hb hk hc => by
  have e : m + (n + r + 1) = (m + n + r) + 1 := by omega
  rw [e]
  exact safe_silent rfl (fun w => stepG_inLoop) (loop_in h hb hk hc)
end
variable {X : Cx} {i : Nat} {L : Lo} {Post : Value → Lo → Prop}
set_option maxRecDepth 100000 in
set_option maxHeartbeats 8000000 in
/-- Add(-1), as Done calls it. -/
theorem w_addNeg [Inhabited Base] (hP : X.P = Try.prog) {wa : Addr} {zs : List Nat} {f : Bool} (h0 : i ≠ 0) (hm : MayLeave X.ap L wa zs f) (hq : L.q = none) (hal : L.h = .alive) (hd : L.d = 0) (hh : L.role.holds wa = true) : CallsS X i 15 #[.pointer (some wa), .int .i64 (-1)] 400 L fun r L' => r = .tuple #[] ∧ ∃ rr, L' = (L.says wa rr).turn (.left wa zs f 0) none := by
  (obtain ⟨P, ap, SelAt, CI, CW, Q⟩ := X; dsimp only at hP; subst hP)
  have hlt : ¬ Lefty L := fun ⟨⟨wa', zs, f, e⟩, _⟩ => by rw [e] at hh; cases hh
  (co_apply CallsS.more; co_apply callsS_of_wp Try.func15 rfl; simp only [Try.ntmps15, List.size_toArray, List.length_cons, List.length_nil, Nat.reduceAdd, Nat.reduceSub, Array.replicate, List.replicate, List.append_toArray, List.cons_append, List.nil_append, List.append_eq])
  · (repeat (first | (co_apply wpS_region; simp only [List.size_toArray, List.length_cons, List.length_nil, Nat.reduceAdd, Nat.zero_add, List.range, List.range.loop]) | (co_apply opsS_pure; (focus (exact rfl)); (focus (exact rfl)); (focus (intro w; go_simp <;> exact rfl)); (focus (intro w; simp [go_sem, execOp, Act.eval]; done)); try walk_nrm) | (co_apply opsS_nil; try dsimp only) | co_apply wpS_seq | co_apply wpS_skip | (co_apply wpS_cond; (focus (exact rfl)); simp only [if_true, if_false, reduceIte, Bool.false_eq_true])))
    (co_apply opsS_idle (.pointer (some wa)); (focus (exact rfl)); (focus (exact rfl)))
    · exact hlt
    · intro n Γ w t hI hL hi
      obtain ⟨u, hu⟩ := kid_cell hI hL hh
      have hcv := run_convert_to_unsafe (P := Try.prog) (src := 65) (dst := 67) Try.underlying65 Try.underlying67 (by kernel_rfl) hu
      have hce := fun es => events_convert_to_unsafe (P := Try.prog) (src := 65) (dst := 67) Try.underlying65 Try.underlying67 (by kernel_rfl) hu es
      refine ⟨?_, ?_⟩
      · go_simp
      · simp [go_sem, execOp, Act.eval, hce]
    walk_nrm
    (co_apply opsS_entry (e := Extern.Race.marked .releaseMerge); (focus (exact rfl)); (focus (exact rfl)); (focus (exact rfl)); (focus (exact Try.func24)); (focus (rfl)); (focus (rfl)); (focus (kernel_rfl)); (focus (kernel_rfl)); try simp only [List.map_toArray, List.map_cons, List.map_nil])
    · exact mv_says h0 hal hd hh
    rintro _ _ ⟨rr, rfl⟩
    walk_nrm
    (repeat (first | (co_apply wpS_region; simp only [List.size_toArray, List.length_cons, List.length_nil, Nat.reduceAdd, Nat.zero_add, List.range, List.range.loop]) | (co_apply opsS_pure; (focus (exact rfl)); (focus (exact rfl)); (focus (intro w; go_simp <;> exact rfl)); (focus (intro w; simp [go_sem, execOp, Act.eval]; done)); try walk_nrm) | (co_apply opsS_nil; try dsimp only) | co_apply wpS_seq | co_apply wpS_skip | (co_apply wpS_cond; (focus (exact rfl)); simp only [if_true, if_false, reduceIte, Bool.false_eq_true])))
    (co_apply opsS_mark (.inl rfl); (focus (exact rfl)); (focus (exact rfl)); (focus (exact rfl)); (focus (exact Try.func25)); (focus (rfl)); (focus (rfl)); (focus (kernel_rfl)); (focus (kernel_rfl)); try walk_nrm)
    (repeat (first | (co_apply wpS_region; simp only [List.size_toArray, List.length_cons, List.length_nil, Nat.reduceAdd, Nat.zero_add, List.range, List.range.loop]) | (co_apply opsS_pure; (focus (exact rfl)); (focus (exact rfl)); (focus (intro w; go_simp <;> exact rfl)); (focus (intro w; simp [go_sem, execOp, Act.eval]; done)); try walk_nrm) | (co_apply opsS_nil; try dsimp only) | co_apply wpS_seq | co_apply wpS_skip | (co_apply wpS_cond; (focus (exact rfl)); simp only [if_true, if_false, reduceIte, Bool.false_eq_true])))
    (co_apply opsS_defer; (focus (exact rfl)); (focus (exact rfl)); (focus (exact rfl)); simp only [List.map_toArray, List.map_cons, List.map_nil]; try walk_nrm)
    (repeat (first | (co_apply wpS_region; simp only [List.size_toArray, List.length_cons, List.length_nil, Nat.reduceAdd, Nat.zero_add, List.range, List.range.loop]) | (co_apply opsS_pure; (focus (exact rfl)); (focus (exact rfl)); (focus (intro w; go_simp <;> exact rfl)); (focus (intro w; simp [go_sem, execOp, Act.eval]; done)); try walk_nrm) | (co_apply opsS_nil; try dsimp only) | co_apply wpS_seq | co_apply wpS_skip | (co_apply wpS_cond; (focus (exact rfl)); simp only [if_true, if_false, reduceIte, Bool.false_eq_true])))
    (co_apply opsS_entry (e := fun _ => pure (.bool false)); (focus (exact rfl)); (focus (exact rfl)); (focus (exact rfl)); (focus (exact Try.func27)); (focus (rfl)); (focus (rfl)); (focus (kernel_rfl)); (focus (kernel_rfl)); try simp only [List.map_toArray, List.map_cons, List.map_nil])
    · exact mv_pure _ hlt
    rintro _ _ ⟨rfl, rfl⟩
    walk_nrm
    (repeat (first | (co_apply wpS_region; simp only [List.size_toArray, List.length_cons, List.length_nil, Nat.reduceAdd, Nat.zero_add, List.range, List.range.loop]) | (co_apply opsS_pure; (focus (exact rfl)); (focus (exact rfl)); (focus (intro w; go_simp <;> exact rfl)); (focus (intro w; simp [go_sem, execOp, Act.eval]; done)); try walk_nrm) | (co_apply opsS_nil; try dsimp only) | co_apply wpS_seq | co_apply wpS_skip | (co_apply wpS_cond; (focus (exact rfl)); simp only [if_true, if_false, reduceIte, Bool.false_eq_true])))
    (co_apply opsS_call; (focus (exact rfl)); (focus (exact rfl)); (focus (exact rfl)); (focus (exact Try.func31)); (focus (rfl)); (focus (rfl)); try simp only [List.map_toArray, List.map_cons, List.map_nil])
    · exact w_u64add rfl (mv_done (wa := wa) (zs := zs) (f := f) h0 hm hq ⟨rr, rfl⟩ (by simp [Lo.deafen, Lo.says, hd, deafBehind]))
    rintro _ _ ⟨v, s, y, rfl, rfl, hv, hcase⟩
    walk_nrm
    have hfin : (((L.says wa rr).deafen (deafBehind (L.says wa rr).d #[⟨.mark .disable, false, true⟩])).turn (.left wa zs f 0) none).deafen (deafBehind (((L.says wa rr).deafen (deafBehind (L.says wa rr).d #[⟨.mark .disable, false, true⟩])).turn (.left wa zs f 0) none).d #[⟨.mark .enable, false, true⟩]) = (L.says wa rr).turn (.left wa zs f 0) none := by
      simp [Lo.turn, Lo.deafen, Lo.says, deafBehind, hd]
    rcases hcase with ⟨rfl, hy | ⟨hy, hv1⟩⟩ | ⟨rfl, rfl⟩
    · have a1 : y / 4294967296 = (v : Int) := by rw [hy]; unfold KW; omega
      have a2 : 0 ≤ y ∧ y < 9223372036854775808 := by rw [hy]; unfold KW; omega
      have b1 : bits .and .u64 y 2147483648 = 0 := by rw [hy]; have := st_flag v 0 (by omega) (by omega); simpa [KW] using this
      have b2 : bits .and .u64 y 2147483647 = 0 := by rw [hy]; have := st_waiters v 0 (by omega) (by omega); simpa [KW] using this
      clear hy
      (co_apply opsS_pure (v := (.int .u64 y)); (focus (exact rfl)); (focus (exact rfl)); (focus (intro w; go_simp <;> first | done | exact rfl | assumption | omega | ((simp only [IntKind.wrap_u64, IntKind.wrap_u32, IntKind.wrap_i32]); omega) | decide)); (focus (intro w; simp [go_sem, execOp, Act.eval, *]; done)); try walk_nrm)
      (co_apply opsS_nil; try dsimp only)
      co_apply wpS_more (n' := 300)

      (repeat (first | (co_apply opsS_nil; try dsimp only) | co_apply wpS_seq | (co_apply wpS_region; simp only [List.size_toArray, List.length_cons, List.length_nil, Nat.reduceAdd, Nat.zero_add, List.range, List.range.loop]) | co_apply wpS_skip | (co_apply wpS_cond; (focus (exact rfl)); simp only [if_true, if_false, reduceIte, Bool.false_eq_true])))
      (co_apply opsS_pure (v := (.int .u64 y)); (focus (exact rfl)); (focus (exact rfl)); (focus (intro w; go_simp <;> first | done | exact rfl | assumption | omega | ((simp only [IntKind.wrap_u64, IntKind.wrap_u32, IntKind.wrap_i32]); omega) | decide)); (focus (intro w; simp [go_sem, execOp, Act.eval, *]; done)); try walk_nrm)
      (co_apply opsS_pure (v := (.int .u64 0)); (focus (exact rfl)); (focus (exact rfl)); (focus (intro w; go_simp <;> first | done | exact rfl | assumption | omega | ((simp only [IntKind.wrap_u64, IntKind.wrap_u32, IntKind.wrap_i32]); omega) | decide)); (focus (intro w; simp [go_sem, execOp, Act.eval, *]; done)); try walk_nrm)
      (co_apply opsS_pure (v := (.bool false)); (focus (exact rfl)); (focus (exact rfl)); (focus (intro w; go_simp <;> first | done | exact rfl | assumption | omega | ((simp only [IntKind.wrap_u64, IntKind.wrap_u32, IntKind.wrap_i32]); omega) | decide)); (focus (intro w; simp [go_sem, execOp, Act.eval, *]; done)); try walk_nrm)
      (co_apply opsS_pure (v := (.bool false)); (focus (exact rfl)); (focus (exact rfl)); (focus (intro w; go_simp <;> first | done | exact rfl | assumption | omega | ((simp only [IntKind.wrap_u64, IntKind.wrap_u32, IntKind.wrap_i32]); omega) | decide)); (focus (intro w; simp [go_sem, execOp, Act.eval, *]; done)); try walk_nrm)
      (co_apply opsS_unwanted; (focus (exact rfl)); (focus (exact rfl)); walk_nrm)
      (co_apply opsS_unwanted; (focus (exact rfl)); (focus (exact rfl)); walk_nrm)
      (co_apply opsS_pure (v := (.bool false)); (focus (exact rfl)); (focus (exact rfl)); (focus (intro w; go_simp <;> first | done | exact rfl | assumption | omega | ((simp only [IntKind.wrap_u64, IntKind.wrap_u32, IntKind.wrap_i32]); omega) | decide)); (focus (intro w; simp [go_sem, execOp, Act.eval, *]; done)); try walk_nrm)
      (repeat (first | (co_apply opsS_nil; try dsimp only) | co_apply wpS_seq | (co_apply wpS_region; simp only [List.size_toArray, List.length_cons, List.length_nil, Nat.reduceAdd, Nat.zero_add, List.range, List.range.loop]) | co_apply wpS_skip | (co_apply wpS_cond; (focus (exact rfl)); simp only [if_true, if_false, reduceIte, Bool.false_eq_true])))
      (co_apply opsS_pure (v := (.int .u64 y)); (focus (exact rfl)); (focus (exact rfl)); (focus (intro w; go_simp <;> first | done | exact rfl | assumption | omega | ((simp only [IntKind.wrap_u64, IntKind.wrap_u32, IntKind.wrap_i32]); omega) | decide)); (focus (intro w; simp [go_sem, execOp, Act.eval, *]; done)); try walk_nrm)
      (co_apply opsS_pure (v := (.int .u64 v)); (focus (exact rfl)); (focus (exact rfl)); (focus (intro w; go_simp <;> first | done | exact rfl | assumption | omega | ((simp only [IntKind.wrap_u64, IntKind.wrap_u32, IntKind.wrap_i32]); omega) | decide)); (focus (intro w; simp [go_sem, execOp, Act.eval, *]; done)); try walk_nrm)
      (co_apply opsS_pure (v := (.int .i32 v)); (focus (exact rfl)); (focus (exact rfl)); (focus (intro w; go_simp <;> first | done | exact rfl | assumption | omega | ((simp only [IntKind.wrap_u64, IntKind.wrap_u32, IntKind.wrap_i32]); omega) | decide)); (focus (intro w; simp [go_sem, execOp, Act.eval, *]; done)); try walk_nrm)
      (co_apply opsS_pure (v := (.int .i32 v)); (focus (exact rfl)); (focus (exact rfl)); (focus (intro w; go_simp <;> first | done | exact rfl | assumption | omega | ((simp only [IntKind.wrap_u64, IntKind.wrap_u32, IntKind.wrap_i32]); omega) | decide)); (focus (intro w; simp [go_sem, execOp, Act.eval, *]; done)); try walk_nrm)
      (repeat (first | (co_apply opsS_nil; try dsimp only) | co_apply wpS_seq | (co_apply wpS_region; simp only [List.size_toArray, List.length_cons, List.length_nil, Nat.reduceAdd, Nat.zero_add, List.range, List.range.loop]) | co_apply wpS_skip | (co_apply wpS_cond; (focus (exact rfl)); simp only [if_true, if_false, reduceIte, Bool.false_eq_true])))
      (co_apply opsS_pure (v := (.int .u64 y)); (focus (exact rfl)); (focus (exact rfl)); (focus (intro w; go_simp <;> first | done | exact rfl | assumption | omega | ((simp only [IntKind.wrap_u64, IntKind.wrap_u32, IntKind.wrap_i32]); omega) | decide)); (focus (intro w; simp [go_sem, execOp, Act.eval, *]; done)); try walk_nrm)
      (co_apply opsS_pure (v := (.int .u64 0)); (focus (exact rfl)); (focus (exact rfl)); (focus (intro w; go_simp <;> first | done | exact rfl | assumption | omega | ((simp only [IntKind.wrap_u64, IntKind.wrap_u32, IntKind.wrap_i32]); omega) | decide)); (focus (intro w; simp [go_sem, execOp, Act.eval, *]; done)); try walk_nrm)
      (co_apply opsS_pure (v := (.int .u32 0)); (focus (exact rfl)); (focus (exact rfl)); (focus (intro w; go_simp <;> first | done | exact rfl | assumption | omega | ((simp only [IntKind.wrap_u64, IntKind.wrap_u32, IntKind.wrap_i32]); omega) | decide)); (focus (intro w; simp [go_sem, execOp, Act.eval, *]; done)); try walk_nrm)
      (co_apply opsS_pure (v := (.int .u32 0)); (focus (exact rfl)); (focus (exact rfl)); (focus (intro w; go_simp <;> first | done | exact rfl | assumption | omega | ((simp only [IntKind.wrap_u64, IntKind.wrap_u32, IntKind.wrap_i32]); omega) | decide)); (focus (intro w; simp [go_sem, execOp, Act.eval, *]; done)); try walk_nrm)
      (repeat (first | (co_apply opsS_nil; try dsimp only) | co_apply wpS_seq | (co_apply wpS_region; simp only [List.size_toArray, List.length_cons, List.length_nil, Nat.reduceAdd, Nat.zero_add, List.range, List.range.loop]) | co_apply wpS_skip | (co_apply wpS_cond; (focus (exact rfl)); simp only [if_true, if_false, reduceIte, Bool.false_eq_true])))
      (co_apply opsS_pure (v := (.bool true)); (focus (exact rfl)); (focus (exact rfl)); (focus (intro w; go_simp <;> first | done | exact rfl | assumption | omega | ((simp only [IntKind.wrap_u64, IntKind.wrap_u32, IntKind.wrap_i32]); omega) | decide)); (focus (intro w; simp [go_sem, execOp, Act.eval, *]; done)); try walk_nrm)
      (co_apply opsS_pure (v := (.int .i64 (-1))); (focus (exact rfl)); (focus (exact rfl)); (focus (intro w; go_simp <;> first | done | exact rfl | assumption | omega | ((simp only [IntKind.wrap_u64, IntKind.wrap_u32, IntKind.wrap_i32]); omega) | decide)); (focus (intro w; simp [go_sem, execOp, Act.eval, *]; done)); try walk_nrm)
      (co_apply opsS_pure (v := (.bool false)); (focus (exact rfl)); (focus (exact rfl)); (focus (intro w; go_simp <;> first | done | exact rfl | assumption | omega | ((simp only [IntKind.wrap_u64, IntKind.wrap_u32, IntKind.wrap_i32]); omega) | decide)); (focus (intro w; simp [go_sem, execOp, Act.eval, *]; done)); try walk_nrm)
      (co_apply opsS_pure (v := (.bool false)); (focus (exact rfl)); (focus (exact rfl)); (focus (intro w; go_simp <;> first | done | exact rfl | assumption | omega | ((simp only [IntKind.wrap_u64, IntKind.wrap_u32, IntKind.wrap_i32]); omega) | decide)); (focus (intro w; simp [go_sem, execOp, Act.eval, *]; done)); try walk_nrm)
      (co_apply opsS_pure (v := (.bool false)); (focus (exact rfl)); (focus (exact rfl)); (focus (intro w; go_simp <;> first | done | exact rfl | assumption | omega | ((simp only [IntKind.wrap_u64, IntKind.wrap_u32, IntKind.wrap_i32]); omega) | decide)); (focus (intro w; simp [go_sem, execOp, Act.eval, *]; done)); try walk_nrm)
      (co_apply opsS_unwanted; (focus (exact rfl)); (focus (exact rfl)); walk_nrm)
      (co_apply opsS_unwanted; (focus (exact rfl)); (focus (exact rfl)); walk_nrm)
      (co_apply opsS_unwanted; (focus (exact rfl)); (focus (exact rfl)); walk_nrm)
      (co_apply opsS_unwanted; (focus (exact rfl)); (focus (exact rfl)); walk_nrm)
      (co_apply opsS_pure (v := (.bool false)); (focus (exact rfl)); (focus (exact rfl)); (focus (intro w; go_simp <;> first | done | exact rfl | assumption | omega | ((simp only [IntKind.wrap_u64, IntKind.wrap_u32, IntKind.wrap_i32]); omega) | decide)); (focus (intro w; simp [go_sem, execOp, Act.eval, *]; done)); try walk_nrm)
      (repeat (first | (co_apply opsS_nil; try dsimp only) | co_apply wpS_seq | (co_apply wpS_region; simp only [List.size_toArray, List.length_cons, List.length_nil, Nat.reduceAdd, Nat.zero_add, List.range, List.range.loop]) | co_apply wpS_skip | (co_apply wpS_cond; (focus (exact rfl)); simp only [if_true, if_false, reduceIte, Bool.false_eq_true])))
      (co_apply opsS_pure (v := (.int .i32 v)); (focus (exact rfl)); (focus (exact rfl)); (focus (intro w; go_simp <;> first | done | exact rfl | assumption | omega | ((simp only [IntKind.wrap_u64, IntKind.wrap_u32, IntKind.wrap_i32]); omega) | decide)); (focus (intro w; simp [go_sem, execOp, Act.eval, *]; done)); try walk_nrm)
      (co_apply opsS_pure (v := (.bool false)); (focus (exact rfl)); (focus (exact rfl)); (focus (intro w; go_simp <;> first | done | exact rfl | assumption | omega | ((simp only [IntKind.wrap_u64, IntKind.wrap_u32, IntKind.wrap_i32]); omega) | decide)); (focus (intro w; simp [go_sem, execOp, Act.eval, *]; done)); try walk_nrm)
      (repeat (first | (co_apply opsS_nil; try dsimp only) | co_apply wpS_seq | (co_apply wpS_region; simp only [List.size_toArray, List.length_cons, List.length_nil, Nat.reduceAdd, Nat.zero_add, List.range, List.range.loop]) | co_apply wpS_skip | (co_apply wpS_cond; (focus (exact rfl)); simp only [if_true, if_false, reduceIte, Bool.false_eq_true])))
      (co_apply opsS_pure (v := (.int .u32 0)); (focus (exact rfl)); (focus (exact rfl)); (focus (intro w; go_simp <;> first | done | exact rfl | assumption | omega | ((simp only [IntKind.wrap_u64, IntKind.wrap_u32, IntKind.wrap_i32]); omega) | decide)); (focus (intro w; simp [go_sem, execOp, Act.eval, *]; done)); try walk_nrm)
      (co_apply opsS_pure (v := (.bool false)); (focus (exact rfl)); (focus (exact rfl)); (focus (intro w; go_simp <;> first | done | exact rfl | assumption | omega | ((simp only [IntKind.wrap_u64, IntKind.wrap_u32, IntKind.wrap_i32]); omega) | decide)); (focus (intro w; simp [go_sem, execOp, Act.eval, *]; done)); try walk_nrm)
      (co_apply opsS_pure (v := (.bool false)); (focus (exact rfl)); (focus (exact rfl)); (focus (intro w; go_simp <;> first | done | exact rfl | assumption | omega | ((simp only [IntKind.wrap_u64, IntKind.wrap_u32, IntKind.wrap_i32]); omega) | decide)); (focus (intro w; simp [go_sem, execOp, Act.eval, *]; done)); try walk_nrm)
      (co_apply opsS_unwanted; (focus (exact rfl)); (focus (exact rfl)); walk_nrm)
      (co_apply opsS_unwanted; (focus (exact rfl)); (focus (exact rfl)); walk_nrm)
      (co_apply opsS_pure (v := (.bool false)); (focus (exact rfl)); (focus (exact rfl)); (focus (intro w; go_simp <;> first | done | exact rfl | assumption | omega | ((simp only [IntKind.wrap_u64, IntKind.wrap_u32, IntKind.wrap_i32]); omega) | decide)); (focus (intro w; simp [go_sem, execOp, Act.eval, *]; done)); try walk_nrm)
      (co_apply opsS_pure (v := (.bool false)); (focus (exact rfl)); (focus (exact rfl)); (focus (intro w; go_simp <;> first | done | exact rfl | assumption | omega | ((simp only [IntKind.wrap_u64, IntKind.wrap_u32, IntKind.wrap_i32]); omega) | decide)); (focus (intro w; simp [go_sem, execOp, Act.eval, *]; done)); try walk_nrm)
      (co_apply opsS_unwanted; (focus (exact rfl)); (focus (exact rfl)); walk_nrm)
      (co_apply opsS_unwanted; (focus (exact rfl)); (focus (exact rfl)); walk_nrm)
      (co_apply opsS_unwanted; (focus (exact rfl)); (focus (exact rfl)); walk_nrm)
      (co_apply opsS_unwanted; (focus (exact rfl)); (focus (exact rfl)); walk_nrm)
      (co_apply opsS_pure (v := (.bool false)); (focus (exact rfl)); (focus (exact rfl)); (focus (intro w; go_simp <;> first | done | exact rfl | assumption | omega | ((simp only [IntKind.wrap_u64, IntKind.wrap_u32, IntKind.wrap_i32]); omega) | decide)); (focus (intro w; simp [go_sem, execOp, Act.eval, *]; done)); try walk_nrm)
      (repeat (first | (co_apply opsS_nil; try dsimp only) | (co_apply wpS_region; simp only [List.size_toArray, List.length_cons, List.length_nil, Nat.reduceAdd, Nat.zero_add, List.range, List.range.loop]) | co_apply wpS_skip | (co_apply wpS_cond; (focus (exact rfl)); simp only [if_true, if_false, reduceIte, Bool.false_eq_true])))
      co_apply wpS_seq (n₂ := 0)
      (repeat (first | (co_apply opsS_nil; try dsimp only) | co_apply wpS_seq | (co_apply wpS_region; simp only [List.size_toArray, List.length_cons, List.length_nil, Nat.reduceAdd, Nat.zero_add, List.range, List.range.loop]) | co_apply wpS_skip | (co_apply wpS_cond; (focus (exact rfl)); simp only [if_true, if_false, reduceIte, Bool.false_eq_true])))
      (co_apply opsS_pure (v := (.int .i32 v)); (focus (exact rfl)); (focus (exact rfl)); (focus (intro w; go_simp <;> first | done | exact rfl | assumption | omega | ((simp only [IntKind.wrap_u64, IntKind.wrap_u32, IntKind.wrap_i32]); omega) | decide)); (focus (intro w; simp [go_sem, execOp, Act.eval, *]; done)); try walk_nrm)
      by_cases hv0 : v = 0
      · subst hv0
        (co_apply opsS_pure (v := (.bool false)); (focus (exact rfl)); (focus (exact rfl)); (focus (intro w; go_simp <;> first | done | exact rfl | assumption | omega | ((simp only [IntKind.wrap_u64, IntKind.wrap_u32, IntKind.wrap_i32]); omega) | decide)); (focus (intro w; simp [go_sem, execOp, Act.eval, *]; done)); try walk_nrm)
        (co_apply opsS_pure (v := (.bool false)); (focus (exact rfl)); (focus (exact rfl)); (focus (intro w; go_simp <;> first | done | exact rfl | assumption | omega | ((simp only [IntKind.wrap_u64, IntKind.wrap_u32, IntKind.wrap_i32]); omega) | decide)); (focus (intro w; simp [go_sem, execOp, Act.eval, *]; done)); try walk_nrm)
        (co_apply opsS_pure (v := (.int .u32 0)); (focus (exact rfl)); (focus (exact rfl)); (focus (intro w; go_simp <;> first | done | exact rfl | assumption | omega | ((simp only [IntKind.wrap_u64, IntKind.wrap_u32, IntKind.wrap_i32]); omega) | decide)); (focus (intro w; simp [go_sem, execOp, Act.eval, *]; done)); try walk_nrm)
        (co_apply opsS_pure (v := (.bool true)); (focus (exact rfl)); (focus (exact rfl)); (focus (intro w; go_simp <;> first | done | exact rfl | assumption | omega | ((simp only [IntKind.wrap_u64, IntKind.wrap_u32, IntKind.wrap_i32]); omega) | decide)); (focus (intro w; simp [go_sem, execOp, Act.eval, *]; done)); try walk_nrm)
        (co_apply opsS_pure (v := (.bool true)); (focus (exact rfl)); (focus (exact rfl)); (focus (intro w; go_simp <;> first | done | exact rfl | assumption | omega | ((simp only [IntKind.wrap_u64, IntKind.wrap_u32, IntKind.wrap_i32]); omega) | decide)); (focus (intro w; simp [go_sem, execOp, Act.eval, *]; done)); try walk_nrm)
        (repeat (first | (co_apply opsS_nil; try dsimp only) | co_apply wpS_seq | (co_apply wpS_region; simp only [List.size_toArray, List.length_cons, List.length_nil, Nat.reduceAdd, Nat.zero_add, List.range, List.range.loop]) | co_apply wpS_skip | (co_apply wpS_cond; (focus (exact rfl)); simp only [if_true, if_false, reduceIte, Bool.false_eq_true])))
        (co_apply wpS_ret; refine ⟨_, fun w => ⟨results_none rfl _ _ _, events_results_none rfl _ _⟩, ?_⟩)
        (co_apply unwinds_mark (.inr rfl); (focus (exact Try.func26)); (focus (rfl)); (focus (rfl)); (focus (kernel_rfl)); (focus (kernel_rfl)))
        exact unwinds_nil ⟨rfl, rr, hfin⟩
      · have hp : (0 : Int) < v := by omega
        (co_apply opsS_pure (v := (.bool true)); (focus (exact rfl)); (focus (exact rfl)); (focus (intro w; go_simp <;> first | done | exact rfl | assumption | omega | ((simp only [IntKind.wrap_u64, IntKind.wrap_u32, IntKind.wrap_i32]); omega) | decide)); (focus (intro w; simp [go_sem, execOp, Act.eval, *]; done)); try walk_nrm)
        (co_apply opsS_pure (v := (.bool true)); (focus (exact rfl)); (focus (exact rfl)); (focus (intro w; go_simp <;> first | done | exact rfl | assumption | omega | ((simp only [IntKind.wrap_u64, IntKind.wrap_u32, IntKind.wrap_i32]); omega) | decide)); (focus (intro w; simp [go_sem, execOp, Act.eval, *]; done)); try walk_nrm)
        (co_apply opsS_unwanted; (focus (exact rfl)); (focus (exact rfl)); walk_nrm)
        (co_apply opsS_unwanted; (focus (exact rfl)); (focus (exact rfl)); walk_nrm)
        (co_apply opsS_pure (v := (.bool true)); (focus (exact rfl)); (focus (exact rfl)); (focus (intro w; go_simp <;> first | done | exact rfl | assumption | omega | ((simp only [IntKind.wrap_u64, IntKind.wrap_u32, IntKind.wrap_i32]); omega) | decide)); (focus (intro w; simp [go_sem, execOp, Act.eval, *]; done)); try walk_nrm)
        (repeat (first | (co_apply opsS_nil; try dsimp only) | co_apply wpS_seq | (co_apply wpS_region; simp only [List.size_toArray, List.length_cons, List.length_nil, Nat.reduceAdd, Nat.zero_add, List.range, List.range.loop]) | co_apply wpS_skip | (co_apply wpS_cond; (focus (exact rfl)); simp only [if_true, if_false, reduceIte, Bool.false_eq_true])))
        (co_apply wpS_ret; refine ⟨_, fun w => ⟨results_none rfl _ _ _, events_results_none rfl _ _⟩, ?_⟩)
        (co_apply unwinds_mark (.inr rfl); (focus (exact Try.func26)); (focus (rfl)); (focus (rfl)); (focus (kernel_rfl)); (focus (kernel_rfl)))
        exact unwinds_nil ⟨rfl, rr, hfin⟩
      decide
    · have a1 : y / 4294967296 = (v : Int) := by rw [hy]; unfold KW; omega
      have a2 : 0 ≤ y ∧ y < 9223372036854775808 := by rw [hy]; unfold KW; omega
      have b1 : bits .and .u64 y 2147483648 = 0 := by rw [hy]; have := st_flag v 1 (by omega) (by omega); simpa [KW] using this
      have b2 : bits .and .u64 y 2147483647 = 1 := by rw [hy]; have := st_waiters v 1 (by omega) (by omega); simpa [KW] using this
      have hp : (0 : Int) < v := by omega
      clear hy
      (co_apply opsS_pure (v := (.int .u64 y)); (focus (exact rfl)); (focus (exact rfl)); (focus (intro w; go_simp <;> first | done | exact rfl | assumption | omega | ((simp only [IntKind.wrap_u64, IntKind.wrap_u32, IntKind.wrap_i32]); omega) | decide)); (focus (intro w; simp [go_sem, execOp, Act.eval, *]; done)); try walk_nrm)
      (co_apply opsS_nil; try dsimp only)
      co_apply wpS_more (n' := 300)

      (repeat (first | (co_apply opsS_nil; try dsimp only) | co_apply wpS_seq | (co_apply wpS_region; simp only [List.size_toArray, List.length_cons, List.length_nil, Nat.reduceAdd, Nat.zero_add, List.range, List.range.loop]) | co_apply wpS_skip | (co_apply wpS_cond; (focus (exact rfl)); simp only [if_true, if_false, reduceIte, Bool.false_eq_true])))
      (co_apply opsS_pure (v := (.int .u64 y)); (focus (exact rfl)); (focus (exact rfl)); (focus (intro w; go_simp <;> first | done | exact rfl | assumption | omega | ((simp only [IntKind.wrap_u64, IntKind.wrap_u32, IntKind.wrap_i32]); omega) | decide)); (focus (intro w; simp [go_sem, execOp, Act.eval, *]; done)); try walk_nrm)
      (co_apply opsS_pure (v := (.int .u64 0)); (focus (exact rfl)); (focus (exact rfl)); (focus (intro w; go_simp <;> first | done | exact rfl | assumption | omega | ((simp only [IntKind.wrap_u64, IntKind.wrap_u32, IntKind.wrap_i32]); omega) | decide)); (focus (intro w; simp [go_sem, execOp, Act.eval, *]; done)); try walk_nrm)
      (co_apply opsS_pure (v := (.bool false)); (focus (exact rfl)); (focus (exact rfl)); (focus (intro w; go_simp <;> first | done | exact rfl | assumption | omega | ((simp only [IntKind.wrap_u64, IntKind.wrap_u32, IntKind.wrap_i32]); omega) | decide)); (focus (intro w; simp [go_sem, execOp, Act.eval, *]; done)); try walk_nrm)
      (co_apply opsS_pure (v := (.bool false)); (focus (exact rfl)); (focus (exact rfl)); (focus (intro w; go_simp <;> first | done | exact rfl | assumption | omega | ((simp only [IntKind.wrap_u64, IntKind.wrap_u32, IntKind.wrap_i32]); omega) | decide)); (focus (intro w; simp [go_sem, execOp, Act.eval, *]; done)); try walk_nrm)
      (co_apply opsS_unwanted; (focus (exact rfl)); (focus (exact rfl)); walk_nrm)
      (co_apply opsS_unwanted; (focus (exact rfl)); (focus (exact rfl)); walk_nrm)
      (co_apply opsS_pure (v := (.bool false)); (focus (exact rfl)); (focus (exact rfl)); (focus (intro w; go_simp <;> first | done | exact rfl | assumption | omega | ((simp only [IntKind.wrap_u64, IntKind.wrap_u32, IntKind.wrap_i32]); omega) | decide)); (focus (intro w; simp [go_sem, execOp, Act.eval, *]; done)); try walk_nrm)
      (repeat (first | (co_apply opsS_nil; try dsimp only) | co_apply wpS_seq | (co_apply wpS_region; simp only [List.size_toArray, List.length_cons, List.length_nil, Nat.reduceAdd, Nat.zero_add, List.range, List.range.loop]) | co_apply wpS_skip | (co_apply wpS_cond; (focus (exact rfl)); simp only [if_true, if_false, reduceIte, Bool.false_eq_true])))
      (co_apply opsS_pure (v := (.int .u64 y)); (focus (exact rfl)); (focus (exact rfl)); (focus (intro w; go_simp <;> first | done | exact rfl | assumption | omega | ((simp only [IntKind.wrap_u64, IntKind.wrap_u32, IntKind.wrap_i32]); omega) | decide)); (focus (intro w; simp [go_sem, execOp, Act.eval, *]; done)); try walk_nrm)
      (co_apply opsS_pure (v := (.int .u64 v)); (focus (exact rfl)); (focus (exact rfl)); (focus (intro w; go_simp <;> first | done | exact rfl | assumption | omega | ((simp only [IntKind.wrap_u64, IntKind.wrap_u32, IntKind.wrap_i32]); omega) | decide)); (focus (intro w; simp [go_sem, execOp, Act.eval, *]; done)); try walk_nrm)
      (co_apply opsS_pure (v := (.int .i32 v)); (focus (exact rfl)); (focus (exact rfl)); (focus (intro w; go_simp <;> first | done | exact rfl | assumption | omega | ((simp only [IntKind.wrap_u64, IntKind.wrap_u32, IntKind.wrap_i32]); omega) | decide)); (focus (intro w; simp [go_sem, execOp, Act.eval, *]; done)); try walk_nrm)
      (co_apply opsS_pure (v := (.int .i32 v)); (focus (exact rfl)); (focus (exact rfl)); (focus (intro w; go_simp <;> first | done | exact rfl | assumption | omega | ((simp only [IntKind.wrap_u64, IntKind.wrap_u32, IntKind.wrap_i32]); omega) | decide)); (focus (intro w; simp [go_sem, execOp, Act.eval, *]; done)); try walk_nrm)
      (repeat (first | (co_apply opsS_nil; try dsimp only) | co_apply wpS_seq | (co_apply wpS_region; simp only [List.size_toArray, List.length_cons, List.length_nil, Nat.reduceAdd, Nat.zero_add, List.range, List.range.loop]) | co_apply wpS_skip | (co_apply wpS_cond; (focus (exact rfl)); simp only [if_true, if_false, reduceIte, Bool.false_eq_true])))
      (co_apply opsS_pure (v := (.int .u64 y)); (focus (exact rfl)); (focus (exact rfl)); (focus (intro w; go_simp <;> first | done | exact rfl | assumption | omega | ((simp only [IntKind.wrap_u64, IntKind.wrap_u32, IntKind.wrap_i32]); omega) | decide)); (focus (intro w; simp [go_sem, execOp, Act.eval, *]; done)); try walk_nrm)
      (co_apply opsS_pure (v := (.int .u64 1)); (focus (exact rfl)); (focus (exact rfl)); (focus (intro w; go_simp <;> first | done | exact rfl | assumption | omega | ((simp only [IntKind.wrap_u64, IntKind.wrap_u32, IntKind.wrap_i32]); omega) | decide)); (focus (intro w; simp [go_sem, execOp, Act.eval, *]; done)); try walk_nrm)
      (co_apply opsS_pure (v := (.int .u32 1)); (focus (exact rfl)); (focus (exact rfl)); (focus (intro w; go_simp <;> first | done | exact rfl | assumption | omega | ((simp only [IntKind.wrap_u64, IntKind.wrap_u32, IntKind.wrap_i32]); omega) | decide)); (focus (intro w; simp [go_sem, execOp, Act.eval, *]; done)); try walk_nrm)
      (co_apply opsS_pure (v := (.int .u32 1)); (focus (exact rfl)); (focus (exact rfl)); (focus (intro w; go_simp <;> first | done | exact rfl | assumption | omega | ((simp only [IntKind.wrap_u64, IntKind.wrap_u32, IntKind.wrap_i32]); omega) | decide)); (focus (intro w; simp [go_sem, execOp, Act.eval, *]; done)); try walk_nrm)
      (repeat (first | (co_apply opsS_nil; try dsimp only) | co_apply wpS_seq | (co_apply wpS_region; simp only [List.size_toArray, List.length_cons, List.length_nil, Nat.reduceAdd, Nat.zero_add, List.range, List.range.loop]) | co_apply wpS_skip | (co_apply wpS_cond; (focus (exact rfl)); simp only [if_true, if_false, reduceIte, Bool.false_eq_true])))
      (co_apply opsS_pure (v := (.bool true)); (focus (exact rfl)); (focus (exact rfl)); (focus (intro w; go_simp <;> first | done | exact rfl | assumption | omega | ((simp only [IntKind.wrap_u64, IntKind.wrap_u32, IntKind.wrap_i32]); omega) | decide)); (focus (intro w; simp [go_sem, execOp, Act.eval, *]; done)); try walk_nrm)
      (co_apply opsS_pure (v := (.int .i64 (-1))); (focus (exact rfl)); (focus (exact rfl)); (focus (intro w; go_simp <;> first | done | exact rfl | assumption | omega | ((simp only [IntKind.wrap_u64, IntKind.wrap_u32, IntKind.wrap_i32]); omega) | decide)); (focus (intro w; simp [go_sem, execOp, Act.eval, *]; done)); try walk_nrm)
      (co_apply opsS_pure (v := (.bool false)); (focus (exact rfl)); (focus (exact rfl)); (focus (intro w; go_simp <;> first | done | exact rfl | assumption | omega | ((simp only [IntKind.wrap_u64, IntKind.wrap_u32, IntKind.wrap_i32]); omega) | decide)); (focus (intro w; simp [go_sem, execOp, Act.eval, *]; done)); try walk_nrm)
      (co_apply opsS_pure (v := (.bool false)); (focus (exact rfl)); (focus (exact rfl)); (focus (intro w; go_simp <;> first | done | exact rfl | assumption | omega | ((simp only [IntKind.wrap_u64, IntKind.wrap_u32, IntKind.wrap_i32]); omega) | decide)); (focus (intro w; simp [go_sem, execOp, Act.eval, *]; done)); try walk_nrm)
      (co_apply opsS_pure (v := (.bool false)); (focus (exact rfl)); (focus (exact rfl)); (focus (intro w; go_simp <;> first | done | exact rfl | assumption | omega | ((simp only [IntKind.wrap_u64, IntKind.wrap_u32, IntKind.wrap_i32]); omega) | decide)); (focus (intro w; simp [go_sem, execOp, Act.eval, *]; done)); try walk_nrm)
      (co_apply opsS_unwanted; (focus (exact rfl)); (focus (exact rfl)); walk_nrm)
      (co_apply opsS_unwanted; (focus (exact rfl)); (focus (exact rfl)); walk_nrm)
      (co_apply opsS_unwanted; (focus (exact rfl)); (focus (exact rfl)); walk_nrm)
      (co_apply opsS_unwanted; (focus (exact rfl)); (focus (exact rfl)); walk_nrm)
      (co_apply opsS_pure (v := (.bool false)); (focus (exact rfl)); (focus (exact rfl)); (focus (intro w; go_simp <;> first | done | exact rfl | assumption | omega | ((simp only [IntKind.wrap_u64, IntKind.wrap_u32, IntKind.wrap_i32]); omega) | decide)); (focus (intro w; simp [go_sem, execOp, Act.eval, *]; done)); try walk_nrm)
      (repeat (first | (co_apply opsS_nil; try dsimp only) | co_apply wpS_seq | (co_apply wpS_region; simp only [List.size_toArray, List.length_cons, List.length_nil, Nat.reduceAdd, Nat.zero_add, List.range, List.range.loop]) | co_apply wpS_skip | (co_apply wpS_cond; (focus (exact rfl)); simp only [if_true, if_false, reduceIte, Bool.false_eq_true])))
      (co_apply opsS_pure (v := (.int .i32 v)); (focus (exact rfl)); (focus (exact rfl)); (focus (intro w; go_simp <;> first | done | exact rfl | assumption | omega | ((simp only [IntKind.wrap_u64, IntKind.wrap_u32, IntKind.wrap_i32]); omega) | decide)); (focus (intro w; simp [go_sem, execOp, Act.eval, *]; done)); try walk_nrm)
      (co_apply opsS_pure (v := (.bool false)); (focus (exact rfl)); (focus (exact rfl)); (focus (intro w; go_simp <;> first | done | exact rfl | assumption | omega | ((simp only [IntKind.wrap_u64, IntKind.wrap_u32, IntKind.wrap_i32]); omega) | decide)); (focus (intro w; simp [go_sem, execOp, Act.eval, *]; done)); try walk_nrm)
      (repeat (first | (co_apply opsS_nil; try dsimp only) | co_apply wpS_seq | (co_apply wpS_region; simp only [List.size_toArray, List.length_cons, List.length_nil, Nat.reduceAdd, Nat.zero_add, List.range, List.range.loop]) | co_apply wpS_skip | (co_apply wpS_cond; (focus (exact rfl)); simp only [if_true, if_false, reduceIte, Bool.false_eq_true])))
      (co_apply opsS_pure (v := (.int .u32 1)); (focus (exact rfl)); (focus (exact rfl)); (focus (intro w; go_simp <;> first | done | exact rfl | assumption | omega | ((simp only [IntKind.wrap_u64, IntKind.wrap_u32, IntKind.wrap_i32]); omega) | decide)); (focus (intro w; simp [go_sem, execOp, Act.eval, *]; done)); try walk_nrm)
      (co_apply opsS_pure (v := (.bool true)); (focus (exact rfl)); (focus (exact rfl)); (focus (intro w; go_simp <;> first | done | exact rfl | assumption | omega | ((simp only [IntKind.wrap_u64, IntKind.wrap_u32, IntKind.wrap_i32]); omega) | decide)); (focus (intro w; simp [go_sem, execOp, Act.eval, *]; done)); try walk_nrm)
      (co_apply opsS_pure (v := (.bool true)); (focus (exact rfl)); (focus (exact rfl)); (focus (intro w; go_simp <;> first | done | exact rfl | assumption | omega | ((simp only [IntKind.wrap_u64, IntKind.wrap_u32, IntKind.wrap_i32]); omega) | decide)); (focus (intro w; simp [go_sem, execOp, Act.eval, *]; done)); try walk_nrm)
      (co_apply opsS_pure (v := (.int .i64 (-1))); (focus (exact rfl)); (focus (exact rfl)); (focus (intro w; go_simp <;> first | done | exact rfl | assumption | omega | ((simp only [IntKind.wrap_u64, IntKind.wrap_u32, IntKind.wrap_i32]); omega) | decide)); (focus (intro w; simp [go_sem, execOp, Act.eval, *]; done)); try walk_nrm)
      (co_apply opsS_pure (v := (.bool false)); (focus (exact rfl)); (focus (exact rfl)); (focus (intro w; go_simp <;> first | done | exact rfl | assumption | omega | ((simp only [IntKind.wrap_u64, IntKind.wrap_u32, IntKind.wrap_i32]); omega) | decide)); (focus (intro w; simp [go_sem, execOp, Act.eval, *]; done)); try walk_nrm)
      (co_apply opsS_pure (v := (.bool false)); (focus (exact rfl)); (focus (exact rfl)); (focus (intro w; go_simp <;> first | done | exact rfl | assumption | omega | ((simp only [IntKind.wrap_u64, IntKind.wrap_u32, IntKind.wrap_i32]); omega) | decide)); (focus (intro w; simp [go_sem, execOp, Act.eval, *]; done)); try walk_nrm)
      (co_apply opsS_pure (v := (.bool false)); (focus (exact rfl)); (focus (exact rfl)); (focus (intro w; go_simp <;> first | done | exact rfl | assumption | omega | ((simp only [IntKind.wrap_u64, IntKind.wrap_u32, IntKind.wrap_i32]); omega) | decide)); (focus (intro w; simp [go_sem, execOp, Act.eval, *]; done)); try walk_nrm)
      (co_apply opsS_unwanted; (focus (exact rfl)); (focus (exact rfl)); walk_nrm)
      (co_apply opsS_unwanted; (focus (exact rfl)); (focus (exact rfl)); walk_nrm)
      (co_apply opsS_unwanted; (focus (exact rfl)); (focus (exact rfl)); walk_nrm)
      (co_apply opsS_unwanted; (focus (exact rfl)); (focus (exact rfl)); walk_nrm)
      (co_apply opsS_pure (v := (.bool false)); (focus (exact rfl)); (focus (exact rfl)); (focus (intro w; go_simp <;> first | done | exact rfl | assumption | omega | ((simp only [IntKind.wrap_u64, IntKind.wrap_u32, IntKind.wrap_i32]); omega) | decide)); (focus (intro w; simp [go_sem, execOp, Act.eval, *]; done)); try walk_nrm)
      (repeat (first | (co_apply opsS_nil; try dsimp only) | (co_apply wpS_region; simp only [List.size_toArray, List.length_cons, List.length_nil, Nat.reduceAdd, Nat.zero_add, List.range, List.range.loop]) | co_apply wpS_skip | (co_apply wpS_cond; (focus (exact rfl)); simp only [if_true, if_false, reduceIte, Bool.false_eq_true])))
      co_apply wpS_seq (n₂ := 0)
      (repeat (first | (co_apply opsS_nil; try dsimp only) | co_apply wpS_seq | (co_apply wpS_region; simp only [List.size_toArray, List.length_cons, List.length_nil, Nat.reduceAdd, Nat.zero_add, List.range, List.range.loop]) | co_apply wpS_skip | (co_apply wpS_cond; (focus (exact rfl)); simp only [if_true, if_false, reduceIte, Bool.false_eq_true])))
      (co_apply opsS_pure (v := (.int .i32 v)); (focus (exact rfl)); (focus (exact rfl)); (focus (intro w; go_simp <;> first | done | exact rfl | assumption | omega | ((simp only [IntKind.wrap_u64, IntKind.wrap_u32, IntKind.wrap_i32]); omega) | decide)); (focus (intro w; simp [go_sem, execOp, Act.eval, *]; done)); try walk_nrm)
      (co_apply opsS_pure (v := (.bool true)); (focus (exact rfl)); (focus (exact rfl)); (focus (intro w; go_simp <;> first | done | exact rfl | assumption | omega | ((simp only [IntKind.wrap_u64, IntKind.wrap_u32, IntKind.wrap_i32]); omega) | decide)); (focus (intro w; simp [go_sem, execOp, Act.eval, *]; done)); try walk_nrm)
      (co_apply opsS_pure (v := (.bool true)); (focus (exact rfl)); (focus (exact rfl)); (focus (intro w; go_simp <;> first | done | exact rfl | assumption | omega | ((simp only [IntKind.wrap_u64, IntKind.wrap_u32, IntKind.wrap_i32]); omega) | decide)); (focus (intro w; simp [go_sem, execOp, Act.eval, *]; done)); try walk_nrm)
      (co_apply opsS_unwanted; (focus (exact rfl)); (focus (exact rfl)); walk_nrm)
      (co_apply opsS_unwanted; (focus (exact rfl)); (focus (exact rfl)); walk_nrm)
      (co_apply opsS_pure (v := (.bool true)); (focus (exact rfl)); (focus (exact rfl)); (focus (intro w; go_simp <;> first | done | exact rfl | assumption | omega | ((simp only [IntKind.wrap_u64, IntKind.wrap_u32, IntKind.wrap_i32]); omega) | decide)); (focus (intro w; simp [go_sem, execOp, Act.eval, *]; done)); try walk_nrm)
      (repeat (first | (co_apply opsS_nil; try dsimp only) | co_apply wpS_seq | (co_apply wpS_region; simp only [List.size_toArray, List.length_cons, List.length_nil, Nat.reduceAdd, Nat.zero_add, List.range, List.range.loop]) | co_apply wpS_skip | (co_apply wpS_cond; (focus (exact rfl)); simp only [if_true, if_false, reduceIte, Bool.false_eq_true])))
      (co_apply wpS_ret; refine ⟨_, fun w => ⟨results_none rfl _ _ _, events_results_none rfl _ _⟩, ?_⟩)
      (co_apply unwinds_mark (.inr rfl); (focus (exact Try.func26)); (focus (rfl)); (focus (rfl)); (focus (kernel_rfl)); (focus (kernel_rfl)))
      · exact unwinds_nil ⟨rfl, rr, hfin⟩
      decide
    · (co_apply opsS_pure (v := (.int .u64 1)); (focus (exact rfl)); (focus (exact rfl)); (focus (intro w; go_simp <;> first | done | exact rfl | assumption | omega | ((simp only [IntKind.wrap_u64, IntKind.wrap_u32, IntKind.wrap_i32]); omega) | decide)); (focus (intro w; simp [go_sem, execOp, Act.eval, *]; done)); try walk_nrm)
      (co_apply opsS_nil; try dsimp only)
      co_apply wpS_more (n' := 300)

      (repeat (first | (co_apply opsS_nil; try dsimp only) | co_apply wpS_seq | (co_apply wpS_region; simp only [List.size_toArray, List.length_cons, List.length_nil, Nat.reduceAdd, Nat.zero_add, List.range, List.range.loop]) | co_apply wpS_skip | (co_apply wpS_cond; (focus (exact rfl)); simp only [if_true, if_false, reduceIte, Bool.false_eq_true])))
      (co_apply opsS_pure (v := (.int .u64 1)); (focus (exact rfl)); (focus (exact rfl)); (focus (intro w; go_simp <;> first | done | exact rfl | assumption | omega | ((simp only [IntKind.wrap_u64, IntKind.wrap_u32, IntKind.wrap_i32]); omega) | decide)); (focus (intro w; simp [go_sem, execOp, Act.eval, *]; done)); try walk_nrm)
      (co_apply opsS_pure (v := (.int .u64 0)); (focus (exact rfl)); (focus (exact rfl)); (focus (intro w; go_simp <;> first | done | exact rfl | assumption | omega | ((simp only [IntKind.wrap_u64, IntKind.wrap_u32, IntKind.wrap_i32]); omega) | decide)); (focus (intro w; simp [go_sem, execOp, Act.eval, *]; done)); try walk_nrm)
      (co_apply opsS_pure (v := (.bool false)); (focus (exact rfl)); (focus (exact rfl)); (focus (intro w; go_simp <;> first | done | exact rfl | assumption | omega | ((simp only [IntKind.wrap_u64, IntKind.wrap_u32, IntKind.wrap_i32]); omega) | decide)); (focus (intro w; simp [go_sem, execOp, Act.eval, *]; done)); try walk_nrm)
      (co_apply opsS_pure (v := (.bool false)); (focus (exact rfl)); (focus (exact rfl)); (focus (intro w; go_simp <;> first | done | exact rfl | assumption | omega | ((simp only [IntKind.wrap_u64, IntKind.wrap_u32, IntKind.wrap_i32]); omega) | decide)); (focus (intro w; simp [go_sem, execOp, Act.eval, *]; done)); try walk_nrm)
      (co_apply opsS_unwanted; (focus (exact rfl)); (focus (exact rfl)); walk_nrm)
      (co_apply opsS_unwanted; (focus (exact rfl)); (focus (exact rfl)); walk_nrm)
      (co_apply opsS_pure (v := (.bool false)); (focus (exact rfl)); (focus (exact rfl)); (focus (intro w; go_simp <;> first | done | exact rfl | assumption | omega | ((simp only [IntKind.wrap_u64, IntKind.wrap_u32, IntKind.wrap_i32]); omega) | decide)); (focus (intro w; simp [go_sem, execOp, Act.eval, *]; done)); try walk_nrm)
      (repeat (first | (co_apply opsS_nil; try dsimp only) | co_apply wpS_seq | (co_apply wpS_region; simp only [List.size_toArray, List.length_cons, List.length_nil, Nat.reduceAdd, Nat.zero_add, List.range, List.range.loop]) | co_apply wpS_skip | (co_apply wpS_cond; (focus (exact rfl)); simp only [if_true, if_false, reduceIte, Bool.false_eq_true])))
      (co_apply opsS_pure (v := (.int .u64 1)); (focus (exact rfl)); (focus (exact rfl)); (focus (intro w; go_simp <;> first | done | exact rfl | assumption | omega | ((simp only [IntKind.wrap_u64, IntKind.wrap_u32, IntKind.wrap_i32]); omega) | decide)); (focus (intro w; simp [go_sem, execOp, Act.eval, *]; done)); try walk_nrm)
      (co_apply opsS_pure (v := (.int .u64 0)); (focus (exact rfl)); (focus (exact rfl)); (focus (intro w; go_simp <;> first | done | exact rfl | assumption | omega | ((simp only [IntKind.wrap_u64, IntKind.wrap_u32, IntKind.wrap_i32]); omega) | decide)); (focus (intro w; simp [go_sem, execOp, Act.eval, *]; done)); try walk_nrm)
      (co_apply opsS_pure (v := (.int .i32 0)); (focus (exact rfl)); (focus (exact rfl)); (focus (intro w; go_simp <;> first | done | exact rfl | assumption | omega | ((simp only [IntKind.wrap_u64, IntKind.wrap_u32, IntKind.wrap_i32]); omega) | decide)); (focus (intro w; simp [go_sem, execOp, Act.eval, *]; done)); try walk_nrm)
      (co_apply opsS_pure (v := (.int .i32 0)); (focus (exact rfl)); (focus (exact rfl)); (focus (intro w; go_simp <;> first | done | exact rfl | assumption | omega | ((simp only [IntKind.wrap_u64, IntKind.wrap_u32, IntKind.wrap_i32]); omega) | decide)); (focus (intro w; simp [go_sem, execOp, Act.eval, *]; done)); try walk_nrm)
      (repeat (first | (co_apply opsS_nil; try dsimp only) | co_apply wpS_seq | (co_apply wpS_region; simp only [List.size_toArray, List.length_cons, List.length_nil, Nat.reduceAdd, Nat.zero_add, List.range, List.range.loop]) | co_apply wpS_skip | (co_apply wpS_cond; (focus (exact rfl)); simp only [if_true, if_false, reduceIte, Bool.false_eq_true])))
      (co_apply opsS_pure (v := (.int .u64 1)); (focus (exact rfl)); (focus (exact rfl)); (focus (intro w; go_simp <;> first | done | exact rfl | assumption | omega | ((simp only [IntKind.wrap_u64, IntKind.wrap_u32, IntKind.wrap_i32]); omega) | decide)); (focus (intro w; simp [go_sem, execOp, Act.eval, *]; done)); try walk_nrm)
      (co_apply opsS_pure (v := (.int .u64 1)); (focus (exact rfl)); (focus (exact rfl)); (focus (intro w; go_simp <;> first | done | exact rfl | assumption | omega | ((simp only [IntKind.wrap_u64, IntKind.wrap_u32, IntKind.wrap_i32]); omega) | decide)); (focus (intro w; simp [go_sem, execOp, Act.eval, *]; done)); try walk_nrm)
      (co_apply opsS_pure (v := (.int .u32 1)); (focus (exact rfl)); (focus (exact rfl)); (focus (intro w; go_simp <;> first | done | exact rfl | assumption | omega | ((simp only [IntKind.wrap_u64, IntKind.wrap_u32, IntKind.wrap_i32]); omega) | decide)); (focus (intro w; simp [go_sem, execOp, Act.eval, *]; done)); try walk_nrm)
      (co_apply opsS_pure (v := (.int .u32 1)); (focus (exact rfl)); (focus (exact rfl)); (focus (intro w; go_simp <;> first | done | exact rfl | assumption | omega | ((simp only [IntKind.wrap_u64, IntKind.wrap_u32, IntKind.wrap_i32]); omega) | decide)); (focus (intro w; simp [go_sem, execOp, Act.eval, *]; done)); try walk_nrm)
      (repeat (first | (co_apply opsS_nil; try dsimp only) | co_apply wpS_seq | (co_apply wpS_region; simp only [List.size_toArray, List.length_cons, List.length_nil, Nat.reduceAdd, Nat.zero_add, List.range, List.range.loop]) | co_apply wpS_skip | (co_apply wpS_cond; (focus (exact rfl)); simp only [if_true, if_false, reduceIte, Bool.false_eq_true])))
      (co_apply opsS_pure (v := (.bool true)); (focus (exact rfl)); (focus (exact rfl)); (focus (intro w; go_simp <;> first | done | exact rfl | assumption | omega | ((simp only [IntKind.wrap_u64, IntKind.wrap_u32, IntKind.wrap_i32]); omega) | decide)); (focus (intro w; simp [go_sem, execOp, Act.eval, *]; done)); try walk_nrm)
      (co_apply opsS_pure (v := (.int .i64 (-1))); (focus (exact rfl)); (focus (exact rfl)); (focus (intro w; go_simp <;> first | done | exact rfl | assumption | omega | ((simp only [IntKind.wrap_u64, IntKind.wrap_u32, IntKind.wrap_i32]); omega) | decide)); (focus (intro w; simp [go_sem, execOp, Act.eval, *]; done)); try walk_nrm)
      (co_apply opsS_pure (v := (.bool false)); (focus (exact rfl)); (focus (exact rfl)); (focus (intro w; go_simp <;> first | done | exact rfl | assumption | omega | ((simp only [IntKind.wrap_u64, IntKind.wrap_u32, IntKind.wrap_i32]); omega) | decide)); (focus (intro w; simp [go_sem, execOp, Act.eval, *]; done)); try walk_nrm)
      (co_apply opsS_pure (v := (.bool false)); (focus (exact rfl)); (focus (exact rfl)); (focus (intro w; go_simp <;> first | done | exact rfl | assumption | omega | ((simp only [IntKind.wrap_u64, IntKind.wrap_u32, IntKind.wrap_i32]); omega) | decide)); (focus (intro w; simp [go_sem, execOp, Act.eval, *]; done)); try walk_nrm)
      (co_apply opsS_pure (v := (.bool false)); (focus (exact rfl)); (focus (exact rfl)); (focus (intro w; go_simp <;> first | done | exact rfl | assumption | omega | ((simp only [IntKind.wrap_u64, IntKind.wrap_u32, IntKind.wrap_i32]); omega) | decide)); (focus (intro w; simp [go_sem, execOp, Act.eval, *]; done)); try walk_nrm)
      (co_apply opsS_unwanted; (focus (exact rfl)); (focus (exact rfl)); walk_nrm)
      (co_apply opsS_unwanted; (focus (exact rfl)); (focus (exact rfl)); walk_nrm)
      (co_apply opsS_unwanted; (focus (exact rfl)); (focus (exact rfl)); walk_nrm)
      (co_apply opsS_unwanted; (focus (exact rfl)); (focus (exact rfl)); walk_nrm)
      (co_apply opsS_pure (v := (.bool false)); (focus (exact rfl)); (focus (exact rfl)); (focus (intro w; go_simp <;> first | done | exact rfl | assumption | omega | ((simp only [IntKind.wrap_u64, IntKind.wrap_u32, IntKind.wrap_i32]); omega) | decide)); (focus (intro w; simp [go_sem, execOp, Act.eval, *]; done)); try walk_nrm)
      (repeat (first | (co_apply opsS_nil; try dsimp only) | co_apply wpS_seq | (co_apply wpS_region; simp only [List.size_toArray, List.length_cons, List.length_nil, Nat.reduceAdd, Nat.zero_add, List.range, List.range.loop]) | co_apply wpS_skip | (co_apply wpS_cond; (focus (exact rfl)); simp only [if_true, if_false, reduceIte, Bool.false_eq_true])))
      (co_apply opsS_pure (v := (.int .i32 0)); (focus (exact rfl)); (focus (exact rfl)); (focus (intro w; go_simp <;> first | done | exact rfl | assumption | omega | ((simp only [IntKind.wrap_u64, IntKind.wrap_u32, IntKind.wrap_i32]); omega) | decide)); (focus (intro w; simp [go_sem, execOp, Act.eval, *]; done)); try walk_nrm)
      (co_apply opsS_pure (v := (.bool false)); (focus (exact rfl)); (focus (exact rfl)); (focus (intro w; go_simp <;> first | done | exact rfl | assumption | omega | ((simp only [IntKind.wrap_u64, IntKind.wrap_u32, IntKind.wrap_i32]); omega) | decide)); (focus (intro w; simp [go_sem, execOp, Act.eval, *]; done)); try walk_nrm)
      (repeat (first | (co_apply opsS_nil; try dsimp only) | co_apply wpS_seq | (co_apply wpS_region; simp only [List.size_toArray, List.length_cons, List.length_nil, Nat.reduceAdd, Nat.zero_add, List.range, List.range.loop]) | co_apply wpS_skip | (co_apply wpS_cond; (focus (exact rfl)); simp only [if_true, if_false, reduceIte, Bool.false_eq_true])))
      (co_apply opsS_pure (v := (.int .u32 1)); (focus (exact rfl)); (focus (exact rfl)); (focus (intro w; go_simp <;> first | done | exact rfl | assumption | omega | ((simp only [IntKind.wrap_u64, IntKind.wrap_u32, IntKind.wrap_i32]); omega) | decide)); (focus (intro w; simp [go_sem, execOp, Act.eval, *]; done)); try walk_nrm)
      (co_apply opsS_pure (v := (.bool true)); (focus (exact rfl)); (focus (exact rfl)); (focus (intro w; go_simp <;> first | done | exact rfl | assumption | omega | ((simp only [IntKind.wrap_u64, IntKind.wrap_u32, IntKind.wrap_i32]); omega) | decide)); (focus (intro w; simp [go_sem, execOp, Act.eval, *]; done)); try walk_nrm)
      (co_apply opsS_pure (v := (.bool true)); (focus (exact rfl)); (focus (exact rfl)); (focus (intro w; go_simp <;> first | done | exact rfl | assumption | omega | ((simp only [IntKind.wrap_u64, IntKind.wrap_u32, IntKind.wrap_i32]); omega) | decide)); (focus (intro w; simp [go_sem, execOp, Act.eval, *]; done)); try walk_nrm)
      (co_apply opsS_pure (v := (.int .i64 (-1))); (focus (exact rfl)); (focus (exact rfl)); (focus (intro w; go_simp <;> first | done | exact rfl | assumption | omega | ((simp only [IntKind.wrap_u64, IntKind.wrap_u32, IntKind.wrap_i32]); omega) | decide)); (focus (intro w; simp [go_sem, execOp, Act.eval, *]; done)); try walk_nrm)
      (co_apply opsS_pure (v := (.bool false)); (focus (exact rfl)); (focus (exact rfl)); (focus (intro w; go_simp <;> first | done | exact rfl | assumption | omega | ((simp only [IntKind.wrap_u64, IntKind.wrap_u32, IntKind.wrap_i32]); omega) | decide)); (focus (intro w; simp [go_sem, execOp, Act.eval, *]; done)); try walk_nrm)
      (co_apply opsS_pure (v := (.bool false)); (focus (exact rfl)); (focus (exact rfl)); (focus (intro w; go_simp <;> first | done | exact rfl | assumption | omega | ((simp only [IntKind.wrap_u64, IntKind.wrap_u32, IntKind.wrap_i32]); omega) | decide)); (focus (intro w; simp [go_sem, execOp, Act.eval, *]; done)); try walk_nrm)
      (co_apply opsS_pure (v := (.bool false)); (focus (exact rfl)); (focus (exact rfl)); (focus (intro w; go_simp <;> first | done | exact rfl | assumption | omega | ((simp only [IntKind.wrap_u64, IntKind.wrap_u32, IntKind.wrap_i32]); omega) | decide)); (focus (intro w; simp [go_sem, execOp, Act.eval, *]; done)); try walk_nrm)
      (co_apply opsS_unwanted; (focus (exact rfl)); (focus (exact rfl)); walk_nrm)
      (co_apply opsS_unwanted; (focus (exact rfl)); (focus (exact rfl)); walk_nrm)
      (co_apply opsS_unwanted; (focus (exact rfl)); (focus (exact rfl)); walk_nrm)
      (co_apply opsS_unwanted; (focus (exact rfl)); (focus (exact rfl)); walk_nrm)
      (co_apply opsS_pure (v := (.bool false)); (focus (exact rfl)); (focus (exact rfl)); (focus (intro w; go_simp <;> first | done | exact rfl | assumption | omega | ((simp only [IntKind.wrap_u64, IntKind.wrap_u32, IntKind.wrap_i32]); omega) | decide)); (focus (intro w; simp [go_sem, execOp, Act.eval, *]; done)); try walk_nrm)
      (repeat (first | (co_apply opsS_nil; try dsimp only) | co_apply wpS_seq | (co_apply wpS_region; simp only [List.size_toArray, List.length_cons, List.length_nil, Nat.reduceAdd, Nat.zero_add, List.range, List.range.loop]) | co_apply wpS_skip | (co_apply wpS_cond; (focus (exact rfl)); simp only [if_true, if_false, reduceIte, Bool.false_eq_true])))
      (co_apply opsS_pure (v := (.int .i32 0)); (focus (exact rfl)); (focus (exact rfl)); (focus (intro w; go_simp <;> first | done | exact rfl | assumption | omega | ((simp only [IntKind.wrap_u64, IntKind.wrap_u32, IntKind.wrap_i32]); omega) | decide)); (focus (intro w; simp [go_sem, execOp, Act.eval, *]; done)); try walk_nrm)
      (co_apply opsS_pure (v := (.bool false)); (focus (exact rfl)); (focus (exact rfl)); (focus (intro w; go_simp <;> first | done | exact rfl | assumption | omega | ((simp only [IntKind.wrap_u64, IntKind.wrap_u32, IntKind.wrap_i32]); omega) | decide)); (focus (intro w; simp [go_sem, execOp, Act.eval, *]; done)); try walk_nrm)
      (co_apply opsS_pure (v := (.bool false)); (focus (exact rfl)); (focus (exact rfl)); (focus (intro w; go_simp <;> first | done | exact rfl | assumption | omega | ((simp only [IntKind.wrap_u64, IntKind.wrap_u32, IntKind.wrap_i32]); omega) | decide)); (focus (intro w; simp [go_sem, execOp, Act.eval, *]; done)); try walk_nrm)
      (co_apply opsS_pure (v := (.int .u32 1)); (focus (exact rfl)); (focus (exact rfl)); (focus (intro w; go_simp <;> first | done | exact rfl | assumption | omega | ((simp only [IntKind.wrap_u64, IntKind.wrap_u32, IntKind.wrap_i32]); omega) | decide)); (focus (intro w; simp [go_sem, execOp, Act.eval, *]; done)); try walk_nrm)
      (co_apply opsS_pure (v := (.bool false)); (focus (exact rfl)); (focus (exact rfl)); (focus (intro w; go_simp <;> first | done | exact rfl | assumption | omega | ((simp only [IntKind.wrap_u64, IntKind.wrap_u32, IntKind.wrap_i32]); omega) | decide)); (focus (intro w; simp [go_sem, execOp, Act.eval, *]; done)); try walk_nrm)
      (co_apply opsS_pure (v := (.bool false)); (focus (exact rfl)); (focus (exact rfl)); (focus (intro w; go_simp <;> first | done | exact rfl | assumption | omega | ((simp only [IntKind.wrap_u64, IntKind.wrap_u32, IntKind.wrap_i32]); omega) | decide)); (focus (intro w; simp [go_sem, execOp, Act.eval, *]; done)); try walk_nrm)
      (repeat (first | (co_apply opsS_nil; try dsimp only) | co_apply wpS_seq | (co_apply wpS_region; simp only [List.size_toArray, List.length_cons, List.length_nil, Nat.reduceAdd, Nat.zero_add, List.range, List.range.loop]) | co_apply wpS_skip | (co_apply wpS_cond; (focus (exact rfl)); simp only [if_true, if_false, reduceIte, Bool.false_eq_true])))
      (repeat (first | (co_apply wpS_region; simp only [List.size_toArray, List.length_cons, List.length_nil, Nat.reduceAdd, Nat.zero_add, List.range, List.range.loop]) | (co_apply opsS_pure; (focus (exact rfl)); (focus (exact rfl)); (focus (intro w; go_simp <;> exact rfl)); (focus (intro w; simp [go_sem, execOp, Act.eval]; done)); try walk_nrm) | (co_apply opsS_nil; try dsimp only) | co_apply wpS_seq | co_apply wpS_skip | (co_apply wpS_cond; (focus (exact rfl)); simp only [if_true, if_false, reduceIte, Bool.false_eq_true])))
      (co_apply opsS_call; (focus (exact rfl)); (focus (exact rfl)); (focus (exact rfl)); (focus (exact Try.func33)); (focus (rfl)); (focus (rfl)); try simp only [List.map_toArray, List.map_cons, List.map_nil])
      · exact w_u64load rfl (mv_last (wa := wa) (zs := zs) (f := f) h0 rfl rfl ⟨rr, rfl⟩ (by simp [Lo.turn, Lo.deafen, Lo.says, hd, deafBehind]))
      rintro _ _ ⟨rfl, rfl⟩
      walk_nrm
      (repeat (first | (co_apply wpS_region; simp only [List.size_toArray, List.length_cons, List.length_nil, Nat.reduceAdd, Nat.zero_add, List.range, List.range.loop]) | (co_apply opsS_pure; (focus (exact rfl)); (focus (exact rfl)); (focus (intro w; go_simp <;> exact rfl)); (focus (intro w; simp [go_sem, execOp, Act.eval]; done)); try walk_nrm) | (co_apply opsS_nil; try dsimp only) | co_apply wpS_seq | co_apply wpS_skip | (co_apply wpS_cond; (focus (exact rfl)); simp only [if_true, if_false, reduceIte, Bool.false_eq_true])))
      (co_apply opsS_call; (focus (exact rfl)); (focus (exact rfl)); (focus (exact rfl)); (focus (exact Try.func34)); (focus (rfl)); (focus (rfl)); try simp only [List.map_toArray, List.map_cons, List.map_nil])
      · exact w_u64store rfl ((mv_zero (wa := wa) (zs := zs) (f := f) h0 rfl rfl ⟨rr, rfl⟩ (by simp [Lo.turn, Lo.deafen, Lo.says, hd, deafBehind])).mono fun _ _ x => x.2)
      rintro _ _ rfl
      walk_nrm
      (repeat (first | (co_apply wpS_region; simp only [List.size_toArray, List.length_cons, List.length_nil, Nat.reduceAdd, Nat.zero_add, List.range, List.range.loop]) | (co_apply opsS_pure; (focus (exact rfl)); (focus (exact rfl)); (focus (intro w; go_simp <;> exact rfl)); (focus (intro w; simp [go_sem, execOp, Act.eval]; done)); try walk_nrm) | (co_apply opsS_nil; try dsimp only) | co_apply wpS_seq | co_apply wpS_skip | (co_apply wpS_cond; (focus (exact rfl)); simp only [if_true, if_false, reduceIte, Bool.false_eq_true])))
      co_apply wpS_block
      co_apply wpS_unroll
      (repeat (first | (co_apply wpS_region; simp only [List.size_toArray, List.length_cons, List.length_nil, Nat.reduceAdd, Nat.zero_add, List.range, List.range.loop]) | (co_apply opsS_pure; (focus (exact rfl)); (focus (exact rfl)); (focus (intro w; go_simp <;> exact rfl)); (focus (intro w; simp [go_sem, execOp, Act.eval]; done)); try walk_nrm) | (co_apply opsS_nil; try dsimp only) | co_apply wpS_seq | co_apply wpS_skip | (co_apply wpS_cond; (focus (exact rfl)); simp only [if_true, if_false, reduceIte, Bool.false_eq_true])))
      co_apply wpS_block
      (repeat (first | (co_apply wpS_region; simp only [List.size_toArray, List.length_cons, List.length_nil, Nat.reduceAdd, Nat.zero_add, List.range, List.range.loop]) | (co_apply opsS_pure; (focus (exact rfl)); (focus (exact rfl)); (focus (intro w; go_simp <;> exact rfl)); (focus (intro w; simp [go_sem, execOp, Act.eval]; done)); try walk_nrm) | (co_apply opsS_nil; try dsimp only) | co_apply wpS_seq | co_apply wpS_skip | (co_apply wpS_cond; (focus (exact rfl)); simp only [if_true, if_false, reduceIte, Bool.false_eq_true])))
      (co_apply opsS_entry (e := Extern.Sync.semrelease); (focus (exact rfl)); (focus (exact rfl)); (focus (exact rfl)); (focus (exact Try.func36)); (focus (rfl)); (focus (rfl)); (focus (kernel_rfl)); (focus (kernel_rfl)); try simp only [List.map_toArray, List.map_cons, List.map_nil])
      · exact mv_free (wa := wa) (zs := zs) (f := f) h0 rfl rfl ⟨rr, rfl⟩ (by simp [Lo.turn, Lo.deafen, Lo.says, hd, deafBehind])
      rintro _ _ ⟨rfl, rfl⟩
      walk_nrm
      (repeat (first | (co_apply opsS_nil; try dsimp only) | co_apply wpS_seq | (co_apply wpS_region; simp only [List.size_toArray, List.length_cons, List.length_nil, Nat.reduceAdd, Nat.zero_add, List.range, List.range.loop]) | co_apply wpS_skip | (co_apply wpS_cond; (focus (exact rfl)); simp only [if_true, if_false, reduceIte, Bool.false_eq_true])))
      (co_apply opsS_pure (v := (.int .u32 1)); (focus (exact rfl)); (focus (exact rfl)); (focus (intro w; go_simp <;> first | done | exact rfl | assumption | omega | ((simp only [IntKind.wrap_u64, IntKind.wrap_u32, IntKind.wrap_i32]); omega) | decide)); (focus (intro w; simp [go_sem, execOp, Act.eval, *]; done)); try walk_nrm)
      (co_apply opsS_pure (v := (.int .u32 0)); (focus (exact rfl)); (focus (exact rfl)); (focus (intro w; go_simp <;> first | done | exact rfl | assumption | omega | ((simp only [IntKind.wrap_u64, IntKind.wrap_u32, IntKind.wrap_i32]); omega) | decide)); (focus (intro w; simp [go_sem, execOp, Act.eval, *]; done)); try walk_nrm)
      (co_apply opsS_pure (v := (.int .u32 0)); (focus (exact rfl)); (focus (exact rfl)); (focus (intro w; go_simp <;> first | done | exact rfl | assumption | omega | ((simp only [IntKind.wrap_u64, IntKind.wrap_u32, IntKind.wrap_i32]); omega) | decide)); (focus (intro w; simp [go_sem, execOp, Act.eval, *]; done)); try walk_nrm)
      (repeat (first | (co_apply opsS_nil; try dsimp only) | co_apply wpS_seq | (co_apply wpS_region; simp only [List.size_toArray, List.length_cons, List.length_nil, Nat.reduceAdd, Nat.zero_add, List.range, List.range.loop]) | co_apply wpS_skip | (co_apply wpS_cond; (focus (exact rfl)); simp only [if_true, if_false, reduceIte, Bool.false_eq_true])))
      co_apply inLoop_unroll (n := 0)
      co_apply wpS_seq (n₂ := 0)
      (repeat (first | (co_apply opsS_nil; try dsimp only) | co_apply wpS_seq | (co_apply wpS_region; simp only [List.size_toArray, List.length_cons, List.length_nil, Nat.reduceAdd, Nat.zero_add, List.range, List.range.loop]) | co_apply wpS_skip | (co_apply wpS_cond; (focus (exact rfl)); simp only [if_true, if_false, reduceIte, Bool.false_eq_true])))
      (co_apply opsS_pure (v := (.int .u32 0)); (focus (exact rfl)); (focus (exact rfl)); (focus (intro w; go_simp <;> first | done | exact rfl | assumption | omega | ((simp only [IntKind.wrap_u64, IntKind.wrap_u32, IntKind.wrap_i32]); omega) | decide)); (focus (intro w; simp [go_sem, execOp, Act.eval, *]; done)); try walk_nrm)
      (co_apply opsS_pure (v := (.bool false)); (focus (exact rfl)); (focus (exact rfl)); (focus (intro w; go_simp <;> first | done | exact rfl | assumption | omega | ((simp only [IntKind.wrap_u64, IntKind.wrap_u32, IntKind.wrap_i32]); omega) | decide)); (focus (intro w; simp [go_sem, execOp, Act.eval, *]; done)); try walk_nrm)
      (repeat (first | (co_apply opsS_nil; try dsimp only) | co_apply wpS_seq | (co_apply wpS_region; simp only [List.size_toArray, List.length_cons, List.length_nil, Nat.reduceAdd, Nat.zero_add, List.range, List.range.loop]) | co_apply wpS_skip | (co_apply wpS_cond; (focus (exact rfl)); simp only [if_true, if_false, reduceIte, Bool.false_eq_true])))
      co_apply wpS_exit
      try dsimp only
      try simp only [if_true, reduceIte]

      refine ⟨_, fun w => ⟨results_none rfl _ _ _, events_results_none rfl _ _⟩, ?_⟩
      (co_apply unwinds_mark (.inr rfl); (focus (exact Try.func26)); (focus (rfl)); (focus (rfl)); (focus (kernel_rfl)); (focus (kernel_rfl)))
      exact unwinds_nil ⟨rfl, rr, hfin⟩
      decide
  · decide
end Go.Proofs.Ytaceedenkmccdaa
