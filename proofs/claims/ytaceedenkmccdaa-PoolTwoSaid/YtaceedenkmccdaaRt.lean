/- Pools: sync.WaitGroup: Wait. -/
import Derived.Test.YtaceedenkmccdaaRs
namespace Go.Proofs.Ytaceedenkmccdaa
open Go Go.Conc Go.ConcN
set_option linter.unusedSimpArgs false
set_option linter.unusedVariables false
variable {X : Cx} {L : Lo} {Post : Value → Lo → Prop}
set_option maxRecDepth 100000
set_option maxHeartbeats 4000000
/-- A fact that is kept, and not used. -/
def Hid (p : Prop) : Prop := p
/-- An array, written out. -/
theorem lit (t : Array Value) (n : Nat) (h : t.size = n) : ∃ f : Nat → Value, t = ((List.range n).map f).toArray ∧ ∀ k v, t[k]? = some v → f k = v := by
  refine ⟨fun k => t.getD k undef, ?_, fun k v hk => by simp [Array.getD_eq_getD_getElem?, hk]⟩
  apply Array.ext_getElem?
  intro k
  rcases Nat.lt_or_ge k n with hk | hk
  · simp [hk, h]
  · rw [Array.getElem?_eq_none (by omega), Array.getElem?_eq_none (by simpa using hk)]
theorem main_cell [Inhabited Base] {m : MainR} {wa : Addr} {n : Nat} {Γ : Nat → Lo} {w : World} {t : Trace} (hI : Inv X.ap n Γ w t) (hL : Γ 0 = L) (hr : L.role = .main m) (hwa : IsWa (.main m) wa) : (∃ v, w.cell? wa = some v) ∧ ∃ v, w.cell? ⟨wa.block, wa.off + 1, none⟩ = some v := by
  obtain ⟨_, _, st, sm, v, c1, c2, _⟩ := IsWa.ok hI (wa := wa) (by rw [hL, hr]; exact hwa)
  exact ⟨⟨_, c1.1⟩, ⟨_, c2.1⟩⟩
theorem main_nl [Inhabited Base] {m : MainR} (hr : L.role = .main m) : ¬ Lefty L := nl_of hr fun wa zs f => by simp
theorem re_enable [Inhabited Base] {r : Role} {q : Option QSt} (hd : L.d = 0) : ((L.deafen 1).turn r q).deafen (deafBehind ((L.deafen 1).turn r q).d #[⟨.mark .enable, false, true⟩]) = L.turn r q := deafen_same (L := L.turn r q) hd
/-- A look at a group: where it is one that is done with, nobody is counted. -/
theorem mv_look2 [Inhabited Base] {m : MainR} {wa : Addr} (f : Free L m wa) (ho : OpenWa (.main m) wa ∨ ∃ p ∈ m.ps, wa = handsA p ∧ m.fin p.b = true) : Move X 0 L (Extern.Atomic.loadT (.int .u64) #[.pointer (some wa)]) fun r L' => ∃ v : Nat, v ≤ 16 ∧ r = .int .u64 (v * KW) ∧ (∀ k, m.dn = some (wa, k) → v ≤ k) ∧ L' = L.turn (.main (m.at none none (some (wa, v)))) L.q ∧ (v ≠ 0 → OpenWa (.main m) wa) := by
  rcases ho with ho | ⟨p, hp, rfl, hfin⟩
  · exact (mv_look f).mono fun r L' ⟨v, h1, h2, h3, h4⟩ => ⟨v, h1, h2, h3, h4, fun _ => ho⟩
  refine ⟨nl_of f.role fun wa zs f => by simp, fun n Γ w t hI hL hi => ?_⟩
  obtain ⟨v, w', es, Γ', b1, b2, b3, b4, b5, b6, b7, v0, h1, h2, h3, h4⟩ := (mv_look (X := X) f).2 n Γ w t hI hL hi
  refine ⟨v, w', es, Γ', b1, b2, b3, b4, b5, b6, b7, v0, h1, h2, h3, h4, fun hne => absurd ?_ hne⟩
  obtain ⟨v1, _, c1, _, _⟩ := hI.look hL f 0 ""
  obtain ⟨d1, _⟩ := free_at hI hL f
  have hm : (Γ 0).role.m = m := by rw [hL, f.role]; rfl
  have hc := ((hI.wld.pools p (by rw [hm]; exact hp)).2.2.2.2.2.2.2 (by rw [hm]; exact hfin)).2
  have hrun := (ent_load (w := w) X.P d1).1
  have he : v = .int .u64 ((cnt n fun j => (Γ j).role.holds (handsA p) : Nat) * KW) := by
    rw [hrun] at b1
    cases b1
    rfl
  rw [he, hc] at h2
  simp only [Value.int.injEq, true_and] at h2
  unfold KW at h2
  omega
theorem w_wait [Inhabited Base] (hP : X.P = Try.prog) {m : MainR} {wa : Addr} {P' : Lo → Prop} (hd : L.d = 0) (hdn : m.dn = none) (f : Free L m wa) (hopen0 : OpenWa (.main m) wa ∨ ∃ p ∈ m.ps, wa = handsA p ∧ m.fin p.b = true) (hcl : ∀ e ∈ m.ps, wa = handsA e → m.cl e.b = true) (hq : L.q = none)
    (hacq : Move X 0 (L.turn (.main (m.at none none (some (wa, 0)))) none) (Extern.Race.marked .acquire #[.pointer (some wa)]) fun _ L' => P' L') : CallsS X 0 20 #[.pointer (some wa)] 20000 L fun r L' => r = .tuple #[] ∧ P' L' := by
  (obtain ⟨P, ap, SelAt, CI, CW, Q⟩ := X; dsimp only at hP; subst hP)
  (co_apply CallsS.more; co_apply callsS_of_wp Try.func20 rfl; simp only [Try.ntmps20, List.size_toArray, List.length_cons, List.length_nil, Nat.reduceAdd, Nat.reduceSub, Array.replicate, List.replicate, List.append_toArray, List.cons_append, List.nil_append, List.append_eq])
  · (repeat (first | (co_apply wpS_region; simp only [List.size_toArray, List.length_cons, List.length_nil, Nat.reduceAdd, Nat.zero_add, List.range, List.range.loop]) | (co_apply opsS_pure; (focus (exact rfl)); (focus (exact rfl)); (focus (intro w; go_simp <;> exact rfl)); (focus (intro w; simp [go_sem, execOp, Act.eval]; done)); try walk_nrm) | (co_apply opsS_nil; try dsimp only) | co_apply wpS_seq | co_apply wpS_skip | (co_apply wpS_cond; (focus (exact rfl)); simp only [if_true, if_false, reduceIte, Bool.false_eq_true])))
    (co_apply opsS_mark (.inl rfl); (focus (exact rfl)); (focus (exact rfl)); (focus (exact rfl)); (focus (exact Try.func25)); (focus (rfl)); (focus (rfl)); (focus (kernel_rfl)); (focus (kernel_rfl)); try walk_nrm)
    (repeat (first | (co_apply opsS_nil; try dsimp only) | co_apply wpS_seq | (co_apply wpS_region; simp only [List.size_toArray, List.length_cons, List.length_nil, Nat.reduceAdd, Nat.zero_add, List.range, List.range.loop]) | co_apply wpS_skip | (co_apply wpS_cond; (focus (exact rfl)); simp only [if_true, if_false, reduceIte, Bool.false_eq_true])))
    co_apply wpS_block
    co_apply wpS_loop (fun a L' => a.defers = [] ∧ a.tmps.size = 84 ∧ a.tmps[0]? = some (.pointer (some wa)) ∧ ∃ dn, (dn = none ∨ ∃ k, dn = some (wa, k)) ∧ L' = (L.deafen 1).turn (.main (m.at none none dn)) none) (fun a L' => match L'.role.m.dn with | some (_, k) => k | none => 17) 1000 17
    · refine ⟨rfl, rfl, rfl, none, .inl rfl, ?_⟩
      have e1 : m.at none none none = m := by
        obtain ⟨_, _, _, _, _, _, _, _, _, _, _⟩ := m
        simp only [MainR.at] at *
        have h1 := f.reg
        have h2 := f.pnd
        simp only at h1 h2 hdn
        rw [h1, h2, hdn]
      rw [e1, hd]
      exact (turn_same (L := L.deafen 1) f.role hq).symm
    · rw [show (L.deafen (deafBehind L.d #[⟨.mark .disable, false, true⟩])).role = .main m from f.role]
      show (match m.dn with | some (_, k) => k | none => 17) ≤ 17
      rw [hdn]
      exact Nat.le_refl _
    · rintro ⟨tmps, defers⟩ L' ⟨h1, h2, h3, dn, h4, rfl⟩
      dsimp only at h1 h2 h3
      subst h1
      obtain ⟨f0, hlit, hf0⟩ := lit tmps 84 h2
      have e0 := hf0 0 _ h3
      subst hlit
      clear h2 h3 hf0
      simp only [List.range, List.range.loop, List.map, e0]
      clear e0
      have fr : ∀ r : Option (Addr × Nat), Free ((L.deafen 1).turn (.main (m.at none none r)) none) (m.at none none r) wa := fun r => ⟨rfl, f.wa, rfl, rfl⟩
      co_apply wpS_more
      co_apply wpS_block
      (repeat (first | (co_apply wpS_region; simp only [List.size_toArray, List.length_cons, List.length_nil, Nat.reduceAdd, Nat.zero_add, List.range, List.range.loop]) | (co_apply opsS_pure; (focus (exact rfl)); (focus (exact rfl)); (focus (intro w; go_simp <;> exact rfl)); (focus (intro w; simp [go_sem, execOp, Act.eval]; done)); try walk_nrm) | (co_apply opsS_nil; try dsimp only) | co_apply wpS_seq | co_apply wpS_skip | (co_apply wpS_cond; (focus (exact rfl)); simp only [if_true, if_false, reduceIte, Bool.false_eq_true])))
      (co_apply opsS_call; (focus (exact rfl)); (focus (exact rfl)); (focus (exact rfl)); (focus (exact Try.func33)); (focus (rfl)); (focus (rfl)); try simp only [List.map_toArray, List.map_cons, List.map_nil])
      · exact w_u64load rfl (mv_look2 (fr dn) hopen0)
      rintro _ L2 ⟨v, hv, rfl, hk, hL2, hopen⟩
      have hL2 : L2 = (L.deafen 1).turn (.main (m.at none none (some (wa, v)))) none := hL2
      subst hL2
      walk_nrm
      obtain ⟨y, hyh⟩ : ∃ y : Int, Hid (y = (v : Int) * KW) := ⟨_, rfl⟩
      rw [← (show y = (v : Int) * KW from hyh)]
      have a1 : y / 4294967296 = (v : Int) := by rw [show y = (v : Int) * KW from hyh]; unfold KW; omega
      have a2 : 0 ≤ y ∧ y < 9223372036854775808 := by rw [show y = (v : Int) * KW from hyh]; unfold KW; omega
      have b1 : bits .and .u64 y 2147483648 = 0 := by rw [show y = (v : Int) * KW from hyh]; have := st_flag v 0 (by omega) (by omega); simpa [KW] using this
      have b2 : bits .and .u64 y 2147483647 = 0 := by rw [show y = (v : Int) * KW from hyh]; have := st_waiters v 0 (by omega) (by omega); simpa [KW] using this
      replace hopen : Hid (v ≠ 0 → OpenWa (.main m) wa) := hopen
      replace hv : Hid (v ≤ 16) := hv
      replace hk : Hid (∀ k, dn = some (wa, k) → v ≤ k) := hk
      (co_apply opsS_pure (v := (.int .u64 y)); (focus (exact rfl)); (focus (exact rfl)); (focus (intro w; go_simp <;> first | done | exact rfl | assumption | omega | ((simp only [IntKind.wrap_u64, IntKind.wrap_u32, IntKind.wrap_i32]); omega) | decide)); (focus (intro w; simp [go_sem, execOp, Act.eval, *]; done)); try walk_nrm)
      (co_apply opsS_nil; try dsimp only)
      by_cases hv0 : v = 0
      · subst hv0
        have y0 : y = 0 := (show y = ((0 : Nat) : Int) * KW from hyh).trans (by decide)
        subst y0
        clear a1 a2 b1 b2
        co_apply wpS_more (n' := 600)
        (repeat (first | (co_apply opsS_nil; try dsimp only) | co_apply wpS_seq | (co_apply wpS_region; simp only [List.size_toArray, List.length_cons, List.length_nil, Nat.reduceAdd, Nat.zero_add, List.range, List.range.loop]) | co_apply wpS_skip | (co_apply wpS_cond; (focus (exact rfl)); simp only [if_true, if_false, reduceIte, Bool.false_eq_true])))
        (co_apply opsS_pure (v := (.int .u64 0)); (focus (exact rfl)); (focus (exact rfl)); (focus (intro w; go_simp <;> first | done | exact rfl | assumption | omega | ((simp only [IntKind.wrap_u64, IntKind.wrap_u32, IntKind.wrap_i32]); omega) | decide)); (focus (intro w; simp [go_sem, execOp, Act.eval, *]; done)); try walk_nrm)
        (co_apply opsS_pure (v := (.int .u64 0)); (focus (exact rfl)); (focus (exact rfl)); (focus (intro w; go_simp <;> first | done | exact rfl | assumption | omega | ((simp only [IntKind.wrap_u64, IntKind.wrap_u32, IntKind.wrap_i32]); omega) | decide)); (focus (intro w; simp [go_sem, execOp, Act.eval, *]; done)); try walk_nrm)
        (co_apply opsS_pure (v := (.int .i32 0)); (focus (exact rfl)); (focus (exact rfl)); (focus (intro w; go_simp <;> first | done | exact rfl | assumption | omega | ((simp only [IntKind.wrap_u64, IntKind.wrap_u32, IntKind.wrap_i32]); omega) | decide)); (focus (intro w; simp [go_sem, execOp, Act.eval, *]; done)); try walk_nrm)
        (co_apply opsS_pure (v := (.int .i32 0)); (focus (exact rfl)); (focus (exact rfl)); (focus (intro w; go_simp <;> first | done | exact rfl | assumption | omega | ((simp only [IntKind.wrap_u64, IntKind.wrap_u32, IntKind.wrap_i32]); omega) | decide)); (focus (intro w; simp [go_sem, execOp, Act.eval, *]; done)); try walk_nrm)
        (repeat (first | (co_apply opsS_nil; try dsimp only) | co_apply wpS_seq | (co_apply wpS_region; simp only [List.size_toArray, List.length_cons, List.length_nil, Nat.reduceAdd, Nat.zero_add, List.range, List.range.loop]) | co_apply wpS_skip | (co_apply wpS_cond; (focus (exact rfl)); simp only [if_true, if_false, reduceIte, Bool.false_eq_true])))
        (co_apply opsS_pure (v := (.int .u64 0)); (focus (exact rfl)); (focus (exact rfl)); (focus (intro w; go_simp <;> first | done | exact rfl | assumption | omega | ((simp only [IntKind.wrap_u64, IntKind.wrap_u32, IntKind.wrap_i32]); omega) | decide)); (focus (intro w; simp [go_sem, execOp, Act.eval, *]; done)); try walk_nrm)
        (co_apply opsS_pure (v := (.int .u64 0)); (focus (exact rfl)); (focus (exact rfl)); (focus (intro w; go_simp <;> first | done | exact rfl | assumption | omega | ((simp only [IntKind.wrap_u64, IntKind.wrap_u32, IntKind.wrap_i32]); omega) | decide)); (focus (intro w; simp [go_sem, execOp, Act.eval, *]; done)); try walk_nrm)
        (co_apply opsS_pure (v := (.int .u32 0)); (focus (exact rfl)); (focus (exact rfl)); (focus (intro w; go_simp <;> first | done | exact rfl | assumption | omega | ((simp only [IntKind.wrap_u64, IntKind.wrap_u32, IntKind.wrap_i32]); omega) | decide)); (focus (intro w; simp [go_sem, execOp, Act.eval, *]; done)); try walk_nrm)
        (co_apply opsS_pure (v := (.int .u32 0)); (focus (exact rfl)); (focus (exact rfl)); (focus (intro w; go_simp <;> first | done | exact rfl | assumption | omega | ((simp only [IntKind.wrap_u64, IntKind.wrap_u32, IntKind.wrap_i32]); omega) | decide)); (focus (intro w; simp [go_sem, execOp, Act.eval, *]; done)); try walk_nrm)
        (co_apply opsS_nil; try dsimp only)
        co_apply wpS_seq (n₂ := 0)
        (repeat (first | (co_apply opsS_nil; try dsimp only) | co_apply wpS_seq | (co_apply wpS_region; simp only [List.size_toArray, List.length_cons, List.length_nil, Nat.reduceAdd, Nat.zero_add, List.range, List.range.loop]) | co_apply wpS_skip | (co_apply wpS_cond; (focus (exact rfl)); simp only [if_true, if_false, reduceIte, Bool.false_eq_true])))
        (co_apply opsS_pure (v := (.int .i32 0)); (focus (exact rfl)); (focus (exact rfl)); (focus (intro w; go_simp <;> first | done | exact rfl | assumption | omega | ((simp only [IntKind.wrap_u64, IntKind.wrap_u32, IntKind.wrap_i32]); omega) | decide)); (focus (intro w; simp [go_sem, execOp, Act.eval, *]; done)); try walk_nrm)
        (co_apply opsS_pure (v := (.bool true)); (focus (exact rfl)); (focus (exact rfl)); (focus (intro w; go_simp <;> first | done | exact rfl | assumption | omega | ((simp only [IntKind.wrap_u64, IntKind.wrap_u32, IntKind.wrap_i32]); omega) | decide)); (focus (intro w; simp [go_sem, execOp, Act.eval, *]; done)); try walk_nrm)
        (repeat (first | (co_apply opsS_nil; try dsimp only) | co_apply wpS_seq | (co_apply wpS_region; simp only [List.size_toArray, List.length_cons, List.length_nil, Nat.reduceAdd, Nat.zero_add, List.range, List.range.loop]) | co_apply wpS_skip | (co_apply wpS_cond; (focus (exact rfl)); simp only [if_true, if_false, reduceIte, Bool.false_eq_true])))
        (co_apply opsS_mark (.inr rfl); (focus (exact rfl)); (focus (exact rfl)); (focus (exact rfl)); (focus (exact Try.func26)); (focus (rfl)); (focus (rfl)); (focus (kernel_rfl)); (focus (kernel_rfl)); try walk_nrm)
        rw [re_enable hd]
        (repeat (first | (co_apply opsS_nil; try dsimp only) | co_apply wpS_seq | (co_apply wpS_region; simp only [List.size_toArray, List.length_cons, List.length_nil, Nat.reduceAdd, Nat.zero_add, List.range, List.range.loop]) | co_apply wpS_skip | (co_apply wpS_cond; (focus (exact rfl)); simp only [if_true, if_false, reduceIte, Bool.false_eq_true])))
        (co_apply opsS_pure (v := (.pointer (some wa))); (focus (exact rfl)); (focus (exact rfl)); (focus (intro w; go_simp <;> first | done | exact rfl | assumption | omega | ((simp only [IntKind.wrap_u64, IntKind.wrap_u32, IntKind.wrap_i32]); omega) | decide)); (focus (intro w; simp [go_sem, execOp, Act.eval, *]; done)); try walk_nrm)
        (co_apply opsS_idle (.pointer (some wa)); (focus (rfl)); (focus (rfl)); (focus (exact main_nl rfl)); (focus (intro n Γ w t hI hL hi; have hcell := main_cell hI hL rfl f.wa; obtain ⟨u, hu⟩ := hcell.1; have hcv := run_convert_to_unsafe (P := Try.prog) (src := 65) (dst := 67) Try.underlying65 Try.underlying67 (by kernel_rfl) hu; have hce := fun es => events_convert_to_unsafe (P := Try.prog) (src := 65) (dst := 67) Try.underlying65 Try.underlying67 (by kernel_rfl) hu es; refine ⟨?_, ?_⟩; (focus (go_simp)); (focus (simp [go_sem, execOp, Act.eval, hce])))); try walk_nrm)
        (co_apply opsS_entry (e := Extern.Race.marked .acquire); (focus (exact rfl)); (focus (exact rfl)); (focus (exact rfl)); (focus (exact Try.func38)); (focus (rfl)); (focus (rfl)); (focus (kernel_rfl)); (focus (kernel_rfl)); try simp only [List.map_toArray, List.map_cons, List.map_nil])
        · exact hacq
        intro _ L3 hL3
        walk_nrm
        (repeat (first | (co_apply opsS_nil; try dsimp only) | co_apply wpS_seq | (co_apply wpS_region; simp only [List.size_toArray, List.length_cons, List.length_nil, Nat.reduceAdd, Nat.zero_add, List.range, List.range.loop]) | co_apply wpS_skip | (co_apply wpS_cond; (focus (exact rfl)); simp only [if_true, if_false, reduceIte, Bool.false_eq_true])))
        (co_apply opsS_pure (v := (.int .u32 0)); (focus (exact rfl)); (focus (exact rfl)); (focus (intro w; go_simp <;> first | done | exact rfl | assumption | omega | ((simp only [IntKind.wrap_u64, IntKind.wrap_u32, IntKind.wrap_i32]); omega) | decide)); (focus (intro w; simp [go_sem, execOp, Act.eval, *]; done)); try walk_nrm)
        (co_apply opsS_pure (v := (.bool true)); (focus (exact rfl)); (focus (exact rfl)); (focus (intro w; go_simp <;> first | done | exact rfl | assumption | omega | ((simp only [IntKind.wrap_u64, IntKind.wrap_u32, IntKind.wrap_i32]); omega) | decide)); (focus (intro w; simp [go_sem, execOp, Act.eval, *]; done)); try walk_nrm)
        (co_apply opsS_pure (v := (.bool true)); (focus (exact rfl)); (focus (exact rfl)); (focus (intro w; go_simp <;> first | done | exact rfl | assumption | omega | ((simp only [IntKind.wrap_u64, IntKind.wrap_u32, IntKind.wrap_i32]); omega) | decide)); (focus (intro w; simp [go_sem, execOp, Act.eval, *]; done)); try walk_nrm)
        (co_apply opsS_pure (v := (.int .u64 0)); (focus (exact rfl)); (focus (exact rfl)); (focus (intro w; go_simp <;> first | done | exact rfl | assumption | omega | ((simp only [IntKind.wrap_u64, IntKind.wrap_u32, IntKind.wrap_i32]); omega) | decide)); (focus (intro w; simp [go_sem, execOp, Act.eval, *]; done)); try walk_nrm)
        (co_apply opsS_pure (v := (.int .u64 0)); (focus (exact rfl)); (focus (exact rfl)); (focus (intro w; go_simp <;> first | done | exact rfl | assumption | omega | ((simp only [IntKind.wrap_u64, IntKind.wrap_u32, IntKind.wrap_i32]); omega) | decide)); (focus (intro w; simp [go_sem, execOp, Act.eval, *]; done)); try walk_nrm)
        (co_apply opsS_pure (v := (.bool false)); (focus (exact rfl)); (focus (exact rfl)); (focus (intro w; go_simp <;> first | done | exact rfl | assumption | omega | ((simp only [IntKind.wrap_u64, IntKind.wrap_u32, IntKind.wrap_i32]); omega) | decide)); (focus (intro w; simp [go_sem, execOp, Act.eval, *]; done)); try walk_nrm)
        (co_apply opsS_pure (v := (.bool false)); (focus (exact rfl)); (focus (exact rfl)); (focus (intro w; go_simp <;> first | done | exact rfl | assumption | omega | ((simp only [IntKind.wrap_u64, IntKind.wrap_u32, IntKind.wrap_i32]); omega) | decide)); (focus (intro w; simp [go_sem, execOp, Act.eval, *]; done)); try walk_nrm)
        (co_apply opsS_pure (v := (.bool false)); (focus (exact rfl)); (focus (exact rfl)); (focus (intro w; go_simp <;> first | done | exact rfl | assumption | omega | ((simp only [IntKind.wrap_u64, IntKind.wrap_u32, IntKind.wrap_i32]); omega) | decide)); (focus (intro w; simp [go_sem, execOp, Act.eval, *]; done)); try walk_nrm)
        (co_apply opsS_unwanted; (focus (exact rfl)); (focus (exact rfl)); walk_nrm)
        (co_apply opsS_unwanted; (focus (exact rfl)); (focus (exact rfl)); walk_nrm)
        (co_apply opsS_pure (v := (.bool false)); (focus (exact rfl)); (focus (exact rfl)); (focus (intro w; go_simp <;> first | done | exact rfl | assumption | omega | ((simp only [IntKind.wrap_u64, IntKind.wrap_u32, IntKind.wrap_i32]); omega) | decide)); (focus (intro w; simp [go_sem, execOp, Act.eval, *]; done)); try walk_nrm)
        (repeat (first | (co_apply opsS_nil; try dsimp only) | co_apply wpS_seq | (co_apply wpS_region; simp only [List.size_toArray, List.length_cons, List.length_nil, Nat.reduceAdd, Nat.zero_add, List.range, List.range.loop]) | co_apply wpS_skip | (co_apply wpS_cond; (focus (exact rfl)); simp only [if_true, if_false, reduceIte, Bool.false_eq_true])))
        (first | (co_apply wpS_ret; refine ⟨_, fun w => ⟨results_tmp rfl _ _ _, events_results_tmp rfl _ _⟩, unwinds_nil ?_⟩) | (refine ⟨_, fun w => ⟨results_none rfl _ _ _, events_results_none rfl _ _⟩, unwinds_nil ?_⟩) | (co_apply wpS_ret; refine ⟨_, fun w => ⟨results_none rfl _ _ _, events_results_none rfl _ _⟩, unwinds_nil ?_⟩))
        exact ⟨rfl, hL3⟩
        decide
      · have hvp : (0 : Int) < v := by omega
        have y1 : 0 ≤ y + 1 ∧ y + 1 < 18446744073709551616 := by omega
        co_apply wpS_more (n' := 600)
        (repeat (first | (co_apply opsS_nil; try dsimp only) | co_apply wpS_seq | (co_apply wpS_region; simp only [List.size_toArray, List.length_cons, List.length_nil, Nat.reduceAdd, Nat.zero_add, List.range, List.range.loop]) | co_apply wpS_skip | (co_apply wpS_cond; (focus (exact rfl)); simp only [if_true, if_false, reduceIte, Bool.false_eq_true])))
        (co_apply opsS_pure (v := (.int .u64 y)); (focus (exact rfl)); (focus (exact rfl)); (focus (intro w; go_simp <;> first | done | exact rfl | assumption | omega | ((simp only [IntKind.wrap_u64, IntKind.wrap_u32, IntKind.wrap_i32]); omega) | decide)); (focus (intro w; simp [go_sem, execOp, Act.eval, *]; done)); try walk_nrm)
        (co_apply opsS_pure (v := (.int .u64 v)); (focus (exact rfl)); (focus (exact rfl)); (focus (intro w; go_simp <;> first | done | exact rfl | assumption | omega | ((simp only [IntKind.wrap_u64, IntKind.wrap_u32, IntKind.wrap_i32]); omega) | decide)); (focus (intro w; simp [go_sem, execOp, Act.eval, *]; done)); try walk_nrm)
        (co_apply opsS_pure (v := (.int .i32 v)); (focus (exact rfl)); (focus (exact rfl)); (focus (intro w; go_simp <;> first | done | exact rfl | assumption | omega | ((simp only [IntKind.wrap_u64, IntKind.wrap_u32, IntKind.wrap_i32]); omega) | decide)); (focus (intro w; simp [go_sem, execOp, Act.eval, *]; done)); try walk_nrm)
        (co_apply opsS_pure (v := (.int .i32 v)); (focus (exact rfl)); (focus (exact rfl)); (focus (intro w; go_simp <;> first | done | exact rfl | assumption | omega | ((simp only [IntKind.wrap_u64, IntKind.wrap_u32, IntKind.wrap_i32]); omega) | decide)); (focus (intro w; simp [go_sem, execOp, Act.eval, *]; done)); try walk_nrm)
        (repeat (first | (co_apply opsS_nil; try dsimp only) | co_apply wpS_seq | (co_apply wpS_region; simp only [List.size_toArray, List.length_cons, List.length_nil, Nat.reduceAdd, Nat.zero_add, List.range, List.range.loop]) | co_apply wpS_skip | (co_apply wpS_cond; (focus (exact rfl)); simp only [if_true, if_false, reduceIte, Bool.false_eq_true])))
        (co_apply opsS_pure (v := (.int .u64 y)); (focus (exact rfl)); (focus (exact rfl)); (focus (intro w; go_simp <;> first | done | exact rfl | assumption | omega | ((simp only [IntKind.wrap_u64, IntKind.wrap_u32, IntKind.wrap_i32]); omega) | decide)); (focus (intro w; simp [go_sem, execOp, Act.eval, *]; done)); try walk_nrm)
        (co_apply opsS_pure (v := (.int .u64 0)); (focus (exact rfl)); (focus (exact rfl)); (focus (intro w; go_simp <;> first | done | exact rfl | assumption | omega | ((simp only [IntKind.wrap_u64, IntKind.wrap_u32, IntKind.wrap_i32]); omega) | decide)); (focus (intro w; simp [go_sem, execOp, Act.eval, *]; done)); try walk_nrm)
        (co_apply opsS_pure (v := (.int .u32 0)); (focus (exact rfl)); (focus (exact rfl)); (focus (intro w; go_simp <;> first | done | exact rfl | assumption | omega | ((simp only [IntKind.wrap_u64, IntKind.wrap_u32, IntKind.wrap_i32]); omega) | decide)); (focus (intro w; simp [go_sem, execOp, Act.eval, *]; done)); try walk_nrm)
        (co_apply opsS_pure (v := (.int .u32 0)); (focus (exact rfl)); (focus (exact rfl)); (focus (intro w; go_simp <;> first | done | exact rfl | assumption | omega | ((simp only [IntKind.wrap_u64, IntKind.wrap_u32, IntKind.wrap_i32]); omega) | decide)); (focus (intro w; simp [go_sem, execOp, Act.eval, *]; done)); try walk_nrm)
        (repeat (first | (co_apply opsS_nil; try dsimp only) | co_apply wpS_seq | (co_apply wpS_region; simp only [List.size_toArray, List.length_cons, List.length_nil, Nat.reduceAdd, Nat.zero_add, List.range, List.range.loop]) | co_apply wpS_skip | (co_apply wpS_cond; (focus (exact rfl)); simp only [if_true, if_false, reduceIte, Bool.false_eq_true])))
        (co_apply opsS_pure (v := (.int .i32 v)); (focus (exact rfl)); (focus (exact rfl)); (focus (intro w; go_simp <;> first | done | exact rfl | assumption | omega | ((simp only [IntKind.wrap_u64, IntKind.wrap_u32, IntKind.wrap_i32]); omega) | decide)); (focus (intro w; simp [go_sem, execOp, Act.eval, *]; done)); try walk_nrm)
        (co_apply opsS_pure (v := (.bool false)); (focus (exact rfl)); (focus (exact rfl)); (focus (intro w; go_simp <;> first | done | exact rfl | assumption | omega | ((simp only [IntKind.wrap_u64, IntKind.wrap_u32, IntKind.wrap_i32]); omega) | decide)); (focus (intro w; simp [go_sem, execOp, Act.eval, *]; done)); try walk_nrm)
        (repeat (first | (co_apply opsS_nil; try dsimp only) | co_apply wpS_seq | (co_apply wpS_region; simp only [List.size_toArray, List.length_cons, List.length_nil, Nat.reduceAdd, Nat.zero_add, List.range, List.range.loop]) | co_apply wpS_skip | (co_apply wpS_cond; (focus (exact rfl)); simp only [if_true, if_false, reduceIte, Bool.false_eq_true])))
        (co_apply opsS_pure (v := (.pointer (some wa))); (focus (exact rfl)); (focus (exact rfl)); (focus (intro w; go_simp <;> first | done | exact rfl | assumption | omega | ((simp only [IntKind.wrap_u64, IntKind.wrap_u32, IntKind.wrap_i32]); omega) | decide)); (focus (intro w; simp [go_sem, execOp, Act.eval, *]; done)); try walk_nrm)
        (co_apply opsS_pure (v := (.pointer (some wa))); (focus (exact rfl)); (focus (exact rfl)); (focus (intro w; go_simp <;> first | done | exact rfl | assumption | omega | ((simp only [IntKind.wrap_u64, IntKind.wrap_u32, IntKind.wrap_i32]); omega) | decide)); (focus (intro w; simp [go_sem, execOp, Act.eval, *]; done)); try walk_nrm)
        (co_apply opsS_pure (v := (.pointer (some wa))); (focus (exact rfl)); (focus (exact rfl)); (focus (intro w; go_simp <;> first | done | exact rfl | assumption | omega | ((simp only [IntKind.wrap_u64, IntKind.wrap_u32, IntKind.wrap_i32]); omega) | decide)); (focus (intro w; simp [go_sem, execOp, Act.eval, *]; done)); try walk_nrm)
        (co_apply opsS_pure (v := (.int .u64 y)); (focus (exact rfl)); (focus (exact rfl)); (focus (intro w; go_simp <;> first | done | exact rfl | assumption | omega | ((simp only [IntKind.wrap_u64, IntKind.wrap_u32, IntKind.wrap_i32]); omega) | decide)); (focus (intro w; simp [go_sem, execOp, Act.eval, *]; done)); try walk_nrm)
        (co_apply opsS_pure (v := (.int .u64 y)); (focus (exact rfl)); (focus (exact rfl)); (focus (intro w; go_simp <;> first | done | exact rfl | assumption | omega | ((simp only [IntKind.wrap_u64, IntKind.wrap_u32, IntKind.wrap_i32]); omega) | decide)); (focus (intro w; simp [go_sem, execOp, Act.eval, *]; done)); try walk_nrm)
        (co_apply opsS_pure (v := (.int .u64 (y + 1))); (focus (exact rfl)); (focus (exact rfl)); (focus (intro w; go_simp <;> first | done | exact rfl | assumption | omega | ((simp only [IntKind.wrap_u64, IntKind.wrap_u32, IntKind.wrap_i32]); omega) | decide)); (focus (intro w; simp [go_sem, execOp, Act.eval, *]; done)); try walk_nrm)
        (co_apply opsS_call; (focus (exact rfl)); (focus (exact rfl)); (focus (exact rfl)); (focus (exact Try.func40)); (focus (rfl)); (focus (rfl)); try simp only [List.map_toArray, List.map_cons, List.map_nil])
        · rw [show y = (v : Int) * KW from hyh]
          exact w_u64cas rfl (mv_cas (fr (some (wa, v))) rfl (by omega) (hopen hv0) hcl)
        rintro _ L2 (⟨rfl, hL2⟩ | ⟨rfl, hL2⟩)
        · have hL2 : L2 = (L.deafen 1).turn (.main (m.at (some wa) none none)) none := hL2
          subst hL2
          walk_nrm
          (co_apply opsS_nil; try dsimp only)
          co_apply wpS_more (n' := 400)
          (repeat (first | (co_apply opsS_nil; try dsimp only) | co_apply wpS_seq | (co_apply wpS_region; simp only [List.size_toArray, List.length_cons, List.length_nil, Nat.reduceAdd, Nat.zero_add, List.range, List.range.loop]) | co_apply wpS_skip | (co_apply wpS_cond; (focus (exact rfl)); simp only [if_true, if_false, reduceIte, Bool.false_eq_true])))
          (co_apply opsS_pure (v := (.bool true)); (focus (exact rfl)); (focus (exact rfl)); (focus (intro w; go_simp <;> first | done | exact rfl | assumption | omega | ((simp only [IntKind.wrap_u64, IntKind.wrap_u32, IntKind.wrap_i32]); omega) | decide)); (focus (intro w; simp [go_sem, execOp, Act.eval, *]; done)); try walk_nrm)
          (co_apply opsS_pure (v := (.int .u32 0)); (focus (exact rfl)); (focus (exact rfl)); (focus (intro w; go_simp <;> first | done | exact rfl | assumption | omega | ((simp only [IntKind.wrap_u64, IntKind.wrap_u32, IntKind.wrap_i32]); omega) | decide)); (focus (intro w; simp [go_sem, execOp, Act.eval, *]; done)); try walk_nrm)
          (co_apply opsS_pure (v := (.bool true)); (focus (exact rfl)); (focus (exact rfl)); (focus (intro w; go_simp <;> first | done | exact rfl | assumption | omega | ((simp only [IntKind.wrap_u64, IntKind.wrap_u32, IntKind.wrap_i32]); omega) | decide)); (focus (intro w; simp [go_sem, execOp, Act.eval, *]; done)); try walk_nrm)
          (co_apply opsS_pure (v := (.bool true)); (focus (exact rfl)); (focus (exact rfl)); (focus (intro w; go_simp <;> first | done | exact rfl | assumption | omega | ((simp only [IntKind.wrap_u64, IntKind.wrap_u32, IntKind.wrap_i32]); omega) | decide)); (focus (intro w; simp [go_sem, execOp, Act.eval, *]; done)); try walk_nrm)
          (repeat (first | (co_apply opsS_nil; try dsimp only) | co_apply wpS_seq | (co_apply wpS_region; simp only [List.size_toArray, List.length_cons, List.length_nil, Nat.reduceAdd, Nat.zero_add, List.range, List.range.loop]) | co_apply wpS_skip | (co_apply wpS_cond; (focus (exact rfl)); simp only [if_true, if_false, reduceIte, Bool.false_eq_true])))
          (co_apply opsS_pure (v := (.pointer (some wa))); (focus (exact rfl)); (focus (exact rfl)); (focus (intro w; go_simp <;> first | done | exact rfl | assumption | omega | ((simp only [IntKind.wrap_u64, IntKind.wrap_u32, IntKind.wrap_i32]); omega) | decide)); (focus (intro w; simp [go_sem, execOp, Act.eval, *]; done)); try walk_nrm)
          (co_apply opsS_pure (v := (.pointer (some wa))); (focus (exact rfl)); (focus (exact rfl)); (focus (intro w; go_simp <;> first | done | exact rfl | assumption | omega | ((simp only [IntKind.wrap_u64, IntKind.wrap_u32, IntKind.wrap_i32]); omega) | decide)); (focus (intro w; simp [go_sem, execOp, Act.eval, *]; done)); try walk_nrm)
          (co_apply opsS_pure (v := (.pointer (some ⟨wa.block, wa.off + 1, none⟩))); (focus (exact rfl)); (focus (exact rfl)); (focus (intro w; go_simp <;> first | done | exact rfl | assumption | omega | ((simp only [IntKind.wrap_u64, IntKind.wrap_u32, IntKind.wrap_i32]); omega) | decide)); (focus (intro w; simp [go_sem, execOp, Act.eval, *]; done)); try walk_nrm)
          (co_apply opsS_idle (.pointer (some ⟨wa.block, wa.off + 1, none⟩)); (focus (rfl)); (focus (rfl)); (focus (exact main_nl rfl)); (focus (intro n Γ w t hI hL hi; have hcell := main_cell hI hL rfl f.wa; obtain ⟨u, hu⟩ := hcell.2; have hcv := run_convert_to_unsafe (P := Try.prog) (src := 73) (dst := 67) Try.underlying73 Try.underlying67 (by kernel_rfl) hu; have hce := fun es => events_convert_to_unsafe (P := Try.prog) (src := 73) (dst := 67) Try.underlying73 Try.underlying67 (by kernel_rfl) hu es; refine ⟨?_, ?_⟩; (focus (go_simp)); (focus (simp [go_sem, execOp, Act.eval, hce])))); try walk_nrm)
          (co_apply opsS_entry (e := Extern.Race.marked .write); (focus (exact rfl)); (focus (exact rfl)); (focus (exact rfl)); (focus (exact Try.func41)); (focus (rfl)); (focus (rfl)); (focus (kernel_rfl)); (focus (kernel_rfl)); try simp only [List.map_toArray, List.map_cons, List.map_nil])
          · exact mv_told (m := m.at (some wa) none none) rfl f.wa .write (.inr rfl)
          intro _ _ hE
          rw [hE]
          clear hE
          walk_nrm
          (repeat (first | (co_apply opsS_nil; try dsimp only) | co_apply wpS_seq | (co_apply wpS_region; simp only [List.size_toArray, List.length_cons, List.length_nil, Nat.reduceAdd, Nat.zero_add, List.range, List.range.loop]) | co_apply wpS_skip | (co_apply wpS_cond; (focus (exact rfl)); simp only [if_true, if_false, reduceIte, Bool.false_eq_true])))
          (co_apply opsS_pure (v := (.bool false)); (focus (exact rfl)); (focus (exact rfl)); (focus (intro w; go_simp <;> first | done | exact rfl | assumption | omega | ((simp only [IntKind.wrap_u64, IntKind.wrap_u32, IntKind.wrap_i32]); omega) | decide)); (focus (intro w; simp [go_sem, execOp, Act.eval, *]; done)); try walk_nrm)
          (repeat (first | (co_apply opsS_nil; try dsimp only) | co_apply wpS_seq | (co_apply wpS_region; simp only [List.size_toArray, List.length_cons, List.length_nil, Nat.reduceAdd, Nat.zero_add, List.range, List.range.loop]) | co_apply wpS_skip | (co_apply wpS_cond; (focus (exact rfl)); simp only [if_true, if_false, reduceIte, Bool.false_eq_true])))
          (co_apply opsS_pure (v := (.int .u64 y)); (focus (exact rfl)); (focus (exact rfl)); (focus (intro w; go_simp <;> first | done | exact rfl | assumption | omega | ((simp only [IntKind.wrap_u64, IntKind.wrap_u32, IntKind.wrap_i32]); omega) | decide)); (focus (intro w; simp [go_sem, execOp, Act.eval, *]; done)); try walk_nrm)
          (co_apply opsS_pure (v := (.int .u64 0)); (focus (exact rfl)); (focus (exact rfl)); (focus (intro w; go_simp <;> first | done | exact rfl | assumption | omega | ((simp only [IntKind.wrap_u64, IntKind.wrap_u32, IntKind.wrap_i32]); omega) | decide)); (focus (intro w; simp [go_sem, execOp, Act.eval, *]; done)); try walk_nrm)
          (co_apply opsS_pure (v := (.bool false)); (focus (exact rfl)); (focus (exact rfl)); (focus (intro w; go_simp <;> first | done | exact rfl | assumption | omega | ((simp only [IntKind.wrap_u64, IntKind.wrap_u32, IntKind.wrap_i32]); omega) | decide)); (focus (intro w; simp [go_sem, execOp, Act.eval, *]; done)); try walk_nrm)
          (co_apply opsS_pure (v := (.bool false)); (focus (exact rfl)); (focus (exact rfl)); (focus (intro w; go_simp <;> first | done | exact rfl | assumption | omega | ((simp only [IntKind.wrap_u64, IntKind.wrap_u32, IntKind.wrap_i32]); omega) | decide)); (focus (intro w; simp [go_sem, execOp, Act.eval, *]; done)); try walk_nrm)
          (co_apply opsS_unwanted; (focus (exact rfl)); (focus (exact rfl)); walk_nrm)
          (co_apply opsS_pure (v := (.bool false)); (focus (exact rfl)); (focus (exact rfl)); (focus (intro w; go_simp <;> first | done | exact rfl | assumption | omega | ((simp only [IntKind.wrap_u64, IntKind.wrap_u32, IntKind.wrap_i32]); omega) | decide)); (focus (intro w; simp [go_sem, execOp, Act.eval, *]; done)); try walk_nrm)
          (repeat (first | (co_apply opsS_nil; try dsimp only) | co_apply wpS_seq | (co_apply wpS_region; simp only [List.size_toArray, List.length_cons, List.length_nil, Nat.reduceAdd, Nat.zero_add, List.range, List.range.loop]) | co_apply wpS_skip | (co_apply wpS_cond; (focus (exact rfl)); simp only [if_true, if_false, reduceIte, Bool.false_eq_true])))
          (co_apply opsS_pure (v := (.pointer (some wa))); (focus (exact rfl)); (focus (exact rfl)); (focus (intro w; go_simp <;> first | done | exact rfl | assumption | omega | ((simp only [IntKind.wrap_u64, IntKind.wrap_u32, IntKind.wrap_i32]); omega) | decide)); (focus (intro w; simp [go_sem, execOp, Act.eval, *]; done)); try walk_nrm)
          (co_apply opsS_pure (v := (.pointer (some wa))); (focus (exact rfl)); (focus (exact rfl)); (focus (intro w; go_simp <;> first | done | exact rfl | assumption | omega | ((simp only [IntKind.wrap_u64, IntKind.wrap_u32, IntKind.wrap_i32]); omega) | decide)); (focus (intro w; simp [go_sem, execOp, Act.eval, *]; done)); try walk_nrm)
          (co_apply opsS_pure (v := (.pointer (some ⟨wa.block, wa.off + 1, none⟩))); (focus (exact rfl)); (focus (exact rfl)); (focus (intro w; go_simp <;> first | done | exact rfl | assumption | omega | ((simp only [IntKind.wrap_u64, IntKind.wrap_u32, IntKind.wrap_i32]); omega) | decide)); (focus (intro w; simp [go_sem, execOp, Act.eval, *]; done)); try walk_nrm)
          (co_apply opsS_pure (v := (.bool false)); (focus (exact rfl)); (focus (exact rfl)); (focus (intro w; go_simp <;> first | done | exact rfl | assumption | omega | ((simp only [IntKind.wrap_u64, IntKind.wrap_u32, IntKind.wrap_i32]); omega) | decide)); (focus (intro w; simp [go_sem, execOp, Act.eval, *]; done)); try walk_nrm)
          co_apply opsS_sem (m0 := m.at (some wa) none none) (wa := wa)
          · rfl
          · rfl
          · rfl
          · exact Try.func42
          · rfl
          · rfl
          · kernel_rfl
          · kernel_rfl
          · simp only [List.map_toArray, List.map_cons, List.map_nil]; rfl
          · rfl
          · rfl
          · rfl
          · rfl
          walk_nrm
          (repeat (first | (co_apply opsS_nil; try dsimp only) | co_apply wpS_seq | (co_apply wpS_region; simp only [List.size_toArray, List.length_cons, List.length_nil, Nat.reduceAdd, Nat.zero_add, List.range, List.range.loop]) | co_apply wpS_skip | (co_apply wpS_cond; (focus (exact rfl)); simp only [if_true, if_false, reduceIte, Bool.false_eq_true])))
          (co_apply opsS_pure (v := (.pointer (some wa))); (focus (exact rfl)); (focus (exact rfl)); (focus (intro w; go_simp <;> first | done | exact rfl | assumption | omega | ((simp only [IntKind.wrap_u64, IntKind.wrap_u32, IntKind.wrap_i32]); omega) | decide)); (focus (intro w; simp [go_sem, execOp, Act.eval, *]; done)); try walk_nrm)
          (co_apply opsS_pure (v := (.pointer (some wa))); (focus (exact rfl)); (focus (exact rfl)); (focus (intro w; go_simp <;> first | done | exact rfl | assumption | omega | ((simp only [IntKind.wrap_u64, IntKind.wrap_u32, IntKind.wrap_i32]); omega) | decide)); (focus (intro w; simp [go_sem, execOp, Act.eval, *]; done)); try walk_nrm)
          (co_apply opsS_pure (v := (.pointer (some wa))); (focus (exact rfl)); (focus (exact rfl)); (focus (intro w; go_simp <;> first | done | exact rfl | assumption | omega | ((simp only [IntKind.wrap_u64, IntKind.wrap_u32, IntKind.wrap_i32]); omega) | decide)); (focus (intro w; simp [go_sem, execOp, Act.eval, *]; done)); try walk_nrm)
          (co_apply opsS_call; (focus (exact rfl)); (focus (exact rfl)); (focus (exact rfl)); (focus (exact Try.func33)); (focus (rfl)); (focus (rfl)); try simp only [List.map_toArray, List.map_cons, List.map_nil])
          · exact w_u64load rfl (mv_look (fr (some (wa, 0))))
          rintro _ L2 ⟨v', hv', rfl, hk', hL2⟩
          obtain rfl : v' = 0 := Nat.le_zero.1 (hk' 0 rfl)
          have hL2 : L2 = (L.deafen 1).turn (.main (m.at none none (some (wa, 0)))) none := hL2
          subst hL2
          clear hk'
          rw [show ((0 : Nat) : Int) * KW = 0 from by decide]
          walk_nrm
          (co_apply opsS_pure (v := (.bool false)); (focus (exact rfl)); (focus (exact rfl)); (focus (intro w; go_simp <;> first | done | exact rfl | assumption | omega | ((simp only [IntKind.wrap_u64, IntKind.wrap_u32, IntKind.wrap_i32]); omega) | decide)); (focus (intro w; simp [go_sem, execOp, Act.eval, *]; done)); try walk_nrm)
          (co_apply opsS_pure (v := (.bool false)); (focus (exact rfl)); (focus (exact rfl)); (focus (intro w; go_simp <;> first | done | exact rfl | assumption | omega | ((simp only [IntKind.wrap_u64, IntKind.wrap_u32, IntKind.wrap_i32]); omega) | decide)); (focus (intro w; simp [go_sem, execOp, Act.eval, *]; done)); try walk_nrm)
          (repeat (first | (co_apply opsS_nil; try dsimp only) | co_apply wpS_seq | (co_apply wpS_region; simp only [List.size_toArray, List.length_cons, List.length_nil, Nat.reduceAdd, Nat.zero_add, List.range, List.range.loop]) | co_apply wpS_skip | (co_apply wpS_cond; (focus (exact rfl)); simp only [if_true, if_false, reduceIte, Bool.false_eq_true])))
          (co_apply opsS_mark (.inr rfl); (focus (exact rfl)); (focus (exact rfl)); (focus (exact rfl)); (focus (exact Try.func26)); (focus (rfl)); (focus (rfl)); (focus (kernel_rfl)); (focus (kernel_rfl)); try walk_nrm)
          rw [re_enable hd]
          (repeat (first | (co_apply opsS_nil; try dsimp only) | co_apply wpS_seq | (co_apply wpS_region; simp only [List.size_toArray, List.length_cons, List.length_nil, Nat.reduceAdd, Nat.zero_add, List.range, List.range.loop]) | co_apply wpS_skip | (co_apply wpS_cond; (focus (exact rfl)); simp only [if_true, if_false, reduceIte, Bool.false_eq_true])))
          (co_apply opsS_pure (v := (.pointer (some wa))); (focus (exact rfl)); (focus (exact rfl)); (focus (intro w; go_simp <;> first | done | exact rfl | assumption | omega | ((simp only [IntKind.wrap_u64, IntKind.wrap_u32, IntKind.wrap_i32]); omega) | decide)); (focus (intro w; simp [go_sem, execOp, Act.eval, *]; done)); try walk_nrm)
          (co_apply opsS_idle (.pointer (some wa)); (focus (rfl)); (focus (rfl)); (focus (exact main_nl rfl)); (focus (intro n Γ w t hI hL hi; have hcell := main_cell hI hL rfl f.wa; obtain ⟨u, hu⟩ := hcell.1; have hcv := run_convert_to_unsafe (P := Try.prog) (src := 65) (dst := 67) Try.underlying65 Try.underlying67 (by kernel_rfl) hu; have hce := fun es => events_convert_to_unsafe (P := Try.prog) (src := 65) (dst := 67) Try.underlying65 Try.underlying67 (by kernel_rfl) hu es; refine ⟨?_, ?_⟩; (focus (go_simp)); (focus (simp [go_sem, execOp, Act.eval, hce])))); try walk_nrm)
          (co_apply opsS_entry (e := Extern.Race.marked .acquire); (focus (exact rfl)); (focus (exact rfl)); (focus (exact rfl)); (focus (exact Try.func38)); (focus (rfl)); (focus (rfl)); (focus (kernel_rfl)); (focus (kernel_rfl)); try simp only [List.map_toArray, List.map_cons, List.map_nil])
          · exact hacq
          intro _ L3 hL3
          walk_nrm
          (repeat (first | (co_apply opsS_nil; try dsimp only) | co_apply wpS_seq | (co_apply wpS_region; simp only [List.size_toArray, List.length_cons, List.length_nil, Nat.reduceAdd, Nat.zero_add, List.range, List.range.loop]) | co_apply wpS_skip | (co_apply wpS_cond; (focus (exact rfl)); simp only [if_true, if_false, reduceIte, Bool.false_eq_true])))
          (co_apply opsS_pure (v := (.bool false)); (focus (exact rfl)); (focus (exact rfl)); (focus (intro w; go_simp <;> first | done | exact rfl | assumption | omega | ((simp only [IntKind.wrap_u64, IntKind.wrap_u32, IntKind.wrap_i32]); omega) | decide)); (focus (intro w; simp [go_sem, execOp, Act.eval, *]; done)); try walk_nrm)
          (repeat (first | (co_apply opsS_nil; try dsimp only) | co_apply wpS_seq | (co_apply wpS_region; simp only [List.size_toArray, List.length_cons, List.length_nil, Nat.reduceAdd, Nat.zero_add, List.range, List.range.loop]) | co_apply wpS_skip | (co_apply wpS_cond; (focus (exact rfl)); simp only [if_true, if_false, reduceIte, Bool.false_eq_true])))
          (first | (co_apply wpS_ret; refine ⟨_, fun w => ⟨results_tmp rfl _ _ _, events_results_tmp rfl _ _⟩, unwinds_nil ?_⟩) | (refine ⟨_, fun w => ⟨results_none rfl _ _ _, events_results_none rfl _ _⟩, unwinds_nil ?_⟩) | (co_apply wpS_ret; refine ⟨_, fun w => ⟨results_none rfl _ _ _, events_results_none rfl _ _⟩, unwinds_nil ?_⟩))
          exact ⟨rfl, hL3⟩
          decide
        · have hL2 : L2 = (L.deafen 1).turn (.main (m.at none none (some (wa, v - 1)))) none := hL2
          subst hL2
          walk_nrm
          (co_apply opsS_nil; try dsimp only)
          co_apply wpS_more (n' := 400)
          (repeat (first | (co_apply opsS_nil; try dsimp only) | co_apply wpS_seq | (co_apply wpS_region; simp only [List.size_toArray, List.length_cons, List.length_nil, Nat.reduceAdd, Nat.zero_add, List.range, List.range.loop]) | co_apply wpS_skip | (co_apply wpS_cond; (focus (exact rfl)); simp only [if_true, if_false, reduceIte, Bool.false_eq_true])))
          refine ⟨⟨rfl, rfl, rfl, _, .inr ⟨v - 1, rfl⟩, rfl⟩, ?_⟩
          rcases h4 with rfl | ⟨k, rfl⟩
          · have : v ≤ 16 := hv
            show v - 1 < 17
            omega
          · have : v ≤ k := hk k rfl
            show v - 1 < k
            omega
          decide
        decide
      decide
  · decide
end Go.Proofs.Ytaceedenkmccdaa
