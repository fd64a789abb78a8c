/- Pools: the law of those that are closed. -/
import Derived.Test.YtaceedenkmccdaaSm
namespace Go.Proofs.Ytaceedenkmccdaa
open Go Go.Conc Go.ConcN
set_option linter.unusedSimpArgs false
set_option linter.unusedVariables false
variable {X : Cx} {L L' : Lo} {Post : Value → Lo → Prop}
set_option maxRecDepth 100000
set_option maxHeartbeats 8000000
theorem w_closes [Inhabited Base] (hX : Has22 X) {m : MainR} (hb : Boss L m) (hfin : AllFin m) {k : Int} {xs ys : List Int} {so to : Option Addr} {cx cy : Nat} (hn : xs.length * 8 ≤ 140737488355328) (hso : xs.length ≠ 0 → ∃ sb, so = some sb) (hit : ∀ sb, so = some sb → ∀ z, z < xs.length → Sees L (sb.add z) (.int .i64 (xs.getD z 0)))
    (hn2 : ys.length * 8 ≤ 140737488355328) (hso2 : ys.length ≠ 0 → ∃ sb, to = some sb) (hit2 : ∀ sb, to = some sb → ∀ z, z < ys.length → Sees L (sb.add z) (.int .i64 (ys.getD z 0))) :
    ∃ N c, Try.f4.body = some c ∧ wpS X 0 4 c N (rootS X Try.f4 fun r L' => r = .bool true ∧ ∃ m', Boss L' m' ∧ AllFin m' ∧ ∀ a v, Sees L a v → Sees L' a v) { tmps := #[.int .i64 k, .slice so xs.length cx, .slice to ys.length cy] ++ Array.replicate (Try.f4.ntmps - 3) undef, defers := [] } L := by
  obtain ⟨hP, hCW, hap, hbk, hwk⟩ := hX
  obtain ⟨NF, hFF⟩ := w_fixed hP hCW hap hwk
  have hw := fun {m : MainR} {L : Lo} (hb : Boss L m) => w_new (X := X) (L := L) (m := m) (fn := 9) (k := k) hP hwk hb (.inl rfl)
  (obtain ⟨P, ap, SelAt, CI, CW, Q⟩ := X; dsimp only at hP; subst hP)
  dsimp only at hCW
  subst hCW
  by_cases h1 : xs.length ≤ 2000
  · have d1 : decide ((2000 : Int) < (xs.length : Int)) = false := decide_eq_false (by omega)
    by_cases h2 : ys.length ≤ 2000
    · have d2 : decide ((2000 : Int) < (ys.length : Int)) = false := decide_eq_false (by omega)
      apply Exists.intro
      refine ⟨_, rfl, ?_⟩
      simp only [Try.ntmps4, List.size_toArray, List.length_cons, List.length_nil, Nat.reduceAdd, Nat.reduceSub, Array.replicate, List.replicate, List.append_toArray, List.cons_append, List.nil_append, List.append_eq]
      (repeat (first | (co_apply wpS_region; simp only [List.size_toArray, List.length_cons, List.length_nil, Nat.reduceAdd, Nat.zero_add, List.range, List.range.loop]) | (co_apply opsS_pure; (focus (exact rfl)); (focus (exact rfl)); (focus (intro w; go_simp <;> exact rfl)); (focus (intro w; simp [go_sem, execOp, Act.eval]; done)); try walk_nrm) | (co_apply opsS_nil; try dsimp only) | co_apply wpS_seq | co_apply wpS_skip | (co_apply wpS_cond; (focus (exact rfl)); simp only [if_true, if_false, reduceIte, Bool.false_eq_true])))
      (co_apply opsS_call; (focus (exact rfl)); (focus (exact rfl)); (focus (exact rfl)); (focus (exact Try.func7)); (focus (rfl)); (focus (rfl)); try simp only [List.map_toArray, List.map_cons, List.map_nil])
      · exact hFF hb hfin
      rintro _ L1 ⟨rfl, m1, b1, x1, f1⟩
      walk_nrm
      (co_apply opsS_pure; (focus (exact rfl)); (focus (exact rfl)); (focus (intro w; go_simp <;> exact rfl)); (focus (intro w; simp [go_sem, execOp, Act.eval]; done)); try walk_nrm)
      (co_apply opsS_pure; (focus (exact rfl)); (focus (exact rfl)); (focus (intro w; go_simp <;> exact rfl)); (focus (intro w; simp [go_sem, execOp, Act.eval]; done)); try walk_nrm)
      (co_apply opsS_pure; (focus (exact rfl)); (focus (exact rfl)); (focus (intro w; go_simp <;> exact rfl)); (focus (intro w; simp [go_sem, execOp, Act.eval]; done)); try walk_nrm)
      (co_apply opsS_pure; (focus (exact rfl)); (focus (exact rfl)); (focus (intro w; go_simp <;> exact rfl)); (focus (intro w; simp [go_sem, execOp, Act.eval]; done)); try walk_nrm)
      (co_apply opsS_pure (v := (.bool false)); (focus (exact rfl)); (focus (exact rfl)); (focus (intro w; go_simp <;> first | done | exact rfl | assumption | omega | ((simp only [IntKind.wrap_u64, IntKind.wrap_u32, IntKind.wrap_i32]); omega) | decide)); (focus (intro w; simp [go_sem, execOp, Act.eval, *]; done)); try walk_nrm)
      (co_apply opsS_pure; (focus (exact rfl)); (focus (exact rfl)); (focus (intro w; go_simp <;> exact rfl)); (focus (intro w; simp [go_sem, execOp, Act.eval]; done)); try walk_nrm)
      (co_apply opsS_pure; (focus (exact rfl)); (focus (exact rfl)); (focus (intro w; go_simp <;> exact rfl)); (focus (intro w; simp [go_sem, execOp, Act.eval]; done)); try walk_nrm)
      (co_apply opsS_pure; (focus (exact rfl)); (focus (exact rfl)); (focus (intro w; go_simp <;> exact rfl)); (focus (intro w; simp [go_sem, execOp, Act.eval]; done)); try walk_nrm)
      (co_apply opsS_pure; (focus (exact rfl)); (focus (exact rfl)); (focus (intro w; go_simp <;> exact rfl)); (focus (intro w; simp [go_sem, execOp, Act.eval]; done)); try walk_nrm)
      (co_apply opsS_pure (v := (.bool false)); (focus (exact rfl)); (focus (exact rfl)); (focus (intro w; go_simp <;> first | done | exact rfl | assumption | omega | ((simp only [IntKind.wrap_u64, IntKind.wrap_u32, IntKind.wrap_i32]); omega) | decide)); (focus (intro w; simp [go_sem, execOp, Act.eval, *]; done)); try walk_nrm)
      (repeat (first | (co_apply wpS_region; simp only [List.size_toArray, List.length_cons, List.length_nil, Nat.reduceAdd, Nat.zero_add, List.range, List.range.loop]) | (co_apply opsS_pure; (focus (exact rfl)); (focus (exact rfl)); (focus (intro w; go_simp <;> exact rfl)); (focus (intro w; simp [go_sem, execOp, Act.eval]; done)); try walk_nrm) | (co_apply opsS_nil; try dsimp only) | co_apply wpS_seq | co_apply wpS_skip | (co_apply wpS_cond; (focus (exact rfl)); simp only [if_true, if_false, reduceIte, Bool.false_eq_true])))
      (co_apply opsS_call; (focus (exact rfl)); (focus (exact rfl)); (focus (exact rfl)); (focus (exact Try.func8)); (focus (rfl)); (focus (rfl)); try simp only [List.map_toArray, List.map_cons, List.map_nil])
      · exact hw b1
      rintro _ L2 ⟨p, m2, rfl, hpf, hN⟩
      walk_nrm
      (repeat (first | (co_apply wpS_region; simp only [List.size_toArray, List.length_cons, List.length_nil, Nat.reduceAdd, Nat.zero_add, List.range, List.range.loop]) | (co_apply opsS_pure; (focus (exact rfl)); (focus (exact rfl)); (focus (intro w; go_simp <;> exact rfl)); (focus (intro w; simp [go_sem, execOp, Act.eval]; done)); try walk_nrm) | (co_apply opsS_nil; try dsimp only) | co_apply wpS_seq | co_apply wpS_skip | (co_apply wpS_cond; (focus (exact rfl)); simp only [if_true, if_false, reduceIte, Bool.false_eq_true])))
      have hp2 := hN.pool
      obtain ⟨jj, hpe⟩ := hN.pe
      have far2 := hN.far
      have x2 := hN.ext
      have b2 := hN.boss
      clear hN
      (co_apply opsS_call; (focus (exact rfl)); (focus (exact rfl)); (focus (exact rfl)); (focus (exact Try.func10)); (focus (rfl)); (focus (rfl)); try simp only [List.map_toArray, List.map_cons, List.map_nil])
      · exact w_all (po := some p) (c := false) (items := xs) (so := so) (cap := cx) rfl rfl b2 (fun q hq => by cases hq; exact ⟨hp2, hpe.cl⟩) hn hso (fun sb hsb z hz => x2.sees (x1.sees (hit sb hsb z hz))) (fun q hq _ => by
          cases hq
          rw [hpe.asks]
          omega)
      rintro _ L3 ⟨A, m3, rfl, hAp, hAc, hAi, hAll⟩
      walk_nrm
      have b3 := hAll.boss
      have far3 : ∀ {a v}, Sees L a v → a.block < p.b := fun {a v} h => far2 a (x1.sees h).acc
      have hp3 : PoolAt L3 m3 p := hAll.pool hAp hp2 fun sb z hsb hz => by
        rw [hAi] at hz
        have := far3 (hit sb hsb z hz)
        rw [add_blk] at this
        omega
      have c3 : m3.cl p.b = false := by rw [hAll.cl]; exact hpe.cl
      have f3 : m3.fin p.b = false := by rw [hAll.fin]; exact hpe.fin
      have s3 : m3.ps = p :: m1.ps := by rw [hAll.ps, hpe.ps]
      have o3 : ∀ b, b ≠ p.b → m3.fin b = m1.fin b := fun b h => by rw [hAll.fin]; exact hpe.ofin b h
      have a3 : m3.asks p.b = xs.length := by
        rw [hAll.asks]
        simp only [hAp, hAc, Option.map_some, and_self, if_true, hAi, hpe.asks]
        omega
      have x3 : ∀ {a v}, Sees L a v → Sees L3 a v := fun {a v} h => hAll.sees (x2.sees (x1.sees h))
      clear hAll hAp hAc hAi hp2 hpe far2 x1 x2
      generalize A.bo = bo
      (repeat (first | (co_apply wpS_region; simp only [List.size_toArray, List.length_cons, List.length_nil, Nat.reduceAdd, Nat.zero_add, List.range, List.range.loop]) | (co_apply opsS_pure; (focus (exact rfl)); (focus (exact rfl)); (focus (intro w; go_simp <;> exact rfl)); (focus (intro w; simp [go_sem, execOp, Act.eval]; done)); try walk_nrm) | (co_apply opsS_unwanted; (focus (exact rfl)); (focus (exact rfl)); walk_nrm) | (co_apply opsS_nil; try dsimp only) | co_apply wpS_seq | co_apply wpS_skip | (co_apply wpS_cond; (focus (exact rfl)); simp only [if_true, if_false, reduceIte, Bool.false_eq_true])))
      (co_apply opsS_call; (focus (exact rfl)); (focus (exact rfl)); (focus (exact rfl)); (focus (exact Try.func13)); (focus (rfl)); (focus (rfl)); try simp only [List.map_toArray, List.map_cons, List.map_nil])
      · exact w_closeA rfl b3 hp3 c3 f3
      rintro _ L4 ⟨rfl, m4, b4, k4, hp4, x4⟩
      walk_nrm
      have x4 : ∀ {a v}, Sees L a v → Sees L4 a v := fun {a v} h => x4.sees (fun e => by have := far3 h; rw [e] at this; exact Nat.lt_irrefl _ this) (fun e => by have := far3 h; rw [e] at this; exact Nat.lt_irrefl _ this) (x3 h)
      have c4 : m4.cl p.b = true := by rw [k4.cl]; simp
      have f4 : m4.fin p.b = true := by rw [k4.fin]; simp
      (repeat (first | (co_apply wpS_region; simp only [List.size_toArray, List.length_cons, List.length_nil, Nat.reduceAdd, Nat.zero_add, List.range, List.range.loop]) | (co_apply opsS_pure; (focus (exact rfl)); (focus (exact rfl)); (focus (intro w; go_simp <;> exact rfl)); (focus (intro w; simp [go_sem, execOp, Act.eval]; done)); try walk_nrm) | (co_apply opsS_unwanted; (focus (exact rfl)); (focus (exact rfl)); walk_nrm) | (co_apply opsS_nil; try dsimp only) | co_apply wpS_seq | co_apply wpS_skip | (co_apply wpS_cond; (focus (exact rfl)); simp only [if_true, if_false, reduceIte, Bool.false_eq_true])))
      (co_apply opsS_call; (focus (exact rfl)); (focus (exact rfl)); (focus (exact rfl)); (focus (exact Try.func13)); (focus (rfl)); (focus (rfl)); try simp only [List.map_toArray, List.map_cons, List.map_nil])
      · exact w_closeB rfl b4 hp4 c4 f4
      rintro _ L5 ⟨rfl, m5, b5, k5, x5⟩
      walk_nrm
      have e5 : m5.cl = m4.cl := by
        rw [k5.cl]
        funext b
        by_cases e : b = p.b
        · rw [e, if_pos rfl, c4]
        · rw [if_neg e]
      have hp5 := hp4.ext k5.ps e5 k5.rd x5
      have x5 : ∀ {a v}, Sees L a v → Sees L5 a v := fun {a v} h => x5.sees (x4 h)
      have a5 : m5.asks p.b = xs.length := by rw [k5.asks, k4.asks, a3]
      have s5 : m5.ps = p :: m1.ps := by rw [k5.ps, k4.ps, s3]
      have f5 : AllFin m5 := fun e he => by
        rw [s5] at he
        rw [k5.fin, k4.fin]
        dsimp only
        by_cases h : e.b = p.b
        · rw [if_pos h]
        · rw [if_neg h, if_neg h, o3 _ h]
          rcases List.mem_cons.1 he with rfl | he
          · exact absurd rfl h
          · exact f1 e he
      have c5 : m5.cl p.b = true := by rw [e5]; exact c4
      clear hp3 hp4 b3 b4 x3 x4 a3 s3 o3 c3 f3 k4 k5
      (repeat (first | (co_apply wpS_region; simp only [List.size_toArray, List.length_cons, List.length_nil, Nat.reduceAdd, Nat.zero_add, List.range, List.range.loop]) | (co_apply opsS_pure; (focus (exact rfl)); (focus (exact rfl)); (focus (intro w; go_simp <;> exact rfl)); (focus (intro w; simp [go_sem, execOp, Act.eval]; done)); try walk_nrm) | (co_apply opsS_unwanted; (focus (exact rfl)); (focus (exact rfl)); walk_nrm) | (co_apply opsS_nil; try dsimp only) | co_apply wpS_seq | co_apply wpS_skip | (co_apply wpS_cond; (focus (exact rfl)); simp only [if_true, if_false, reduceIte, Bool.false_eq_true])))
      (co_apply opsS_call; (focus (exact rfl)); (focus (exact rfl)); (focus (exact rfl)); (focus (exact Try.func10)); (focus (rfl)); (focus (rfl)); try simp only [List.map_toArray, List.map_cons, List.map_nil])
      · exact w_all (po := some p) (c := true) (items := ys) (so := to) (cap := cy) rfl rfl b5 (fun q hq => by cases hq; exact ⟨hp5, c5⟩) hn2 hso2 (fun sb hsb z hz => x5 (hit2 sb hsb z hz)) (fun q hq h => by cases h)
      rintro _ L6 ⟨A, m6, rfl, hAp, hAc, hAi, hAll⟩
      walk_nrm
      have b6 := hAll.boss
      have hp6 : PoolAt L6 m6 p := hAll.pool hAp hp5 fun sb z hsb hz => by
        rw [hAi] at hz
        have := far3 (hit2 sb hsb z hz)
        rw [add_blk] at this
        omega
      have c6 : m6.cl p.b = true := by rw [hAll.cl]; exact c5
      have f6 : AllFin m6 := fun e he => by rw [hAll.ps] at he; rw [hAll.fin]; exact f5 e he
      have a6 : m6.asks p.b = xs.length := by
        rw [hAll.asks]
        simp only [hAc, Bool.true_eq_false, false_and, if_false]
        exact a5
      have x6 : ∀ {a v}, Sees L a v → Sees L6 a v := fun {a v} h => hAll.sees (x5 h)
      have s6 : ∀ z, z < ys.length → Sees L6 ⟨A.bo, z, none⟩ (.int .i64 0) := fun z hz => by
        have := hAll.ans z (by rw [hAi]; exact hz)
        unfold AllG.val at this
        rw [hAp, hAc] at this
        exact this
      clear hAll hAp hAc hAi hp5 x5 b5 f5
      generalize A.bo = bo2 at s6 ⊢
      (repeat (first | (co_apply wpS_region; simp only [List.size_toArray, List.length_cons, List.length_nil, Nat.reduceAdd, Nat.zero_add, List.range, List.range.loop]) | (co_apply opsS_pure; (focus (exact rfl)); (focus (exact rfl)); (focus (intro w; go_simp <;> exact rfl)); (focus (intro w; simp [go_sem, execOp, Act.eval]; done)); try walk_nrm) | (co_apply opsS_unwanted; (focus (exact rfl)); (focus (exact rfl)); walk_nrm) | (co_apply opsS_nil; try dsimp only) | co_apply wpS_seq | co_apply wpS_skip | (co_apply wpS_cond; (focus (exact rfl)); simp only [if_true, if_false, reduceIte, Bool.false_eq_true])))
      (co_apply opsS_call; (focus (exact rfl)); (focus (exact rfl)); (focus (exact rfl)); (focus (exact Try.func11)); (focus (rfl)); (focus (rfl)); try simp only [List.map_toArray, List.map_cons, List.map_nil])
      · exact w_askMshut rfl b6 hp6 c6
      intro _ _ hE
      rw [hE.1, hE.2]
      clear hE
      walk_nrm
      (repeat (first | (co_apply wpS_region; simp only [List.size_toArray, List.length_cons, List.length_nil, Nat.reduceAdd, Nat.zero_add, List.range, List.range.loop]) | (co_apply opsS_pure; (focus (exact rfl)); (focus (exact rfl)); (focus (intro w; go_simp <;> exact rfl)); (focus (intro w; simp [go_sem, execOp, Act.eval]; done)); try walk_nrm) | (co_apply opsS_unwanted; (focus (exact rfl)); (focus (exact rfl)); walk_nrm) | (co_apply opsS_nil; try dsimp only) | co_apply wpS_seq | co_apply wpS_skip | (co_apply wpS_cond; (focus (exact rfl)); simp only [if_true, if_false, reduceIte, Bool.false_eq_true])))
      (co_apply opsS_call; (focus (exact rfl)); (focus (exact rfl)); (focus (exact rfl)); (focus (exact Try.func12)); (focus (rfl)); (focus (rfl)); try simp only [List.map_toArray, List.map_cons, List.map_nil])
      · exact w_asked rfl b6 hp6.mem
      intro _ _ hE
      rw [hE.1, hE.2]
      clear hE
      rw [a6]
      walk_nrm
      (repeat (first | (co_apply wpS_region; simp only [List.size_toArray, List.length_cons, List.length_nil, Nat.reduceAdd, Nat.zero_add, List.range, List.range.loop]) | (co_apply opsS_pure; (focus (exact rfl)); (focus (exact rfl)); (focus (intro w; go_simp <;> exact rfl)); (focus (intro w; simp [go_sem, execOp, Act.eval]; done)); try walk_nrm) | (co_apply opsS_unwanted; (focus (exact rfl)); (focus (exact rfl)); walk_nrm) | (co_apply opsS_nil; try dsimp only) | co_apply wpS_seq | co_apply wpS_skip | (co_apply wpS_cond; (focus (exact rfl)); simp only [if_true, if_false, reduceIte, Bool.false_eq_true])))
      co_apply wpS_block
      co_apply wpS_loop (fun a L' => a.defers = [] ∧ a.tmps.size = 81 ∧ a.tmps[8]? = some (.slice (some ⟨bo2, 0, none⟩) ys.length ys.length) ∧ (∃ j : Nat, a.tmps[11]? = some (.int .i64 j) ∧ j ≤ ys.length) ∧ L' = L6) (fun a _ => nleft 11 ys.length a) 1000 ys.length
      · exact ⟨rfl, rfl, rfl, ⟨0, rfl, by omega⟩, rfl⟩
      · rw [nleft_eq (z := 0) rfl]
        omega
      · rintro ⟨tmps, defers⟩ _ ⟨k1, k2, k8, ⟨j, k9, hj⟩, rfl⟩
        dsimp only at k1 k2 k8 k9
        subst k1
        obtain ⟨g2, hlit, hf2⟩ := lit tmps 81 k2
        have e8 := hf2 8 _ k8
        have e9 := hf2 11 _ k9
        subst hlit
        clear k2 k8 k9 hf2
        simp only [List.range, List.range.loop, List.map, e8, e9]
        clear e8 e9
        by_cases hlt : j < ys.length
        · co_apply wpS_more
          (repeat (first | (co_apply wpS_region; simp only [List.size_toArray, List.length_cons, List.length_nil, Nat.reduceAdd, Nat.zero_add, List.range, List.range.loop]) | (co_apply opsS_pure; (focus (exact rfl)); (focus (exact rfl)); (focus (intro w; go_simp <;> exact rfl)); (focus (intro w; simp [go_sem, execOp, Act.eval]; done)); try walk_nrm) | (co_apply opsS_nil; try dsimp only) | co_apply wpS_seq | co_apply wpS_skip | (co_apply wpS_cond; (focus (exact rfl)); simp only [if_true, if_false, reduceIte, Bool.false_eq_true])))
          co_apply wpS_block
          (repeat (first | (co_apply wpS_region; simp only [List.size_toArray, List.length_cons, List.length_nil, Nat.reduceAdd, Nat.zero_add, List.range, List.range.loop]) | (co_apply opsS_pure; (focus (exact rfl)); (focus (exact rfl)); (focus (intro w; go_simp <;> exact rfl)); (focus (intro w; simp [go_sem, execOp, Act.eval]; done)); try walk_nrm) | (co_apply opsS_nil; try dsimp only) | co_apply wpS_seq | co_apply wpS_skip | (co_apply wpS_cond; (focus (exact rfl)); simp only [if_true, if_false, reduceIte, Bool.false_eq_true])))
          (co_apply opsS_pure (v := (.pointer (some ⟨bo2, j, none⟩))); (focus (exact rfl)); (focus (exact rfl)); (focus (intro w; go_simp <;> first | done | exact rfl | assumption | omega | ((simp only [IntKind.wrap_u64, IntKind.wrap_u32, IntKind.wrap_i32]); omega) | decide)); (focus (intro w; simp [go_sem, execOp, Act.eval, *]; done)); try walk_nrm)
          (co_apply opsS_read (.int .i64 0); (focus (rfl)); (focus (rfl)); (focus (exact (b6.fit).live)); (focus (exact (b6.fit).vm)); (focus (intro w hS; have hu := ((s6 j hlt)).know w hS; go_simp)); (focus (intro w hS e he; have hu := ((s6 j hlt)).know w hS; have hm := mem_listed he; simp [go_sem, execOp, Act.eval, hu] at hm; subst hm; exact ((s6 j hlt)).ev _)); try walk_nrm)
          (repeat (first | (co_apply wpS_region; simp only [List.size_toArray, List.length_cons, List.length_nil, Nat.reduceAdd, Nat.zero_add, List.range, List.range.loop]) | (co_apply opsS_pure; (focus (exact rfl)); (focus (exact rfl)); (focus (intro w; go_simp <;> exact rfl)); (focus (intro w; simp [go_sem, execOp, Act.eval]; done)); try walk_nrm) | (co_apply opsS_nil; try dsimp only) | co_apply wpS_seq | co_apply wpS_skip | (co_apply wpS_cond; (focus (exact rfl)); simp only [if_true, if_false, reduceIte, Bool.false_eq_true])))
          rw [wrap_i64 ((j : Int) + 1) (by omega) (by omega)]
          refine ⟨⟨rfl, rfl, rfl, ⟨j + 1, rfl, by omega⟩, rfl⟩, ?_⟩
          rw [nleft_eq (z := j + 1) rfl, nleft_eq (z := j) rfl]
          omega
          decide
        · have hje : j = ys.length := by omega
          subst hje
          co_apply wpS_more
          co_apply wpS_seq (n₂ := 0)
          (repeat (first | (co_apply wpS_region; simp only [List.size_toArray, List.length_cons, List.length_nil, Nat.reduceAdd, Nat.zero_add, List.range, List.range.loop]) | (co_apply opsS_pure; (focus (exact rfl)); (focus (exact rfl)); (focus (intro w; go_simp <;> exact rfl)); (focus (intro w; simp [go_sem, execOp, Act.eval]; done)); try walk_nrm) | (co_apply opsS_nil; try dsimp only) | co_apply wpS_seq | co_apply wpS_skip | (co_apply wpS_cond; (focus (exact rfl)); simp only [if_true, if_false, reduceIte, Bool.false_eq_true])))
          co_apply wpS_exit
          try dsimp only
          try simp only [if_true, reduceIte]
          (repeat (first | (co_apply wpS_region; simp only [List.size_toArray, List.length_cons, List.length_nil, Nat.reduceAdd, Nat.zero_add, List.range, List.range.loop]) | (co_apply opsS_pure; (focus (exact rfl)); (focus (exact rfl)); (focus (intro w; go_simp <;> exact rfl)); (focus (intro w; simp [go_sem, execOp, Act.eval]; done)); try walk_nrm) | (co_apply opsS_nil; try dsimp only) | co_apply wpS_seq | co_apply wpS_skip | (co_apply wpS_cond; (focus (exact rfl)); simp only [if_true, if_false, reduceIte, Bool.false_eq_true])))
          co_apply wpS_ret
          exact ⟨_, fun w => ⟨results_tmp rfl _ _ _, events_results_tmp rfl _ _⟩, rfl, rfl, m6, b6, f6, fun a v h => x6 h⟩
          decide
    · have d2 : decide ((2000 : Int) < (ys.length : Int)) = true := decide_eq_true (by omega)
      apply Exists.intro
      refine ⟨_, rfl, ?_⟩
      simp only [Try.ntmps4, List.size_toArray, List.length_cons, List.length_nil, Nat.reduceAdd, Nat.reduceSub, Array.replicate, List.replicate, List.append_toArray, List.cons_append, List.nil_append, List.append_eq]
      (co_apply wpS_seq)
      (repeat (first | (co_apply wpS_region; simp only [List.size_toArray, List.length_cons, List.length_nil, Nat.reduceAdd, Nat.zero_add, List.range, List.range.loop]) | (co_apply opsS_pure; (focus (exact rfl)); (focus (exact rfl)); (focus (intro w; go_simp <;> exact rfl)); (focus (intro w; simp [go_sem, execOp, Act.eval]; done)); try walk_nrm) | (co_apply opsS_nil; try dsimp only) | co_apply wpS_skip | (co_apply wpS_cond; (focus (exact rfl)); simp only [if_true, if_false, reduceIte, Bool.false_eq_true])))
      co_apply wpS_seq (n₂ := 0)
      (repeat (first | (co_apply wpS_region; simp only [List.size_toArray, List.length_cons, List.length_nil, Nat.reduceAdd, Nat.zero_add, List.range, List.range.loop]) | (co_apply opsS_pure; (focus (exact rfl)); (focus (exact rfl)); (focus (intro w; go_simp <;> exact rfl)); (focus (intro w; simp [go_sem, execOp, Act.eval]; done)); try walk_nrm) | (co_apply opsS_nil; try dsimp only) | co_apply wpS_seq | co_apply wpS_skip | (co_apply wpS_cond; (focus (exact rfl)); simp only [if_true, if_false, reduceIte, Bool.false_eq_true])))
      (co_apply opsS_call; (focus (exact rfl)); (focus (exact rfl)); (focus (exact rfl)); (focus (exact Try.func7)); (focus (rfl)); (focus (rfl)); try simp only [List.map_toArray, List.map_cons, List.map_nil])
      · exact hFF hb hfin
      rintro _ L1 ⟨rfl, m1, b1, x1, f1⟩
      walk_nrm
      (co_apply opsS_pure; (focus (exact rfl)); (focus (exact rfl)); (focus (intro w; go_simp <;> exact rfl)); (focus (intro w; simp [go_sem, execOp, Act.eval]; done)); try walk_nrm)
      (co_apply opsS_pure; (focus (exact rfl)); (focus (exact rfl)); (focus (intro w; go_simp <;> exact rfl)); (focus (intro w; simp [go_sem, execOp, Act.eval]; done)); try walk_nrm)
      (co_apply opsS_pure; (focus (exact rfl)); (focus (exact rfl)); (focus (intro w; go_simp <;> exact rfl)); (focus (intro w; simp [go_sem, execOp, Act.eval]; done)); try walk_nrm)
      (co_apply opsS_pure; (focus (exact rfl)); (focus (exact rfl)); (focus (intro w; go_simp <;> exact rfl)); (focus (intro w; simp [go_sem, execOp, Act.eval]; done)); try walk_nrm)
      (co_apply opsS_pure (v := (.bool false)); (focus (exact rfl)); (focus (exact rfl)); (focus (intro w; go_simp <;> first | done | exact rfl | assumption | omega | ((simp only [IntKind.wrap_u64, IntKind.wrap_u32, IntKind.wrap_i32]); omega) | decide)); (focus (intro w; simp [go_sem, execOp, Act.eval, *]; done)); try walk_nrm)
      (co_apply opsS_pure; (focus (exact rfl)); (focus (exact rfl)); (focus (intro w; go_simp <;> exact rfl)); (focus (intro w; simp [go_sem, execOp, Act.eval]; done)); try walk_nrm)
      (co_apply opsS_pure; (focus (exact rfl)); (focus (exact rfl)); (focus (intro w; go_simp <;> exact rfl)); (focus (intro w; simp [go_sem, execOp, Act.eval]; done)); try walk_nrm)
      (co_apply opsS_pure; (focus (exact rfl)); (focus (exact rfl)); (focus (intro w; go_simp <;> exact rfl)); (focus (intro w; simp [go_sem, execOp, Act.eval]; done)); try walk_nrm)
      (co_apply opsS_pure; (focus (exact rfl)); (focus (exact rfl)); (focus (intro w; go_simp <;> exact rfl)); (focus (intro w; simp [go_sem, execOp, Act.eval]; done)); try walk_nrm)
      (co_apply opsS_pure (v := (.bool true)); (focus (exact rfl)); (focus (exact rfl)); (focus (intro w; go_simp <;> first | done | exact rfl | assumption | omega | ((simp only [IntKind.wrap_u64, IntKind.wrap_u32, IntKind.wrap_i32]); omega) | decide)); (focus (intro w; simp [go_sem, execOp, Act.eval, *]; done)); try walk_nrm)
      (repeat (first | (co_apply wpS_region; simp only [List.size_toArray, List.length_cons, List.length_nil, Nat.reduceAdd, Nat.zero_add, List.range, List.range.loop]) | (co_apply opsS_pure; (focus (exact rfl)); (focus (exact rfl)); (focus (intro w; go_simp <;> exact rfl)); (focus (intro w; simp [go_sem, execOp, Act.eval]; done)); try walk_nrm) | (co_apply opsS_unwanted; (focus (exact rfl)); (focus (exact rfl)); walk_nrm) | (co_apply opsS_nil; try dsimp only) | co_apply wpS_seq | co_apply wpS_skip | (co_apply wpS_cond; (focus (exact rfl)); simp only [if_true, if_false, reduceIte, Bool.false_eq_true])))
      (co_apply opsS_call; (focus (exact rfl)); (focus (exact rfl)); (focus (exact rfl)); (focus (exact Try.func7)); (focus (rfl)); (focus (rfl)); try simp only [List.map_toArray, List.map_cons, List.map_nil])
      · exact hFF b1 f1
      rintro _ L2 ⟨rfl, m2, b2, x2, f2⟩
      walk_nrm
      (repeat (first | (co_apply wpS_region; simp only [List.size_toArray, List.length_cons, List.length_nil, Nat.reduceAdd, Nat.zero_add, List.range, List.range.loop]) | (co_apply opsS_pure; (focus (exact rfl)); (focus (exact rfl)); (focus (intro w; go_simp <;> exact rfl)); (focus (intro w; simp [go_sem, execOp, Act.eval]; done)); try walk_nrm) | (co_apply opsS_unwanted; (focus (exact rfl)); (focus (exact rfl)); walk_nrm) | (co_apply opsS_nil; try dsimp only) | co_apply wpS_seq | co_apply wpS_skip | (co_apply wpS_cond; (focus (exact rfl)); simp only [if_true, if_false, reduceIte, Bool.false_eq_true])))
      co_apply wpS_ret
      exact ⟨_, fun w => ⟨results_tmp rfl _ _ _, events_results_tmp rfl _ _⟩, rfl, rfl, m2, b2, f2, fun a v h => x2.sees (x1.sees h)⟩
  · have d1 : decide ((2000 : Int) < (xs.length : Int)) = true := decide_eq_true (by omega)
    apply Exists.intro
    refine ⟨_, rfl, ?_⟩
    simp only [Try.ntmps4, List.size_toArray, List.length_cons, List.length_nil, Nat.reduceAdd, Nat.reduceSub, Array.replicate, List.replicate, List.append_toArray, List.cons_append, List.nil_append, List.append_eq]
    (co_apply wpS_seq)
    (repeat (first | (co_apply wpS_region; simp only [List.size_toArray, List.length_cons, List.length_nil, Nat.reduceAdd, Nat.zero_add, List.range, List.range.loop]) | (co_apply opsS_pure; (focus (exact rfl)); (focus (exact rfl)); (focus (intro w; go_simp <;> exact rfl)); (focus (intro w; simp [go_sem, execOp, Act.eval]; done)); try walk_nrm) | (co_apply opsS_nil; try dsimp only) | co_apply wpS_skip | (co_apply wpS_cond; (focus (exact rfl)); simp only [if_true, if_false, reduceIte, Bool.false_eq_true])))
    co_apply wpS_seq (n₂ := 0)
    (repeat (first | (co_apply wpS_region; simp only [List.size_toArray, List.length_cons, List.length_nil, Nat.reduceAdd, Nat.zero_add, List.range, List.range.loop]) | (co_apply opsS_pure; (focus (exact rfl)); (focus (exact rfl)); (focus (intro w; go_simp <;> exact rfl)); (focus (intro w; simp [go_sem, execOp, Act.eval]; done)); try walk_nrm) | (co_apply opsS_nil; try dsimp only) | co_apply wpS_seq | co_apply wpS_skip | (co_apply wpS_cond; (focus (exact rfl)); simp only [if_true, if_false, reduceIte, Bool.false_eq_true])))
    (co_apply opsS_call; (focus (exact rfl)); (focus (exact rfl)); (focus (exact rfl)); (focus (exact Try.func7)); (focus (rfl)); (focus (rfl)); try simp only [List.map_toArray, List.map_cons, List.map_nil])
    · exact hFF hb hfin
    rintro _ L1 ⟨rfl, m1, b1, x1, f1⟩
    walk_nrm
    (co_apply opsS_pure; (focus (exact rfl)); (focus (exact rfl)); (focus (intro w; go_simp <;> exact rfl)); (focus (intro w; simp [go_sem, execOp, Act.eval]; done)); try walk_nrm)
    (co_apply opsS_pure; (focus (exact rfl)); (focus (exact rfl)); (focus (intro w; go_simp <;> exact rfl)); (focus (intro w; simp [go_sem, execOp, Act.eval]; done)); try walk_nrm)
    (co_apply opsS_pure; (focus (exact rfl)); (focus (exact rfl)); (focus (intro w; go_simp <;> exact rfl)); (focus (intro w; simp [go_sem, execOp, Act.eval]; done)); try walk_nrm)
    (co_apply opsS_pure; (focus (exact rfl)); (focus (exact rfl)); (focus (intro w; go_simp <;> exact rfl)); (focus (intro w; simp [go_sem, execOp, Act.eval]; done)); try walk_nrm)
    (co_apply opsS_pure (v := (.bool true)); (focus (exact rfl)); (focus (exact rfl)); (focus (intro w; go_simp <;> first | done | exact rfl | assumption | omega | ((simp only [IntKind.wrap_u64, IntKind.wrap_u32, IntKind.wrap_i32]); omega) | decide)); (focus (intro w; simp [go_sem, execOp, Act.eval, *]; done)); try walk_nrm)
    (repeat (first | (co_apply wpS_region; simp only [List.size_toArray, List.length_cons, List.length_nil, Nat.reduceAdd, Nat.zero_add, List.range, List.range.loop]) | (co_apply opsS_pure; (focus (exact rfl)); (focus (exact rfl)); (focus (intro w; go_simp <;> exact rfl)); (focus (intro w; simp [go_sem, execOp, Act.eval]; done)); try walk_nrm) | (co_apply opsS_unwanted; (focus (exact rfl)); (focus (exact rfl)); walk_nrm) | (co_apply opsS_nil; try dsimp only) | co_apply wpS_seq | co_apply wpS_skip | (co_apply wpS_cond; (focus (exact rfl)); simp only [if_true, if_false, reduceIte, Bool.false_eq_true])))
    (co_apply opsS_call; (focus (exact rfl)); (focus (exact rfl)); (focus (exact rfl)); (focus (exact Try.func7)); (focus (rfl)); (focus (rfl)); try simp only [List.map_toArray, List.map_cons, List.map_nil])
    · exact hFF b1 f1
    rintro _ L2 ⟨rfl, m2, b2, x2, f2⟩
    walk_nrm
    (repeat (first | (co_apply wpS_region; simp only [List.size_toArray, List.length_cons, List.length_nil, Nat.reduceAdd, Nat.zero_add, List.range, List.range.loop]) | (co_apply opsS_pure; (focus (exact rfl)); (focus (exact rfl)); (focus (intro w; go_simp <;> exact rfl)); (focus (intro w; simp [go_sem, execOp, Act.eval]; done)); try walk_nrm) | (co_apply opsS_unwanted; (focus (exact rfl)); (focus (exact rfl)); walk_nrm) | (co_apply opsS_nil; try dsimp only) | co_apply wpS_seq | co_apply wpS_skip | (co_apply wpS_cond; (focus (exact rfl)); simp only [if_true, if_false, reduceIte, Bool.false_eq_true])))
    co_apply wpS_ret
    exact ⟨_, fun w => ⟨results_tmp rfl _ _ _, events_results_tmp rfl _ _⟩, rfl, rfl, m2, b2, f2, fun a v h => x2.sees (x1.sees h)⟩
end Go.Proofs.Ytaceedenkmccdaa
