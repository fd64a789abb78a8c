/- Pools: the walk of two pools. -/
import Derived.Test.YtaceedenkmccdaaPv
import Derived.Laws.Slices
namespace Go.Proofs.Ytaceedenkmccdaa
open Go Go.Conc Go.ConcN
set_option linter.unusedSimpArgs false
set_option linter.unusedVariables false
variable {X : Cx} {L L' : Lo} {Post : Value → Lo → Prop}
set_option maxRecDepth 100000
set_option maxHeartbeats 8000000
theorem w_two [Inhabited Base] (hX : Has22 X) {m : MainR} (hb : Boss L m) (hfin : AllFin m) {k1 k2 : Int} {xs : List Int} {so : Option Addr} {cx : Nat} (hn : xs.length * 8 ≤ 2 * 140737488355328) (hso : xs.length ≠ 0 → ∃ sb, so = some sb) (hit : ∀ sb, so = some sb → ∀ z, z < xs.length → Sees L (sb.add z) (.int .i32 (xs.getD z 0))) (hwf : ∀ x ∈ xs, (Lit.int .i32 x).wf = true) :
    ∃ N c, Try.f6.body = some c ∧ wpS X 0 6 c N (rootS X Try.f6 fun r L' => r = .bool true ∧ ∃ m', Boss L' m' ∧ AllFin m' ∧ ∀ a v, Sees L a v → Sees L' a v) { tmps := #[.int .i64 k1, .int .i64 k2, .slice so xs.length cx] ++ Array.replicate (Try.f6.ntmps - 3) undef, defers := [] } L := by
  obtain ⟨hP, hCW, hap, hbk, hwk⟩ := hX
  obtain ⟨NF, hFF⟩ := w_fixed hP hCW hap hwk
  have hw := fun {m : MainR} {L : Lo} (hb : Boss L m) => w_new (X := X) (L := L) (m := m) (fn := 9) (k := k1) hP hwk hb (.inl rfl)
  have hv := fun {m : MainR} {L : Lo} (hb : Boss L m) => w_new (X := X) (L := L) (m := m) (fn := 14) (k := k2) hP hwk hb (.inr rfl)
  (obtain ⟨P, ap, SelAt, CI, CW, Q⟩ := X; dsimp only at hP; subst hP)
  dsimp only at hCW
  subst hCW
  by_cases h1 : xs.length ≤ 2000
  · have d1 : decide ((2000 : Int) < (xs.length : Int)) = false := decide_eq_false (by omega)
    apply Exists.intro
    refine ⟨_, rfl, ?_⟩
    simp only [Try.ntmps6, List.size_toArray, List.length_cons, List.length_nil, Nat.reduceAdd, Nat.reduceSub, Array.replicate, List.replicate, List.append_toArray, List.cons_append, List.nil_append, List.append_eq]
    (repeat (first | (co_apply wpS_region; simp only [List.size_toArray, List.length_cons, List.length_nil, Nat.reduceAdd, Nat.zero_add, List.range, List.range.loop]) | (co_apply opsS_pure; (focus (exact rfl)); (focus (exact rfl)); (focus (intro w; go_simp <;> exact rfl)); (focus (intro w; simp [go_sem, execOp, Act.eval]; done)); try walk_nrm) | (co_apply opsS_nil; try dsimp only) | co_apply wpS_seq | co_apply wpS_skip | (co_apply wpS_cond; (focus (exact rfl)); simp only [if_true, if_false, reduceIte, Bool.false_eq_true])))
    (co_apply opsS_call; (focus (exact rfl)); (focus (exact rfl)); (focus (exact rfl)); (focus (exact Try.func7)); (focus (rfl)); (focus (rfl)); try simp only [List.map_toArray, List.map_cons, List.map_nil])
    · exact hFF hb hfin
    rintro _ L1 ⟨rfl, m1, b1, x1, f1⟩
    walk_nrm
    (co_apply opsS_pure; (focus (exact rfl)); (focus (exact rfl)); (focus (intro w; go_simp <;> exact rfl)); (focus (intro w; simp [go_sem, execOp, Act.eval]; done)); try walk_nrm)
    (co_apply opsS_pure; (focus (exact rfl)); (focus (exact rfl)); (focus (intro w; go_simp <;> exact rfl)); (focus (intro w; simp [go_sem, execOp, Act.eval]; done)); try walk_nrm)
    (co_apply opsS_pure; (focus (exact rfl)); (focus (exact rfl)); (focus (intro w; go_simp <;> exact rfl)); (focus (intro w; simp [go_sem, execOp, Act.eval]; done)); try walk_nrm)
    (co_apply opsS_pure; (focus (exact rfl)); (focus (exact rfl)); (focus (intro w; go_simp <;> exact rfl)); (focus (intro w; simp [go_sem, execOp, Act.eval]; done)); try walk_nrm)
    (co_apply opsS_pure (v := (.bool false)); (focus (exact rfl)); (focus (exact rfl)); (focus (intro w; go_simp <;> first | done | exact rfl | assumption | omega | ((simp only [IntKind.wrap_u64, IntKind.wrap_u32, IntKind.wrap_i32]); omega) | decide)); (focus (intro w; simp [go_sem, execOp, Act.eval, *]; done)); try walk_nrm)
    (repeat (first | (co_apply wpS_region; simp only [List.size_toArray, List.length_cons, List.length_nil, Nat.reduceAdd, Nat.zero_add, List.range, List.range.loop]) | (co_apply opsS_pure; (focus (exact rfl)); (focus (exact rfl)); (focus (intro w; go_simp <;> exact rfl)); (focus (intro w; simp [go_sem, execOp, Act.eval]; done)); try walk_nrm) | (co_apply opsS_nil; try dsimp only) | co_apply wpS_seq | co_apply wpS_skip | (co_apply wpS_cond; (focus (exact rfl)); simp only [if_true, if_false, reduceIte, Bool.false_eq_true])))
    (co_apply opsS_call; (focus (exact rfl)); (focus (exact rfl)); (focus (exact rfl)); (focus (exact Try.func8)); (focus (rfl)); (focus (rfl)); try simp only [List.map_toArray, List.map_cons, List.map_nil])
    · exact hw b1
    rintro _ L2 ⟨p, m2, rfl, hpf, hN⟩
    walk_nrm
    have hp2 := hN.pool
    obtain ⟨jj, hpe⟩ := hN.pe
    have far2 := hN.far
    have x2 := hN.ext
    have b2 := hN.boss
    clear hN
    (repeat (first | (co_apply wpS_region; simp only [List.size_toArray, List.length_cons, List.length_nil, Nat.reduceAdd, Nat.zero_add, List.range, List.range.loop]) | (co_apply opsS_pure; (focus (exact rfl)); (focus (exact rfl)); (focus (intro w; go_simp <;> exact rfl)); (focus (intro w; simp [go_sem, execOp, Act.eval]; done)); try walk_nrm) | (co_apply opsS_nil; try dsimp only) | co_apply wpS_seq | co_apply wpS_skip | (co_apply wpS_cond; (focus (exact rfl)); simp only [if_true, if_false, reduceIte, Bool.false_eq_true])))
    (co_apply opsS_call; (focus (exact rfl)); (focus (exact rfl)); (focus (exact rfl)); (focus (exact Try.func8)); (focus (rfl)); (focus (rfl)); try simp only [List.map_toArray, List.map_cons, List.map_nil])
    · exact hv b2
    rintro _ L3 ⟨q, m3, rfl, hqf, hN⟩
    walk_nrm
    have hq3 := hN.pool
    obtain ⟨jk, hqe⟩ := hN.pe
    have far3 := hN.far
    have x3 := hN.ext
    have b3 := hN.boss
    clear hN
    have hpq : p.b < q.b := far3 ⟨p.b, 1, none⟩ hp2.ci.acc
    have hp3 : PoolAt L3 m3 p := hp2.new2 hqe (by omega) x3
    have far0 : ∀ {a v}, Sees L a v → a.block < p.b := fun {a v} h => far2 a (x1.sees h).acc
    have old3 : ∀ {a v}, Sees L a v → Sees L3 a v := fun {a v} h => x3.sees (x2.sees (x1.sees h))
    have cp3 : m3.cl p.b = false := by rw [hqe.ocl _ (by omega)]; exact hpe.cl
    have cq3 : m3.cl q.b = false := hqe.cl
    have fp3 : m3.fin p.b = false := by rw [hqe.ofin _ (by omega)]; exact hpe.fin
    have fq3 : m3.fin q.b = false := hqe.fin
    have ap3 : m3.asks p.b = 0 := by rw [hqe.oasks _ (by omega)]; exact hpe.asks
    have aq3 : m3.asks q.b = 0 := hqe.asks
    have s3 : m3.ps = q :: p :: m1.ps := by rw [hqe.ps, hpe.ps]
    have o3 : ∀ b, b ≠ p.b → b ≠ q.b → m3.fin b = m1.fin b := fun b h h' => by rw [hqe.ofin b h', hpe.ofin b h]
    clear hpe hqe hp2 b2 far2 far3 x1 x2 x3 b1
    (repeat (first | (co_apply wpS_region; simp only [List.size_toArray, List.length_cons, List.length_nil, Nat.reduceAdd, Nat.zero_add, List.range, List.range.loop]) | (co_apply opsS_pure; (focus (exact rfl)); (focus (exact rfl)); (focus (intro w; go_simp <;> exact rfl)); (focus (intro w; simp [go_sem, execOp, Act.eval]; done)); try walk_nrm) | (co_apply opsS_unwanted; (focus (exact rfl)); (focus (exact rfl)); walk_nrm) | (co_apply opsS_nil; try dsimp only) | co_apply wpS_seq | co_apply wpS_skip | (co_apply wpS_cond; (focus (exact rfl)); simp only [if_true, if_false, reduceIte, Bool.false_eq_true])))
    co_apply wpS_block
    have hT0 : Two L m3 p q xs none 0 0 L3 := ⟨b3, ⟨by simp, .inl ⟨rfl, by simp, rfl⟩⟩, fun b e => (by cases e), hp3, hq3, old3⟩
    co_apply wpS_loop (fun a L' => a.defers = [] ∧ a.tmps.size = 77 ∧ a.tmps[2]? = some (.slice so xs.length cx) ∧ a.tmps[7]? = some (.pointer (some ⟨p.b, 0, none⟩)) ∧ a.tmps[8]? = some (.pointer (some ⟨q.b, 0, none⟩)) ∧ ∃ (j : Nat) (sl : Option Addr) (cl : Nat), a.tmps[9]? = some (.slice sl j cl) ∧ a.tmps[10]? = some (.int .i64 j) ∧ j ≤ xs.length ∧ Two L m3 p q xs sl cl j L') (fun a _ => nleft 10 xs.length a) 3000 xs.length
    · exact ⟨rfl, rfl, rfl, rfl, rfl, 0, none, 0, rfl, rfl, by omega, hT0⟩
    · rw [nleft_eq (z := 0) rfl]
      omega
    · clear hT0 hp3 hq3 b3
      rintro ⟨tmps, defers⟩ L4 ⟨k1', k2', k3, k7, k8, j, sl, cl, k9, k10, hj, hT⟩
      dsimp only at k1' k2' k3 k7 k8 k9 k10
      subst k1'
      obtain ⟨g2, hlit, hf2⟩ := lit tmps 77 k2'
      have e2 := hf2 2 _ k3
      have e7 := hf2 7 _ k7
      have e8 := hf2 8 _ k8
      have e9 := hf2 9 _ k9
      have e10 := hf2 10 _ k10
      subst hlit
      clear k2' k3 k7 k8 k9 k10 hf2
      simp only [List.range, List.range.loop, List.map, e2, e7, e8, e9, e10]
      clear e2 e7 e8 e9 e10
      by_cases hlt : j < xs.length
      · obtain ⟨sb, hsb⟩ := hso (by omega)
        simp only [hsb]
        obtain ⟨x, hxj⟩ : ∃ x, x = xs.getD j 0 := ⟨_, rfl⟩
        have hx := two_wrap (hwf (xs.getD j 0) (by rw [List.getD_eq_getElem?_getD, List.getElem?_eq_getElem hlt]; exact List.getElem_mem hlt))
        have hw1 := hx.1
        have hs4 := hT.old (hit sb hsb j hlt)
        rw [← hxj] at hw1 hs4
        have nxt := fun L5 so6 cp6 L6 (g5 : Grows L4 L5) (b5 : Boss L5 m3) (r6 : Row22 L6 so6 cp6 (xs.take j ++ [x])) (q6 : App22 L5 L6 sl so6 (xs.take j).length) => hT.next (L1 := L5) (L2 := L6) (so' := so6) (cap' := cp6) hlt hxj hpq far0 g5 b5 r6 q6
        clear hx hxj
        co_apply wpS_more
        (repeat (first | (co_apply wpS_region; simp only [List.size_toArray, List.length_cons, List.length_nil, Nat.reduceAdd, Nat.zero_add, List.range, List.range.loop]) | (co_apply opsS_pure; (focus (exact rfl)); (focus (exact rfl)); (focus (intro w; go_simp <;> exact rfl)); (focus (intro w; simp [go_sem, execOp, Act.eval]; done)); try walk_nrm) | (co_apply opsS_nil; try dsimp only) | co_apply wpS_seq | co_apply wpS_skip | (co_apply wpS_cond; (focus (exact rfl)); simp only [if_true, if_false, reduceIte, Bool.false_eq_true])))
        co_apply wpS_block
        (repeat (first | (co_apply wpS_region; simp only [List.size_toArray, List.length_cons, List.length_nil, Nat.reduceAdd, Nat.zero_add, List.range, List.range.loop]) | (co_apply opsS_pure; (focus (exact rfl)); (focus (exact rfl)); (focus (intro w; go_simp <;> exact rfl)); (focus (intro w; simp [go_sem, execOp, Act.eval]; done)); try walk_nrm) | (co_apply opsS_nil; try dsimp only) | co_apply wpS_seq | co_apply wpS_skip | (co_apply wpS_cond; (focus (exact rfl)); simp only [if_true, if_false, reduceIte, Bool.false_eq_true])))
        (co_apply opsS_pure (v := (.pointer (some (sb.add j)))); (focus (exact rfl)); (focus (exact rfl)); (focus (intro w; go_simp <;> first | done | exact rfl | assumption | omega | ((simp only [IntKind.wrap_u64, IntKind.wrap_u32, IntKind.wrap_i32]); omega) | decide)); (focus (intro w; simp [go_sem, execOp, Act.eval, *]; done)); try walk_nrm)
        (co_apply opsS_read (.int .i32 x); (focus (rfl)); (focus (rfl)); (focus (exact (hT.boss.fit).live)); (focus (exact (hT.boss.fit).vm)); (focus (intro w hS; have hu := (hs4).know w hS; go_simp)); (focus (intro w hS e he; have hu := (hs4).know w hS; have hm := mem_listed he; simp [go_sem, execOp, Act.eval, hu] at hm; subst hm; exact (hs4).ev _)); try walk_nrm)
        (co_apply opsS_pure (v := (.int .i64 x)); (focus (exact rfl)); (focus (exact rfl)); (focus (intro w; go_simp <;> first | done | exact rfl | assumption | omega | ((simp only [IntKind.wrap_u64, IntKind.wrap_u32, IntKind.wrap_i32]); omega) | decide)); (focus (intro w; simp [go_sem, execOp, Act.eval, *]; done)); try walk_nrm)
        have hb7 := fun w => mkbuilt (P := Try.prog) (t := 22) (e := 2) (n := 1) (parts := #[(0, .int .i64 x)]) (cells := #[.int .i64 x]) (z := .int .i64 0) Try.underlying22 (by kernel_rfl) (by decide) (by kernel_rfl) w
        co_apply opsS_add (cs := #[.int .i64 x]) (r := fun bk => .slice (some ⟨bk, 0, none⟩) 1 1) (ty := 2) (fun _ => False)
        · rfl
        · rfl
        · exact hT.boss.fit.live
        · exact hT.boss.vm
        · intro w hS; simp [go_sem, execOp, Act.eval, hb7]
        · intro w hS; simp [listed, go_sem, execOp, Act.eval, ev_buildSlice, seen_none]
        intro bt hbt
        walk_nrm
        have g5 : Grows L4 (L4.adds bt #[.int .i64 x] fun _ => False) := Grows.adds hbt
        have b4 := hT.boss
        have b5 : Boss (L4.adds bt #[.int .i64 x] fun _ => False) m3 := ⟨b4.role, b4.q, b4.h, b4.d, g5.vm b4.vm, b4.reg, b4.pnd, b4.al, b4.dn, b4.nw, b4.clb⟩
        have r5 : Row22 (L4.adds bt #[.int .i64 x] fun _ => False) sl cl (xs.take j) := hT.row.mono2 fun h => g5.has h
        have v5 : Sees (L4.adds bt #[.int .i64 x] fun _ => False) ((⟨bt, 0, none⟩ : Addr).add 0) (.int .i64 x) := (has_new (bk := bt) (k := 0) rfl (fun x => x) fun a ha => hbt a (.inl (b4.vm a ha))).sees
        generalize (L4.adds bt #[.int .i64 x] fun _ => False) = L5 at g5 b5 r5 v5 ⊢
        clear hb7
        have hlj : (xs.take j).length = j := by simp; omega
        co_apply opsS_app1 rfl (c := 1) (sa := ⟨bt, 0, none⟩) (v := x) r5
        · rfl
        · rfl
        · rfl
        · rw [hlj]; rfl
        · rfl
        · exact v5
        · omega
        · exact b5.fit.live
        · exact b5.vm
        intro so6 cp6 L6 r6 q6
        rw [hlj]
        walk_nrm
        have hT6 : Two L m3 p q xs so6 cp6 (j + 1) L6 := nxt _ _ _ _ g5 b5 r6 q6
        clear r5 v5 q6 r6 g5 b5 b4
        (repeat (first | (co_apply wpS_region; simp only [List.size_toArray, List.length_cons, List.length_nil, Nat.reduceAdd, Nat.zero_add, List.range, List.range.loop]) | (co_apply opsS_pure; (focus (exact rfl)); (focus (exact rfl)); (focus (intro w; go_simp <;> exact rfl)); (focus (intro w; simp [go_sem, execOp, Act.eval]; done)); try walk_nrm) | (co_apply opsS_nil; try dsimp only) | co_apply wpS_seq | co_apply wpS_skip | (co_apply wpS_cond; (focus (exact rfl)); simp only [if_true, if_false, reduceIte, Bool.false_eq_true])))
        rw [wrap_i64 ((j : Int) + 1) (by omega) (by omega)]
        refine ⟨⟨rfl, rfl, rfl, rfl, rfl, j + 1, so6, cp6, rfl, rfl, by omega, hT6⟩, ?_⟩
        rw [nleft_eq (z := j + 1) rfl, nleft_eq (z := j) rfl]
        omega
        decide
      · have hje : j = xs.length := by omega
        subst hje
        co_apply wpS_more
        co_apply wpS_seq (n₂ := 0)
        (repeat (first | (co_apply wpS_region; simp only [List.size_toArray, List.length_cons, List.length_nil, Nat.reduceAdd, Nat.zero_add, List.range, List.range.loop]) | (co_apply opsS_pure; (focus (exact rfl)); (focus (exact rfl)); (focus (intro w; go_simp <;> exact rfl)); (focus (intro w; simp [go_sem, execOp, Act.eval]; done)); try walk_nrm) | (co_apply opsS_nil; try dsimp only) | co_apply wpS_seq | co_apply wpS_skip | (co_apply wpS_cond; (focus (exact rfl)); simp only [if_true, if_false, reduceIte, Bool.false_eq_true])))
        co_apply wpS_exit
        try dsimp only
        try simp only [if_true, reduceIte]
        have hp4 := hT.pp
        have hq4 := hT.pq
        have b4 := hT.boss
        have old4 : ∀ {a v}, Sees L a v → Sees L4 a v := fun {a v} h => hT.old h
        have far4 := hT.far
        have hrow := hT.row.row
        rw [List.take_length] at hrow
        have hsl : xs.length ≠ 0 → ∃ b, sl = some ⟨b, 0, none⟩ := fun h => by
          rcases hrow with ⟨_, h2, _⟩ | ⟨b, h2, _⟩
          · rw [h2] at h; exact absurd rfl h
          · exact ⟨b, h2⟩
        have hxs4 : ∀ sb, sl = some sb → ∀ z, z < xs.length → Sees L4 (sb.add z) (.int .i64 (xs.getD z 0)) := fun sb e z hz => by
          rcases hrow with ⟨h2, _, _⟩ | ⟨b, h2, h3, _⟩
          · rw [h2] at e; cases e
          · rw [h2] at e
            cases e
            rw [Addr.add_lit, Nat.zero_add]
            exact (h3 z hz).sees
        clear hrow hT
        (repeat (first | (co_apply wpS_region; simp only [List.size_toArray, List.length_cons, List.length_nil, Nat.reduceAdd, Nat.zero_add, List.range, List.range.loop]) | (co_apply opsS_pure; (focus (exact rfl)); (focus (exact rfl)); (focus (intro w; go_simp <;> exact rfl)); (focus (intro w; simp [go_sem, execOp, Act.eval]; done)); try walk_nrm) | (co_apply opsS_unwanted; (focus (exact rfl)); (focus (exact rfl)); walk_nrm) | (co_apply opsS_nil; try dsimp only) | co_apply wpS_seq | co_apply wpS_skip | (co_apply wpS_cond; (focus (exact rfl)); simp only [if_true, if_false, reduceIte, Bool.false_eq_true])))
        (co_apply opsS_call; (focus (exact rfl)); (focus (exact rfl)); (focus (exact rfl)); (focus (exact Try.func10)); (focus (rfl)); (focus (rfl)); try simp only [List.map_toArray, List.map_cons, List.map_nil])
        · exact w_all (po := some p) (c := false) (items := xs) (so := sl) (cap := cl) rfl rfl b4 (fun r hr => by cases hr; exact ⟨hp4, cp3⟩) (by omega) (fun h => by obtain ⟨b, e⟩ := hsl h; exact ⟨_, e⟩) hxs4 (fun r hr _ => by
            cases hr
            rw [ap3]
            omega)
        rintro _ L5 ⟨A, m5, rfl, hAp, hAc, hAi, hAll⟩
        walk_nrm
        have hblk : ∀ {r : PoolG} sb z, sl = some sb → z < A.items.length → (r.b = p.b ∨ r.b = q.b) → r.b ≠ sb.block := fun {r} sb z hsb hz hr e => by
          rw [hAi] at hz
          obtain ⟨b, hb⟩ := hsl (by omega)
          rw [hb] at hsb
          cases hsb
          have := far4 b hb
          have e : r.b = b := e
          omega
        have b5 := hAll.boss
        have hp5 : PoolAt L5 m5 p := hAll.pool2 hp4 fun sb z h1 h2 => hblk sb z h1 h2 (.inl rfl)
        have hq5 : PoolAt L5 m5 q := hAll.pool2 hq4 fun sb z h1 h2 => hblk sb z h1 h2 (.inr rfl)
        have old5 : ∀ {a v}, Sees L a v → Sees L5 a v := fun {a v} h => hAll.sees (old4 h)
        have hxs5 : ∀ sb, sl = some sb → ∀ z, z < xs.length → Sees L5 (sb.add z) (.int .i64 (xs.getD z 0)) := fun sb e z hz => hAll.sees (hxs4 sb e z hz)
        have cp5 : m5.cl p.b = false := by rw [hAll.cl]; exact cp3
        have cq5 : m5.cl q.b = false := by rw [hAll.cl]; exact cq3
        have fp5 : m5.fin p.b = false := by rw [hAll.fin]; exact fp3
        have fq5 : m5.fin q.b = false := by rw [hAll.fin]; exact fq3
        have ap5 : m5.asks p.b = xs.length := by
          rw [hAll.asks]
          simp only [hAp, hAc, Option.map_some, and_self, if_true, hAi, ap3]
          omega
        have aq5 : m5.asks q.b = 0 := by
          rw [hAll.asks]
          simp only [hAp, hAc, Option.map_some, Option.some.injEq, true_and]
          rw [if_neg (by omega)]
          exact aq3
        have s5 : m5.ps = q :: p :: m1.ps := by rw [hAll.ps]; exact s3
        have o5 : ∀ b, b ≠ p.b → b ≠ q.b → m5.fin b = m1.fin b := fun b h h' => by rw [hAll.fin]; exact o3 b h h'
        have far5 : q.b < A.bo := hAll.far ⟨q.b, 1, none⟩ hq4.ci.acc
        obtain ⟨ys, hys⟩ : ∃ ys : List Int, ys = xs.map fun x => IntKind.i64.wrap (x + x) := ⟨_, rfl⟩
        have hyl : ys.length = xs.length := by rw [hys, List.length_map]
        have hyg : ∀ z, z < xs.length → ys.getD z 0 = IntKind.i64.wrap (xs.getD z 0 + xs.getD z 0) := fun z hz => by
          rw [hys]
          simp only [List.getD_eq_getElem?_getD, List.getElem?_map, List.getElem?_eq_getElem hz]
          rfl
        have ans5 : ∀ z, z < ys.length → Sees L5 ⟨A.bo, z, none⟩ (.int .i64 (ys.getD z 0)) := fun z hz => by
          rw [hyl] at hz
          have := hAll.ans z (by rw [hAi]; exact hz)
          unfold AllG.val at this
          rw [hAp, hAc] at this
          simp only [Bool.false_eq_true, if_false] at this
          rw [hAi, hpf] at this
          have e : ap 9 (xs.getD z 0) = IntKind.i64.wrap (xs.getD z 0 + xs.getD z 0) := hap _
          rw [e] at this
          rw [hyg z hz]
          exact this
        clear hAll hAp hAc hAi hp4 hq4 b4 old4 hxs4 cp3 cq3 fp3 fq3 ap3 aq3 s3 o3 hys hblk
        generalize A.bo = bo at ans5 far5 ⊢
        (repeat (first | (co_apply wpS_region; simp only [List.size_toArray, List.length_cons, List.length_nil, Nat.reduceAdd, Nat.zero_add, List.range, List.range.loop]) | (co_apply opsS_pure; (focus (exact rfl)); (focus (exact rfl)); (focus (intro w; go_simp <;> exact rfl)); (focus (intro w; simp [go_sem, execOp, Act.eval]; done)); try walk_nrm) | (co_apply opsS_unwanted; (focus (exact rfl)); (focus (exact rfl)); walk_nrm) | (co_apply opsS_nil; try dsimp only) | co_apply wpS_seq | co_apply wpS_skip | (co_apply wpS_cond; (focus (exact rfl)); simp only [if_true, if_false, reduceIte, Bool.false_eq_true])))
        (co_apply opsS_call; (focus (exact rfl)); (focus (exact rfl)); (focus (exact rfl)); (focus (exact Try.func10)); (focus (rfl)); (focus (rfl)); try simp only [List.map_toArray, List.map_cons, List.map_nil])
        · have hcall := w_all (X := ⟨Try.prog, ap, SelAt, CI, 10000, Q⟩) (po := some q) (c := false) (items := ys) (so := some ⟨bo, 0, none⟩) (cap := xs.length) rfl rfl b5 (fun r hr => by cases hr; exact ⟨hq5, cq5⟩) (by omega) (fun _ => ⟨_, rfl⟩) (fun sb e z hz => by cases e; rw [Addr.add_lit, Nat.zero_add]; exact ans5 z hz) (fun r hr _ => by
            cases hr
            rw [aq5]
            omega)
          rw [hyl] at hcall
          exact hcall
        rintro _ L6 ⟨A2, m6, rfl, hAp, hAc, hAi, hAll⟩
        walk_nrm
        have b6 := hAll.boss
        have hp6 : PoolAt L6 m6 p := hAll.pool2 hp5 fun sb z hsb hz => by
          cases hsb
          show p.b ≠ bo
          omega
        have hq6 : PoolAt L6 m6 q := hAll.pool2 hq5 fun sb z hsb hz => by
          cases hsb
          show q.b ≠ bo
          omega
        have old6 : ∀ {a v}, Sees L a v → Sees L6 a v := fun {a v} h => hAll.sees (old5 h)
        have hxs6 : ∀ sb, sl = some sb → ∀ z, z < xs.length → Sees L6 (sb.add z) (.int .i64 (xs.getD z 0)) := fun sb e z hz => hAll.sees (hxs5 sb e z hz)
        have cp6 : m6.cl p.b = false := by rw [hAll.cl]; exact cp5
        have cq6 : m6.cl q.b = false := by rw [hAll.cl]; exact cq5
        have fp6 : m6.fin p.b = false := by rw [hAll.fin]; exact fp5
        have fq6 : m6.fin q.b = false := by rw [hAll.fin]; exact fq5
        have ap6 : m6.asks p.b = xs.length := by
          rw [hAll.asks]
          simp only [hAp, hAc, Option.map_some, Option.some.injEq, true_and]
          rw [if_neg (by omega)]
          exact ap5
        have aq6 : m6.asks q.b = xs.length := by
          rw [hAll.asks]
          simp only [hAp, hAc, Option.map_some, and_self, if_true, hAi, aq5]
          omega
        have s6 : m6.ps = q :: p :: m1.ps := by rw [hAll.ps]; exact s5
        have o6 : ∀ b, b ≠ p.b → b ≠ q.b → m6.fin b = m1.fin b := fun b h h' => by rw [hAll.fin]; exact o5 b h h'
        have ans6 : ∀ z, z < xs.length → Sees L6 ⟨A2.bo, z, none⟩ (.int .i64 (xs.getD z 0)) := fun z hz => by
          have := hAll.ans z (by rw [hAi, hyl]; exact hz)
          unfold AllG.val at this
          rw [hAp, hAc] at this
          simp only [Bool.false_eq_true, if_false] at this
          rw [hAi, hqf, hyg z hz] at this
          have e : ap 14 (IntKind.i64.wrap (xs.getD z 0 + xs.getD z 0)) = xs.getD z 0 := (hbk _).trans (two_wrap (hwf _ (by rw [List.getD_eq_getElem?_getD, List.getElem?_eq_getElem hz]; exact List.getElem_mem hz))).2
          rw [e] at this
          exact this
        clear hAll hAp hAc hAi hp5 hq5 b5 old5 hxs5 cp5 cq5 fp5 fq5 ap5 aq5 s5 o5 ans5 hyg far5
        generalize A2.bo = bo2 at ans6 ⊢
        (repeat (first | (co_apply wpS_region; simp only [List.size_toArray, List.length_cons, List.length_nil, Nat.reduceAdd, Nat.zero_add, List.range, List.range.loop]) | (co_apply opsS_pure; (focus (exact rfl)); (focus (exact rfl)); (focus (intro w; go_simp <;> exact rfl)); (focus (intro w; simp [go_sem, execOp, Act.eval]; done)); try walk_nrm) | (co_apply opsS_unwanted; (focus (exact rfl)); (focus (exact rfl)); walk_nrm) | (co_apply opsS_nil; try dsimp only) | co_apply wpS_seq | co_apply wpS_skip | (co_apply wpS_cond; (focus (exact rfl)); simp only [if_true, if_false, reduceIte, Bool.false_eq_true])))
        (co_apply opsS_call; (focus (exact rfl)); (focus (exact rfl)); (focus (exact rfl)); (focus (exact Try.func12)); (focus (rfl)); (focus (rfl)); try simp only [List.map_toArray, List.map_cons, List.map_nil])
        · exact w_asked rfl b6 hp6.mem
        intro _ _ hE
        rw [hE.1, hE.2]
        clear hE
        rw [ap6]
        walk_nrm
        (repeat (first | (co_apply wpS_region; simp only [List.size_toArray, List.length_cons, List.length_nil, Nat.reduceAdd, Nat.zero_add, List.range, List.range.loop]) | (co_apply opsS_pure; (focus (exact rfl)); (focus (exact rfl)); (focus (intro w; go_simp <;> exact rfl)); (focus (intro w; simp [go_sem, execOp, Act.eval]; done)); try walk_nrm) | (co_apply opsS_unwanted; (focus (exact rfl)); (focus (exact rfl)); walk_nrm) | (co_apply opsS_nil; try dsimp only) | co_apply wpS_seq | co_apply wpS_skip | (co_apply wpS_cond; (focus (exact rfl)); simp only [if_true, if_false, reduceIte, Bool.false_eq_true])))
        (co_apply opsS_call; (focus (exact rfl)); (focus (exact rfl)); (focus (exact rfl)); (focus (exact Try.func12)); (focus (rfl)); (focus (rfl)); try simp only [List.map_toArray, List.map_cons, List.map_nil])
        · exact w_asked rfl b6 hq6.mem
        intro _ _ hE
        rw [hE.1, hE.2]
        clear hE
        rw [aq6]
        walk_nrm
        (repeat (first | (co_apply wpS_region; simp only [List.size_toArray, List.length_cons, List.length_nil, Nat.reduceAdd, Nat.zero_add, List.range, List.range.loop]) | (co_apply opsS_pure; (focus (exact rfl)); (focus (exact rfl)); (focus (intro w; go_simp <;> exact rfl)); (focus (intro w; simp [go_sem, execOp, Act.eval]; done)); try walk_nrm) | (co_apply opsS_unwanted; (focus (exact rfl)); (focus (exact rfl)); walk_nrm) | (co_apply opsS_nil; try dsimp only) | co_apply wpS_seq | co_apply wpS_skip | (co_apply wpS_cond; (focus (exact rfl)); simp only [if_true, if_false, reduceIte, Bool.false_eq_true])))
        co_apply wpS_block
        co_apply wpS_loop (fun a L' => a.defers = [] ∧ a.tmps.size = 77 ∧ a.tmps[7]? = some (.pointer (some ⟨p.b, 0, none⟩)) ∧ a.tmps[8]? = some (.pointer (some ⟨q.b, 0, none⟩)) ∧ a.tmps[9]? = some (.slice sl xs.length cl) ∧ a.tmps[11]? = some (.slice (some ⟨bo2, 0, none⟩) xs.length xs.length) ∧ (∃ j : Nat, a.tmps[12]? = some (.int .i64 j) ∧ j ≤ xs.length) ∧ L' = L6) (fun a _ => nleft 12 xs.length a) 3000 xs.length
        · exact ⟨rfl, rfl, rfl, rfl, rfl, rfl, ⟨0, rfl, by omega⟩, rfl⟩
        · rw [nleft_eq (z := 0) rfl]
          omega
        · rintro ⟨tmps, defers⟩ _ ⟨k1', k2', k7, k8, k9, k11, ⟨j, k12, hj⟩, rfl⟩
          dsimp only at k1' k2' k7 k8 k9 k11 k12
          subst k1'
          obtain ⟨g2, hlit, hf2⟩ := lit tmps 77 k2'
          have e7 := hf2 7 _ k7
          have e8 := hf2 8 _ k8
          have e9 := hf2 9 _ k9
          have e11 := hf2 11 _ k11
          have e12 := hf2 12 _ k12
          subst hlit
          clear k2' k7 k8 k9 k11 k12 hf2
          simp only [List.range, List.range.loop, List.map, e7, e8, e9, e11, e12]
          clear e7 e8 e9 e11 e12
          by_cases hlt : j < xs.length
          · obtain ⟨bl, hbl⟩ := hsl (by omega)
            have hxj := hxs6 _ hbl j hlt
            rw [Addr.add_lit, Nat.zero_add] at hxj
            co_apply wpS_more
            (repeat (first | (co_apply wpS_region; simp only [List.size_toArray, List.length_cons, List.length_nil, Nat.reduceAdd, Nat.zero_add, List.range, List.range.loop]) | (co_apply opsS_pure; (focus (exact rfl)); (focus (exact rfl)); (focus (intro w; go_simp <;> exact rfl)); (focus (intro w; simp [go_sem, execOp, Act.eval]; done)); try walk_nrm) | (co_apply opsS_nil; try dsimp only) | co_apply wpS_seq | co_apply wpS_skip | (co_apply wpS_cond; (focus (exact rfl)); simp only [if_true, if_false, reduceIte, Bool.false_eq_true])))
            co_apply wpS_block
            co_apply wpS_seq
            co_apply wpS_mono (w_two15 (X := ⟨Try.prog, ap, SelAt, CI, 10000, Q⟩) (bo := bo2) (so8 := bl) (n := xs.length) (cp := cl) (x := xs.getD j 0) (j := j) rfl b6.fit hlt rfl (by rw [hbl]; rfl) rfl rfl (ans6 j hlt) hxj)
            rintro _ ⟨tmps, defers⟩ L7 ⟨rfl, k1', k2', k3', k4', rfl⟩
            dsimp only at k1' k2' k3' k4'
            subst k1'
            have j7 : tmps[7]? = some (.pointer (some ⟨p.b, 0, none⟩)) := (k3' 7 (by decide)).trans rfl
            have j8 : tmps[8]? = some (.pointer (some ⟨q.b, 0, none⟩)) := (k3' 8 (by decide)).trans rfl
            have j9 : tmps[9]? = some (.slice sl xs.length cl) := (k3' 9 (by decide)).trans rfl
            have j11 : tmps[11]? = some (.slice (some ⟨bo2, 0, none⟩) xs.length xs.length) := (k3' 11 (by decide)).trans rfl
            have j12 : tmps[12]? = some (.int .i64 j) := (k3' 12 (by decide)).trans rfl
            clear k3'
            obtain ⟨f7, hlit, hf7⟩ := lit tmps 77 k2'
            have e7 := hf7 7 _ j7
            have e8 := hf7 8 _ j8
            have e9 := hf7 9 _ j9
            have e11 := hf7 11 _ j11
            have e12 := hf7 12 _ j12
            have e70 := hf7 70 _ k4'
            subst hlit
            clear k2' k4' j7 j8 j9 j11 j12 hf7
            simp only [List.range, List.range.loop, List.map, e7, e8, e9, e11, e12, e70]
            clear e7 e8 e9 e11 e12 e70
            (repeat (first | (co_apply wpS_region; simp only [List.size_toArray, List.length_cons, List.length_nil, Nat.reduceAdd, Nat.zero_add, List.range, List.range.loop]) | (co_apply opsS_pure; (focus (exact rfl)); (focus (exact rfl)); (focus (intro w; go_simp <;> exact rfl)); (focus (intro w; simp [go_sem, execOp, Act.eval]; done)); try walk_nrm) | (co_apply opsS_nil; try dsimp only) | co_apply wpS_seq | co_apply wpS_skip | (co_apply wpS_cond; (focus (exact rfl)); simp only [if_true, if_false, reduceIte, Bool.false_eq_true])))
            rw [wrap_i64 ((j : Int) + 1) (by omega) (by omega)]
            refine ⟨⟨rfl, rfl, rfl, rfl, rfl, rfl, ⟨j + 1, rfl, by omega⟩, rfl⟩, ?_⟩
            rw [nleft_eq (z := j + 1) rfl, nleft_eq (z := j) rfl]
            omega
            decide
          · have hje : j = xs.length := by omega
            subst hje
            co_apply wpS_more
            co_apply wpS_seq (n₂ := 0)
            (repeat (first | (co_apply wpS_region; simp only [List.size_toArray, List.length_cons, List.length_nil, Nat.reduceAdd, Nat.zero_add, List.range, List.range.loop]) | (co_apply opsS_pure; (focus (exact rfl)); (focus (exact rfl)); (focus (intro w; go_simp <;> exact rfl)); (focus (intro w; simp [go_sem, execOp, Act.eval]; done)); try walk_nrm) | (co_apply opsS_nil; try dsimp only) | co_apply wpS_seq | co_apply wpS_skip | (co_apply wpS_cond; (focus (exact rfl)); simp only [if_true, if_false, reduceIte, Bool.false_eq_true])))
            co_apply wpS_exit
            try dsimp only
            try simp only [if_true, reduceIte]
            (repeat (first | (co_apply wpS_region; simp only [List.size_toArray, List.length_cons, List.length_nil, Nat.reduceAdd, Nat.zero_add, List.range, List.range.loop]) | (co_apply opsS_pure; (focus (exact rfl)); (focus (exact rfl)); (focus (intro w; go_simp <;> exact rfl)); (focus (intro w; simp [go_sem, execOp, Act.eval]; done)); try walk_nrm) | (co_apply opsS_nil; try dsimp only) | co_apply wpS_seq | co_apply wpS_skip | (co_apply wpS_cond; (focus (exact rfl)); simp only [if_true, if_false, reduceIte, Bool.false_eq_true])))
            (co_apply opsS_call; (focus (exact rfl)); (focus (exact rfl)); (focus (exact rfl)); (focus (exact Try.func13)); (focus (rfl)); (focus (rfl)); try simp only [List.map_toArray, List.map_cons, List.map_nil])
            · exact w_closeA rfl b6 hp6 cp6 fp6
            rintro _ L7 ⟨rfl, m7, b7, k7, hp7, x7⟩
            walk_nrm
            have hq7 : PoolAt L7 m7 q := hq6.closed2 k7 (by omega) x7
            have cq7 : m7.cl q.b = false := by rw [k7.cl]; dsimp only; rw [if_neg (by omega)]; exact cq6
            have fq7 : m7.fin q.b = false := by rw [k7.fin]; dsimp only; rw [if_neg (by omega)]; exact fq6
            have old7 : ∀ {a v}, Sees L a v → Sees L7 a v := fun {a v} h => x7.sees (fun e => by have := far0 h; rw [e] at this; exact Nat.lt_irrefl _ this) (fun e => by have := far0 h; rw [e] at this; exact Nat.lt_irrefl _ this) (old6 h)
            (repeat (first | (co_apply wpS_region; simp only [List.size_toArray, List.length_cons, List.length_nil, Nat.reduceAdd, Nat.zero_add, List.range, List.range.loop]) | (co_apply opsS_pure; (focus (exact rfl)); (focus (exact rfl)); (focus (intro w; go_simp <;> exact rfl)); (focus (intro w; simp [go_sem, execOp, Act.eval]; done)); try walk_nrm) | (co_apply opsS_unwanted; (focus (exact rfl)); (focus (exact rfl)); walk_nrm) | (co_apply opsS_nil; try dsimp only) | co_apply wpS_seq | co_apply wpS_skip | (co_apply wpS_cond; (focus (exact rfl)); simp only [if_true, if_false, reduceIte, Bool.false_eq_true])))
            (co_apply opsS_call; (focus (exact rfl)); (focus (exact rfl)); (focus (exact rfl)); (focus (exact Try.func13)); (focus (rfl)); (focus (rfl)); try simp only [List.map_toArray, List.map_cons, List.map_nil])
            · exact w_closeA rfl b7 hq7 cq7 fq7
            rintro _ L8 ⟨rfl, m8, b8, k8, hp8, x8⟩
            walk_nrm
            (repeat (first | (co_apply wpS_region; simp only [List.size_toArray, List.length_cons, List.length_nil, Nat.reduceAdd, Nat.zero_add, List.range, List.range.loop]) | (co_apply opsS_pure; (focus (exact rfl)); (focus (exact rfl)); (focus (intro w; go_simp <;> exact rfl)); (focus (intro w; simp [go_sem, execOp, Act.eval]; done)); try walk_nrm) | (co_apply opsS_unwanted; (focus (exact rfl)); (focus (exact rfl)); walk_nrm) | (co_apply opsS_nil; try dsimp only) | co_apply wpS_seq | co_apply wpS_skip | (co_apply wpS_cond; (focus (exact rfl)); simp only [if_true, if_false, reduceIte, Bool.false_eq_true])))
            have old8 : ∀ {a v}, Sees L a v → Sees L8 a v := fun {a v} h => x8.sees (fun e => by have := far0 h; rw [e] at this; exact absurd this (show ¬ q.b < p.b by omega)) (fun e => by have := far0 h; rw [e] at this; exact absurd this (show ¬ q.b < p.b by omega)) (old7 h)
            have f8 : AllFin m8 := fun e he => by
              rw [k8.ps, k7.ps, s6] at he
              rw [k8.fin]
              dsimp only
              by_cases h : e.b = q.b
              · rw [if_pos h]
              · rw [if_neg h, k7.fin]
                dsimp only
                by_cases h' : e.b = p.b
                · rw [if_pos h']
                · rw [if_neg h', o6 _ h' h]
                  rcases List.mem_cons.1 he with rfl | he
                  · exact absurd rfl h
                  · rcases List.mem_cons.1 he with rfl | he
                    · exact absurd rfl h'
                    · exact f1 e he
            co_apply wpS_ret
            exact ⟨_, fun w => ⟨results_tmp rfl _ _ _, events_results_tmp rfl _ _⟩, rfl, rfl, m8, b8, f8, fun a v h => old8 h⟩
            decide
        decide
  · have d1 : decide ((2000 : Int) < (xs.length : Int)) = true := decide_eq_true (by omega)
    apply Exists.intro
    refine ⟨_, rfl, ?_⟩
    simp only [Try.ntmps6, List.size_toArray, List.length_cons, List.length_nil, Nat.reduceAdd, Nat.reduceSub, Array.replicate, List.replicate, List.append_toArray, List.cons_append, List.nil_append, List.append_eq]
    (co_apply wpS_seq)
    (repeat (first | (co_apply wpS_region; simp only [List.size_toArray, List.length_cons, List.length_nil, Nat.reduceAdd, Nat.zero_add, List.range, List.range.loop]) | (co_apply opsS_pure; (focus (exact rfl)); (focus (exact rfl)); (focus (intro w; go_simp <;> exact rfl)); (focus (intro w; simp [go_sem, execOp, Act.eval]; done)); try walk_nrm) | (co_apply opsS_nil; try dsimp only) | co_apply wpS_skip | (co_apply wpS_cond; (focus (exact rfl)); simp only [if_true, if_false, reduceIte, Bool.false_eq_true])))
    co_apply wpS_seq (n₂ := 0)
    (repeat (first | (co_apply wpS_region; simp only [List.size_toArray, List.length_cons, List.length_nil, Nat.reduceAdd, Nat.zero_add, List.range, List.range.loop]) | (co_apply opsS_pure; (focus (exact rfl)); (focus (exact rfl)); (focus (intro w; go_simp <;> exact rfl)); (focus (intro w; simp [go_sem, execOp, Act.eval]; done)); try walk_nrm) | (co_apply opsS_nil; try dsimp only) | co_apply wpS_seq | co_apply wpS_skip | (co_apply wpS_cond; (focus (exact rfl)); simp only [if_true, if_false, reduceIte, Bool.false_eq_true])))
    (co_apply opsS_call; (focus (exact rfl)); (focus (exact rfl)); (focus (exact rfl)); (focus (exact Try.func7)); (focus (rfl)); (focus (rfl)); try simp only [List.map_toArray, List.map_cons, List.map_nil])
    · exact hFF hb hfin
    rintro _ L1 ⟨rfl, m1, b1, x1, f1⟩
    walk_nrm
    (co_apply opsS_pure; (focus (exact rfl)); (focus (exact rfl)); (focus (intro w; go_simp <;> exact rfl)); (focus (intro w; simp [go_sem, execOp, Act.eval]; done)); try walk_nrm)
    (co_apply opsS_pure; (focus (exact rfl)); (focus (exact rfl)); (focus (intro w; go_simp <;> exact rfl)); (focus (intro w; simp [go_sem, execOp, Act.eval]; done)); try walk_nrm)
    (co_apply opsS_pure; (focus (exact rfl)); (focus (exact rfl)); (focus (intro w; go_simp <;> exact rfl)); (focus (intro w; simp [go_sem, execOp, Act.eval]; done)); try walk_nrm)
    (co_apply opsS_pure; (focus (exact rfl)); (focus (exact rfl)); (focus (intro w; go_simp <;> exact rfl)); (focus (intro w; simp [go_sem, execOp, Act.eval]; done)); try walk_nrm)
    (co_apply opsS_pure (v := (.bool true)); (focus (exact rfl)); (focus (exact rfl)); (focus (intro w; go_simp <;> first | done | exact rfl | assumption | omega | ((simp only [IntKind.wrap_u64, IntKind.wrap_u32, IntKind.wrap_i32]); omega) | decide)); (focus (intro w; simp [go_sem, execOp, Act.eval, *]; done)); try walk_nrm)
    (repeat (first | (co_apply wpS_region; simp only [List.size_toArray, List.length_cons, List.length_nil, Nat.reduceAdd, Nat.zero_add, List.range, List.range.loop]) | (co_apply opsS_pure; (focus (exact rfl)); (focus (exact rfl)); (focus (intro w; go_simp <;> exact rfl)); (focus (intro w; simp [go_sem, execOp, Act.eval]; done)); try walk_nrm) | (co_apply opsS_unwanted; (focus (exact rfl)); (focus (exact rfl)); walk_nrm) | (co_apply opsS_nil; try dsimp only) | co_apply wpS_seq | co_apply wpS_skip | (co_apply wpS_cond; (focus (exact rfl)); simp only [if_true, if_false, reduceIte, Bool.false_eq_true])))
    (co_apply opsS_call; (focus (exact rfl)); (focus (exact rfl)); (focus (exact rfl)); (focus (exact Try.func7)); (focus (rfl)); (focus (rfl)); try simp only [List.map_toArray, List.map_cons, List.map_nil])
    · exact hFF b1 f1
    rintro _ L2 ⟨rfl, m2, b2, x2, f2⟩
    walk_nrm
    (repeat (first | (co_apply wpS_region; simp only [List.size_toArray, List.length_cons, List.length_nil, Nat.reduceAdd, Nat.zero_add, List.range, List.range.loop]) | (co_apply opsS_pure; (focus (exact rfl)); (focus (exact rfl)); (focus (intro w; go_simp <;> exact rfl)); (focus (intro w; simp [go_sem, execOp, Act.eval]; done)); try walk_nrm) | (co_apply opsS_unwanted; (focus (exact rfl)); (focus (exact rfl)); walk_nrm) | (co_apply opsS_nil; try dsimp only) | co_apply wpS_seq | co_apply wpS_skip | (co_apply wpS_cond; (focus (exact rfl)); simp only [if_true, if_false, reduceIte, Bool.false_eq_true])))
    co_apply wpS_ret
    exact ⟨_, fun w => ⟨results_tmp rfl _ _ _, events_results_tmp rfl _ _⟩, rfl, rfl, m2, b2, f2, fun a v h => x2.sees (x1.sees h)⟩
end Go.Proofs.Ytaceedenkmccdaa
