/- Pools: the law of the answers. -/
import Derived.Test.YtaceedenkmccdaaSm
import Derived.Test.YtaceedenkmccdaaSo
import Derived.Test.YtaceedenkmccdaaPw
import Derived.Laws.Slices
namespace Go.Proofs.Ytaceedenkmccdaa
open Go Go.Conc Go.ConcN
set_option linter.unusedSimpArgs false
set_option linter.unusedVariables false
variable {X : Cx} {L L' : Lo} {Post : Value → Lo → Prop}
set_option maxRecDepth 100000
set_option maxHeartbeats 8000000
theorem mkbuilt0 {P : Program} {t e : TypeId} (ht : P.underlying t = some (.slice e)) (hi : (P.info? e).map (fun i => i.size) = some 1) (w : World) : (Instr.buildSlice t 0 #[]).run P w = .ok (.slice (some ⟨w.heap.size, 0, none⟩) 0 0) (w.alloc (.cells #[] e)) := by
  obtain ⟨i, hi, hi2⟩ := Option.map_eq_some_iff.1 hi
  have h0 : (Array.map (fun _ : Nat => (default : Value)) (Array.range 0)) = #[] := Array.eq_empty_of_size_eq_zero (by simp)
  simp [Instr.buildSlice, run_underlying ht, sizeOf, typeInfo, hi, hi2, newRow, Instr.fill, h0]
theorem run_cut {P : Program} {t e : TypeId} (ht : P.underlying t = some (.slice e)) (hi : (P.info? e).map (fun i => i.size) = some 1) (b n h c : Nat) (hle : h ≤ c) (w : World) : (Instr.sliceAt t (.slice (some ⟨b, 0, none⟩) n c) none (some (.int .i64 (h : Int))) none).run P w = .ok (.slice (some ⟨b, 0, none⟩) h c) w := by
  obtain ⟨i, hi, hi2⟩ := Option.map_eq_some_iff.1 hi
  have h0 : ((h : Nat) : Int) ≤ ((c : Nat) : Int) := by omega
  simp [Instr.sliceAt, run_underlying ht, Instr.slice, Instr.sliceBounds, run_sliceBound, asIntOf, h0, sizeOf, typeInfo, hi, hi2, hle, Addr.add_lit]
theorem ev_cut {P : Program} {t e : TypeId} (ht : P.underlying t = some (.slice e)) (hi : (P.info? e).map (fun i => i.size) = some 1) (b n h c : Nat) (hle : h ≤ c) (w : World) (es : Array Event) : (Instr.sliceAt t (.slice (some ⟨b, 0, none⟩) n c) none (some (.int .i64 (h : Int))) none).events P w es = es := by
  obtain ⟨i, hi, hi2⟩ := Option.map_eq_some_iff.1 hi
  have h0 : ((h : Nat) : Int) ≤ ((c : Nat) : Int) := by omega
  simp [Instr.sliceAt, run_underlying ht, Instr.slice, Instr.sliceBounds, Instr.sliceBound, run_sliceBound, asIntOf, h0, sizeOf, typeInfo, hi, hi2, hle, Addr.add_lit]
theorem App22.boss {so so' : Option Addr} {n : Nat} {m : MainR} (q : App22 L L' so so' n) (hb : Boss L m) : Boss L' m :=
  ⟨q.same.1.trans hb.role, q.same.2.1.trans hb.q, q.same.2.2.1.trans hb.h, q.same.2.2.2.trans hb.d, q.vm hb.vm, hb.reg, hb.pnd, hb.al, hb.dn, hb.nw, hb.clb⟩
theorem Row22.mono {so : Option Addr} {cap : Nat} {xs : List Int} (h : Row22 L so cap xs) (g : ∀ {a v}, Has L a v → Has L' a v) : Row22 L' so cap xs :=
  ⟨h.fit, h.row.imp id fun ⟨b, e, h1, h2⟩ => ⟨b, e, fun z hz => g (h1 z hz), fun z hz hc => let ⟨u, hu⟩ := h2 z hz hc; ⟨u, g hu⟩⟩⟩
theorem w_answers [Inhabited Base] (hX : Has22 X) {m : MainR} (hb : Boss L m) (hfin : AllFin m) {k one : Int} {xs : List Int} {so : Option Addr} {cx : Nat} (hn : xs.length * 8 ≤ 140737488355328) (hso : xs.length ≠ 0 → ∃ sb, so = some sb) (hit : ∀ sb, so = some sb → ∀ z, z < xs.length → Sees L (sb.add z) (.int .i64 (xs.getD z 0))) :
    ∃ N c, Try.f3.body = some c ∧ wpS X 0 3 c N (rootS X Try.f3 fun r L' => r = .bool true ∧ ∃ m', Boss L' m' ∧ AllFin m' ∧ ∀ a v, Sees L a v → Sees L' a v) { tmps := #[.int .i64 k, .slice so xs.length cx, .int .i64 one] ++ Array.replicate (Try.f3.ntmps - 3) undef, defers := [] } L := by
  obtain ⟨hP, hCW, hap, hbk, hwk⟩ := hX
  obtain ⟨NF, hFF⟩ := w_fixed hP hCW hap hwk
  have hw := fun {m : MainR} {L : Lo} (hb : Boss L m) => w_new (X := X) (L := L) (m := m) (fn := 9) (k := k) hP hwk hb (.inl rfl)
  (obtain ⟨P, ap, SelAt, CI, CW, Q⟩ := X; dsimp only at hP; subst hP)
  dsimp only at hCW
  subst hCW
  by_cases h1 : xs.length ≤ 5000
  · have d1 : decide ((5000 : Int) < (xs.length : Int)) = false := decide_eq_false (by omega)
    apply Exists.intro
    refine ⟨_, rfl, ?_⟩
    simp only [Try.ntmps3, List.size_toArray, List.length_cons, List.length_nil, Nat.reduceAdd, Nat.reduceSub, Array.replicate, List.replicate, List.append_toArray, List.cons_append, List.nil_append, List.append_eq]
    (repeat (first | (co_apply wpS_region; simp only [List.size_toArray, List.length_cons, List.length_nil, Nat.reduceAdd, Nat.zero_add, List.range, List.range.loop]) | (co_apply opsS_pure; (focus (exact rfl)); (focus (exact rfl)); (focus (intro w; go_simp <;> exact rfl)); (focus (intro w; simp [go_sem, execOp, Act.eval]; done)); try walk_nrm) | (co_apply opsS_nil; try dsimp only) | co_apply wpS_seq | co_apply wpS_skip | (co_apply wpS_cond; (focus (exact rfl)); simp only [if_true, if_false, reduceIte, Bool.false_eq_true])))
    (co_apply opsS_call; (focus (exact rfl)); (focus (exact rfl)); (focus (exact rfl)); (focus (exact Try.func7)); (focus (rfl)); (focus (rfl)); try simp only [List.map_toArray, List.map_cons, List.map_nil])
    · exact hFF hb hfin
    rintro _ L1 ⟨rfl, m1, b1, x1, f1⟩
    walk_nrm
    (co_apply opsS_pure; (focus (exact rfl)); (focus (exact rfl)); (focus (intro w; go_simp <;> exact rfl)); (focus (intro w; simp [go_sem, execOp, Act.eval]; done)); try walk_nrm)
    (co_apply opsS_pure; (focus (exact rfl)); (focus (exact rfl)); (focus (intro w; go_simp <;> exact rfl)); (focus (intro w; simp [go_sem, execOp, Act.eval]; done)); try walk_nrm)
    (co_apply opsS_pure; (focus (exact rfl)); (focus (exact rfl)); (focus (intro w; go_simp <;> exact rfl)); (focus (intro w; simp [go_sem, execOp, Act.eval]; done)); try walk_nrm)
    (co_apply opsS_pure; (focus (exact rfl)); (focus (exact rfl)); (focus (intro w; go_simp <;> exact rfl)); (focus (intro w; simp [go_sem, execOp, Act.eval]; done)); try walk_nrm)
    (co_apply opsS_pure (v := (.bool false)); (focus (exact rfl)); (focus (exact rfl)); (focus (intro w; go_simp <;> first | done | exact rfl | assumption | omega | ((simp only [IntKind.wrap_u64, IntKind.wrap_u32, IntKind.wrap_i32]); omega) | decide)); (focus (intro w; simp [go_sem, execOp, Act.eval, *]; done)); try walk_nrm)
    (repeat (first | (co_apply wpS_region; simp only [List.size_toArray, List.length_cons, List.length_nil, Nat.reduceAdd, Nat.zero_add, List.range, List.range.loop]) | (co_apply opsS_pure; (focus (exact rfl)); (focus (exact rfl)); (focus (intro w; go_simp <;> exact rfl)); (focus (intro w; simp [go_sem, execOp, Act.eval]; done)); try walk_nrm) | (co_apply opsS_nil; try dsimp only) | co_apply wpS_seq | co_apply wpS_skip | (co_apply wpS_cond; (focus (exact rfl)); simp only [if_true, if_false, reduceIte, Bool.false_eq_true])))
    (co_apply opsS_call; (focus (exact rfl)); (focus (exact rfl)); (focus (exact rfl)); (focus (exact Try.func8)); (focus (rfl)); (focus (rfl)); try simp only [List.map_toArray, List.map_cons, List.map_nil])
    · exact hw b1
    rintro _ L2 ⟨p, m2, rfl, hpf, hN⟩
    walk_nrm
    (repeat (first | (co_apply wpS_region; simp only [List.size_toArray, List.length_cons, List.length_nil, Nat.reduceAdd, Nat.zero_add, List.range, List.range.loop]) | (co_apply opsS_pure; (focus (exact rfl)); (focus (exact rfl)); (focus (intro w; go_simp <;> exact rfl)); (focus (intro w; simp [go_sem, execOp, Act.eval]; done)); try walk_nrm) | (co_apply opsS_nil; try dsimp only) | co_apply wpS_seq | co_apply wpS_skip | (co_apply wpS_cond; (focus (exact rfl)); simp only [if_true, if_false, reduceIte, Bool.false_eq_true])))
    (co_apply opsS_pure (v := .bool false); (focus (exact rfl)); (focus (exact rfl)); (focus (intro w; go_simp <;> exact rfl)); (focus (intro w; simp [go_sem, execOp, Act.eval, ev_eql_ptr_nil Try.underlying24])); try walk_nrm)
    (repeat (first | (co_apply wpS_region; simp only [List.size_toArray, List.length_cons, List.length_nil, Nat.reduceAdd, Nat.zero_add, List.range, List.range.loop]) | (co_apply opsS_pure; (focus (exact rfl)); (focus (exact rfl)); (focus (intro w; go_simp <;> exact rfl)); (focus (intro w; simp [go_sem, execOp, Act.eval]; done)); try walk_nrm) | (co_apply opsS_nil; try dsimp only) | co_apply wpS_seq | co_apply wpS_skip | (co_apply wpS_cond; (focus (exact rfl)); simp only [if_true, if_false, reduceIte, Bool.false_eq_true])))
    have hp2 := hN.pool
    obtain ⟨jj, hpe⟩ := hN.pe
    have far2 := hN.far
    have x2 := hN.ext
    have b2 := hN.boss
    clear hN
    have hb0 := fun w => mkbuilt0 (P := Try.prog) (t := 22) (e := 2) Try.underlying22 (by kernel_rfl) w
    co_apply opsS_add (cs := #[]) (r := fun bk => .slice (some ⟨bk, 0, none⟩) 0 0) (ty := 2) (fun _ => False)
    · rfl
    · rfl
    · exact b2.fit.live
    · exact b2.vm
    · intro w hS; simp [go_sem, execOp, Act.eval, hb0]
    · intro w hS; simp [listed, go_sem, execOp, Act.eval, ev_buildSlice, seen_none]
    intro bs hbs
    walk_nrm
    have g3 : Grows L2 (L2.adds bs #[] fun _ => False) := Grows.adds hbs
    have b3 : Boss (L2.adds bs #[] fun _ => False) m2 := ⟨b2.role, b2.q, b2.h, b2.d, g3.vm b2.vm, b2.reg, b2.pnd, b2.al, b2.dn, b2.nw, b2.clb⟩
    have n3 : (L2.adds bs #[] fun _ => False).M ⟨bs, 0, none⟩ := .inr ⟨0, .inr rfl, rfl⟩
    generalize (L2.adds bs #[] fun _ => False) = L3 at b3 n3 g3 ⊢
    (co_apply opsS_pure; (focus (exact rfl)); (focus (exact rfl)); (focus (intro w; go_simp <;> exact rfl)); (focus (intro w; simp [go_sem, execOp, Act.eval]; done)); try walk_nrm)
    co_apply opsS_appN rfl (sa := so) (ys := xs) (c := cx) n3
    · rfl
    · rfl
    · rfl
    · rfl
    · rfl
    · exact hso
    · exact fun sb hsb z hz => g3.sees (x2.sees (x1.sees (hit sb hsb z hz)))
    · omega
    · exact b3.fit.live
    · exact b3.vm
    intro so4 cp4 L4 r4 q4
    walk_nrm
    have b4 := q4.boss b3
    have hb7 := fun w => mkbuilt (P := Try.prog) (t := 22) (e := 2) (n := 1) (parts := #[(0, .int .i64 77)]) (cells := #[.int .i64 77]) (z := .int .i64 0) Try.underlying22 (by kernel_rfl) (by decide) (by kernel_rfl) w
    co_apply opsS_add (cs := #[.int .i64 77]) (r := fun bk => .slice (some ⟨bk, 0, none⟩) 1 1) (ty := 2) (fun _ => False)
    · rfl
    · rfl
    · exact b4.fit.live
    · exact b4.vm
    · intro w hS; simp [go_sem, execOp, Act.eval, hb7]
    · intro w hS; simp [listed, go_sem, execOp, Act.eval, ev_buildSlice, seen_none]
    intro bt hbt
    walk_nrm
    have lt0 : p.b < bs := hbs ⟨p.b, 1, none⟩ hp2.ci.acc
    have fr4 : ∀ b, so4 = some ⟨b, 0, none⟩ → p.b < b := fun b e => by
      rcases q4.far with h | ⟨bk, h, hk⟩
      · rw [h] at e; cases e; exact lt0
      · rw [h] at e
        cases e
        have : bs < b := hk ⟨bs, 0, none⟩ (.inl n3)
        omega
    have lt1 : p.b < bt := hbt ⟨p.b, 1, none⟩ (q4.acc _ (g3.acc _ hp2.ci.acc))
    have g5 : Grows L4 (L4.adds bt #[.int .i64 77] fun _ => False) := Grows.adds hbt
    have b5 : Boss (L4.adds bt #[.int .i64 77] fun _ => False) m2 := ⟨b4.role, b4.q, b4.h, b4.d, g5.vm b4.vm, b4.reg, b4.pnd, b4.al, b4.dn, b4.nw, b4.clb⟩
    have r5 : Row22 (L4.adds bt #[.int .i64 77] fun _ => False) so4 cp4 xs := r4.mono fun h => g5.has h
    have v5 : Sees (L4.adds bt #[.int .i64 77] fun _ => False) ((⟨bt, 0, none⟩ : Addr).add 0) (.int .i64 77) := (has_new (bk := bt) (k := 0) rfl (fun x => x) fun a ha => hbt a (.inl (b4.vm a ha))).sees
    generalize (L4.adds bt #[.int .i64 77] fun _ => False) = L5 at g5 b5 r5 v5 ⊢
    co_apply opsS_app1 rfl (c := 1) (sa := ⟨bt, 0, none⟩) (v := 77) r5
    · rfl
    · rfl
    · rfl
    · rfl
    · rfl
    · exact v5
    · omega
    · exact b5.fit.live
    · exact b5.vm
    intro so6 cp6 L6 r6 q6
    walk_nrm
    have b6 := q6.boss b5
    have fr6 : ∀ b, so6 = some ⟨b, 0, none⟩ → p.b < b := fun b e => by
      rcases q6.far with h | ⟨bk, h, hk⟩
      · rw [h] at e; exact fr4 b e
      · rw [h] at e
        cases e
        exact hk ⟨p.b, 1, none⟩ (g5.acc _ (q4.acc _ (g3.acc _ hp2.ci.acc)))
    have up : ∀ {a v}, a.block ≤ p.b → Sees L2 a v → Sees L6 a v := fun {a v} h hs => q6.sees (fun b e x => by have := fr4 b e; rw [x] at h; exact absurd h (by show ¬ b ≤ p.b; omega)) (g5.sees (q4.sees (fun b e x => by cases e; rw [x] at h; exact absurd h (by show ¬ bs ≤ p.b; omega)) (g3.sees hs)))
    have uph : ∀ {a v}, a.block ≤ p.b → Has L2 a v → Has L6 a v := fun {a v} h hs => q6.has (fun b e x => by have := fr4 b e; rw [x] at h; exact absurd h (by show ¬ b ≤ p.b; omega)) (g5.has (q4.has (fun b e x => by cases e; rw [x] at h; exact absurd h (by show ¬ bs ≤ p.b; omega)) (g3.has hs)))
    have hp6 : PoolAt L6 m2 p := ⟨hp2.mem, hp2.rd, up (Nat.le_refl _) hp2.ci, up (Nat.le_refl _) hp2.ce, uph (Nat.le_refl _) hp2.once, uph (Nat.le_refl _) hp2.mu⟩
    have far6 : ∀ {a v}, Sees L a v → a.block < p.b := fun {a v} h => far2 a (x1.sees h).acc
    have x6 : ∀ {a v}, Sees L a v → Sees L6 a v := fun {a v} h => up (Nat.le_of_lt (far6 h)) (x2.sees (x1.sees h))
    clear up uph q6 q4 g5 g3 r5 r4 v5 b5 b4 b3 b2 hp2 fr4 x2 x1 far2 n3
    obtain ⟨so8, hso6, hxs6, h77⟩ : ∃ b, so6 = some ⟨b, 0, none⟩ ∧ (∀ z, z < xs.length → Sees L6 ⟨b, z, none⟩ (.int .i64 (xs.getD z 0))) ∧ Sees L6 ⟨b, xs.length, none⟩ (.int .i64 77) := by
      rcases r6.row with ⟨_, h, _⟩ | ⟨b, h, h2, _⟩
      · simp at h
      · refine ⟨b, h, fun z hz => ?_, ?_⟩
        · have := (h2 z (by simp; omega)).sees
          have e : (xs ++ [(77 : Int)]).getD z (0 : Int) = xs.getD z 0 := by simp only [List.getD_eq_getElem?_getD]; rw [List.getElem?_append_left hz]
          rw [e] at this
          exact this
        · have := (h2 xs.length (by simp)).sees
          have e : (xs ++ [(77 : Int)]).getD xs.length (0 : Int) = 77 := by simp [List.getD_eq_getElem?_getD]
          rw [e] at this
          exact this
    have fit6 : xs.length + 1 ≤ cp6 := by have := r6.fit; simpa using this
    subst hso6
    have fr8 : p.b < so8 := fr6 so8 rfl
    clear r6 fr6
    (co_apply opsS_pure; (focus (exact rfl)); (focus (exact rfl)); (focus (intro w; go_simp <;> exact rfl)); (focus (intro w; simp [go_sem, execOp, Act.eval]; done)); try walk_nrm)
    (co_apply opsS_nil; try dsimp only)
    (repeat (first | (co_apply opsS_nil; try dsimp only) | co_apply wpS_seq | (co_apply wpS_region; simp only [List.size_toArray, List.length_cons, List.length_nil, Nat.reduceAdd, Nat.zero_add, List.range, List.range.loop]) | co_apply wpS_skip | (co_apply wpS_cond; (focus (exact rfl)); simp only [if_true, if_false, reduceIte, Bool.false_eq_true])))
    (co_apply opsS_pure; (focus (exact rfl)); (focus (exact rfl)); (focus (intro w; go_simp <;> exact rfl)); (focus (intro w; simp [go_sem, execOp, Act.eval]; done)); try walk_nrm)
    (co_apply opsS_pure; (focus (exact rfl)); (focus (exact rfl)); (focus (intro w; go_simp <;> exact rfl)); (focus (intro w; simp [go_sem, execOp, Act.eval]; done)); try walk_nrm)
    (co_apply opsS_pure; (focus (exact rfl)); (focus (exact rfl)); (focus (intro w; go_simp <;> exact rfl)); (focus (intro w; simp [go_sem, execOp, Act.eval]; done)); try walk_nrm)
    (co_apply opsS_pure; (focus (exact rfl)); (focus (exact rfl)); (focus (intro w; go_simp <;> exact rfl)); (focus (intro w; simp [go_sem, execOp, Act.eval]; done)); try walk_nrm)
    have hcut := fun w => run_cut (P := Try.prog) (t := 22) (e := 2) Try.underlying22 (by kernel_rfl) so8 (xs.length + 1) xs.length cp6 (by omega) w
    have hcue := fun w es => ev_cut (P := Try.prog) (t := 22) (e := 2) Try.underlying22 (by kernel_rfl) so8 (xs.length + 1) xs.length cp6 (by omega) w es
    co_apply opsS_pure (v := .slice (some ⟨so8, 0, none⟩) xs.length cp6)
    · rfl
    · rfl
    · intro w
      simp [go_sem, execOp, Act.eval, hcut]
    · intro w
      simp [go_sem, execOp, Act.eval, hcue]
    clear hcut hcue
    walk_nrm
    (co_apply opsS_call; (focus (exact rfl)); (focus (exact rfl)); (focus (exact rfl)); (focus (exact Try.func10)); (focus (rfl)); (focus (rfl)); try simp only [List.map_toArray, List.map_cons, List.map_nil])
    · exact w_all (po := some p) (c := false) (items := xs) (so := some ⟨so8, 0, none⟩) (cap := cp6) rfl rfl b6 (fun q hq => by cases hq; exact ⟨hp6, hpe.cl⟩) hn (fun _ => ⟨_, rfl⟩) (fun sb hsb z hz => by cases hsb; rw [Addr.add_lit, Nat.zero_add]; exact hxs6 z hz) (fun q hq _ => by
        cases hq
        rw [hpe.asks]
        omega)
    rintro _ L7 ⟨A, m3, rfl, hAp, hAc, hAi, hAll⟩
    walk_nrm
    have b7 := hAll.boss
    have hp7 : PoolAt L7 m3 p := hAll.pool hAp hp6 fun sb z hsb hz => by
      cases hsb
      show p.b ≠ so8
      omega
    have c7 : m3.cl p.b = false := by rw [hAll.cl]; exact hpe.cl
    have f7 : m3.fin p.b = false := by rw [hAll.fin]; exact hpe.fin
    have s7 : m3.ps = p :: m1.ps := by rw [hAll.ps, hpe.ps]
    have o7 : ∀ b, b ≠ p.b → m3.fin b = m1.fin b := fun b h => by rw [hAll.fin]; exact hpe.ofin b h
    have a7 : m3.asks p.b = xs.length := by
      rw [hAll.asks]
      simp only [hAp, hAc, Option.map_some, and_self, if_true, hAi, hpe.asks]
      omega
    have x7 : ∀ {a v}, Sees L a v → Sees L7 a v := fun {a v} h => hAll.sees (x6 h)
    have hxs7 : ∀ z, z < xs.length → Sees L7 ⟨so8, z, none⟩ (.int .i64 (xs.getD z 0)) := fun z hz => hAll.sees (hxs6 z hz)
    have h777 := hAll.sees h77
    have ans7 : ∀ z, z < xs.length → Sees L7 ⟨A.bo, z, none⟩ (.int .i64 (IntKind.i64.wrap (xs.getD z 0 + xs.getD z 0))) := fun z hz => by
      have := hAll.ans z (by rw [hAi]; exact hz)
      unfold AllG.val at this
      rw [hAp, hAc] at this
      simp only [Bool.false_eq_true, if_false] at this
      rw [hAi, hpf] at this
      have e : ap 9 (xs.getD z 0) = IntKind.i64.wrap (xs.getD z 0 + xs.getD z 0) := hap _
      rw [e] at this
      exact this
    clear hAll hAp hAc hAi hp6 hpe b6 x6 hxs6 h77
    generalize A.bo = bo at ans7 ⊢
    (repeat (first | (co_apply wpS_region; simp only [List.size_toArray, List.length_cons, List.length_nil, Nat.reduceAdd, Nat.zero_add, List.range, List.range.loop]) | (co_apply opsS_pure; (focus (exact rfl)); (focus (exact rfl)); (focus (intro w; go_simp <;> exact rfl)); (focus (intro w; simp [go_sem, execOp, Act.eval]; done)); try walk_nrm) | (co_apply opsS_unwanted; (focus (exact rfl)); (focus (exact rfl)); walk_nrm) | (co_apply opsS_nil; try dsimp only) | co_apply wpS_seq | co_apply wpS_skip | (co_apply wpS_cond; (focus (exact rfl)); simp only [if_true, if_false, reduceIte, Bool.false_eq_true])))
    (co_apply opsS_call; (focus (exact rfl)); (focus (exact rfl)); (focus (exact rfl)); (focus (exact Try.func11)); (focus (rfl)); (focus (rfl)); try simp only [List.map_toArray, List.map_cons, List.map_nil])
    · exact w_askM rfl rfl b7 hp7 c7 (by rw [a7]; omega)
    rintro _ L8 ⟨rfl, m4, b8, x8, q8⟩
    have e8 : ({ P := Try.prog, ap := ap, SelAt := SelAt, CI := CI, CW := 10000, Q := Q } : Cx).ap p.fn one = IntKind.i64.wrap (one + one) := by rw [hpf]; exact hap one
    rw [e8]
    clear e8
    walk_nrm
    have hp8 := hp7.ext q8.ps q8.cl q8.rd x8
    have c8 : m4.cl p.b = false := by rw [q8.cl]; exact c7
    have f8 : m4.fin p.b = false := by rw [q8.fin]; exact f7
    have s8 : m4.ps = p :: m1.ps := by rw [q8.ps]; exact s7
    have o8 : ∀ b, b ≠ p.b → m4.fin b = m1.fin b := fun b h => by rw [q8.fin]; exact o7 b h
    have a8 : (m4.asks p.b : Int) = (xs.length : Int) + 1 := by
      rw [q8.asks]
      simp only [if_true]
      rw [a7]
      try omega
    have y8 : ∀ {a v}, Sees L a v → Sees L8 a v := fun {a v} h => x8.sees (x7 h)
    have hxs8 : ∀ z, z < xs.length → Sees L8 ⟨so8, z, none⟩ (.int .i64 (xs.getD z 0)) := fun z hz => x8.sees (hxs7 z hz)
    have h778 := x8.sees h777
    have ans8 : ∀ z, z < xs.length → Sees L8 ⟨bo, z, none⟩ (.int .i64 (IntKind.i64.wrap (xs.getD z 0 + xs.getD z 0))) := fun z hz => x8.sees (ans7 z hz)
    clear b7 hp7 c7 f7 s7 o7 a7 x7 hxs7 h777 ans7 x8 q8
    (repeat (first | (co_apply wpS_region; simp only [List.size_toArray, List.length_cons, List.length_nil, Nat.reduceAdd, Nat.zero_add, List.range, List.range.loop]) | (co_apply opsS_pure; (focus (exact rfl)); (focus (exact rfl)); (focus (intro w; go_simp <;> exact rfl)); (focus (intro w; simp [go_sem, execOp, Act.eval]; done)); try walk_nrm) | (co_apply opsS_unwanted; (focus (exact rfl)); (focus (exact rfl)); walk_nrm) | (co_apply opsS_nil; try dsimp only) | co_apply wpS_seq | co_apply wpS_skip | (co_apply wpS_cond; (focus (exact rfl)); simp only [if_true, if_false, reduceIte, Bool.false_eq_true])))
    (co_apply opsS_call; (focus (exact rfl)); (focus (exact rfl)); (focus (exact rfl)); (focus (exact Try.func12)); (focus (rfl)); (focus (rfl)); try simp only [List.map_toArray, List.map_cons, List.map_nil])
    · exact w_asked rfl b8 hp8.mem
    intro _ _ hE
    rw [hE.1, hE.2]
    clear hE
    rw [a8]
    walk_nrm
    have hw1 := wrap_i64 ((xs.length : Int) + 1) (by omega) (by omega)
    (co_apply opsS_pure; (focus (exact rfl)); (focus (exact rfl)); (focus (intro w; go_simp <;> exact rfl)); (focus (intro w; simp [go_sem, execOp, Act.eval]; done)); try walk_nrm)
    (co_apply opsS_pure; (focus (exact rfl)); (focus (exact rfl)); (focus (intro w; go_simp <;> exact rfl)); (focus (intro w; simp [go_sem, execOp, Act.eval]; done)); try walk_nrm)
    (co_apply opsS_pure (v := (.int .i64 ((xs.length : Int) + 1))); (focus (exact rfl)); (focus (exact rfl)); (focus (intro w; go_simp <;> first | done | exact rfl | assumption | omega | ((simp only [IntKind.wrap_u64, IntKind.wrap_u32, IntKind.wrap_i32]); omega) | decide)); (focus (intro w; simp [go_sem, execOp, Act.eval, *]; done)); try walk_nrm)
    clear hw1
    (co_apply opsS_pure (v := (.bool false)); (focus (exact rfl)); (focus (exact rfl)); (focus (intro w; go_simp <;> first | done | exact rfl | assumption | omega | ((simp only [IntKind.wrap_u64, IntKind.wrap_u32, IntKind.wrap_i32]); omega) | decide)); (focus (intro w; simp [go_sem, execOp, Act.eval, *]; done)); try walk_nrm)
    (repeat (first | (co_apply wpS_region; simp only [List.size_toArray, List.length_cons, List.length_nil, Nat.reduceAdd, Nat.zero_add, List.range, List.range.loop]) | (co_apply opsS_pure; (focus (exact rfl)); (focus (exact rfl)); (focus (intro w; go_simp <;> exact rfl)); (focus (intro w; simp [go_sem, execOp, Act.eval]; done)); try walk_nrm) | (co_apply opsS_unwanted; (focus (exact rfl)); (focus (exact rfl)); walk_nrm) | (co_apply opsS_nil; try dsimp only) | co_apply wpS_seq | co_apply wpS_skip | (co_apply wpS_cond; (focus (exact rfl)); simp only [if_true, if_false, reduceIte, Bool.false_eq_true])))
    have hix := fun w es => events_indexAt_slice (P := Try.prog) (w := w) (es := es) 22 ⟨so8, 0, none⟩ (xs.length + 1) cp6 .i64 (xs.length : Int) (by kernel_rfl) ⟨by omega, by omega⟩
    co_apply opsS_pure (v := .pointer (some ⟨so8, xs.length, none⟩))
    · rfl
    · rfl
    · intro w; go_simp; intro hh; exfalso; omega
    · intro w; simp [go_sem, execOp, Act.eval, hix]
    try walk_nrm
    clear hix
    (co_apply opsS_read (.int .i64 77); (focus (rfl)); (focus (rfl)); (focus (exact (b8.fit).live)); (focus (exact (b8.fit).vm)); (focus (intro w hS; have hu := (h778).know w hS; go_simp)); (focus (intro w hS e he; have hu := (h778).know w hS; have hm := mem_listed he; simp [go_sem, execOp, Act.eval, hu] at hm; subst hm; exact (h778).ev _)); try walk_nrm)
    (repeat (first | (co_apply wpS_region; simp only [List.size_toArray, List.length_cons, List.length_nil, Nat.reduceAdd, Nat.zero_add, List.range, List.range.loop]) | (co_apply opsS_pure; (focus (exact rfl)); (focus (exact rfl)); (focus (intro w; go_simp <;> exact rfl)); (focus (intro w; simp [go_sem, execOp, Act.eval]; done)); try walk_nrm) | (co_apply opsS_unwanted; (focus (exact rfl)); (focus (exact rfl)); walk_nrm) | (co_apply opsS_nil; try dsimp only) | co_apply wpS_seq | co_apply wpS_skip | (co_apply wpS_cond; (focus (exact rfl)); simp only [if_true, if_false, reduceIte, Bool.false_eq_true])))
    co_apply wpS_block
    co_apply wpS_loop (fun a L' => a.defers = [] ∧ a.tmps.size = 107 ∧ a.tmps[1]? = some (.slice so xs.length cx) ∧ a.tmps[7]? = some (.pointer (some ⟨p.b, 0, none⟩)) ∧ a.tmps[8]? = some (.slice (some ⟨so8, 0, none⟩) (xs.length + 1) cp6) ∧ a.tmps[9]? = some (.slice (some ⟨bo, 0, none⟩) xs.length xs.length) ∧ (∃ j : Nat, a.tmps[12]? = some (.int .i64 j) ∧ j ≤ xs.length) ∧ L' = L8) (fun a _ => nleft 12 xs.length a) 3000 xs.length
    · exact ⟨rfl, rfl, rfl, rfl, rfl, rfl, ⟨0, rfl, by omega⟩, rfl⟩
    · rw [nleft_eq (z := 0) rfl]
      omega
    · rintro ⟨tmps, defers⟩ _ ⟨k1, k2, k3, k7, k8, k9, ⟨j, k12, hj⟩, rfl⟩
      dsimp only at k1 k2 k3 k7 k8 k9 k12
      subst k1
      obtain ⟨g2, hlit, hf2⟩ := lit tmps 107 k2
      have e1 := hf2 1 _ k3
      have e7 := hf2 7 _ k7
      have e8 := hf2 8 _ k8
      have e9 := hf2 9 _ k9
      have e12 := hf2 12 _ k12
      subst hlit
      clear k2 k3 k7 k8 k9 k12 hf2
      simp only [List.range, List.range.loop, List.map, e1, e7, e8, e9, e12]
      clear e1 e7 e8 e9 e12
      by_cases hlt : j < xs.length
      · obtain ⟨sb, hsb⟩ := hso (by omega)
        co_apply wpS_more
        (repeat (first | (co_apply wpS_region; simp only [List.size_toArray, List.length_cons, List.length_nil, Nat.reduceAdd, Nat.zero_add, List.range, List.range.loop]) | (co_apply opsS_pure; (focus (exact rfl)); (focus (exact rfl)); (focus (intro w; go_simp <;> exact rfl)); (focus (intro w; simp [go_sem, execOp, Act.eval]; done)); try walk_nrm) | (co_apply opsS_nil; try dsimp only) | co_apply wpS_seq | co_apply wpS_skip | (co_apply wpS_cond; (focus (exact rfl)); simp only [if_true, if_false, reduceIte, Bool.false_eq_true])))
        co_apply wpS_block
        co_apply wpS_seq
        co_apply wpS_mono (w_ans14 (X := ⟨Try.prog, ap, SelAt, CI, 10000, Q⟩) (bo := bo) (so8 := so8) (sb := sb) (n := xs.length) (cx := cx) (cp := cp6) (x := xs.getD j 0) (j := j) rfl b8.fit hlt rfl (by rw [hsb]; rfl) rfl rfl rfl (ans8 j hlt) (y8 (hit sb hsb j hlt)) (hxs8 j hlt) (by omega))
        rintro _ ⟨tmps, defers⟩ L3 ⟨rfl, k1, k2, k3, k4, rfl⟩
        dsimp only at k1 k2 k3 k4
        subst k1
        have j1 : tmps[1]? = some (.slice so xs.length cx) := (k3 1 (by decide)).trans rfl
        have j7 : tmps[7]? = some (.pointer (some ⟨p.b, 0, none⟩)) := (k3 7 (by decide)).trans rfl
        have j8 : tmps[8]? = some (.slice (some ⟨so8, 0, none⟩) (xs.length + 1) cp6) := (k3 8 (by decide)).trans rfl
        have j9 : tmps[9]? = some (.slice (some ⟨bo, 0, none⟩) xs.length xs.length) := (k3 9 (by decide)).trans rfl
        have j12 : tmps[12]? = some (.int .i64 j) := (k3 12 (by decide)).trans rfl
        clear k3
        obtain ⟨f1, hlit, hf1⟩ := lit tmps 107 k2
        have e1 := hf1 1 _ j1
        have e7 := hf1 7 _ j7
        have e8 := hf1 8 _ j8
        have e9 := hf1 9 _ j9
        have e12 := hf1 12 _ j12
        have e104 := hf1 104 _ k4
        subst hlit
        clear k2 k4 j1 j7 j8 j9 j12 hf1
        simp only [List.range, List.range.loop, List.map, e1, e7, e8, e9, e12, e104]
        clear e1 e7 e8 e9 e12 e104
        (repeat (first | (co_apply wpS_region; simp only [List.size_toArray, List.length_cons, List.length_nil, Nat.reduceAdd, Nat.zero_add, List.range, List.range.loop]) | (co_apply opsS_pure; (focus (exact rfl)); (focus (exact rfl)); (focus (intro w; go_simp <;> exact rfl)); (focus (intro w; simp [go_sem, execOp, Act.eval]; done)); try walk_nrm) | (co_apply opsS_nil; try dsimp only) | co_apply wpS_seq | co_apply wpS_skip | (co_apply wpS_cond; (focus (exact rfl)); simp only [if_true, if_false, reduceIte, Bool.false_eq_true])))
        rw [wrap_i64 ((j : Int) + 1) (by omega) (by omega)]
        refine ⟨⟨rfl, rfl, rfl, rfl, rfl, rfl, ⟨j + 1, rfl, by omega⟩, rfl⟩, ?_⟩
        rw [nleft_eq (z := j + 1) rfl, nleft_eq (z := j) rfl]
        omega
        decide
      · have hje : j = xs.length := by omega
        subst hje
        co_apply wpS_more
        co_apply wpS_seq (n₂ := 0)
        (repeat (first | (co_apply wpS_region; simp only [List.size_toArray, List.length_cons, List.length_nil, Nat.reduceAdd, Nat.zero_add, List.range, List.range.loop]) | (co_apply opsS_pure; (focus (exact rfl)); (focus (exact rfl)); (focus (intro w; go_simp <;> exact rfl)); (focus (intro w; simp [go_sem, execOp, Act.eval]; done)); try walk_nrm) | (co_apply opsS_nil; try dsimp only) | co_apply wpS_seq | co_apply wpS_skip | (co_apply wpS_cond; (focus (exact rfl)); simp only [if_true, if_false, reduceIte, Bool.false_eq_true])))
        co_apply wpS_exit
        try dsimp only
        try simp only [if_true, reduceIte]
        (repeat (first | (co_apply wpS_region; simp only [List.size_toArray, List.length_cons, List.length_nil, Nat.reduceAdd, Nat.zero_add, List.range, List.range.loop]) | (co_apply opsS_pure; (focus (exact rfl)); (focus (exact rfl)); (focus (intro w; go_simp <;> exact rfl)); (focus (intro w; simp [go_sem, execOp, Act.eval]; done)); try walk_nrm) | (co_apply opsS_nil; try dsimp only) | co_apply wpS_seq | co_apply wpS_skip | (co_apply wpS_cond; (focus (exact rfl)); simp only [if_true, if_false, reduceIte, Bool.false_eq_true])))
        (co_apply opsS_call; (focus (exact rfl)); (focus (exact rfl)); (focus (exact rfl)); (focus (exact Try.func13)); (focus (rfl)); (focus (rfl)); try simp only [List.map_toArray, List.map_cons, List.map_nil])
        · exact w_closeA rfl b8 hp8 c8 f8
        rintro _ L9 ⟨rfl, m5, b9, k9, hp9, x9⟩
        walk_nrm
        (repeat (first | (co_apply wpS_region; simp only [List.size_toArray, List.length_cons, List.length_nil, Nat.reduceAdd, Nat.zero_add, List.range, List.range.loop]) | (co_apply opsS_pure; (focus (exact rfl)); (focus (exact rfl)); (focus (intro w; go_simp <;> exact rfl)); (focus (intro w; simp [go_sem, execOp, Act.eval]; done)); try walk_nrm) | (co_apply opsS_unwanted; (focus (exact rfl)); (focus (exact rfl)); walk_nrm) | (co_apply opsS_nil; try dsimp only) | co_apply wpS_seq | co_apply wpS_skip | (co_apply wpS_cond; (focus (exact rfl)); simp only [if_true, if_false, reduceIte, Bool.false_eq_true])))
        have far9 : ∀ {a v}, Sees L a v → a.block ≠ p.b := fun {a v} h e => by have := far6 h; rw [e] at this; exact Nat.lt_irrefl _ this
        have f9 : AllFin m5 := fun e he => by
          rw [k9.ps, s8] at he
          rw [k9.fin]
          dsimp only
          by_cases h : e.b = p.b
          · rw [if_pos h]
          · rw [if_neg h, o8 _ h]
            rcases List.mem_cons.1 he with rfl | he
            · exact absurd rfl h
            · exact f1 e he
        co_apply wpS_ret
        exact ⟨_, fun w => ⟨results_tmp rfl _ _ _, events_results_tmp rfl _ _⟩, rfl, rfl, m5, b9, f9, fun a v h => x9.sees (fun e => far9 h (congrArg Addr.block e)) (fun e => far9 h (congrArg Addr.block e)) (y8 h)⟩
        decide
  · have d1 : decide ((5000 : Int) < (xs.length : Int)) = true := decide_eq_true (by omega)
    apply Exists.intro
    refine ⟨_, rfl, ?_⟩
    simp only [Try.ntmps3, List.size_toArray, List.length_cons, List.length_nil, Nat.reduceAdd, Nat.reduceSub, Array.replicate, List.replicate, List.append_toArray, List.cons_append, List.nil_append, List.append_eq]
    (co_apply wpS_seq)
    (repeat (first | (co_apply wpS_region; simp only [List.size_toArray, List.length_cons, List.length_nil, Nat.reduceAdd, Nat.zero_add, List.range, List.range.loop]) | (co_apply opsS_pure; (focus (exact rfl)); (focus (exact rfl)); (focus (intro w; go_simp <;> exact rfl)); (focus (intro w; simp [go_sem, execOp, Act.eval]; done)); try walk_nrm) | (co_apply opsS_nil; try dsimp only) | co_apply wpS_skip | (co_apply wpS_cond; (focus (exact rfl)); simp only [if_true, if_false, reduceIte, Bool.false_eq_true])))
    co_apply wpS_seq (n₂ := 0)
    (repeat (first | (co_apply wpS_region; simp only [List.size_toArray, List.length_cons, List.length_nil, Nat.reduceAdd, Nat.zero_add, List.range, List.range.loop]) | (co_apply opsS_pure; (focus (exact rfl)); (focus (exact rfl)); (focus (intro w; go_simp <;> exact rfl)); (focus (intro w; simp [go_sem, execOp, Act.eval]; done)); try walk_nrm) | (co_apply opsS_nil; try dsimp only) | co_apply wpS_seq | co_apply wpS_skip | (co_apply wpS_cond; (focus (exact rfl)); simp only [if_true, if_false, reduceIte, Bool.false_eq_true])))
    (co_apply opsS_call; (focus (exact rfl)); (focus (exact rfl)); (focus (exact rfl)); (focus (exact Try.func7)); (focus (rfl)); (focus (rfl)); try simp only [List.map_toArray, List.map_cons, List.map_nil])
    · exact hFF hb hfin
    rintro _ L1 ⟨rfl, m1, b1, x1, f1⟩
    walk_nrm
    (co_apply opsS_pure; (focus (exact rfl)); (focus (exact rfl)); (focus (intro w; go_simp <;> exact rfl)); (focus (intro w; simp [go_sem, execOp, Act.eval]; done)); try walk_nrm)
    (co_apply opsS_pure; (focus (exact rfl)); (focus (exact rfl)); (focus (intro w; go_simp <;> exact rfl)); (focus (intro w; simp [go_sem, execOp, Act.eval]; done)); try walk_nrm)
    (co_apply opsS_pure; (focus (exact rfl)); (focus (exact rfl)); (focus (intro w; go_simp <;> exact rfl)); (focus (intro w; simp [go_sem, execOp, Act.eval]; done)); try walk_nrm)
    (co_apply opsS_pure; (focus (exact rfl)); (focus (exact rfl)); (focus (intro w; go_simp <;> exact rfl)); (focus (intro w; simp [go_sem, execOp, Act.eval]; done)); try walk_nrm)
    (co_apply opsS_pure (v := (.bool true)); (focus (exact rfl)); (focus (exact rfl)); (focus (intro w; go_simp <;> first | done | exact rfl | assumption | omega | ((simp only [IntKind.wrap_u64, IntKind.wrap_u32, IntKind.wrap_i32]); omega) | decide)); (focus (intro w; simp [go_sem, execOp, Act.eval, *]; done)); try walk_nrm)
    (repeat (first | (co_apply wpS_region; simp only [List.size_toArray, List.length_cons, List.length_nil, Nat.reduceAdd, Nat.zero_add, List.range, List.range.loop]) | (co_apply opsS_pure; (focus (exact rfl)); (focus (exact rfl)); (focus (intro w; go_simp <;> exact rfl)); (focus (intro w; simp [go_sem, execOp, Act.eval]; done)); try walk_nrm) | (co_apply opsS_unwanted; (focus (exact rfl)); (focus (exact rfl)); walk_nrm) | (co_apply opsS_nil; try dsimp only) | co_apply wpS_seq | co_apply wpS_skip | (co_apply wpS_cond; (focus (exact rfl)); simp only [if_true, if_false, reduceIte, Bool.false_eq_true])))
    (co_apply opsS_call; (focus (exact rfl)); (focus (exact rfl)); (focus (exact rfl)); (focus (exact Try.func7)); (focus (rfl)); (focus (rfl)); try simp only [List.map_toArray, List.map_cons, List.map_nil])
    · exact hFF b1 f1
    rintro _ L2 ⟨rfl, m2, b2, x2, f2⟩
    walk_nrm
    (repeat (first | (co_apply wpS_region; simp only [List.size_toArray, List.length_cons, List.length_nil, Nat.reduceAdd, Nat.zero_add, List.range, List.range.loop]) | (co_apply opsS_pure; (focus (exact rfl)); (focus (exact rfl)); (focus (intro w; go_simp <;> exact rfl)); (focus (intro w; simp [go_sem, execOp, Act.eval]; done)); try walk_nrm) | (co_apply opsS_unwanted; (focus (exact rfl)); (focus (exact rfl)); walk_nrm) | (co_apply opsS_nil; try dsimp only) | co_apply wpS_seq | co_apply wpS_skip | (co_apply wpS_cond; (focus (exact rfl)); simp only [if_true, if_false, reduceIte, Bool.false_eq_true])))
    co_apply wpS_ret
    exact ⟨_, fun w => ⟨results_tmp rfl _ _ _, events_results_tmp rfl _ _⟩, rfl, rfl, m2, b2, f2, fun a v h => x2.sees (x1.sees h)⟩
end Go.Proofs.Ytaceedenkmccdaa
