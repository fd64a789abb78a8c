/- Package blob: the list of a blob's blocks: add, encode, blocks. -/
import Derived.Test.YtmefbbmjamdnjaaBb1
namespace Go.Proofs.Ytmefbbmjamdnjaa
open Go Go.RowKit
set_option linter.unusedSimpArgs false
set_option linter.unusedVariables false
set_option maxRecDepth 100000

abbrev Run := Nat × Nat
def runV (r : Run) : List Value := [.int .i64 r.1, .int .i64 r.2]
theorem runV_length (r : Run) : (runV r).length = 2 := rfl
def runsV (rs : List Run) : List Value := rs.flatMap runV
theorem runsV_length (rs : List Run) : (runsV rs).length = rs.length * 2 := flat_length runV 2 rs (fun p _ => runV_length p)
theorem runsV_append (a b : List Run) : runsV (a ++ b) = runsV a ++ runsV b := by simp [runsV]
/-- The blocks of runs, in order. -/
def runB (r : Run) : List Nat := (List.range r.2).map fun i => r.1 + i
def runsB (rs : List Run) : List Nat := rs.flatMap runB
theorem runsB_append (a b : List Run) : runsB (a ++ b) = runsB a ++ runsB b := by simp [runsB]
theorem runB_length (r : Run) : (runB r).length = r.2 := by simp [runB]
/-- Small runs: what fits into the head's block. -/
def RunsOk (rs : List Run) : Prop := ∀ r ∈ rs, 1 ≤ r.1 ∧ r.1 ≤ 4096 ∧ 1 ≤ r.2 ∧ r.2 ≤ 255
theorem runs_le : ∀ (rs : List Run), RunsOk rs → rs.length ≤ (runsB rs).length
  | [], _ => Nat.le_refl _
  | r :: t, h => by
    have h1 := runs_le t (fun x hx => h x (List.mem_cons_of_mem _ hx))
    have h2 := h r (List.mem_cons_self ..)
    show _ ≤ (runB r ++ runsB t).length
    rw [List.length_append, runB_length, List.length_cons]
    omega
/-- add: the last run grows, or a new one. -/
def addR (rs : List Run) (b : Nat) : List Run :=
  match rs.getLast? with
  | some r => if r.1 + r.2 = b ∧ r.2 < 255 then rs.dropLast ++ [(r.1, r.2 + 1)] else rs ++ [(b, 1)]
  | none => [(b, 1)]
theorem addR_ok {rs : List Run} (h : RunsOk rs) {b : Nat} (h1 : 1 ≤ b) (h2 : b ≤ 4096) : RunsOk (addR rs b) := by
  unfold addR
  cases hq : rs.getLast? with
  | none =>
    intro r hr
    simp at hr
    rw [hr]
    exact ⟨h1, h2, Nat.le_refl _, by show (1 : Nat) ≤ 255; decide⟩
  | some r =>
    have hm : r ∈ rs := List.mem_of_getLast? hq
    have hr := h r hm
    simp only
    split
    · rename_i hc
      intro x hx
      rcases List.mem_append.1 hx with e | e
      · exact h x (List.dropLast_subset _ e)
      · rw [List.mem_singleton] at e
        rw [e]
        exact ⟨hr.1, hr.2.1, by show 1 ≤ r.2 + 1; omega, by show r.2 + 1 ≤ 255; omega⟩
    · intro x hx
      rcases List.mem_append.1 hx with e | e
      · exact h x e
      · rw [List.mem_singleton] at e
        rw [e]
        exact ⟨h1, h2, Nat.le_refl _, by show (1 : Nat) ≤ 255; decide⟩
theorem addR_runs (rs : List Run) (b : Nat) : runsB (addR rs b) = runsB rs ++ [b] := by
  unfold addR
  cases hq : rs.getLast? with
  | none =>
    have : rs = [] := List.getLast?_eq_none_iff.1 hq
    rw [this]
    simp [runsB, runB]
  | some r =>
    have hd : rs = rs.dropLast ++ [r] := by
      obtain ⟨l, hl⟩ := List.getLast?_eq_some_iff.1 hq
      rw [hl]; simp
    simp only
    split
    · rename_i hc
      conv => rhs; rw [hd]
      rw [runsB_append, runsB_append]
      have e : runsB [(r.1, r.2 + 1)] = runsB [r] ++ [b] := by
        simp only [runsB, List.flatMap_cons, List.flatMap_nil, List.append_nil, runB]
        rw [List.range_succ, List.map_append]
        simp [hc.1]
      rw [e, List.append_assoc]
    · rw [runsB_append]
      simp [runsB, runB]
theorem infoRun : (Try.prog.info? 86).map (fun i => (i.zero, i.size, i.bytes)) = some (some (.agg #[.int .i64 0, .int .i64 0]), 2, 16) := by kernel_rfl
theorem sizeRun : (Try.prog.info? 86).map (·.size) = some 2 := by kernel_rfl
theorem infoInt : (Try.prog.info? 3).map (fun i => (i.zero, i.size, i.bytes)) = some (some (.int .i64 0), 1, 8) := by kernel_rfl
def intsV (l : List Nat) : List Value := l.map fun (n : Nat) => .int .i64 (n : Nat)
theorem intsV_length (l : List Nat) : (intsV l).length = l.length := by simp [intsV]
/-- A list at lb: its size, its runs in the slice x. -/
structure ListAt (w : World) (lb size : Nat) (rs : List Run) (x : Option Addr) (c : Nat) : Prop where
  cells : CellsA w lb 65 [.int .i64 size, .slice x rs.length c]
  mid : Mid w 2 (.slice x rs.length c) rs.length (runsV rs)
  whole : Whole w 2 (.slice x rs.length c)
  ne : ∀ q, (Value.slice x rs.length c).ownBlock = some q → q ≠ lb
def ownL (lb n : Nat) (x : Option Addr) (c : Nat) (q : Nat) : Prop := q = lb ∨ (Value.slice x n c).ownBlock = some q
theorem ListAt.upd {w w' : World} {lb size : Nat} {rs : List Run} {x : Option Addr} {c : Nat} {H : Nat → Prop} (h : ListAt w lb size rs x c) (hu : Upd H w w') (hf : ∀ q, ownL lb rs.length x c q → ¬ H q) : ListAt w' lb size rs x c :=
  ⟨h.cells.upd hu (hf _ (.inl rfl)), h.mid.upd hu (fun q hq => hf q (.inr hq)), h.whole.upd hu (fun q hq => hf q (.inr hq)) h.mid.lt, h.ne⟩
theorem ListAt.lt {w : World} {lb size : Nat} {rs : List Run} {x : Option Addr} {c : Nat} (h : ListAt w lb size rs x c) : ∀ q, ownL lb rs.length x c q → q < w.heap.size := by
  rintro q (rfl | hq)
  · exact h.cells.lt
  · exact h.mid.lt q hq
/-- The facts of a run in a list. -/
theorem ListAt.run {w : World} {lb size : Nat} {rs : List Run} {x : Option Addr} {c : Nat} (h : ListAt w lb size rs x c) (k : Nat) (hk : k < rs.length) :
    ∃ g o, x = some ⟨g, o, none⟩ ∧ w.rangeAt g (o + k * 2) (runV rs[k]) := by
  obtain ⟨_, _, x', c', hx, hc⟩ := h.mid.sees
  cases hx
  obtain ⟨b, o, rfl, hr⟩ := hc (by omega)
  exact ⟨b, o, rfl, rangeAt.sub (w := w) (b := b) (off := o) hr (k * 2) (by rw [runV_length]; exact flat_piece runV 2 rs k hk (fun x _ => rfl))⟩
/-- blocks. -/
def BkR (w wr : World) (n : Nat) (out : List Nat) (y : Option Addr) (d : Nat) : Prop :=
  Mid wr 1 (.slice y n d) n (intsV out) ∧ (∀ q, (Value.slice y n d).ownBlock = some q → w.heap.size ≤ q) ∧ Upd (fun _ => False) w wr ∧ out.length = n
set_option maxHeartbeats 4000000 in
theorem blocks_ok {w : World} {lb size : Nat} {rs : List Run} {x : Option Addr} {c : Nat} (h : ListAt w lb size rs x c) (hok : RunsOk rs) (hlen : (runsB rs).length ≤ 100000) :
    Calls Try.prog 24 #[.pointer (some ⟨lb, 0, none⟩)] w fun e w' => ∃ (y : Option Addr) (d : Nat), e = .returned (.slice y (runsB rs).length d) ∧ BkR w w' (runsB rs).length (runsB rs) y d := by
  have hn := runs_le rs hok
  obtain ⟨n, hnn⟩ : ∃ n, rs.length = n := ⟨_, rfl⟩
  have hnI : (n : Int) ≤ 100000 := by omega
  have c1 := h.cells.cell 1
  simp only [List.getElem?_cons_zero, List.getElem?_cons_succ] at c1
  rw [hnn] at c1
  have H := Lib.hid (And.intro h (And.intro hok (And.intro hlen hnn)))
  clear h hok hlen hn hnn
  go_enter Try.func24, Try.ntmps24
  go_wp2_with fail
  have HQ : Hid (BkR w w 0 (runsB (rs.take 0)) none 0) := ⟨Mid.nil _ _, (fun q hq => by cases hq), Upd.refl _ _, rfl⟩
  go_loopw [12, 3] (fun iv v wr => ∃ (k m d : Nat) (y : Option Addr), k ≤ n ∧ iv = .int .i64 k ∧ v = .slice y m d ∧ Hid (BkR w wr m (runsB (rs.take k)) y d)) (fun iv _ _ => n - (intOf iv).toNat)
  case atStart => exact ⟨0, 0, 0, none, Nat.zero_le _, rfl, rfl, HQ⟩
  case round =>
    clear HQ
    obtain ⟨k, m, d, y, hk, rfl, rfl, HR⟩ := hrel
    by_cases hlt : k < n
    · have hltI : (k : Int) < (n : Int) := by omega
      have hkl : k < rs.length := by rw [H.out.2.2.2]; exact hlt
      obtain ⟨r, hr⟩ : ∃ r, rs[k] = r := ⟨_, rfl⟩
      have hro := H.out.2.1 r (hr ▸ List.getElem_mem _)
      obtain ⟨g, o, rfl, hrg⟩ := H.out.1.run k hkl
      rw [hr] at hrg
      have hrw : wr.rangeAt g (o + k * 2) [.int .i64 r.1, .int .i64 r.2] := HR.out.2.2.1.range hrg (fun h => h)
      have hst : runsB (rs.take (k + 1)) = runsB (rs.take k) ++ runB r := by rw [List.take_succ_eq_append_getElem hkl, runsB_append, hr]; simp [runsB]
      have hmb : m + r.2 ≤ 100000 := by
        have h1 := H.out.2.2.1
        have h2 : (runsB rs).length = (runsB (rs.take (k + 1))).length + (runsB (rs.drop (k + 1))).length := by rw [← List.length_append, ← runsB_append, List.take_append_drop]
        rw [hst, List.length_append, runB_length, HR.out.2.2.2] at h2
        omega
      obtain ⟨f1, hf1⟩ : ∃ f1, r.1 = f1 := ⟨_, rfl⟩
      obtain ⟨n1, hn1⟩ : ∃ n1, r.2 = n1 := ⟨_, rfl⟩
      rw [hf1, hn1] at hrw
      rw [hf1, hn1] at hro
      rw [hn1] at hmb
      have hf1I : (f1 : Int) ≤ 4096 := by omega
      have hn1I : (n1 : Int) ≤ 255 := by omega
      have hal : Upd (fun _ => False) wr (wr.alloc (.cells #[.int .i64 f1, .int .i64 n1] 86)) := (Upd.refl _ wr).alloc _
      have hcs := CellsA.new wr 86 [.int .i64 f1, .int .i64 n1]
      have hc1 := hcs.cell 1
      simp only [List.getElem?_cons_zero, List.getElem?_cons_succ] at hc1
      have HK := Lib.hid (And.intro hst (And.intro hf1 (And.intro hn1 hmb)))
      have HR2 : Hid (BkR w (wr.alloc (.cells #[.int .i64 f1, .int .i64 n1] 86)) (m + 0) (runsB (rs.take k) ++ runB (f1, 0)) y d) := by
        obtain ⟨r1, r2, r3, r4⟩ := HR.out
        exact ⟨by simpa [runB] using r1.upd hal (fun _ _ h => h), r2, r3.trans hal, by simp [runB, r4]⟩
      have Hyl := Lib.hid HR.out.1.lt
      have Hcs : Hid (CellsA (wr.alloc (.cells #[.int .i64 f1, .int .i64 n1] 86)) wr.heap.size 86 [.int .i64 f1, .int .i64 n1]) := hcs
      clear hr hrg hst hro hmb hf1 hn1 hal hcs HR
      go_wp2_with (first | ((with_reducible apply wpl_load_mid g (o + k * 2) [.int .i64 f1, .int .i64 n1]); exact rfl; exact hrw; exact Try.underlying86; exact rfl; exact sizeRun; try (simp only [Act.put, List.setIfInBounds_toArray, List.set_cons_zero, List.set_cons_succ])) | ((with_reducible apply wpl_store_new); exact rfl; exact rfl; exact sizeRun; exact rfl; exact rfl; try (simp only [Act.put, List.setIfInBounds_toArray, List.set_cons_zero, List.set_cons_succ])))
      have hno : ∀ q, (Value.slice y m d).ownBlock = some q → q ≠ wr.heap.size := fun q hq e => by
        have h3 : q < wr.heap.size := Hyl.out q hq
        omega
      have HQ2 : Hid (BkR w (wr.alloc (.cells #[.int .i64 f1, .int .i64 n1] 86)) (m + 0) (runsB (rs.take k) ++ runB (f1, 0)) y d ∧ CellsA (wr.alloc (.cells #[.int .i64 f1, .int .i64 n1] 86)) wr.heap.size 86 [.int .i64 f1, .int .i64 n1] ∧ (∀ q, (Value.slice y (m + 0) d).ownBlock = some q → q ≠ wr.heap.size)) := ⟨HR2.out, Hcs.out, hno⟩
      generalize wr.alloc (.cells #[.int .i64 f1, .int .i64 n1] 86) = w2 at *
      generalize wr.heap.size = ob at *
      clear hno HR2 Hcs hrw hc1 Hyl
      go_loopw [18, 3] (fun iv v wr => ∃ (i d : Nat) (y : Option Addr), i ≤ n1 ∧ iv = .int .i64 i ∧ v = .slice y (m + i) d ∧ Hid (BkR w wr (m + i) (runsB (rs.take k) ++ runB (f1, i)) y d ∧ CellsA wr ob 86 [.int .i64 f1, .int .i64 n1] ∧ (∀ q, (Value.slice y (m + i) d).ownBlock = some q → q ≠ ob))) (fun iv _ _ => n1 - (intOf iv).toNat)
      case atStart => exact ⟨0, d, y, Nat.zero_le _, rfl, rfl, HQ2⟩
      case round =>
        clear HQ2
        obtain ⟨i, d, y, hi, rfl, rfl, HI⟩ := hrel
        have hb := HK.out.2.2.2
        have hc0 := HI.out.2.1.cell 0
        simp only [List.getElem?_cons_zero, List.getElem?_cons_succ] at hc0
        by_cases hin : i < n1
        · have hinI : (i : Int) < (n1 : Int) := by omega
          go_wp2_with ((with_reducible apply wpl_append_mid 3 1 8 _ (.slice y (m + i) d) (m + i) (intsV (runsB (rs.take k) ++ runB (f1, i))) 1 [.int .i64 ((f1 : Int) + (i : Int))]))
          · exact Try.underlying58
          · exact infoInt
          · rfl
          · rfl
          · exact HI.out.1.1.upd ((Upd.refl (fun _ => False) wr).alloc _) (fun _ _ h => h)
          · exact Sees.at rfl (by decide) (rangeAt_of_row (heap_alloc_new wr (.cells ([.int .i64 ((f1 : Int) + (i : Int))] : List Value).toArray 3)) rfl)
          · intro u hu; simp at hu; rw [hu]; rfl
          · unfold maxLen; omega
          · omega
          intro y' d' w4 hm4 hu4 hb4
          try (simp only [Act.put, List.setIfInBounds_toArray, List.set_cons_zero, List.set_cons_succ])
          have hst : intsV (runsB (rs.take k) ++ runB (f1, i)) ++ [.int .i64 ((f1 : Int) + (i : Int))] = intsV (runsB (rs.take k) ++ runB (f1, i + 1)) := by
            have : runB (f1, i + 1) = runB (f1, i) ++ [f1 + i] := by simp [runB, List.range_succ]
            rw [this, ← List.append_assoc]
            simp [intsV]
          rw [hst] at hm4
          have HJ : Hid (BkR w w4 (m + (i + 1)) (runsB (rs.take k) ++ runB (f1, i + 1)) y' d' ∧ CellsA w4 ob 86 [.int .i64 f1, .int .i64 n1] ∧ (∀ q, (Value.slice y' (m + (i + 1)) d').ownBlock = some q → q ≠ ob)) := by
            obtain ⟨⟨r1, r2, r3, r4⟩, r5, r6⟩ := HI.out
            have ha : Upd (fun _ => False) wr (wr.alloc (.cells #[.int .i64 ((f1 : Int) + (i : Int))] 3)) := (Upd.refl _ wr).alloc _
            have hal : Upd (fun q => (Value.slice y (m + i) d).ownBlock = some q) wr w4 := (ha.mono (fun _ _ h => h.elim)).trans hu4
            have hz := r3.size
            have hob := r5.lt
            have hown : ∀ q, (Value.slice y' (m + (i + 1)) d').ownBlock = some q → (Value.slice y (m + i) d).ownBlock = some q ∨ wr.heap.size ≤ q := fun q hq => by
              rcases hb4 with e | e
              · exact .inl (by rw [← e]; exact hq)
              · refine .inr ?_
                have e2 : (Value.slice y' (m + (i + 1)) d').ownBlock = some _ := e
                rw [e2] at hq
                cases hq
                simp
            refine ⟨⟨hm4, fun q hq => ?_, r3.then hal (fun q hq => .inr (r2 q hq)), by simp [runB, r4] at r4 ⊢; omega⟩, r5.upd hal (fun e => r6 _ e rfl), fun q hq => ?_⟩
            · rcases hown q hq with e | e
              · exact r2 q e
              · omega
            · rcases hown q hq with e | e
              · exact r6 q e
              · omega
          clear hm4 hu4 hb4 hst HI hc0
          go_wp2_with fail
          exact ⟨⟨i + 1, d', y', by omega, by go_num, rfl, HJ⟩, by simp [intOf]; omega⟩
        · obtain rfl : i = n1 := by omega
          have HJ : Hid (BkR w wr (m + i) (runsB (rs.take (k + 1))) y d) := by
            rw [HK.out.1, show r = (f1, i) from Prod.ext HK.out.2.1 HK.out.2.2.1]
            exact HI.out.1
          clear HI hc0
          go_wp2_with fail
          exact ⟨⟨k + 1, m + i, d, y, by omega, by go_num, rfl, HJ⟩, by simp [intOf]; omega⟩
    · obtain rfl : k = n := by omega
      have HJ : Hid (BkR w wr m (runsB rs) y d) := by
        have := HR.out
        rwa [List.take_of_length_le (by rw [H.out.2.2.2]; exact Nat.le_refl _)] at this
      have hml : m = (runsB rs).length := HJ.out.2.2.2.symm
      subst hml
      clear HR
      go_wp2_with fail
      go_ret
      exact ⟨y, d, rfl, HJ.out⟩
theorem rangeAt.set {w : World} {g off : Nat} {xs : List Value} (h : w.rangeAt g off xs) (j : Nat) (hj : j < xs.length) (v : Value) : (w.setCell ⟨g, off + j, none⟩ v).rangeAt g off (xs.set j v) := fun i u hi => by
  by_cases e : i = j
  · subst e
    rw [List.getElem?_set_self hj] at hi
    cases hi
    exact World.cell?_setCell_same _ _ _ (h i _ (List.getElem?_eq_getElem hj))
  · rw [List.getElem?_set_ne (fun h => e h.symm)] at hi
    rw [World.cell?_setCell_other _ _ _ _ (by intro h; simp at h <;> omega)]
    exact h i u hi
theorem there_set {w : World} {g off n : Nat} (h : w.there g off n) (p : Addr) (v : Value) (hp : (w.cell? p).isSome = true) : (w.setCell p v).there g off n := fun j hj => by
  have h1 := h j hj
  refine ⟨?_, by rw [World.frozen?_setCell]; exact h1.2⟩
  by_cases e : p = ⟨g, off + j, none⟩
  · rw [e] at hp ⊢
    obtain ⟨u, hu⟩ := Option.isSome_iff_exists.1 hp
    rw [World.cell?_setCell_same _ _ _ hu]; rfl
  · rw [World.cell?_setCell_other _ _ _ _ e]; exact h1.1
/-- A list whose last run has grown. -/
theorem list_grow {w : World} {lb size : Nat} {rs : List Run} {g o c n k f1 n1 b : Nat} (h : ListAt w lb size rs (some ⟨g, o, none⟩) c) (hn : rs.length = n) (hk : n - 1 = k) (h0 : 0 < n) (hgl : rs.getLast? = some (f1, n1))
    (hr : addR rs b = rs.dropLast ++ [(f1, n1 + 1)] ∧ (addR rs b).length = rs.length) :
    ListAt (w.setCell ⟨g, o + k * 2 + 1, none⟩ (.int .i64 ((n1 : Int) + 1))) lb size (addR rs b) (some ⟨g, o, none⟩) c := by
  obtain ⟨rs', hrs⟩ := List.getLast?_eq_some_iff.1 hgl
  have hd : rs.dropLast = rs' := by rw [hrs]; simp
  have hl' : rs'.length = k := by rw [hrs, List.length_append, List.length_singleton] at hn; omega
  have hv : runsV (addR rs b) = (runsV rs).set (k * 2 + 1) (.int .i64 ((n1 : Int) + 1)) := by
    rw [hr.1, hd, hrs, runsV_append, runsV_append]
    rw [List.set_append_right _ _ (by rw [runsV_length]; omega), runsV_length, hl', show k * 2 + 1 - k * 2 = 1 by omega]
    simp [runsV, runV]
  have hlen : (runsV rs).length = n * 2 := by rw [runsV_length, hn]
  obtain ⟨m1, ⟨e, _⟩ | ⟨g', o', cap, e, e1, e2, e3, e4, e5⟩⟩ := id h.mid
  · cases e
  · cases e
    have hgl2 : g ≠ lb := h.ne g rfl
    have hus : Upd (fun q => q = g) w (w.setCell ⟨g, o + (k * 2 + 1), none⟩ (.int .i64 ((n1 : Int) + 1))) := (Upd.refl _ w).setCell _ (.inl rfl)
    have hw := h.whole g o rs.length c rfl
    have hsome : (w.cell? ⟨g, o + (k * 2 + 1), none⟩).isSome = true := (hw (k * 2 + 1) (by omega)).1
    rw [Nat.add_assoc]
    refine ⟨by rw [hr.2]; exact h.cells.upd hus (fun e => hgl2 e.symm), ?_, ?_, by rw [hr.2]; exact h.ne⟩
    · rw [hr.2]
      refine ⟨by rw [runsV_length, hr.2], .inr ⟨g, o, c, rfl, e1, e2, Nat.lt_of_lt_of_le e3 hus.size, by rw [hv]; exact rangeAt.set e4 _ (by omega) _, there_set e5 _ _ hsome⟩⟩
    · rw [hr.2]
      intro g' o' n' c' e
      cases e
      exact there_set hw _ _ hsome
/-- add. -/
def AddP (w : World) (lb size : Nat) (rs : List Run) (x : Option Addr) (c b : Nat) (w' : World) : Prop :=
  ∃ (x' : Option Addr) (c' : Nat), ListAt w' lb size (addR rs b) x' c' ∧ Upd (ownL lb rs.length x c) w w' ∧ (∀ q, ownL lb (addR rs b).length x' c' q → ownL lb rs.length x c q ∨ w.heap.size ≤ q)
theorem addR_length {rs : List Run} {r : Run} {b : Nat} (h : rs.getLast? = some r) (hc : r.1 + r.2 = b ∧ r.2 < 255) : addR rs b = rs.dropLast ++ [(r.1, r.2 + 1)] ∧ (addR rs b).length = rs.length := by
  have e : addR rs b = rs.dropLast ++ [(r.1, r.2 + 1)] := by unfold addR; rw [h]; simp only; rw [if_pos hc]
  refine ⟨e, ?_⟩
  rw [e, List.length_append, List.length_dropLast, List.length_singleton]
  have : rs ≠ [] := fun e => by rw [e] at h; cases h
  have : 0 < rs.length := List.length_pos_iff.2 this
  omega
theorem addR_new {rs : List Run} {b : Nat} (h : ∀ r, rs.getLast? = some r → ¬ (r.1 + r.2 = b ∧ r.2 < 255)) : addR rs b = rs ++ [(b, 1)] := by
  unfold addR
  cases hq : rs.getLast? with
  | none =>
    have : rs = [] := List.getLast?_eq_none_iff.1 hq
    rw [this]; rfl
  | some r => simp only; rw [if_neg (h r hq)]
/-- The list with a new run: the way that add's end is walked. -/
theorem list_new {w wn : World} {lb size : Nat} {rs : List Run} {x x' : Option Addr} {c c' b : Nat} (h : ListAt w lb size rs x c) (hu : Upd (fun q => (Value.slice x rs.length c).ownBlock = some q) w wn) (hm : Mid wn 2 (.slice x' (rs.length + 1) c') (rs.length + 1) (runsV rs ++ [.int .i64 b, .int .i64 1])) (hw : Whole wn 2 (.slice x' (rs.length + 1) c'))
    (hb : (Value.slice x' (rs.length + 1) c').ownBlock = (Value.slice x rs.length c).ownBlock ∨ ∃ q, w.heap.size ≤ q ∧ (Value.slice x' (rs.length + 1) c').ownBlock = some q) (hr : addR rs b = rs ++ [(b, 1)]) :
    AddP w lb size rs x c b (wn.setCell ⟨lb, 1, none⟩ (.slice x' (rs.length + 1) c')) := by
  have hl : (addR rs b).length = rs.length + 1 := by rw [hr]; simp
  have hv : runsV (addR rs b) = runsV rs ++ [.int .i64 b, .int .i64 1] := by rw [hr, runsV_append]; rfl
  have hlt := h.cells.lt
  have hcn : CellsA wn lb 65 [.int .i64 size, .slice x rs.length c] := h.cells.upd hu (fun e => h.ne _ e rfl)
  have hus : Upd (fun q => q = lb) wn (wn.setCell ⟨lb, 1, none⟩ (.slice x' (rs.length + 1) c')) := (Upd.refl _ _).setCell _ (.inl rfl)
  have hne : ∀ q, (Value.slice x' (rs.length + 1) c').ownBlock = some q → q ≠ lb := fun q hq => by
    rcases hb with e | ⟨q', e1, e2⟩
    · rw [e] at hq; exact h.ne q hq
    · rw [e2] at hq; cases hq; omega
  refine ⟨x', c', ⟨?_, ?_, ?_, ?_⟩, (hu.mono (fun q _ e => .inr e)).trans (hus.mono (fun q _ e => .inl e)), ?_⟩
  · rw [hl]; exact hcn.set 1 _
  · rw [hl, hv]; exact hm.upd hus (fun q hq e => hne q hq e)
  · rw [hl]; exact hw.upd hus (fun q hq e => hne q hq e) hm.lt
  · rw [hl]; exact hne
  · rw [hl]
    rintro q (e | e)
    · exact .inl (.inl e)
    · rcases hb with e1 | ⟨q', e1, e2⟩
      · rw [e1] at e; exact .inl (.inr e)
      · rw [e2] at e; cases e; exact .inr e1
set_option maxHeartbeats 4000000 in
theorem add_ok {w : World} {lb size : Nat} {rs : List Run} {x : Option Addr} {c : Nat} (h : ListAt w lb size rs x c) (hok : RunsOk rs) (hlen : rs.length ≤ 100000) (b : Nat) (hb : b ≤ 4096) :
    Calls Try.prog 21 #[.pointer (some ⟨lb, 0, none⟩), .int .i64 (b : Nat)] w fun e w' => e = .returned (.tuple #[]) ∧ AddP w lb size rs x c b w' := by
  obtain ⟨n, hn⟩ : ∃ n, rs.length = n := ⟨_, rfl⟩
  have hnI : (n : Int) ≤ 100000 := by omega
  have hbI : (b : Int) ≤ 4096 := by omega
  have c1 := h.cells.cell 1
  simp only [List.getElem?_cons_zero, List.getElem?_cons_succ] at c1
  rw [hn] at c1
  have H := Lib.hid (And.intro h (And.intro hok (And.intro hlen hn)))
  clear h hok hlen
  have hd : Upd (fun _ => False) w w.drew := (Upd.refl _ w).drew
  have hLd := H.out.1.upd hd (fun _ _ h => h)
  rcases Nat.eq_zero_or_pos n with h0 | h0
  · subst h0
    have hnew : addR rs b = rs ++ [(b, 1)] := addR_new (fun r hr => by rw [List.eq_nil_of_length_eq_zero hn] at hr; cases hr)
    have H1 := Lib.hid (And.intro hLd (And.intro hd hnew))
    have HN := Lib.hid hn
    have HS : w.drew.cell? ⟨lb, 1, none⟩ = some (.slice x 0 c) := c1
    clear hLd hd hnew hn
    go_enter Try.func21, Try.ntmps21
    go_wp2_with fail
    refine wp_region_planD (fun u => u.cell? ⟨lb, 1, none⟩ = some (.slice x 0 c)) 34 [(0, true), (1, true), (2, true), (3, true), (4, true), (5, true), (6, true), (7, true), (8, true), (9, true), (10, true), (11, true), (12, true), (13, true), (14, true), (15, true), (16, true), (17, true), (18, true), (19, true), (20, true), (21, true), (22, true), (23, true), (24, true), (25, true), (26, true), (27, true), (28, true), (29, true), (30, true), (31, true), (32, true), (33, true)] (by kernel_rfl) (by kernel_rfl) (fun d _ _ _ _ h => by cases d <;> exact h) HS ?_
    iterate 3 (first | (apply planD_held rfl rfl rfl (by simp) HS; (intro w' hS K hK; go_simp; exact hK)) | (apply planD_wanted rfl rfl rfl (by simp) HS; (intro w' hS K hK; go_simp; exact hK)))
    iterate 19 (refine planD_skipd rfl rfl rfl ?_; try (simp only [Act.put, List.setIfInBounds_toArray, List.set_cons_zero, List.set_cons_succ]))
    iterate 2 (first | (apply planD_held rfl rfl rfl (by simp) HS; (intro w' hS K hK; go_simp; exact hK)) | (apply planD_wanted rfl rfl rfl (by simp) HS; (intro w' hS K hK; go_simp; exact hK)))
    iterate 9 (refine planD_skipd rfl rfl rfl ?_; try (simp only [Act.put, List.setIfInBounds_toArray, List.set_cons_zero, List.set_cons_succ]))
    iterate 1 (first | (apply planD_held rfl rfl rfl (by simp) HS; (intro w' hS K hK; go_simp; exact hK)) | (apply planD_wanted rfl rfl rfl (by simp) HS; (intro w' hS K hK; go_simp; exact hK)))
    refine planD_nil ?_
    have hc1 := HS
    clear HS c1
    generalize w.drew = w1 at *
    go_wp2_with ((with_reducible apply wpl_append_whole 86 2 16 _ (.slice x 0 c) 0 (runsV rs) 1 [.int .i64 b, .int .i64 1]))
    · exact Try.underlying63
    · exact infoRun
    · rfl
    · rfl
    · rw [← HN.out]; exact H1.out.1.mid.upd ((Upd.refl (fun _ => False) w1).alloc _) (fun _ _ h => h)
    · rw [← HN.out]; exact H1.out.1.whole.upd ((Upd.refl (fun _ => False) w1).alloc _) (fun _ _ h => h) H1.out.1.mid.lt
    · exact Sees.at rfl (by decide) (rangeAt_of_row (heap_alloc_new w1 (.cells ([.int .i64 b, .int .i64 1] : List Value).toArray 86)) rfl)
    · intro u hu; simp at hu; rcases hu with rfl | rfl <;> rfl
    · unfold maxLen; omega
    · omega
    intro x' c' w4 hm4 hu4 hb4 hw4
    try (simp only [Act.put, List.setIfInBounds_toArray, List.set_cons_zero, List.set_cons_succ])
    have ha4 : Upd (fun _ => False) w1 (w1.alloc (.cells #[.int .i64 b, .int .i64 1] 86)) := (Upd.refl _ w1).alloc _
    have hu14 : Upd (fun q => (Value.slice x rs.length c).ownBlock = some q) w1 w4 := by
      rw [HN.out]; exact (ha4.mono (fun _ _ h => h.elim)).trans hu4
    have hfz : w4.frozen? ⟨lb, 1, none⟩ = false := (H1.out.1.cells.upd hu14 (fun e => H1.out.1.ne _ e rfl)).frozen 1
    have hcx : w4.cell? ⟨lb, 1, none⟩ = some (.slice x rs.length c) := (H1.out.1.cells.upd hu14 (fun e => H1.out.1.ne _ e rfl)).cell 1
    have hb5 : (Value.slice x' (rs.length + 1) c').ownBlock = (Value.slice x rs.length c).ownBlock ∨ ∃ q, w1.heap.size ≤ q ∧ (Value.slice x' (rs.length + 1) c').ownBlock = some q := by
      rw [HN.out]
      rcases hb4 with e | e
      · exact .inl e
      · exact .inr ⟨_, by simp, e⟩
    have hpost := list_new (b := b) H1.out.1 hu14 (by rw [HN.out]; exact hm4) (by rw [HN.out]; exact hw4) hb5 H1.out.2.2
    rw [HN.out] at hpost
    have Hpost := Lib.hid hpost
    clear hpost hb5 hu14 ha4 hm4 hu4 hb4 hw4
    go_wp2_with fail
    go_end0
    obtain ⟨x9, c9, g1, g2, g3⟩ := Hpost.out
    exact ⟨rfl, x9, c9, g1, (H1.out.2.1.mono (fun _ _ h => h.elim)).trans g2, fun q hq => (g3 q hq).imp id (fun e => Nat.le_trans H1.out.2.1.size e)⟩
  · have hk : n - 1 < rs.length := by omega
    obtain ⟨r, hr⟩ : ∃ r, rs[n - 1] = r := ⟨_, rfl⟩
    have hgl : rs.getLast? = some r := by rw [List.getLast?_eq_getElem?, hn, List.getElem?_eq_getElem hk, hr]
    have hro := H.out.2.1 r (hr ▸ List.getElem_mem _)
    obtain ⟨g, o, rfl, hrg⟩ := hLd.run (n - 1) hk
    rw [hr] at hrg
    obtain ⟨f1, hf1⟩ : ∃ f1, r.1 = f1 := ⟨_, rfl⟩
    obtain ⟨n1, hn1⟩ : ∃ n1, r.2 = n1 := ⟨_, rfl⟩
    have hg0 : w.drew.cell? ⟨g, o + (n - 1) * 2, none⟩ = some (.int .i64 f1) := by have := hrg 0 _ rfl; rw [hf1] at this; exact this
    have hg1 : w.drew.cell? ⟨g, o + (n - 1) * 2 + 1, none⟩ = some (.int .i64 n1) := by have := hrg 1 _ rfl; rw [hn1] at this; exact this
    rw [hf1, hn1] at hro
    have hf1I : (f1 : Int) ≤ 4096 := by omega
    have hn1I : (n1 : Int) ≤ 255 := by omega
    obtain ⟨k, hkn⟩ : ∃ k, n - 1 = k := ⟨_, rfl⟩
    rw [hkn] at hg0 hg1
    have en : (n : Int) - 1 = (k : Int) := by omega
    have hkI : (k : Int) < (n : Int) := by omega
    have hk0 : (0 : Int) ≤ (k : Int) := by omega
    have hk1 : decide ((0 : Int) ≤ (k : Int)) = true := by simp
    have hk2 : decide ((k : Int) ≥ 0) = true := by simp
    have hk3 : (0 : Int) ≤ (n : Int) - 1 := by omega
    have HN := Lib.hid hn
    have HS : w.drew.cell? ⟨lb, 1, none⟩ = some (.slice (some ⟨g, o, none⟩) n c) ∧ w.drew.cell? ⟨g, o + k * 2, none⟩ = some (.int .i64 f1) ∧ w.drew.cell? ⟨g, o + k * 2 + 1, none⟩ = some (.int .i64 n1) := ⟨c1, hg0, hg1⟩
    have HK := Lib.hid (And.intro hgl (And.intro hr (And.intro hf1 (And.intro hn1 (And.intro hkn hrg)))))
    by_cases hc1 : f1 + n1 = b
    · by_cases hc2 : n1 < 255
      · skip
        have hnew := addR_length HK.out.1 (b := b) (by rw [HK.out.2.2.1, HK.out.2.2.2.1]; exact ⟨hc1, hc2⟩)
        have H1 := Lib.hid (And.intro hLd (And.intro hd hnew))
        have q1 : (f1 : Int) + (n1 : Int) = (b : Int) := by omega
        have qw : IntKind.i64.wrap (b : Int) = (b : Int) := by rw [IntKind.wrap_i64]; omega
        have q2 : (n1 : Int) < 255 := by omega
        clear hLd hd hnew hc1 hc2 hn
        go_enter Try.func21, Try.ntmps21
        go_wp2_with fail
        try simp only [en]
        refine wp_region_planD (fun u => u.cell? ⟨lb, 1, none⟩ = some (.slice (some ⟨g, o, none⟩) n c) ∧ u.cell? ⟨g, o + k * 2, none⟩ = some (.int .i64 f1) ∧ u.cell? ⟨g, o + k * 2 + 1, none⟩ = some (.int .i64 n1)) 34 [(0, true), (1, true), (2, true), (3, true), (4, true), (5, true), (6, true), (7, true), (8, true), (9, true), (10, true), (11, true), (12, true), (13, true), (14, true), (15, true), (16, true), (17, true), (18, true), (19, true), (20, true), (21, true), (22, true), (23, true), (24, true), (25, true), (26, true), (27, true), (28, true), (29, true), (30, true), (31, true), (32, true), (33, true)] (by kernel_rfl) (by kernel_rfl) (fun d _ _ _ _ h => by cases d <;> exact h) HS ?_
        iterate 34 (first | (apply planD_held rfl rfl rfl (by simp) HS; (intro w' hS K hK; go_simp; exact hK)) | (apply planD_wanted rfl rfl rfl (by simp) HS; (intro w' hS K hK; go_simp; exact hK)))
        refine planD_nil ?_
        have hc1 := HS.1
        have hgn := HS.2.2
        have hth := H1.out.1.whole g o n c (by rw [HN.out])
        have hcap : n ≤ c := by
          have := H1.out.1.mid
          rw [HN.out] at this
          obtain ⟨_, ⟨e, _⟩ | ⟨g', o', cap, e, e1, _⟩⟩ := this
          · cases e
          · cases e; exact e1
        have hfz := (hth (k * 2 + 1) (by omega)).2
        rw [← Nat.add_assoc] at hfz
        clear HS c1 hg0 hg1 hrg hth hcap
        generalize w.drew = w1 at *
        go_wp2_with fail
        (try simp only [Exit.inBlock, Exit.then])
        refine bodyPost_ret (results_none rfl _ _ _) rfl ?_
        have hg := list_grow (f1 := f1) (n1 := n1) H1.out.1 HN.out HK.out.2.2.2.2.1 h0 (by rw [HK.out.1, ← HK.out.2.2.1, ← HK.out.2.2.2.1]) (by rw [← HK.out.2.2.1, ← HK.out.2.2.2.1]; exact H1.out.2.2)
        refine ⟨rfl, _, _, hg, (H1.out.2.1.mono (fun _ _ h => h.elim)).trans ((Upd.refl _ w1).setCell _ (.inl (.inr rfl))), fun q hq => ?_⟩
        rw [H1.out.2.2.2] at hq
        exact .inl hq
      · skip
        have hnew : addR rs b = rs ++ [(b, 1)] := addR_new (fun r' hr' => by rw [HK.out.1] at hr'; cases hr'; rw [HK.out.2.2.1, HK.out.2.2.2.1]; exact fun e => hc2 e.2)
        have H1 := Lib.hid (And.intro hLd (And.intro hd hnew))
        have q1 : (f1 : Int) + (n1 : Int) = (b : Int) := by omega
        have qw : IntKind.i64.wrap (b : Int) = (b : Int) := by rw [IntKind.wrap_i64]; omega
        have q2 : (255 : Int) ≤ (n1 : Int) := by omega
        clear hLd hd hnew hc1 hc2 hn
        go_enter Try.func21, Try.ntmps21
        go_wp2_with fail
        try simp only [en]
        refine wp_region_planD (fun u => u.cell? ⟨lb, 1, none⟩ = some (.slice (some ⟨g, o, none⟩) n c) ∧ u.cell? ⟨g, o + k * 2, none⟩ = some (.int .i64 f1) ∧ u.cell? ⟨g, o + k * 2 + 1, none⟩ = some (.int .i64 n1)) 34 [(0, true), (1, true), (2, true), (3, true), (4, true), (5, true), (6, true), (7, true), (8, true), (9, true), (10, true), (11, true), (12, true), (13, true), (14, true), (15, true), (16, true), (17, true), (18, true), (19, true), (20, true), (21, true), (22, true), (23, true), (24, true), (25, true), (26, true), (27, true), (28, true), (29, true), (30, true), (31, true), (32, true), (33, true)] (by kernel_rfl) (by kernel_rfl) (fun d _ _ _ _ h => by cases d <;> exact h) HS ?_
        iterate 34 (first | (apply planD_held rfl rfl rfl (by simp) HS; (intro w' hS K hK; go_simp; exact hK)) | (apply planD_wanted rfl rfl rfl (by simp) HS; (intro w' hS K hK; go_simp; exact hK)))
        refine planD_nil ?_
        have hc1 := HS.1
        clear HS c1 hg0 hg1 hrg
        generalize w.drew = w1 at *
        go_wp2_with ((with_reducible apply wpl_append_whole 86 2 16 _ (.slice (some ⟨g, o, none⟩) n c) n (runsV rs) 1 [.int .i64 b, .int .i64 1]))
        · exact Try.underlying63
        · exact infoRun
        · rfl
        · rfl
        · rw [← HN.out]; exact H1.out.1.mid.upd ((Upd.refl (fun _ => False) w1).alloc _) (fun _ _ h => h)
        · rw [← HN.out]; exact H1.out.1.whole.upd ((Upd.refl (fun _ => False) w1).alloc _) (fun _ _ h => h) H1.out.1.mid.lt
        · exact Sees.at rfl (by decide) (rangeAt_of_row (heap_alloc_new w1 (.cells ([.int .i64 b, .int .i64 1] : List Value).toArray 86)) rfl)
        · intro u hu; simp at hu; rcases hu with rfl | rfl <;> rfl
        · unfold maxLen; omega
        · omega
        intro x' c' w4 hm4 hu4 hb4 hw4
        try (simp only [Act.put, List.setIfInBounds_toArray, List.set_cons_zero, List.set_cons_succ])
        have ha4 : Upd (fun _ => False) w1 (w1.alloc (.cells #[.int .i64 b, .int .i64 1] 86)) := (Upd.refl _ w1).alloc _
        have hu14 : Upd (fun q => (Value.slice (some ⟨g, o, none⟩) rs.length c).ownBlock = some q) w1 w4 := by
          rw [HN.out]; exact (ha4.mono (fun _ _ h => h.elim)).trans hu4
        have hfz : w4.frozen? ⟨lb, 1, none⟩ = false := (H1.out.1.cells.upd hu14 (fun e => H1.out.1.ne _ e rfl)).frozen 1
        have hcx : w4.cell? ⟨lb, 1, none⟩ = some (.slice (some ⟨g, o, none⟩) rs.length c) := (H1.out.1.cells.upd hu14 (fun e => H1.out.1.ne _ e rfl)).cell 1
        have hb5 : (Value.slice x' (rs.length + 1) c').ownBlock = (Value.slice (some ⟨g, o, none⟩) rs.length c).ownBlock ∨ ∃ q, w1.heap.size ≤ q ∧ (Value.slice x' (rs.length + 1) c').ownBlock = some q := by
          rw [HN.out]
          rcases hb4 with e | e
          · exact .inl e
          · exact .inr ⟨_, by simp, e⟩
        have hpost := list_new (b := b) H1.out.1 hu14 (by rw [HN.out]; exact hm4) (by rw [HN.out]; exact hw4) hb5 H1.out.2.2
        rw [HN.out] at hpost
        have Hpost := Lib.hid hpost
        clear hpost hb5 hu14 ha4 hm4 hu4 hb4 hw4
        go_wp2_with fail
        go_end0
        obtain ⟨x9, c9, g1, g2, g3⟩ := Hpost.out
        exact ⟨rfl, x9, c9, g1, (H1.out.2.1.mono (fun _ _ h => h.elim)).trans g2, fun q hq => (g3 q hq).imp id (fun e => Nat.le_trans H1.out.2.1.size e)⟩
    · skip
      have hnew : addR rs b = rs ++ [(b, 1)] := addR_new (fun r' hr' => by rw [HK.out.1] at hr'; cases hr'; rw [HK.out.2.2.1, HK.out.2.2.2.1]; exact fun e => hc1 e.1)
      have H1 := Lib.hid (And.intro hLd (And.intro hd hnew))
      have q1 : ((f1 : Int) + (n1 : Int) == (b : Int)) = false := by simp; omega
      have qw : IntKind.i64.wrap ((f1 : Int) + (n1 : Int)) = (f1 : Int) + (n1 : Int) := by rw [IntKind.wrap_i64]; omega
      clear hLd hd hnew hc1 hn
      go_enter Try.func21, Try.ntmps21
      go_wp2_with fail
      try simp only [en]
      refine wp_region_planD (fun u => u.cell? ⟨lb, 1, none⟩ = some (.slice (some ⟨g, o, none⟩) n c) ∧ u.cell? ⟨g, o + k * 2, none⟩ = some (.int .i64 f1) ∧ u.cell? ⟨g, o + k * 2 + 1, none⟩ = some (.int .i64 n1)) 34 [(0, true), (1, true), (2, true), (3, true), (4, true), (5, true), (6, true), (7, true), (8, true), (9, true), (10, true), (11, true), (12, true), (13, true), (14, true), (15, true), (16, true), (17, true), (18, true), (19, true), (20, true), (21, true), (22, true), (23, true), (24, true), (25, true), (26, true), (27, true), (28, true), (29, true), (30, true), (31, true), (32, true), (33, true)] (by kernel_rfl) (by kernel_rfl) (fun d _ _ _ _ h => by cases d <;> exact h) HS ?_
      iterate 24 (first | (apply planD_held rfl rfl rfl (by simp) HS; (intro w' hS K hK; go_simp; exact hK)) | (apply planD_wanted rfl rfl rfl (by simp) HS; (intro w' hS K hK; go_simp; exact hK)))
      iterate 9 (refine planD_skipd rfl rfl rfl ?_; try (simp only [Act.put, List.setIfInBounds_toArray, List.set_cons_zero, List.set_cons_succ]))
      iterate 1 (first | (apply planD_held rfl rfl rfl (by simp) HS; (intro w' hS K hK; go_simp; exact hK)) | (apply planD_wanted rfl rfl rfl (by simp) HS; (intro w' hS K hK; go_simp; exact hK)))
      refine planD_nil ?_
      have hc1 := HS.1
      clear HS c1 hg0 hg1 hrg
      generalize w.drew = w1 at *
      go_wp2_with ((with_reducible apply wpl_append_whole 86 2 16 _ (.slice (some ⟨g, o, none⟩) n c) n (runsV rs) 1 [.int .i64 b, .int .i64 1]))
      · exact Try.underlying63
      · exact infoRun
      · rfl
      · rfl
      · rw [← HN.out]; exact H1.out.1.mid.upd ((Upd.refl (fun _ => False) w1).alloc _) (fun _ _ h => h)
      · rw [← HN.out]; exact H1.out.1.whole.upd ((Upd.refl (fun _ => False) w1).alloc _) (fun _ _ h => h) H1.out.1.mid.lt
      · exact Sees.at rfl (by decide) (rangeAt_of_row (heap_alloc_new w1 (.cells ([.int .i64 b, .int .i64 1] : List Value).toArray 86)) rfl)
      · intro u hu; simp at hu; rcases hu with rfl | rfl <;> rfl
      · unfold maxLen; omega
      · omega
      intro x' c' w4 hm4 hu4 hb4 hw4
      try (simp only [Act.put, List.setIfInBounds_toArray, List.set_cons_zero, List.set_cons_succ])
      have ha4 : Upd (fun _ => False) w1 (w1.alloc (.cells #[.int .i64 b, .int .i64 1] 86)) := (Upd.refl _ w1).alloc _
      have hu14 : Upd (fun q => (Value.slice (some ⟨g, o, none⟩) rs.length c).ownBlock = some q) w1 w4 := by
        rw [HN.out]; exact (ha4.mono (fun _ _ h => h.elim)).trans hu4
      have hfz : w4.frozen? ⟨lb, 1, none⟩ = false := (H1.out.1.cells.upd hu14 (fun e => H1.out.1.ne _ e rfl)).frozen 1
      have hcx : w4.cell? ⟨lb, 1, none⟩ = some (.slice (some ⟨g, o, none⟩) rs.length c) := (H1.out.1.cells.upd hu14 (fun e => H1.out.1.ne _ e rfl)).cell 1
      have hb5 : (Value.slice x' (rs.length + 1) c').ownBlock = (Value.slice (some ⟨g, o, none⟩) rs.length c).ownBlock ∨ ∃ q, w1.heap.size ≤ q ∧ (Value.slice x' (rs.length + 1) c').ownBlock = some q := by
        rw [HN.out]
        rcases hb4 with e | e
        · exact .inl e
        · exact .inr ⟨_, by simp, e⟩
      have hpost := list_new (b := b) H1.out.1 hu14 (by rw [HN.out]; exact hm4) (by rw [HN.out]; exact hw4) hb5 H1.out.2.2
      rw [HN.out] at hpost
      have Hpost := Lib.hid hpost
      clear hpost hb5 hu14 ha4 hm4 hu4 hb4 hw4
      go_wp2_with fail
      go_end0
      obtain ⟨x9, c9, g1, g2, g3⟩ := Hpost.out
      exact ⟨rfl, x9, c9, g1, (H1.out.2.1.mono (fun _ _ h => h.elim)).trans g2, fun q hq => (g3 q hq).imp id (fun e => Nat.le_trans H1.out.2.1.size e)⟩
end Go.Proofs.Ytmefbbmjamdnjaa
