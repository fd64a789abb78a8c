/- docketref04: Full, find, At, Read. -/
import Derived.Test.YtihlijnobbonbaaGreatPa8
import Derived.Lib.BufferWrite
import Derived.Deep.WholeRow
namespace Go.Proofs.YtihlijnobbonbaaGreat
open Go Go.RowKit
set_option linter.unusedSimpArgs false
set_option linter.unusedVariables false
set_option maxRecDepth 100000

theorem infoU8r : (Tryz.prog.info? 5).map (fun i => (i.zero, i.size, i.bytes)) = some (some (.int .u8 0), 1, 1) := by kernel_rfl
theorem made_512 (u : World) : (Instr.makeSlice 38 (.int .i64 512) (.int .i64 512)).run Tryz.prog u = .ok (.slice (some ⟨u.heap.size, 0, none⟩) 512 512) (u.alloc (.cells (bvs zeros512).toArray 5)) := by
  obtain ⟨i, hi, hz0, hz1, hz2⟩ := info_parts infoU8r
  have h := run_make (P := Tryz.prog) u 38 5 i _ Tryz.underlying38 hi hz0 .i64 .i64 512 512 (by omega) (Int.le_refl _) (by rw [hz2]; omega) (by omega)
  rw [hz1] at h
  refine h.trans ?_
  have e1 : ((512 : Int)).toNat = 512 := by omega
  have e2 : madeCells (Value.int .u8 0).cells (512 * 1) = (bvs zeros512).toArray := by
    rw [Nat.mul_one]
    have := toList_madeCells_one (.int .u8 0) 512
    apply Array.toList_inj.1
    rw [show (Value.int .u8 0).cells = #[.int .u8 0] from rfl, this]
    simp only [bvs, zeros512, List.map_replicate]
    rfl
  rw [e1, e2]

theorem full_ok (s : ByteArray) (w : World) (hs : s.size ≤ 512) :
    Calls Tryz.prog 25 #[.string s] w fun e w' => e = .returned (.string (strV (pad s.data.toList))) ∧ Upd (fun _ => False) w w' := by
  have hmk := made_512 w
  have hl : s.data.toList.length = s.size := by rw [Array.length_toList]; rfl
  have hrow : (List.take 0 (bvs zeros512).toArray.toList ++ Lib.byteCells s.data.toList ++ List.drop (0 + s.size) (bvs zeros512).toArray.toList) = bvs (pad s.data.toList) := by
    have e1 : Lib.byteCells s.data.toList = bvs s.data.toList := rfl
    rw [e1, List.take_zero, List.nil_append, Nat.zero_add, pad, bvs_append, hl]
    congr 1
    show List.drop s.size (bvs zeros512) = bvs (List.replicate (512 - s.size) 0)
    rw [zeros512, bvs, bvs, List.map_replicate, List.map_replicate, List.drop_replicate]
  have hcp : ∀ ty, (Builtin.copy_ #[38, 9] ty #[.slice (some ⟨w.heap.size, 0, none⟩) 512 512, .string s]).run Tryz.prog (w.alloc (.cells (bvs zeros512).toArray 5)) =
      .ok (goInt s.size) (w.alloc (.cells (bvs (pad s.data.toList)).toArray 5)) := fun ty => by
    have h := Lib.run_copy_row_string (P := Tryz.prog) (w.alloc (.cells (bvs zeros512).toArray 5)) 38 9 ty 5 w.heap.size 0 512 512 s (bvs zeros512).toArray 5 Tryz.underlying38 (by kernel_rfl) (heap_alloc_new w _) hs (by simp [bvs_length, zeros512_length]; exact hs)
    rw [hrow, World.setRow_alloc_new] at h
    exact h
  have hcv : (convert 38 9 (.slice (some ⟨w.heap.size, 0, none⟩) 512 512)).run Tryz.prog (w.alloc (.cells (bvs (pad s.data.toList)).toArray 5)) = .ok (.string (strV (pad s.data.toList))) (w.alloc (.cells (bvs (pad s.data.toList)).toArray 5)) := by
    refine run_bytes_string 38 5 9 Tryz.underlying38 Tryz.underlying5 Tryz.underlying9 _ _ ?_
    have h := Sees.at (w := w.alloc (.cells (bvs (pad s.data.toList)).toArray 5)) (size := 1) (n := 512) (c := 512) (xs := bvs (pad s.data.toList)) (b := w.heap.size) (off := 0) (by rw [bvs_length, pad_length (by omega)]) (by decide) (rangeAt_of_row (heap_alloc_new w _) (by simp))
    have e : (pad s.data.toList).length = 512 := pad_length (by omega)
    rw [e]
    exact h
  have HU : Hid (Upd (fun _ => False) w (w.alloc (.cells (bvs (pad s.data.toList)).toArray 5))) := (Upd.refl _ w).alloc _
  clear hrow hl
  go_enter Tryz.func25, Tryz.ntmps25
  go_wp2_with fail
  go_ret
  exact ⟨rfl, HU.out⟩

theorem full_nil (w : World) : Calls Tryz.prog 25 #[.string ⟨#[]⟩] w fun e w' => e = .returned (.string (strV zeros512)) ∧ Upd (fun _ => False) w w' := by
  have h := full_ok ⟨#[]⟩ w (by decide)
  have e : pad (⟨#[]⟩ : ByteArray).data.toList = zeros512 := by simp [pad, zeros512]
  rwa [e] at h
/-! A list of puts. -/
def putC (p : Int × Bytes) : List Value := [.int .i64 p.1, .string (strV p.2)]
theorem putC_length (p : Int × Bytes) : (putC p).length = 2 := rfl
def putsC (l : Img) : List Value := l.flatMap putC
theorem putsC_length (l : Img) : (putsC l).length = l.length * 2 := flat_length putC 2 l (fun p _ => putC_length p)
/-- The last one of a block. -/
def findL (l : Img) (b : Int) : Option Bytes := l.foldl (fun s p => if p.1 = b then some p.2 else s) none
theorem findL_snoc (l : Img) (p : Int × Bytes) (b : Int) : findL (l ++ [p]) b = if p.1 = b then some p.2 else findL l b := by simp [findL]
theorem findL_from (b : Int) : ∀ (l : Img) (s : Option Bytes), l.foldl (fun s p => if p.1 = b then some p.2 else s) s = (findL l b).or s
  | [], s => by simp [findL]
  | p :: r, s => by
    have e : findL (p :: r) b = (findL r b).or (if p.1 = b then some p.2 else none) := by
      show List.foldl _ (if p.1 = b then some p.2 else none) r = _
      rw [findL_from b r]
    rw [List.foldl_cons, findL_from b r, e]
    by_cases h : p.1 = b
    · simp only [h, if_true]; cases findL r b <;> simp
    · simp only [h, if_false]; cases findL r b <;> simp
theorem findL_none {b : Int} : ∀ {l : Img}, b ∉ keysB l → findL l b = none
  | [], _ => rfl
  | p :: r, h => by
    have h' : b ≠ p.1 ∧ b ∉ keysB r := by simpa [keysB] using h
    show List.foldl _ (if p.1 = b then some p.2 else none) r = _
    rw [if_neg (fun e => h'.1 e.symm), findL_from, findL_none h'.2]; rfl
theorem findL_look {b : Int} : ∀ {l : Img}, (keysB l).Nodup → findL l b = lookB l b
  | [], _ => rfl
  | p :: r, h => by
    have h' : p.1 ∉ keysB r ∧ (keysB r).Nodup := List.nodup_cons.1 h
    show List.foldl _ (if p.1 = b then some p.2 else none) r = _
    rw [findL_from, lookB]
    by_cases e : b = p.1
    · rw [if_pos e.symm, if_pos e, findL_none (e ▸ h'.1)]; rfl
    · rw [if_neg (fun e2 => e e2.symm), if_neg e, findL_look h'.2, Option.or_none]
set_option maxHeartbeats 2000000 in
theorem find_ok (xa : Option Addr) (xc : Nat) (l : Img) (i : Int) (w : World) (hl : Sees w 2 (.slice xa l.length xc) l.length (putsC l)) :
    Calls Tryz.prog 50 #[.slice xa l.length xc, .int .i64 i] w fun e w' => e = .returned (.tuple #[.string (strV ((findL l i).getD [])), .bool (findL l i).isSome]) ∧ w = w' := by
  have hll : (l.length : Int) ≤ 9223372036854775807 := by have := hl.2.1; unfold maxLen at this; omega
  have Hl := Lib.hid hl
  clear hl
  have Hs0 : Hid ((⟨#[]⟩ : ByteArray) = strV ((findL (l.take 0) i).getD []) ∧ false = (findL (l.take 0) i).isSome) := ⟨rfl, rfl⟩
  go_enter Tryz.func50, Tryz.ntmps50
  go_wp2_with fail
  go_loop [6, 7, 8] (fun s o v => ∃ k : Nat, k ≤ l.length ∧ v = .int .i64 k ∧ s = .string (strV ((findL (l.take k) i).getD [])) ∧ o = .bool (findL (l.take k) i).isSome) (fun _ _ v => l.length - (intOf v).toNat)
  case atStart => exact ⟨0, by omega, rfl, by rw [← Hs0.out.1], by rw [← Hs0.out.2]⟩
  case round =>
    obtain ⟨k, hk, rfl, rfl, rfl⟩ := hrel
    by_cases hlt : k < l.length
    · have hlt2 : (k : Int) < (l.length : Int) := by omega
      obtain ⟨p, hp⟩ : ∃ p, l[k] = p := ⟨_, rfl⟩
      have hst : findL (l.take (k + 1)) i = if p.1 = i then some p.2 else findL (l.take k) i := by rw [List.take_succ_eq_append_getElem hlt, findL_snoc, hp]
      obtain ⟨_, _, x', c', e', hc⟩ := Hl.out
      cases e'
      obtain ⟨g, off, rfl, hr⟩ := hc (by omega)
      have hcell : ∀ r v, r < 2 → (putC p)[r]? = some v → w.cell? ⟨g, off + k * 2 + r, none⟩ = some v := fun r v hr2 hv => by
        have := flat_cell putC 2 l (fun x _ => putC_length x) k r hlt hr2
        rw [hp, hv] at this
        rw [Nat.add_assoc]
        exact hr _ _ this
      have c0 : w.cell? ⟨g, off + k * 2, none⟩ = some (.int .i64 p.1) := hcell 0 _ (by decide) rfl
      have c1 : w.cell? ⟨g, off + k * 2 + 1, none⟩ = some (.string (strV p.2)) := hcell 1 _ (by decide) rfl
      obtain ⟨s1, hs1⟩ : ∃ s1, strV ((findL (l.take k) i).getD []) = s1 := ⟨_, rfl⟩
      obtain ⟨o1, ho1⟩ : ∃ o1, (findL (l.take k) i).isSome = o1 := ⟨_, rfl⟩
      obtain ⟨s2, hs2⟩ : ∃ s2, strV p.2 = s2 := ⟨_, rfl⟩
      obtain ⟨p1, hp1⟩ : ∃ p1, p.1 = p1 := ⟨_, rfl⟩
      rw [hs1, ho1]
      rw [hs2] at c1
      rw [hp1] at c0 hst
      have Hst := Lib.hid (And.intro hst (And.intro hs1 (And.intro ho1 hs2)))
      clear hst hs1 hs2 ho1 hcell hr hc hp hp1
      by_cases he : p1 = i
      · have he1 : (p1 == i) = true := by rw [he]; simp
        have hnew : strV ((findL (l.take (k + 1)) i).getD []) = s2 ∧ (findL (l.take (k + 1)) i).isSome = true := by rw [Hst.out.1, if_pos he]; exact ⟨Hst.out.2.2.2, rfl⟩
        have Hnew := Lib.hid hnew
        clear he hnew
        go_wp2_with fail
        exact ⟨⟨k + 1, by omega, by go_num, by rw [Hnew.out.1], by rw [Hnew.out.2]⟩, by simp [intOf]; omega⟩
      · have he1 : (p1 == i) = false := by simpa using he
        have hnew : strV ((findL (l.take (k + 1)) i).getD []) = s1 ∧ (findL (l.take (k + 1)) i).isSome = o1 := by rw [Hst.out.1, if_neg he]; exact ⟨Hst.out.2.1, Hst.out.2.2.1⟩
        have Hnew := Lib.hid hnew
        clear he hnew
        go_wp2_with fail
        exact ⟨⟨k + 1, by omega, by go_num, by rw [Hnew.out.1], by rw [Hnew.out.2]⟩, by simp [intOf]; omega⟩
    · obtain rfl : k = l.length := by omega
      rw [List.take_length]
      go_wp2_with fail
      go_ret2
      exact ⟨rfl, rfl⟩
/-! The answer's memory. -/
/-- Rows of puts, in blocks of A. -/
def PutsAt (w : World) (vs : List Value) (cs : List Img) (A : Nat → Prop) : Prop :=
  vs.length = cs.length ∧ ∀ i (h1 : i < vs.length) (h2 : i < cs.length), Sees w 2 vs[i] cs[i].length (putsC cs[i]) ∧ (∀ k, vs[i].ownBlock = some k → 0 < cs[i].length → A k)
theorem PutsAt.upd {w w' : World} {vs : List Value} {cs : List Img} {A F : Nat → Prop} (h : PutsAt w vs cs A) (hu : Upd F w w') (hA : ∀ k, A k → ¬ F k) : PutsAt w' vs cs A :=
  ⟨h.1, fun i h1 h2 => ⟨(h.2 i h1 h2).1.upd hu (fun k hk h0 => hA k ((h.2 i h1 h2).2 k hk h0)), (h.2 i h1 h2).2⟩⟩
theorem PutsAt.nil (w : World) (A : Nat → Prop) : PutsAt w [] [] A := ⟨rfl, fun i h1 _ => absurd h1 (Nat.not_lt_zero _)⟩
theorem PutsAt.snoc {w : World} {vs : List Value} {cs : List Img} {A A' : Nat → Prop} (h : PutsAt w vs cs A) (v : Value) (c : Img) (hv : Sees w 2 v c.length (putsC c)) (hb : ∀ k, v.ownBlock = some k → 0 < c.length → A' k) (hA : ∀ k, A k → A' k) : PutsAt w (vs ++ [v]) (cs ++ [c]) A' := by
  refine ⟨by simp [h.1], fun i h1 h2 => ?_⟩
  rw [List.length_append, List.length_singleton] at h1 h2
  by_cases hi : i < vs.length
  · have hi2 : i < cs.length := by rw [← h.1]; exact hi
    rw [List.getElem_append_left hi, List.getElem_append_left hi2]
    exact ⟨(h.2 i hi hi2).1, fun k hk h0 => hA k ((h.2 i hi hi2).2 k hk h0)⟩
  · have e1 : i = vs.length := by omega
    have e2 : i = cs.length := by rw [← h.1]; exact e1
    subst e1
    rw [List.getElem_append_right (Nat.le_refl _)]
    have e3 : (cs ++ [c])[vs.length] = c := by
      simp [h.1]
    rw [e3]
    simpa using ⟨hv, hb⟩
theorem PutsAt.take {w : World} {vs : List Value} {cs : List Img} {A : Nat → Prop} (h : PutsAt w vs cs A) (s : Nat) : PutsAt w (vs.take s) (cs.take s) A := by
  refine ⟨by rw [List.length_take, List.length_take, h.1], fun i h1 h2 => ?_⟩
  rw [List.length_take] at h1 h2
  rw [List.getElem_take, List.getElem_take]
  exact h.2 i (by omega) (by omega)
theorem PutsAt.look {w : World} {vs : List Value} {cs : List Img} {A : Nat → Prop} (h : PutsAt w vs cs A) (k : Nat) (hk : k < cs.length) : ∃ x c, vs[k]? = some (.slice x cs[k].length c) ∧ Sees w 2 (.slice x cs[k].length c) cs[k].length (putsC cs[k]) := by
  obtain ⟨h1, h2⟩ := h
  have h3 := h2 k (by omega) hk
  obtain ⟨s1, s2, xo, c, e, s3⟩ := h3.1
  refine ⟨xo, c, ?_, by rw [← e]; exact h3.1⟩
  rw [List.getElem?_eq_getElem (by omega), e]
/-- The answer's pager at rb: its commits cs in the slice x. -/
structure RPg (w : World) (rb N rg : Nat) (cs : List Img) (x : Option Addr) (c : Nat) (vs : List Value) (A : Nat → Prop) : Prop where
  cells : CellsA w rb 48 [.int .i64 N, .int .i64 rg, .slice x cs.length c]
  mid : Mid w 1 (.slice x cs.length c) cs.length vs
  whole : Whole w 1 (.slice x cs.length c)
  rows : PutsAt w vs cs A
  nb : ∀ q, (Value.slice x cs.length c).ownBlock = some q → q ≠ rb ∧ ¬ A q
  na : ¬ A rb
  okC : ∀ p ∈ cs, EsOk N p
  alt : ∀ q, A q → q < w.heap.size
def ownR (rb n : Nat) (x : Option Addr) (c : Nat) (A : Nat → Prop) (q : Nat) : Prop := q = rb ∨ (Value.slice x n c).ownBlock = some q ∨ A q
theorem RPg.upd {w w' : World} {rb N rg : Nat} {cs : List Img} {x : Option Addr} {c : Nat} {vs : List Value} {A H : Nat → Prop} (h : RPg w rb N rg cs x c vs A) (hu : Upd H w w') (hf : ∀ q, ownR rb cs.length x c A q → ¬ H q) : RPg w' rb N rg cs x c vs A :=
  ⟨h.cells.upd hu (hf _ (.inl rfl)), h.mid.upd hu (fun q hq => hf q (.inr (.inl hq))), h.whole.upd hu (fun q hq => hf q (.inr (.inl hq))) h.mid.lt, h.rows.upd hu (fun q hq => hf q (.inr (.inr hq))), h.nb, h.na, h.okC, fun q hq => Nat.lt_of_lt_of_le (h.alt q hq) hu.size⟩
theorem RPg.lt {w : World} {rb N rg : Nat} {cs : List Img} {x : Option Addr} {c : Nat} {vs : List Value} {A : Nat → Prop} (h : RPg w rb N rg cs x c vs A) : ∀ q, ownR rb cs.length x c A q → q < w.heap.size := by
  rintro q (rfl | hq | hq)
  · exact h.cells.lt
  · exact h.mid.lt q hq
  · exact h.alt q hq
set_option maxHeartbeats 4000000 in
theorem at_ok {w : World} {rb N rg : Nat} {cs : List Img} {x : Option Addr} {c : Nat} {vs : List Value} {A : Nat → Prop} (h : RPg w rb N rg cs x c vs A) (b : Int) (k : Nat) (hk : k ≤ 1000000000000000000) :
    Calls Tryz.prog 21 #[.pointer (some ⟨rb, 0, none⟩), .int .i64 b, .int .i64 (k : Nat)] w fun e w' => e = .returned (.string (strV (atC (cs.take k) b))) ∧ Upd (fun _ => False) w w' := by
  obtain ⟨n, hn⟩ : ∃ n, cs.length = n := ⟨_, rfl⟩
  have hnm := h.mid.sees.2.1
  have hnI : (n : Int) ≤ 9223372036854775807 := by simp only [maxLen] at hnm; omega
  have hkI : (k : Int) ≤ 1000000000000000000 := by omega
  have H := Lib.hid (And.intro h hn)
  clear h hnm
  have es : strV [] = ⟨#[]⟩ := rfl
  go_enter Tryz.func21, Tryz.ntmps21
  go_wp2_with fail
  refine (full_nil w).mono ?_
  rintro e w1 ⟨rfl, hu⟩
  dsimp only
  obtain ⟨z, hz⟩ : ∃ z, strV zeros512 = z := ⟨_, rfl⟩
  rw [hz]
  have Hz : Hid (z = strV (atC (cs.take 0) b)) := hz.symm
  have HQ : Hid (RPg w1 rb N rg cs x c vs A ∧ Upd (fun _ => False) w w1) := ⟨H.out.1.upd hu (fun _ _ h => h), hu⟩
  clear hu hz
  go_wp2_with fail
  go_loopw [7, 8] (fun s v wr => ∃ j : Nat, j ≤ n ∧ j ≤ k ∧ v = .int .i64 j ∧ s = .string (strV (atC (cs.take j) b)) ∧ Hid (RPg wr rb N rg cs x c vs A ∧ Upd (fun _ => False) w wr)) (fun _ v _ => n - (intOf v).toNat)
  case atStart => exact ⟨0, Nat.zero_le _, Nat.zero_le _, rfl, by rw [← Hz.out], HQ⟩
  case round =>
    clear HQ
    obtain ⟨j, hj, hjk, rfl, rfl, HR⟩ := hrel
    have c2 := HR.out.1.cells.cell 2
    simp only [List.getElem?_cons_zero, List.getElem?_cons_succ] at c2
    rw [H.out.2] at c2
    obtain ⟨s1, hs1⟩ : ∃ s1, strV (atC (cs.take j) b) = s1 := ⟨_, rfl⟩
    rw [hs1]
    have Hs1 := Lib.hid hs1
    clear hs1
    by_cases hlt : j < n ∧ j < k
    · have hlt1 : (j : Int) < (n : Int) := by omega
      have hlt2 : (j : Int) < (k : Int) := by omega
      have hjc : j < cs.length := by rw [H.out.2]; exact hlt.1
      obtain ⟨p, hp⟩ : ∃ p, cs[j] = p := ⟨_, rfl⟩
      obtain ⟨xr, cr, hv, hse⟩ := HR.out.1.rows.look j hjc
      rw [hp] at hv hse
      have hcell : ∃ g o, x = some ⟨g, o, none⟩ ∧ wr.cell? ⟨g, o + j, none⟩ = some (.slice xr p.length cr) := by
        obtain ⟨hl, ⟨e1, e2⟩ | ⟨g, o, cap, e1, h1, h2, h3, h4, h5⟩⟩ := HR.out.1.mid
        · omega
        · cases e1
          exact ⟨g, o, rfl, h4 j _ hv⟩
      obtain ⟨g, o, rfl, hcell⟩ := hcell
      have hfi := find_ok xr cr p b wr hse
      have hpo : EsOk N p := H.out.1.okC p (hp ▸ List.getElem_mem hjc)
      rw [findL_look hpo.nd] at hfi
      have hat : atC (cs.take (j + 1)) b = (lookB p b).getD (atC (cs.take j) b) := by rw [List.take_succ_eq_append_getElem hjc, atC_append, lastC_one, hp]
      obtain ⟨ol, hol⟩ : ∃ ol, lookB p b = ol := ⟨_, rfl⟩
      rw [hol] at hfi hat
      obtain ⟨pl, hpl⟩ : ∃ pl, p.length = pl := ⟨_, rfl⟩
      rw [hpl] at hfi hcell
      have Hfi := Lib.hid hfi
      have Hat := Lib.hid hat
      clear hv hse hfi hat hp hol hpo hpl hlt hjc
      go_wp2_with fail
      refine Hfi.out.mono ?_
      rintro e w3 ⟨rfl, rfl⟩
      dsimp only
      cases ol with
      | none =>
        go_wp2_with fail
        exact ⟨⟨j + 1, by omega, by omega, by go_num, by rw [Hat.out, ← Hs1.out]; rfl, HR⟩, by simp [intOf]; omega⟩
      | some y =>
        go_wp2_with fail
        exact ⟨⟨j + 1, by omega, by omega, by go_num, by rw [Hat.out]; rfl, HR⟩, by simp [intOf]; omega⟩
    · have hend : atC (cs.take k) b = atC (cs.take j) b := by
        by_cases h1 : j < n
        · have : k = j := by omega
          rw [this]
        · have h3 := H.out.2
          rw [List.take_of_length_le (by omega), List.take_of_length_le (by omega)]
      have Hend := Lib.hid hend
      by_cases hl1 : j < n
      · have hl1I : (j : Int) < (n : Int) := by omega
        have hl2 : ¬ ((j : Int) < (k : Int)) := by omega
        clear hend hlt
        go_wp2_with fail
        go_ret
        exact ⟨by rw [Hend.out, Hs1.out]; rfl, HR.out.2⟩
      · have hl1I : decide (j < n) = false := by simpa using hl1
        clear hend hlt
        go_wp2_with fail
        go_ret
        exact ⟨by rw [Hend.out, Hs1.out]; rfl, HR.out.2⟩
end Go.Proofs.YtihlijnobbonbaaGreat
