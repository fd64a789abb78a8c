/- Package blob: Blocks, Free, Clone; btree.Mem's Free. -/
import Derived.Test.YtmefbbmjamdnjaaLayS
import Derived.Test.YtmefbbmjamdnjaaBb3
namespace Go.Proofs.Ytmefbbmjamdnjaa
open Go Go.RowKit
set_option linter.unusedSimpArgs false
set_option linter.unusedVariables false
set_option maxRecDepth 100000

/-- blocks. -/
def BkW (w wr : World) (n : Nat) (out : List Nat) (y : Option Addr) (d : Nat) : Prop :=
  Mid wr 1 (.slice y n d) n (intsV out) ∧ Whole wr 1 (.slice y n d) ∧ (∀ q, (Value.slice y n d).ownBlock = some q → w.heap.size ≤ q) ∧ Upd (fun _ => False) w wr ∧ out.length = n
set_option maxHeartbeats 4000000 in
theorem blocks_okW {w : World} {lb size : Nat} {rs : List Run} {x : Option Addr} {c : Nat} (h : ListAt w lb size rs x c) (hok : RunsOk rs) (hlen : (runsB rs).length ≤ 100000) :
    Calls Try.prog 24 #[.pointer (some ⟨lb, 0, none⟩)] w fun e w' => ∃ (y : Option Addr) (d : Nat), e = .returned (.slice y (runsB rs).length d) ∧ BkW w w' (runsB rs).length (runsB rs) y d := by
  have hn := runs_le rs hok
  obtain ⟨n, hnn⟩ : ∃ n, rs.length = n := ⟨_, rfl⟩
  have hnI : (n : Int) ≤ 100000 := by omega
  have c1 := h.cells.cell 1
  simp only [List.getElem?_cons_zero, List.getElem?_cons_succ] at c1
  rw [hnn] at c1
  have H := Lib.hid (And.intro h (And.intro hok (And.intro hlen hnn)))
  clear h hok hlen hn hnn
  go_enter Try.func24, Try.ntmps24
  go_wp2_with fail
  have HQ : Hid (BkW w w 0 (runsB (rs.take 0)) none 0) := ⟨Mid.nil _ _, Whole.nil _ _, (fun q hq => by cases hq), Upd.refl _ _, rfl⟩
  go_loopw [12, 3] (fun iv v wr => ∃ (k m d : Nat) (y : Option Addr), k ≤ n ∧ iv = .int .i64 k ∧ v = .slice y m d ∧ Hid (BkW w wr m (runsB (rs.take k)) y d)) (fun iv _ _ => n - (intOf iv).toNat)
  case atStart => exact ⟨0, 0, 0, none, Nat.zero_le _, rfl, rfl, HQ⟩
  case round =>
    clear HQ
    obtain ⟨k, m, d, y, hk, rfl, rfl, HR⟩ := hrel
    by_cases hlt : k < n
    · have hltI : (k : Int) < (n : Int) := by omega
      have hkl : k < rs.length := by rw [H.out.2.2.2]; exact hlt
      obtain ⟨r, hr⟩ : ∃ r, rs[k] = r := ⟨_, rfl⟩
      have hro := H.out.2.1 r (hr ▸ List.getElem_mem _)
      obtain ⟨g, o, rfl, hrg⟩ := H.out.1.run k hkl
      rw [hr] at hrg
      have hrw : wr.rangeAt g (o + k * 2) [.int .i64 r.1, .int .i64 r.2] := HR.out.2.2.2.1.range hrg (fun h => h)
      have hst : runsB (rs.take (k + 1)) = runsB (rs.take k) ++ runB r := by rw [List.take_succ_eq_append_getElem hkl, runsB_append, hr]; simp [runsB]
      have hmb : m + r.2 ≤ 100000 := by
        have h1 := H.out.2.2.1
        have h2 : (runsB rs).length = (runsB (rs.take (k + 1))).length + (runsB (rs.drop (k + 1))).length := by rw [← List.length_append, ← runsB_append, List.take_append_drop]
        rw [hst, List.length_append, runB_length, HR.out.2.2.2.2] at h2
        omega
      obtain ⟨f1, hf1⟩ : ∃ f1, r.1 = f1 := ⟨_, rfl⟩
      obtain ⟨n1, hn1⟩ : ∃ n1, r.2 = n1 := ⟨_, rfl⟩
      rw [hf1, hn1] at hrw
      rw [hf1, hn1] at hro
      rw [hn1] at hmb
      have hf1I : (f1 : Int) ≤ 4096 := by omega
      have hn1I : (n1 : Int) ≤ 255 := by omega
      have hal : Upd (fun _ => False) wr (wr.alloc (.cells #[.int .i64 f1, .int .i64 n1] 86)) := (Upd.refl _ wr).alloc _
      have hcs := CellsA.new wr 86 [.int .i64 f1, .int .i64 n1]
      have hc1 := hcs.cell 1
      simp only [List.getElem?_cons_zero, List.getElem?_cons_succ] at hc1
      have HK := Lib.hid (And.intro hst (And.intro hf1 (And.intro hn1 hmb)))
      have HR2 : Hid (BkW w (wr.alloc (.cells #[.int .i64 f1, .int .i64 n1] 86)) (m + 0) (runsB (rs.take k) ++ runB (f1, 0)) y d) := by
        obtain ⟨r1, rW, r2, r3, r4⟩ := HR.out
        exact ⟨by simpa [runB] using r1.upd hal (fun _ _ h => h), rW.upd hal (fun _ _ h => h) r1.lt, r2, r3.trans hal, by simp [runB, r4]⟩
      have Hyl := Lib.hid HR.out.1.lt
      have Hcs : Hid (CellsA (wr.alloc (.cells #[.int .i64 f1, .int .i64 n1] 86)) wr.heap.size 86 [.int .i64 f1, .int .i64 n1]) := hcs
      clear hr hrg hst hro hmb hf1 hn1 hal hcs HR
      go_wp2_with (first | ((with_reducible apply wpl_load_mid g (o + k * 2) [.int .i64 f1, .int .i64 n1]); exact rfl; exact hrw; exact Try.underlying86; exact rfl; exact sizeRun; try (simp only [Act.put, List.setIfInBounds_toArray, List.set_cons_zero, List.set_cons_succ])) | ((with_reducible apply wpl_store_new); exact rfl; exact rfl; exact sizeRun; exact rfl; exact rfl; try (simp only [Act.put, List.setIfInBounds_toArray, List.set_cons_zero, List.set_cons_succ])))
      have hno : ∀ q, (Value.slice y m d).ownBlock = some q → q ≠ wr.heap.size := fun q hq e => by
        have h3 : q < wr.heap.size := Hyl.out q hq
        omega
      have HQ2 : Hid (BkW w (wr.alloc (.cells #[.int .i64 f1, .int .i64 n1] 86)) (m + 0) (runsB (rs.take k) ++ runB (f1, 0)) y d ∧ CellsA (wr.alloc (.cells #[.int .i64 f1, .int .i64 n1] 86)) wr.heap.size 86 [.int .i64 f1, .int .i64 n1] ∧ (∀ q, (Value.slice y (m + 0) d).ownBlock = some q → q ≠ wr.heap.size)) := ⟨HR2.out, Hcs.out, hno⟩
      generalize wr.alloc (.cells #[.int .i64 f1, .int .i64 n1] 86) = w2 at *
      generalize wr.heap.size = ob at *
      clear hno HR2 Hcs hrw hc1 Hyl
      go_loopw [18, 3] (fun iv v wr => ∃ (i d : Nat) (y : Option Addr), i ≤ n1 ∧ iv = .int .i64 i ∧ v = .slice y (m + i) d ∧ Hid (BkW w wr (m + i) (runsB (rs.take k) ++ runB (f1, i)) y d ∧ CellsA wr ob 86 [.int .i64 f1, .int .i64 n1] ∧ (∀ q, (Value.slice y (m + i) d).ownBlock = some q → q ≠ ob))) (fun iv _ _ => n1 - (intOf iv).toNat)
      case atStart => exact ⟨0, d, y, Nat.zero_le _, rfl, rfl, HQ2⟩
      case round =>
        clear HQ2
        obtain ⟨i, d, y, hi, rfl, rfl, HI⟩ := hrel
        have hb := HK.out.2.2.2
        have hc0 := HI.out.2.1.cell 0
        simp only [List.getElem?_cons_zero, List.getElem?_cons_succ] at hc0
        by_cases hin : i < n1
        · have hinI : (i : Int) < (n1 : Int) := by omega
          go_wp2_with ((with_reducible apply wpl_append_whole 3 1 8 _ (.slice y (m + i) d) (m + i) (intsV (runsB (rs.take k) ++ runB (f1, i))) 1 [.int .i64 ((f1 : Int) + (i : Int))]))
          · exact Try.underlying58
          · exact infoInt
          · rfl
          · rfl
          · exact HI.out.1.1.upd ((Upd.refl (fun _ => False) wr).alloc _) (fun _ _ h => h)
          · exact HI.out.1.2.1.upd ((Upd.refl (fun _ => False) wr).alloc _) (fun _ _ h => h) HI.out.1.1.lt
          · exact Sees.at rfl (by decide) (rangeAt_of_row (heap_alloc_new wr (.cells ([.int .i64 ((f1 : Int) + (i : Int))] : List Value).toArray 3)) rfl)
          · intro u hu; simp at hu; rw [hu]; rfl
          · unfold maxLen; omega
          · omega
          intro y' d' w4 hm4 hu4 hb4 hW4
          try (simp only [Act.put, List.setIfInBounds_toArray, List.set_cons_zero, List.set_cons_succ])
          have hst : intsV (runsB (rs.take k) ++ runB (f1, i)) ++ [.int .i64 ((f1 : Int) + (i : Int))] = intsV (runsB (rs.take k) ++ runB (f1, i + 1)) := by
            have : runB (f1, i + 1) = runB (f1, i) ++ [f1 + i] := by simp [runB, List.range_succ]
            rw [this, ← List.append_assoc]
            simp [intsV]
          rw [hst] at hm4
          have HJ : Hid (BkW w w4 (m + (i + 1)) (runsB (rs.take k) ++ runB (f1, i + 1)) y' d' ∧ CellsA w4 ob 86 [.int .i64 f1, .int .i64 n1] ∧ (∀ q, (Value.slice y' (m + (i + 1)) d').ownBlock = some q → q ≠ ob)) := by
            obtain ⟨⟨r1, rW, r2, r3, r4⟩, r5, r6⟩ := HI.out
            have ha : Upd (fun _ => False) wr (wr.alloc (.cells #[.int .i64 ((f1 : Int) + (i : Int))] 3)) := (Upd.refl _ wr).alloc _
            have hal : Upd (fun q => (Value.slice y (m + i) d).ownBlock = some q) wr w4 := (ha.mono (fun _ _ h => h.elim)).trans hu4
            have hz := r3.size
            have hob := r5.lt
            have hown : ∀ q, (Value.slice y' (m + (i + 1)) d').ownBlock = some q → (Value.slice y (m + i) d).ownBlock = some q ∨ wr.heap.size ≤ q := fun q hq => by
              rcases hb4 with e | e
              · exact .inl (by rw [← e]; exact hq)
              · refine .inr ?_
                have e2 : (Value.slice y' (m + (i + 1)) d').ownBlock = some _ := e
                rw [e2] at hq
                cases hq
                simp
            refine ⟨⟨hm4, hW4, fun q hq => ?_, r3.then hal (fun q hq => .inr (r2 q hq)), by simp [runB, r4] at r4 ⊢; omega⟩, r5.upd hal (fun e => r6 _ e rfl), fun q hq => ?_⟩
            · rcases hown q hq with e | e
              · exact r2 q e
              · omega
            · rcases hown q hq with e | e
              · exact r6 q e
              · omega
          clear hm4 hu4 hb4 hW4 hst HI hc0
          go_wp2_with fail
          exact ⟨⟨i + 1, d', y', by omega, by go_num, rfl, HJ⟩, by simp [intOf]; omega⟩
        · obtain rfl : i = n1 := by omega
          have HJ : Hid (BkW w wr (m + i) (runsB (rs.take (k + 1))) y d) := by
            rw [HK.out.1, show r = (f1, i) from Prod.ext HK.out.2.1 HK.out.2.2.1]
            exact HI.out.1
          clear HI hc0
          go_wp2_with fail
          exact ⟨⟨k + 1, m + i, d, y, by omega, by go_num, rfl, HJ⟩, by simp [intOf]; omega⟩
    · obtain rfl : k = n := by omega
      have HJ : Hid (BkW w wr m (runsB rs) y d) := by
        have := HR.out
        rwa [List.take_of_length_le (by rw [H.out.2.2.2]; exact Nat.le_refl _)] at this
      have hml : m = (runsB rs).length := HJ.out.2.2.2.2.symm
      subst hml
      clear HR
      go_wp2_with fail
      go_ret
      exact ⟨y, d, rfl, HJ.out⟩
/-! A map's entry deleted. -/
def delV : List (Int × Value) → Int → List (Int × Value)
  | [], _ => []
  | p :: r, k => if k = p.1 then r else p :: delV r k
def delP : Img → Int → Img
  | [], _ => []
  | p :: r, k => if k = p.1 then r else p :: delP r k
def delE : List Ent → Int → List Ent
  | [], _ => []
  | p :: r, k => if k = p.1 then r else p :: delE r k
theorem entV_delE (k : Int) : ∀ l : List Ent, delV (entV l) k = entV (delE l k)
  | [] => rfl
  | p :: r => by
    have ih := entV_delE k r
    rw [delE]
    show delV ((p.1, _) :: entV r) k = _
    rw [delV]
    by_cases h : k = p.1
    · rw [if_pos h, if_pos h]
    · rw [if_neg h, if_neg h, ih]; rfl
theorem entI_delE (k : Int) : ∀ l : List Ent, delP (entI l) k = entI (delE l k)
  | [] => rfl
  | p :: r => by
    have ih := entI_delE k r
    rw [delE]
    show delP ((p.1, p.2.2) :: entI r) k = _
    rw [delP]
    by_cases h : k = p.1
    · rw [if_pos h, if_pos h]
    · rw [if_neg h, if_neg h, ih]; rfl
theorem mem_delE {k : Int} {p : Ent} : ∀ {l : List Ent}, p ∈ delE l k → p ∈ l
  | [], h => by cases h
  | q :: r, h => by
    rw [delE] at h
    split at h
    · exact List.mem_cons_of_mem _ h
    · rcases List.mem_cons.1 h with e | e
      · rw [e]; exact List.mem_cons_self ..
      · exact List.mem_cons_of_mem _ (mem_delE e)
theorem keys_delP (k : Int) : ∀ es : Img, (keysB (delP es k)).Sublist (keysB es)
  | [] => List.Sublist.refl _
  | p :: r => by
    rw [delP]
    split
    · exact List.sublist_cons_self _ _
    · exact (keys_delP k r).cons_cons _
theorem lookB_delP (k b : Int) : ∀ es : Img, (keysB es).Nodup → lookB (delP es k) b = if b = k then none else lookB es b
  | [], _ => by simp [delP, lookB]
  | p :: r, h => by
    have h' : p.1 ∉ keysB r ∧ (keysB r).Nodup := List.nodup_cons.1 h
    rw [delP]
    by_cases hk : k = p.1
    · rw [if_pos hk]
      by_cases hb : b = k
      · rw [if_pos hb]
        exact (lookB_none_iff b r).2 (by rw [hb, hk]; exact h'.1)
      · rw [if_neg hb, lookB, if_neg (fun e => hb (e.trans hk.symm))]
    · rw [if_neg hk, lookB, lookB_delP k b r h'.2, lookB]
      by_cases hb : b = p.1
      · rw [if_pos hb, if_pos hb, if_neg (fun e => hk (e.symm.trans hb))]
      · rw [if_neg hb, if_neg hb]
theorem delP_len (k : Int) : ∀ es : Img, lookB es k ≠ none → (delP es k).length + 1 = es.length
  | [], h => absurd rfl h
  | p :: r, h => by
    rw [delP]
    rw [lookB] at h
    split
    · rfl
    · rename_i hk
      rw [if_neg hk] at h
      rw [List.length_cons, delP_len k r h, List.length_cons]
theorem findIx_del (k : Int) : ∀ (es : List (Int × Value)) (n i : Nat) (u : Value), findIx k es n = some (i, u) → n ≤ i ∧ es.eraseIdx (i - n) = delV es k
  | [], _, _, _, h => by cases h
  | p :: r, n, i, u, h => by
    rw [findIx] at h
    rw [delV]
    by_cases hk : k = p.1
    · rw [if_pos hk] at h
      cases h
      rw [if_pos hk, Nat.sub_self]
      exact ⟨Nat.le_refl _, rfl⟩
    · rw [if_neg hk] at h
      obtain ⟨h1, h2⟩ := findIx_del k r (n + 1) i u h
      rw [if_neg hk, show i - n = (i - (n + 1)) + 1 by omega, List.eraseIdx_cons_succ, h2]
      exact ⟨by omega, rfl⟩
theorem erase_map {α β : Type} (f : α → β) : ∀ (l : List α) (i : Nat), (l.eraseIdx i).map f = (l.map f).eraseIdx i
  | [], _ => rfl
  | _ :: _, 0 => rfl
  | x :: r, i + 1 => by rw [List.eraseIdx_cons_succ, List.map_cons, List.map_cons, List.eraseIdx_cons_succ, erase_map f r i]
section
variable {P : Program} {w : World}
open Go.MapKept in
theorem run_delete_map {t kt E ty : TypeId} (ht : P.underlying t = some (.map kt E)) (hk : P.underlying kt = some (.int .i64)) {b : Nat} {es : List (Int × Value)} (h : MapAt w b es) (k : Int) {i : Nat} {u : Value} (hq : findIx k es 0 = some (i, u)) :
    ∃ w', (Builtin.delete_ #[t, kt] ty #[.map (some b), .int .i64 k]).run P w = .ok (.tuple #[]) w' ∧ MapAt w' b (delV es k) ∧ Upd (fun q => q = b) w w' := by
  obtain ⟨en, ck, h1, h2, h2s⟩ := h
  have hf := findNow_ix k en.toList es 0 h2
  have hc := fun e => Go.MapKept.run_checkKey (P := P) (w := w) (kt := kt) (k := .int .i64 k) hk (by simp [IsKey]) e 9999
  rw [hq] at hf
  have hd := (findIx_del k es 0 i u hq).2
  rw [Nat.sub_zero] at hd
  have hlt := (findIx_lt k es 0 i u hq).2
  rw [Nat.sub_zero] at hlt
  have hie : i < es.length := by
    rcases Nat.lt_or_ge i es.length with h | h
    · exact h
    · rw [List.getElem?_eq_none h] at hlt; cases hlt
  have hlen : en.size = es.length := by have := congrArg List.length h2; simpa using this
  refine ⟨{ w with heap := w.heap.setIfInBounds b (.map (en.eraseIdxIfInBounds i) ck) }, by simp [Builtin.delete_, run_underlying ht, Go.MapKept.run_getObj_map h1, hc, Go.MapKept.run_findKey hk hf, Go.MapKept.run_setObj_map _ h1, Result.andThen], ⟨_, ck, (heap_set h1).1, ?_, stamped_erase h2s i⟩, ⟨rfl, rfl, rfl, by simp, fun q hq hn => (heap_set h1).2 q hn⟩⟩
  have he : (en.eraseIdxIfInBounds i).toList = en.toList.eraseIdx i := by
    unfold Array.eraseIdxIfInBounds
    rw [dif_pos (by omega)]
    simp
  rw [he, ← hd, erase_map, erase_map, h2]
end
section
variable {w : World} {mb most : Nat} {es : Img} {K : Nat → Prop}
set_option maxHeartbeats 2000000 in
theorem mfree_ok (h : MemAt w mb most es K) (b : Int) (hb : lookB es b ≠ none) :
    Calls Try.prog 66 #[.pointer (some ⟨mb, 0, none⟩), .int .i64 b] w fun e w' => e = .returned (.int .i64 0) ∧ MemAt w' mb most (delP es b) K ∧ Upd K w w' := by
  have hc := mcheck_ok h b
  cases hq0 : lookB es b with
  | none => exact absurd hq0 hb
  | some x0 =>
  rw [hq0] at hc
  have Hc := Lib.hid hc
  obtain ⟨m1, m2, l, rfl, h2, h3, h4, h5, h6, h7, h8, h9, h10, h11, h12, h13⟩ := h
  have c1 := h2.cell 1
  have c2 := h2.cell 2
  simp only [List.getElem?_cons_zero, List.getElem?_cons_succ] at c1 c2
  have h4e : lookV [] b = none := rfl
  obtain ⟨i, u, hix⟩ : ∃ i u, findIx b (entV l) 0 = some (i, u) := by
    rcases look_ent l b with ⟨g, x, e1, _, _⟩ | ⟨_, e2⟩
    · rw [lookV] at e1
      cases hq : findIx b (entV l) 0 with
      | none => rw [hq] at e1; cases e1
      | some p => exact ⟨p.1, p.2, rfl⟩
    · rw [hq0] at e2; cases e2
  obtain ⟨w9, hd9, hm9, hu9⟩ := run_delete_map (P := Try.prog) (ty := 0) Try.underlying52 Try.underlying3 h3 b hix
  have hd9' : ∀ ty, (Builtin.delete_ #[52, 3] ty #[.map (some m1), .int .i64 b]).run Try.prog w = .ok (.tuple #[]) w9 := fun ty => hd9
  have hlen := delP_len b (entI l) (by rw [hq0]; simp)
  have Hf : Hid (MemAt w9 mb most (delP (entI l) b) K ∧ Upd K w w9) := by
    rw [entV_delE] at hm9
    refine ⟨⟨m1, m2, delE l b, entI_delE b l, h2.upd hu9 h7, hm9, h4.upd hu9 h8, fun p hp => ?_, h6.sublist (keys_delP b _), h7, h8, h9, h10, h11, fun q hq => Nat.lt_of_lt_of_le (h12 q hq) hu9.size, ⟨by omega, h13.2⟩⟩, hu9.mono (fun q _ e => by rw [e]; exact h10)⟩
    have := h5 p (mem_delE hp)
    exact ⟨this.1.upd hu9 this.2.2.2.1, this.2⟩
  have H4 := Lib.hid h4
  clear hc h2 h3 h4 h5 h6 h7 h8 h9 h10 h11 h12 h13 hq0 hb hix hd9 hm9 hu9 hlen
  go_enter Try.func66, Try.ntmps66
  go_wp2_with fail
  refine Hc.out.mono ?_
  rintro e w1 ⟨rfl, rfl⟩
  dsimp only
  go_wp2_with (first | ((with_reducible apply wpl_lookup1_map Try.underlying53 Try.underlying3 (.int .i64 0) (zeroInB _) m2 [] b); exact rfl; exact rfl; exact H4.out; rw [h4e]; try (simp only [Act.put, List.setIfInBounds_toArray, List.set_cons_zero, List.set_cons_succ])))
  go_ret
  exact ⟨rfl, Hf.out⟩
end
end Go.Proofs.Ytmefbbmjamdnjaa
