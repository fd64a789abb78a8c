/- Package blob: Write where there is no room. -/
import Derived.Test.YtmefbbmjamdnjaaBb11
namespace Go.Proofs.Ytmefbbmjamdnjaa
open Go Go.RowKit
set_option linter.unusedSimpArgs false
set_option linter.unusedVariables false
set_option maxRecDepth 100000

section
variable {w : World} {mb most : Nat} {es : Img} {K : Nat → Prop}
set_option maxHeartbeats 16000000 in
theorem write_full (h : MemAt w mb most es K) (s : ByteArray) (h1 : 1 ≤ s.size) (h2 : s.size ≤ 49152) (hroom : most < es.length + (1 + (s.size + 511) / 512)) :
    Calls Try.prog 9 #[.iface 26 (.pointer (some ⟨mb, 0, none⟩)), .string s] w fun e w' => ∃ (ef : Img) (K' : Nat → Prop), e = .returned (.tuple #[.int .i64 0, .int .i64 12]) ∧
      MemAt w' mb most ef K' ∧ (∀ q, K' q → K q ∨ w.heap.size ≤ q) ∧ Upd K w w' ∧ (∀ k, lookB ef k = lookB es k) ∧ ef.length = es.length := by
  obtain ⟨size, hsz⟩ : ∃ size, s.size = size := ⟨_, rfl⟩
  obtain ⟨m, hm⟩ : ∃ m, (size + 511) / 512 = m := ⟨_, rfl⟩
  rw [hsz] at h1 h2 hroom
  rw [hm] at hroom
  have i1 : (1 : Int) ≤ (size : Int) := by omega
  have i2 : (size : Int) ≤ 49152 := by omega
  have i3 : (m : Int) ≤ 96 := by omega
  have hszI : (s.size : Int) = (size : Int) := by omega
  have p3 : ((size : Int) + 512 - 1).tdiv 512 = (m : Int) := by rw [Int.tdiv_eq_ediv_of_nonneg (by omega)]; omega
  have p4 : IntKind.i64.wrap (m : Int) = (m : Int) := by rw [IntKind.wrap_i64]; omega
  have hne : s.toList.isEmpty = false := by
    rw [ByteArray.toList_eq, List.isEmpty_eq_false_iff]
    intro e
    have e2 : s.data.toList.length = 0 := by rw [e]; rfl
    have e3 : s.size = s.data.toList.length := (Array.length_toList).symm
    omega
  have hne2 : (s = ByteArray.mk #[]) = False := by
    simp only [eq_iff_iff, iff_false]
    intro e
    rw [e] at hsz
    have : (ByteArray.mk #[]).size = 0 := rfl
    omega
  have H := Lib.hid (And.intro h (And.intro hsz (And.intro hm hroom)))
  have hmt := meth_take mb
  have hmw := meth_write mb
  have hnw := nil_write mb
  clear h hm hroom h1 h2
  go_enter Try.func9, Try.ntmps9
  go_wp2_with fail
  have hsz1 : ((w.alloc (.cells #[.iface 26 (.pointer (some ⟨mb, 0, none⟩))] 57)).alloc (.cells #[.slice none 0 0] 58)).heap.size = w.heap.size + 2 := by simp
  have HQ : Hid (∃ ts y d e' K', W1R w ((w.alloc (.cells #[.iface 26 (.pointer (some ⟨mb, 0, none⟩))] 57)).alloc (.cells #[.slice none 0 0] 58)) mb most es K (w.heap.size + 1) w.heap.size 0 ts y d e' K') := by
    have hal : Upd (fun _ => False) w ((w.alloc (.cells #[.iface 26 (.pointer (some ⟨mb, 0, none⟩))] 57)).alloc (.cells #[.slice none 0 0] 58)) := ((Upd.refl _ w).alloc _).alloc _
    have hs1 := CellsA.new w 57 [.iface 26 (.pointer (some ⟨mb, 0, none⟩))]
    have ht1 := CellsA.new (w.alloc (.cells #[.iface 26 (.pointer (some ⟨mb, 0, none⟩))] 57)) 58 [.slice none 0 0]
    have hz : (w.alloc (.cells #[.iface 26 (.pointer (some ⟨mb, 0, none⟩))] 57)).heap.size = w.heap.size + 1 := by simp
    rw [hz] at ht1
    have hlt := H.out.1.lt
    refine ⟨[], none, 0, es, K, ht1, hs1.upd ((Upd.refl (fun _ => False) _).alloc _) (fun h => h), Mid.nil _ _, (fun q hq => by cases hq), H.out.1.upd hal (fun _ _ h => h), fun q hq => .inl hq, fun hk => ?_, fun hk => ?_, hal.mono (fun _ _ h => h.elim), TknP.nil es, rfl, Nat.le_succ _, Nat.le_refl _, by omega⟩
    · have := hlt _ hk; omega
    · have := hlt _ hk; omega
  clear hsz1
  generalize (w.alloc (.cells #[.iface 26 (.pointer (some ⟨mb, 0, none⟩))] 57)).alloc (.cells #[.slice none 0 0] 58) = w2 at *
  generalize w.heap.size + 1 = tb at *
  obtain ⟨sb, hsb⟩ : ∃ sb, w.heap.size = sb := ⟨_, rfl⟩
  rw [hsb]
  simp only [hsb] at HQ
  clear hsb
  go_loopw [32] (fun iv wr => ∃ (i : Nat), i ≤ 1 + m ∧ iv = .int .i64 i ∧ Hid (∃ ts y d e' K', W1R w wr mb most es K tb sb i ts y d e' K')) (fun iv _ => (1 + m) - (intOf iv).toNat)
  case atStart => exact ⟨0, Nat.zero_le _, rfl, HQ⟩
  case round =>
    clear HQ
    obtain ⟨i, hi, rfl, HR⟩ := hrel
    obtain ⟨ts, y, d, e', K', HR⟩ := HR.out
    have HR := Lib.hid HR
    have c1 := HR.out.1.cell 0
    have c2 := HR.out.2.1.cell 0
    have f1 := HR.out.1.frozen 0
    simp only [List.getElem?_cons_zero, List.getElem?_cons_succ] at c1 c2
    by_cases hlt : i < 1 + m
    · have hltI : (i : Int) < 1 + (m : Int) := by omega
      have htk := Lib.hid (take_ok HR.out.2.2.2.2.1)
      clear c1 f1
      go_wp2_with fail
      refine htk.out.mono ?_
      rintro e w3 (⟨e1, rfl, hu3⟩ | ⟨hlm, b, hgb, rfl, g3, hg3, hM3, hu3⟩)
      · dsimp only
        obtain ⟨r1, r2, r3, r4, r5, r6, r7, r8, r9, r10, r11, r12, r13, r14⟩ := HR.out
        have hok := r5.ok
        have hbk := back_ok (er := 12) (r5.upd hu3 (fun _ _ h => h)) (r1.upd hu3 (fun h => h)) (r2.upd hu3 (fun h => h)) (r3.upd hu3 (fun _ _ h => h)) (fun q hq => (r4 q hq).2.2.2) r7 r8 r10.1 (fun t ht => by rw [r10.2.2.1 t ht]; simp) (by have := r10.2.2.2.2; omega)
        have Hb := Lib.hid hbk
        have Hr := Lib.hid (And.intro r6 (And.intro (r9.trans (hu3.mono (fun _ _ h => h.elim))) r10))
        clear hbk r1 r2 r3 r4 r5 r6 r7 r8 r9 r10 r11 r12 r13 r14 hok hu3 htk HR
        go_wp2_with fail
        refine Hb.out.mono ?_
        rintro e w4 ⟨rfl, ef, hM4, hu4, hF4⟩
        dsimp only
        have Hf : Hid (MemAt w4 mb most ef K' ∧ (∀ q, K' q → K q ∨ w.heap.size ≤ q) ∧ Upd K w w4 ∧ (∀ k, lookB ef k = lookB es k) ∧ ef.length = es.length) := by
          obtain ⟨r6, r9, r10⟩ := Hr.out
          refine ⟨hM4, r6, r9.then hu4 r6, fun k => ?_, by have := hF4.2.2; have := r10.2.2.2.2; omega⟩
          by_cases hk : ∃ t ∈ ts, k = ((t : Nat) : Int)
          · obtain ⟨t, ht, rfl⟩ := hk
            rw [hF4.1 t ht, (r10.2.1 t ht).2.2]
          · have hk2 : ∀ t ∈ ts, k ≠ ((t : Nat) : Int) := fun t ht e => hk ⟨t, ht, e⟩
            rw [hF4.2.1 k hk2, r10.2.2.2.1 k hk2]
        clear hM4 hu4 hF4 Hb Hr
        go_wp2_with fail
        go_ret2
        exact ⟨ef, K', rfl, Hf.out⟩
      dsimp only
      have hbI : (b : Int) ≤ 4097 := by
        have := gap_le hgb.2.2
        have := HR.out.2.2.2.2.1.ok
        omega
      have hzr : wr.heap.size ≤ w3.heap.size := hu3.size
      have HT : Hid (CellsA w3 tb 58 [.slice y i d] ∧ CellsA w3 sb 57 [.iface 26 (.pointer (some ⟨mb, 0, none⟩))] ∧ Mid w3 1 (.slice y i d) i (intsV ts) ∧ (∀ q, (Value.slice y i d).ownBlock = some q → w.heap.size ≤ q ∧ q ≠ tb ∧ q ≠ sb ∧ ¬ (K' q ∨ q = g3)) ∧
          MemAt w3 mb most (putP e' (b : Nat) zeros512) (fun q => K' q ∨ q = g3) ∧ (∀ q, (K' q ∨ q = g3) → K q ∨ w.heap.size ≤ q) ∧ ¬ (K' tb ∨ tb = g3) ∧ ¬ (K' sb ∨ sb = g3) ∧ Upd K w w3 ∧ TknP es (ts ++ [b]) (putP e' (b : Nat) zeros512) ∧ (ts ++ [b]).length = i + 1 ∧ w.heap.size ≤ tb ∧ w.heap.size ≤ sb ∧ tb ≠ sb) := by
        obtain ⟨r1, r2, r3, r4, r5, r6, r7, r8, r9, r10, r11, r12, r13, r14⟩ := HR.out
        have hty := r3.lt
        have hz := r9.size
        have hok := r5.ok
        refine ⟨r1.upd hu3 r7, r2.upd hu3 r8, r3.upd hu3 (fun q hq => (r4 q hq).2.2.2), fun q hq => ⟨(r4 q hq).1, (r4 q hq).2.1, (r4 q hq).2.2.1, ?_⟩, hM3, ?_, ?_, ?_, r9.then hu3 r6, tkn_step r10 hgb (by omega), by rw [List.length_append, r11]; rfl, r12, r13, r14⟩
        · rintro (e | e)
          · exact (r4 q hq).2.2.2 e
          · have := hty q hq; omega
        · rintro q (e | e)
          · exact r6 q e
          · exact .inr (by omega)
        · rintro (e | e)
          · exact r7 e
          · have := r1.lt; omega
        · rintro (e | e)
          · exact r8 e
          · have := r2.lt; omega
      have d1 := HT.out.1.cell 0
      simp only [List.getElem?_cons_zero] at d1
      have hm4 := Lib.hid HT.out.2.2.1
      clear hM3 hu3 HR c2 hgb htk
      go_wp2_with ((with_reducible apply wpl_append_mid 3 1 8 _ (.slice y i d) i (intsV ts) 1 [.int .i64 (b : Nat)]))
      · exact Try.underlying58
      · exact infoInt
      · rfl
      · rfl
      · exact hm4.out.upd ((Upd.refl (fun _ => False) w3).alloc _) (fun _ _ h => h)
      · exact Sees.at rfl (by decide) (rangeAt_of_row (heap_alloc_new w3 (.cells ([.int .i64 (b : Nat)] : List Value).toArray 3)) rfl)
      · intro u hu; simp at hu; rw [hu]; rfl
      · unfold maxLen; omega
      · omega
      intro y' d' w4 hm5 hu5 hb5
      try (simp only [Act.put, List.setIfInBounds_toArray, List.set_cons_zero, List.set_cons_succ])
      have hu34 : Upd (fun q => (Value.slice y i d).ownBlock = some q) w3 w4 := ((Upd.refl (fun _ => False) w3).alloc _ |>.mono (fun _ _ h => h.elim)).trans hu5
      have hc4 : CellsA w4 tb 58 [.slice y i d] := HT.out.1.upd hu34 (fun e => (HT.out.2.2.2.1 tb e).2.1 rfl)
      have d4 := hc4.cell 0
      have f4 := hc4.frozen 0
      simp only [List.getElem?_cons_zero] at d4
      have HJ : Hid (∃ ts y d e' K', W1R w (w4.setCell ⟨tb, 0, none⟩ (.slice y' (i + 1) d')) mb most es K tb sb (i + 1) ts y d e' K') := by
        obtain ⟨r1, r2, r3, r4, r5, r6, r7, r8, r9, r10, r11, r12, r13, r14⟩ := HT.out
        have hzz : w3.heap.size ≤ w4.heap.size := hu34.size
        have hus : Upd (fun q => q = tb) w4 (w4.setCell ⟨tb, 0, none⟩ (.slice y' (i + 1) d')) := (Upd.refl _ w4).setCell _ (.inl rfl)
        have hown : ∀ q, (Value.slice y' (i + 1) d').ownBlock = some q → (Value.slice y i d).ownBlock = some q ∨ w3.heap.size ≤ q := fun q hq => by
          rcases hb5 with e | e
          · exact .inl (by rw [← e]; exact hq)
          · refine .inr ?_
            have e2 : (Value.slice y' (i + 1) d').ownBlock = some _ := e
            rw [e2] at hq
            cases hq
            simp
        have hz9 := r9.size
        have htl := r1.lt
        have hsl := r2.lt
        have hKl := r5.lt
        have hnew : ∀ q, (Value.slice y' (i + 1) d').ownBlock = some q → w.heap.size ≤ q ∧ q ≠ tb ∧ q ≠ sb ∧ ¬ (K' q ∨ q = g3) := fun q hq => by
          rcases hown q hq with e | e
          · exact r4 q e
          · exact ⟨by omega, by omega, by omega, fun e2 => by have := hKl q e2; omega⟩
        have hst : intsV ts ++ [.int .i64 (b : Nat)] = intsV (ts ++ [b]) := by simp [intsV]
        rw [hst] at hm5
        refine ⟨ts ++ [b], y', d', _, _, hc4.set 0 _, (r2.upd hu34 (fun e => (r4 sb e).2.2.1 rfl)).upd hus (fun e => r14 e.symm), hm5.upd hus (fun q hq e => (hnew q hq).2.1 e), hnew, (r5.upd hu34 (fun q hq e => (r4 q e).2.2.2 hq)).upd hus (fun q hq e => r7 (e ▸ hq)), r6, r7, r8, (r9.then hu34 (fun q hq => .inr (r4 q hq).1)).then hus (fun q hq => .inr (by rw [hq]; exact r12)), r10, r11, r12, r13, r14⟩
      clear hu34 hc4 hm5 hu5 hb5 HT hm4 d1
      go_wp2_with fail
      exact ⟨⟨i + 1, by omega, by go_num, HJ⟩, by simp [intOf]; omega⟩
    · exfalso
      obtain ⟨-, -, -, -, r5, -, -, -, -, r10, r11, -⟩ := HR.out
      have h1 := r10.2.2.2.2
      have h2 := r5.ok.2.1
      have h3 := H.out.2.2.2
      omega
end
end Go.Proofs.Ytmefbbmjamdnjaa
