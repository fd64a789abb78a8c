/- docketref04: a transaction's Write. -/
import Derived.Test.YtihlijnobbonbaaGreatRf2
namespace Go.Proofs.YtihlijnobbonbaaGreat
open Go Go.RowKit
set_option linter.unusedSimpArgs false
set_option linter.unusedVariables false
set_option maxRecDepth 100000

theorem cutR_le (l : Img) (b : Int) : (cutR l b).length ≤ l.length := List.length_filter_le _ _
theorem putsC_one (p : Int × Bytes) : putsC [p] = [.int .i64 p.1, .string (strV p.2)] := rfl
theorem putsC_append (l m : Img) : putsC (l ++ m) = putsC l ++ putsC m := by simp [putsC]
/-- What is kept while it copies. -/
def WrA (w wr : World) (y : Option Addr) (n d : Nat) (c : Img) : Prop :=
  c.length = n ∧ Mid wr 2 (.slice y n d) n (putsC c) ∧ (∀ q, (Value.slice y n d).ownBlock = some q → w.heap.size ≤ q) ∧ Upd (fun _ => False) w wr
theorem WrA.app {w wr w' : World} {y y' : Option Addr} {n d d' : Nat} {c : Img} {p : Int × Bytes} {o : Obj} (h : WrA w wr y n d c) (hm : Mid w' 2 (.slice y' (n + 1) d') (n + 1) (putsC c ++ [.int .i64 p.1, .string (strV p.2)]))
    (hu : Upd (fun k => (Value.slice y n d).ownBlock = some k) (wr.alloc o) w') (hb : (Value.slice y' (n + 1) d').ownBlock = (Value.slice y n d).ownBlock ∨ (Value.slice y' (n + 1) d').ownBlock = some (wr.alloc o).heap.size) : WrA w w' y' (n + 1) d' (c ++ [p]) := by
  obtain ⟨h1, h2, h3, h4⟩ := h
  have ha : Upd (fun _ => False) wr (wr.alloc o) := (Upd.refl _ wr).alloc _
  refine ⟨by simp [h1], by rw [putsC_append, putsC_one]; exact hm, fun q hq => ?_, (h4.trans ha).then hu (fun q hq => .inr (h3 q hq))⟩
  rcases hb with e | e
  · rw [e] at hq; exact h3 q hq
  · rw [e] at hq
    cases hq
    exact Nat.le_trans h4.size ha.size
section
variable {w w' : World} {xb rb N rg : Nat} {cs : List Img} {l : Img} {x : Option Addr} {c : Nat} {vs : List Value} {A H : Nat → Prop} {y : Option Addr} {d : Nat}
set_option maxHeartbeats 4000000 in
theorem rwrite_bad (h : RTx w xb rb N rg cs l x c vs A y d) (hN : N ≤ 1000000) (b : Int) (s : ByteArray) (hs : s.size ≤ maxLen) (hbad : b < 0 ∨ (N : Int) ≤ b ∨ 512 < s.size) :
    Calls Tryz.prog 19 #[.pointer (some ⟨xb, 0, none⟩), .int .i64 b, .string s] w fun e w' => e = .returned (.int .i64 1) ∧ w = w' := by
  have c0 := h.tx.cell 0
  have d0 := h.pg.cells.cell 0
  simp only [List.getElem?_cons_zero, List.getElem?_cons_succ] at c0 d0
  have hNI : (N : Int) ≤ 1000000 := by omega
  have hsI : (s.size : Int) ≤ 9223372036854775807 := by simp only [maxLen] at hs; omega
  clear h
  by_cases h0 : b < 0
  · go_enter Tryz.func19, Tryz.ntmps19
    go_wp2_with fail
    go_ret
    exact ⟨rfl, rfl⟩
  · have h0' : decide (b < 0) = false := by simpa using h0
    by_cases h1 : (N : Int) ≤ b
    · have h1' : decide (b ≥ (N : Int)) = true := by simpa using h1
      clear h0
      go_enter Tryz.func19, Tryz.ntmps19
      go_wp2_with fail
      go_ret
      exact ⟨rfl, rfl⟩
    · have h1' : decide (b ≥ (N : Int)) = false := by simpa using h1
      have h1b : decide ((N : Int) ≤ b) = false := by simpa using h1
      have h2 : 512 < (s.size : Int) := by omega
      clear h0 h1 hbad
      go_enter Tryz.func19, Tryz.ntmps19
      go_wp2_with fail
      go_ret
      exact ⟨rfl, rfl⟩
set_option maxHeartbeats 8000000 in
theorem rwrite_ok (h : RTx w xb rb N rg cs l x c vs A y d) (hN : N ≤ 1000000) (b : Int) (s : ByteArray) (h0 : 0 ≤ b) (h1 : b < (N : Int)) (h2 : s.size ≤ 512) :
    Calls Tryz.prog 19 #[.pointer (some ⟨xb, 0, none⟩), .int .i64 b, .string s] w fun e w' => e = .returned (.int .i64 0) ∧
      ∃ y' d', RTx w' xb rb N rg cs (wrR l b (pad s.data.toList)) x c vs A y' d' ∧ Upd (fun q => q = xb) w w' ∧ (∀ q, (Value.slice y' (wrR l b (pad s.data.toList)).length d').ownBlock = some q → w.heap.size ≤ q) := by
  have c0 := h.tx.cell 0
  have c1 := h.tx.cell 1
  have d0 := h.pg.cells.cell 0
  simp only [List.getElem?_cons_zero, List.getElem?_cons_succ] at c0 c1 d0
  have hNI : (N : Int) ≤ 1000000 := by omega
  have hsI : (s.size : Int) ≤ 512 := by omega
  have h1' : decide (b ≥ (N : Int)) = false := by simp; omega
  have h1b : decide ((N : Int) ≤ b) = false := by simp; omega
  have h0' : decide (b < 0) = false := by simp; omega
  have hle := h.ok.le
  obtain ⟨ll, hll⟩ : ∃ ll, l.length = ll := ⟨_, rfl⟩
  rw [hll] at c1 hle
  have hllI : (ll : Int) ≤ 1000000 := by omega
  have Hl := Lib.hid hll
  have hsee := h.mid.sees
  rw [hll] at hsee
  have Hsee := Lib.hid hsee
  have H := Lib.hid (And.intro h (And.intro h0 (And.intro h1 (And.intro h2 hle))))
  have HA0 : Hid (WrA w w none 0 0 (cutR (l.take 0) b)) := ⟨rfl, Mid.nil _ _, (fun q hq => by cases hq), Upd.refl _ _⟩
  clear h hll hsee h1 h2 hle
  go_enter Tryz.func19, Tryz.ntmps19
  go_wp2_with fail
  go_loopw [7, 8] (fun v i wr => ∃ (k n d2 : Nat) (y2 : Option Addr), k ≤ ll ∧ v = .slice y2 n d2 ∧ i = .int .i64 k ∧ Hid (WrA w wr y2 n d2 (cutR (l.take k) b))) (fun _ i _ => ll - (intOf i).toNat)
  case atStart => exact ⟨0, 0, 0, none, Nat.zero_le _, rfl, rfl, HA0⟩
  case round =>
    clear HA0
    obtain ⟨k, n, d2, y2, hk, rfl, rfl, HR⟩ := hrel
    have e1 : wr.cell? ⟨xb, 1, none⟩ = some (.slice y ll d) := HR.out.2.2.2.cell_some c1 (fun h => h)
    by_cases hlt : k < ll
    · have hltI : (k : Int) < (ll : Int) := by omega
      have hkl : k < l.length := by rw [Hl.out]; exact hlt
      obtain ⟨p, hp⟩ : ∃ p, l[k] = p := ⟨_, rfl⟩
      have hst := cutR_succ l b k hkl
      obtain ⟨_, _, x', c', e', hc⟩ := Hsee.out
      cases e'
      obtain ⟨g, off, rfl, hr⟩ := hc (by omega)
      have hpc : wr.rangeAt g (off + k * 2) (putC p) := by
        refine HR.out.2.2.2.range ?_ (fun h => h)
        rw [← hp]
        exact rangeAt.sub (w := w) (b := g) (off := off) hr (k * 2) (by rw [putC_length]; exact flat_piece putC 2 l k hkl (fun x _ => rfl))
      rw [hp] at hst
      obtain ⟨pb, px⟩ := p
      obtain ⟨sx, hsx⟩ : ∃ sx, strV px = sx := ⟨_, rfl⟩
      rw [putC, hsx] at hpc
      have hc0 : wr.cell? ⟨g, off + k * 2, none⟩ = some (.int .i64 pb) := hpc 0 _ rfl
      have Hst := Lib.hid (And.intro hst hsx)
      clear hst hp hr hc hsx
      by_cases he : pb = b
      · have he1 : (pb != b) = false := by simp [he]
        have HR2 : Hid (WrA w wr y2 n d2 (cutR (l.take (k + 1)) b)) := by
          rw [Hst.out.1, if_pos he, List.append_nil]; exact HR.out
        clear he HR hpc
        go_wp2_with fail
        exact ⟨⟨k + 1, n, d2, y2, by omega, rfl, by go_num, HR2⟩, by simp [intOf]; omega⟩
      · have he1 : (pb != b) = true := by simp [he]
        have Hst2 : Hid (cutR (l.take (k + 1)) b = cutR (l.take k) b ++ [(pb, px)]) := Lib.hid (by rw [Hst.out.1, if_neg he])
        clear he
        have hnk : n ≤ 1000000 := by have := cutR_le (l.take k) b; rw [HR.out.1, List.length_take] at this; omega
        have hone : ∀ u ∈ [Value.int .i64 pb, Value.string sx], u.oneCell' = true := by
          intro u hu
          simp only [List.mem_cons, List.not_mem_nil, or_false] at hu
          rcases hu with rfl | rfl <;> rfl
        have hmx : n + 1 ≤ maxLen := by unfold maxLen; omega
        have hmb : (n + 1) * 24 ≤ 140737488355328 := by omega
        have hown := HR.out.2.1.upd ((Upd.refl (fun _ => False) wr).alloc (.cells ([.int .i64 pb, .string sx] : List Value).toArray 105)) (fun _ _ h => h)
        have hsee : Sees (wr.alloc (.cells ([.int .i64 pb, .string sx] : List Value).toArray 105)) 2 (.slice (some ⟨wr.heap.size, 0, none⟩) 1 1) 1 [.int .i64 pb, .string sx] := Sees.at rfl (by decide) (rangeAt_of_row (heap_alloc_new wr (.cells ([.int .i64 pb, .string sx] : List Value).toArray 105)) rfl)
        have Hap := Lib.hid (And.intro hone (And.intro hmx (And.intro hmb (And.intro hown hsee))))
        clear hone hmx hmb hown hsee
        go_wp2_with (first | ((with_reducible apply wpl_load_mid g (off + k * 2) [.int .i64 pb, .string sx]); exact rfl; exact hpc; exact Tryz.underlying105; exact rfl; exact sizePut; try (simp only [Act.put, List.setIfInBounds_toArray, List.set_cons_zero, List.set_cons_succ])) | ((with_reducible apply wpl_append_mid 105 2 24 _ (.slice y2 n d2) n (putsC (cutR (l.take k) b)) 1 [.int .i64 pb, .string sx]); exact Tryz.underlying49; exact infoPut; exact rfl; exact rfl; exact Hap.out.2.2.2.1; exact Hap.out.2.2.2.2; exact Hap.out.1; exact Hap.out.2.1; exact Hap.out.2.2.1))
        intro y3 d3 w3 hm3 hu3 hb3
        try (simp only [Act.put, List.setIfInBounds_toArray, List.set_cons_zero, List.set_cons_succ])
        have HR3 : Hid (WrA w w3 y3 (n + 1) d3 (cutR (l.take (k + 1)) b)) := by
          rw [Hst2.out]
          exact HR.out.app (p := (pb, px)) (by rw [Hst.out.2]; exact hm3) hu3 (by simpa using hb3)
        clear hm3 hu3 hb3 HR hpc Hst Hst2
        go_wp2_with fail
        exact ⟨⟨k + 1, n + 1, d3, y3, by omega, rfl, by go_num, HR3⟩, by simp [intOf]; omega⟩
    · obtain rfl : k = ll := by omega
      have HR2 : Hid (WrA w wr y2 n d2 (cutR l b)) := by
        have := HR.out
        rwa [List.take_of_length_le (by rw [Hl.out]; exact Nat.le_refl _)] at this
      have hnk : n ≤ 1000000 := by have := cutR_le l b; rw [HR2.out.1, Hl.out] at this; omega
      have hfl := full_ok s wr H.out.2.2.2.1
      obtain ⟨sx, hsx⟩ : ∃ sx, strV (pad s.data.toList) = sx := ⟨_, rfl⟩
      rw [hsx] at hfl
      have Hfl := Lib.hid hfl
      have Hsx := Lib.hid hsx
      clear HR hfl hsx
      go_wp2_with fail
      refine Hfl.out.mono ?_
      rintro e w3 ⟨rfl, hu3⟩
      dsimp only
      have HR3 : Hid (WrA w w3 y2 n d2 (cutR l b)) := by
        obtain ⟨a1, a2, a3, a4⟩ := HR2.out
        exact ⟨a1, a2.upd hu3 (fun _ _ h => h), a3, a4.trans hu3⟩
      clear hu3 HR2 Hfl
      go_wp2_with ((with_reducible apply wpl_append_mid 105 2 24 _ (.slice y2 n d2) n (putsC (cutR l b)) 1 [.int .i64 b, .string sx]))
      · exact Tryz.underlying49
      · exact infoPut
      · rfl
      · rfl
      · exact HR3.out.2.1.upd ((Upd.refl (fun _ => False) w3).alloc _) (fun _ _ h => h)
      · exact Sees.at rfl (by decide) (rangeAt_of_row (heap_alloc_new w3 (.cells ([.int .i64 b, .string sx] : List Value).toArray 105)) rfl)
      · intro u hu
        simp only [List.mem_cons, List.not_mem_nil, or_false] at hu
        rcases hu with rfl | rfl <;> rfl
      · unfold maxLen; omega
      · omega
      intro y3 d3 w4 hm4 hu4 hb4
      try (simp only [Act.put, List.setIfInBounds_toArray, List.set_cons_zero, List.set_cons_succ])
      have HR4 : Hid (WrA w w4 y3 (n + 1) d3 (wrR l b (pad s.data.toList))) := HR3.out.app (p := (b, pad s.data.toList)) (by rw [Hsx.out]; exact hm4) hu4 (by simpa using hb4)
      have hT4 : RTx w4 xb rb N rg cs l x c vs A y d := H.out.1.upd HR4.out.2.2.2 (fun _ _ h => h)
      have hfz : w4.frozen? ⟨xb, 1, none⟩ = false := hT4.tx.frozen 1
      have hcw : ∃ v, w4.cell? ⟨xb, 1, none⟩ = some v := ⟨_, hT4.tx.cell 1⟩
      obtain ⟨ov, hov⟩ := hcw
      have HT4 := Lib.hid hT4
      clear hm4 hu4 hb4 hT4 HR3
      go_wp2_with fail
      go_ret
      obtain ⟨a1, a2, a3, a4⟩ := HR4.out
      have hus : Upd (fun q => q = xb) w4 (w4.setCell ⟨xb, 1, none⟩ (.slice y3 (n + 1) d3)) := upd_set 1 _ (Upd.refl _ _)
      have hxlt := H.out.1.tx.lt
      have hrl := H.out.1.pg.lt
      refine ⟨rfl, y3, d3, ⟨HT4.out.pg.upd hus (fun q hq e => H.out.1.n1 (e ▸ hq)), ?_, ?_, H.out.1.ok.wrR H.out.2.1 H.out.2.2.1 (pad_length (by rw [Array.length_toList]; exact H.out.2.2.2.1)), H.out.1.n1, ?_⟩, (a4.mono (fun _ _ h => h.elim)).trans hus, ?_⟩
      · rw [a1]; exact HT4.out.tx.set 1 _
      · rw [a1]; exact a2.upd hus (fun q hq e => by have := a3 q hq; omega)
      · rw [a1]
        intro q hq
        have := a3 q hq
        exact ⟨by omega, fun e => by have := hrl q e; omega⟩
      · rw [a1]; exact a3
end
end Go.Proofs.YtihlijnobbonbaaGreat
