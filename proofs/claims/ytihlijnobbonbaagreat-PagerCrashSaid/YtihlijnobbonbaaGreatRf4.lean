/- docketref04: a transaction's Commit; all of them, what is inner left out. -/
import Derived.Test.YtihlijnobbonbaaGreatRf3
namespace Go.Proofs.YtihlijnobbonbaaGreat
open Go Go.RowKit
set_option linter.unusedSimpArgs false
set_option linter.unusedVariables false
set_option maxRecDepth 100000

theorem infoPuts : (Tryz.prog.info? 49).map (fun i => (i.zero, i.size, i.bytes)) = some (some (.slice none 0 0), 1, 24) := by kernel_rfl
def RLong (rg n : Nat) : Prop := rg < (16 + n * 520 + 511) / 512 ∨ 1024 < n
section
variable {w w' : World} {xb rb N rg : Nat} {cs : List Img} {l : Img} {x : Option Addr} {c : Nat} {vs : List Value} {A H : Nat → Prop} {y : Option Addr} {d : Nat}
def CmtR (w : World) (xb rb N rg : Nat) (cs : List Img) (l : Img) (x : Option Addr) (c : Nat) (vs : List Value) (A : Nat → Prop) (y : Option Addr) (d : Nat) (a r : Int) (w' : World) : Prop :=
  (l.length = 0 ∧ a = (cs.length : Nat) ∧ r = 0 ∧ w = w') ∨
  (l.length ≠ 0 ∧ RLong rg l.length ∧ a = 0 ∧ r = 13 ∧ w = w') ∨
  (l.length ≠ 0 ∧ ¬ RLong rg l.length ∧ a = ((cs.length + 1 : Nat) : Int) ∧ r = 0 ∧ ∃ x' c' vs' A', RPg w' rb N rg (cs ++ [l]) x' c' vs' A' ∧ Upd (fun q => q = rb ∨ (Value.slice x cs.length c).ownBlock = some q) w w' ∧
    (∀ q, ownR rb (cs ++ [l]).length x' c' A' q → ownX xb rb cs.length x c A l.length y d q ∨ w.heap.size ≤ q))
set_option maxHeartbeats 8000000 in
theorem rcommit_ok (h : RTx w xb rb N rg cs l x c vs A y d) (hN : N ≤ 1000000) (hcl : cs.length ≤ 5000000000000) (hrg : rg ≤ 1000000) :
    Calls Tryz.prog 20 #[.pointer (some ⟨xb, 0, none⟩)] w fun e w' => ∃ a r, e = .returned (.tuple #[.int .i64 a, .int .i64 r]) ∧ CmtR w xb rb N rg cs l x c vs A y d a r w' := by
  have c0 := h.tx.cell 0
  have c1 := h.tx.cell 1
  have d1 := h.pg.cells.cell 1
  have d2 := h.pg.cells.cell 2
  simp only [List.getElem?_cons_zero, List.getElem?_cons_succ] at c0 c1 d1 d2
  have hle := h.ok.le
  obtain ⟨ll, hll⟩ : ∃ ll, l.length = ll := ⟨_, rfl⟩
  obtain ⟨cl, hcc⟩ : ∃ cl, cs.length = cl := ⟨_, rfl⟩
  rw [hll] at c1 hle
  rw [hcc] at d2 hcl
  have hllI : (ll : Int) ≤ 1000000 := by omega
  have hclI : (cl : Int) ≤ 5000000000000 := by omega
  have hrgI : (rg : Int) ≤ 1000000 := by omega
  have H := Lib.hid (And.intro h (And.intro hll (And.intro hcc hcl)))
  obtain ⟨m, hm⟩ : ∃ m, (16 + ll * 520 + 511) / 512 = m := ⟨_, rfl⟩
  have fm : (16 + (ll : Int) * 520 + 511) / 512 = (m : Int) := by omega
  have fm2 : (16 + (ll : Int) * 520 + 511).tdiv 512 = (m : Int) := by rw [Int.tdiv_eq_ediv_of_nonneg (by omega)]; exact fm
  have hmI : (m : Int) ≤ 2000000 := by omega
  have Hm := Lib.hid hm
  clear h hll hcc hcl hm hle
  by_cases h0 : ll = 0
  · subst h0
    have g0 : decide ((0 : Int) < ((0 : Nat) : Int)) = false := by decide
    go_enter Tryz.func20, Tryz.ntmps20
    go_wp2_with fail
    go_ret2
    exact ⟨_, _, rfl, .inl ⟨H.out.2.1, by rw [H.out.2.2.1], rfl, rfl⟩⟩
  · have g0 : (0 : Int) < (ll : Int) := by omega
    by_cases h1 : rg < m
    · have h1I : (rg : Int) < (m : Int) := by omega
      have hlong : Hid (RLong rg l.length) := .inl (by rw [H.out.2.1, Hm.out]; exact h1)
      go_enter Tryz.func20, Tryz.ntmps20
      go_wp2_with fail
      go_ret2
      exact ⟨_, _, rfl, .inr (.inl ⟨by rw [H.out.2.1]; exact h0, hlong.out, rfl, rfl, rfl⟩)⟩
    · have h1I : decide ((rg : Int) < (m : Int)) = false := by simp; omega
      have h1N : decide (rg < m) = false := by simp; omega
      by_cases h2 : 1024 < ll
      · have h2I : (1024 : Int) < (ll : Int) := by omega
        have hlong : Hid (RLong rg l.length) := .inr (by rw [H.out.2.1]; exact h2)
        go_enter Tryz.func20, Tryz.ntmps20
        go_wp2_with fail
        go_ret2
        exact ⟨_, _, rfl, .inr (.inl ⟨by rw [H.out.2.1]; exact h0, hlong.out, rfl, rfl, rfl⟩)⟩
      · have h2I : decide ((1024 : Int) < (ll : Int)) = false := by simp; omega
        have h2N : decide (1024 < ll) = false := by simp; omega
        have hlong : Hid (¬ RLong rg l.length) := fun e => by
          rcases e with e | e
          · rw [H.out.2.1, Hm.out] at e; exact h1 e
          · rw [H.out.2.1] at e; exact h2 e
        clear h1 h2
        have h0' : Hid (l.length ≠ 0) := by rw [H.out.2.1]; exact h0
        clear h0
        go_enter Tryz.func20, Tryz.ntmps20
        go_wp2_with fail
        have HS : w.drew.cell? ⟨xb, 0, none⟩ = some (.pointer (some ⟨rb, 0, none⟩)) ∧ w.drew.cell? ⟨xb, 1, none⟩ = some (.slice y ll d) ∧ w.drew.cell? ⟨rb, 2, none⟩ = some (.slice x cl c) := ⟨c0, c1, d2⟩
        refine wp_region_planD (fun u => u.cell? ⟨xb, 0, none⟩ = some (.pointer (some ⟨rb, 0, none⟩)) ∧ u.cell? ⟨xb, 1, none⟩ = some (.slice y ll d) ∧ u.cell? ⟨rb, 2, none⟩ = some (.slice x cl c)) 19 [(0, true), (1, true), (2, true), (3, true), (4, true), (5, true), (6, true), (7, true), (8, true), (9, true), (10, true), (11, true), (12, true), (13, true), (14, true), (15, false), (16, false), (17, true), (18, true), (19, false)] (by kernel_rfl) (by kernel_rfl) (fun d _ _ _ _ h => by cases d <;> exact h) HS ?_
        iterate 15 (first | (apply planD_held rfl rfl rfl (by simp) HS; (intro w' hS K hK; go_simp; exact hK)) | (apply planD_wanted rfl rfl rfl (by simp) HS; (intro w' hS K hK; go_simp; exact hK)))
        refine planD_op rfl rfl (fun K hK => ?_)
        go_simp
        have hal : Upd (fun _ => False) w (w.alloc (.cells ([.slice y ll d] : List Value).toArray 49)).drew := ((Upd.refl _ w).alloc _).drew
        have hrow : (w.alloc (.cells ([.slice y ll d] : List Value).toArray 49)).drew.rangeAt w.heap.size 0 [.slice y ll d] := rangeAt_of_row (heap_alloc_new w _) rfl
        have Hal := Lib.hid (And.intro hal hrow)
        clear hal hrow
        generalize w.heap.size = nb at *
        generalize (w.alloc (.cells ([.slice y ll d] : List Value).toArray 49)).drew = w2 at *
        have HS2 : w2.cell? ⟨xb, 0, none⟩ = some (.pointer (some ⟨rb, 0, none⟩)) ∧ w2.cell? ⟨xb, 1, none⟩ = some (.slice y ll d) ∧ w2.cell? ⟨rb, 2, none⟩ = some (.slice x cl c) := ⟨Hal.out.1.cell_some HS.1 (fun h => h), Hal.out.1.cell_some HS.2.1 (fun h => h), Hal.out.1.cell_some HS.2.2 (fun h => h)⟩
        refine hK _ _ _ (fun u h => h) (fun _ => HS2) ?_
        clear hK
        try (simp only [Act.put, List.setIfInBounds_toArray, List.set_cons_zero, List.set_cons_succ])
        have hT2 : RTx w2 xb rb N rg cs l x c vs A y d := H.out.1.upd Hal.out.1 (fun _ _ h => h)
        have HT2 := Lib.hid hT2
        refine planD_op rfl rfl (fun K hK => ?_)
        refine wp_append_whole 49 1 24 _ (.slice x cl c) cl vs 1 [.slice y ll d] Tryz.underlying46 infoPuts rfl rfl (by rw [← H.out.2.2.1]; exact HT2.out.pg.mid) (by rw [← H.out.2.2.1]; exact HT2.out.pg.whole) (Sees.at rfl (by decide) Hal.out.2) (fun u hu => by simp at hu; rw [hu]; rfl) (by unfold maxLen; omega) (by omega) (fun x3 c3 w3 hm3 hu3 hb3 hw3 => ?_)
        have hsx : ∀ q, (Value.slice x cl c).ownBlock = some q → q ≠ xb ∧ q ≠ rb := fun q hq => by
          rw [← H.out.2.2.1] at hq
          exact ⟨fun e => H.out.1.n1 (e ▸ .inr (.inl hq)), (H.out.1.pg.nb q hq).1⟩
        have HS3 : w3.cell? ⟨xb, 0, none⟩ = some (.pointer (some ⟨rb, 0, none⟩)) ∧ w3.cell? ⟨xb, 1, none⟩ = some (.slice y ll d) ∧ w3.cell? ⟨rb, 2, none⟩ = some (.slice x cl c) := ⟨hu3.cell_some HS2.1 (fun h => (hsx _ h).1 rfl), hu3.cell_some HS2.2.1 (fun h => (hsx _ h).1 rfl), hu3.cell_some HS2.2.2 (fun h => (hsx _ h).2 rfl)⟩
        have hcr : CellsA w3 rb 48 [.int .i64 N, .int .i64 rg, .slice x cl c] := by
          rw [← H.out.2.2.1]
          exact HT2.out.pg.cells.upd hu3 (fun h => (hsx _ h).2 rfl)
        have hfz : w3.frozen? ⟨rb, 2, none⟩ = false := hcr.frozen 2
        refine hK _ _ _ (fun u h => h) (fun _ => HS3) ?_
        clear hK
        try (simp only [Act.put, List.setIfInBounds_toArray, List.set_cons_zero, List.set_cons_succ])
        iterate 2 (first | (apply planD_held rfl rfl rfl (by simp) HS3; (intro w' hS K hK; go_simp; exact hK)) | (apply planD_wanted rfl rfl rfl (by simp) HS3; (intro w' hS K hK; go_simp; exact hK)))
        refine planD_op rfl rfl (fun K hK => ?_)
        have Hz := Lib.hid (And.intro hm3 (And.intro hu3 (And.intro hb3 (And.intro hw3 hcr))))
        clear hm3 hu3 hb3 hw3 hcr hT2 hsx HS2 HS
        go_simp
        have hpost : CmtR w xb rb N rg cs l x c vs A y d ((cl : Int) + 1) 0 (w3.setCell ⟨rb, 2, none⟩ (.slice x3 (cl + 1) c3)) := by
          refine .inr (.inr ⟨h0'.out, hlong.out, by rw [H.out.2.2.1]; omega, rfl, ?_⟩)
          obtain ⟨hm3, hu3, hb3, hw3, hcr⟩ := Hz.out
          have hT2 := HT2.out
          have hlen : (cs ++ [l]).length = cl + 1 := by rw [List.length_append, H.out.2.2.1]; rfl
          have hus : Upd (fun q => q = rb) w3 (w3.setCell ⟨rb, 2, none⟩ (.slice x3 (cl + 1) c3)) := upd_set 2 _ (Upd.refl _ _)
          have hz := Hal.out.1.size
          have hnb := H.out.1.pg.nb
          have hn2 := H.out.1.n2
          have hn1 := H.out.1.n1
          rw [H.out.2.2.1] at hnb
          rw [H.out.2.1] at hn2
          have hlt2 := hT2.pg.lt
          have hrlt : rb < w2.heap.size := hT2.pg.cells.lt
          have hxo : ∀ q, (Value.slice x3 (cl + 1) c3).ownBlock = some q → (Value.slice x cl c).ownBlock = some q ∨ q = w2.heap.size := fun q hq => by
            rcases hb3 with e | e
            · rw [e] at hq; exact .inl hq
            · rw [e] at hq; cases hq; exact .inr rfl
          have hylt : ∀ q, (Value.slice y ll d).ownBlock = some q → q < w2.heap.size := by have := hT2.mid.lt; rw [H.out.2.1] at this; exact this
          have hown : ∀ q, (Value.slice x3 (cl + 1) c3).ownBlock = some q → q ≠ rb ∧ ¬ (A q ∨ (Value.slice y ll d).ownBlock = some q) := fun q hq => by
            rcases hxo q hq with e | rfl
            · refine ⟨(hnb q e).1, fun h => ?_⟩
              rcases h with h | h
              · exact (hnb q e).2 h
              · exact (hn2 q h).2 (.inr (.inl (by rw [H.out.2.2.1]; exact e)))
            · refine ⟨by omega, fun h => ?_⟩
              rcases h with h | h
              · have := hlt2 _ (.inr (.inr h)); omega
              · have := hylt _ h; omega
          refine ⟨x3, c3, vs ++ [.slice y ll d], fun q => A q ∨ (Value.slice y ll d).ownBlock = some q, ⟨?_, ?_, ?_, ?_, ?_, ?_, ?_, ?_⟩, ?_, ?_⟩
          · rw [hlen]; exact hcr.set 2 _
          · rw [hlen]; exact hm3.upd hus (fun q hq e => (hown q hq).1 e)
          · rw [hlen]; exact hw3.upd hus (fun q hq e => (hown q hq).1 e) hm3.lt
          · refine PutsAt.snoc (A := A) ((hT2.pg.rows.upd hu3 (fun q hq e => (hnb q e).2 hq)).upd hus (fun q hq e => H.out.1.pg.na (e ▸ hq))) _ l ?_ (fun q hq _ => .inr hq) (fun q hq => .inl hq)
            have hs := hT2.mid.sees
            rw [H.out.2.1] at hs ⊢
            exact (hs.upd hu3 (fun q hq _ e => (hn2 q hq).2 (.inr (.inl (by rw [H.out.2.2.1]; exact e))))).upd hus (fun q hq _ e => (hn2 q hq).2 (.inl e))
          · rw [hlen]; exact hown
          · rintro (h | h)
            · exact H.out.1.pg.na h
            · exact (hn2 _ h).2 (.inl rfl)
          · intro p hp
            rcases List.mem_append.1 hp with h | h
            · exact H.out.1.pg.okC p h
            · rw [List.mem_singleton] at h; rw [h]; exact H.out.1.ok
          · rintro q (h | h)
            · exact Nat.lt_of_lt_of_le (hlt2 _ (.inr (.inr h))) (Nat.le_trans hu3.size hus.size)
            · exact Nat.lt_of_lt_of_le (hylt _ h) (Nat.le_trans hu3.size hus.size)
          · rw [H.out.2.2.1]
            exact ((Hal.out.1.mono (fun _ _ h => h.elim)).trans (hu3.mono (fun q _ h => .inr h))).trans (hus.mono (fun q _ h => .inl h))
          · rw [hlen, H.out.2.1, H.out.2.2.1]
            rintro q (h | h | h | h)
            · exact .inl (.inr (.inr (.inl h)))
            · rcases hxo q h with e | rfl
              · exact .inl (.inr (.inr (.inr (.inl e))))
              · exact .inr hz
            · exact .inl (.inr (.inr (.inr (.inr h))))
            · exact .inl (.inr (.inl h))
        have e0 : (w3.setCell ⟨rb, 2, none⟩ (.slice x3 (cl + 1) c3)).cell? ⟨xb, 0, none⟩ = some (.pointer (some ⟨rb, 0, none⟩)) := (upd_set 2 _ (Upd.refl (fun q => q = rb) w3)).cell_some HS3.1 (fun e => H.out.1.n1 (.inl e))
        have e2 : (w3.setCell ⟨rb, 2, none⟩ (.slice x3 (cl + 1) c3)).cell? ⟨rb, 2, none⟩ = some (.slice x3 (cl + 1) c3) := by
          rw [(Hz.out.2.2.2.2.set 2 _).cell 2]; rfl
        have Hpost := Lib.hid hpost
        clear hpost
        refine hK _ _ _ (fun u h => h) (fun h => absurd rfl h) ?_
        clear hK HS3 hfz
        refine planD_nil ?_
        generalize w3.setCell ⟨rb, 2, none⟩ (.slice x3 (cl + 1) c3) = w4 at *
        go_wp2_with fail
        go_ret2
        exact ⟨_, _, rfl, Hpost.out⟩
end
end Go.Proofs.YtihlijnobbonbaaGreat
