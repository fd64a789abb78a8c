/- docketref04: a transaction's Read, Write, Commit. -/
import Derived.Test.YtihlijnobbonbaaGreatRf1
namespace Go.Proofs.YtihlijnobbonbaaGreat
open Go Go.RowKit
set_option linter.unusedSimpArgs false
set_option linter.unusedVariables false
set_option maxRecDepth 100000

/-- The answer's transaction at xb. -/
structure RTx (w : World) (xb rb N rg : Nat) (cs : List Img) (l : Img) (x : Option Addr) (c : Nat) (vs : List Value) (A : Nat → Prop) (y : Option Addr) (d : Nat) : Prop where
  pg : RPg w rb N rg cs x c vs A
  tx : CellsA w xb 51 [.pointer (some ⟨rb, 0, none⟩), .slice y l.length d]
  mid : Mid w 2 (.slice y l.length d) l.length (putsC l)
  ok : EsOk N l
  n1 : ¬ ownR rb cs.length x c A xb
  n2 : ∀ q, (Value.slice y l.length d).ownBlock = some q → q ≠ xb ∧ ¬ ownR rb cs.length x c A q
def ownX (xb rb n : Nat) (x : Option Addr) (c : Nat) (A : Nat → Prop) (m : Nat) (y : Option Addr) (d : Nat) (q : Nat) : Prop := q = xb ∨ (Value.slice y m d).ownBlock = some q ∨ ownR rb n x c A q
section
variable {w w' : World} {xb rb N rg : Nat} {cs : List Img} {l : Img} {x : Option Addr} {c : Nat} {vs : List Value} {A H : Nat → Prop} {y : Option Addr} {d : Nat}
theorem RTx.upd (h : RTx w xb rb N rg cs l x c vs A y d) (hu : Upd H w w') (hf : ∀ q, ownX xb rb cs.length x c A l.length y d q → ¬ H q) : RTx w' xb rb N rg cs l x c vs A y d :=
  ⟨h.pg.upd hu (fun q hq => hf q (.inr (.inr hq))), h.tx.upd hu (hf _ (.inl rfl)), h.mid.upd hu (fun q hq => hf q (.inr (.inl hq))), h.ok, h.n1, h.n2⟩
set_option maxHeartbeats 4000000 in
theorem rread_ok (h : RTx w xb rb N rg cs l x c vs A y d) (hN : N ≤ 1000000) (hcl : cs.length ≤ 1000000000000000000) (b : Int) :
    Calls Tryz.prog 58 #[.pointer (some ⟨xb, 0, none⟩), .int .i64 b] w fun e w' =>
      e = .returned (.tuple (if b < 0 ∨ (N : Int) ≤ b then #[.string ⟨#[]⟩, .int .i64 1] else #[.string (strV ((lookB l b).getD (atC cs b))), .int .i64 0])) ∧ Upd (fun _ => False) w w' := by
  have c0 := h.tx.cell 0
  have c1 := h.tx.cell 1
  have d0 := h.pg.cells.cell 0
  have d2 := h.pg.cells.cell 2
  simp only [List.getElem?_cons_zero, List.getElem?_cons_succ] at c0 c1 d0 d2
  have hNI : (N : Int) ≤ 1000000 := by omega
  by_cases h0 : b < 0
  · rw [if_pos (.inl h0)]
    clear h
    go_enter Tryz.func58, Tryz.ntmps58
    go_wp2_with fail
    go_ret2
    exact ⟨rfl, Upd.refl _ _⟩
  · have h0' : decide (b < 0) = false := by simpa using h0
    by_cases h1 : (N : Int) ≤ b
    · rw [if_pos (.inr h1)]
      clear h
      go_enter Tryz.func58, Tryz.ntmps58
      go_wp2_with fail
      go_ret2
      exact ⟨rfl, Upd.refl _ _⟩
    · have h1' : decide ((N : Int) ≤ b) = false := by simpa using h1
      have h1'' : decide (b ≥ (N : Int)) = false := by simpa using h1
      rw [if_neg (by omega)]
      obtain ⟨ll, hll⟩ : ∃ ll, l.length = ll := ⟨_, rfl⟩
      have hfi := find_ok y d l b w h.mid.sees
      rw [findL_look h.ok.nd, hll] at hfi
      rw [hll] at c1
      have hat := fun (w' : World) (hu : Upd (fun _ => False) w w') => at_ok (h.pg.upd hu (fun _ _ h => h)) b cs.length hcl
      obtain ⟨cl, hcl2⟩ : ∃ cl, cs.length = cl := ⟨_, rfl⟩
      rw [List.take_length, hcl2] at hat
      rw [hcl2] at d2
      obtain ⟨ol, hol⟩ : ∃ ol, lookB l b = ol := ⟨_, rfl⟩
      rw [hol] at hfi ⊢
      have Hfi := Lib.hid hfi
      have Hat := Lib.hid hat
      have Hc := Lib.hid h
      clear hfi hat h hll hcl hcl2 hol
      go_enter Tryz.func58, Tryz.ntmps58
      go_wp2_with fail
      refine Hfi.out.mono ?_
      rintro e w1 ⟨rfl, rfl⟩
      dsimp only
      cases ol with
      | some z =>
        go_wp2_with fail
        go_ret2
        exact ⟨rfl, Upd.refl _ _⟩
      | none =>
        go_wp2_with fail
        have HS : w.drew.cell? ⟨xb, 0, none⟩ = some (.pointer (some ⟨rb, 0, none⟩)) ∧ w.drew.cell? ⟨rb, 2, none⟩ = some (.slice x cl c) := ⟨c0, d2⟩
        refine wp_region_planD (fun u => u.cell? ⟨xb, 0, none⟩ = some (.pointer (some ⟨rb, 0, none⟩)) ∧ u.cell? ⟨rb, 2, none⟩ = some (.slice x cl c)) 15 [(0, true), (1, true), (2, true), (3, true), (4, true), (5, true), (6, true), (7, true), (8, true), (9, true), (10, true), (11, true), (12, true), (13, false), (14, true)] (by kernel_rfl) (by kernel_rfl) (fun d _ _ _ _ h => by cases d <;> exact h) HS ?_
        iterate 13 (first | (apply planD_held rfl rfl rfl (by simp) HS; (intro w' hS K hK; go_simp; exact hK)) | (apply planD_wanted rfl rfl rfl (by simp) HS; (intro w' hS K hK; go_simp; exact hK)))
        refine planD_op rfl rfl (fun K hK => ?_)
        go_simp
        refine (Hat.out _ (Upd.refl _ _).drew).mono ?_
        rintro e w2 ⟨rfl, hu⟩
        dsimp only
        have HS2 : w2.cell? ⟨xb, 0, none⟩ = some (.pointer (some ⟨rb, 0, none⟩)) ∧ w2.cell? ⟨rb, 2, none⟩ = some (.slice x cl c) := ⟨hu.cell_some HS.1 (fun h => h), hu.cell_some HS.2 (fun h => h)⟩
        refine hK _ _ _ (fun u h => h) (fun _ => HS2) ?_
        clear hK
        try (simp only [Act.put, List.setIfInBounds_toArray, List.set_cons_zero, List.set_cons_succ])
        iterate 1 (first | (apply planD_held rfl rfl rfl (by simp) HS2; (intro w' hS K hK; go_simp; exact hK)) | (apply planD_wanted rfl rfl rfl (by simp) HS2; (intro w' hS K hK; go_simp; exact hK)))
        refine planD_nil ?_
        have Hu := Lib.hid hu
        clear hu HS HS2
        go_wp2_with fail
        go_ret2
        exact ⟨rfl, (Upd.refl (fun _ => False) w).drew.trans Hu.out⟩
end
theorem infoPut : (Tryz.prog.info? 105).map (fun i => (i.zero, i.size, i.bytes)) = some (some (.agg #[.int .i64 0, .string ⟨#[]⟩]), 2, 24) := by kernel_rfl
theorem sizePut : (Tryz.prog.info? 105).map (·.size) = some 2 := by kernel_rfl
def cutR (l : Img) (b : Int) : Img := l.filter fun p => decide (p.1 ≠ b)
def wrR (l : Img) (b : Int) (x : Bytes) : Img := cutR l b ++ [(b, x)]
theorem cutR_succ (l : Img) (b : Int) (k : Nat) (hk : k < l.length) : cutR (l.take (k + 1)) b = cutR (l.take k) b ++ (if l[k].1 = b then [] else [l[k]]) := by
  rw [cutR, List.take_succ_eq_append_getElem hk, List.filter_append]
  congr 1
  by_cases h : l[k].1 = b <;> simp [h]
theorem lookB_append (b : Int) : ∀ (l m : Img), lookB (l ++ m) b = (lookB l b).or (lookB m b)
  | [], m => by simp [lookB]
  | p :: r, m => by
    rw [List.cons_append, lookB, lookB, lookB_append b r m]
    by_cases h : b = p.1 <;> simp [h]
theorem look_cutR (b j : Int) : ∀ l : Img, lookB (cutR l b) j = if j = b then none else lookB l j
  | [] => by simp [cutR, lookB]
  | p :: r => by
    have ih := look_cutR b j r
    rw [cutR, List.filter_cons]
    by_cases h : p.1 = b
    · rw [if_neg (by simp [h])]
      rw [cutR] at ih
      rw [ih, lookB]
      by_cases hj : j = b
      · simp [hj]
      · simp [hj, h]
    · rw [if_pos (by simp [h]), lookB, lookB]
      rw [cutR] at ih
      rw [ih]
      by_cases hj : j = p.1
      · have : ¬ j = b := fun e => h (by rw [← hj, e])
        simp [hj, h]
      · simp [hj]
theorem look_wrR (l : Img) (b : Int) (x : Bytes) (j : Int) : lookB (wrR l b x) j = if j = b then some x else lookB l j := by
  rw [wrR, lookB_append, look_cutR]
  by_cases h : j = b
  · simp [h, lookB]
  · simp [h, lookB]
theorem EsOk.wrR {N : Nat} {l : Img} (h : EsOk N l) {b : Int} {x : Bytes} (h0 : 0 ≤ b) (h1 : b < (N : Int)) (hx : x.length = 512) : EsOk N (wrR l b x) := by
  refine ⟨?_, fun p hp => ?_⟩
  · rw [keysB, Go.Proofs.YtihlijnobbonbaaGreat.wrR, List.map_append]
    refine List.nodup_append.2 ⟨?_, by simp, ?_⟩
    · exact (List.filter_sublist.map _).nodup h.nd
    · intro a ha c hc e
      simp at hc
      obtain ⟨p, hp, rfl⟩ := List.mem_map.1 ha
      have := (List.mem_filter.1 hp).2
      simp at this
      exact this (by rw [e, hc])
  · rcases List.mem_append.1 hp with e | e
    · exact h.rng p (List.mem_filter.1 e).1
    · rw [List.mem_singleton] at e; rw [e]; exact ⟨h0, h1, hx⟩
/-- Two that tell the same. -/
def SameI (a b : Img) : Prop := ∀ j, lookB a j = lookB b j
theorem SameI.len {N : Nat} {a b : Img} (h : SameI a b) (ha : EsOk N a) (hb : EsOk N b) : a.length = b.length := by
  rw [← keysB_length, ← keysB_length b, (perm_of_look ha.nd hb.nd h).length_eq]
def SameC (cs ct : List Img) : Prop := cs.length = ct.length ∧ ∀ k b, lastC (cs.take k) b = lastC (ct.take k) b
theorem SameC.nil : SameC [] [] := ⟨rfl, fun _ _ => rfl⟩
theorem SameC.take {cs ct : List Img} (h : SameC cs ct) (s : Nat) : SameC (cs.take s) (ct.take s) := ⟨by rw [List.length_take, List.length_take, h.1], fun k b => by rw [List.take_take, List.take_take]; exact h.2 _ b⟩
theorem SameC.at {cs ct : List Img} (h : SameC cs ct) (b : Int) : atC cs b = atC ct b := by
  have := h.2 cs.length b
  rw [List.take_length, h.1, List.take_length] at this
  rw [atC, atC, this]
theorem SameC.snoc {cs ct : List Img} (h : SameC cs ct) {a b : Img} (hs : SameI a b) : SameC (cs ++ [a]) (ct ++ [b]) := by
  refine ⟨by simp [h.1], fun k j => ?_⟩
  rw [List.take_append, List.take_append, lastC_append, lastC_append, h.2 k j, h.1]
  rcases Nat.lt_or_ge ct.length k with hk | hk
  · have e : k - ct.length = (k - ct.length - 1) + 1 := by omega
    rw [e, List.take_succ_cons, List.take_succ_cons, List.take_nil, lastC_one, lastC_one, hs j]
  · have e : k - ct.length = 0 := by omega
    rw [e]; rfl
end Go.Proofs.YtihlijnobbonbaaGreat
