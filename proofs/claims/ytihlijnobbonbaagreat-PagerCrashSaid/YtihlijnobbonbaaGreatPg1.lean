/- Package pager: a transaction's Read and Write. -/
import Derived.Test.YtihlijnobbonbaaGreatKDisk
import Derived.Test.YtihlijnobbonbaaGreatKMap
namespace Go.Proofs.YtihlijnobbonbaaGreat
open Go Go.RowKit
set_option linter.unusedSimpArgs false
set_option linter.unusedVariables false
set_option maxRecDepth 100000

theorem infoImg : (Tryz.prog.info? 94).map (fun i => (i.zero, i.size, i.bytes)) = some (some (.agg (bvs zeros512).toArray), 512, 512) := by kernel_rfl
theorem sizeImg : (Tryz.prog.info? 94).map (·.size) = some 512 := by kernel_rfl
theorem zeroImg (w : World) : (zeroValue 94).run Tryz.prog w = .ok (.agg (bvs zeros512).toArray) w := by kernel_rfl
theorem zcImg : Tryz.zeroCells94 = (bvs zeros512).toArray := by kernel_rfl
/-- Block b holds the cells l. -/
def CellsA (w : World) (b : Nat) (t : TypeId) (l : List Value) : Prop := w.heap[b]? = some (.cells l.toArray t (0, 0))
theorem CellsA.cell {w : World} {b : Nat} {t : TypeId} {l : List Value} (h : CellsA w b t l) (i : Nat) : w.cell? ⟨b, i, none⟩ = l[i]? := by
  rw [cell_of_row _ _ _ _ _ _ h]
  simp
theorem CellsA.lt {w : World} {b : Nat} {t : TypeId} {l : List Value} (h : CellsA w b t l) : b < w.heap.size := lt_of_block h
theorem CellsA.frozen {w : World} {b : Nat} {t : TypeId} {l : List Value} (h : CellsA w b t l) (i : Nat) : w.frozen? ⟨b, i, none⟩ = false := unfrozen h i
theorem CellsA.upd {w w' : World} {b : Nat} {t : TypeId} {l : List Value} {F : Nat → Prop} (h : CellsA w b t l) (hu : Upd F w w') (hf : ¬ F b) : CellsA w' b t l := hu.heap h hf
theorem CellsA.set {w : World} {b : Nat} {t : TypeId} {l : List Value} (h : CellsA w b t l) (i : Nat) (v : Value) : CellsA (w.setCell ⟨b, i, none⟩ v) b t (l.set i v) := by
  rw [CellsA, stored h, List.setIfInBounds_toArray]
theorem CellsA.new (w : World) (t : TypeId) (l : List Value) : CellsA (w.alloc (.cells l.toArray t)) w.heap.size t l := heap_alloc_new w _
theorem CellsA.range {w : World} {b : Nat} {t : TypeId} {l : List Value} (h : CellsA w b t l) : w.rangeAt b 0 l := rangeAt_of_row h (by simp)

def imgs (es : List (Int × Bytes)) : List (Int × Value) := es.map fun p => (p.1, .agg (bvs p.2).toArray)
def pgV (db lb skip ring fb : Nat) (ot : Option Addr) : List Value := [.pointer (some ⟨db, 0, none⟩), .pointer (some ⟨lb, 0, none⟩), .int .i64 skip, .int .i64 ring, .map (some fb), .pointer ot, .bool false]
/-- A transaction of a pager that lives: its block tb, the pager's pb, the dirty map mb, the disk db; N blocks. -/
structure TxS (w : World) (tb pb mb db lb fb skip ring N : Nat) (ot : Option Addr) (D : DSt) (es : List (Int × Bytes)) (G : Nat → Prop) : Prop where
  tx : CellsA w tb 91 [.pointer (some ⟨pb, 0, none⟩), .map (some mb)]
  pg : CellsA w pb 85 (pgV db lb skip ring fb ot)
  dirty : MapAt w mb (imgs es)
  disk : DiskAt w db D G
  size : D.secs.length = skip + N
  lens : ∀ p ∈ es, p.2.length = 512
  ne1 : tb ≠ pb
  ne2 : mb ≠ tb
  ne3 : mb ≠ pb
  g1 : ¬ G tb
  g2 : ¬ G pb
  g3 : ¬ G mb
def ownT (tb pb mb : Nat) (G : Nat → Prop) (q : Nat) : Prop := q = tb ∨ q = pb ∨ q = mb ∨ G q
section
variable {w w' : World} {tb pb mb db lb fb skip ring N : Nat} {ot : Option Addr} {D : DSt} {es : List (Int × Bytes)} {G : Nat → Prop}
theorem TxS.upd (h : TxS w tb pb mb db lb fb skip ring N ot D es G) {F : Nat → Prop} (hu : Upd F w w') (hf : ∀ q, ownT tb pb mb G q → ¬ F q) : TxS w' tb pb mb db lb fb skip ring N ot D es G :=
  ⟨h.tx.upd hu (hf _ (.inl rfl)), h.pg.upd hu (hf _ (.inr (.inl rfl))), h.dirty.upd hu (hf _ (.inr (.inr (.inl rfl)))), h.disk.upd hu (fun q hq => hf q (.inr (.inr (.inr hq)))), h.size, h.lens, h.ne1, h.ne2, h.ne3, h.g1, h.g2, h.g3⟩
theorem TxS.lt (h : TxS w tb pb mb db lb fb skip ring N ot D es G) : ∀ q, ownT tb pb mb G q → q < w.heap.size := by
  rintro q (rfl | rfl | rfl | hq)
  · exact h.tx.lt
  · exact h.pg.lt
  · exact h.dirty.lt
  · exact h.disk.lt q hq
theorem blocks_ok (h : TxS w tb pb mb db lb fb skip ring N ot D es G) : Calls Tryz.prog 27 #[.pointer (some ⟨pb, 0, none⟩)] w fun e w' => e = .returned (.int .i64 N) ∧ Upd (fun _ => False) w w' := by
  have c0 := h.pg.cell 0
  have c2 := h.pg.cell 2
  simp only [pgV, List.getElem?_cons_zero, List.getElem?_cons_succ] at c0 c2
  have hsz := h.size
  have hmx := h.disk.1.most
  have b1 : (skip : Int) + (N : Int) ≤ 4096 := by omega
  have H := Lib.hid h
  clear h hmx
  go_enter Tryz.func27, Tryz.ntmps27
  go_wp2_with fail
  have HS : w.drew.cell? ⟨pb, 0, none⟩ = some (.pointer (some ⟨db, 0, none⟩)) ∧ w.drew.cell? ⟨pb, 2, none⟩ = some (.int .i64 skip) := ⟨c0, c2⟩
  have fN : IntKind.i64.wrap ((skip : Int) + (N : Int) - (skip : Int)) = (N : Int) := by rw [IntKind.wrap_i64]; omega
  refine wp_region_planD (fun u => u.cell? ⟨pb, 0, none⟩ = some (.pointer (some ⟨db, 0, none⟩)) ∧ u.cell? ⟨pb, 2, none⟩ = some (.int .i64 skip)) 11 [(0, true), (1, true), (2, true), (3, true), (5, true), (6, true), (7, true), (8, true), (4, false), (9, true), (10, true)] (by kernel_rfl) (by kernel_rfl) (fun d _ _ _ _ h => by cases d <;> exact h) HS ?_
  iterate 8 (first | (apply planD_held rfl rfl rfl (by simp) HS; (intro w' hS K hK; go_simp; exact hK)) | (apply planD_wanted rfl rfl rfl (by simp) HS; (intro w' hS K hK; go_simp; exact hK)))
  refine planD_op rfl rfl (fun K hK => ?_)
  go_simp
  have hs := size_disk (H.out.disk.upd ((Upd.refl (fun _ => False) w).drew) (fun _ _ h => h))
  rw [hsz] at hs
  refine hs.mono ?_
  rintro e wn ⟨rfl, rfl⟩
  dsimp only
  refine hK _ _ _ (fun u h => h) (fun _ => HS) ?_
  clear hK hs
  try (simp only [Act.put, List.setIfInBounds_toArray, List.set_cons_zero, List.set_cons_succ])
  iterate 2 (first | (apply planD_held rfl rfl rfl (by simp) HS; (intro w' hS K hK; go_simp; exact hK)) | (apply planD_wanted rfl rfl rfl (by simp) HS; (intro w' hS K hK; go_simp; exact hK)))
  refine planD_nil ?_
  clear HS
  go_wp2_with fail
  go_ret
  exact ⟨by first | rfl | (congr 2; exact fN), (Upd.refl _ _).drew⟩
theorem usable_ok (h : TxS w tb pb mb db lb fb skip ring N ot D es G) (b : Int) (hb : -9223372036854775808 ≤ b) (hb2 : b ≤ 9223372036854775807) : Calls Tryz.prog 41 #[.pointer (some ⟨tb, 0, none⟩), .int .i64 b] w fun e w' =>
    e = .returned (.int .i64 (if b < 0 ∨ (N : Int) ≤ b then 1 else 0)) ∧ Upd (fun _ => False) w w' := by
  have c0 := h.tx.cell 0
  have d6 := h.pg.cell 6
  simp only [pgV, List.getElem?_cons_zero, List.getElem?_cons_succ] at c0 d6
  have hsz := h.size
  have hmx := h.disk.1.most
  have b1 : (N : Int) ≤ 4096 := by omega
  have H := Lib.hid h
  clear h hmx hsz
  by_cases h0 : b < 0
  · rw [if_pos (.inl h0)]
    go_enter Tryz.func41, Tryz.ntmps41
    go_wp2_with fail
    go_ret
    exact ⟨rfl, Upd.refl _ _⟩
  · have h0' : decide (b < 0) = false := by simpa using h0
    have hbk := blocks_ok H.out
    by_cases h1 : (N : Int) ≤ b
    · rw [if_pos (.inr h1)]
      have Hbk := Lib.hid hbk
      clear hbk
      go_enter Tryz.func41, Tryz.ntmps41
      go_wp2_with fail
      refine Hbk.out.mono ?_
      rintro e w1 ⟨rfl, hu⟩
      dsimp only
      have Hu := Lib.hid hu
      clear hu
      go_wp2_with fail
      go_ret
      exact ⟨rfl, Hu.out⟩
    · rw [if_neg (by omega)]
      have Hbk := Lib.hid hbk
      clear hbk
      go_enter Tryz.func41, Tryz.ntmps41
      go_wp2_with fail
      refine Hbk.out.mono ?_
      rintro e w1 ⟨rfl, hu⟩
      dsimp only
      have Hu := Lib.hid hu
      clear hu
      go_wp2_with fail
      go_ret
      exact ⟨rfl, Hu.out⟩
end
/-- A block's bytes put into a list. -/
def putB (es : List (Int × Bytes)) (k : Int) (x : Bytes) : List (Int × Bytes) :=
  match findIx k (imgs es) 0 with
  | some (i, _) => es.set i (k, x)
  | none => es ++ [(k, x)]
theorem imgs_putB (es : List (Int × Bytes)) (k : Int) (x : Bytes) : imgs (putB es k x) = putV (imgs es) k (.agg (bvs x).toArray) := by
  unfold putB putV
  cases h : findIx k (imgs es) 0 with
  | none => simp [imgs]
  | some p =>
    obtain ⟨i, v⟩ := p
    simp only [imgs, List.map_set]
theorem putB_lens {es : List (Int × Bytes)} {k : Int} {x : Bytes} (h : ∀ p ∈ es, p.2.length = 512) (hx : x.length = 512) : ∀ p ∈ putB es k x, p.2.length = 512 := by
  intro p hp
  unfold putB at hp
  split at hp
  · rcases List.mem_or_eq_of_mem_set hp with h1 | h1
    · exact h p h1
    · rw [h1]; exact hx
  · rcases List.mem_append.1 hp with h1 | h1
    · exact h p h1
    · rw [List.mem_singleton] at h1; rw [h1]; exact hx
/-- What a Write leaves. -/
def WritePost (w : World) (tb pb mb db lb fb skip ring N : Nat) (ot : Option Addr) (D : DSt) (es : List (Int × Bytes)) (G : Nat → Prop) (b : Int) (dl : Bytes) (r : Int) (w' : World) : Prop :=
  ((b < 0 ∨ (N : Int) ≤ b ∨ 512 < dl.length) ∧ r = 1 ∧ Upd (fun _ => False) w w') ∨
  (0 ≤ b ∧ b < (N : Int) ∧ dl.length ≤ 512 ∧ r = 0 ∧ TxS w' tb pb mb db lb fb skip ring N ot D (putB es b (pad dl)) G ∧ Upd (fun q => q = mb) w w')
theorem pad512_splice (l : Bytes) : splice (bvs zeros512) 0 (bvs l) = bvs (pad l) := by
  simp only [splice, pad, List.take_zero, List.nil_append, bvs_append, bvs_length, Nat.zero_add]
  simp only [bvs, ← List.map_drop, zeros512, List.drop_replicate]
set_option maxHeartbeats 2000000 in
theorem txwrite_ok {w : World} {tb pb mb db lb fb skip ring N : Nat} {ot : Option Addr} {D : DSt} {es : List (Int × Bytes)} {G : Nat → Prop} (h : TxS w tb pb mb db lb fb skip ring N ot D es G) (b : Int) (hb : -9223372036854775808 ≤ b) (hb2 : b ≤ 9223372036854775807) (xd : Option Addr) (xc : Nat) (dl : Bytes)
    (hs : Sees w 1 (.slice xd dl.length xc) dl.length (bvs dl)) : Calls Tryz.prog 15 #[.pointer (some ⟨tb, 0, none⟩), .int .i64 b, .slice xd dl.length xc] w fun e w' => ∃ r, e = .returned (.int .i64 r) ∧ WritePost w tb pb mb db lb fb skip ring N ot D es G b dl r w' := by
  have hus := usable_ok h b hb hb2
  have hdm := hs.2.1
  have hdI : (dl.length : Int) ≤ 9223372036854775807 := by simp only [maxLen] at hdm; omega
  have H := Lib.hid (And.intro h hs)
  clear h hs hdm
  by_cases h0 : b < 0 ∨ (N : Int) ≤ b
  · rw [if_pos h0] at hus
    have Hus := Lib.hid (And.intro hus h0)
    clear hus h0
    go_enter Tryz.func15, Tryz.ntmps15
    go_wp2_with fail
    refine Hus.out.1.mono ?_
    rintro e w1 ⟨rfl, hu⟩
    dsimp only
    have Hu := Lib.hid hu
    clear hu
    go_wp2_with fail
    go_ret
    exact ⟨1, rfl, .inl ⟨by have := Hus.out.2; omega, rfl, Hu.out⟩⟩
  rw [if_neg h0] at hus
  have Hus := Lib.hid (And.intro hus h0)
  clear hus h0
  by_cases h1 : 512 < dl.length
  · have q1 : decide ((dl.length : Int) > 512) = true := by simp; omega
    go_enter Tryz.func15, Tryz.ntmps15
    go_wp2_with fail
    refine Hus.out.1.mono ?_
    rintro e w1 ⟨rfl, hu⟩
    dsimp only
    have Hu := Lib.hid hu
    clear hu
    go_wp2_with fail
    go_ret
    exact ⟨1, rfl, .inl ⟨.inr (.inr h1), rfl, Hu.out⟩⟩
  have q1 : decide ((dl.length : Int) > 512) = false := by simp; omega
  go_enter Tryz.func15, Tryz.ntmps15
  go_wp2_with fail
  refine Hus.out.1.mono ?_
  rintro e w1 ⟨rfl, hu⟩
  dsimp only
  have Hu := Lib.hid hu
  clear hu
  have hD1 := H.out.1.upd Hu.out (fun _ _ h => h)
  have hal : Upd (fun _ => False) w1 (w1.alloc (.cells Tryz.zeroCells94 94)) := (Upd.refl _ w1).alloc _
  have Hse : Sees (w1.alloc (.cells Tryz.zeroCells94 94)) 1 (.slice xd dl.length xc) dl.length (bvs dl) := (H.out.2.upd Hu.out (fun _ _ _ h => h)).upd hal (fun _ _ _ h => h)
  have hmin : min dl.length 512 = dl.length := by omega
  have Hth : (w1.alloc (.cells Tryz.zeroCells94 94)).there w1.heap.size 0 (min dl.length 512 * 1) := by
    rw [zcImg]
    exact there_of_row (heap_alloc_new w1 _) (by simp [bvs_length, zeros512]; omega)
  have Hcp : Hid ((w1.alloc (.cells Tryz.zeroCells94 94)).setCells w1.heap.size 0 ((bvs dl).take (min dl.length 512 * 1)) = w1.alloc (.cells (bvs (pad dl)).toArray 94)) := by
    rw [zcImg, hmin, Nat.mul_one, List.take_of_length_le (by rw [bvs_length]; exact Nat.le_refl _)]
    show _ = _
    rw [setCells_alloc _ _ _ _ _ (by simp [bvs_length, zeros512]; omega), pad512_splice]
  have HT := Lib.hid (hD1.upd ((Upd.refl (fun _ => False) w1).alloc (.cells (bvs (pad dl)).toArray 94)) (fun _ _ h => h))
  have Hal := Lib.hid ((Upd.refl (fun _ => False) w1).alloc (.cells (bvs (pad dl)).toArray 94))
  have hcx := CellsA.new w1 94 (bvs (pad dl))
  have Hcx := Lib.hid (And.intro hcx (show (pad dl).length = 512 from pad_length (by omega)))
  clear hD1 hal hcx
  go_wp2_with ((with_reducible apply wpl_copy_sees); exact Tryz.underlying38; exact sizeB; exact rfl; exact Hse; exact Hth; exact bvs_one _; rw [Hcp.out]; simp only [Act.put, List.setIfInBounds_toArray, List.set_cons_zero, List.set_cons_succ])
  have hlt := Hcx.out.1.lt
  clear Hse Hth Hcp
  generalize w1.alloc (.cells (bvs (pad dl)).toArray 94) = w2 at *
  generalize w1.heap.size = xb at *
  have HS : w2.drew.cell? ⟨tb, 1, none⟩ = some (.map (some mb)) ∧ w2.drew.rangeAt xb 0 (bvs (pad dl)) := ⟨HT.out.tx.cell 1, Hcx.out.1.range⟩
  have HT2 := Lib.hid (HT.out.upd ((Upd.refl (fun _ => False) w2).drew) (fun _ _ h => h))
  refine wp_region_planD (fun u => u.cell? ⟨tb, 1, none⟩ = some (.map (some mb)) ∧ u.rangeAt xb 0 (bvs (pad dl))) 6 [(0, true), (1, true), (2, true), (3, true), (4, true), (5, true), (6, false)] (by kernel_rfl) (by kernel_rfl) (fun d _ _ _ _ h => by cases d <;> exact h) HS ?_
  iterate 5 (first | (apply planD_held rfl rfl rfl (by simp) HS; (intro w' hS K hK; go_simp; exact hK)) | (apply planD_wanted rfl rfl rfl (by simp) HS; (intro w' hS K hK; go_simp; exact hK)))
  apply planD_held rfl rfl rfl (by simp) HS
  · intro w' hS K hK
    exact gives_load_mid xb 0 rfl (bvs (pad dl)) _ hS.2 Tryz.underlying94 rfl (by rw [bvs_length, Hcx.out.2]; exact sizeImg) hK
  try (simp only [Act.put, List.setIfInBounds_toArray, List.set_cons_zero, List.set_cons_succ])
  refine planD_op rfl rfl (fun K hK => ?_)
  refine wp_update_map Tryz.underlying83 Tryz.underlying3 mb (imgs es) b (.agg (bvs (pad dl)).toArray) rfl rfl rfl HT2.out.dirty (fun w3 hm3 hu3 => ?_)
  have HW : Hid (TxS w3 tb pb mb db lb fb skip ring N ot D (putB es b (pad dl)) G ∧ Upd (fun q => q = mb) w w3) := by
    have h2 := HT2.out
    rw [← imgs_putB] at hm3
    refine ⟨⟨h2.tx.upd hu3 (fun e => h2.ne2 e.symm), h2.pg.upd hu3 (fun e => h2.ne3 e.symm), hm3, h2.disk.upd hu3 (fun q hq e => h2.g3 (e ▸ hq)), h2.size, putB_lens h2.lens Hcx.out.2, h2.ne1, h2.ne2, h2.ne3, h2.g1, h2.g2, h2.g3⟩, ?_⟩
    exact ((((Hu.out.trans Hal.out).drew).mono (fun _ _ h => h.elim)).then hu3 (fun q hq => .inl hq))
  refine hK _ _ _ (fun u h => h) (fun h => absurd rfl h) ?_
  clear hK HS hm3 hu3
  try (simp only [Act.put, List.setIfInBounds_toArray, List.set_cons_zero, List.set_cons_succ])
  refine planD_nil ?_
  go_wp2_with fail
  go_ret
  exact ⟨0, rfl, .inr ⟨by have := Hus.out.2; omega, by have := Hus.out.2; omega, by omega, rfl, HW.out.1, HW.out.2⟩⟩
end Go.Proofs.YtihlijnobbonbaaGreat
