/- docketlaw07: whole. -/
import Derived.Test.YtmefbbmjamdnjaaBb17
namespace Go.Proofs.Ytmefbbmjamdnjaa
open Go Go.RowKit
set_option linter.unusedSimpArgs false
set_option linter.unusedVariables false
set_option maxRecDepth 100000

theorem mk_dataB (s : ByteArray) : (⟨s.data.toList.toArray⟩ : ByteArray) = s := by cases s; simp
def srtN (l : List Nat) : List Nat := (srtI l).map Int.toNat
theorem srtI_mem {l : List Nat} {z : Int} : z ∈ srtI l ↔ ∃ t ∈ l, ((t : Nat) : Int) = z := by
  have hperm : (srtI l).Perm (intsI l) := List.mergeSort_perm _ _
  rw [hperm.mem_iff, intsI, List.mem_map]
theorem srtN_length (l : List Nat) : (srtN l).length = l.length := by rw [srtN, List.length_map, srtI_length]
theorem srtN_I (l : List Nat) : (srtI l).map (Value.int .i64) = intsV (srtN l) := by
  rw [srtN, intsV, List.map_map]
  refine List.map_congr_left fun z hz => ?_
  obtain ⟨t, _, rfl⟩ := srtI_mem.1 hz
  simp
theorem srtN_mem {l : List Nat} {t : Nat} : t ∈ srtN l ↔ t ∈ l := by
  rw [srtN, List.mem_map]
  constructor
  · rintro ⟨z, hz, rfl⟩
    obtain ⟨u, hu, rfl⟩ := srtI_mem.1 hz
    simpa using hu
  · intro h
    exact ⟨(t : Int), srtI_mem.2 ⟨t, h, rfl⟩, by simp⟩
theorem srtN_lt {l : List Nat} (h : l.Nodup) : (srtN l).Pairwise (· < ·) := by
  have h1 : (srtI l).Pairwise fun a b => decide (a ≤ b) = true := List.pairwise_mergeSort (fun a b c => by simp; omega) (fun a b => by simp; omega) _
  have h2 : (srtI l).Nodup := srtI_nodup h
  rw [srtN, List.pairwise_map]
  refine (List.Pairwise.and_mem.1 (h1.and h2)).imp ?_
  rintro a b ⟨ha, hb, hab, hne⟩
  obtain ⟨u, _, rfl⟩ := srtI_mem.1 ha
  obtain ⟨v, _, rfl⟩ := srtI_mem.1 hb
  simp at hab hne ⊢
  omega
/-- A blob's blocks, sorted, behind those that were seen. -/
structure RowZ (T0 zs : List Nat) : Prop where
  rng : ∀ z ∈ zs, 1 ≤ z ∧ z ≤ 4096
  inc : zs.Pairwise (· < ·)
  new : ∀ z ∈ zs, z ∉ T0
theorem RowZ.prev {T0 zs : List Nat} (h : RowZ T0 zs) {j : Nat} (h1 : j + 1 < zs.length) : zs[j] < zs[j + 1] := List.pairwise_iff_getElem.1 h.inc j (j + 1) (by omega) h1 (by omega)
theorem RowZ.fresh {T0 zs : List Nat} (h : RowZ T0 zs) {j : Nat} (h1 : j < zs.length) : zs[j] ∉ T0 ++ zs.take j := by
  rw [List.mem_append]
  rintro (hm | hm)
  · exact h.new _ (List.getElem_mem h1) hm
  · obtain ⟨k, hk, e⟩ := List.mem_iff_getElem.1 hm
    rw [List.length_take] at hk
    rw [List.getElem_take] at e
    have := List.pairwise_iff_getElem.1 h.inc k j (by omega) h1 (by omega)
    omega
def blksOf (l : List Bl) : List Nat := l.flatMap fun b => srtN b.bk
theorem rowz_of {es : Img} {all : List Bl} (h : AllOk es all) (i : Nat) (hi : i < all.length) : RowZ (blksOf (all.take i)) (srtN all[i].bk) := by
  refine ⟨fun z hz => (h.ok _ (List.getElem_mem hi)).2.2 z (srtN_mem.1 hz), srtN_lt (h.ok _ (List.getElem_mem hi)).2.1, fun z hz hm => ?_⟩
  obtain ⟨b, hb, hzb⟩ := List.mem_flatMap.1 hm
  obtain ⟨k, hk, e⟩ := List.mem_iff_getElem.1 hb
  rw [List.length_take] at hk
  rw [List.getElem_take] at e
  have := List.pairwise_iff_getElem.1 h.dis k i (by omega) hi (by omega)
  rw [e] at this
  exact this z (srtN_mem.1 hzb) (srtN_mem.1 hz)
theorem blks_succ (all : List Bl) (i : Nat) (hi : i < all.length) : blksOf (all.take (i + 1)) = blksOf (all.take i) ++ srtN all[i].bk := by
  rw [List.take_succ_eq_append_getElem hi, blksOf, List.flatMap_append]; simp [blksOf]
/-- What whole has seen. -/
def seenV (T : List Nat) : List Value := (List.range 4098).map fun t => Value.bool (decide (t ∈ T))
theorem seenV_at (T : List Nat) (t : Nat) (ht : t < 4098) : (seenV T)[t]? = some (.bool (decide (t ∈ T))) := by
  rw [seenV, List.getElem?_map, List.getElem?_range ht]; rfl
theorem seenV_set (T : List Nat) (t : Nat) (ht : t < 4098) : (seenV T).set t (.bool true) = seenV (T ++ [t]) := by
  apply List.ext_getElem?
  intro k
  by_cases hk : k < 4098
  · rw [seenV_at _ k hk, List.getElem?_set]
    by_cases e : t = k
    · subst e
      rw [if_pos rfl, if_pos (by simp [seenV]; omega)]
      simp
    · rw [if_neg e, seenV_at _ k hk]
      have : (k ∈ T ++ [t]) ↔ k ∈ T := by simp; omega
      simp [this]
  · rw [List.getElem?_eq_none (by simp [seenV]; omega), List.getElem?_eq_none (by simp [seenV]; omega)]
theorem seenV_nil : seenV [] = List.replicate 4098 (.bool false) := by
  apply List.ext_getElem?
  intro k
  by_cases hk : k < 4098
  · rw [seenV_at _ k hk, List.getElem?_replicate, if_pos hk]; simp
  · rw [List.getElem?_eq_none (by simp [seenV]; omega), List.getElem?_eq_none (by simp; omega)]
theorem infoBool7 : (Try.prog.info? 4).map (fun i => (i.zero, i.size, i.bytes)) = some (some (.bool false), 1, 1) := by kernel_rfl
theorem made_seen (u : World) : (Instr.makeSlice 84 (.int .i64 4098) (.int .i64 4098)).run Try.prog u = .ok (.slice (some ⟨u.heap.size, 0, none⟩) 4098 4098) (u.alloc (.cells (seenV []).toArray 4)) := by
  obtain ⟨i, hi, hz0, hz1, hz2⟩ := info_parts infoBool7
  have h := run_make (P := Try.prog) u 84 4 i _ Try.underlying84 hi hz0 .i64 .i64 4098 4098 (by omega) (Int.le_refl _) (by rw [hz2]; omega) (by omega)
  rw [hz1] at h
  refine h.trans ?_
  have e2 : madeCells (Value.bool false).cells ((4098 : Int).toNat * 1) = (seenV []).toArray := by
    rw [Nat.mul_one, seenV_nil]
    have := toList_madeCells_one (.bool false) 4098
    apply Array.toList_inj.1
    rw [show (Value.bool false).cells = #[.bool false] from rfl]
    exact this
  rw [e2]; rfl
theorem sees_one7 {w : World} {n c : Nat} {xo : Option Addr} {xs : List Value} (h : Sees w 1 (.slice xo n c) n xs) (k : Nat) (hk : k < n) {v : Value} (hv : xs[k]? = some v) :
    ∃ g o, xo = some ⟨g, o, none⟩ ∧ w.cell? ⟨g, o + k, none⟩ = some v := by
  obtain ⟨_, _, x, c, hx, hc⟩ := h
  cases hx
  obtain ⟨b, o, rfl, hr⟩ := hc (by omega)
  exact ⟨b, o, rfl, hr k v hv⟩
section
variable {w : World} {mb most : Nat} {es : Img} {K : Nat → Prop}
set_option maxHeartbeats 16000000 in
theorem whole_ok (h : MemAt w mb most es K) {all : List Bl} (ha : AllOk es all) {y : Option Addr} {n d : Nat} (hm : Mid w 2 (.slice y n d) n (heldsV all)) (hn : n ≤ 100) :
    Calls Try.prog 14 #[.pointer (some ⟨mb, 0, none⟩), .slice y n d] w fun e w' => e = .returned (.bool true) ∧ Upd (fun _ => False) w w' := by
  have hlen := held_len hm
  have hmk := made_seen
  have hnI : (n : Int) ≤ 100 := by omega
  have H := Lib.hid (And.intro h (And.intro ha (And.intro hm hlen)))
  clear h ha hm hlen
  go_enter Try.func14, Try.ntmps14
  go_wp2_with fail
  clear hmk
  have HS0 : Hid (Upd (fun _ => False) w (w.alloc (.cells (seenV []).toArray 4)) ∧ CellsA (w.alloc (.cells (seenV []).toArray 4)) w.heap.size 4 (seenV [])) := Lib.hid ⟨(Upd.refl _ w).alloc _, CellsA.new w _ _⟩
  obtain ⟨sb, hsb⟩ : ∃ sb, w.heap.size = sb := ⟨_, rfl⟩
  rw [hsb] at HS0 ⊢
  generalize w.alloc (.cells (seenV []).toArray 4) = w1 at HS0 ⊢
  have Hsb := Lib.hid hsb
  clear hsb
  go_loopw [6] (fun iv wr => ∃ (i : Nat), i ≤ n ∧ iv = .int .i64 i ∧ Hid (Upd (fun _ => False) w wr ∧ CellsA wr sb 4 (seenV (blksOf (all.take i))))) (fun iv _ => n - (intOf iv).toNat)
  case atStart => exact ⟨0, Nat.zero_le _, rfl, HS0⟩
  case round =>
    obtain ⟨i, hi, rfl, HR⟩ := hrel
    clear HS0
    by_cases hlt : i < n
    · have hltI : (i : Int) < (n : Int) := by omega
      have hil : i < all.length := by rw [H.out.2.2.2]; exact hlt
      obtain ⟨g, o, e, c1, c2⟩ := held_cell H.out.2.2.1 i hil
      have hgl : g < w.heap.size := H.out.2.2.1.lt g (by rw [e]; rfl)
      have hbk := H.out.2.1.ok _ (List.getElem_mem hil)
      have hrz := rowz_of H.out.2.1 i hil
      have hbs := blks_succ all i hil
      obtain ⟨b, hb⟩ : ∃ b, all[i] = b := ⟨_, rfl⟩
      rw [hb] at c1 c2 hbk hrz hbs
      have C1 : Hid (∀ wX, Upd (fun _ => False) w wX → wX.cell? ⟨g, o + i * 2, none⟩ = some (.int .i64 (b.head : Nat))) := Lib.hid fun wX hu => (hu.cell (a := ⟨g, o + i * 2, none⟩) hgl (fun h => h)).trans c1
      have C2 : Hid (∀ wX, Upd (fun _ => False) w wX → wX.cell? ⟨g, o + i * 2 + 1, none⟩ = some (.string b.s)) := Lib.hid fun wX hu => (hu.cell (a := ⟨g, o + i * 2 + 1, none⟩) hgl (fun h => h)).trans c2
      have HM : Hid (∀ wX, Upd (fun _ => False) w wX → MemAt wX mb most es K) := Lib.hid fun wX hu => H.out.1.upd hu (fun _ _ h => h)
      have HB := Lib.hid (And.intro hbk (And.intro hrz hbs))
      clear c1 c2 hbk hrz hbs hb hil hgl
      subst e
      have htl : b.s.data.toList.length = b.s.size := Array.length_toList
      have hsm : b.s.size ≤ 49152 := by have := HB.out.1.1.small; omega
      have hsmI : (b.s.size : Int) ≤ 49152 := by omega
      obtain ⟨m, hmn⟩ : ∃ m, (bkN b.head b.rs).length = m := ⟨_, rfl⟩
      have hmn2 : needN b.s.data.toList = m := by rw [← HB.out.1.1.needB]; exact hmn
      have hm97 : m ≤ 97 := by rw [← hmn2, needN]; split <;> omega
      have hmI : (m : Int) ≤ 97 := by omega
      have Hmn := Lib.hid (And.intro hmn (And.intro hmn2 htl))
      clear hmn hmn2 htl
      have c1 := C1.out wr HR.out.1
      go_wp2_with fail
      refine (read_ok (HM.out wr HR.out.1) HB.out.1.1).mono ?_
      rw [mk_dataB]
      rintro e w2 ⟨rfl, hu⟩
      dsimp only
      have HU2 := Lib.hid (And.intro (HR.out.1.trans hu) (HR.out.2.upd hu (fun h => h)))
      clear hu c1
      have c1 := C1.out w2 HU2.out.1
      go_wp2_with fail
      refine (size_ok7 (HM.out w2 HU2.out.1) HB.out.1.1).mono ?_
      rw [Hmn.out.2.2]
      rintro e w3 ⟨rfl, hu⟩
      dsimp only
      have HU3 := Lib.hid (And.intro (HU2.out.1.trans hu) (HU2.out.2.upd hu (fun h => h)))
      clear hu c1
      have c1 := C1.out w3 HU3.out.1
      go_wp2_with fail
      refine (blocks7_ok (HM.out w3 HU3.out.1) HB.out.1.1).mono ?_
      rw [Hmn.out.1, srtN_I]
      rintro e w4 ⟨x, c, rfl, hse, hu, hox⟩
      dsimp only
      have HU4 := Lib.hid (And.intro (HU3.out.1.trans hu) (And.intro (HU3.out.2.upd hu (fun h => h)) hse))
      have HX : Hid (∀ q, (Value.slice x m c).ownBlock = some q → q ≠ sb) := Lib.hid fun q hq => by
        have h1 := hox q hq
        have h2 := HU3.out.2.lt
        omega
      clear hu c1 hse hox
      have c2 := C2.out w4 HU4.out.1
      have hnd := needs_ok b.s (by omega) w4
      rw [Hmn.out.2.1] at hnd
      have Hnd := Lib.hid hnd
      clear hnd HU2 HU3
      go_wp2_with fail
      refine Hnd.out.mono ?_
      rintro e w5 ⟨rfl, rfl⟩
      dsimp only
      clear c2 Hnd
      go_wp2_with fail
      have HZ : Hid ((srtN b.bk).length = m) := Lib.hid (by rw [srtN_length]; exact Hmn.out.1)
      go_loopw [13] (fun jv wr2 => ∃ (j : Nat), j ≤ m ∧ jv = .int .i64 j ∧ Hid (Upd (fun _ => False) w wr2 ∧ CellsA wr2 sb 4 (seenV (blksOf (all.take i) ++ (srtN b.bk).take j)) ∧ Sees wr2 1 (.slice x m c) m (intsV (srtN b.bk)))) (fun jv _ => m - (intOf jv).toNat)
      case atStart => exact ⟨0, Nat.zero_le _, rfl, Lib.hid ⟨HU4.out.1, by rw [List.take_zero, List.append_nil]; exact HU4.out.2.1, HU4.out.2.2⟩⟩
      case round =>
        obtain ⟨j, hj, rfl, HJ⟩ := hrel
        clear HU4
        by_cases hjl : j < m
        · have hjI : (j : Int) < (m : Int) := by omega
          have hjz : j < (srtN b.bk).length := by rw [HZ.out]; exact hjl
          have hfr := HB.out.2.1.fresh hjz
          have hrg := HB.out.2.1.rng _ (List.getElem_mem hjz)
          have hst : (srtN b.bk).take (j + 1) = (srtN b.bk).take j ++ [(srtN b.bk)[j]] := List.take_succ_eq_append_getElem hjz
          obtain ⟨g2, o2, e2, c1⟩ := sees_one7 HJ.out.2.2 j hjl (v := .int .i64 (((srtN b.bk)[j] : Nat) : Int)) (by rw [intsV, List.getElem?_map, List.getElem?_eq_getElem hjz]; rfl)
          have hpr : 0 < j → ∃ (k z : Nat), (j : Int) - 1 = (k : Int) ∧ k < m ∧ z < (srtN b.bk)[j] ∧ wr.cell? ⟨g2, o2 + k, none⟩ = some (.int .i64 (z : Int)) := fun h0 => by
            obtain ⟨k, rfl⟩ : ∃ k, j = k + 1 := ⟨j - 1, by omega⟩
            have hk : k < (srtN b.bk).length := by omega
            obtain ⟨g3, o3, e3, c3⟩ := sees_one7 HJ.out.2.2 k (by omega) (v := .int .i64 (((srtN b.bk)[k] : Nat) : Int)) (by rw [intsV, List.getElem?_map, List.getElem?_eq_getElem hk]; rfl)
            rw [e2] at e3
            cases e3
            exact ⟨k, _, by omega, by omega, HB.out.2.1.prev hjz, c3⟩
          obtain ⟨t, ht⟩ : ∃ t, (srtN b.bk)[j] = t := ⟨_, rfl⟩
          rw [ht] at c1 hpr hfr hrg hst
          have ht1 := hrg.1
          have ht2 := hrg.2
          have c2 : wr.cell? ⟨sb, t, none⟩ = some (.bool false) := by
            rw [HJ.out.2.1.cell t, seenV_at _ t (by omega), decide_eq_false hfr]
          have hf2 := HJ.out.2.1.frozen t
          have t1 : decide ((t : Int) < 1) = false := by simp; omega
          have t2 : decide ((4096 : Int) < (t : Int)) = false := by simp; omega
          have t3 : (t : Int) < 4098 := by omega
          have hg2 : g2 ≠ sb := HX.out g2 (by rw [e2]; rfl)
          subst e2
          have HJ1 : Hid (Upd (fun _ => False) w (wr.drew.setCell ⟨sb, t, none⟩ (.bool true)) ∧ CellsA (wr.drew.setCell ⟨sb, t, none⟩ (.bool true)) sb 4 (seenV (blksOf (all.take i) ++ (srtN b.bk).take (j + 1))) ∧ Sees (wr.drew.setCell ⟨sb, t, none⟩ (.bool true)) 1 (.slice (some ⟨g2, o2, none⟩) m c) m (intsV (srtN b.bk))) := by
            have hs1 : Upd (fun q => q = sb) wr (wr.drew.setCell ⟨sb, t, none⟩ (.bool true)) := (Upd.refl _ wr).drew.setCell _ (.inl rfl)
            refine Lib.hid ⟨HJ.out.1.drew.setCell _ (.inr (by rw [Hsb.out]; exact Nat.le_refl _)), ?_, HJ.out.2.2.upd hs1 (fun q hq _ e => hg2 (by cases hq; exact e))⟩
            have := CellsA.set (w := wr.drew) (show CellsA wr.drew sb 4 _ from HJ.out.2.1) t (.bool true)
            rw [seenV_set _ t (by omega), List.append_assoc, ← hst] at this
            exact this
          clear hfr hrg hst ht hjz ht1 ht2
          by_cases hj0 : 0 < j
          · obtain ⟨k, z, hk, hkm, hzt, c3⟩ := hpr hj0
            have hkw : IntKind.i64.wrap ((j : Int) - 1) = (k : Int) := by rw [hk, IntKind.wrap_i64]; omega
            have hkmI : (k : Int) < (m : Int) := by omega
            have hztI : decide (t ≤ z) = false := by simp; omega
            have hj0I : decide (0 < j) = true := decide_eq_true hj0
            have HS : wr.cell? ⟨g2, o2 + j, none⟩ = some (.int .i64 (t : Int)) ∧ wr.cell? ⟨sb, t, none⟩ = some (.bool false) ∧ wr.cell? ⟨g2, o2 + k, none⟩ = some (.int .i64 (z : Int)) := ⟨c1, c2, c3⟩
            clear hpr hk hkm hzt hj0
            go_wp2_with fail
            refine wp_region_planD (fun u => u.cell? ⟨g2, o2 + j, none⟩ = some (.int .i64 (t : Int)) ∧ u.cell? ⟨sb, t, none⟩ = some (.bool false) ∧ u.cell? ⟨g2, o2 + k, none⟩ = some (.int .i64 (z : Int))) 37 [(0, true), (1, true), (2, true), (3, true), (4, true), (5, true), (6, true), (7, true), (8, true), (9, true), (10, true), (11, true), (12, true), (13, true), (14, true), (15, true), (16, true), (17, true), (18, true), (19, true), (20, true), (21, true), (22, true), (23, true), (24, true), (25, true), (26, true), (27, true), (28, true), (29, true), (30, true), (31, true), (32, true), (33, true), (34, true), (35, true), (36, true)] (by kernel_rfl) (by kernel_rfl) (fun d _ _ _ _ h => by cases d <;> exact h) HS ?_
            iterate 37 (first | (apply planD_held rfl rfl rfl (by simp) HS; (intro w' hS K hK; go_simp; exact hK)) | (apply planD_wanted rfl rfl rfl (by simp) HS; (intro w' hS K hK; go_simp; exact hK)))
            refine planD_nil ?_
            have c1 : wr.drew.cell? ⟨g2, o2 + j, none⟩ = some (.int .i64 (t : Int)) := HS.1
            have c2 : wr.drew.cell? ⟨sb, t, none⟩ = some (.bool false) := HS.2.1
            clear HS c3
            have hf2 : wr.drew.frozen? ⟨sb, t, none⟩ = false := hf2
            generalize wr.drew = w6 at *
            go_wp2_with fail
            exact ⟨⟨j + 1, by omega, by go_num, HJ1⟩, by simp [intOf] <;> omega⟩
          · have hj0I : decide (0 < j) = false := decide_eq_false hj0
            have HS : wr.cell? ⟨g2, o2 + j, none⟩ = some (.int .i64 (t : Int)) ∧ wr.cell? ⟨sb, t, none⟩ = some (.bool false) := ⟨c1, c2⟩
            clear hpr hj0
            go_wp2_with fail
            refine wp_region_planD (fun u => u.cell? ⟨g2, o2 + j, none⟩ = some (.int .i64 (t : Int)) ∧ u.cell? ⟨sb, t, none⟩ = some (.bool false)) 37 [(0, true), (1, true), (2, true), (3, true), (4, true), (5, true), (6, true), (7, true), (8, true), (9, true), (10, true), (11, true), (12, true), (13, true), (14, true), (15, true), (16, true), (17, true), (18, true), (19, true), (20, true), (21, true), (22, true), (23, true), (24, true), (25, true), (26, true), (27, true), (28, true), (29, true), (30, true), (31, true), (32, true), (33, true), (34, true), (35, true), (36, true)] (by kernel_rfl) (by kernel_rfl) (fun d _ _ _ _ h => by cases d <;> exact h) HS ?_
            iterate 25 (first | (apply planD_held rfl rfl rfl (by simp) HS; (intro w' hS K hK; go_simp; exact hK)) | (apply planD_wanted rfl rfl rfl (by simp) HS; (intro w' hS K hK; go_simp; exact hK)))
            iterate 10 (refine planD_skipd rfl rfl rfl ?_; try (simp only [Act.put, List.setIfInBounds_toArray, List.set_cons_zero, List.set_cons_succ]))
            iterate 2 (first | (apply planD_held rfl rfl rfl (by simp) HS; (intro w' hS K hK; go_simp; exact hK)) | (apply planD_wanted rfl rfl rfl (by simp) HS; (intro w' hS K hK; go_simp; exact hK)))
            refine planD_nil ?_
            have c1 : wr.drew.cell? ⟨g2, o2 + j, none⟩ = some (.int .i64 (t : Int)) := HS.1
            have c2 : wr.drew.cell? ⟨sb, t, none⟩ = some (.bool false) := HS.2
            clear HS
            have hf2 : wr.drew.frozen? ⟨sb, t, none⟩ = false := hf2
            generalize wr.drew = w6 at *
            go_wp2_with fail
            exact ⟨⟨j + 1, by omega, by go_num, HJ1⟩, by simp [intOf] <;> omega⟩
        · obtain rfl : j = m := by omega
          have HJ1 : Hid (Upd (fun _ => False) w wr ∧ CellsA wr sb 4 (seenV (blksOf (all.take (i + 1))))) := by
            have h := HJ.out.2.1
            rw [List.take_of_length_le (l := srtN b.bk) (by rw [HZ.out]; exact Nat.le_refl _), ← HB.out.2.2] at h
            exact Lib.hid ⟨HJ.out.1, h⟩
          clear HJ HX HZ
          go_wp2_with fail
          exact ⟨⟨i + 1, by omega, by go_num, HJ1⟩, by simp [intOf] <;> omega⟩
    · obtain rfl : i = n := by omega
      go_wp2_with fail
      go_ret
      exact ⟨rfl, HR.out.1⟩
end
end Go.Proofs.Ytmefbbmjamdnjaa
