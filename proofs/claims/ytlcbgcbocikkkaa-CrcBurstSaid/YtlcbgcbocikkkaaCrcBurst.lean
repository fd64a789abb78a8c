/- The walk of CrcBurst. -/
import Derived.Test.YtlcbgcbocikkkaaCrcBurstM
import Derived.Test.YtlcbgcbocikkkaaStr
import Derived.Test.YtlcbgcbocikkkaaRegionC
namespace Go.Proofs.Ytlcbgcbocikkkaa
open Go.RowKit
set_option linter.unusedSimpArgs false
set_option linter.unusedVariables false
set_option maxRecDepth 100000

/-- The copy, as it lies. -/
def OwnR (W : World) (x : Option Addr) (n : Nat) (o : List UInt8) (wr : World) : Prop :=
  o.length = n ∧ Upd (fun _ => False) W wr ∧ (0 < n → ∃ (g : Nat) (cur : List Value), x = some ⟨g, 0, none⟩ ∧ W.heap.size ≤ g ∧ wr.heap[g]? = some (.cells cur.toArray 5 (0, 0)) ∧ cur.take n = bvs o)
theorem OwnR.sees {W : World} {x : Option Addr} {n c : Nat} {o : List UInt8} {wr : World} (h : OwnR W x n o wr) (hn : n ≤ maxLen) : Sees wr 1 (.slice x n c) n (bvs o) := by
  obtain ⟨h1, _, h3⟩ := h
  refine ⟨by rw [bvs_length, h1, Nat.mul_one], hn, _, _, rfl, fun h0 => ?_⟩
  obtain ⟨g, cur, rfl, _, hg, ht⟩ := h3 h0
  exact ⟨g, 0, rfl, rangeAt_of_row hg (by rw [List.drop_zero, bvs_length, h1, ht])⟩
theorem OwnR.drew {W : World} {x : Option Addr} {n : Nat} {o : List UInt8} {wr : World} (h : OwnR W x n o wr) : OwnR W x n o wr.drew := ⟨h.1, h.2.1.drew, h.2.2⟩
theorem OwnR.set {W : World} {g n : Nat} {o : List UInt8} {wr : World} (h : OwnR W (some ⟨g, 0, none⟩) n o wr) (k : Nat) (hk : k < n) (x : UInt8) : OwnR W (some ⟨g, 0, none⟩) n (o.set k x) (wr.setCell ⟨g, k, none⟩ (.int .u8 x.toNat)) := by
  obtain ⟨h1, h2, h3⟩ := h
  obtain ⟨g', cur, e, hb, hg, ht⟩ := h3 (by omega)
  cases e
  refine ⟨by simp [h1], h2.setCell _ (.inr hb), fun _ => ⟨g, cur.set k (bv x), rfl, hb, ?_, ?_⟩⟩
  · rw [stored hg]; simp [bv]
  · rw [List.take_set, ht]; simp [bvs]
theorem OwnR.cell {W : World} {g n : Nat} {o : List UInt8} {wr : World} (h : OwnR W (some ⟨g, 0, none⟩) n o wr) (k : Nat) (hk : k < n) : wr.cell? ⟨g, k, none⟩ = some (.int .u8 (o.getD k 0).toNat) ∧ wr.frozen? ⟨g, k, none⟩ = false := by
  obtain ⟨h1, h2, h3⟩ := h
  obtain ⟨g', cur, e, hb, hg, ht⟩ := h3 (by omega)
  cases e
  refine ⟨?_, unfrozen hg k⟩
  have hko : k < o.length := by omega
  have h1 : (cur.take n)[k]? = some (bv o[k]) := by rw [ht]; exact bvs_get o k hko
  rw [List.getElem?_take, if_pos hk] at h1
  rw [cell_of_row _ _ _ _ _ _ hg, List.getElem?_toArray, h1]
  simp [bv, hko]

def BurstR (d : List UInt8) (p burst i : Nat) (o : List UInt8) : Prop :=
  ∀ q, q < o.length * 8 → bitAt o q = (bitAt d q ^^ (decide (p ≤ q ∧ q < p + i) && burst.testBit (q - p)))
theorem BurstR.zero (d : List UInt8) (p burst : Nat) : BurstR d p burst 0 d := fun q _ => by
  have : decide (p ≤ q ∧ q < p + 0) = false := by rw [decide_eq_false_iff_not]; omega
  rw [this]; simp
theorem BurstR.skip {d : List UInt8} {p burst i : Nat} {o : List UInt8} (h : BurstR d p burst i o) (hs : burst.testBit i = true → ¬ (p + i) / 8 < o.length) : BurstR d p burst (i + 1) o := fun q hq => by
  rw [h q hq]
  congr 1
  by_cases e : q = p + i
  · subst e
    have h1 : ¬ (p ≤ p + i ∧ p + i < p + i) := by omega
    have h2 : p ≤ p + i ∧ p + i < p + (i + 1) := by omega
    have h3 : burst.testBit i = false := by
      cases hb : burst.testBit i with
      | false => rfl
      | true => exact absurd (by omega) (hs hb)
    simp [h1, h2, h3]
  · have : (p ≤ q ∧ q < p + i) ↔ (p ≤ q ∧ q < p + (i + 1)) := by omega
    simp [this]
theorem BurstR.flip {d : List UInt8} {p burst i : Nat} {o : List UInt8} (h : BurstR d p burst i o) (hb : burst.testBit i = true) (hk : (p + i) / 8 < o.length) (e : UInt8) (he : e.toNat = 2 ^ ((p + i) % 8)) :
    BurstR d p burst (i + 1) (o.set ((p + i) / 8) (o.getD ((p + i) / 8) 0 ^^^ e)) := fun q hq => by
  rw [List.length_set] at hq
  have h0 := h q hq
  by_cases hqk : q / 8 = (p + i) / 8
  · have e1 : bitAt (o.set ((p + i) / 8) (o.getD ((p + i) / 8) 0 ^^^ e)) q = (bitAt o q ^^ decide (q = p + i)) := by
      unfold bitAt
      rw [hqk, List.getD_eq_getElem?_getD, List.getElem?_set_self hk, Option.getD_some, UInt8.toNat_xor, Nat.testBit_xor, he, Nat.testBit_two_pow]
      congr 1
      rw [decide_eq_decide]
      omega
    rw [e1, h0]
    by_cases eq' : q = p + i
    · subst eq'
      have h1 : ¬ (p ≤ p + i ∧ p + i < p + i) := by omega
      have h2 : p ≤ p + i ∧ p + i < p + (i + 1) := by omega
      simp [h1, h2, hb]
    · have : (p ≤ q ∧ q < p + i) ↔ (p ≤ q ∧ q < p + (i + 1)) := by omega
      simp [this, eq']
  · have e1 : bitAt (o.set ((p + i) / 8) (o.getD ((p + i) / 8) 0 ^^^ e)) q = bitAt o q := by
      unfold bitAt
      rw [List.getD_eq_getElem?_getD, List.getElem?_set_ne (fun h => hqk h.symm), ← List.getD_eq_getElem?_getD]
    rw [e1, h0]
    have : (p ≤ q ∧ q < p + i) ↔ (p ≤ q ∧ q < p + (i + 1)) := by
      have : q ≠ p + i := fun h => hqk (by rw [h])
      omega
    simp [this]

theorem u32_odd (b : Nat) : bits BinOp.and IntKind.u32 (b : Int) 1 = (b : Int) % (2 : Int) := by
  have h : (BitVec.ofInt 32 (b : Int) &&& BitVec.ofInt 32 1).toNat = b % 2 := by
    rw [BitVec.toNat_and, BitVec.toNat_ofInt, BitVec.toNat_ofInt]
    have e : ((1 : Int) % ((2 ^ 32 : Nat) : Int)).toNat = 2 ^ 1 - 1 := by decide
    rw [e, Nat.and_two_pow_sub_one_eq_mod]
    omega
  show IntKind.u32.wrap (((BitVec.ofInt 32 (b : Int) &&& BitVec.ofInt 32 1).toNat : Nat) : Int) = _
  rw [h, IntKind.wrap_u32]
  omega

set_option maxHeartbeats 4000000 in
theorem crcBurst_walk (xa : Option Addr) (ca : Nat) (la : List UInt8) (at' : Nat) (hat : at' < 4294967296) (burst : Nat) (hbu : burst < 4294967296) (w : World) (ha : Sees w 1 (.slice xa la.length ca) la.length (bvs la)) (hra : la.length ≤ 140737488351232) :
    Calls Try.prog 8 #[.slice xa la.length ca, .int .u32 at', .int .u32 burst] w fun e w' => e = .returned (.bool true) ∧ Below w.heap.size w w' := by
  have Ha := Lib.hid ha
  have hla : (la.length : Int) ≤ 140737488351232 := by omega
  have hat2 : (at' : Int) < 4294967296 := by omega
  have hbu2 : (burst : Int) < 4294967296 := by omega
  have Hm : Hid (la.length ≤ 140737488351232) := hra
  clear ha
  go_enter Try.func8, Try.ntmps8
  go_wp2_with fail
  refine (crc_fixed w).mono ?_
  rintro e w0 ⟨rfl, hu0⟩
  dsimp only
  have HU0 := Lib.hid hu0
  have Ha0 := Lib.hid (Ha.out.upd hu0 (fun _ _ _ h => h))
  clear hu0
  go_wp2_with ((with_reducible apply wpl_append_sees w0.heap.size 5 1 1 _ (.slice (some ⟨w0.heap.size, 0, none⟩) 0 0) 0 [] la.length (bvs la)))
  · exact Try.underlying22
  · exact infoU8
  · rfl
  · decide
  · rfl
  · exact World.ownsRow_made w0 #[] 0 (Nat.le_refl _) (Nat.zero_le _) (by simp)
  · exact Sees.upd ((Upd.refl (fun _ => False) w0).alloc _) Ha0.out (fun _ _ _ h => h)
  · exact bvs_one _
  · have := Hm.out; unfold maxLen; omega
  · have := Hm.out; omega
  · simp
  intro x' c' w1 hown hg hb
  simp only [Act.put, List.setIfInBounds_toArray, List.set_cons_zero, List.set_cons_succ]
  simp only [Nat.zero_add, List.nil_append] at hown hb ⊢
  have HU1 : Hid (Upd (fun _ => False) w w1) := ((HU0.out.alloc (.cells #[] 5)).grown hg (fun q hq => .inr (by
    simp [Value.ownBlock] at hq
    subst hq
    exact HU0.out.size)))
  have HR0 : Hid (OwnR w x' la.length la w1) := ⟨rfl, HU1.out, fun h0 => by
    rcases hown.2 with ⟨h, _⟩ | ⟨g, cap, cur, e', hbg, hgg, hnc, hcm, hcs, ht⟩
    · exact absurd h (by omega)
    · cases e'
      exact ⟨g, cur.toList, rfl, Nat.le_trans HU0.out.size hbg, by simpa using hgg, by simpa using ht⟩⟩
  clear hown hg hb
  obtain ⟨p, hp⟩ : ∃ p, at' % 4000 = p := ⟨_, rfl⟩
  have hp4 : (p : Int) < 4000 := by omega
  have hpI : (at' : Int) % (4000 : Int) = (p : Int) := by rw [← hp, Int.natCast_emod]; rfl
  clear hp
  go_wp2_with fail
  go_loopw [8, 9] (fun v _ wr => ∃ i : Nat, i ≤ 32 ∧ v = .int .i64 i ∧ ∃ o, OwnR w x' la.length o wr ∧ BurstR la p burst i o) (fun v _ _ => 32 - (intOf v).toNat)
  case atStart => exact ⟨0, by omega, rfl, la, HR0.out, BurstR.zero _ _ _⟩
  case round =>
    clear HR0 HU1
    obtain ⟨i, hi, rfl, o, hO, hB⟩ := hrel
    by_cases hi32 : i < 32
    · have hi3 : (i : Int) < 32 := by omega
      have hi4 : (i : Int) ≤ 32 := by omega
      obtain ⟨b, hbe⟩ : ∃ b : Nat, burst / 2 ^ i = b := ⟨_, rfl⟩
      have hb1 : (burst : Int) / (2 : Int) ^ i = (b : Int) := by rw [← hbe, Int.natCast_ediv, Int.natCast_pow]; rfl
      have hbit : burst.testBit i = decide (b % 2 = 1) := by rw [← hbe, Nat.testBit_eq_decide_div_mod_eq]
      have Hbit := Lib.hid hbit
      have HO := Lib.hid (And.intro hO hB)
      clear hbit hbe hO hB
      have hand := u32_odd b
      go_upto_region 8 with fail
      by_cases hb2 : (b : Int) % (2 : Int) = 1
      · have hb3 : ((b : Int) % (2 : Int) == 1) = true := by rw [hb2]; rfl
        have hbt : burst.testBit i = true := by rw [Hbit.out]; simp; omega
        have hol := HO.out.1.1
        by_cases hlt : ((p : Int) + (i : Int)) / (8 : Int) < (la.length : Int)
        · obtain ⟨k, hk⟩ : ∃ k, (p + i) / 8 = k := ⟨_, rfl⟩
          obtain ⟨j, hj⟩ : ∃ j, (p + i) % 8 = j := ⟨_, rfl⟩
          have hkl : k < la.length := by omega
          have hj8 : j < 8 := by omega
          have hq : ((p : Int) + (i : Int)) / (8 : Int) = (k : Int) := by omega
          have hr : ((p : Int) + (i : Int)) % (8 : Int) = (j : Int) := by omega
          have hkl2 : (k : Int) < (la.length : Int) := by omega
          have hqw : IntKind.i64.wrap (((p : Int) + (i : Int)).tdiv 8) = (k : Int) := by rw [Int.tdiv_eq_ediv_of_nonneg (by omega), hq, IntKind.wrap_i64]; omega
          have hrt : ((p : Int) + (i : Int)).tmod 8 = (j : Int) := by rw [Int.tmod_eq_emod_of_nonneg (by omega), hr]
          have hrw : IntKind.i64.wrap (((p : Int) + (i : Int)).tmod 8) = (j : Int) := by rw [hrt, IntKind.wrap_i64]; omega
          have hj9 : (j : Int) < 8 := by omega
          obtain ⟨g, cur, e', _, _, _⟩ := HO.out.1.2.2 (by omega)
          subst e'
          obtain ⟨hc, hf⟩ := HO.out.1.cell k hkl
          obtain ⟨e, he⟩ : ∃ e : UInt8, UInt8.ofNat (2 ^ j) = e := ⟨_, rfl⟩
          have hpow : ∀ j : Fin 8, IntKind.u8.wrap ((2 : Int) ^ j.val) = ((UInt8.ofNat (2 ^ j.val)).toNat : Int) ∧ (UInt8.ofNat (2 ^ j.val)).toNat = 2 ^ j.val := by decide
          have hshl : IntKind.u8.wrap ((2 : Int) ^ j) = (e.toNat : Int) := by rw [← he]; exact (hpow ⟨j, hj8⟩).1
          have heN : e.toNat = 2 ^ j := by rw [← he]; exact (hpow ⟨j, hj8⟩).2
          have hfl := HO.out.2.flip hbt (by rw [hk, hol]; exact hkl) e (by rw [hj]; exact heN)
          rw [hk] at hfl
          have hxor := u8_xor (o.getD k 0) e
          have hOs := HO.out.1.set k hkl (o.getD k 0 ^^^ e)
          obtain ⟨u, hu⟩ : ∃ u, o.getD k 0 = u := ⟨_, rfl⟩
          rw [hu] at hxor hOs hfl hc
          obtain ⟨x, hx⟩ : ∃ x, u ^^^ e = x := ⟨_, rfl⟩
          rw [hx] at hxor hOs hfl
          have Hst := Lib.hid (And.intro hOs hfl)
          clear hb2 hOs hfl hu hx he heN hpow hbt hol hk hj hkl hj8 HO
          go_wp2_with fail
          have HS : wr.drew.cell? ⟨g, k, none⟩ = some (.int .u8 u.toNat) := hc
          refine wp_region_planC (fun w' => w'.cell? ⟨g, k, none⟩ = some (.int .u8 u.toNat)) 10 [(0, true), (1, true), (2, true), (3, true), (4, true), (5, true), (6, true), (7, true), (8, true), (9, true), (10, false)] (by kernel_rfl) (by kernel_rfl) (fun d _ _ _ _ h => by cases d <;> exact h) HS ?_
          iterate 10 (apply planC_held rfl rfl rfl (by simp) HS; (intro w' hS K hK; go_simp; exact hK))
          refine planC_op rfl rfl (fun K hK => ?_)
          go_simp
          refine hK _ _ (fun h => absurd rfl h) ?_
          refine planC_nil ?_
          go_wp2_with fail
          exact ⟨⟨i + 1, by omega, by go_num, o.set k x, Hst.out.1.drew, Hst.out.2⟩, by simp [intOf]; omega⟩
        · have hsk := HO.out.2.skip (fun _ => by rw [hol]; omega)
          have Hst := Lib.hid (And.intro HO.out.1 hsk)
          clear hb2 hsk hbt hol HO
          go_wp2_with fail
          exact ⟨⟨i + 1, by omega, by go_num, o, Hst.out⟩, by simp [intOf]; omega⟩
      · have hb3 : ((b : Int) % (2 : Int) == 1) = false := by rw [beq_eq_false_iff_ne]; exact hb2
        have hbt : burst.testBit i = false := by rw [Hbit.out]; simp; omega
        have hsk := HO.out.2.skip (fun h => by rw [hbt] at h; cases h)
        have Hst := Lib.hid (And.intro HO.out.1 hsk)
        clear hb2 hsk hbt HO
        go_wp2_with fail
        exact ⟨⟨i + 1, by omega, by go_num, o, Hst.out⟩, by simp [intOf]; omega⟩
    · obtain rfl : i = 32 := by omega
      have hol := hO.1
      have hlaw := burst_law o la p burst.testBit hol hB
      have So : Sees wr.drew 1 (.slice x' la.length c') o.length (bvs o) := by have := hO.drew.sees (c := c') (by unfold maxLen; have := Hm.out; omega); rwa [hol]
      have Sd : Sees wr.drew 1 (.slice xa la.length ca) la.length (bvs la) := Ha.out.upd hO.2.1.drew (fun _ _ _ h => h)
      have HU := Lib.hid hO.2.1.drew
      have HS0 := Lib.hid (And.intro So Sd)
      obtain ⟨X, hX⟩ : ∃ X : BitVec 32, updB 0 o = X := ⟨_, rfl⟩
      obtain ⟨Y, hY⟩ : ∃ Y : BitVec 32, updB 0 la = Y := ⟨_, rfl⟩
      have s1 : Hid (∀ w', Sees w' 1 (.slice x' la.length c') o.length (bvs o) → Calls Try.prog 26 #[.slice x' la.length c'] w' fun e w'' => e = .returned (.int .u32 X.toNat) ∧ w' = w'') := fun w' h => by have := sum_ok _ _ _ h; rwa [hX] at this
      have s2 : Hid (∀ w', Sees w' 1 (.slice xa la.length ca) la.length (bvs la) → Calls Try.prog 26 #[.slice xa la.length ca] w' fun e w'' => e = .returned (.int .u32 Y.toNat) ∧ w' = w'') := fun w' h => by have := sum_ok _ _ _ h; rwa [hY] at this
      have hXY : X = Y ↔ o = la := ⟨fun h => hlaw (by rw [hX, hY, h]), fun h => by rw [← hX, ← hY, h]⟩
      have HXY := Lib.hid hXY
      clear hO hB So Sd hol hlaw hX hY hXY
      go_wp2_with fail
      have HS := HS0.out
      refine wp_region_planC (fun w' => Sees w' 1 (.slice x' la.length c') o.length (bvs o) ∧ Sees w' 1 (.slice xa la.length ca) la.length (bvs la)) 12
        [(0, true), (1, true), (2, true), (3, true), (4, true), (5, true), (6, true), (7, true), (8, true), (9, true), (10, true), (11, true)] (by kernel_rfl) (by kernel_rfl) (fun d _ _ _ _ h => by cases d <;> exact h) HS ?_
      (apply planC_held rfl rfl rfl (by simp) HS; (intro w' hS K hK; go_simp; exact hK))
      refine planC_call (.int .u32 X.toNat) rfl rfl (fun w' hS => ⟨26, #[.slice x' la.length c'], by go_simp, s1.out _ hS.1⟩) ?_
      try (simp only [Act.put, List.setIfInBounds_toArray, List.set_cons_zero, List.set_cons_succ])
      (apply planC_held rfl rfl rfl (by simp) HS; (intro w' hS K hK; go_simp; exact hK))
      refine planC_call (.int .u32 Y.toNat) rfl rfl (fun w' hS => ⟨26, #[.slice xa la.length ca], by go_simp, s2.out _ hS.2⟩) ?_
      try (simp only [Act.put, List.setIfInBounds_toArray, List.set_cons_zero, List.set_cons_succ])
      iterate 2 (apply planC_held rfl rfl rfl (by simp) HS; (intro w' hS K hK; go_simp; exact hK))
      (apply planC_held rfl rfl rfl (by simp) HS; (intro w' hS K hK; exact gives_bytes_string 5 _ _ Try.underlying22 Try.underlying5 Try.underlying9 rfl hS.1 hK))
      try (simp only [Act.put, List.setIfInBounds_toArray, List.set_cons_zero, List.set_cons_succ])
      (apply planC_held rfl rfl rfl (by simp) HS; (intro w' hS K hK; go_simp; exact hK))
      (apply planC_held rfl rfl rfl (by simp) HS; (intro w' hS K hK; exact gives_bytes_string 5 _ _ Try.underlying22 Try.underlying5 Try.underlying9 rfl hS.2 hK))
      try (simp only [Act.put, List.setIfInBounds_toArray, List.set_cons_zero, List.set_cons_succ])
      by_cases hol : o = la
      · have hXe : X = Y := HXY.out.2 hol
        subst hol
        subst hXe
        iterate 3 (apply planC_held rfl rfl rfl (by simp) HS; (intro w' hS K hK; go_simp; exact hK))
        refine planC_nil ?_
        go_wp2_with fail
        go_ret
        exact ⟨by simp, HU.out.below0⟩
      · have hXe : ((X.toNat : Int) == (Y.toNat : Int)) = false := by rw [beq_eq_false_iff_ne]; exact fun h => hol (HXY.out.1 (BitVec.eq_of_toNat_eq (by omega)))
        iterate 3 (apply planC_held rfl rfl rfl (by simp) HS; (intro w' hS K hK; go_simp; exact hK))
        refine planC_nil ?_
        go_wp2_with fail
        go_ret
        exact ⟨by simp [strV_list, hol], HU.out.below0⟩
end Go.Proofs.Ytlcbgcbocikkkaa
