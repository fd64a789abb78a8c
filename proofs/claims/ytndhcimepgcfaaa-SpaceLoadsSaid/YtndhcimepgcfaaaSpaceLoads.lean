/- docketlaw05.SpaceLoads: its walk. -/
import Derived.Test.YtndhcimepgcfaaaSp7
namespace Go.Proofs.Ytndhcimepgcfaaa
open Go Go.RowKit
set_option linter.unusedSimpArgs false
set_option linter.unusedVariables false
set_option maxRecDepth 100000
theorem and_three : ∀ y : Fin 256, (bits BinOp.and IntKind.u8 (y.val : Int) 3 == 3) = ((y.val / 2 ^ 0 % 2 == 1) && (y.val / 2 ^ 1 % 2 == 1)) := by decide +kernel
theorem pad_get (dl : Bytes) (i : Nat) : (pad dl).getD i 0 = dl.getD i 0 := by
  unfold pad List.getD
  rw [List.getElem?_append]
  split
  · rfl
  · rename_i h
    rw [List.getElem?_replicate, List.getElem?_eq_none (by omega)]
    split <;> rfl
theorem has_pad (dl : Bytes) (b : Nat) : hasB (pad dl) b = hasB dl b := by rw [hasB, hasB, pad_get]
theorem has_beyond (dl : Bytes) (b : Nat) (h : 8 * dl.length ≤ b) : hasB dl b = false := by
  rw [hasB]
  have : dl.getD (b / 8) 0 = 0 := by
    unfold List.getD
    rw [List.getElem?_eq_none (by omega)]
    rfl
  rw [this]
  simp
theorem used_pad (dl : Bytes) (h : dl.length ≤ 512) : usedB (pad dl) = cnt (hasB dl) (8 * dl.length) := by
  rw [used_cnt, pad_length h, show 8 * 512 = 8 * dl.length + (4096 - 8 * dl.length) by omega, cnt_add, cnt_congr (fun i _ => has_pad dl i), cnt_zero (p := fun r => hasB (pad dl) (8 * dl.length + r)) (fun i _ => by rw [has_pad]; exact has_beyond dl _ (by omega))]
  omega
/-- The law's verdict. -/
def goodTo (dl : Bytes) (n : Nat) : Nat → Bool
  | 0 => hasB dl 0 && hasB dl 1
  | k + 1 => goodTo dl n k && (!hasB dl k || decide (k < n))
theorem goodTo_iff (dl : Bytes) (n : Nat) : ∀ k, goodTo dl n k = true ↔ hasB dl 0 = true ∧ hasB dl 1 = true ∧ ∀ c, c < k → hasB dl c = true → c < n
  | 0 => by simp [goodTo]
  | k + 1 => by
    rw [goodTo, Bool.and_eq_true, goodTo_iff dl n k]
    constructor
    · rintro ⟨⟨h1, h2, h3⟩, h4⟩
      refine ⟨h1, h2, fun c hc hh => ?_⟩
      by_cases hck : c = k
      · subst hck
        simpa [hh] using h4
      · exact h3 c (by omega) hh
    · rintro ⟨h1, h2, h3⟩
      refine ⟨⟨h1, h2, fun c hc hh => h3 c (by omega) hh⟩, ?_⟩
      cases hh : hasB dl k with
      | false => rfl
      | true => simpa using h3 k (by omega) hh
theorem goodTo_good (dl : Bytes) (h : dl.length ≤ 512) (n : Nat) : goodTo dl n (8 * dl.length) = true ↔ GoodM n (pad dl) := by
  rw [goodTo_iff, GoodM, has_pad, has_pad]
  constructor
  · rintro ⟨h1, h2, h3⟩
    refine ⟨h1, h2, fun c hc hc2 => ?_⟩
    rw [has_pad]
    cases hh : hasB dl c with
    | false => rfl
    | true =>
      by_cases hl : c < 8 * dl.length
      · have := h3 c hl hh; omega
      · rw [has_beyond dl c (by omega)] at hh; cases hh
  · rintro ⟨h1, h2, h3⟩
    refine ⟨h1, h2, fun c hc hh => ?_⟩
    rcases Nat.lt_or_ge c n with h | hge
    · exact h
    · have := h3 c hge (by omega)
      rw [has_pad] at this
      rw [this] at hh; cases hh
/-- The values that the loop reads. -/
theorem bit_value (dl : Bytes) (b q r v : Nat) (hq : b / 8 = q) (hr : b % 8 = r) (hv : (dl.getD q 0).toNat = v) : (bits BinOp.and IntKind.u8 ((v : Int) / 2 ^ r) 1 == 1) = hasB dl b := by
  have hv8 := (dl.getD q 0).toNat_lt
  rw [hv] at hv8
  have hy : v / 2 ^ r < 256 := Nat.lt_of_le_of_lt (Nat.div_le_self _ _) (by omega)
  have h1 := and_one ⟨v / 2 ^ r, hy⟩
  have e5 : (v : Int) / 2 ^ r = ((v / 2 ^ r : Nat) : Int) := by rw [Int.natCast_ediv]; simp
  rw [e5, h1, hasB, hq, hr, hv]
  have : v / 2 ^ r % 2 = 0 ∨ v / 2 ^ r % 2 = 1 := by omega
  rcases this with h | h <;> simp [h]
set_option maxHeartbeats 4000000 in
theorem spaceLoads_walk (n : Int) (xd : Option Addr) (xc : Nat) (dl : Bytes) (w : World) (hs : Sees w 1 (.slice xd dl.length xc) dl.length (bvs dl)) :
    Calls Try.prog 5 #[.int .i64 n, .slice xd dl.length xc] w fun e w' => e = .returned (.bool true) ∧ Below w.heap.size w w' := by
  have hdm := hs.2.1
  have hdI : (dl.length : Int) ≤ 9223372036854775807 := by simp only [maxLen] at hdm; omega
  have H := Lib.hid hs
  clear hs hdm
  go_enter Try.func5, Try.ntmps5
  go_wp2_with fail
  refine (sp_fixed w).mono ?_
  rintro e w1 ⟨rfl, hu1⟩
  dsimp only
  have HU1 := Lib.hid hu1
  clear hu1
  go_wp2_with fail
  refine (pages_ok 9 (by decide) (by decide) w1).mono ?_
  rintro e w2 ⟨pb, tb, rfl, hP⟩
  dsimp only
  have HP : Hid (PagesPost w1 9 tb [] w2) := hP
  obtain ⟨pb', mb, db, lb, fb, ot, D, G, HT⟩ := HP.out
  have HT := Lib.hid HT
  have HU2 := Lib.hid (HU1.out.trans HT.out.2.1)
  clear hP HP
  by_cases hbig : 512 < dl.length
  · have q0 : decide ((dl.length : Int) > 512) = true := by simp; omega
    go_wp2_with fail
    go_ret
    exact ⟨rfl, HU2.out.below0⟩
  have q0 : decide ((dl.length : Int) > 512) = false := by simp; omega
  have hdl : dl.length ≤ 512 := by omega
  clear hbig
  go_wp2_with fail
  have hw := txwrite_ok HT.out.1 0 (by decide) (by decide) xd xc dl (H.out.upd HU2.out (fun _ _ _ h => h))
  refine hw.mono ?_
  clear hw
  rintro e w3 ⟨r, rfl, hp⟩
  obtain ⟨_, _, _, rfl, hT3, hu3⟩ := Or.resolve_left hp (fun h => by have := h.1; omega)
  dsimp only
  have H3 := Lib.hid (And.intro hT3 (HU2.out.then hu3 (fun q hq => .inr (by have := HT.out.2.2 q (.inr (.inr (.inl hq))); have := HU1.out.size; omega))))
  clear hp hT3 hu3 HT
  by_cases hbad : n < 2 ∨ 4096 < n
  · have hck := fun u => spcheck_bad u (.pointer (some ⟨tb, 0, none⟩)) 0 n hbad
    have Hck := Lib.hid hck
    clear hck
    go_wp2_with fail
    refine (spload_err w3 _ n (Hck.out w3)).mono ?_
    rintro e w4 ⟨rfl, rfl⟩
    dsimp only
    go_wp2_with fail
    refine (spmake_err w3 _ n (spcheck_nil w3 n)).mono ?_
    rintro e w4 ⟨rfl, rfl⟩
    dsimp only
    go_wp2_with fail
    refine (spload_err w3 _ n (spcheck_nil w3 n)).mono ?_
    rintro e w4 ⟨rfl, rfl⟩
    dsimp only
    by_cases hlo : n < 2
    · have q1 : decide (n < 2) = true := by simpa using hlo
      clear hbad
      go_wp2_with fail
      refine (spmake_err w3 _ n (Hck.out w3)).mono ?_
      rintro e w4 ⟨rfl, rfl⟩
      dsimp only
      go_wp2_with fail
      go_ret
      exact ⟨rfl, H3.out.2.below0⟩
    · have q1 : decide (n < 2) = false := by simpa using hlo
      have q2 : decide (n > 4096) = true := by simp; omega
      clear hbad
      go_wp2_with fail
      refine (spmake_err w3 _ n (Hck.out w3)).mono ?_
      rintro e w4 ⟨rfl, rfl⟩
      dsimp only
      go_wp2_with fail
      go_ret
      exact ⟨rfl, H3.out.2.below0⟩
  obtain ⟨N, rfl⟩ : ∃ N : Nat, n = N := ⟨n.toNat, by omega⟩
  have hN2 : 2 ≤ N := by omega
  have hN3 : N ≤ 4096 := by omega
  clear hbad
  go_wp2_with fail
  refine (spload_ok H3.out.1 (by decide) (pad dl) (look_putB _ _ _) (pad_length hdl) N hN2 hN3).mono ?_
  rintro e w4 ⟨p, r, rfl, hp⟩
  have HL : Hid (SpLoadPost w3 N (pad dl) p r w4) := hp
  dsimp only
  have HU4 : Hid (Upd (fun _ => False) w w4) := by
    rcases HL.out with ⟨_, m, _, _, _, _, hu⟩ | ⟨_, _, _, hu⟩
    · exact H3.out.2.trans hu
    · exact H3.out.2.trans hu
  clear hp H3 HU2 HU1
  go_wp2_with fail
  refine (spmake_err w4 _ (N : Int) (spcheck_nil w4 (N : Int))).mono ?_
  rintro e w5 ⟨rfl, rfl⟩
  dsimp only
  go_wp2_with fail
  refine (spload_err w4 _ (N : Int) (spcheck_nil w4 (N : Int))).mono ?_
  rintro e w5 ⟨rfl, rfl⟩
  dsimp only
  have hdI5 : (dl.length : Int) ≤ 512 := by omega
  have q1 : decide ((N : Int) < 2) = false := by simp; omega
  have q2 : decide ((N : Int) > 4096) = false := by simp; omega
  by_cases hl0 : dl.length = 0
  · have hg0 : false = goodTo dl N 0 := by rw [goodTo, has_beyond dl 0 (by omega)]; rfl
    have Hg0 := Lib.hid hg0
    have q3 : decide ((dl.length : Int) > 0) = false := by rw [hl0]; decide
    clear hg0
    go_wp2_with fail
    go_loopw [12, 13, 14] (fun gd us i wr => ∃ k : Nat, k ≤ 8 * dl.length ∧ i = .int .i64 k ∧ us = .int .i64 (cnt (hasB dl) k : Nat) ∧ gd = .bool (goodTo dl N k) ∧ w4 = wr) (fun _ _ i _ => 8 * dl.length - (intOf i).toNat)
    case atStart => exact ⟨0, Nat.zero_le _, rfl, rfl, by rw [Hg0.out], rfl⟩
    case round =>
      obtain ⟨k, hk, rfl, rfl, rfl, rfl⟩ := hrel
      obtain ⟨U, hU⟩ : ∃ U, cnt (hasB dl) k = U := ⟨_, rfl⟩
      obtain ⟨gd, hgd⟩ : ∃ gd, goodTo dl N k = gd := ⟨_, rfl⟩
      have hUb : (U : Int) ≤ 4096 := by have := cnt_le (hasB dl) k; omega
      rw [hU, hgd]
      by_cases hlt : k < 8 * dl.length
      · omega
      · obtain rfl : k = 8 * dl.length := by omega
        have hiff := goodTo_good dl hdl N
        rw [hgd] at hiff
        have hup := used_pad dl hdl
        rw [hU] at hup
        have hge : decide (((8 * dl.length : Nat) : Int) < 8 * (dl.length : Int)) = false := by simp
        cases gd with
        | false =>
          obtain ⟨_, rfl, rfl, hu4⟩ := Or.resolve_left HL.out (fun h => by have := hiff.2 h.1; cases this)
          clear hlt hU hgd hiff hup
          go_wp2_with fail
          go_ret
          exact ⟨rfl, HU4.out.below0⟩
        | true =>
          obtain ⟨hgm, m, rfl, rfl, hm, hM, hu4⟩ := Or.resolve_right HL.out (fun h => h.1 (hiff.1 rfl))
          have hus := mused_ok hM
          rw [hup] at hus
          have h0 := mhas_ok hM hN3 0
          have h1 := mhas_ok hM hN3 1
          rw [show hasM N (pad dl) 0 = true by simp [hasM, hgm.1]; omega] at h0
          rw [show hasM N (pad dl) 1 = true by simp [hasM, hgm.2.1]; omega] at h1
          have HH := Lib.hid (And.intro hus (And.intro h0 h1))
          clear hlt hU hgd hiff hup hgm hm hM hu4 hus h0 h1
          go_wp2_with fail
          refine HH.out.1.mono ?_
          rintro e w5 ⟨rfl, rfl⟩
          dsimp only
          go_wp2_with fail
          refine HH.out.2.1.mono ?_
          rintro e w5 ⟨rfl, rfl⟩
          dsimp only
          go_wp2_with fail
          refine HH.out.2.2.mono ?_
          rintro e w5 ⟨rfl, rfl⟩
          dsimp only
          go_wp2_with fail
          refine (store_none w4 m).mono ?_
          rintro e w5 ⟨rfl, rfl⟩
          dsimp only
          go_wp2_with fail
          go_ret
          exact ⟨rfl, HU4.out.below0⟩
  · have hlp : 0 < dl.length := by omega
    obtain ⟨_, _, x', c', e', hc⟩ := H.out.upd HU4.out (fun _ _ _ h => h)
    cases e'
    obtain ⟨gb0, go0, hxd, hrange⟩ := hc hlp
    have hcell0 := byte_cell hrange 0 hlp
    rw [Nat.add_zero] at hcell0
    obtain ⟨v0, hv0⟩ : ∃ v, (dl.getD 0 0).toNat = v := ⟨_, rfl⟩
    have hv08 := (dl.getD 0 0).toNat_lt
    rw [hv0] at hcell0 hv08
    have hg0 : (bits BinOp.and IntKind.u8 (v0 : Int) 3 == 3) = goodTo dl N 0 := by
      have h3 := and_three ⟨v0, hv08⟩
      simp only at h3
      rw [h3, goodTo, hasB, hasB]
      simp only [show 0 / 8 = 0 from rfl, show 1 / 8 = 0 from rfl, show 0 % 8 = 0 from rfl, show 1 % 8 = 1 from rfl, hv0]
    have Hg0 := Lib.hid hg0
    have q3 : decide ((dl.length : Int) > 0) = true := by simp; omega
    have hlpI : (0 : Int) < (dl.length : Int) := by omega
    subst hxd
    clear hg0 hc hrange hv0
    go_wp2_with fail
    go_loopw [12, 13, 14] (fun gd us i wr => ∃ k : Nat, k ≤ 8 * dl.length ∧ i = .int .i64 k ∧ us = .int .i64 (cnt (hasB dl) k : Nat) ∧ gd = .bool (goodTo dl N k) ∧ w4 = wr) (fun _ _ i _ => 8 * dl.length - (intOf i).toNat)
    case atStart => exact ⟨0, Nat.zero_le _, rfl, rfl, by rw [Hg0.out], rfl⟩
    case round =>
      obtain ⟨k, hk, rfl, rfl, rfl, rfl⟩ := hrel
      obtain ⟨U, hU⟩ : ∃ U, cnt (hasB dl) k = U := ⟨_, rfl⟩
      obtain ⟨gd, hgd⟩ : ∃ gd, goodTo dl N k = gd := ⟨_, rfl⟩
      have hUb : (U : Int) ≤ 4096 := by have := cnt_le (hasB dl) k; omega
      rw [hU, hgd]
      by_cases hlt : k < 8 * dl.length
      · obtain ⟨q, hq⟩ : ∃ q, k / 8 = q := ⟨_, rfl⟩
        obtain ⟨rr, hrr⟩ : ∃ rr, k % 8 = rr := ⟨_, rfl⟩
        have hql : q < dl.length := by omega
        have hr8 : rr < 8 := by omega
        obtain ⟨_, _, x', c', e', hc⟩ := H.out.upd HU4.out (fun _ _ _ h => h)
        cases e'
        obtain ⟨gb, go, he, hrange⟩ := hc (by omega)
        first | subst he | cases he
        have hcell := byte_cell hrange q hql
        obtain ⟨v, hv⟩ : ∃ v, (dl.getD q 0).toNat = v := ⟨_, rfl⟩
        have hv8 := (dl.getD q 0).toNat_lt
        have hbv := bit_value dl k q rr v hq hrr hv
        obtain ⟨bt, hbt⟩ : ∃ bt, hasB dl k = bt := ⟨_, rfl⟩
        rw [hv] at hcell hv8
        rw [hbt] at hbv
        have e1 : (k : Int).tdiv 8 = (q : Int) := by rw [Int.tdiv_eq_ediv_of_nonneg (by omega)]; omega
        have e2 : (k : Int).tmod 8 = (rr : Int) := by rw [Int.tmod_eq_emod_of_nonneg (by omega)]; omega
        have e3 : (k : Int) / 8 = (q : Int) := by omega
        have e4 : (k : Int) % 8 = (rr : Int) := by omega
        have hkI : (k : Int) ≤ 4096 := by omega
        have hkl : (k : Int) < 8 * (dl.length : Int) := by omega
        have hqI : (q : Int) < (dl.length : Int) := by omega
        have hrI : (rr : Int) < 8 := by omega
        have hvb : (v : Int) ≤ 255 := by omega
        have Hk := Lib.hid (And.intro hU (And.intro hgd (And.intro hbt hlt)))
        clear hc hrange hU hgd hbt hv8 hq hrr hv hql hr8
        cases bt with
        | true =>
          cases gd with
          | true =>
            go_wp2_with fail
            refine ⟨⟨k + 1, by have := Hk.out.2.2.2; omega, by go_num, (by rw [cnt, Hk.out.1, Hk.out.2.2.1]; first | done | rfl | go_num), (by first | (rw [goodTo, Hk.out.2.1, Hk.out.2.2.1]; done) | (rw [goodTo, Hk.out.2.1, Hk.out.2.2.1]; rfl) | (rw [goodTo, Hk.out.2.1, Hk.out.2.2.1]; simp)), by trivial⟩, by have := Hk.out.2.2.2; simp [intOf]; omega⟩
          | false =>
            go_wp2_with fail
            refine ⟨⟨k + 1, by have := Hk.out.2.2.2; omega, by go_num, (by rw [cnt, Hk.out.1, Hk.out.2.2.1]; first | done | rfl | go_num), (by first | (rw [goodTo, Hk.out.2.1, Hk.out.2.2.1]; done) | (rw [goodTo, Hk.out.2.1, Hk.out.2.2.1]; rfl) | (rw [goodTo, Hk.out.2.1, Hk.out.2.2.1]; simp)), by trivial⟩, by have := Hk.out.2.2.2; simp [intOf]; omega⟩
        | false =>
          go_wp2_with fail
          refine ⟨⟨k + 1, by have := Hk.out.2.2.2; omega, by go_num, (by rw [cnt, Hk.out.1, Hk.out.2.2.1]; first | done | rfl | go_num), (by first | (rw [goodTo, Hk.out.2.1, Hk.out.2.2.1]; done) | (rw [goodTo, Hk.out.2.1, Hk.out.2.2.1]; rfl) | (rw [goodTo, Hk.out.2.1, Hk.out.2.2.1]; simp)), by trivial⟩, by have := Hk.out.2.2.2; simp [intOf]; omega⟩
      · obtain rfl : k = 8 * dl.length := by omega
        have hiff := goodTo_good dl hdl N
        rw [hgd] at hiff
        have hup := used_pad dl hdl
        rw [hU] at hup
        have hge : decide (((8 * dl.length : Nat) : Int) < 8 * (dl.length : Int)) = false := by simp
        cases gd with
        | false =>
          obtain ⟨_, rfl, rfl, hu4⟩ := Or.resolve_left HL.out (fun h => by have := hiff.2 h.1; cases this)
          clear hlt hU hgd hiff hup
          go_wp2_with fail
          go_ret
          exact ⟨rfl, HU4.out.below0⟩
        | true =>
          obtain ⟨hgm, m, rfl, rfl, hm, hM, hu4⟩ := Or.resolve_right HL.out (fun h => h.1 (hiff.1 rfl))
          have hus := mused_ok hM
          rw [hup] at hus
          have h0 := mhas_ok hM hN3 0
          have h1 := mhas_ok hM hN3 1
          rw [show hasM N (pad dl) 0 = true by simp [hasM, hgm.1]; omega] at h0
          rw [show hasM N (pad dl) 1 = true by simp [hasM, hgm.2.1]; omega] at h1
          have HH := Lib.hid (And.intro hus (And.intro h0 h1))
          clear hlt hU hgd hiff hup hgm hm hM hu4 hus h0 h1
          go_wp2_with fail
          refine HH.out.1.mono ?_
          rintro e w5 ⟨rfl, rfl⟩
          dsimp only
          go_wp2_with fail
          refine HH.out.2.1.mono ?_
          rintro e w5 ⟨rfl, rfl⟩
          dsimp only
          go_wp2_with fail
          refine HH.out.2.2.mono ?_
          rintro e w5 ⟨rfl, rfl⟩
          dsimp only
          go_wp2_with fail
          refine (store_none w4 m).mono ?_
          rintro e w5 ⟨rfl, rfl⟩
          dsimp only
          go_wp2_with fail
          go_ret
          exact ⟨rfl, HU4.out.below0⟩
end Go.Proofs.Ytndhcimepgcfaaa
