/- The walk of CrcBits. -/
import Derived.Test.YtlcbgcbocikkkaaCrcLinear
namespace Go.Proofs.Ytlcbgcbocikkkaa
open Go.RowKit
set_option linter.unusedSimpArgs false
set_option linter.unusedVariables false
set_option maxRecDepth 100000

theorem eat_zero (r : BitVec 32) : eat r 0 = steps 8 r := by
  rw [eat_eq]
  congr 1
  show r ^^^ 0#32 = r
  simp
theorem regs_zeros : ∀ (n : Nat) (r : BitVec 32), regs r (List.replicate n 0) = steps (n * 8) r
  | 0, _ => rfl
  | n + 1, r => by
    rw [List.replicate_succ, show (n + 1) * 8 = 8 + n * 8 by omega, steps_add]
    show regs (eat r 0) (List.replicate n 0) = _
    rw [eat_zero, regs_zeros n]
theorem one_byte (k m : Nat) (e : UInt8) (he : e ≠ 0) : regs 0#32 (List.replicate k 0 ++ (e :: List.replicate m 0)) ≠ 0#32 := by
  rw [regs_append, regs_zeros, steps_zero]
  show regs (eat 0#32 e) (List.replicate m 0) ≠ 0#32
  rw [regs_zeros]
  intro h
  have h2 := steps_eq_zero _ h
  rw [eat_eq] at h2
  have h3 := steps_eq_zero _ h2
  apply he
  have h4 : BitVec.ofNat 32 e.toNat = 0#32 := by simpa using h3
  have h5 := congrArg BitVec.toNat h4
  have := e.toNat_lt
  rw [BitVec.toNat_ofNat, Nat.mod_eq_of_lt (by omega)] at h5
  exact UInt8.toNat_inj.1 h5
theorem mix_set (d : List UInt8) (k : Nat) (hk : k < d.length) (e : UInt8) : mixB (d.set k (d[k] ^^^ e)) d = List.replicate k 0 ++ (e :: List.replicate (d.length - k - 1) 0) := by
  apply List.ext_getElem?
  intro i
  simp only [mixB, List.getElem?_zipWith, List.getElem?_append, List.length_replicate]
  by_cases hi : i < d.length
  · by_cases hik : i < k
    · rw [if_pos hik, List.getElem?_set_ne (by omega), List.getElem?_eq_getElem hi, List.getElem?_replicate, if_pos hik]
      simp
    · rw [if_neg hik]
      by_cases e' : i = k
      · subst e'
        rw [List.getElem?_set_self hk, List.getElem?_eq_getElem hk, Nat.sub_self]
        simp only [List.getElem?_cons_zero, Option.some.injEq]
        rw [UInt8.xor_comm d[i] e, UInt8.xor_assoc, UInt8.xor_self, UInt8.xor_zero]
      · obtain ⟨t, ht⟩ : ∃ t, i - k = t + 1 := ⟨i - k - 1, by omega⟩
        rw [ht, List.getElem?_set_ne (by omega), List.getElem?_eq_getElem hi, List.getElem?_cons_succ, List.getElem?_replicate, if_pos (by omega)]
        simp
  · rw [if_neg (by omega), List.getElem?_eq_none (l := d) (by omega)]
    obtain ⟨t, ht⟩ : ∃ t, i - k = t + 1 := ⟨i - k - 1, by omega⟩
    rw [ht, List.getElem?_cons_succ, List.getElem?_eq_none (l := List.replicate _ _) (by simp; omega)]
    cases (d.set k (d[k] ^^^ e))[i]? <;> rfl
theorem bits_law (d : List UInt8) (k : Nat) (hk : k < d.length) (e : UInt8) (he : e ≠ 0) : updB 0 (d.set k (d[k] ^^^ e)) ≠ updB 0 d := by
  intro h
  have h1 := updB_xor (d.set k (d[k] ^^^ e)) d (by simp)
  rw [h, BitVec.xor_self, mix_set d k hk e] at h1
  exact one_byte _ _ _ he h1.symm

theorem infoB8 : (Try.prog.info? 5).map (fun i => (i.zero, i.size, i.bytes)) = some (some (.int .u8 0), 1, 1) := infoU8

set_option maxHeartbeats 4000000 in
theorem crcBits_walk (xa : Option Addr) (ca : Nat) (la : List UInt8) (at' : Nat) (hat : at' < 4294967296) (w : World) (ha : Sees w 1 (.slice xa la.length ca) la.length (bvs la)) (hra : la.length ≤ 140737488351232) :
    Calls Try.prog 6 #[.slice xa la.length ca, .int .u32 at'] w fun e w' => e = .returned (.bool true) ∧ Below w.heap.size w w' := by
  have Ha := Lib.hid ha
  have hla : (la.length : Int) ≤ 140737488351232 := by omega
  have hat2 : (at' : Int) < 4294967296 := by omega
  clear ha
  go_enter Try.func6, Try.ntmps6
  go_wp2_with fail
  refine (crc_fixed w).mono ?_
  rintro e w0 ⟨rfl, hu0⟩
  dsimp only
  have HU0 := Lib.hid hu0
  clear hu0
  by_cases h0 : la.length = 0
  · have h0' : (la.length : Int) = 0 := by omega
    go_wp2_with fail
    refine (crc_fixed w0).mono ?_
    rintro e w1 ⟨rfl, hu1⟩
    dsimp only
    have HU1 := Lib.hid (HU0.out.trans hu1)
    clear hu1
    go_wp2_with fail
    go_ret
    exact ⟨rfl, HU1.out.below0⟩
  · have h0' : (0 : Int) < (la.length : Int) := by omega
    have h0'' : ((la.length : Int) == 0) = false := by rw [beq_eq_false_iff_ne]; omega
    have Ha0 := Lib.hid (Ha.out.upd HU0.out (fun _ _ _ h => h))
    have Hm : Hid (la.length ≤ 140737488351232) := hra
    go_wp2_with ((with_reducible apply wpl_append_sees w0.heap.size 5 1 1 _ (.slice (some ⟨w0.heap.size, 0, none⟩) 0 0) 0 [] la.length (bvs la)))
    · exact Try.underlying22
    · exact infoB8
    · rfl
    · decide
    · rfl
    · exact World.ownsRow_made w0 #[] 0 (Nat.le_refl _) (Nat.zero_le _) (by simp)
    · exact Sees.upd ((Upd.refl (fun _ => False) w0).alloc _) Ha0.out (fun _ _ _ h => h)
    · exact bvs_one _
    · have := Hm.out; unfold maxLen; omega
    · have := Hm.out; omega
    · simp
    intro x' c' w' hown hg hb
    simp only [Act.put, List.setIfInBounds_toArray, List.set_cons_zero, List.set_cons_succ]
    simp only [Nat.zero_add, List.nil_append] at hown hb ⊢
    obtain ⟨g, cap, cur, e', hbg, hgg, hnc, hcm, hcs, ht⟩ : ∃ (g cap : Nat) (cur : List Value), (Value.slice x' la.length c') = .slice (some ⟨g, 0, none⟩) la.length cap ∧ w0.heap.size ≤ g ∧ w'.heap[g]? = some (.cells cur.toArray 5 (0, 0)) ∧ la.length ≤ cap ∧ cap ≤ maxLen ∧ cur.length = cap * 1 ∧ cur.take (la.length * 1) = bvs la := by
      rcases hown.2 with ⟨h, _⟩ | ⟨g, cap, cur, e', hbg, hgg, hnc, hcm, hcs, ht⟩
      · exact absurd h (by omega)
      · exact ⟨g, cap, cur.toList, e', hbg, by simpa using hgg, hnc, hcm, by simpa using hcs, by simpa using ht⟩
    cases e'
    have HU1 : Hid (Upd (fun _ => False) w w') := ((HU0.out.alloc (.cells #[] 5)).grown hg (fun q hq => .inr (by
      simp [Value.ownBlock] at hq
      subst hq
      exact HU0.out.size)))
    obtain ⟨k, hk⟩ : ∃ k, at' / 8 % la.length = k := ⟨_, rfl⟩
    have hkl : k < la.length := by rw [← hk]; exact Nat.mod_lt _ (by omega)
    obtain ⟨u, hu⟩ : ∃ u, la[k] = u := ⟨_, rfl⟩
    have hck : cur[k]? = some (bv u) := by
      have h1 : (cur.take (la.length * 1))[k]? = some (bv la[k]) := by rw [ht]; exact bvs_get la k hkl
      rw [List.getElem?_take, if_pos (by omega)] at h1
      rw [h1, hu]
    have hkc2 : w'.cell? ⟨g, k, none⟩ = some (.int .u8 u.toNat) := by rw [cell_of_row _ _ _ _ _ _ hgg, List.getElem?_toArray, hck]; rfl
    have hfz := unfrozen hgg k
    have hkI : (at' : Int) / (8 : Int) % (la.length : Int) = (k : Int) := by rw [← hk, Int.natCast_emod, Int.natCast_ediv]; rfl
    obtain ⟨j, hj⟩ : ∃ j, at' % 8 = j := ⟨_, rfl⟩
    have hj8 : j < 8 := by omega
    have hand : bits BinOp.and IntKind.u32 (at' : Int) 7 = (j : Int) := by
      have h := u32_and (BitVec.ofNat 32 at') 7#32
      rw [BitVec.toNat_and, BitVec.toNat_ofNat, Nat.mod_eq_of_lt hat, show (7#32).toNat = 2 ^ 3 - 1 by decide, Nat.and_two_pow_sub_one_eq_mod] at h
      rw [← hj]
      exact h
    have hj9 : (j : Int) < 8 := by omega
    obtain ⟨e, he⟩ : ∃ e : UInt8, UInt8.ofNat (2 ^ j) = e := ⟨_, rfl⟩
    have hpow : ∀ j : Fin 8, IntKind.u8.wrap ((2 : Int) ^ j.val) = ((UInt8.ofNat (2 ^ j.val)).toNat : Int) ∧ UInt8.ofNat (2 ^ j.val) ≠ 0 := by decide
    have hshl : IntKind.u8.wrap ((2 : Int) ^ j) = (e.toNat : Int) := by rw [← he]; exact (hpow ⟨j, hj8⟩).1
    have he0 : e ≠ 0 := by rw [← he]; exact (hpow ⟨j, hj8⟩).2
    have hxor := u8_xor u e
    obtain ⟨x, hx⟩ : ∃ x, u ^^^ e = x := ⟨_, rfl⟩
    rw [hx] at hxor
    have Hlaw : Hid (updB 0 (la.set k x) ≠ updB 0 la) := by
      have := bits_law la k hkl e he0
      rw [hu, hx] at this
      exact this
    have hset : (w'.setCell ⟨g, k, none⟩ (.int .u8 x.toNat)).heap[g]? = some (.cells (cur.set k (bv x)).toArray 5 (0, 0)) := by
      rw [stored hgg]; simp [bv]
    have hown2 : Sees (w'.setCell ⟨g, k, none⟩ (.int .u8 x.toNat)) 1 (.slice (some ⟨g, 0, none⟩) la.length c') (la.set k x).length (bvs (la.set k x)) := by
      have e1 : (cur.set k (bv x)).take (la.length * 1) = bvs (la.set k x) := by
        rw [List.take_set, ht]; simp [bvs]
      have e2 : (la.set k x).length = la.length := by simp
      have := Sees.at (w := w'.setCell ⟨g, k, none⟩ (.int .u8 x.toNat)) (size := 1) (n := la.length) (c := c') (xs := bvs (la.set k x)) (by simp [bvs]) (by unfold maxLen; omega) (rangeAt_of_row (off := 0) hset (by rw [List.drop_zero, bvs_length, e2, ← e1, Nat.mul_one]))
      rwa [e2]
    have HR := Lib.hid (And.intro hown2 (HU1.out.setCell (p := ⟨g, k, none⟩) (.int .u8 x.toNat) (.inr (Nat.le_trans HU0.out.size hbg))))
    have hk3 : (k : Int) < (la.length : Int) := by omega
    clear hown hg hb hk hu h0 h0'' hck hgg hcs ht hnc hcm hj hj8 he hpow he0 hx hown2 hset hkl
    go_upto_region 4 with fail
    go_upto_region 5 with fail
    rw [hkI]
    clear hkI
    go_wp2_with fail
    refine (sum_ok _ _ _ HR.out.1).mono ?_
    rintro e2 w2 ⟨rfl, rfl⟩
    dsimp only
    have HU2 := Lib.hid HR.out.2
    have HA2 := Lib.hid (Ha.out.upd HR.out.2 (fun _ _ _ h => h))
    have hne : ((updB 0 (la.set k x)).toNat : Int) ≠ ((updB 0 la).toNat : Int) := fun h => Hlaw.out (BitVec.eq_of_toNat_eq (by omega))
    obtain ⟨p, hp⟩ : ∃ p : BitVec 32, updB 0 (la.set k x) = p := ⟨_, rfl⟩
    rw [hp] at hne ⊢
    clear HR hkc2 hfz hshl hxor hand hp Hlaw
    generalize w'.setCell ⟨g, k, none⟩ (.int .u8 x.toNat) = w2 at *
    go_wp2_with fail
    refine (sum_ok _ _ _ HA2.out).mono ?_
    rintro e2 w3 ⟨rfl, rfl⟩
    dsimp only
    obtain ⟨q, hq⟩ : ∃ q : BitVec 32, updB 0 la = q := ⟨_, rfl⟩
    rw [hq] at hne ⊢
    have hne2 : ((p.toNat : Int) != (q.toNat : Int)) = true := by simpa using hne
    clear hne hq
    go_wp2_with fail
    go_ret
    exact ⟨rfl, HU2.out.below0⟩
end Go.Proofs.Ytlcbgcbocikkkaa
