/- docketlaw05.SpaceRests: its walk. -/
import Derived.Test.YtndhcimepgcfaaaSpr1
namespace Go.Proofs.Ytndhcimepgcfaaa
open Go Go.RowKit
set_option linter.unusedSimpArgs false
set_option linter.unusedVariables false
set_option maxRecDepth 100000
set_option maxHeartbeats 8000000 in
theorem spaceRests_walk (bl : Nat) (hbl : bl ≤ 255) (ft : Nat) (hft : ft ≤ 255) (xo : Option Addr) (xc : Nat) (bk : Bytes) (w : World) (hs : Sees w 1 (.slice xo bk.length xc) bk.length (bvs bk)) :
    Calls Try.prog 6 #[.int .u8 bl, .int .u8 ft, .slice xo bk.length xc] w fun e w' => e = .returned (.bool true) ∧ Below w.heap.size w w' := by
  obtain ⟨N, hN⟩ : ∃ N, 2 + bl = N := ⟨_, rfl⟩
  have hN2 : 2 ≤ N := by omega
  have hN3 : N ≤ 257 := by omega
  have hNI : 2 + (bl : Int) = (N : Int) := by omega
  have hbI : (bl : Int) ≤ 255 := by omega
  have hfI : (ft : Int) ≤ 255 := by omega
  obtain ⟨m, hmm⟩ : ∃ m, bk.length = m := ⟨_, rfl⟩
  have hsm := hs.2.1
  have H := Lib.hid (And.intro hs hmm)
  rw [hmm] at hsm ⊢
  have hmI : (m : Int) ≤ 9223372036854775807 := by simp only [maxLen] at hsm; omega
  have hNb : (N : Int) ≤ 257 := by omega
  have hNb2 : (2 : Int) ≤ (N : Int) := by omega
  clear hs hmm hsm hN hbl hft
  go_enter Try.func6, Try.ntmps6
  go_wp2_with fail
  refine (sp_fixed w).mono ?_
  rintro e w1 ⟨rfl, hu1⟩
  dsimp only
  have HU1 := Lib.hid hu1
  clear hu1
  go_wp2_with fail
  try rw [hNI]
  refine (pages_ok N (by omega) (by omega) w1).mono ?_
  rintro e w2 ⟨pb, tb, rfl, hP⟩
  dsimp only
  have HP : Hid (PagesPost w1 N tb [] w2) := hP
  obtain ⟨pb', mb0, db, lb, fb, ot, D, G, HT⟩ := HP.out
  have HT := Lib.hid HT
  clear hP HP
  go_wp2_with fail
  try rw [hNI]
  refine (spmake_ok HT.out.1 (by omega) (N : Int) (by omega) (by omega)).mono ?_
  rintro e w3 ⟨rfl, hT3, hu3⟩
  dsimp only
  have hown : ∀ q, ownT tb pb' mb0 G q → w.heap.size ≤ q := fun q hq => by have := HT.out.2.2 q hq; have := HU1.out.size; omega
  have H3 := Lib.hid (And.intro hT3 (And.intro ((HU1.out.trans HT.out.2.1).then hu3 (fun q hq => .inr (hown q (.inr (.inr (.inl hq)))))) hown))
  clear hT3 hu3 HT HU1 hown
  go_wp2_with fail
  try rw [hNI]
  refine (spload_ok H3.out.1 (by omega) three (look_putB _ _ _) three_length N hN2 (by omega)).mono ?_
  rintro e w4 ⟨p, r, rfl, hp⟩
  obtain ⟨_, m1, rfl, rfl, hm, hM, hu4⟩ := Or.resolve_right hp (fun h => h.1 (good_three N hN2))
  dsimp only
  have hz := H3.out.2.1.size
  have HA0 : Hid (RestA w w4 tb pb' mb0 db lb fb N m1 0 ot D (putB [] 0 (pad [3])) G three) :=
    ⟨H3.out.1.upd hu4 (fun _ _ h => h), hM, fun c _ => by rw [has_three], H3.out.2.1.trans hu4, by omega, fun hq => by have := H3.out.1.lt m1 hq; omega, H3.out.2.2⟩
  clear hp hm hM hu4 H3 hz
  go_wp2_with fail
  go_loopw [12] (fun i wr => ∃ (k : Nat) (now : Bytes), 2 + k ≤ N ∧ i = .int .i64 k ∧ Hid (RestA w wr tb pb' mb0 db lb fb N m1 k ot D (putB [] 0 (pad [3])) G now)) (fun i _ => N - (intOf i).toNat)
  case atStart => exact ⟨0, _, by omega, rfl, HA0⟩
  case round =>
    clear HA0
    obtain ⟨k, now, hk, rfl, HA⟩ := hrel
    by_cases hgo : k < ft ∧ 2 + k < N
    · have e1 : decide ((k : Int) < (ft : Int)) = true := by simp; omega
      have e2 : decide ((k : Int) < (N : Int) - 2) = true := by simp; omega
      have hkb : (k : Int) ≤ 257 := by omega
      go_wp2_with fail
      refine (take_least HA.out.map (by omega) (2 + k) (by omega) (by simp [Free2, has_three, HA.out.has (2 + k) (by omega)]) (fun c hc => by rw [Free2, HA.out.has c (by omega)]; simp [hc])).mono ?_
      rintro e w5 ⟨rfl, hM5, hu5⟩
      dsimp only
      have HA5 : Hid (RestA w w5 tb pb' mb0 db lb fb N m1 (k + 1) ot D (putB [] 0 (pad [3])) G (setB now (2 + k))) := by
        have hlo := HA.out.lo
        refine ⟨HA.out.tx.upd hu5 (fun q hq e => HA.out.far (e ▸ hq)), hM5, fun c hc => ?_, HA.out.upd.then hu5 (fun q hq => .inr (by omega)), hlo, HA.out.far, HA.out.own⟩
        rw [has_set now HA.out.map.l1 _ _ (by omega), HA.out.has c hc]
        by_cases e : c = 2 + k
        · subst e; simp
        · have : (c < 2 + k) ↔ (c < 2 + (k + 1)) := by omega
          simp [e, this]
      clear hM5 hu5 HA
      go_wp2_with fail
      exact ⟨⟨k + 1, _, by omega, by go_num, HA5⟩, by simp [intOf]; omega⟩
    · have hkb : (k : Int) ≤ 257 := by omega
      by_cases hft : k < ft
      · have e1 : decide ((k : Int) < (ft : Int)) = true := by simp; omega
        have e2 : decide ((k : Int) < (N : Int) - 2) = false := by simp; omega
        clear hgo
        have hkI2 : 2 + (k : Int) ≤ (N : Int) := by omega
        go_wp2_with fail
        refine (store_ok HA.out.tx (by omega) HA.out.map).mono ?_
        rintro e w5 ⟨rfl, hT5, hu5⟩
        dsimp only
        have hpad := pad_id HA.out.map.l1
        rw [hpad] at hT5
        have H5 := Lib.hid (And.intro hT5 (HA.out.upd.then hu5 (fun q hq => .inr (HA.out.own q (.inr (.inr (.inl hq)))))))
        clear hT5 hu5 hpad
        go_wp2_with fail
        have hgood : GoodM N now := ⟨by rw [HA.out.has 0 (by omega)]; simp; omega, by rw [HA.out.has 1 (by omega)]; simp; omega, fun c h1 h2 => by rw [HA.out.has c h2]; simp; omega⟩
        refine (spload_ok H5.out.1 (by omega) now (look_putB _ _ _) HA.out.map.l1 N hN2 (by omega)).mono ?_
        rintro e w6 ⟨p, r, rfl, hp⟩
        obtain ⟨_, m2, rfl, rfl, hm, hM, hu6⟩ := Or.resolve_right hp (fun h => h.1 hgood)
        dsimp only
        have hz5 := H5.out.2.size
        have HB0 : Hid (RestB w w6 m2 N k now now) := ⟨hM, fun c hc hh => by rw [HA.out.has c hc] at hh; simpa using hh, HA.out.has, H5.out.2.trans hu6, by omega⟩
        clear hp hm hM hu6 hz5 hgood H5 HA
        go_wp2_with fail
        go_loopw [15] (fun i wr => ∃ (q : Nat) (nw : Bytes), q ≤ m ∧ i = .int .i64 q ∧ Hid (RestB w wr m2 N k nw now)) (fun i _ => m - (intOf i).toNat)
        case atStart => exact ⟨0, _, Nat.zero_le _, rfl, HB0⟩
        case round =>
          clear HB0
          obtain ⟨q, nw, hq, rfl, HB⟩ := hrel
          by_cases hlt : q < m
          · have hqI : (q : Int) < (m : Int) := by omega
            obtain ⟨hs, hmm⟩ := H.out
            obtain ⟨_, _, x', c', e', hc⟩ := hs.upd HB.out.upd (fun _ _ _ h => h)
            cases e'
            obtain ⟨gb, go, rfl, hrange⟩ := hc (by omega)
            have hcell := byte_cell hrange q (by omega)
            obtain ⟨v, hv⟩ : ∃ v, (bk.getD q 0).toNat = v := ⟨_, rfl⟩
            have hv8 := (bk.getD q 0).toNat_lt
            rw [hv] at hcell hv8
            have hvI : (v : Int) ≤ 255 := by omega
            clear hs hc hrange hv hmm hv8
            go_wp2_with fail
            refine (mfree_ok HB.out.map (by omega) (v : Int)).mono ?_
            rintro e w7 ⟨r, rfl, hp⟩
            dsimp only
            obtain ⟨nw', HB7⟩ := HB.out.freed (by omega) hp
            have HB7 := Lib.hid HB7
            clear hp HB
            go_wp2_with fail
            exact ⟨⟨q + 1, _, by omega, by go_num, HB7⟩, by simp [intOf]; omega⟩
          · obtain rfl : q = m := by omega
            clear hlt
            have hmk := mk_bools N (by omega) (2 + k)
            have hal : Upd (fun _ => False) wr (wr.alloc (.cells (outV N (2 + k) 0).toArray 4)) := (Upd.refl _ wr).alloc _
            have hcs := CellsA.new wr 4 (outV N (2 + k) 0)
            have hz := HB.out.upd.size
            have hml := HB.out.map.cells.lt
            have HC0 : Hid (RestC w (wr.alloc (.cells (outV N (2 + k) 0).toArray 4)) m2 N k 0 wr.heap.size nw now) := by
              refine ⟨HB.out.map.upd hal (fun h => h), fun c hc h1 => ?_, HB.out.old, hcs, HB.out.upd.trans hal, HB.out.lo, hz, by omega⟩
              cases hh : hasB nw c with
              | false => simp; omega
              | true => have := HB.out.sub c hc hh; omega
            clear hal hcs hz hml
            go_wp2_with fail
            generalize wr.alloc (.cells (outV N (2 + k) 0).toArray 4) = w7 at *
            generalize wr.heap.size = ob at *
            clear hmk HB
            go_loopw [17, 18] (fun g i wr => ∃ (j : Nat) (nw : Bytes), 2 + k + j ≤ N ∧ i = .int .i64 j ∧ g = .int .i64 j ∧ Hid (RestC w wr m2 N k j ob nw now)) (fun _ i _ => N - (intOf i).toNat)
            case atStart => exact ⟨0, _, by omega, rfl, rfl, HC0⟩
            case round =>
              clear HC0
              obtain ⟨j, nw2, hj, rfl, rfl, HC⟩ := hrel
              have hjI : (j : Int) < (N : Int) := by omega
              have hjb : (j : Int) ≤ 257 := by omega
              by_cases hlt : 2 + k + j < N
              · obtain ⟨b, hb⟩ : ∃ b, 2 + k + j = b := ⟨_, rfl⟩
                have hbN : b < N := by omega
                have hb1 : decide ((b : Int) < 2 + (k : Int)) = false := by simp; omega
                have hb2 : decide (N ≤ b) = false := by simp; omega
                have hbI2 : (b : Int) < (N : Int) := by omega
                have htk := take_least HC.out.map (by omega) b hbN (by rw [HC.out.free b (by omega)]; simp; omega) (fun c hc => by rw [HC.out.free c (by omega)]; simp; omega)
                have Htk := Lib.hid (And.intro htk hb)
                clear htk hb
                go_wp2_with fail
                refine Htk.out.1.mono ?_
                rintro e w8 ⟨rfl, hM8, hu8⟩
                dsimp only
                have hcb := (HC.out.out.upd hu8 HC.out.ne).cell b
                have hfz := (HC.out.out.upd hu8 HC.out.ne).frozen b
                rw [outV_get _ _ _ _ hbN, show (decide (2 + k ≤ b) && decide (b < 2 + k + j)) = false by rw [Htk.out.2]; simp] at hcb
                have HC8 : Hid (RestC w (w8.setCell ⟨ob, b, none⟩ (.bool true)) m2 N k (j + 1) ob (setB nw2 b) now) := by
                  have e := Htk.out.2
                  subst e
                  exact HC.out.taken hlt (by omega) hM8 hu8
                clear hM8 hu8 HC
                go_wp2_with fail
                exact ⟨⟨j + 1, _, by have := Htk.out.2; omega, by go_num, by go_num, HC8⟩, by simp [intOf]; omega⟩
              · have hfree : ∀ c, c < N → Free2 nw2 now c = false := fun c hc => by rw [HC.out.free c (by omega)]; simp; omega
                go_wp2_with fail
                refine (take_full HC.out.map (by omega) hfree).mono ?_
                rintro e w8 ⟨rfl, hu8⟩
                dsimp only
                have hM8 := HC.out.map.upd hu8 (fun h => h)
                have HU8 := Lib.hid (HC.out.upd.trans hu8)
                have HM8 := Lib.hid hM8
                clear hu8 hM8
                go_wp2_with fail
                refine (take_full HM8.out (by omega) hfree).mono ?_
                rintro e w9 ⟨rfl, hu9⟩
                dsimp only
                have HU9 := Lib.hid (HU8.out.trans hu9)
                have hq9 : ((j : Int) == (N : Int) - 2 - (k : Int)) = true := by rw [beq_iff_eq]; omega
                clear hu9 hfree
                go_wp2_with fail
                go_ret
                exact ⟨rfl, HU9.out.below0⟩
      · have e1 : decide ((k : Int) < (ft : Int)) = false := by simp; omega
        clear hgo
        have hkI2 : 2 + (k : Int) ≤ (N : Int) := by omega
        go_wp2_with fail
        refine (store_ok HA.out.tx (by omega) HA.out.map).mono ?_
        rintro e w5 ⟨rfl, hT5, hu5⟩
        dsimp only
        have hpad := pad_id HA.out.map.l1
        rw [hpad] at hT5
        have H5 := Lib.hid (And.intro hT5 (HA.out.upd.then hu5 (fun q hq => .inr (HA.out.own q (.inr (.inr (.inl hq)))))))
        clear hT5 hu5 hpad
        go_wp2_with fail
        have hgood : GoodM N now := ⟨by rw [HA.out.has 0 (by omega)]; simp; omega, by rw [HA.out.has 1 (by omega)]; simp; omega, fun c h1 h2 => by rw [HA.out.has c h2]; simp; omega⟩
        refine (spload_ok H5.out.1 (by omega) now (look_putB _ _ _) HA.out.map.l1 N hN2 (by omega)).mono ?_
        rintro e w6 ⟨p, r, rfl, hp⟩
        obtain ⟨_, m2, rfl, rfl, hm, hM, hu6⟩ := Or.resolve_right hp (fun h => h.1 hgood)
        dsimp only
        have hz5 := H5.out.2.size
        have HB0 : Hid (RestB w w6 m2 N k now now) := ⟨hM, fun c hc hh => by rw [HA.out.has c hc] at hh; simpa using hh, HA.out.has, H5.out.2.trans hu6, by omega⟩
        clear hp hm hM hu6 hz5 hgood H5 HA
        go_wp2_with fail
        go_loopw [15] (fun i wr => ∃ (q : Nat) (nw : Bytes), q ≤ m ∧ i = .int .i64 q ∧ Hid (RestB w wr m2 N k nw now)) (fun i _ => m - (intOf i).toNat)
        case atStart => exact ⟨0, _, Nat.zero_le _, rfl, HB0⟩
        case round =>
          clear HB0
          obtain ⟨q, nw, hq, rfl, HB⟩ := hrel
          by_cases hlt : q < m
          · have hqI : (q : Int) < (m : Int) := by omega
            obtain ⟨hs, hmm⟩ := H.out
            obtain ⟨_, _, x', c', e', hc⟩ := hs.upd HB.out.upd (fun _ _ _ h => h)
            cases e'
            obtain ⟨gb, go, rfl, hrange⟩ := hc (by omega)
            have hcell := byte_cell hrange q (by omega)
            obtain ⟨v, hv⟩ : ∃ v, (bk.getD q 0).toNat = v := ⟨_, rfl⟩
            have hv8 := (bk.getD q 0).toNat_lt
            rw [hv] at hcell hv8
            have hvI : (v : Int) ≤ 255 := by omega
            clear hs hc hrange hv hmm hv8
            go_wp2_with fail
            refine (mfree_ok HB.out.map (by omega) (v : Int)).mono ?_
            rintro e w7 ⟨r, rfl, hp⟩
            dsimp only
            obtain ⟨nw', HB7⟩ := HB.out.freed (by omega) hp
            have HB7 := Lib.hid HB7
            clear hp HB
            go_wp2_with fail
            exact ⟨⟨q + 1, _, by omega, by go_num, HB7⟩, by simp [intOf]; omega⟩
          · obtain rfl : q = m := by omega
            clear hlt
            have hmk := mk_bools N (by omega) (2 + k)
            have hal : Upd (fun _ => False) wr (wr.alloc (.cells (outV N (2 + k) 0).toArray 4)) := (Upd.refl _ wr).alloc _
            have hcs := CellsA.new wr 4 (outV N (2 + k) 0)
            have hz := HB.out.upd.size
            have hml := HB.out.map.cells.lt
            have HC0 : Hid (RestC w (wr.alloc (.cells (outV N (2 + k) 0).toArray 4)) m2 N k 0 wr.heap.size nw now) := by
              refine ⟨HB.out.map.upd hal (fun h => h), fun c hc h1 => ?_, HB.out.old, hcs, HB.out.upd.trans hal, HB.out.lo, hz, by omega⟩
              cases hh : hasB nw c with
              | false => simp; omega
              | true => have := HB.out.sub c hc hh; omega
            clear hal hcs hz hml
            go_wp2_with fail
            generalize wr.alloc (.cells (outV N (2 + k) 0).toArray 4) = w7 at *
            generalize wr.heap.size = ob at *
            clear hmk HB
            go_loopw [17, 18] (fun g i wr => ∃ (j : Nat) (nw : Bytes), 2 + k + j ≤ N ∧ i = .int .i64 j ∧ g = .int .i64 j ∧ Hid (RestC w wr m2 N k j ob nw now)) (fun _ i _ => N - (intOf i).toNat)
            case atStart => exact ⟨0, _, by omega, rfl, rfl, HC0⟩
            case round =>
              clear HC0
              obtain ⟨j, nw2, hj, rfl, rfl, HC⟩ := hrel
              have hjI : (j : Int) < (N : Int) := by omega
              have hjb : (j : Int) ≤ 257 := by omega
              by_cases hlt : 2 + k + j < N
              · obtain ⟨b, hb⟩ : ∃ b, 2 + k + j = b := ⟨_, rfl⟩
                have hbN : b < N := by omega
                have hb1 : decide ((b : Int) < 2 + (k : Int)) = false := by simp; omega
                have hb2 : decide (N ≤ b) = false := by simp; omega
                have hbI2 : (b : Int) < (N : Int) := by omega
                have htk := take_least HC.out.map (by omega) b hbN (by rw [HC.out.free b (by omega)]; simp; omega) (fun c hc => by rw [HC.out.free c (by omega)]; simp; omega)
                have Htk := Lib.hid (And.intro htk hb)
                clear htk hb
                go_wp2_with fail
                refine Htk.out.1.mono ?_
                rintro e w8 ⟨rfl, hM8, hu8⟩
                dsimp only
                have hcb := (HC.out.out.upd hu8 HC.out.ne).cell b
                have hfz := (HC.out.out.upd hu8 HC.out.ne).frozen b
                rw [outV_get _ _ _ _ hbN, show (decide (2 + k ≤ b) && decide (b < 2 + k + j)) = false by rw [Htk.out.2]; simp] at hcb
                have HC8 : Hid (RestC w (w8.setCell ⟨ob, b, none⟩ (.bool true)) m2 N k (j + 1) ob (setB nw2 b) now) := by
                  have e := Htk.out.2
                  subst e
                  exact HC.out.taken hlt (by omega) hM8 hu8
                clear hM8 hu8 HC
                go_wp2_with fail
                exact ⟨⟨j + 1, _, by have := Htk.out.2; omega, by go_num, by go_num, HC8⟩, by simp [intOf]; omega⟩
              · have hfree : ∀ c, c < N → Free2 nw2 now c = false := fun c hc => by rw [HC.out.free c (by omega)]; simp; omega
                go_wp2_with fail
                refine (take_full HC.out.map (by omega) hfree).mono ?_
                rintro e w8 ⟨rfl, hu8⟩
                dsimp only
                have hM8 := HC.out.map.upd hu8 (fun h => h)
                have HU8 := Lib.hid (HC.out.upd.trans hu8)
                have HM8 := Lib.hid hM8
                clear hu8 hM8
                go_wp2_with fail
                refine (take_full HM8.out (by omega) hfree).mono ?_
                rintro e w9 ⟨rfl, hu9⟩
                dsimp only
                have HU9 := Lib.hid (HU8.out.trans hu9)
                have hq9 : ((j : Int) == (N : Int) - 2 - (k : Int)) = true := by rw [beq_iff_eq]; omega
                clear hu9 hfree
                go_wp2_with fail
                go_ret
                exact ⟨rfl, HU9.out.below0⟩
end Go.Proofs.Ytndhcimepgcfaaa
