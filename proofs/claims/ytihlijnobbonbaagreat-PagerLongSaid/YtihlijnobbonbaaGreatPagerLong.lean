/- docketlaw04.PagerLong. -/
import Derived.Test.YtihlijnobbonbaaGreatPa9
namespace Go.Proofs.YtihlijnobbonbaaGreat
open Go Go.RowKit
set_option linter.unusedSimpArgs false
set_option linter.unusedVariables false
set_option maxRecDepth 100000

def by8 (n : Nat) : UInt8 := UInt8.ofNat n
def longB (i j : Nat) : Bytes := pad [by8 i, by8 j]
/-- What round i has written, j of its blocks. -/
def longP (i : Nat) : Nat → Img
  | 0 => []
  | j + 1 => putP (longP i j) (((i + j) % 14 : Nat) : Int) (longB i j)
def longCs (i : Nat) : List Img := (List.range i).map fun k => longP k 3
theorem longCs_succ (i : Nat) : longCs (i + 1) = longCs i ++ [longP i 3] := by simp [longCs, List.range_succ]
theorem longCs_length (i : Nat) : (longCs i).length = i := by simp [longCs]
theorem put3 (a b c : Int) (x y z : Bytes) (h1 : ¬ b = a) (h2 : ¬ c = a) (h3 : ¬ c = b) : (putP (putP (putP [] a x) b y) c z).length = 3 := by
  simp [putP, h1, h2, h3]
theorem by8_nat {n : Nat} (h : n ≤ 255) : bv (by8 n) = .int .u8 (n : Int) := by
  have : (by8 n).toNat = n := by simp [by8]; omega
  rw [bv, this]
theorem longP_len (i : Nat) : (longP i 3).length = 3 := by
  have h1 : (i + 1) % 14 ≠ i % 14 := by omega
  have h2 : (i + 2) % 14 ≠ i % 14 := by omega
  have h3 : (i + 2) % 14 ≠ (i + 1) % 14 := by omega
  have h1' : ¬ ((((i + 1) % 14 : Nat) : Int) = ((i % 14 : Nat) : Int)) := by omega
  have h2' : ¬ ((((i + 2) % 14 : Nat) : Int) = ((i % 14 : Nat) : Int)) := by omega
  have h3' : ¬ ((((i + 2) % 14 : Nat) : Int) = (((i + 1) % 14 : Nat) : Int)) := by omega
  exact put3 _ _ _ _ _ _ h1' h2' h3'
theorem longP_look (i j : Nat) (hj : j < 3) : lookB (longP i 3) (((i + j) % 14 : Nat) : Int) = some (longB i j) := by
  simp only [longP, lookB_putP]
  rcases j with _ | _ | _ | j
  · have h1 : ¬ ((((i + 0) % 14 : Nat) : Int) = (((i + 2) % 14 : Nat) : Int)) := by omega
    have h2 : ¬ ((((i + 0) % 14 : Nat) : Int) = (((i + 1) % 14 : Nat) : Int)) := by omega
    rw [if_neg h1, if_neg h2, if_pos rfl]
  · have h1 : ¬ ((((i + (0 + 1)) % 14 : Nat) : Int) = (((i + 2) % 14 : Nat) : Int)) := by omega
    rw [if_neg h1, if_pos rfl]
  · rw [if_pos rfl]
  · omega
theorem long_at (i j : Nat) (hj : j < 3) : atC (longCs (i + 1)) (((i + j) % 14 : Nat) : Int) = longB i j := by
  rw [longCs_succ, atC_append, lastC_one, longP_look i j hj]; rfl
set_option maxHeartbeats 8000000 in
theorem pagerLong_walk (n : Nat) (hn : n ≤ 255) (s : Bool) (w : World) : Calls Tryz.prog 4 #[.int .u8 n, .bool s] w fun e w' => e = .returned (.bool true) ∧ Below w.heap.size w w' := by
  have hnI : (n : Int) ≤ 255 := by omega
  have f0 : IntKind.i64.wrap (n : Int) = (n : Int) := by rw [IntKind.wrap_i64]; omega
  go_enter Tryz.func4, Tryz.ntmps4
  go_wp2_with fail
  refine (fixed_ok w).mono ?_
  rintro e w1 ⟨rfl, hu1⟩
  dsimp only
  have HU1 := Lib.hid hu1
  clear hu1
  go_wp2_with fail
  refine (qnew_ok 20 (by decide) (by decide) w1 20 rfl).mono ?_
  rintro e w2 ⟨db, F, rfl, hD, hu, hF⟩
  dsimp only
  have H1 := Lib.hid (And.intro hD (And.intro (HU1.out.trans hu) (fun q hq => Nat.le_trans HU1.out.size (hF q hq))))
  clear hD hu hF
  go_wp2_with fail
  refine (qmake_ok 6 14 (by decide) (by decide) (by decide) H1.out.1 6 rfl).mono ?_
  rintro e w3 ⟨pb, K3, rfl, hp, hu, hK⟩
  dsimp only
  have H3 : Hid (∃ sy K, Pgr w3 pb db 6 14 (longCs 0) sy (-1) K ∧ Upd (fun _ => False) w w3 ∧ (∀ q, K q → w.heap.size ≤ q)) :=
    ⟨0, K3, hp, H1.out.2.1.then hu (fun q hq => .inr (H1.out.2.2 q hq)), fun q hq => by
      rcases hK q hq with e | e
      · exact H1.out.2.2 q e
      · exact Nat.le_trans H1.out.2.1.size e⟩
  clear hp hu hK H1
  go_wp2_with fail
  go_loopw [8] (fun v wr => ∃ i : Nat, i ≤ n + 1 ∧ v = .int .i64 i ∧ Hid (∃ sy K, Pgr wr pb db 6 14 (longCs i) sy (-1) K ∧ Upd (fun _ => False) w wr ∧ (∀ q, K q → w.heap.size ≤ q))) (fun v _ => n + 1 - (intOf v).toNat)
  case atStart => exact ⟨0, by omega, rfl, H3⟩
  case round =>
    clear H3
    obtain ⟨i, hi, rfl, HR⟩ := hrel
    obtain ⟨sy, K, HR⟩ := HR.out
    have HR := Lib.hid HR
    by_cases hlt : i ≤ n
    · have hltI : (i : Int) ≤ (n : Int) := by omega
      go_wp2_with fail
      refine (qbegin_ok HR.out.1).mono ?_
      rintro e w4 ⟨tb, K4, rfl, ht, hf⟩
      dsimp only
      have H4 : Hid (Txr w4 tb pb db 6 14 (longCs i) (longP i 0) sy (-1) K4 ∧ Upd (fun _ => False) w w4 ∧ (∀ q, K4 q → w.heap.size ≤ q)) :=
        ⟨ht, HR.out.2.1.then hf.upd (fun q hq => .inr (HR.out.2.2 q hq)), fun q hq => by
          rcases hf.own q hq with e | e
          · exact HR.out.2.2 q e
          · exact Nat.le_trans HR.out.2.1.size e⟩
      clear ht hf HR
      go_wp2_with fail
      go_loopw [11] (fun v wr => ∃ j : Nat, j ≤ 3 ∧ v = .int .i64 j ∧ Hid (Txr wr tb pb db 6 14 (longCs i) (longP i j) sy (-1) K4 ∧ Upd (fun _ => False) w wr ∧ (∀ q, K4 q → w.heap.size ≤ q))) (fun v _ => 3 - (intOf v).toNat)
      case atStart => exact ⟨0, by omega, rfl, H4⟩
      case round =>
        clear H4
        obtain ⟨j, hj, rfl, HR⟩ := hrel
        by_cases hlj : j < 3
        · have hljI : (j : Int) < 3 := by omega
          go_wp2_with fail
          have hu5 : Upd (fun _ => False) wr (wr.alloc (.cells #[.int .u8 (i : Int), .int .u8 (j : Int)] 5)) := (Upd.refl _ wr).alloc _
          have hs5 : Sees (wr.alloc (.cells #[.int .u8 (i : Int), .int .u8 (j : Int)] 5)) 1 (.slice (some ⟨wr.heap.size, 0, none⟩) 2 2) 2 (bvs [by8 i, by8 j]) := by
            have e : bvs [by8 i, by8 j] = [.int .u8 (i : Int), .int .u8 (j : Int)] := by
              simp only [bvs, List.map_cons, List.map_nil, by8_nat (show i ≤ 255 by omega), by8_nat (show j ≤ 255 by omega)]
            rw [e]
            exact Sees.at rfl (by decide) (rangeAt_of_row (heap_alloc_new wr (.cells ([.int .u8 (i : Int), .int .u8 (j : Int)] : List Value).toArray 5)) rfl)
          have H5 := Lib.hid (And.intro (HR.out.1.upd hu5 (fun _ _ h => h)) (HR.out.2.1.trans hu5))
          have Hs5 := Lib.hid hs5
          clear hu5 hs5
          generalize wr.alloc (.cells #[.int .u8 (i : Int), .int .u8 (j : Int)] 5) = w5 at *
          generalize wr.heap.size = gb at *
          refine (qwrite_ok H5.out.1 (((i : Int) + (j : Int)) % 14) (by omega) (by omega) (some ⟨gb, 0, none⟩) 2 [by8 i, by8 j] Hs5.out).mono ?_
          rintro e w6 (⟨hbad, _⟩ | ⟨_, _, _, rfl, ht, hu⟩)
          · simp at hbad; omega
          dsimp only
          have hmod : ((i : Int) + (j : Int)) % 14 = (((i + j) % 14 : Nat) : Int) := by omega
          rw [hmod] at ht
          have H6 : Hid (Txr w6 tb pb db 6 14 (longCs i) (longP i (j + 1)) sy (-1) K4 ∧ Upd (fun _ => False) w w6 ∧ (∀ q, K4 q → w.heap.size ≤ q)) := ⟨ht, H5.out.2.then hu (fun q hq => .inr (HR.out.2.2 q hq)), HR.out.2.2⟩
          clear ht hu H5 Hs5 HR
          go_wp2_with fail
          exact ⟨⟨j + 1, by omega, by go_num, H6⟩, by simp [intOf]; omega⟩
        · obtain rfl : j = 3 := by omega
          go_wp2_with fail
          refine (qcommit_ok HR.out.1 (by decide) (by rw [longCs_length]; omega)).mono ?_
          rintro e w8 ⟨a, r, rfl, K8, hf, hp⟩
          dsimp only
          have hnl : ¬ TooLong 6 (longP i 3) := by
            rintro (h | h)
            · rw [needB_encC (N := 14) HR.out.1.ok.1, longP_len] at h
              revert h; decide
            · rw [longP_len] at h; omega
          rcases hp with ⟨h0, _⟩ | ⟨_, h0, _⟩ | ⟨_, _, rfl, rfl, sy2, f2, h1, h2, h3⟩ | ⟨_, _, _, _, _, h0⟩
          · rw [longP_len] at h0; cases h0
          · exact absurd h0 hnl
          · obtain rfl := h2 (by decide)
            rw [longCs_length, ← longCs_succ] at *
            have H8 : Hid (Pgr w8 pb db 6 14 (longCs (i + 1)) sy2 (-1) K8 ∧ Upd (fun _ => False) w w8 ∧ (∀ q, K8 q → w.heap.size ≤ q)) := ⟨h3, HR.out.2.1.then hf.upd (fun q hq => .inr (HR.out.2.2 q hq)), fun q hq => by
              rcases hf.own q hq with e | e
              · exact HR.out.2.2 q e
              · exact Nat.le_trans HR.out.2.1.size e⟩
            clear hf h1 h3 HR
            have fi : ((i + 1 : Nat) : Int) = (i : Int) + 1 := by omega
            cases s with
            | false =>
              go_wp2_with fail
              exact ⟨⟨i + 1, by omega, by go_num, ⟨sy2, K8, H8.out⟩⟩, by simp [intOf]; omega⟩
            | true =>
              go_wp2_with fail
              refine (qsync_ok H8.out.1).mono ?_
              rintro e w9 ⟨r9, rfl, K9, hf9, ⟨rfl, f9, g1, g2⟩ | ⟨_, _, g1⟩⟩
              · obtain rfl := g1 (by decide)
                dsimp only
                have H9 : Hid (∃ sy K, Pgr w9 pb db 6 14 (longCs (i + 1)) sy (-1) K ∧ Upd (fun _ => False) w w9 ∧ (∀ q, K q → w.heap.size ≤ q)) := ⟨_, K9, g2, H8.out.2.1.then hf9.upd (fun q hq => .inr (H8.out.2.2 q hq)), fun q hq => by
                  rcases hf9.own q hq with e | e
                  · exact H8.out.2.2 q e
                  · exact Nat.le_trans H8.out.2.1.size e⟩
                clear hf9 g1 g2 H8
                go_wp2_with fail
                exact ⟨⟨i + 1, by omega, by go_num, H9⟩, by simp [intOf]; omega⟩
              · exact absurd g1 (by decide)
          · exact absurd h0 (by decide)
    · obtain rfl : i = n + 1 := by omega
      go_wp2_with fail
      refine (qbegin_ok HR.out.1).mono ?_
      rintro e w4 ⟨tb, K4, rfl, ht, hf⟩
      dsimp only
      have H4 : Hid (Txr w4 tb pb db 6 14 (longCs (n + 1)) [] sy (-1) K4 ∧ Upd (fun _ => False) w w4 ∧ (∀ q, K4 q → w.heap.size ≤ q)) :=
        ⟨ht, HR.out.2.1.then hf.upd (fun q hq => .inr (HR.out.2.2 q hq)), fun q hq => by
          rcases hf.own q hq with e | e
          · exact HR.out.2.2 q e
          · exact Nat.le_trans HR.out.2.1.size e⟩
      clear ht hf HR hlt
      go_wp2_with fail
      go_loopw [16] (fun v wr => ∃ j : Nat, j ≤ 3 ∧ v = .int .i64 j ∧ Hid (Txr wr tb pb db 6 14 (longCs (n + 1)) [] sy (-1) K4 ∧ Upd (fun _ => False) w wr ∧ (∀ q, K4 q → w.heap.size ≤ q))) (fun v _ => 3 - (intOf v).toNat)
      case atStart => exact ⟨0, by omega, rfl, H4⟩
      case round =>
        clear H4
        obtain ⟨j, hj, rfl, HR⟩ := hrel
        by_cases hlj : j < 3
        · have hljI : (j : Int) < 3 := by omega
          obtain ⟨m, hm⟩ : ∃ m, (n + j) % 14 = m := ⟨_, rfl⟩
          have fm : ((n : Int) + (j : Int)) % 14 = (m : Int) := by omega
          have hrd := qread_ok HR.out.1 m (by omega)
          have hat := long_at n j hlj
          rw [hm] at hat
          rw [hat] at hrd
          have Hrd := Lib.hid hrd
          clear hrd hat hm
          go_wp2_with fail
          try rw [fm]
          refine Hrd.out.mono ?_
          rintro e w7 ⟨xa, xc, rfl, hmd, hnw, hu⟩
          dsimp only
          have hr : Hid (∃ g o, xa = some ⟨g, o, none⟩ ∧ w7.cell? ⟨g, o, none⟩ = some (.int .u8 (n : Int)) ∧ w7.cell? ⟨g, o + 1, none⟩ = some (.int .u8 (j : Int))) := by
            obtain ⟨hl, ⟨e1, _⟩ | ⟨g, o, cap, e1, h1, h2, h3, h4, h5⟩⟩ := hmd
            · cases e1
            · cases e1
              have e0 : (bvs (longB n j))[0]? = some (.int .u8 (n : Int)) := by
                rw [← by8_nat hn]; rfl
              have e1 : (bvs (longB n j))[1]? = some (.int .u8 (j : Int)) := by
                rw [← by8_nat (show j ≤ 255 by omega)]; rfl
              exact ⟨g, o, rfl, h4 0 _ e0, h4 1 _ e1⟩
          obtain ⟨g, o, rfl, hc0, hc1⟩ := hr.out
          have H7 : Hid (Txr w7 tb pb db 6 14 (longCs (n + 1)) [] sy (-1) K4 ∧ Upd (fun _ => False) w w7 ∧ (∀ q, K4 q → w.heap.size ≤ q)) := ⟨HR.out.1.upd hu (fun _ _ h => h), HR.out.2.1.trans hu, HR.out.2.2⟩
          clear hmd hnw hu hr Hrd HR
          go_wp2_with fail
          exact ⟨⟨j + 1, by omega, by go_num, H7⟩, by simp [intOf]; omega⟩
        · obtain rfl : j = 3 := by omega
          go_wp2_with fail
          refine (qabort_ok HR.out.1).mono ?_
          rintro e w5 ⟨K5, rfl, hp, hf⟩
          dsimp only
          have H5 : Hid (Pgr w5 pb db 6 14 (longCs (n + 1)) sy (-1) K5 ∧ Upd (fun _ => False) w w5 ∧ (∀ q, K5 q → w.heap.size ≤ q)) := ⟨hp, HR.out.2.1.then hf.upd (fun q hq => .inr (HR.out.2.2 q hq)), fun q hq => by
              rcases hf.own q hq with e | e
              · exact HR.out.2.2 q e
              · exact Nat.le_trans HR.out.2.1.size e⟩
          clear hp hf HR
          go_wp2_with fail
          refine (qsync_ok H5.out.1).mono ?_
          rintro e w9 ⟨r9, rfl, K9, hf9, ⟨rfl, f9, g1, g2⟩ | ⟨_, _, g1⟩⟩
          · obtain rfl := g1 (by decide)
            dsimp only
            rw [longCs_length] at g2
            have H9 : Hid (Pgr w9 pb db 6 14 (longCs (n + 1)) (n + 1) (-1) K9 ∧ Upd (fun _ => False) w w9) := ⟨g2, H5.out.2.1.then hf9.upd (fun q hq => .inr (H5.out.2.2 q hq))⟩
            clear hf9 g1 g2 H5
            go_wp2_with fail
            refine (qsynced_ok H9.out.1).mono ?_
            rintro e w10 ⟨rfl, rfl⟩
            dsimp only
            go_wp2_with fail
            go_ret
            exact ⟨by simp, H9.out.2.below0⟩
          · exact absurd g1 (by decide)
end Go.Proofs.YtihlijnobbonbaaGreat
