/- docketlaw03.WalRound: its walk. -/
import Derived.Test.YtocameknhglklaaKRef3
import Derived.Test.YtocameknhglklaaKOpen3
namespace Go.Proofs.Ytocameknhglklaa
open Go.RowKit
set_option linter.unusedSimpArgs false
set_option linter.unusedVariables false
set_option maxRecDepth 100000

def ringN (n : Nat) : Nat := 2 + n % 30
theorem lring_ok (n : Nat) (hn : n ≤ 255) (w : World) : Calls Try.prog 14 #[.int .u8 n] w fun e w' => e = .returned (.int .i64 (ringN n : Nat)) ∧ w = w' := by
  have hb : (n : Int) ≤ 255 := by omega
  have htm : (n : Int).tmod 30 = ((n % 30 : Nat) : Int) := by rw [Int.tmod_eq_emod_of_nonneg (by omega)]; omega
  obtain ⟨r, hr⟩ : ∃ r, n % 30 = r := ⟨_, rfl⟩
  have hr2 : r < 30 := by omega
  rw [hr] at htm
  have hfin : ((ringN n : Nat) : Int) = 2 + (r : Int) := by rw [ringN, hr]; omega
  have Hf := Lib.hid hfin
  have hem : (n : Int) % 30 = (r : Int) := by omega
  have hrb : (r : Int) < 30 := by omega
  clear hr hfin hn hr2
  go_enter Try.func14, Try.ntmps14
  go_wp2_with fail
  go_ret
  exact ⟨by rw [Hf.out]; first | rfl | simp [htm, hem], rfl⟩
theorem new_len (N : Nat) (h1 : 1 ≤ N) (h2 : N ≤ 4096) (NI : Int) (h : NI = (N : Nat)) : (DSt.new NI).secs.length = N := by
  subst h
  rw [DSt.new, List.length_replicate]
  omega

/-- The loop. -/
def RoundR (w : World) (lb db N : Nat) (b : Batch) (c0 : Int) (j : Nat) (L : LSt) (D : DSt) (F : Nat → Prop) (wr : World) : Prop :=
  Hist wr lb db L D F j (List.replicate j b) ∧ L.synced = j ∧ L.fr = 0 ∧ L.n = N ∧ D.waits = [] ∧ Upd (fun _ => False) w wr ∧ (∀ k, F k → w.heap.size ≤ k) ∧ (c0 ≠ 0 → j = 0)
theorem check_same {L : LSt} {D : DSt} {T : Nat} {all : List Batch} (h : Inv L D T all) (hd : all.drop T = []) (b : Batch) : L.check b = (LSt.made 0 L.n).check b := by
  have hu : L.used = 0 := by rw [h.used, hd]; rfl
  have h1 : L.room = (LSt.made 0 L.n).room := by rw [LSt.room, hu]; rfl
  rw [LSt.check, LSt.check, h.alive, h1]
  rfl
set_option maxHeartbeats 2000000 in
theorem walRound_walk (n : Nat) (hn : n ≤ 255) (xa : Option Addr) (xc : Nat) (b : Batch) (t : Nat) (ht : t ≤ 255) (w : World) (hb : Sees w 1 (.slice xa b.length xc) b.length (strsV b)) (hlt : ∀ x, xa = some x → 0 < b.length → x.block < w.heap.size) :
    Calls Try.prog 4 #[.int .u8 n, .slice xa b.length xc, .int .u8 t] w fun e w' => e = .returned (.bool true) ∧ Below w.heap.size w w' := by
  obtain ⟨N, hN⟩ : ∃ N, ringN n = N := ⟨_, rfl⟩
  have hN2 : 2 ≤ N ∧ N ≤ 31 := by unfold ringN at hN; omega
  have hring := lring_ok n hn
  rw [hN] at hring
  have hnb : (n : Int) ≤ 255 := by omega
  have htb : (t : Int) ≤ 255 := by omega
  have Hring := Lib.hid hring
  have H := Lib.hid (And.intro hN2 (And.intro hb (And.intro hlt (And.intro hN (And.intro hn ht)))))
  have hNb : (N : Int) ≤ 31 := by omega
  have hNb2 : (2 : Int) ≤ (N : Int) := by omega
  clear hN2 hring hb hlt hN hn ht
  go_enter Try.func4, Try.ntmps4
  go_wp2_with fail
  refine (wal_fixed _).mono ?_
  rintro e w1 ⟨rfl, hu1⟩
  dsimp only
  have HU1 := Lib.hid hu1
  clear hu1
  go_wp2_with fail
  refine (Hring.out _).mono ?_
  rintro e w2 ⟨rfl, rfl⟩
  dsimp only
  go_wp2_with fail
  refine (new_disk (N : Int) w1).mono ?_
  rintro e w2 ⟨db, F, rfl, hD, hu, hF⟩
  dsimp only
  have H2 := Lib.hid (And.intro hD (And.intro hu hF))
  clear hD hu hF
  go_wp2_with fail
  refine (Hring.out _).mono ?_
  rintro e w3 ⟨rfl, rfl⟩
  dsimp only
  have hnl := new_len N (by have := H.out.1; omega) (by have := H.out.1; omega) (N : Int) rfl
  have Hnl := Lib.hid hnl
  clear hnl
  go_wp2_with fail
  refine (make_live H2.out.1 0 N (by have := H.out.1; omega) (by rw [Hnl.out]; omega) (by show 0 < 99999999990; decide) rfl rfl 0 (N : Int) rfl rfl).mono ?_
  rintro e w3 ⟨lb, F3, rfl, hH, hu, hF, hwt, hsl⟩
  dsimp only
  obtain ⟨c0, hc0⟩ : ∃ c0, (LSt.made 0 N).check b = c0 := ⟨_, rfl⟩
  have HR0 : Hid (RoundR w lb db N b c0 0 (LSt.made 0 N) (makeD (DSt.new (N : Int)) 0 N).1 F3 w3) := by
    have hz1 := HU1.out.size
    have hz2 := H2.out.2.1.size
    refine ⟨hH, rfl, rfl, rfl, hwt, (HU1.out.trans H2.out.2.1).then hu (fun k hk => .inr (by have := H2.out.2.2 k hk; omega)), fun k hk => ?_, fun _ => rfl⟩
    rcases hF k hk with h | h
    · have := H2.out.2.2 k h; omega
    · omega
  have Hc0 := Lib.hid hc0
  clear hH hu hF hwt hsl hc0 H2
  go_wp2_with fail
  go_loopw [10] (fun i wr => ∃ (j : Nat) (L : LSt) (D : DSt) (F : Nat → Prop), j ≤ t + 1 ∧ i = .int .i64 j ∧ Hid (RoundR w lb db N b c0 j L D F wr)) (fun i _ => t + 1 - (intOf i).toNat)
  case atStart => exact ⟨0, _, _, F3, Nat.zero_le _, rfl, HR0⟩
  case round =>
    clear HR0
    obtain ⟨j, L, D, F, hj, rfl, HR⟩ := hrel
    by_cases hlt : j < t + 1
    · have hlt2 : (j : Int) ≤ (t : Int) := by omega
      have hdrop : (List.replicate j b).drop j = [] := List.drop_eq_nil_of_le (by simp)
      have hck : L.check b = c0 := by
        rw [check_same HR.out.1.inv hdrop, HR.out.2.2.2.1]; exact Hc0.out
      have Hck := Lib.hid (And.intro hck hdrop)
      clear hck hdrop
      go_wp2_with fail
      refine (hist_append HR.out.1 (by rw [HR.out.2.2.2.2.1]; decide) xa xc b (H.out.2.1.upd HR.out.2.2.2.2.2.1 (fun _ _ _ h => h)) (fun x hx h0 hf => by have := H.out.2.2.1 x hx h0; have := HR.out.2.2.2.2.2.2.1 _ hf; omega) (by rw [List.length_replicate]; have := H.out.2.2.2.2.2; omega)).mono ?_
      rintro e w4 ⟨a1, r1, rfl, hp⟩
      dsimp only
      by_cases hc : c0 = 0
      · rcases hp with ⟨hcc, _⟩ | ⟨_, ha1, hr1, L4, D4, F4, hH4, hu4, hF4, hy4, hfr4, hn4, hw4, hs4⟩
        · exact absurd (Hck.out.1.trans hc) hcc
        have ha1' : a1 = (j : Int) + 1 := by rw [ha1, List.length_replicate]; omega
        subst ha1'
        subst hr1
        have hall : List.replicate j b ++ [b] = List.replicate (j + 1) b := by rw [List.replicate_succ']
        rw [hall] at hH4
        have hU4 : Upd (fun _ => False) w w4 := HR.out.2.2.2.2.2.1.then hu4 (fun k hk => .inr (HR.out.2.2.2.2.2.2.1 k hk))
        have hF4' : ∀ k, F4 k → w.heap.size ≤ k := fun k hk => by
          rcases hF4 k hk with h | h
          · exact HR.out.2.2.2.2.2.2.1 k h
          · have := HR.out.2.2.2.2.2.1.size; omega
        have H4 := Lib.hid (And.intro hH4 (And.intro hU4 (And.intro hF4' (And.intro (hfr4.trans HR.out.2.2.1) (And.intro (hn4.trans HR.out.2.2.2.1) (show D4.waits.length ≤ 4096 by rw [HR.out.2.2.2.2.1] at hw4; simpa using hw4))))))
        have Hc := Lib.hid hc
        clear hH4 hU4 hF4' hu4 hF4 hy4 hfr4 hn4 hw4 hs4 ha1 hall hc
        go_wp2_with fail
        refine (hist_sync H4.out.1 (by have := H4.out.2.2.2.2.2; omega)).mono ?_
        rintro e w5 ⟨D5, F5, rfl, hH5, hu5, hF5, hw5⟩
        dsimp only
        have hU5 : Upd (fun _ => False) w w5 := H4.out.2.1.then hu5 (fun k hk => .inr (H4.out.2.2.1 k hk))
        have hF5' : ∀ k, F5 k → w.heap.size ≤ k := fun k hk => by
          rcases hF5 k hk with h | h
          · exact H4.out.2.2.1 k h
          · have := H4.out.2.1.size; omega
        have H5 := Lib.hid (And.intro hH5 (And.intro hU5 (And.intro hF5' hw5)))
        clear hH5 hu5 hF5 hU5 hF5' hw5
        go_wp2_with fail
        refine (hist_trim H5.out.1 (by rw [H5.out.2.2.2]; decide) ((j : Int) + 1) (by have := H.out.2.2.2.2.2; omega)).mono ?_
        rintro e w6 ⟨r6, rfl, hp⟩
        rcases hp with ⟨hcc, _⟩ | ⟨_, _, hr6, L6, D6, F6, hH6, hu6, hF6, hy6, hfr6, hn6, hw6⟩
        · exact absurd hcc (by show ¬ ((j : Int) + 1 < 0 ∨ (((List.replicate (j + 1) b).length : Nat) : Int) < (j : Int) + 1); rw [List.length_replicate]; omega)
        subst hr6
        dsimp only
        have hT : max j ((j : Int) + 1).toNat = j + 1 := by omega
        rw [hT] at hH6
        have hU6 : Upd (fun _ => False) w w6 := H5.out.2.1.then hu6 (fun k hk => .inr (H5.out.2.2.1 k hk))
        have hF6' : ∀ k, F6 k → w.heap.size ≤ k := fun k hk => by
          rcases hF6 k hk with h | h
          · exact H5.out.2.2.1 k h
          · have := H5.out.2.1.size; omega
        have hy6' : L6.synced = j + 1 := by rw [hy6]; exact List.length_replicate
        have HR6 : Hid (RoundR w lb db N b c0 (j + 1) L6 D6 F6 w6.drew) :=
          ⟨hH6.upd ((Upd.refl (fun _ => False) w6).drew) (fun _ _ h => h), hy6', hfr6.trans H4.out.2.2.2.1, hn6.trans H4.out.2.2.2.2.1, hw6, hU6.drew, hF6', fun h => absurd Hc.out h⟩
        have hroom := hist_room hH6 (N - 1) (by rw [hn6, show ({ L4 with synced := (List.replicate (j + 1) b).length } : LSt).n = L4.n from rfl, H4.out.2.2.2.2.1, List.drop_eq_nil_of_le (by simp)]; rfl)
        have hN1 : ((N - 1 : Nat) : Int) = (N : Int) - 1 := by have := H.out.1; omega
        rw [hN1] at hroom
        have Hroom := Lib.hid hroom
        clear hH6 hu6 hF6 hy6 hfr6 hn6 hw6 hT hU6 hF6' hy6' hroom hN1 H5 H4
        go_wp2_with fail
        refine Hroom.out.mono ?_
        rintro e w7 ⟨rfl, rfl⟩
        dsimp only
        go_wp2_with fail
        refine (Hring.out _).mono ?_
        rintro e w7 ⟨rfl, rfl⟩
        dsimp only
        go_wp2_with fail
        have hfi := hist_first HR6.out.1
        have e2 : ((j + 1 + 1 : Nat) : Int) = (j : Int) + 1 + 1 := by omega
        rw [e2] at hfi
        refine hfi.mono ?_
        clear hfi e2
        rintro e w7 ⟨rfl, rfl⟩
        dsimp only
        go_wp2_with fail
        exact ⟨⟨j + 1, L6, D6, F6, by omega, by go_num, HR6⟩, by simp [intOf]; omega⟩
      · rcases hp with ⟨_, _, ha1, hr1, F4, hH4, hu4, hF4⟩ | ⟨hcc, _⟩
        · have hj0 : j = 0 := HR.out.2.2.2.2.2.2.2 hc
          subst hj0
          subst ha1
          have hne : (r1 != 0) = true := by rw [hr1, Hck.out.1]; simp [hc]
          have hU4 : Upd (fun _ => False) w w4 := HR.out.2.2.2.2.2.1.then hu4 (fun k hk => .inr (HR.out.2.2.2.2.2.2.1 k hk))
          have HU4 := Lib.hid hU4
          clear hH4 hu4 hF4 hU4 hr1 hc
          go_wp2_with fail
          go_ret
          exact ⟨rfl, HU4.out.below0⟩
        · exact absurd (Hck.out.1.symm.trans hcc) hc
    · obtain rfl : j = t + 1 := by omega
      have q1 : decide ((t : Int) + 1 ≤ (t : Int)) = false := by simp; try omega
      have hc : c0 = 0 := by
        by_cases h : c0 = 0
        · exact h
        · have := HR.out.2.2.2.2.2.2.2 h; omega
      have Hc := Lib.hid hc
      clear hc hlt
      go_wp2_with fail
      refine (Hring.out _).mono ?_
      rintro e w7 ⟨rfl, rfl⟩
      dsimp only
      go_wp2_with fail
      obtain ⟨G, hDG, hGF⟩ := HR.out.1.wal.disk
      have hinv := HR.out.1.inv
      have hg : Good D.secs 0 N L.start (t + 1 + 1) (t + 1) (seg (List.replicate (t + 1) b) (t + 1) (t + 1)) := by
        have h := hinv.good
        rw [HR.out.2.1, HR.out.2.2.1, HR.out.2.2.2.1] at h
        exact h
      refine (open_live hDG 0 N (t + 1) (t + 1) L.start (List.replicate (t + 1) b) (by rw [HR.out.2.2.2.2.1]; decide) hinv.live HR.out.1.fuel (Nat.le_refl _) (by simp) hg (fun p hp => by rw [HR.out.2.2.2.2.1] at hp; cases hp) 0 (N : Int) rfl rfl).mono ?_
      rintro e w8 ⟨lb2, x, c, rfl, F8, vs, A, hH8, hu8, -, -, -, -, -⟩
      dsimp only
      have hsub : t + 1 - (t + 1) = 0 := by omega
      rw [hsub]
      have hl := hist_last hH8
      have e2 : (((List.replicate (t + 1) b).take (t + 1)).length : Int) = (t : Int) + 1 := by rw [List.length_take, List.length_replicate]; omega
      rw [e2] at hl
      have Hl := Lib.hid (And.intro hl (HR.out.2.2.2.2.2.1.trans hu8))
      clear hDG hGF hinv hg hH8 hu8 hsub hl e2
      go_wp2_with fail
      refine Hl.out.1.mono ?_
      rintro e w9 ⟨rfl, rfl⟩
      dsimp only
      go_wp2_with fail
      go_ret
      exact ⟨rfl, Hl.out.2.below0⟩
end Go.Proofs.Ytocameknhglklaa
