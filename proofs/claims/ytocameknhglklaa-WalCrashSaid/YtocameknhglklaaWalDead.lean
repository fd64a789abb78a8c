/- docketlaw03.WalDead: its walk. -/
import Derived.Test.YtocameknhglklaaWalRound
import Derived.Test.YtocameknhglklaaKOpen3
namespace Go.Proofs.Ytocameknhglklaa
open Go.RowKit
set_option linter.unusedSimpArgs false
set_option linter.unusedVariables false
set_option maxRecDepth 100000

theorem append_dead {L : LSt} {D : DSt} {b : Batch} (h : L.dead = true) : L.append D b = (L, D, 0, 10) := by
  have hc : L.check b = 10 := by rw [LSt.check, if_pos h]
  rw [LSt.append, if_pos (by rw [hc]; decide), hc]
theorem sync_dead {L : LSt} {D : DSt} (h : L.dead = true) : L.sync D = (L, D, 10) := by rw [LSt.sync, if_pos h]
theorem trim_dead {L : LSt} {D : DSt} {u : Int} (h : L.dead = true) : L.trim D u = (L, D, 10) := by rw [LSt.trim, if_pos h]
abbrev bB : Batch := [⟨#[98]⟩]
theorem mark_fuel (L : LSt) (D : DSt) (hd : D.dead = false) (hfr : L.fr < D.secs.length) (h0 : 0 ≤ D.fuel) (h2 : D.fuel ≤ 1) : (L.mark D).2.2 = 10 := by
  have hlen : L.mk_.length ≤ 512 := by rw [LSt.mk_, markB_length]; omega
  by_cases hf : D.fuel = 0
  · have hw : D.write (L.fr : Nat) L.mk_ = ({ D with dead := true }, 10) := by
      rw [DSt.write, if_neg (by rw [hd]; decide), if_neg (by omega), if_neg (by omega), if_pos hf]
    simp only [LSt.mark, hw, LSt.fail]
    simp
  · have hw := DSt.write_eq (D := D) (i := (L.fr : Nat)) (data := L.mk_) hd (by omega) (by omega) hlen hf
    have hb : burnt D.fuel = 0 := by unfold burnt; split <;> omega
    have hfl : (D.write (L.fr : Nat) L.mk_).1.flush = ({ (D.write (L.fr : Nat) L.mk_).1 with dead := true }, 10) := by
      rw [DSt.flush, if_neg (by rw [hw]; simp [hd]), if_pos (by rw [hw]; exact hb)]
    simp only [LSt.mark, hfl, LSt.fail]
    rw [hw]
    simp
theorem sync_fuel {L : LSt} {D : DSt} {T : Nat} {all : List Batch} (h : Inv L D T all) (h0 : 0 ≤ D.fuel) (h2 : D.fuel ≤ 2) : (L.sync D).2.2 = 10 := by
  rcases sync_inv h with ⟨a1, _⟩ | ⟨a1, _⟩
  · exfalso
    by_cases hf : D.fuel = 0
    · have hfl : D.flush = ({ D with dead := true }, 10) := by rw [DSt.flush, if_neg (by rw [h.live]; decide), if_pos hf]
      have hs : L.sync D = ({ L with dead := true }, { D with dead := true }, 10) := by
        unfold LSt.sync
        rw [if_neg (by rw [h.alive]; decide)]
        simp only [hfl, fail_dead]
        rfl
      rw [hs] at a1
      cases a1
    · have hfl := DSt.flush_eq (D := D) h.live hf
      have hm := mark_fuel { L with synced := L.last } D.flush.1 (by rw [hfl]; exact h.live) (by rw [hfl]; show L.fr < _; rw [done_length]; have := h.fit; have := h.ok.two; omega) (by rw [hfl]; show 0 ≤ burnt D.fuel; unfold burnt; split <;> omega) (by rw [hfl]; show burnt D.fuel ≤ 1; unfold burnt; split <;> omega)
      have hs : (L.sync D).2.2 = 10 := by
        unfold LSt.sync
        rw [if_neg (by rw [h.alive]; decide)]
        dsimp only
        rw [if_pos (by rw [hfl]), if_neg (by rw [hm]; decide)]
        exact hm
      rw [hs] at a1
      cases a1
  · exact a1
theorem write_fuel (D : DSt) (i : Int) (x : Bytes) (h0 : 0 ≤ D.fuel) : 0 ≤ (D.write i x).1.fuel ∧ (D.write i x).1.fuel ≤ D.fuel := by
  unfold DSt.write
  split
  · exact ⟨h0, Int.le_refl _⟩
  · split
    · exact ⟨h0, Int.le_refl _⟩
    · split
      · exact ⟨h0, Int.le_refl _⟩
      · split
        · exact ⟨h0, Int.le_refl _⟩
        · show 0 ≤ burnt D.fuel ∧ burnt D.fuel ≤ D.fuel
          unfold burnt; split <;> omega
theorem writes_fuel (L : LSt) (bs : Bytes) : ∀ (k i : Nat) (D : DSt), 0 ≤ D.fuel → 0 ≤ (L.writes bs k i D).1.fuel ∧ (L.writes bs k i D).1.fuel ≤ D.fuel
  | 0, i, D, h => ⟨h, Int.le_refl _⟩
  | k + 1, i, D, h => by
    have h1 := write_fuel D (L.ring (L.start + L.used + i) : Nat) (chunk bs i) h
    rw [LSt.writes]
    split
    · have h2 := writes_fuel L bs k (i + 1) (D.write (L.ring (L.start + L.used + i) : Nat) (chunk bs i)).1 h1.1
      omega
    · exact h1
theorem append_fuel (L : LSt) (D : DSt) (b : Batch) (h : 0 ≤ D.fuel) : 0 ≤ (L.append D b).2.1.fuel ∧ (L.append D b).2.1.fuel ≤ D.fuel := by
  unfold LSt.append
  split
  · exact ⟨h, Int.le_refl _⟩
  · have h := writes_fuel L (encB (L.last + 1) b) (needB b) 0 D h
    dsimp only
    split <;> exact h
theorem flush_waits (D : DSt) : D.flush.1.waits.length ≤ D.waits.length := by
  unfold DSt.flush
  split
  · exact Nat.le_refl _
  · split
    · exact Nat.le_refl _
    · exact Nat.zero_le _
theorem mark_waits (L : LSt) (D : DSt) : (L.mark D).2.1.waits.length ≤ D.waits.length + 1 := by
  have h1 := write_waits D (L.fr : Nat) L.mk_
  have h2 := flush_waits (D.write (L.fr : Nat) L.mk_).1
  unfold LSt.mark
  dsimp only
  split
  · show (D.write (L.fr : Nat) L.mk_).1.flush.1.waits.length ≤ _
    omega
  · exact h1
theorem sync_waits (L : LSt) (D : DSt) : (L.sync D).2.1.waits.length ≤ D.waits.length + 1 := by
  have h1 := flush_waits D
  have h2 := mark_waits { L with synced := L.last } D.flush.1
  unfold LSt.sync
  split
  · exact Nat.le_succ _
  · dsimp only
    split
    · split
      · omega
      · show (LSt.mark { L with synced := L.last } D.flush.1).2.1.waits.length ≤ _
        omega
    · show D.flush.1.waits.length ≤ _
      omega
theorem die_round {L : LSt} {D : DSt} (hinv : Inv L D 0 [bA]) (h0 : 0 ≤ D.fuel) (h2 : D.fuel ≤ 2) (hl : L.last + 1 < 1000000000000000000) :
    ((L.append D bB).1.sync (L.append D bB).2.1).2.1.dead = true ∧ ((L.append D bB).1.sync (L.append D bB).2.1).1.dead = true ∧ ((L.append D bB).1.sync (L.append D bB).2.1).1.first = 1 ∧ ((L.append D bB).1.sync (L.append D bB).2.1).1.last + 1 < 1000000000000000000 := by
  have hfu := append_fuel L D bB h0
  rcases append_inv hinv bB hl with ⟨a1, a2, a3⟩ | ⟨a1, a2, a3, a4⟩ | ⟨a1, a2, a3, a4, a5, a6⟩
  · rw [a2]
    dsimp only
    have hs := sync_fuel hinv h0 h2
    rcases sync_inv hinv with ⟨b1, _⟩ | ⟨b1, b2, b3, _⟩
    · rw [b1] at hs; cases hs
    · rw [b2]
      exact ⟨b3, rfl, hinv.first, hl⟩
  · have hs := sync_fuel a3 hfu.1 (by omega)
    rcases sync_inv a3 with ⟨b1, _⟩ | ⟨b1, b2, b3, _⟩
    · rw [b1] at hs; cases hs
    · rw [b2]
      refine ⟨b3, rfl, a3.first, ?_⟩
      show (L.append D bB).1.last + 1 < _
      rw [a3.last]; decide
  · rw [a3]
    rw [sync_dead rfl]
    exact ⟨a4, rfl, hinv.first, hl⟩
theorem setFuel_inv {L : LSt} {D : DSt} {T : Nat} {all : List Batch} (h : Inv L D T all) (n : Int) : Inv L (D.setFuel n) T all := ⟨h.ok, h.alive, h.live, h.fit, h.list, h.last, h.used, h.low, h.good, h.vis, h.waits⟩
/-- The disk changed by a call of its own. -/
theorem WalAt.fuel {w : World} {lb db : Nat} {L : LSt} {D : DSt} {F : Nat → Prop} (h : WalAt w lb db L D F) (n : Int) (hn : n ≤ 9223372036854775807) :
    Calls Try.prog 26 #[.pointer (some ⟨db, 0, none⟩), .int .i64 n] w fun e w' => e = .returned (.tuple #[]) ∧ WalAt w' lb db L (D.setFuel n) F ∧ Upd F w w' := by
  obtain ⟨lv, G, h0, h1, h2, h3, h4, h5, h6⟩ := h
  refine (fuel_disk h3 n hn).mono ?_
  rintro e w' ⟨rfl, g1, g2⟩
  exact ⟨rfl, ⟨lv, G, h0, h1.upd g2 h4, h2.upd g2 (fun k hk => (h5 k hk).1), g1, h4, h5, h6⟩, g2.mono (fun k _ hk => (h6 k).2 (.inr (.inr hk)))⟩
/-- The log while it dies. -/
def DeadR (w : World) (lb db : Nat) (j : Nat) (L : LSt) (D : DSt) (F : Nat → Prop) (wr : World) : Prop :=
  WalAt wr lb db L D F ∧ Upd (fun _ => False) w wr ∧ (∀ k, F k → w.heap.size ≤ k) ∧ L.last + 1 < 1000000000000000000 ∧ D.waits.length ≤ 10 * j ∧ L.first = 1 ∧
    ((j = 0 ∧ D.dead = false ∧ Inv L D 0 [bA] ∧ 0 ≤ D.fuel ∧ D.fuel ≤ 2 ∧ L.n = 40) ∨ (j = 1 ∧ D.dead = true ∧ L.dead = true))
theorem bA_dead {w : World} {lb db : Nat} {L : LSt} {D : DSt} {F : Nat → Prop} {wr w' : World} (h : DeadR w lb db 0 L D F wr) {L' : LSt} {D' : DSt} (h2 : WalPost wr lb db L' D' F w') : ∃ F', WalAt w' lb db L' D' F' ∧ Upd (fun _ => False) w w' ∧ (∀ k, F' k → w.heap.size ≤ k) := by
  obtain ⟨F', g1, g2, g3⟩ := h2
  refine ⟨F', g1, h.2.1.then g2 (fun k hk => .inr (h.2.2.1 k hk)), fun k hk => ?_⟩
  rcases g3 k hk with h' | h'
  · exact h.2.2.1 k h'
  · have := h.2.1.size; omega
set_option maxHeartbeats 4000000 in
theorem walDead_walk (fu : Nat) (hfu : fu ≤ 255) (xa : Option Addr) (xc : Nat) (b : Batch) (w : World) (hb : Sees w 1 (.slice xa b.length xc) b.length (strsV b)) (hlt : ∀ x, xa = some x → 0 < b.length → x.block < w.heap.size) :
    Calls Try.prog 10 #[.int .u8 fu, .slice xa b.length xc] w fun e w' => e = .returned (.bool true) ∧ Below w.heap.size w w' := by
  have hfb : (fu : Int) ≤ 255 := by omega
  obtain ⟨f3, hf3⟩ : ∃ f3, fu % 3 = f3 := ⟨_, rfl⟩
  have hf32 : f3 ≤ 2 := by omega
  have htm : (fu : Int).tmod 3 = (f3 : Int) := by rw [Int.tmod_eq_emod_of_nonneg (by omega)]; omega
  have hem : (fu : Int) % 3 = (f3 : Int) := by omega
  have H := Lib.hid (And.intro hb (And.intro hlt (And.intro hfu hf32)))
  clear hb hlt hf3 hf32 hfu
  go_enter Try.func10, Try.ntmps10
  go_wp2_with fail
  refine (wal_fixed _).mono ?_
  rintro e w1 ⟨rfl, hu1⟩
  dsimp only
  have HU1 := Lib.hid hu1
  clear hu1
  go_wp2_with fail
  refine (new_disk 40 w1).mono ?_
  rintro e w2 ⟨db, F, rfl, hD, hu, hF⟩
  dsimp only
  have hnl := new_len 40 (by decide) (by decide) 40 rfl
  have H2 := Lib.hid (And.intro hD (And.intro hu (And.intro hF hnl)))
  clear hD hu hF hnl
  go_wp2_with fail
  refine (make_live H2.out.1 0 40 (by decide) (by rw [H2.out.2.2.2]; decide) (by show 0 < 99999999990; decide) rfl rfl 0 40 rfl rfl).mono ?_
  rintro e w3 ⟨lb, F3, rfl, hH, hu, hF, hwt, hsl⟩
  dsimp only
  have hz1 := HU1.out.size
  have hz2 := H2.out.2.1.size
  have hU3 : Upd (fun _ => False) w w3 := (HU1.out.trans H2.out.2.1).then hu (fun k hk => .inr (by have := H2.out.2.2.1 k hk; omega))
  have hF3' : ∀ k, F3 k → w.heap.size ≤ k := fun k hk => by
    rcases hF k hk with h | h
    · have := H2.out.2.2.1 k h; omega
    · omega
  have H3 := Lib.hid (And.intro hH (And.intro hU3 (And.intro hF3' hwt)))
  clear hH hu hF hwt hsl hz1 hz2 hU3 hF3' H2
  go_wp2_with fail
  have hal : Upd (fun _ => False) w3 (w3.alloc (.cells (strsV bA).toArray 9)) := (Upd.refl _ w3).alloc _
  have hsa := sees_strs w3 bA (by decide)
  have hH4 := H3.out.1.upd hal (fun _ _ h => h)
  refine (hist_append hH4 (by rw [H3.out.2.2.2]; decide) (some ⟨w3.heap.size, 0, none⟩) 1 bA hsa (fun x hx _ hf => by cases hx; have := H3.out.1.wal.lt _ hf; exact Nat.lt_irrefl _ this) (by decide)).mono ?_
  rintro e w5 ⟨a1, r1, rfl, hp⟩
  rcases hp with ⟨hc, _⟩ | ⟨_, ha1, hr1, L5, D5, F5, hH5, hu5, hF5, hy5, hfr5, hn5, hw5, hs5⟩
  · exact absurd (check_zero hH4.inv bA (by decide) (by decide) (by decide) (by decide)) hc
  dsimp only
  have hU5 : Upd (fun _ => False) w w5 := (H3.out.2.1.trans hal).then hu5 (fun k hk => .inr (H3.out.2.2.1 k hk))
  have hF5' : ∀ k, F5 k → w.heap.size ≤ k := fun k hk => by
    rcases hF5 k hk with h | h
    · exact H3.out.2.2.1 k h
    · have := (H3.out.2.1.trans hal).size; omega
  have H5 := Lib.hid (And.intro hH5 (And.intro hU5 (And.intro hF5' (And.intro hn5 (show D5.waits.length ≤ 4096 by rw [H3.out.2.2.2] at hw5; simpa using hw5)))))
  clear hal hsa hH4 ha1 hr1 hH5 hu5 hF5 hU5 hF5' hy5 hfr5 hn5 hw5 hs5 H3
  go_wp2_with fail
  refine (hist_sync H5.out.1 (by have := H5.out.2.2.2.2; omega)).mono ?_
  rintro e w6 ⟨D6, F6, rfl, hH6, hu6, hF6, hw6⟩
  dsimp only
  have hU6 : Upd (fun _ => False) w w6 := H5.out.2.1.then hu6 (fun k hk => .inr (H5.out.2.2.1 k hk))
  have hF6' : ∀ k, F6 k → w.heap.size ≤ k := fun k hk => by
    rcases hF6 k hk with h | h
    · exact H5.out.2.2.1 k h
    · have := H5.out.2.1.size; omega
  have H6 := Lib.hid (And.intro hH6 (And.intro hU6 (And.intro hF6' (And.intro hw6 H5.out.2.2.2.1))))
  clear hH6 hu6 hF6 hU6 hF6' hw6 H5
  go_wp2_with fail
  refine (H6.out.1.wal.fuel (f3 : Int) (by have := H.out.2.2.2; omega)).mono ?_
  rintro e w7 ⟨rfl, hW7, hu7⟩
  dsimp only
  have HD0 : Hid (DeadR w lb db 0 { L5 with synced := ([] ++ [bA] : List Batch).length } (D6.setFuel f3) F6 w7) := by
    have hinv := H6.out.1.inv
    have hf32 := H.out.2.2.2
    refine ⟨hW7, H6.out.2.1.then hu7 (fun k hk => .inr (H6.out.2.2.1 k hk)), H6.out.2.2.1, by rw [hinv.last]; decide, by show D6.waits.length ≤ 10 * 0; rw [H6.out.2.2.2.1]; decide, hinv.first, .inl ⟨rfl, hinv.live, setFuel_inv hinv _, ?_, ?_, H6.out.2.2.2.2⟩⟩
    · show 0 ≤ max (f3 : Int) (-1); omega
    · show max (f3 : Int) (-1) ≤ 2; omega
  clear hW7 hu7 H6
  go_wp2_with fail
  go_loopw [8] (fun i wr => ∃ (j : Nat) (L : LSt) (D : DSt) (F : Nat → Prop), j ≤ 1 ∧ i = .int .i64 j ∧ Hid (DeadR w lb db j L D F wr)) (fun i _ => 2 - (intOf i).toNat)
  case atStart => exact ⟨0, _, _, F6, by decide, rfl, HD0⟩
  case round =>
    clear HD0
    obtain ⟨j, L, D, F, hj, rfl, HD⟩ := hrel
    obtain ⟨G, hDG, hGF⟩ := HD.out.1.disk
    have hdd := dead_disk hDG
    by_cases hj0 : j = 0
    · subst hj0
      obtain ⟨hdd0, hinv, hf0, hf2, hn40⟩ : D.dead = false ∧ Inv L D 0 [bA] ∧ 0 ≤ D.fuel ∧ D.fuel ≤ 2 ∧ L.n = 40 := by
        rcases HD.out.2.2.2.2.2.2 with h | h
        · exact h.2
        · exact absurd h.1 (by decide)
      rw [hdd0] at hdd
      have Hdd := Lib.hid hdd
      have Hi := Lib.hid (And.intro hinv (And.intro hf0 (And.intro hf2 hn40)))
      clear hdd hinv hf0 hf2 hn40 hdd0 hDG hGF hj
      go_wp2_with fail
      refine Hdd.out.mono ?_
      rintro e w8 ⟨rfl, rfl⟩
      dsimp only
      go_wp2_with fail
      have hal : Upd (fun _ => False) wr (wr.alloc (.cells (strsV bB).toArray 9)) := (Upd.refl _ wr).alloc _
      have hsa := sees_strs wr bB (by decide)
      have hW8 := HD.out.1.upd hal (fun _ _ h => h)
      have HD8 : Hid (DeadR w lb db 0 L D F (wr.alloc (.cells (strsV bB).toArray 9))) := ⟨hW8, HD.out.2.1.trans hal, HD.out.2.2⟩
      have hck := check_zero Hi.out.1 bB (by decide) (by decide) (by decide) (by rw [Hi.out.2.2.2]; decide)
      refine (append_ok hW8 (by have := HD.out.2.2.2.2.1; omega) (some ⟨wr.heap.size, 0, none⟩) 1 bB hsa (fun x hx _ hf => by cases hx; have h1 := HD.out.1.lt lb (by obtain ⟨lv, G, _, _, _, _, _, _, hF⟩ := HD.out.1; exact (hF lb).2 (.inl rfl)); exact absurd hf (by show wr.heap.size ≠ lb; omega)) HD.out.2.2.2.1).mono ?_
      rintro e w9 ⟨rfl, hp⟩
      dsimp only
      obtain ⟨F9, g1, g2, g3⟩ := bA_dead HD8.out hp
      obtain ⟨s1, s2, s3, s4⟩ := die_round Hi.out.1 Hi.out.2.1 Hi.out.2.2.1 HD.out.2.2.2.1
      have hawt := append_waits L D bB
      have hswt := sync_waits (L.append D bB).1 (L.append D bB).2.1
      have hn1 : needB bB = 1 := rfl
      have hD9 := HD.out.2.2.2.2.1
      have H9 := Lib.hid (And.intro g1 (And.intro g2 (And.intro g3 (And.intro s1 (And.intro s2 (And.intro s3 (And.intro s4 (And.intro (show (L.append D bB).2.1.waits.length ≤ 1 by omega) hswt))))))))
      generalize (L.append D bB).1 = L9 at *
      generalize (L.append D bB).2.1 = D9 at *
      generalize (L.append D bB).2.2.1 = a9 at *
      generalize (L.append D bB).2.2.2 = r9 at *
      clear hal hsa hW8 hck hp g1 g2 g3 s1 s2 s3 s4 hawt hswt hn1 hD9
      go_wp2_with fail
      refine (sync_ok H9.out.1 (by have := H9.out.2.2.2.2.2.2.2.1; omega)).mono ?_
      rintro e w10 ⟨rfl, hp⟩
      dsimp only
      have HD10 : Hid (∃ F', DeadR w lb db 1 (L9.sync D9).1 (L9.sync D9).2.1 F' w10) := by
        obtain ⟨F', g1, g2, g3⟩ := hp
        have hh := H9.out
        refine ⟨F', g1, hh.2.1.then g2 (fun k hk => .inr (hh.2.2.1 k hk)), fun k hk => ?_, hh.2.2.2.2.2.2.1, ?_, hh.2.2.2.2.2.1, .inr ⟨rfl, hh.2.2.2.1, hh.2.2.2.2.1⟩⟩
        · rcases g3 k hk with h | h
          · exact hh.2.2.1 k h
          · have := hh.2.1.size; omega
        · have h1 := hh.2.2.2.2.2.2.2.1
          have h2 := hh.2.2.2.2.2.2.2.2
          omega
      obtain ⟨F10, hD10⟩ := HD10.out
      have HD11 := Lib.hid hD10
      clear HD10 hp hD10
      go_wp2_with fail
      exact ⟨⟨1, _, _, F10, by decide, rfl, HD11⟩, by simp [intOf]⟩
    · have hj1 : j = 1 := by omega
      subst hj1
      obtain ⟨hd1, hL1⟩ : D.dead = true ∧ L.dead = true := by
        rcases HD.out.2.2.2.2.2.2 with h | h
        · exact absurd h.1 (by decide)
        · exact h.2
      rw [hd1] at hdd
      have Hdd := Lib.hid hdd
      have Hd := Lib.hid (And.intro hd1 hL1)
      obtain ⟨lv, G0, hOk, hC, hM, hD0, hG0, hlv, hF0⟩ := HD.out.1
      have hroom := room_ok hC hOk
      obtain ⟨ro, hro⟩ : ∃ ro, L.n - 1 - L.used = ro := ⟨_, rfl⟩
      obtain ⟨la, hla⟩ : ∃ la, L.last = la := ⟨_, rfl⟩
      obtain ⟨sy, hsy⟩ : ∃ sy, L.synced = sy := ⟨_, rfl⟩
      rw [hro] at hroom
      have hdrw : Upd (fun _ => False) wr wr.drew := (Upd.refl _ wr).drew
      have hlast := last_ok9 (hC.upd hdrw (fun h => h))
      have hsync := synced_ok9 (hC.upd hdrw (fun h => h))
      rw [hla] at hlast
      rw [hsy] at hsync
      have Hc := Lib.hid (And.intro hroom (And.intro hlast (And.intro hsync (And.intro hro (And.intro hla hsy)))))
      have HD1 := Lib.hid (HD.out.1.upd hdrw (fun _ _ h => h))
      have HU1 := Lib.hid (HD.out.2.1.trans hdrw)
      clear hdd hd1 hL1 hOk hC hM hD0 hG0 hlv hF0 hroom hro hla hsy hdrw hlast hsync hDG hGF hj
      go_wp2_with fail
      refine Hdd.out.mono ?_
      rintro e w8 ⟨rfl, rfl⟩
      dsimp only
      go_wp2_with fail
      refine Hc.out.1.mono ?_
      rintro e w8 ⟨rfl, rfl⟩
      dsimp only
      go_wp2_with fail
      refine Hc.out.2.1.mono ?_
      rintro e w8 ⟨rfl, rfl⟩
      dsimp only
      go_wp2_with fail
      refine Hc.out.2.2.1.mono ?_
      rintro e w8 ⟨rfl, rfl⟩
      dsimp only
      generalize wr.drew = w8 at *
      go_wp2_with fail
      refine (append_ok HD1.out (by have := HD.out.2.2.2.2.1; omega) xa xc b (H.out.1.upd HU1.out (fun _ _ _ h => h)) (fun x hx h0 e => by
        have h1 := H.out.2.1 x hx h0
        have h2 : F lb := by obtain ⟨lv, G, _, _, _, _, _, _, hF⟩ := HD1.out; exact (hF lb).2 (.inl rfl)
        have := HD.out.2.2.1 lb h2
        omega) HD.out.2.2.2.1).mono ?_
      rintro e w9 ⟨rfl, hp⟩
      dsimp only
      rw [append_dead Hd.out.2] at hp ⊢
      dsimp only at hp ⊢
      obtain ⟨F9, g1, g2, g3⟩ := hp
      have hF9 : ∀ k, F9 k → w.heap.size ≤ k := fun k hk => by
        rcases g3 k hk with h | h
        · exact HD.out.2.2.1 k h
        · have := HU1.out.size; omega
      have H9 := Lib.hid (And.intro g1 (And.intro (HU1.out.then g2 (fun k hk => .inr (HD.out.2.2.1 k hk))) hF9))
      clear g1 g2 g3 hF9
      obtain ⟨G9, hDG9, _⟩ := H9.out.1.disk
      have hdd9 := dead_disk hDG9
      rw [Hd.out.1] at hdd9
      have Hdd9 := Lib.hid hdd9
      clear hdd9 hDG9
      go_wp2_with fail
      refine Hdd9.out.mono ?_
      rintro e w10 ⟨rfl, rfl⟩
      dsimp only
      go_wp2_with fail
      refine (sync_ok H9.out.1 (by have := HD.out.2.2.2.2.1; omega)).mono ?_
      rintro e w10 ⟨rfl, hp⟩
      dsimp only
      rw [sync_dead Hd.out.2] at hp ⊢
      dsimp only at hp ⊢
      obtain ⟨F10, g1, g2, g3⟩ := hp
      have H10 := Lib.hid (And.intro g1 (And.intro (H9.out.2.1.then g2 (fun k hk => .inr (H9.out.2.2 k hk))) (fun k (hk : F10 k) => (g3 k hk).elim (fun h => H9.out.2.2 k h) (fun h => Nat.le_trans H9.out.2.1.size h))))
      clear g1 g2 g3
      go_wp2_with fail
      refine (trim_ok H10.out.1 (by have := HD.out.2.2.2.2.1; omega) 0 (by decide)).mono ?_
      rintro e w11 ⟨rfl, hp⟩
      dsimp only
      rw [trim_dead Hd.out.2] at hp ⊢
      dsimp only at hp ⊢
      obtain ⟨F11, g1, g2, g3⟩ := hp
      obtain ⟨lv, G0, hOk, hC, hM, hD0, hG0, hlv, hF0⟩ := g1
      have hroom := room_ok hC hOk
      rw [Hc.out.2.2.2.1] at hroom
      have hdrw : Upd (fun _ => False) w11 w11.drew := (Upd.refl _ w11).drew
      have hlast := last_ok9 (hC.upd hdrw (fun h => h))
      have hsync := synced_ok9 (hC.upd hdrw (fun h => h))
      have hfirst := first_ok (hC.upd hdrw (fun h => h)) (hM.upd hdrw (fun _ _ h => h)) hOk
      rw [Hc.out.2.2.2.2.1] at hlast
      rw [Hc.out.2.2.2.2.2] at hsync
      rw [HD.out.2.2.2.2.2.1] at hfirst
      have H11 := Lib.hid (And.intro hroom (And.intro hlast (And.intro hsync (And.intro hfirst (((H10.out.2.1.then g2 (fun k hk => .inr (H10.out.2.2 k hk)))).trans hdrw)))))
      clear g2 g3 hOk hC hM hD0 hG0 hlv hF0 hroom hdrw hlast hsync hfirst
      go_wp2_with fail
      refine H11.out.1.mono ?_
      rintro e w12 ⟨rfl, rfl⟩
      dsimp only
      go_wp2_with fail
      refine H11.out.2.1.mono ?_
      rintro e w12 ⟨rfl, rfl⟩
      dsimp only
      go_wp2_with fail
      refine H11.out.2.2.1.mono ?_
      rintro e w12 ⟨rfl, rfl⟩
      dsimp only
      go_wp2_with fail
      refine H11.out.2.2.2.1.mono ?_
      rintro e w12 ⟨rfl, rfl⟩
      dsimp only
      go_wp2_with fail
      go_ret
      exact ⟨rfl, H11.out.2.2.2.2.below0⟩
end Go.Proofs.Ytocameknhglklaa
