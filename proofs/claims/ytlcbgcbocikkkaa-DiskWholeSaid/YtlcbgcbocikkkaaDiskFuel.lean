/- The walk of DiskFuel. -/
import Derived.Test.YtlcbgcbocikkkaaLaw2a
namespace Go.Proofs.Ytlcbgcbocikkkaa
open Go.RowKit
set_option linter.unusedSimpArgs false
set_option maxRecDepth 100000

theorem Sees.cell {w : World} {n c : Nat} {xo : Option Addr} {xs : List Value} (h : Sees w 1 (.slice xo n c) n xs) (k : Nat) (hk : k < n) {v : Value} (hv : xs[k]? = some v) :
    ∃ b off, xo = some ⟨b, off, none⟩ ∧ w.cell? ⟨b, off + k, none⟩ = some v := by
  obtain ⟨_, _, x, c', e, hc⟩ := h
  cases e
  obtain ⟨b, off, rfl, hr⟩ := hc (by omega)
  exact ⟨b, off, rfl, hr k v hv⟩

/-- The disk behind k writes and flushes, with n as its fuel at first. -/
def FuelD (n k : Nat) (D : DSt) : Prop :=
  D.secs.length = 3 ∧ D.waits.length ≤ n ∧ (k ≤ n → D.dead = false ∧ D.fuel = (n : Int) - k) ∧ (n < k → D.dead = true)
theorem FuelD.write {n k : Nat} {D : DSt} (h : FuelD n k D) (i : Int) (h0 : 0 ≤ i) (h1 : i < 3) (hw : D.waits.length ≤ k) : ∃ D', D.write i [120] = (D', if k < n then 0 else 10) ∧ FuelD n (k + 1) D' ∧ D'.dead = decide (n ≤ k) ∧ D'.waits.length ≤ k + 1 := by
  obtain ⟨a, b, c, d⟩ := h
  by_cases hk : k < n
  · obtain ⟨e, f⟩ := c (by omega)
    refine ⟨{ D with waits := D.waits ++ [(i.toNat, pad [120])], fuel := burnt D.fuel }, by rw [if_pos hk]; exact DSt.write_eq e h0 (by omega) (by decide) (by omega), ⟨a, by simp; omega, fun _ => ⟨e, ?_⟩, fun h => by omega⟩, by rw [e]; simp; omega, by simp; omega⟩
    show burnt D.fuel = _
    rw [burnt, if_pos (by omega)]; omega
  · by_cases hk2 : k = n
    · obtain ⟨e, f⟩ := c (by omega)
      refine ⟨{ D with dead := true }, ?_, ⟨a, b, fun h => by omega, fun _ => rfl⟩, by simp; omega, by show D.waits.length ≤ _; omega⟩
      rw [DSt.write, if_neg (by rw [e]; decide), if_neg (by omega), if_neg (by decide), if_pos (by omega), if_neg hk]
    · have e := d (by omega)
      refine ⟨D, by rw [DSt.write, if_pos e, if_neg hk], ⟨a, b, fun h => by omega, fun _ => e⟩, by rw [e]; simp; omega, by omega⟩
theorem FuelD.flush {n k : Nat} {D : DSt} (h : FuelD n k D) (hw : D.waits.length ≤ k) : ∃ D', D.flush = (D', if k < n then 0 else 10) ∧ FuelD n (k + 1) D' ∧ D'.dead = decide (n ≤ k) ∧ D'.waits.length ≤ k + 1 := by
  obtain ⟨a, b, c, d⟩ := h
  by_cases hk : k < n
  · obtain ⟨e, f⟩ := c (by omega)
    refine ⟨{ D with secs := done D.secs D.waits, waits := [], fuel := burnt D.fuel }, by rw [if_pos hk]; exact DSt.flush_eq e (by omega), ⟨by show (done D.secs D.waits).length = 3; rw [done_length, a], by simp, fun _ => ⟨e, ?_⟩, fun h => by omega⟩, by rw [e]; simp; omega, by simp⟩
    show burnt D.fuel = _
    rw [burnt, if_pos (by omega)]; omega
  · by_cases hk2 : k = n
    · obtain ⟨e, f⟩ := c (by omega)
      refine ⟨{ D with dead := true }, ?_, ⟨a, b, fun h => by omega, fun _ => rfl⟩, by simp; omega, by show D.waits.length ≤ _; omega⟩
      rw [DSt.flush, if_neg (by rw [e]; decide), if_pos (by omega), if_neg hk]
    · have e := d (by omega)
      exact ⟨D, by rw [DSt.flush, if_pos e, if_neg hk], ⟨a, b, fun h => by omega, fun _ => e⟩, by rw [e]; simp; omega, by omega⟩

/-- In the middle of the loop. -/
def FuelR (w0 : World) (b n k : Nat) (wr : World) : Prop :=
  ∃ D F, DiskAt wr b D F ∧ Upd (fun _ => False) w0 wr ∧ (∀ j, F j → w0.heap.size ≤ j) ∧ FuelD n k D ∧ D.waits.length ≤ k

set_option maxHeartbeats 2000000 in
theorem diskFuel_walk (n : Nat) (hn : n ≤ 255) (ka : Option Addr) (kc : Nat) (kinds : List Bool) (w : World) (hk : Sees w 1 (.slice ka kinds.length kc) kinds.length (boolsV kinds)) :
    Calls Try.prog 4 #[.int .u8 n, .slice ka kinds.length kc] w fun e w' => e = .returned (.bool true) ∧ Below w.heap.size w w' := by
  have kcv := fun (w : World) (C : Array Value) (n c : Nat) => Lib.run_convert_bytes_const (P := Try.prog) w 22 5 C n c Try.underlying22 Try.underlying5
  have hn2 : (n : Int) ≤ 255 := by omega
  have hm : (kinds.length : Int) ≤ 9223372036854775807 := by have := hk.2.1; unfold maxLen at this; omega
  have Hk := Lib.hid hk
  clear hk hn
  go_enter Try.func4, Try.ntmps4
  go_wp2_with fail
  refine (fixed_ok w).mono ?_
  rintro e w0 ⟨rfl, hu0⟩
  dsimp only
  go_wp2_with fail
  refine (new_disk 3 w0).mono ?_
  rintro e w1 ⟨b, F, rfl, hD, hu, hF⟩
  dsimp only
  go_wp2_with fail
  refine (fuel_disk hD n (by omega)).mono ?_
  rintro e w2 ⟨rfl, hD2, hu2⟩
  dsimp only
  have hR0 : FuelR w b n 0 w2 := ⟨_, F, hD2, (hu0.trans hu).then hu2 (fun i hi => .inr (Nat.le_trans hu0.size (hF i hi))), fun j hj => Nat.le_trans hu0.size (hF j hj), ⟨rfl, by simp [DSt.new, DSt.setFuel], fun _ => ⟨rfl, by show max (n : Int) (-1) = _; omega⟩, fun h => by omega⟩, by simp [DSt.new, DSt.setFuel]⟩
  clear hD hu hF hD2 hu2
  go_wp2_with fail
  go_loopw [6] (fun v wr => ∃ k : Nat, k ≤ kinds.length ∧ v = .int .i64 k ∧ FuelR w b n k wr) (fun v _ => kinds.length - (intOf v).toNat)
  case atStart => exact ⟨0, Nat.zero_le _, rfl, hR0⟩
  case round =>
    clear hR0
    obtain ⟨k, hkl, rfl, D, F, hD, hU, hF, hf, hwk⟩ := hrel
    have h3 := hf.1
    have hwn := hf.2.1
    by_cases hlt : k < kinds.length
    · have hlt' : (k : Int) < (kinds.length : Int) := by omega
      obtain ⟨kb, ko, rfl, hc⟩ := Sees.cell Hk.out k hlt (v := .bool kinds[k]) (by simp [boolsV, hlt])
      have hkb := World.block_lt_of_cell? _ _ hc
      have hcr : wr.cell? ⟨kb, ko + k, none⟩ = some (.bool kinds[k]) := hU.cell_some hc (fun h => h)
      have hFk : ∀ j, F j → j < wr.heap.size := hD.lt
      clear hc
      generalize hkv : kinds[k] = kv at hcr
      have Hf := Lib.hid hf
      clear hf hkv
      cases kv with
      | true =>
        have hr0 : 0 ≤ (k : Int) % 3 := by omega
        obtain ⟨D', hw1, hf', hd', hw'⟩ := Hf.out.write ((k : Int) % 3) (by omega) (by omega) hwk
        have Hfin : Hid (∀ w', (∃ F', DiskAt w' b D' F' ∧ Upd F (wr.alloc (.cells #[.int .u8 120] 5 (1, 2))) w' ∧ (∀ j, F' j → F j ∨ (wr.alloc (.cells #[.int .u8 120] 5 (1, 2))).heap.size ≤ j)) → FuelR w b n (k + 1) w') := by
          rintro w' ⟨F', a1, a2, a3⟩
          exact ⟨D', F', a1, (hU.alloc _).then a2 (fun i hi => .inr (hF i hi)), fun j hj => (a3 j hj).elim (hF j) (fun h => Nat.le_trans (hU.alloc _).size h), hf', hw'⟩
        have Hd := Lib.hid hd'
        by_cases hkn : k < n
        · have hkn' : (k : Int) < (n : Int) := by omega
          rw [if_pos hkn] at hw1
          have HX : Hid (Calls Try.prog 17 #[.pointer (some ⟨b, 0, none⟩), .int .i64 ((k : Int) % 3), .slice (some ⟨wr.heap.size, 0, none⟩) 1 1] (wr.alloc (.cells #[.int .u8 120] 5 (1, 2))) fun e w' => e = .returned (.int .i64 0) ∧ ∃ F', DiskAt w' b D' F' ∧ Upd F (wr.alloc (.cells #[.int .u8 120] 5 (1, 2))) w' ∧ (∀ j, F' j → F j ∨ (wr.alloc (.cells #[.int .u8 120] 5 (1, 2))).heap.size ≤ j)) :=
            write_disk (hD.upd ((Upd.refl (fun _ => False) wr).alloc _) (fun _ _ h => h)) _ _ _ [120] (sees_marked wr [120] 5 (1, 2) (by decide)) (fun x hx _ h => by cases hx; exact Nat.lt_irrefl _ (hFk _ h)) (by omega) hw1
          clear hw1 hU hF hD hf' hw' Hf hd' hFk
          go_wp2_with fail
          refine HX.out.mono ?_
          rintro e w3 ⟨rfl, h3⟩
          dsimp only
          have hR := Hfin.out w3 h3
          obtain ⟨F3, a1, _⟩ := h3
          have HR := Lib.hid hR
          have Hds := dead_disk a1
          rw [Hd.out, show decide (n ≤ k) = false by simp; omega] at Hds
          clear hR a1
          go_wp2_with fail
          refine Hds.mono ?_
          rintro e w4 ⟨rfl, rfl⟩
          dsimp only
          go_wp2_with fail
          exact ⟨⟨k + 1, by omega, by go_num, HR.out⟩, by simp [intOf]; omega⟩
        · have hkn' : (n : Int) ≤ (k : Int) := by omega
          rw [if_neg hkn] at hw1
          have HX : Hid (Calls Try.prog 17 #[.pointer (some ⟨b, 0, none⟩), .int .i64 ((k : Int) % 3), .slice (some ⟨wr.heap.size, 0, none⟩) 1 1] (wr.alloc (.cells #[.int .u8 120] 5 (1, 2))) fun e w' => e = .returned (.int .i64 10) ∧ ∃ F', DiskAt w' b D' F' ∧ Upd F (wr.alloc (.cells #[.int .u8 120] 5 (1, 2))) w' ∧ (∀ j, F' j → F j ∨ (wr.alloc (.cells #[.int .u8 120] 5 (1, 2))).heap.size ≤ j)) :=
            write_disk (hD.upd ((Upd.refl (fun _ => False) wr).alloc _) (fun _ _ h => h)) _ _ _ [120] (sees_marked wr [120] 5 (1, 2) (by decide)) (fun x hx _ h => by cases hx; exact Nat.lt_irrefl _ (hFk _ h)) (by omega) hw1
          clear hw1 hU hF hD hf' hw' Hf hd' hFk
          go_wp2_with fail
          refine HX.out.mono ?_
          rintro e w3 ⟨rfl, h3⟩
          dsimp only
          have hR := Hfin.out w3 h3
          obtain ⟨F3, a1, _⟩ := h3
          have HR := Lib.hid hR
          have Hds := dead_disk a1
          rw [Hd.out, show decide (n ≤ k) = true by simp; omega] at Hds
          clear hR a1
          go_wp2_with fail
          refine Hds.mono ?_
          rintro e w4 ⟨rfl, rfl⟩
          dsimp only
          go_wp2_with fail
          exact ⟨⟨k + 1, by omega, by go_num, HR.out⟩, by simp [intOf]; omega⟩
      | false =>
        obtain ⟨D', hw1, hf', hd', hw'⟩ := Hf.out.flush hwk
        have Hfin : Hid (∀ w', (∃ F', DiskAt w' b D' F' ∧ Upd F wr w' ∧ (∀ j, F' j → F j ∨ wr.heap.size ≤ j)) → FuelR w b n (k + 1) w') := by
          rintro w' ⟨F', a1, a2, a3⟩
          exact ⟨D', F', a1, hU.then a2 (fun i hi => .inr (hF i hi)), fun j hj => (a3 j hj).elim (hF j) (fun h => Nat.le_trans hU.size h), hf', hw'⟩
        have Hd := Lib.hid hd'
        by_cases hkn : k < n
        · have hkn' : (k : Int) < (n : Int) := by omega
          rw [if_pos hkn] at hw1
          have HX : Hid (Calls Try.prog 18 #[.pointer (some ⟨b, 0, none⟩)] wr fun e w' => e = .returned (.int .i64 0) ∧ ∃ F', DiskAt w' b D' F' ∧ Upd F wr w' ∧ (∀ j, F' j → F j ∨ wr.heap.size ≤ j)) :=
            (flush_disk hD (by omega) hw1).mono fun e w' ⟨he, a1, a2⟩ => ⟨he, F, a1, a2, fun j hj => .inl hj⟩
          clear hw1 hU hF hD hf' hw' Hf hd' hFk
          go_wp2_with fail
          refine HX.out.mono ?_
          rintro e w3 ⟨rfl, h3⟩
          dsimp only
          have hR := Hfin.out w3 h3
          obtain ⟨F3, a1, _⟩ := h3
          have HR := Lib.hid hR
          have Hds := dead_disk a1
          rw [Hd.out, show decide (n ≤ k) = false by simp; omega] at Hds
          clear hR a1
          go_wp2_with fail
          refine Hds.mono ?_
          rintro e w4 ⟨rfl, rfl⟩
          dsimp only
          go_wp2_with fail
          exact ⟨⟨k + 1, by omega, by go_num, HR.out⟩, by simp [intOf]; omega⟩
        · have hkn' : (n : Int) ≤ (k : Int) := by omega
          rw [if_neg hkn] at hw1
          have HX : Hid (Calls Try.prog 18 #[.pointer (some ⟨b, 0, none⟩)] wr fun e w' => e = .returned (.int .i64 10) ∧ ∃ F', DiskAt w' b D' F' ∧ Upd F wr w' ∧ (∀ j, F' j → F j ∨ wr.heap.size ≤ j)) :=
            (flush_disk hD (by omega) hw1).mono fun e w' ⟨he, a1, a2⟩ => ⟨he, F, a1, a2, fun j hj => .inl hj⟩
          clear hw1 hU hF hD hf' hw' Hf hd' hFk
          go_wp2_with fail
          refine HX.out.mono ?_
          rintro e w3 ⟨rfl, h3⟩
          dsimp only
          have hR := Hfin.out w3 h3
          obtain ⟨F3, a1, _⟩ := h3
          have HR := Lib.hid hR
          have Hds := dead_disk a1
          rw [Hd.out, show decide (n ≤ k) = true by simp; omega] at Hds
          clear hR a1
          go_wp2_with fail
          refine Hds.mono ?_
          rintro e w4 ⟨rfl, rfl⟩
          dsimp only
          go_wp2_with fail
          exact ⟨⟨k + 1, by omega, by go_num, HR.out⟩, by simp [intOf]; omega⟩
    · obtain rfl : k = kinds.length := by omega
      obtain ⟨r, bs, hrd, hr10⟩ : ∃ r bs, D.read 0 = (bs, r) ∧ ((r == 10) = decide ((n : Int) < (kinds.length : Int))) := by
        by_cases h : n < kinds.length
        · exact ⟨10, [], by rw [DSt.read, if_pos (hf.2.2.2 h)], by rw [beq_self_eq_true]; simp; omega⟩
        · exact ⟨0, _, DSt.read_eq (hf.2.2.1 (by omega)).1 (by omega) (by omega), by simp; omega⟩
      have Hrd := read_disk hD (by omega) 0 hrd
      have Hs := Lib.hid (And.intro h3 hwn)
      have HD := Lib.hid hD
      have HU := Lib.hid hU
      clear hf hrd h3 hwn hwk hD hU
      go_wp2_with fail
      refine Hrd.mono ?_
      rintro e w1 ⟨xa, xc, rfl, _, hu1, _⟩
      dsimp only
      have hD1 := HD.out.upd hu1 (fun _ _ h => h)
      have hU1 := HU.out.trans hu1
      go_wp2_with fail
      refine (crash_disk hD1 (by have := Hs.out.2; omega) none 0 [] (Sees.zero _ _ _ _) (fun x hx => by cases hx)).mono ?_
      rintro e w3 ⟨rfl, hD3, hu3⟩
      dsimp only
      have hU3 := hU1.then hu3 (fun i hi => .inr (hF i hi))
      clear hD1 hU1 hu1 hu3
      have hF3 := hD3.lt
      have h33 : (D.crash []).secs.length = 3 := by show (done _ _).length = 3; rw [done_length]; exact Hs.out.1
      have H33 := Lib.hid h33
      clear h33
      go_wp2_with fail
      refine (write_disk (hD3.upd ((Upd.refl (fun _ => False) w3).alloc _) (fun _ _ h => h)) 0 _ _ [120] (sees_marked w3 [120] 5 (1, 2) (by decide)) (fun x hx _ h => by cases hx; exact Nat.lt_irrefl _ (hF3 _ h)) (by show 0 < _; decide) (DSt.write_eq rfl (by omega) (by rw [H33.out]; decide) (by decide) (show (-1 : Int) ≠ 0 by decide))).mono ?_
      rintro e w4 ⟨rfl, F4, hD4, hu4, hF4⟩
      dsimp only
      have hU4 := (hU3.alloc (.cells #[.int .u8 120] 5 (1, 2))).then hu4 (fun i hi => .inr (hF i hi))
      have hG4 : ∀ j, F4 j → w.heap.size ≤ j := fun j hj => (hF4 j hj).elim (hF j) (fun h => Nat.le_trans (hU3.alloc _).size h)
      clear hU3 hu4 hF4 hD3
      go_wp2_with fail
      refine (flush_disk hD4 (by show 1 < _; decide) (DSt.flush_eq rfl (show burnt (-1) ≠ 0 by decide))).mono ?_
      rintro e w5 ⟨rfl, hD5, hu5⟩
      dsimp only
      have hU5 := hU4.then hu5 (fun i hi => .inr (hG4 i hi))
      clear hU4 hu5 hD4
      go_wp2_with fail
      refine (dead_disk hD5).mono ?_
      rintro e w6 ⟨rfl, rfl⟩
      dsimp only
      go_wp2_with fail
      go_ret
      exact ⟨rfl, hU5.below0⟩
end Go.Proofs.Ytlcbgcbocikkkaa
