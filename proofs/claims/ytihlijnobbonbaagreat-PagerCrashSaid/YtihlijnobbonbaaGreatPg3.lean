/- Package pager: Make, on a fresh disk. -/
import Derived.Test.YtihlijnobbonbaaGreatPg2
import Derived.Test.YtihlijnobbonbaaGreatKLog
namespace Go.Proofs.YtihlijnobbonbaaGreat
open Go Go.RowKit
set_option linter.unusedSimpArgs false
set_option linter.unusedVariables false
set_option maxRecDepth 100000

theorem check_pg {w : World} {db : Nat} {D : DSt} {F : Nat → Prop} (hD : DiskAt w db D F) (skip : Nat) (h2 : 2 ≤ skip) (hS : skip < D.secs.length) : Calls Tryz.prog 37 #[.pointer (some ⟨db, 0, none⟩), .int .i64 skip] w fun e w' => e = .returned (.int .i64 0) ∧ w = w' := by
  have hsz := size_disk hD
  obtain ⟨S, hSS⟩ : ∃ S, D.secs.length = S := ⟨_, rfl⟩
  rw [hSS] at hsz hS
  have Hsz := Lib.hid hsz
  have q1 : decide ((skip : Int) < 2) = false := by simp; omega
  have q2 : decide (S ≤ skip) = false := by simp; omega
  clear hsz hSS hS h2 hD
  go_enter Tryz.func37, Tryz.ntmps37
  go_wp2_with fail
  refine Hsz.out.mono ?_
  rintro e w1 ⟨rfl, rfl⟩
  dsimp only
  go_wp2_with fail
  go_ret
  exact ⟨rfl, rfl⟩
/-- The disk, zeros laid on all blocks from skip on, up to i. -/
def MakeR (w wr : World) (db S k : Nat) (F0 : Nat → Prop) (D : DSt) (F : Nat → Prop) : Prop :=
  DiskAt wr db D F ∧ D.dead = false ∧ D.fuel = -1 ∧ D.secs.length = S ∧ D.waits.length ≤ k ∧ Upd F0 w wr ∧ (∀ q, F q → F0 q ∨ w.heap.size ≤ q)
/-- What Make leaves: a pager at pb on the disk at db. -/
def PgMade (w : World) (F0 : Nat → Prop) (db skip N pb : Nat) (w' : World) : Prop :=
  ∃ (lb fb : Nat) (D : DSt) (G : Nat → Prop), CellsA w' pb 85 (pgV db lb skip (skip - 1) fb none) ∧ DiskAt w' db D G ∧ D.secs.length = skip + N ∧ ¬ G pb ∧ w.heap.size ≤ pb ∧ Upd F0 w w' ∧ (∀ q, G q → F0 q ∨ w.heap.size ≤ q)
set_option maxHeartbeats 2000000 in
theorem make_pg {w : World} {db : Nat} {D : DSt} {F : Nat → Prop} (hD : DiskAt w db D F) (hdead : D.dead = false) (hfuel : D.fuel = -1) (hwt : D.waits = []) (skip N : Nat) (h2 : 2 ≤ skip) (hN : 1 ≤ N) (hsz : D.secs.length = skip + N) :
    Calls Tryz.prog 11 #[.pointer (some ⟨db, 0, none⟩), .int .i64 skip] w fun e w' => ∃ pb, e = .returned (.tuple #[.pointer (some ⟨pb, 0, none⟩), .int .i64 0]) ∧ PgMade w F db skip N pb w' := by
  have hmx := hD.1.most
  obtain ⟨S, hS⟩ : ∃ S, skip + N = S := ⟨_, rfl⟩
  have hchk := check_pg hD skip h2 (by omega)
  have HQ : Hid (MakeR w w db S 0 F D F) := ⟨hD, hdead, hfuel, hsz.trans hS, by rw [hwt]; exact Nat.le_refl _, Upd.refl _ _, fun q hq => .inl hq⟩
  have H := Lib.hid (And.intro hchk (And.intro h2 (And.intro hN (And.intro hS (show S ≤ 4096 by omega)))))
  have bS : (S : Int) ≤ 4096 := by omega
  have bs : (skip : Int) ≤ (S : Int) := by omega
  have bs2 : (2 : Int) ≤ (skip : Int) := by omega
  have hmm := @run_makeMap Tryz.prog
  clear hD hdead hfuel hwt h2 hN hsz hmx hS hchk
  go_enter Tryz.func11, Tryz.ntmps11
  go_wp2_with fail
  refine H.out.1.mono ?_
  rintro e w1 ⟨rfl, rfl⟩
  dsimp only
  go_wp2_with fail
  go_loopw [7] (fun i wr => ∃ (k : Nat) (D : DSt) (F1 : Nat → Prop), skip ≤ k ∧ k ≤ S ∧ i = .int .i64 k ∧ Hid (MakeR w wr db S (k - skip) F D F1)) (fun i _ => S - (intOf i).toNat)
  case atStart => exact ⟨skip, _, _, Nat.le_refl _, by omega, rfl, by rw [Nat.sub_self]; exact HQ⟩
  case round =>
    clear HQ
    obtain ⟨k, D1, F1, hk, hk2, rfl, HR⟩ := hrel
    have hsd := size_disk HR.out.1
    rw [HR.out.2.2.2.1] at hsd
    have Hsd := Lib.hid hsd
    clear hsd
    by_cases hlt : k < S
    · have hltI : (k : Int) < (S : Int) := by omega
      go_wp2_with fail
      refine Hsd.out.mono ?_
      rintro e w2 ⟨rfl, rfl⟩
      dsimp only
      have hwe := DSt.write_eq (D := D1) (i := (k : Int)) (data := []) HR.out.2.1 (by omega) (by rw [HR.out.2.2.2.1]; omega) (by simp) (by rw [HR.out.2.2.1]; decide)
      have hwd := write_disk HR.out.1 (k : Int) none 0 [] (Sees.zero _ _ _ _) (fun x hx => by cases hx) (by have h1 := HR.out.2.2.2.2.1; have h2 := H.out.2.2.2.2; omega) hwe
      have Hwd := Lib.hid hwd
      clear hwe hwd
      go_wp2_with fail
      refine Hwd.out.mono ?_
      rintro e w3 ⟨rfl, F3, hD3, hu3, hF3⟩
      dsimp only
      have HR3 : Hid (∃ D3 : DSt, MakeR w w3 db S (k + 1 - skip) F D3 F3) := by
        obtain ⟨r1, r2, r3, r4, r5, r6, r7⟩ := HR.out
        have hz := r6.size
        refine ⟨_, hD3, r2, ?_, r4, ?_, r6.then hu3 r7, fun q hq => ?_⟩
        · show burnt D1.fuel = -1
          rw [r3]; rfl
        · show (D1.waits ++ [_]).length ≤ _
          rw [List.length_append]
          simp
          omega
        · rcases hF3 q hq with e | e
          · exact r7 q e
          · exact .inr (by omega)
      obtain ⟨D3, HR3⟩ := HR3.out
      have HR3 := Lib.hid HR3
      clear hD3 hu3 hF3 HR Hwd Hsd
      go_wp2_with fail
      exact ⟨⟨k + 1, D3, F3, by omega, by omega, by go_num, HR3⟩, by simp [intOf]; omega⟩
    · obtain rfl : k = S := by omega
      clear hlt
      go_wp2_with fail
      refine Hsd.out.mono ?_
      rintro e w2 ⟨rfl, rfl⟩
      dsimp only
      go_wp2_with fail
      refine (make_live HR.out.1 0 skip H.out.2.1 (by rw [HR.out.2.2.2.1]; have := H.out.2.2.2.1; omega) (by have h1 := HR.out.2.2.2.2.1; have h2 := H.out.2.2.2.2; omega) HR.out.2.1 HR.out.2.2.1 0 (skip : Int) rfl rfl).mono ?_
      rintro e w3 ⟨lb, F3, rfl, hH, hu3, hF3, hwt3, hsl3⟩
      dsimp only
      have HM : Hid (∃ (D3 : DSt) (G : Nat → Prop), DiskAt w3 db D3 G ∧ D3.secs.length = k ∧ Upd F w w3 ∧ (∀ q, G q → F q ∨ w.heap.size ≤ q)) := by
        obtain ⟨G, hG, hGF⟩ := hH.wal.disk
        obtain ⟨r1, r2, r3, r4, r5, r6, r7⟩ := HR.out
        have hz := r6.size
        refine ⟨_, G, hG, hsl3.trans r4, r6.then hu3 r7, fun q hq => ?_⟩
        rcases hF3 q (hGF q hq) with e | e
        · exact r7 q e
        · exact .inr (by omega)
      obtain ⟨D3, G, HM⟩ := HM.out
      have HM := Lib.hid HM
      clear hH hu3 hF3 hwt3 hsl3 HR Hsd
      go_wp2_with fail
      go_ret2
      have u1 : Upd (fun _ => False) w3 (w3.alloc (.map #[] 0)) := (Upd.refl _ _).alloc _
      have s1 : (w3.alloc (.map #[] 0)).heap.size = w3.heap.size + 1 := by simp
      have hz := HM.out.2.2.1.size
      have hDl := HM.out.1.lt
      have e1 : (skip : Int) - 1 = ((skip - 1 : Nat) : Int) := by have := H.out.2.1; omega
      refine ⟨w3.heap.size + 1, rfl, lb, w3.heap.size, D3, G, ?_, (HM.out.1.upd u1 (fun _ _ h => h)).upd ((Upd.refl (fun _ => False) _).alloc _) (fun _ _ h => h), by rw [HM.out.2.1]; exact H.out.2.2.2.1.symm, (fun hg => by have := hDl _ hg; omega), by omega, (HM.out.2.2.1.then u1 (fun _ h => h.elim)).alloc _, HM.out.2.2.2⟩
      have c1 := CellsA.new (w3.alloc (.map #[] 0)) 85 [.pointer (some ⟨db, 0, none⟩), .pointer (some ⟨lb, 0, none⟩), .int .i64 skip, .int .i64 ((skip : Int) - 1), .map (some w3.heap.size), .pointer none, .bool false]
      rw [s1] at c1
      rw [pgV, ← e1]
      exact c1
end Go.Proofs.YtihlijnobbonbaaGreat
