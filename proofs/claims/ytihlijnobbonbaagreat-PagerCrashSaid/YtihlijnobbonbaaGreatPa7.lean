/- Package pager: Make, on a fresh disk: a pager that lives. -/
import Derived.Test.YtihlijnobbonbaaGreatPa6
namespace Go.Proofs.YtihlijnobbonbaaGreat
open Go Go.RowKit
set_option linter.unusedSimpArgs false
set_option linter.unusedVariables false
set_option maxRecDepth 100000

theorem zeros_done (ws : List (Nat × Bytes)) : ∀ (S : List Bytes), (∀ x ∈ S, x = zeros512) → (∀ p ∈ ws, p.2 = zeros512) → ∀ x ∈ done S ws, x = zeros512 := by
  induction ws with
  | nil => intro S h _; exact h
  | cons p r ih =>
    intro S h hw
    show ∀ x ∈ done (S.set p.1 p.2) r, x = zeros512
    refine ih _ (fun x hx => ?_) (fun q hq => hw q (List.mem_cons_of_mem _ hq))
    rcases List.mem_or_eq_of_mem_set hx with e | e
    · exact h x e
    · rw [e]; exact hw p (List.mem_cons_self ..)
theorem makeD_home {D : DSt} {skip : Nat} (hd : D.dead = false) (hf : D.fuel ≠ 0) (h2 : 2 ≤ skip) (hs : skip ≤ D.secs.length) (i : Nat) (hi : skip ≤ i) : (makeD D 0 skip).1.secs[i]? = (done D.secs D.waits)[i]? := by
  have e := DSt.flush_eq hd hf
  rw [makeD, e]
  simp only [if_true]
  exact (mark_frame (LSt.made 0 skip) { D with secs := done D.secs D.waits, waits := [], fuel := burnt D.fuel } hd skip (by show 0 < skip; omega) (by show 0 < (done D.secs D.waits).length; rw [done_length]; omega) (by intro p hp; cases hp)).2.2 i hi
/-- The disk, zeros laid on all blocks from skip on. -/
def MakeZ (w wr : World) (db S k : Nat) (F0 : Nat → Prop) (D : DSt) (F : Nat → Prop) : Prop := MakeR w wr db S k F0 D F ∧ (∀ x ∈ D.secs, x = zeros512) ∧ (∀ p ∈ D.waits, p.2 = zeros512)
/-- A new pager. -/
def PgNew (w : World) (F0 : Nat → Prop) (db skip N pb : Nat) (w' : World) : Prop :=
  ∃ (lb fb : Nat) (F' : Nat → Prop) (D : DSt), PgAt w' pb db lb fb skip none false (LSt.made 0 skip) D [] F' ∧ PInv (LSt.made 0 skip) D skip N 0 [] [] ∧ D.fuel = -1 ∧ Upd F0 w w' ∧ (∀ q, ownP pb fb F' q → F0 q ∨ w.heap.size ≤ q)
set_option maxHeartbeats 2000000 in
theorem pmake_ok {w : World} {db : Nat} {D : DSt} {F : Nat → Prop} (hD : DiskAt w db D F) (hdead : D.dead = false) (hfuel : D.fuel = -1) (hwt : D.waits = []) (hzr : ∀ x ∈ D.secs, x = zeros512) (skip N : Nat) (h2 : 2 ≤ skip) (hN : 1 ≤ N) (hsz : D.secs.length = skip + N) :
    Calls Tryz.prog 11 #[.pointer (some ⟨db, 0, none⟩), .int .i64 skip] w fun e w' => ∃ pb, e = .returned (.tuple #[.pointer (some ⟨pb, 0, none⟩), .int .i64 0]) ∧ PgNew w F db skip N pb w' := by
  have hmx := hD.1.most
  obtain ⟨S, hS⟩ : ∃ S, skip + N = S := ⟨_, rfl⟩
  have hchk := check_pg hD skip h2 (by omega)
  have HQ : Hid (MakeZ w w db S 0 F D F) := ⟨⟨hD, hdead, hfuel, hsz.trans hS, by rw [hwt]; exact Nat.le_refl _, Upd.refl _ _, fun q hq => .inl hq⟩, hzr, by rw [hwt]; intro p hp; cases hp⟩
  have H := Lib.hid (And.intro hchk (And.intro h2 (And.intro hN (And.intro hS (show S ≤ 4096 by omega)))))
  have bS : (S : Int) ≤ 4096 := by omega
  have bs : (skip : Int) ≤ (S : Int) := by omega
  have bs2 : (2 : Int) ≤ (skip : Int) := by omega
  have hmm := @run_makeMap Tryz.prog
  clear hD hdead hfuel hwt hzr h2 hN hsz hmx hS hchk
  go_enter Tryz.func11, Tryz.ntmps11
  go_wp2_with fail
  refine H.out.1.mono ?_
  rintro e w1 ⟨rfl, rfl⟩
  dsimp only
  go_wp2_with fail
  go_loopw [7] (fun i wr => ∃ (k : Nat) (D : DSt) (F1 : Nat → Prop), skip ≤ k ∧ k ≤ S ∧ i = .int .i64 k ∧ Hid (MakeZ w wr db S (k - skip) F D F1)) (fun i _ => S - (intOf i).toNat)
  case atStart => exact ⟨skip, _, _, Nat.le_refl _, by omega, rfl, by rw [Nat.sub_self]; exact HQ⟩
  case round =>
    clear HQ
    obtain ⟨k, D1, F1, hk, hk2, rfl, HZ⟩ := hrel
    have HR := Lib.hid HZ.out.1
    have HZ2 := Lib.hid HZ.out.2
    have hsd := size_disk HR.out.1
    rw [HR.out.2.2.2.1] at hsd
    have Hsd := Lib.hid hsd
    clear hsd
    by_cases hlt : k < S
    · have hltI : (k : Int) < (S : Int) := by omega
      go_wp2_with fail
      refine Hsd.out.mono ?_
      rintro e w2 ⟨rfl, rfl⟩
      dsimp only
      have hwe := DSt.write_eq (D := D1) (i := (k : Int)) (data := []) HR.out.2.1 (by omega) (by rw [HR.out.2.2.2.1]; omega) (by simp) (by rw [HR.out.2.2.1]; decide)
      have hwd := write_disk HR.out.1 (k : Int) none 0 [] (Sees.zero _ _ _ _) (fun x hx => by cases hx) (by have h1 := HR.out.2.2.2.2.1; have h2 := H.out.2.2.2.2; omega) hwe
      have Hwd := Lib.hid hwd
      clear hwe hwd
      go_wp2_with fail
      refine Hwd.out.mono ?_
      rintro e w3 ⟨rfl, F3, hD3, hu3, hF3⟩
      dsimp only
      have HR3 : Hid (∃ D3 : DSt, MakeZ w w3 db S (k + 1 - skip) F D3 F3) := by
        obtain ⟨r1, r2, r3, r4, r5, r6, r7⟩ := HR.out
        have hz := r6.size
        refine ⟨_, ⟨hD3, r2, ?_, r4, ?_, r6.then hu3 r7, fun q hq => ?_⟩, HZ2.out.1, fun p hp => ?_⟩
        · show burnt D1.fuel = -1
          rw [r3]; rfl
        · show (D1.waits ++ [_]).length ≤ _
          rw [List.length_append]
          simp
          omega
        · rcases hF3 q hq with e | e
          · exact r7 q e
          · exact .inr (by omega)
        · rcases List.mem_append.1 hp with e | e
          · exact HZ2.out.2 p e
          · rw [List.mem_singleton] at e
            rw [e]; rfl
      obtain ⟨D3, HR3⟩ := HR3.out
      have HR3 := Lib.hid HR3
      clear hD3 hu3 hF3 HR Hwd Hsd
      go_wp2_with fail
      exact ⟨⟨k + 1, D3, F3, by omega, by omega, by go_num, HR3⟩, by simp [intOf]; omega⟩
    · obtain rfl : k = S := by omega
      clear hlt
      go_wp2_with fail
      refine Hsd.out.mono ?_
      rintro e w2 ⟨rfl, rfl⟩
      dsimp only
      go_wp2_with fail
      refine (make_live HR.out.1 0 skip H.out.2.1 (by rw [HR.out.2.2.2.1]; have := H.out.2.2.2.1; omega) (by have h1 := HR.out.2.2.2.2.1; have h2 := H.out.2.2.2.2; omega) HR.out.2.1 HR.out.2.2.1 0 (skip : Int) rfl rfl).mono ?_
      rintro e w3 ⟨lb, F3, rfl, hH, hu3, hF3, hwt3, hsl3⟩
      dsimp only
      have HM : Hid (∃ (D3 : DSt), WalAt w3 lb db (LSt.made 0 skip) D3 F3 ∧ PInv (LSt.made 0 skip) D3 skip N 0 [] [] ∧ D3.fuel = -1 ∧ Upd F w w3 ∧ (∀ q, F3 q → F q ∨ w.heap.size ≤ q)) := by
        obtain ⟨r1, r2, r3, r4, r5, r6, r7⟩ := HR.out
        have hz := r6.size
        have hsl := hsl3.trans r4
        have hSk := H.out.2.2.2.1
        have h2 := H.out.2.1
        refine ⟨_, hH.wal, ⟨hH.inv, rfl, rfl, by omega, (by rw [hwt3]; intro p hp; cases hp), by rw [hwt3]; exact Nat.zero_le _, fun b hb => ?_, fun b => rfl, (fun c hc => by cases hc), EsOk.nil N⟩, hH.fuel, r6.then hu3 r7, fun q hq => ?_⟩
        · rw [makeD_home r2 (by rw [r3]; decide) (by omega) (by omega) (skip + b) (by omega)]
          have hl : skip + b < (done D1.secs D1.waits).length := by rw [done_length]; omega
          rw [List.getElem?_eq_getElem hl]
          exact congrArg some (zeros_done D1.waits D1.secs HZ2.out.1 HZ2.out.2 _ (List.getElem_mem hl))
        · rcases hF3 q hq with e | e
          · exact r7 q e
          · exact .inr (by omega)
      obtain ⟨D3, HM⟩ := HM.out
      have HM := Lib.hid HM
      clear hH hu3 hF3 hwt3 hsl3 HR Hsd
      go_wp2_with fail
      go_ret2
      have u1 : Upd (fun _ => False) w3 (w3.alloc (.map #[] 0)) := (Upd.refl _ _).alloc _
      have s1 : (w3.alloc (.map #[] 0)).heap.size = w3.heap.size + 1 := by simp
      have hz := HM.out.2.2.2.1.size
      have hDl := HM.out.1.lt
      have e1 : (skip : Int) - 1 = ((skip - 1 : Nat) : Int) := by have := H.out.2.1; omega
      have u2 : Upd (fun _ => False) (w3.alloc (.map #[] 0)) ((w3.alloc (.map #[] 0)).alloc (.cells #[.pointer (some ⟨db, 0, none⟩), .pointer (some ⟨lb, 0, none⟩), .int .i64 skip, .int .i64 ((skip : Int) - 1), .map (some w3.heap.size), .pointer none, .bool false] 85)) := (Upd.refl _ _).alloc _
      have m1 := MapAt.new w3
      have c1 := CellsA.new (w3.alloc (.map #[] 0)) 85 [.pointer (some ⟨db, 0, none⟩), .pointer (some ⟨lb, 0, none⟩), .int .i64 skip, .int .i64 ((skip : Int) - 1), .map (some w3.heap.size), .pointer none, .bool false]
      rw [s1] at c1
      refine ⟨w3.heap.size + 1, rfl, lb, w3.heap.size, F3, D3, ⟨?_, m1.upd u2 (fun h => h), (HM.out.1.upd u1 (fun _ _ h => h)).upd u2 (fun _ _ h => h), by omega, (fun hg => by have := hDl _ hg; omega), (fun hg => by have := hDl _ hg; omega)⟩, HM.out.2.1, HM.out.2.2.1, (HM.out.2.2.2.1.then u1 (fun _ h => h.elim)).alloc _, fun q hq => ?_⟩
      · rw [pgD, ← e1]
        exact c1
      · rcases hq with e | e | e
        · exact .inr (by omega)
        · exact .inr (by omega)
        · exact HM.out.2.2.2.2 q e
end Go.Proofs.YtihlijnobbonbaaGreat
