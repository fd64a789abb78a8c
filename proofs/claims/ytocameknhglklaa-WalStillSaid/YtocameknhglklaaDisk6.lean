/- The disk as its callers see it: Flush, Crash, Read, Durable, Fuel. -/
import Derived.Test.YtocameknhglklaaDisk5
namespace Go.Proofs.Ytocameknhglklaa
open Go.RowKit
set_option linter.unusedSimpArgs false
set_option maxRecDepth 100000

theorem DiskAt.upd {w w' : World} {b : Nat} {D : DSt} {F G : Nat → Prop} (h : DiskAt w b D F) (hu : Upd G w w') (hFG : ∀ k, F k → ¬ G k) : DiskAt w' b D F := by
  obtain ⟨hOk, hFb, hFlt, sb, sc, scur, wv, hb, hs, hwv, hFs, hbs, hFw⟩ := h
  exact ⟨hOk, hFb, fun k hk => Nat.lt_of_lt_of_le (hFlt k hk) hu.size, sb, sc, scur, wv, hu.heap hb (hFG b hFb), ⟨hu.heap hs.1 (hFG sb hFs), hs.2⟩, hu.row hwv (fun k hk => hFG k (hFw k hk).1), hFs, hbs, hFw⟩
theorem DiskAt.lt {w : World} {b : Nat} {D : DSt} {F : Nat → Prop} (h : DiskAt w b D F) : ∀ k, F k → k < w.heap.size := h.2.2.1

/-- Out of the middle of a loop that writes sectors: a disk on which nothing waits. -/
theorem DiskAt.of_secs {w w' : World} {b sb sc : Nat} {D : DSt} {F : Nat → Prop} {s : List Bytes} {f : Int} {d : Bool} (hFlt : ∀ k, F k → k < w.heap.size) (hFb : F b) (hFs : F sb) (hbs : b ≠ sb) (hm : sc ≤ maxLen) (hsc : s.length ≤ sc) (h1 : 1 ≤ s.length) (h2 : s.length ≤ 4096) (hs : ∀ x ∈ s, x.length = 512) (hf : -1 ≤ f) (hf2 : f ≤ 9223372036854775807)
    (hD : D = ⟨s, [], f, d⟩) (n : Nat) (hn : n = s.length) (h : SecsR w b (.cells #[.slice (some ⟨sb, 0, none⟩) n sc, .slice none 0 0, .int .i64 f, .bool d] 74 (0, 0)) sb sc s w') : DiskAt w' b D F ∧ Upd F w w' := by
  obtain ⟨q1, q2, cu, q3, q4, q5⟩ := h
  subst hD
  subst hn
  refine ⟨⟨⟨h1, h2, hs, (fun p hp => by cases hp), hf, hf2⟩, hFb, fun k hk => Nat.lt_of_lt_of_le (hFlt k hk) q1.size, sb, sc, cu.toArray, .slice none 0 0, q2, ⟨q3, hsc, hm, by simpa using q4, by simpa using q5⟩, World.ownsRow_nil _ _ _ _, hFs, hbs, fun k hk => by cases hk⟩, q1.mono fun k _ hk => ?_⟩
  rcases hk with h | h
  · rw [h]; exact hFb
  · rw [h]; exact hFs

theorem flush_disk {w : World} {b : Nat} {D : DSt} {F : Nat → Prop} (hD : DiskAt w b D F) (hm : D.waits.length < 100000000000) {D' : DSt} {r : Int} (hr : D.flush = (D', r)) :
    Calls Try.prog 27 #[.pointer (some ⟨b, 0, none⟩)] w fun e w' => e = .returned (.int .i64 r) ∧ DiskAt w' b D' F ∧ Upd F w w' := by
  obtain ⟨hOk, hFb, hFlt, sb, sc, scur, wv, hb, hs, hwv, hFs, hbs, hFw⟩ := id hD
  obtain ⟨c0, c1, c2, c3⟩ := four hb
  by_cases hd : D.dead = true
  · rw [DSt.flush, if_pos hd] at hr
    cases hr
    rw [hd] at c3
    refine (flush_err b 10 w rfl (check_dead b 0 w c3)).mono ?_
    rintro e' w' ⟨rfl, rfl⟩
    exact ⟨rfl, hD, Upd.refl _ _⟩
  · have hd' : D.dead = false := by simpa using hd
    rw [hd'] at c3 hb
    rw [DSt.flush, if_neg hd] at hr
    have h1 := hOk.one
    have hchk := check_ok b _ _ _ 0 w c3 c0 (Int.le_refl _) (by omega)
    by_cases hf : D.fuel = 0
    · rw [if_pos hf] at hr
      cases hr
      refine (flush_die b _ _ _ w hf hb hchk).mono ?_
      rintro e' w' ⟨rfl, rfl⟩
      refine ⟨rfl, ⟨⟨hOk.one, hOk.most, hOk.secs, hOk.waits, hOk.fuel, hOk.fuelMax⟩, hFb, by simpa using hFlt, sb, sc, scur, wv, by rw [stored hb]; rfl, ⟨by rw [heap_setCell_other _ _ _ _ (fun e => hbs e.symm)]; exact hs.1, hs.2⟩, ?_, hFs, hbs, hFw⟩, (Upd.refl _ _).setCell _ (.inl hFb)⟩
      exact Upd.row ((Upd.refl (fun k => k = b) w).setCell _ (.inl rfl)) hwv (fun k hk e => (hFw k hk).2.1 e)
    · rw [if_neg hf] at hr
      cases hr
      obtain ⟨xa, xc, rfl⟩ := (sees_of_row hwv).shape
      refine (flush_core b sb sc xa xc D.secs D.waits D.fuel scur.toList w hb hwv (by simpa using hs.1) (by simpa using hs.2.2.2.1) hs.2.2.2.2 hs.2.1 hOk.secs hOk.waits hbs (fun x hx => by subst hx; exact (hFw _ rfl).2) hm hOk.one hOk.most hf hOk.fuelMax).mono ?_
      rintro e' w' ⟨rfl, h⟩
      have hfu := hOk.fuel
      have hfu2 := hOk.fuelMax
      exact ⟨rfl, DiskAt.of_secs hFlt hFb hFs hbs hs.2.2.1 (by rw [done_length]; exact hs.2.1) (by rw [done_length]; exact hOk.one) (by rw [done_length]; exact hOk.most) (done_ok hOk.secs (fun p hp => (hOk.waits p hp).2))
        (by unfold burnt; split <;> omega) (by unfold burnt; split <;> omega) (by rw [hd']) _ (done_length _ _).symm h⟩

theorem crash_disk {w : World} {b : Nat} {D : DSt} {F : Nat → Prop} (hD : DiskAt w b D F) (hm : D.waits.length < 100000000000) (ka : Option Addr) (kc : Nat) (keep : List Bool) (hke : Sees w 1 (.slice ka keep.length kc) keep.length (boolsV keep)) (hkF : ∀ x, ka = some x → 0 < keep.length → ¬ F x.block) :
    Calls Try.prog 24 #[.pointer (some ⟨b, 0, none⟩), .slice ka keep.length kc] w fun e w' => e = .returned (.tuple #[]) ∧ DiskAt w' b (D.crash keep) F ∧ Upd F w w' := by
  obtain ⟨hOk, hFb, hFlt, sb, sc, scur, wv, hb, hs, hwv, hFs, hbs, hFw⟩ := id hD
  obtain ⟨xa, xc, rfl⟩ := (sees_of_row hwv).shape
  refine (crash_core b sb sc xa xc D.secs D.waits D.fuel D.dead ka kc keep scur.toList w hb hwv (by simpa using hs.1) (by simpa using hs.2.2.2.1) hs.2.2.2.2 hs.2.1 hOk.secs hOk.waits hbs (fun x hx => by subst hx; exact (hFw _ rfl).2) hm hke
    (fun x hx h0 => ⟨fun e => hkF x hx h0 (by rw [e]; exact hFb), fun e => hkF x hx h0 (by rw [e]; exact hFs)⟩)).mono ?_
  rintro e' w' ⟨rfl, h⟩
  exact ⟨rfl, DiskAt.of_secs hFlt hFb hFs hbs hs.2.2.1 (by rw [done_length]; exact hs.2.1) (by rw [done_length]; exact hOk.one) (by rw [done_length]; exact hOk.most) (done_ok hOk.secs (fun p hp => (hOk.waits p (kept_mem p hp)).2))
    (by omega) (by omega) rfl _ (done_length _ _).symm h⟩

theorem read_disk {w : World} {b : Nat} {D : DSt} {F : Nat → Prop} (hD : DiskAt w b D F) (hm : D.waits.length < 100000000000) (i : Int) {bs : Bytes} {r : Int} (hr : D.read i = (bs, r)) :
    Calls Try.prog 46 #[.pointer (some ⟨b, 0, none⟩), .int .i64 i] w fun e w' => ∃ xa xc, e = .returned (.tuple #[.slice xa bs.length xc, .int .i64 r]) ∧
      w'.ownsRow w.heap.size 5 1 (.slice xa bs.length xc) bs.length (bvs bs) ∧ Upd (fun _ => False) w w' ∧ (r ≠ 0 → bs = [] ∧ xa = none ∧ xc = 0) ∧ (r = 0 → bs.length = 512) := by
  obtain ⟨hOk, hFb, hFlt, sb, sc, scur, wv, hb, hs, hwv, hFs, hbs, hFw⟩ := id hD
  obtain ⟨c0, c1, c2, c3⟩ := four hb
  by_cases hd : D.dead = true
  · rw [DSt.read, if_pos hd] at hr
    cases hr
    rw [hd] at c3
    refine (read_err b i 10 w rfl (check_dead b i w c3)).mono ?_
    rintro e' w' ⟨rfl, rfl⟩
    exact ⟨none, 0, rfl, World.ownsRow_nil _ _ _ _, Upd.refl _ _, fun _ => ⟨rfl, rfl, rfl⟩, fun h => by cases h⟩
  · have hd' : D.dead = false := by simpa using hd
    rw [hd'] at c3 hb
    rw [DSt.read, if_neg hd] at hr
    by_cases hi : i < 0 ∨ (D.secs.length : Int) ≤ i
    · rw [if_pos hi] at hr
      cases hr
      have hchk : Calls Try.prog 50 #[.pointer (some ⟨b, 0, none⟩), .int .i64 i] w fun e w' => e = .returned (.int .i64 1) ∧ w = w' := by
        rcases hi with hi | hi
        · exact check_neg b i w c3 hi
        · by_cases h0 : i < 0
          · exact check_neg b i w c3 h0
          · exact check_big b _ _ _ i w c3 c0 (by omega) hi
      refine (read_err b i 1 w rfl hchk).mono ?_
      rintro e' w' ⟨rfl, rfl⟩
      exact ⟨none, 0, rfl, World.ownsRow_nil _ _ _ _, Upd.refl _ _, fun _ => ⟨rfl, rfl, rfl⟩, fun h => by cases h⟩
    · rw [if_neg hi] at hr
      cases hr
      obtain ⟨j, rfl⟩ : ∃ j : Nat, i = j := ⟨i.toNat, by omega⟩
      have hj : j < D.secs.length := by omega
      obtain ⟨xa, xc, rfl⟩ := (sees_of_row hwv).shape
      have hlen : ∀ (W : List (Nat × Bytes)) (x : Bytes), (∀ p ∈ W, p.2.length = 512) → x.length = 512 → (lastOf W j x).length = 512 := by
        intro W
        induction W with
        | nil => intro x _ hx; exact hx
        | cons p r ih =>
          intro x hW hx
          rw [lastOf, List.foldl_cons]
          refine ih _ (fun q hq => hW q (List.mem_cons_of_mem _ hq)) ?_
          split
          · exact hW p (List.mem_cons_self ..)
          · exact hx
      have hl := hlen D.waits (D.secs.getD j []) (fun p hp => (hOk.waits p hp).2) (by simp [List.getD, hj]; exact hOk.secs _ (List.getElem_mem hj))
      refine (read_core b sb sc xa xc D.secs D.waits D.fuel scur.toList j w hb hwv (by simpa using hs.1) (by simpa using hs.2.2.2.1) hs.2.2.2.2 hs.2.1 hOk.secs hOk.waits hm hj).mono ?_
      rintro e' w' ⟨x', c', rfl, hown, hu⟩
      rw [show ((j : Int).toNat) = j by omega]
      refine ⟨some x', c', by rw [hl], by rw [hl]; exact hown, hu, fun h => absurd rfl h, fun _ => hl⟩

theorem fuel_disk {w : World} {b : Nat} {D : DSt} {F : Nat → Prop} (hD : DiskAt w b D F) (n : Int) (hn : n ≤ 9223372036854775807) :
    Calls Try.prog 26 #[.pointer (some ⟨b, 0, none⟩), .int .i64 n] w fun e w' => e = .returned (.tuple #[]) ∧ DiskAt w' b (D.setFuel n) F ∧ Upd F w w' := by
  obtain ⟨hOk, hFb, hFlt, sb, sc, scur, wv, hb, hs, hwv, hFs, hbs, hFw⟩ := id hD
  refine (fuel_ok b n _ _ _ _ w hb).mono ?_
  rintro e' w' ⟨rfl, rfl⟩
  refine ⟨rfl, ⟨⟨hOk.one, hOk.most, hOk.secs, hOk.waits, ?_, ?_⟩, hFb, by simpa using hFlt, sb, sc, scur, wv, by rw [stored hb]; rfl, ⟨by rw [heap_setCell_other _ _ _ _ (fun e => hbs e.symm)]; exact hs.1, hs.2⟩, ?_, hFs, hbs, hFw⟩, (Upd.refl _ _).setCell _ (.inl hFb)⟩
  · show -1 ≤ max n (-1); omega
  · show max n (-1) ≤ 9223372036854775807; omega
  · exact Upd.row ((Upd.refl (fun k => k = b) w).setCell _ (.inl rfl)) hwv (fun k hk e => (hFw k hk).2.1 e)

theorem size_disk {w : World} {b : Nat} {D : DSt} {F : Nat → Prop} (hD : DiskAt w b D F) :
    Calls Try.prog 25 #[.pointer (some ⟨b, 0, none⟩)] w fun e w' => e = .returned (.int .i64 D.secs.length) ∧ w = w' := by
  obtain ⟨hOk, hFb, hFlt, sb, sc, scur, wv, hb, hs, hwv, hFs, hbs, hFw⟩ := id hD
  exact size_ok b _ _ _ w (four hb).1
theorem dead_disk {w : World} {b : Nat} {D : DSt} {F : Nat → Prop} (hD : DiskAt w b D F) :
    Calls Try.prog 35 #[.pointer (some ⟨b, 0, none⟩)] w fun e w' => e = .returned (.bool D.dead) ∧ w = w' := by
  obtain ⟨hOk, hFb, hFlt, sb, sc, scur, wv, hb, hs, hwv, hFs, hbs, hFw⟩ := id hD
  exact dead_ok b _ w (four hb).2.2.2
end Go.Proofs.Ytocameknhglklaa
