/- wal: Make. -/
import Derived.Test.YtocameknhglklaaWal6
namespace Go.Proofs.Ytocameknhglklaa
open Go.RowKit
set_option linter.unusedSimpArgs false
set_option linter.unusedVariables false
set_option maxRecDepth 100000

theorem make_err (dv : Value) (fr n e : Int) (w : World) (he : (e != 0) = true) (hc : Calls Try.prog 37 #[dv, .int .i64 fr, .int .i64 n] w fun r w' => r = .returned (.int .i64 e) ∧ w = w') :
    Calls Try.prog 15 #[dv, .int .i64 fr, .int .i64 n] w fun r w' => r = .returned (.tuple #[.pointer none, .int .i64 e]) ∧ w = w' := by
  have Hc := Lib.hid hc
  clear hc
  go_enter Try.func15, Try.ntmps15
  go_wp2_with fail
  refine Hc.out.mono ?_
  rintro e w1 ⟨rfl, rfl⟩
  dsimp only
  go_wp2_with fail
  go_ret2
  exact ⟨rfl, rfl⟩
theorem zeroLog : Try.zeroCells96 = (([.pointer none, .int .i64 0, .int .i64 0, .int .i64 0, .int .i64 0, .slice none 0 0, .int .i64 0, .int .i64 0, .bool false] : List Value) ++ tabV 0 0 (List.replicate 256 0#32) 0 ++ []).toArray := by kernel_rfl
theorem newLog (db : Nat) (fr n : Nat) : ((Try.zeroCells96.setIfInBounds 0 (.pointer (some ⟨db, 0, none⟩))).setIfInBounds 1 (.int .i64 fr)).setIfInBounds 2 (.int .i64 n) = (preL (LSt.made fr n) db (.slice none 0 0) ++ tabV 0 0 (List.replicate 256 0#32) 0 ++ []).toArray := by
  rw [zeroLog]
  rfl
theorem log_new (w : World) (db fr n : Nat) : Cells9 (w.alloc (.cells (((Try.zeroCells96.setIfInBounds 0 (.pointer (some ⟨db, 0, none⟩))).setIfInBounds 1 (.int .i64 fr)).setIfInBounds 2 (.int .i64 n)) 96)) w.heap.size (preL (LSt.made fr n) db (.slice none 0 0)) :=
  ⟨0, .inl ⟨List.replicate 256 0#32, rfl, by simp, by rw [heap_alloc_new, newLog]⟩⟩
theorem fail_zero (L : LSt) (e : Int) (h : (L.fail e).2 = 0) : (L.fail e).1 = L := by
  unfold LSt.fail at h ⊢
  split
  · rfl
  · rename_i he
    rw [if_neg he] at h
    cases h
theorem mark_zero (L : LSt) (D : DSt) (h : (L.mark D).2.2 = 0) : (L.mark D).1 = L := by
  unfold LSt.mark at h ⊢
  dsimp only at h ⊢
  split
  · rename_i he
    rw [if_pos he] at h
    exact fail_zero _ _ h
  · rename_i he
    rw [if_neg he] at h
    exact fail_zero _ _ h
/-- What Make does. -/
def makeD (D : DSt) (fr n : Nat) : DSt × Int := if D.flush.2 = 0 then (((LSt.made fr n).mark D.flush.1).2.1, ((LSt.made fr n).mark D.flush.1).2.2) else (D.flush.1, D.flush.2)
def MakePost (w : World) (db fr n : Nat) (D D' : DSt) (F : Nat → Prop) (r : Int) (p : Option Addr) (w' : World) : Prop :=
  (r = 0 ∧ ∃ lb F', p = some ⟨lb, 0, none⟩ ∧ WalAt w' lb db (LSt.made fr n) D' F' ∧ Upd F w w' ∧ (∀ k, F' k → F k ∨ w.heap.size ≤ k)) ∨
  (r ≠ 0 ∧ p = none ∧ ∃ F', DiskAt w' db D' F' ∧ Upd F w w' ∧ (∀ k, F' k → F k ∨ w.heap.size ≤ k))

set_option maxHeartbeats 1000000 in
theorem make_ok {w : World} {db : Nat} {D : DSt} {F : Nat → Prop} (hD : DiskAt w db D F) (fr n : Nat) (h2 : 2 ≤ n) (hf : fr + n ≤ D.secs.length) (hwt : D.waits.length < 99999999990) :
    Calls Try.prog 15 #[.pointer (some ⟨db, 0, none⟩), .int .i64 fr, .int .i64 n] w fun e w' => ∃ p, e = .returned (.tuple #[.pointer p, .int .i64 (makeD D fr n).2]) ∧ MakePost w db fr n D (makeD D fr n).1 F (makeD D fr n).2 p w' := by
  have hreg := region_good hD fr n (by omega) (by omega) (by omega)
  have H := Lib.hid (And.intro hD (And.intro h2 (And.intro hf hwt)))
  have hmost := hD.1.most
  have Hreg := Lib.hid hreg
  have Hmost := Lib.hid hmost
  clear hD h2 hf hwt hreg hmost
  go_enter Try.func15, Try.ntmps15
  go_wp2_with fail
  refine Hreg.out.mono ?_
  rintro e w1 ⟨rfl, rfl⟩
  dsimp only
  go_wp2_with fail
  have hC0 := log_new w db fr n
  have hu0 : Upd (fun _ => False) w (w.alloc (.cells (((Try.zeroCells96.setIfInBounds 0 (.pointer (some ⟨db, 0, none⟩))).setIfInBounds 1 (.int .i64 fr)).setIfInBounds 2 (.int .i64 n)) 96)) := (Upd.refl _ w).alloc _
  obtain ⟨lb, hlb⟩ : ∃ lb, w.heap.size = lb := ⟨_, rfl⟩
  rw [hlb] at hC0 ⊢
  generalize w.alloc (.cells (((Try.zeroCells96.setIfInBounds 0 (.pointer (some ⟨db, 0, none⟩))).setIfInBounds 1 (.int .i64 fr)).setIfInBounds 2 (.int .i64 n)) 96) = w2 at *
  obtain ⟨⟨D1, r⟩, hfl⟩ : ∃ p, D.flush = p := ⟨_, rfl⟩
  have hmk : makeD D fr n = if r = 0 then (((LSt.made fr n).mark D1).2.1, ((LSt.made fr n).mark D1).2.2) else (D1, r) := by simp only [makeD, hfl]
  have hD2 := H.out.1.upd hu0 (fun _ _ h => h)
  have hF : ¬ F lb := fun h => by have := H.out.1.lt lb h; omega
  have H2 := Lib.hid (And.intro hC0 (And.intro hu0 (And.intro hlb (And.intro hfl (And.intro hmk hF)))))
  refine (flush_disk hD2 (by have := H.out.2.2.2; omega) hfl).mono ?_
  clear hC0 hu0 hlb hfl hmk hD2 hF
  rintro e w3 ⟨rfl, hD3, hu3⟩
  dsimp only
  have H3 := Lib.hid (And.intro hD3 hu3)
  clear hD3 hu3
  by_cases hr : r = 0
  · have hmk := H2.out.2.2.2.2.1
    rw [if_pos hr] at hmk
    have Hmk := Lib.hid hmk
    clear hmk
    have hwt1 : D1.waits.length < 99999999990 := by
      have h1 := H2.out.2.2.2.1
      have h2 := H.out.2.2.2
      unfold DSt.flush at h1
      split at h1
      · cases h1; omega
      · split at h1
        · cases h1; omega
        · cases h1; exact (by decide : (0 : Nat) < 99999999990)
    have Hw := Lib.hid hwt1
    clear hwt1
    subst hr
    go_wp2_with fail
    have hok : (LSt.made fr n).Ok := by
      have h2 := H.out.2.1
      have h3 := H.out.2.2.1
      have h4 := Hmost.out
      exact ⟨h2, by show fr + n ≤ 4096; omega, by show 0 < n - 1; omega, Nat.zero_le _, rfl, (fun p hp => by cases hp), (fun p hp => by cases hp), by show 0 < 1000000000000000000; decide, Nat.le_refl _⟩
    have hC3 := H2.out.1.upd H3.out.2 H2.out.2.2.2.2.2
    refine (mark_raw hC3 (Mid.nil _ _) hok H3.out.1 H2.out.2.2.2.2.2 (fun k hk => by cases hk) Hw.out).mono ?_
    rintro e w4 ⟨rfl, hraw⟩
    dsimp only
    have hok4 := hok.mark D1
    obtain ⟨d, hfst⟩ := mark_fst (LSt.made fr n) D1
    have hz := mark_zero (LSt.made fr n) D1
    obtain ⟨⟨L2, D2, r2⟩, hm⟩ : ∃ p, (LSt.made fr n).mark D1 = p := ⟨_, rfl⟩
    have hmk := Hmk.out
    rw [hm] at hraw hfst hz hok4 hmk ⊢
    dsimp only at hraw hfst hz hok4 hmk ⊢
    have Hmk := Lib.hid hmk
    have hFin : Hid (∃ F', WalAt w4 lb db L2 D2 F' ∧ (∃ G', DiskAt w4 db D2 G' ∧ (∀ k, G' k → F k ∨ w.heap.size ≤ k)) ∧ Upd F w w4 ∧ (∀ k, F' k → F k ∨ w.heap.size ≤ k)) := by
      obtain ⟨G', r1, r2, r3, r4⟩ := hraw
      have hs2 := H2.out.2.1.size
      have hs3 := H3.out.2.size
      have hlb := H2.out.2.2.1
      have hg : ∀ k, G' k → F k ∨ w.heap.size ≤ k := fun k hk => by
        rcases r4 k hk with h | h
        · exact .inl h
        · exact .inr (by omega)
      have hfl2 : ¬ G' lb := fun h => by
        rcases r4 lb h with h | h
        · exact H2.out.2.2.2.2.2 h
        · have := H2.out.1.lt; omega
      have hls : L2.list = [] := by rw [hfst]; rfl
      refine ⟨fun k => k = lb ∨ (Value.slice none 0 0).ownBlock = some k ∨ G' k, ⟨.slice none 0 0, G', hok4, r1, by rw [hls]; exact Mid.nil _ _, r2, hfl2, (fun k hk => by cases hk), fun k => Iff.rfl⟩, ⟨G', r2, hg⟩, ?_, fun k hk => ?_⟩
      · refine ((H2.out.2.1.mono (fun _ _ h => h.elim)).trans H3.out.2).then r3 (fun k hk => ?_)
        rcases hk with rfl | hk
        · exact .inr (by omega)
        · exact .inl hk
      · rcases hk with rfl | hk | hk
        · exact .inr (by omega)
        · cases hk
        · exact hg k hk
    have Hz := Lib.hid hz
    clear hraw hfst hz hok4 hm hC3 hok hmk
    by_cases hr2 : r2 = 0
    · have Hl := Lib.hid (Hz.out hr2)
      subst hr2
      go_wp2_with fail
      go_ret2
      rw [Hmk.out]
      obtain ⟨F', g1, _, g2, g3⟩ := hFin.out
      rw [Hl.out] at g1
      exact ⟨_, rfl, .inl ⟨rfl, lb, F', rfl, g1, g2, g3⟩⟩
    · have hne : (r2 != 0) = true := by simp [hr2]
      have Hr2 := Lib.hid hr2
      clear hr2
      go_wp2_with fail
      go_ret2
      rw [Hmk.out]
      obtain ⟨F', g1, ⟨G', g4, g5⟩, g2, g3⟩ := hFin.out
      exact ⟨none, rfl, .inr ⟨Hr2.out, rfl, G', g4, g2, g5⟩⟩
  · have hmk := H2.out.2.2.2.2.1
    rw [if_neg hr] at hmk
    have Hmk := Lib.hid hmk
    have hne : (r != 0) = true := by simp [hr]
    have Hr := Lib.hid hr
    clear hmk hr
    go_wp2_with fail
    go_ret2
    rw [Hmk.out]
    exact ⟨none, rfl, .inr ⟨Hr.out, rfl, F, H3.out.1, (H2.out.2.1.mono (fun _ _ h => h.elim)).trans H3.out.2, fun k hk => .inl hk⟩⟩
end Go.Proofs.Ytocameknhglklaa
