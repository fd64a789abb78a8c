/- Contracts of docketref02, sixth part: Flush, whole. -/
import Derived.Test.YtlcbgcbocikkkaaRef5
namespace Go.Proofs.Ytlcbgcbocikkkaa
open Go.RowKit
set_option linter.unusedSimpArgs false
set_option linter.unusedVariables false
set_option maxRecDepth 100000

theorem ref_flush {w : World} {b : Nat} {D : DSt} {M : Nat} {F : Nat → Prop} (hD : RefAt w b D M F) (hM : M < 1000000000) {D' : DSt} {r : Int} (hr : D.flush = (D', r)) :
    Calls Try.prog 46 #[.pointer (some ⟨b, 0, none⟩)] w fun e w' => e = .returned (.int .i64 r) ∧ ∃ F', RefAt w' b D' M F' ∧ Upd F w w' ∧ (∀ k, F' k → F k ∨ w.heap.size ≤ k) := by
  obtain ⟨hOk, hFb, hFlt, dn, dv, wv, hdn, hMM, hb, hdv, hwv, hFd, hFw, hdw⟩ := id hD
  by_cases hd : D.dead = true
  · rw [DSt.flush, if_pos hd] at hr
    cases hr
    have hb' := hb
    rw [hd] at hb'
    refine (flush_dead_ref b _ dv wv _ w hb').mono ?_
    rintro e w' ⟨rfl, rfl⟩
    exact ⟨rfl, F, hD, Upd.refl _ _, fun k h => .inl h⟩
  have hd' : D.dead = false := by simpa using hd
  by_cases hf : D.fuel = 0
  · rw [DSt.flush, if_neg hd, if_pos hf] at hr
    cases hr
    have hb' := hb
    rw [hf, hd'] at hb'
    refine (flush_die_ref b _ dv wv w hb').mono ?_
    rintro e w' ⟨rfl, hu, hb2⟩
    refine ⟨rfl, F, ?_, hu.mono (fun k _ h => by rw [h]; exact hFb), fun k h => .inl h⟩
    refine hD.turn D.fuel true hOk.fuel hOk.fuelMax hu (fun dv' wv' h => ?_)
    rw [hb] at h
    cases h
    rw [hf]
    exact hb2
  · rw [DSt.flush_eq hd' hf] at hr
    cases hr
    have hb' := hb
    rw [hd'] at hb'
    have := hOk.fuel
    refine (rflush_core b _ D.fuel dv wv dn D.waits w hb' hf (by omega) hOk.fuelMax hdv (fun k hk => (hFd k hk).2) hwv (fun k hk => (hFw k hk).2) (by omega)).mono ?_
    rintro e w' ⟨rfl, dv', hb2, hdv2, hu, hn⟩
    have hbu : -1 ≤ burnt D.fuel ∧ burnt D.fuel ≤ 9223372036854775807 := by
      have := hOk.fuelMax
      unfold burnt
      split <;> omega
    have hlen := done_length D.waits D.secs
    refine ⟨rfl, fun k => F k ∨ dv'.ownBlock = some k, ⟨⟨by show 1 ≤ (done D.secs D.waits).length; rw [hlen]; exact hOk.one, by show (done D.secs D.waits).length ≤ 4096; rw [hlen]; exact hOk.most, done_ok hOk.secs (fun p hp => (hOk.waits p hp).2), (fun p hp => by cases hp), hbu.1, hbu.2⟩,
      .inl hFb, fun k hk => ?_, dn ++ D.waits, dv', .slice none 0 0, fun i hi => ?_, ?_, ?_, ?_, ⟨by simp [putsV], .inl ⟨rfl, rfl⟩⟩, fun k hk => ⟨.inr hk, ?_⟩, (fun k hk => by cases hk), (fun k hk h => by cases h)⟩, hu.mono (fun k _ h => ?_), fun k hk => ?_⟩
    · rcases hk with hk | hk
      · exact Nat.lt_of_lt_of_le (hFlt k hk) hu.size
      · exact (World.ownsRow.lt hdv2 k hk).2
    · have hi2 : i < D.secs.length := by rw [← hlen]; exact hi
      rw [lastOf_append, ← hdn i hi2]
      exact done_last D.waits D.secs i hi2
    · show (dn ++ D.waits).length + 0 ≤ M
      simp; omega
    · show w'.heap[b]? = some (.cells #[.int .i64 (done D.secs D.waits).length, dv', .slice none 0 0, .int .i64 (burnt D.fuel), .bool D.dead] _ _)
      rw [hd', hlen]; exact hb2
    · simpa using hdv2
    · rcases hn k hk with h | h
      · exact (hFd k h).2
      · have := hFlt b hFb; omega
    · rcases h with rfl | h
      · exact hFb
      · exact (hFd k h).1
    · rcases hk with hk | hk
      · exact .inl hk
      · exact (hn k hk).imp (fun h => (hFd k h).1) id
end Go.Proofs.Ytlcbgcbocikkkaa
