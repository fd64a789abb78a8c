/- Contracts of docketref02, fourth part: Write, whole; Flush. -/
import Derived.Test.YtlcbgcbocikkkaaRef3
namespace Go.Proofs.Ytlcbgcbocikkkaa
open Go.RowKit
set_option linter.unusedSimpArgs false
set_option linter.unusedVariables false
set_option maxRecDepth 100000

/-- Only the disk's own block has turned, in fuel and dead. -/
theorem RefAt.turn {w w' : World} {b : Nat} {D : DSt} {M : Nat} {F : Nat → Prop} (h : RefAt w b D M F) (fuel : Int) (dead : Bool) (hlo : -1 ≤ fuel) (hhi : fuel ≤ 9223372036854775807) (hu : Upd (fun k => k = b) w w')
    (hb : ∀ dv wv, w.heap[b]? = some (.cells #[.int .i64 D.secs.length, dv, wv, .int .i64 D.fuel, .bool D.dead] 60 (0, 0)) → w'.heap[b]? = some (.cells #[.int .i64 D.secs.length, dv, wv, .int .i64 fuel, .bool dead] 60 (0, 0))) :
    RefAt w' b { D with fuel := fuel, dead := dead } M F := by
  obtain ⟨h0, h1, h2, dn, dv, wv, a1, a2, a3, a4, a5, a6, a7, a8⟩ := h
  exact ⟨⟨h0.one, h0.most, h0.secs, h0.waits, hlo, hhi⟩, h1, fun k hk => Nat.lt_of_lt_of_le (h2 k hk) hu.size, dn, dv, wv, a1, a2, hb _ _ a3, hu.row a4 (fun k hk => (a6 k hk).2), hu.row a5 (fun k hk => (a7 k hk).2), a6, a7, a8⟩
theorem RefAt.more {w : World} {b : Nat} {D : DSt} {M N : Nat} {F : Nat → Prop} (h : RefAt w b D M F) (hMN : M ≤ N) : RefAt w b D N F := by
  obtain ⟨h0, h1, h2, dn, dv, wv, a1, a2, a3⟩ := h
  exact ⟨h0, h1, h2, dn, dv, wv, a1, by omega, a3⟩

theorem ref_write {w : World} {b : Nat} {D : DSt} {M : Nat} {F : Nat → Prop} (hD : RefAt w b D M F) (hM : M < 1000000000) (i : Int) (s : ByteArray) {D' : DSt} {r : Int} (hr : D.write i s.data.toList = (D', r)) :
    Calls Try.prog 30 #[.pointer (some ⟨b, 0, none⟩), .int .i64 i, .string s] w fun e w' => e = .returned (.int .i64 r) ∧ ∃ F', RefAt w' b D' (M + 1) F' ∧ Upd F w w' ∧ (∀ k, F' k → F k ∨ w.heap.size ≤ k) := by
  obtain ⟨hOk, hFb, hFlt, dn, dv, wv, hdn, hMM, hb, hdv, hwv, hFd, hFw, hdw⟩ := id hD
  have hl : s.data.toList.length = s.size := by rw [Array.length_toList]; rfl
  have same : ∀ w', w = w' → ∃ F', RefAt w' b D (M + 1) F' ∧ Upd F w w' ∧ (∀ k, F' k → F k ∨ w.heap.size ≤ k) := by
    rintro w' rfl
    exact ⟨F, hD.more (by omega), Upd.refl _ _, fun k h => .inl h⟩
  by_cases hd : D.dead = true
  · rw [DSt.write, if_pos hd] at hr
    cases hr
    refine (write_early b i s _ dv wv _ _ w hb (.inl hd)).mono ?_
    rintro e w' ⟨rfl, hw⟩
    exact ⟨by rw [hd]; rfl, same w' hw⟩
  have hd' : D.dead = false := by simpa using hd
  by_cases hi : i < 0 ∨ (D.secs.length : Int) ≤ i
  · rw [DSt.write, if_neg hd, if_pos hi] at hr
    cases hr
    refine (write_early b i s _ dv wv _ _ w hb (.inr ⟨hd', by omega⟩)).mono ?_
    rintro e w' ⟨rfl, hw⟩
    exact ⟨by rw [hd']; rfl, same w' hw⟩
  by_cases hs : 512 < s.data.toList.length
  · rw [DSt.write, if_neg hd, if_neg hi, if_pos hs] at hr
    cases hr
    refine (write_early b i s _ dv wv _ _ w hb (.inr ⟨hd', by omega⟩)).mono ?_
    rintro e w' ⟨rfl, hw⟩
    exact ⟨by rw [hd']; rfl, same w' hw⟩
  by_cases hf : D.fuel = 0
  · rw [DSt.write, if_neg hd, if_neg hi, if_neg hs, if_pos hf] at hr
    cases hr
    have hb' := hb
    rw [hf, hd'] at hb'
    refine (write_die_ref b i s _ dv wv w hb' (by omega) (by omega) (by omega)).mono ?_
    rintro e w' ⟨rfl, hu, hb2⟩
    refine ⟨rfl, F, RefAt.more (M := M) ?_ (by omega), hu.mono (fun k _ h => by rw [h]; exact hFb), fun k h => .inl h⟩
    refine hD.turn D.fuel true hOk.fuel hOk.fuelMax hu (fun dv' wv' h => ?_)
    rw [hb] at h
    cases h
    rw [hf]
    exact hb2
  · rw [DSt.write_eq hd' (by omega) (by omega) (by omega) hf] at hr
    cases hr
    obtain ⟨n, rfl⟩ : ∃ n : Nat, i = n := ⟨i.toNat, by omega⟩
    have hb' := hb
    rw [hd'] at hb'
    have := hOk.fuel
    refine (rwrite_core b n s _ D.fuel dv wv D.waits w hb' hf (by omega) hOk.fuelMax (by omega) (by omega) hwv (fun k hk => (hFw k hk).2) (by omega)).mono ?_
    rintro e w' ⟨rfl, wv', hb2, hwv2, hu, hn⟩
    rw [Int.toNat_natCast]
    have hbu : -1 ≤ burnt D.fuel ∧ burnt D.fuel ≤ 9223372036854775807 := by
      have := hOk.fuelMax
      unfold burnt
      split <;> omega
    refine ⟨rfl, fun k => F k ∨ wv'.ownBlock = some k, ⟨⟨hOk.one, hOk.most, hOk.secs, fun p hp => ?_, hbu.1, hbu.2⟩, .inl hFb, fun k hk => ?_, dn, dv, wv', hdn, ?_, ?_, ?_, ?_, fun k hk => ⟨.inl (hFd k hk).1, (hFd k hk).2⟩, fun k hk => ⟨.inr hk, ?_⟩, fun k hk h => ?_⟩, hu.mono (fun k _ h => ?_), fun k hk => ?_⟩
    · rcases List.mem_append.1 hp with hp | hp
      · exact hOk.waits p hp
      · simp at hp; rw [hp]; exact ⟨by show n < D.secs.length; omega, pad_length (by omega)⟩
    · rcases hk with hk | hk
      · exact Nat.lt_of_lt_of_le (hFlt k hk) hu.size
      · exact (World.ownsRow.lt hwv2 k hk).2
    · simp; omega
    · show w'.heap[b]? = some (.cells #[.int .i64 D.secs.length, dv, wv', .int .i64 (burnt D.fuel), .bool D.dead] _ _)
      rw [hd']; exact hb2
    · exact hu.row hdv (fun k hk h => h.elim (hFd k hk).2 (fun h => hdw k hk h))
    · simpa using hwv2
    · rcases hn k hk with h | h
      · exact (hFw k h).2
      · have := hFlt b hFb; omega
    · rcases hn k h with h | h
      · exact hdw k hk h
      · have := hFlt k (hFd k hk).1; omega
    · rcases h with rfl | h
      · exact hFb
      · exact (hFw k h).1
    · rcases hk with hk | hk
      · exact .inl hk
      · exact (hn k hk).imp (fun h => (hFw k h).1) id
end Go.Proofs.Ytlcbgcbocikkkaa
