/- docketlaw07: what a Write or a Clone leaves; all blobs of a store. -/
import Derived.Test.YtmefbbmjamdnjaaBb13
namespace Go.Proofs.Ytmefbbmjamdnjaa
open Go Go.RowKit
set_option linter.unusedSimpArgs false
set_option linter.unusedVariables false
set_option maxRecDepth 100000

/-- What Write or Clone answers. -/
def WOut (w : World) (mb most : Nat) (es : Img) (K : Nat → Prop) (s : ByteArray) (h e : Nat) (w1 : World) : Prop :=
  ∃ (ef : Img) (K' : Nat → Prop), MemAt w1 mb most ef K' ∧ (∀ q, K' q → K q ∨ w.heap.size ≤ q) ∧ Upd K w w1 ∧
    ((49152 < s.size ∧ h = 0 ∧ e = 5 ∧ (∀ k, lookB ef k = lookB es k) ∧ ef.length = es.length) ∨
     (s.size ≤ 49152 ∧ most < es.length + needN s.data.toList ∧ h = 0 ∧ e = 12 ∧ (∀ k, lookB ef k = lookB es k) ∧ ef.length = es.length) ∨
     (s.size ≤ 49152 ∧ es.length + needN s.data.toList ≤ most ∧ e = 0 ∧ ∃ rs, AddedP es s.data.toList h rs ef))
section
variable {w : World} {mb most : Nat} {es : Img} {K : Nat → Prop}
theorem write_out (h : MemAt w mb most es K) (s : ByteArray) : Calls Try.prog 9 #[.iface 26 (.pointer (some ⟨mb, 0, none⟩)), .string s] w fun e w' => ∃ x y : Nat, e = .returned (.tuple #[.int .i64 (x : Nat), .int .i64 (y : Nat)]) ∧ WOut w mb most es K s x y w' := by
  have ht0 : s.data.toList.length = s.size := Array.length_toList
  by_cases h1 : 49152 < s.size
  · refine (wrlong_ok s h1).mono ?_
    rintro e w' ⟨rfl, hu⟩
    exact ⟨0, 5, rfl, es, K, h.upd hu (fun _ _ h => h), (fun q hq => .inl hq), hu.mono (fun _ _ h => h.elim), .inl ⟨h1, rfl, rfl, (fun _ => rfl), rfl⟩⟩
  · by_cases h2 : es.length + needN s.data.toList ≤ most
    · refine (write_anyF h s (by omega) h2).mono ?_
      rintro e w' ⟨hd, rs, ef, K', rfl, g1, g2, g3, g4⟩
      exact ⟨hd, 0, rfl, ef, K', g1, g2, g3, .inr (.inr ⟨by omega, h2, rfl, rs, g4⟩)⟩
    · have hle := h.ok.2.1
      have hne : s.data.toList ≠ [] := fun e => by rw [needN, if_pos e] at h2; omega
      have hl1 : 1 ≤ s.data.toList.length := List.length_pos_iff.2 hne
      have h3 := h2
      rw [needN, if_neg hne, ht0] at h3
      refine (write_full h s (by omega) (by omega) (by omega)).mono ?_
      rintro e w' ⟨ef, K', rfl, g1, g2, g3, g4, g5⟩
      exact ⟨0, 12, rfl, ef, K', g1, g2, g3, .inr (.inl ⟨by omega, by omega, rfl, rfl, g4, g5⟩)⟩
theorem clone_out (h : MemAt w mb most es K) {head : Nat} {s : ByteArray} {rs : List Run} (hb : BlobAt es head s.data.toList rs) : Calls Try.prog 15 #[.iface 26 (.pointer (some ⟨mb, 0, none⟩)), .int .i64 (head : Nat)] w fun e w' => ∃ x y : Nat, e = .returned (.tuple #[.int .i64 (x : Nat), .int .i64 (y : Nat)]) ∧ WOut w mb most es K s x y w' := by
  have ht0 : s.data.toList.length = s.size := Array.length_toList
  have hsm := hb.small
  by_cases h2 : es.length + needN s.data.toList ≤ most
  · refine (clone7_ok h hb h2).mono ?_
    rintro e w' ⟨hd, rs2, ef, K', rfl, g1, g2, g3, g4⟩
    exact ⟨hd, 0, rfl, ef, K', g1, g2, g3, .inr (.inr ⟨by omega, h2, rfl, rs2, g4⟩)⟩
  · refine (clone_full h hb (by omega)).mono ?_
    rintro e w' ⟨ef, K', rfl, g1, g2, g3, g4, g5⟩
    exact ⟨0, 12, rfl, ef, K', g1, g2, g3, .inr (.inl ⟨by omega, by omega, rfl, rfl, g4, g5⟩)⟩
end
end Go.Proofs.Ytmefbbmjamdnjaa
