/- docketlaw07: part. -/
import Derived.Test.YtmefbbmjamdnjaaBb12
namespace Go.Proofs.Ytmefbbmjamdnjaa
open Go Go.RowKit
set_option linter.unusedSimpArgs false
set_option linter.unusedVariables false
set_option maxRecDepth 100000

theorem mk_data2 (s : ByteArray) : (⟨s.data.toList.toArray⟩ : ByteArray) = s := by cases s; simp
theorem part_ok (s : ByteArray) (hs : s.size ≤ 49152) (f n : Nat) (hf : f < 9223372036854775808) (hn : n < 9223372036854775808) (w : World) :
    Calls Try.prog 13 #[.string s, .int .i64 (f : Nat), .int .i64 (n : Nat)] w fun e w' => e = .returned (.string ⟨((s.data.toList.drop f).take n).toArray⟩) ∧ w = w' := by
  have hl : s.data.toList.length = s.size := Array.length_toList
  obtain ⟨sz, hsz⟩ : ∃ sz, s.size = sz := ⟨_, rfl⟩
  have i1 : (sz : Int) ≤ 49152 := by omega
  have hszI : (s.size : Int) = (sz : Int) := by omega
  by_cases h1 : sz ≤ f
  · have h1I : (sz : Int) ≤ (f : Int) := by omega
    have he : (s.data.toList.drop f).take n = [] := by rw [List.drop_eq_nil_of_le (by omega), List.take_nil]
    rw [he]
    clear he hl
    go_enter Try.func13, Try.ntmps13
    go_wp2_with fail
    go_ret
    exact ⟨rfl, rfl⟩
  · have h1I : (f : Int) < (sz : Int) := by omega
    have h1N : f < sz := by omega
    obtain ⟨s1, hs1⟩ : ∃ s1, s.extract f sz = s1 := ⟨_, rfl⟩
    have hd1 : s1.data.toList = s.data.toList.drop f := by
      rw [← hs1, ext_list, List.take_of_length_le (by rw [List.length_drop]; omega)]
    have hz1 : s1.size = sz - f := by rw [← hs1]; simp only [ByteArray.size_extract]; omega
    obtain ⟨z, hz⟩ : ∃ z, sz - f = z := ⟨_, rfl⟩
    rw [hz] at hz1
    have q1 : ∀ W, (Instr.slice 9 (.string s) (some (.int .i64 (f : Int))) none none).run Try.prog W = .ok (.string s1) W := fun W => by
      have := run_slice_string_l (P := Try.prog) (w := W) (s := s) (t := 9) Try.underlying9 .i64 (f : Int) (by omega) (by omega)
      rw [show ((f : Nat) : Int).toNat = f by omega, hsz, hs1] at this
      exact this
    have hzI : (s1.size : Int) = (z : Int) := by omega
    have i3 : (z : Int) ≤ 49152 := by omega
    by_cases h2 : n < z
    · have h2I : (n : Int) < (z : Int) := by omega
      obtain ⟨s2, hs2⟩ : ∃ s2, s1.extract 0 n = s2 := ⟨_, rfl⟩
      have q2 : ∀ W, (Instr.slice 9 (.string s1) none (some (.int .i64 (n : Int))) none).run Try.prog W = .ok (.string s2) W := fun W => by
        have := run_slice_string_h (P := Try.prog) (w := W) (s := s1) (t := 9) Try.underlying9 .i64 (n : Int) (by omega) (by omega)
        rw [show ((n : Nat) : Int).toNat = n by omega, hs2] at this
        exact this
      have he : (⟨((s.data.toList.drop f).take n).toArray⟩ : ByteArray) = s2 := by
        rw [← mk_data2 s2, ← hs2, ext_list, ← hd1]; simp
      rw [he]
      clear he hd1 hs1 hs2 hl hz
      go_enter Try.func13, Try.ntmps13
      go_wp2_with fail
      go_ret
      exact ⟨rfl, rfl⟩
    · have h2I : (z : Int) ≤ (n : Int) := by omega
      have he : (⟨((s.data.toList.drop f).take n).toArray⟩ : ByteArray) = s1 := by
        have h3 : s1.data.toList.length = z := (Array.length_toList).trans hz1
        rw [← hd1, List.take_of_length_le (by omega), mk_data2]
      rw [he]
      clear he hd1 hs1 hl hz
      go_enter Try.func13, Try.ntmps13
      go_wp2_with fail
      go_ret
      exact ⟨rfl, rfl⟩
section
variable {w : World} {mb most : Nat} {es : Img} {K : Nat → Prop}
/-- Clone, where there is no room. -/
theorem clone_full (h : MemAt w mb most es K) {head : Nat} {text : Bytes} {rs : List Run} (hb : BlobAt es head text rs) (hroom : most < es.length + needN text) :
    Calls Try.prog 15 #[.iface 26 (.pointer (some ⟨mb, 0, none⟩)), .int .i64 (head : Nat)] w fun e w' => ∃ (ef : Img) (K' : Nat → Prop), e = .returned (.tuple #[.int .i64 0, .int .i64 12]) ∧
      MemAt w' mb most ef K' ∧ (∀ q, K' q → K q ∨ w.heap.size ≤ q) ∧ Upd K w w' ∧ (∀ k, lookB ef k = lookB es k) ∧ ef.length = es.length := by
  have hle := h.ok.2.1
  have hne : text ≠ [] := fun e => by rw [needN, if_pos e] at hroom; omega
  have hl1 : 1 ≤ text.length := List.length_pos_iff.2 hne
  rw [needN, if_neg hne] at hroom
  have Hr := Lib.hid (read_ok h hb)
  have HM := Lib.hid (And.intro h (And.intro hb.small (And.intro hroom hl1)))
  clear h hb hroom hle hne hl1
  go_enter Try.func15, Try.ntmps15
  go_wp2_with fail
  refine Hr.out.mono ?_
  rintro e w1 ⟨rfl, hu⟩
  dsimp only
  have Hu := Lib.hid hu
  clear hu
  go_wp2_with fail
  refine (write_full (HM.out.1.upd Hu.out (fun _ _ h => h)) ⟨text.toArray⟩ HM.out.2.2.2 HM.out.2.1 HM.out.2.2.1).mono ?_
  rintro e w2 ⟨ef, K2, rfl, h1, h2, h3, h4, h5⟩
  dsimp only
  have Hf : Hid (MemAt w2 mb most ef K2 ∧ (∀ q, K2 q → K q ∨ w.heap.size ≤ q) ∧ Upd K w w2 ∧ (∀ k, lookB ef k = lookB es k) ∧ ef.length = es.length) := by
    have hz := Hu.out.size
    exact ⟨h1, fun q hq => (h2 q hq).imp id (fun e => by omega), (Hu.out.mono (fun _ _ h => h.elim)).trans h3, h4, h5⟩
  clear h1 h2 h3 h4 h5
  go_wp2_with fail
  go_ret2
  exact ⟨ef, K2, rfl, Hf.out⟩
end
end Go.Proofs.Ytmefbbmjamdnjaa
