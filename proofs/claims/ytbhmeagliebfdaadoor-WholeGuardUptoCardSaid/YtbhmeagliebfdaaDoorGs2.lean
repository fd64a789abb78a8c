/- strings.ContainsAny at whatever text. -/
import Derived.Test.YtbhmeagliebfdaaDoorGs1
import Derived.Laws.RangeAny
import Derived.Lib.TrimU
import Derived.Lib.QuoteLoop
import Derived.WalkMore
import Derived.Lib.RuneCountTail
import Derived.Lib.OthersKept
namespace Go.Proofs.YtbhmeagliebfdaaDoor
open Go Go.RowKit Go.Lib
set_option linter.unusedSimpArgs false
set_option linter.unusedVariables false
set_option maxRecDepth 100000
theorem iter_upd (w : World) (s : ByteArray) (p : Nat) : Upd (fun _ => False) w (w.iter s p) := by
  unfold World.iter
  exact (Upd.refl _ w).alloc _
theorem rune_bad (w : World) : Calls Tryd.prog 61 #[.string (bs [47, 0]), .int .i32 65533] w fun e w' => e = .returned (.int .i64 (-1)) ∧ Upd (fun _ => False) w w' := by
  have hn0 := fun ty => run_next_ascii (P := Tryd.prog) w (bs [47, 0]) 0 ty (by decide) (by decide)
  have hn1 := fun ty => run_next_ascii (P := Tryd.prog) w (bs [47, 0]) 1 ty (by decide) (by decide)
  have hn2 := fun ty => run_next_end (P := Tryd.prog) w (bs [47, 0]) 2 ty (by decide)
  rw [show ((bs [47, 0])[0]'(by decide)) = 47 from rfl, show (47 : UInt8).toNat = 47 from rfl] at hn0
  rw [show ((bs [47, 0])[1]'(by decide)) = 0 from rfl, show (0 : UInt8).toNat = 0 from rfl] at hn1
  go_enter Tryd.func61, Tryd.ntmps61
  obtain ⟨cs, hcs⟩ : ∃ cs, bs [47, 0] = cs := ⟨_, rfl⟩
  rw [hcs] at hn0 hn1 hn2 ⊢
  clear hcs
  go_wp2_with fail
  go_loopw [5, 6] (fun _ _ wr => ∃ i : Nat, i ≤ 2 ∧ wr = w.iter cs i) (fun _ _ wr => 2 - wr.iterPos w.heap.size)
  case atStart => exact ⟨0, by decide, rfl⟩
  case round =>
    obtain ⟨i, hi, rfl⟩ := hrel
    rcases (by omega : i = 0 ∨ i = 1 ∨ i = 2) with rfl | rfl | rfl
    · go_wp2_with fail
      exact ⟨⟨1, by decide, rfl⟩, by simp⟩
    · go_wp2_with fail
      exact ⟨⟨2, by decide, rfl⟩, by simp⟩
    · go_wp2_with fail
      go_ret
      exact ⟨rfl, iter_upd _ _ _⟩
theorem two_bytes (E : ByteArray) (h : E.size = 2) : ∃ a b, E = ⟨#[a, b]⟩ := by
  obtain ⟨⟨l⟩⟩ := E
  match l, h with
  | [a, b], _ => exact ⟨a, b, rfl⟩
theorem rune_high (r : Nat) (h1 : 128 ≤ r) (hv : Lib.validRune (r : Int) = true) (hv2 : Utf8.valid (r : Int) = true) (hne : r ≠ 65533) (w : World) : Calls Tryd.prog 61 #[.string ⟨#[47, 0]⟩, .int .i32 (r : Nat)] w fun e w' => e = .returned (.int .i64 (-1)) ∧ Upd (fun _ => False) w w' := by
  have i1 : decide ((r : Int) < 128) = false := by simp; omega
  have i3 : decide (r < 128) = false := by simp; omega
  have i2 : ((r : Int) == 65533) = false := beq_eq_false_iff_ne.2 (by omega)
  have hvr := Sh.utf8_ValidRune (r : Int) w
  rw [hv] at hvr
  have hcv := run_convert_int_string (P := Tryd.prog) w 21 9 .i32 (r : Int) (by kernel_rfl) Tryd.underlying9
  obtain ⟨e1, e2, e3⟩ := encode_facts (r : Int) hv2 (by omega)
  obtain ⟨E, hE⟩ : ∃ E, Utf8.encode (r : Int) = E := ⟨_, rfl⟩
  rw [hE] at hcv e1 e2 e3
  have Hvr := Lib.hid hvr
  clear hvr hE hv hv2 hne h1
  go_enter Tryd.func61, Tryd.ntmps61
  go_wp2_with fail
  refine Hvr.out.mono ?_
  rintro e w1 ⟨rfl, rfl⟩
  dsimp only
  clear Hvr
  by_cases h2 : E.size = 2
  · obtain ⟨a, b, rfl⟩ := two_bytes E h2
    have hb : 128 ≤ b.toNat := e3 (Nat.lt_succ_self 1)
    have hib := indexByte_ok [] b w1
    have hbI : ((0 : Int) == (b.toNat : Int)) = false := beq_eq_false_iff_ne.2 (by omega)
    clear e1 e2 e3 h2
    go_wp2_with fail
    go_step3
    go_wp2_with fail
    go_loopw [9, 10] (fun iv fv wr => iv = .int .i64 1 ∧ fv = .int .i64 0 ∧ wr = w1) (fun _ _ _ => 0)
    case atStart => exact ⟨rfl, rfl, rfl⟩
    case round =>
      obtain ⟨rfl, rfl, rfl⟩ := hrel
      go_wp2_with fail
      try (refine wp_seq ?_)
      try go_step3
      go_wp2_with fail
      have HS : True := trivial
      have hw2 : IntKind.i64.wrap 2 = 2 := by decide
      refine wp_region_planD (fun _ => True) 7 [(0, true), (1, true), (2, true), (3, true), (4, true), (5, true), (6, true)] (by kernel_rfl) (by kernel_rfl) (fun d _ _ _ _ h => by cases d <;> exact h) HS ?_
      iterate 7 (first | (apply planD_held rfl rfl rfl (by simp) HS; (intro w' hS K hK; go_simp; exact hK)) | (apply planD_wanted rfl rfl rfl (by simp) HS; (intro w' hS K hK; go_simp; exact hK)))
      refine planD_nil ?_
      go_wp2_with fail
      refine wp_region_planD (fun _ => True) 9 [(0, true), (1, true), (2, true), (3, true), (4, true), (5, true), (6, true), (7, false), (8, true)] (by kernel_rfl) (by kernel_rfl) (fun d _ _ _ _ h => by cases d <;> exact h) HS ?_
      iterate 7 (first | (apply planD_held rfl rfl rfl (by simp) HS; (intro w' hS K hK; go_simp; exact hK)) | (apply planD_wanted rfl rfl rfl (by simp) HS; (intro w' hS K hK; go_simp; exact hK)))
      refine planD_op rfl rfl (fun K hK => ?_)
      go_simp
      refine (indexByte_ok [] b _).mono ?_
      rintro e w2 ⟨rfl, rfl⟩
      dsimp only
      refine hK _ _ _ (fun u h => h) (fun _ => trivial) ?_
      clear hK
      try (simp only [Act.put, List.setIfInBounds_toArray, List.set_cons_zero, List.set_cons_succ])
      iterate 1 (first | (apply planD_held rfl rfl rfl (by simp) HS; (intro w' hS K hK; go_simp; exact hK)) | (apply planD_wanted rfl rfl rfl (by simp) HS; (intro w' hS K hK; go_simp; exact hK)))
      refine planD_nil ?_
      go_wp2_with fail
      · rw [Exit.noGoto_ret]
        go_wp2_with fail
        rw [Exit.noGoto_ret]
        go_ret
        exact ⟨rfl, (Upd.refl _ _).drew.drew⟩
      · exfalso
        have hq : ((0 : Int) != (b.toNat : Int)) = false := by assumption
        simp at hq
        omega
  · obtain ⟨n, hn⟩ : ∃ n, E.size = n := ⟨_, rfl⟩
    rw [hn] at e1 e2 h2
    have hnI : (3 : Int) ≤ (n : Int) := by omega
    have hnI2 : (n : Int) ≤ 4 := by omega
    have hnw : IntKind.i64.wrap ((n : Int) - 1) = (n : Int) - 1 := by rw [IntKind.wrap_i64]; omega
    have hn2 : ¬ ((n : Int) - 1 < 2) := by omega
    have HN := Lib.hid hn
    go_wp2_with fail
    go_step3
    go_wp2_with fail
    go_loopw [9, 10] (fun iv fv wr => iv = .int .i64 ((n : Int) - 1) ∧ fv = .int .i64 0 ∧ wr = w1) (fun _ _ _ => 0)
    case atStart => exact ⟨rfl, rfl, rfl⟩
    case round =>
      obtain ⟨rfl, rfl, rfl⟩ := hrel
      go_wp2_with fail
      rw [Exit.noGoto_ret]
      go_ret
      exact ⟨rfl, Upd.refl _ _⟩
theorem decode_cover (s : ByteArray) (pos : Nat) (h : pos < s.size) (ha : 128 ≤ (s[pos]'h).toNat) : pos + (Utf8.decode s pos).2 ≤ s.size ∧ ∀ j, j < (Utf8.decode s pos).2 → 128 ≤ (s.get! (pos + j)).toNat := by
  have hn : ¬ (s[pos]'h).toNat < 128 := by omega
  have hg : s.get! pos = s[pos]'h := get_at s pos h
  have h0 : 128 ≤ (s.get! (pos + 0)).toNat := by rw [Nat.add_zero, hg]; exact ha
  have one : ∀ j, j < 1 → 128 ≤ (s.get! (pos + j)).toNat := fun j hj => by
    obtain rfl : j = 0 := by omega
    exact h0
  simp only [Utf8.decode, get_at s pos h, hn, if_false]
  split
  · rename_i hc
    simp only [Bool.and_eq_true, beq_iff_eq, decide_eq_true_eq] at hc
    split
    · refine ⟨by show pos + 2 ≤ s.size; omega, fun j hj => ?_⟩
      rcases (by have : j < 2 := hj; omega : j = 0 ∨ j = 1) with rfl | rfl
      · exact h0
      · omega
    · exact ⟨by show pos + 1 ≤ s.size; omega, one⟩
  · split
    · rename_i hc
      simp only [Bool.and_eq_true, beq_iff_eq, decide_eq_true_eq] at hc
      split
      · refine ⟨by show pos + 3 ≤ s.size; omega, fun j hj => ?_⟩
        rcases (by have : j < 3 := hj; omega : j = 0 ∨ j = 1 ∨ j = 2) with rfl | rfl | rfl
        · exact h0
        · omega
        · omega
      · exact ⟨by show pos + 1 ≤ s.size; omega, one⟩
    · split
      · rename_i hc
        simp only [Bool.and_eq_true, beq_iff_eq, decide_eq_true_eq] at hc
        split
        · refine ⟨by show pos + 4 ≤ s.size; omega, fun j hj => ?_⟩
          rcases (by have : j < 4 := hj; omega : j = 0 ∨ j = 1 ∨ j = 2 ∨ j = 3) with rfl | rfl | rfl | rfl
          · exact h0
          · omega
          · omega
          · omega
        · exact ⟨by show pos + 1 ≤ s.size; omega, one⟩
      · exact ⟨by show pos + 1 ≤ s.size; omega, one⟩
theorem decode_rune (s : ByteArray) (pos : Nat) : Lib.validRune ((Utf8.decode s pos).1 : Int) = true := by
  have h := rune_valid (s.extract pos s.size)
  rw [tail_decode, Nat.add_zero] at h
  exact h
theorem valid_both (r : Int) (h : Lib.validRune r = true) : Utf8.valid r = true := by
  unfold Lib.validRune at h
  unfold Utf8.valid
  simp at h ⊢
  omega
/-- No / and no 0 among the first bytes. -/
def NoSl (s : ByteArray) (i : Nat) : Prop := ∀ j, j < i → s.get! j ≠ 47 ∧ s.get! j ≠ 0
theorem NoSl.step {s : ByteArray} {i : Nat} (h : NoSl s i) (hi : i < s.size) (ha : 128 ≤ (s[i]'hi).toNat) : NoSl s (i + (Utf8.decode s i).2) := fun j hj => by
  by_cases hji : j < i
  · exact h j hji
  · have := (decode_cover s i hi ha).2 (j - i) (by omega)
    rw [show i + (j - i) = j by omega] at this
    constructor <;> intro e <;> rw [e] at this <;> simp at this
theorem NoSl.next {s : ByteArray} {i : Nat} (h : NoSl s i) (h1 : s.get! i ≠ 47) (h2 : s.get! i ≠ 0) : NoSl s (i + 1) := fun j hj => by
  by_cases hji : j < i
  · exact h j hji
  · obtain rfl : j = i := by omega
    exact ⟨h1, h2⟩
def slP (s : By) : Bool := s.any fun c => c == 47 || c == 0
theorem get_list (l : By) (j : Nat) (hj : j < l.length) : (bs l).get! j = l[j] := by
  show (bs l).data[j]! = _
  simp [bs, hj]
theorem NoSl.none {l : By} (h : NoSl (bs l) l.length) : slP l = false := by
  rw [slP, List.any_eq_false]
  intro c hc
  obtain ⟨j, hj, rfl⟩ := List.mem_iff_getElem.1 hc
  have := h j hj
  rw [get_list l j hj] at this
  simp [this.1, this.2]
theorem slP_hit (l : By) (j : Nat) (hj : j < l.length) (h : l[j] = 47 ∨ l[j] = 0) : slP l = true := by
  rw [slP, List.any_eq_true]
  exact ⟨l[j], List.getElem_mem hj, by simp [h]⟩
theorem slP_lib (l : By) : (decide (0 ≤ Lib.indexAny l [47, 0])) = slP l := by
  induction l with
  | nil => rfl
  | cons c r ih =>
    rw [Lib.indexAny]
    by_cases hc : c = 47 ∨ c = 0
    · have h1 : ([47, 0] : By).contains c = true := by rcases hc with rfl | rfl <;> rfl
      rw [if_pos h1]
      rcases hc with rfl | rfl <;> simp [slP]
    · have h1 : ¬ ([47, 0] : By).contains c = true := by
        simp at hc ⊢
        exact hc
      rw [if_neg h1]
      have h2 : slP (c :: r) = slP r := by
        simp at hc
        simp [slP, hc.1, hc.2]
      rw [h2, ← ih]
      have h3 := Lib.indexAny_ge [47, 0] r
      split
      · rename_i h4
        rw [beq_iff_eq] at h4
        rw [h4]
      · rename_i h4
        have h5 : Lib.indexAny r [47, 0] ≠ -1 := fun e => h4 (by rw [e]; rfl)
        rw [decide_eq_true (by omega), decide_eq_true (by omega)]
end Go.Proofs.YtbhmeagliebfdaaDoor
