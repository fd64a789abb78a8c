/- cond: the reader's between. -/
import Derived.Test.YtbhmeagliebfdaaDoorGc1
import Derived.Lib.IndexBytes
namespace Go.Proofs.YtbhmeagliebfdaaDoor
open Go Go.RowKit
set_option linter.unusedSimpArgs false
set_option linter.unusedVariables false
set_option maxRecDepth 100000
theorem cut_ok {w : World} (s : By) (e : UInt8) (hs : s.length < 4294967281) (hG : Glob w) : Calls Tryd.prog 33 #[.string (bs s), .string (bs [e])] w fun en w' =>
    ((0 ≤ Lib.indexByte s e ∧ en = .returned (.tuple #[.string (bs (s.take (Lib.indexByte s e).toNat)), .string (bs (s.drop ((Lib.indexByte s e).toNat + 1))), .bool true])) ∨ (Lib.indexByte s e < 0 ∧ en = .returned (.tuple #[.string (bs s), .string (bs []), .bool false]))) ∧ Upd (fun _ => False) w w' := by
  obtain ⟨_, m, hm⟩ := hG
  refine (Sh.strings_Cut (bs s) (bs [e]) m w (by rw [bs_size]; exact hs) hm).mono ?_
  rintro en w' ⟨rfl, q, rfl⟩
  refine ⟨?_, drewN_upd w q⟩
  rw [bs_data, bs_data, Lib.cut, Lib.index_one]
  by_cases h : 0 ≤ Lib.indexByte s e
  · rw [if_pos h]
    exact .inl ⟨h, rfl⟩
  · rw [if_neg h]
    exact .inr ⟨by omega, rfl⟩
/-- What between answers. -/
def BtwR (w : World) (rb : Nat) (res : Option (By × By)) (en : Ending) (w' : World) : Prop :=
  ∃ (t r : By) (ok : Bool), en = .returned (.tuple #[.string (bs t), .bool ok]) ∧ RdAt w' rb r ∧ Upd (fun q => q = rb) w w' ∧ ((ok = true ∧ res = some (t, r)) ∨ (ok = false ∧ res = none))
set_option maxHeartbeats 2000000 in
theorem between_ok {w : World} {rb : Nat} {s : By} (h : RdAt w rb s) (hs : s.length ≤ 1000000000) (hG : Glob w) (hrb : 3 ≤ rb) (e : UInt8) (bad : By) (low : Nat) (hl : low ≤ 126)
    (hca : ∀ (l : By) (w : World), Calls Tryd.prog 34 #[.string (bs l), .string (bs bad)] w fun en w' => en = .returned (.bool (Lib.containsAny l bad)) ∧ Upd (fun _ => False) w w') :
    Calls Tryd.prog 21 #[.pointer (some ⟨rb, 0, none⟩), .string (bs [e]), .string (bs bad), .int .u8 (low : Nat)] w fun en w' => BtwR w rb (betweenP e bad low s) en w' := by
  have c0 := h.cell 0
  have hct := cut_ok s e (by omega) hG
  simp only [List.getElem?_cons_zero] at c0
  have hrg := indexByte_range s e
  obtain ⟨y, hy⟩ : ∃ y, Lib.indexByte s e = y := ⟨_, rfl⟩
  have HRes : Hid (betweenP e bad low s = if y < 0 then none else if s.take y.toNat = [] then none else if Lib.containsAny (s.take y.toNat) bad = true then none
    else if (s.take y.toNat).all (fun c => decide (low ≤ c.toNat ∧ c.toNat ≤ 126)) = true then some (s.take y.toNat, s.drop (y.toNat + 1)) else none) := Lib.hid (by rw [betweenP, hy])
  rw [hy] at hct hrg
  obtain ⟨S, hS⟩ : ∃ S, bs s = S := ⟨_, rfl⟩
  obtain ⟨E, hE⟩ : ∃ E, bs [e] = E := ⟨_, rfl⟩
  obtain ⟨D, hD⟩ : ∃ D, bs bad = D := ⟨_, rfl⟩
  rw [hS] at c0 hct
  rw [hE] at hct ⊢
  rw [hD] at hca ⊢
  have H := Lib.hid (And.intro hct (And.intro hca (And.intro h (And.intro hs hS))))
  have hlI : (low : Int) ≤ 126 := by omega
  clear hct hca h hy hE hD hG
  go_enter Tryd.func21, Tryd.ntmps21
  go_wp2_with fail
  refine H.out.1.mono ?_
  rintro en w1 ⟨hcase, hu⟩
  have HU := Lib.hid hu
  clear hu c0
  rcases hcase with ⟨hy0, rfl⟩ | ⟨hy0, rfl⟩
  · dsimp only
    obtain ⟨b, hb⟩ : ∃ b, s.take y.toNat = b := ⟨_, rfl⟩
    obtain ⟨r, hr⟩ : ∃ r, s.drop (y.toNat + 1) = r := ⟨_, rfl⟩
    rw [hb, hr]
    have hres := HRes.out
    rw [if_neg (by omega), hb, hr] at hres
    have HRes2 := Lib.hid hres
    clear hres
    have hbl : b.length ≤ 1000000000 := by rw [← hb, List.length_take]; have := H.out.2.2.2.1; omega
    have n1 := bs_nil_iff b
    have hbz := bs_size b
    have hcb := H.out.2.1 b w1
    obtain ⟨B, hB⟩ : ∃ B, bs b = B := ⟨_, rfl⟩
    obtain ⟨R, hR⟩ : ∃ R, bs r = R := ⟨_, rfl⟩
    rw [hB] at n1 hbz hcb ⊢
    rw [hR]
    have HB := Lib.hid (And.intro hcb (And.intro hB (And.intro hR (And.intro hbz hbl))))
    clear hcb hB hR hbz hbl hb hr
    by_cases b1 : b = []
    · rw [decide_eq_true b1] at n1
      have HN : Hid (betweenP e bad low s = none) := Lib.hid (by rw [HRes2.out, if_pos b1])
      clear b1
      go_wp2_with fail
      go_ret2
      exact ⟨[], s, false, rfl, H.out.2.2.1.upd HU.out (fun h => h), HU.out.mono (fun _ _ h => h.elim), .inr ⟨rfl, HN.out⟩⟩
    rw [decide_eq_false b1] at n1
    cases hcv : Lib.containsAny b bad
    · rw [hcv] at HB
      have HRes3 : Hid (betweenP e bad low s = if b.all (fun c => decide (low ≤ c.toNat ∧ c.toNat ≤ 126)) = true then some (b, r) else none) := Lib.hid (by rw [HRes2.out, if_neg b1, hcv, if_neg (by decide)])
      clear hcv b1 HRes HRes2
      go_wp2_with fail
      refine HB.out.1.mono ?_
      rintro en w2 ⟨rfl, hu⟩
      dsimp only
      have HU2 := Lib.hid (HU.out.trans hu)
      clear hu
      obtain ⟨n, hn⟩ : ∃ n, B.size = n := ⟨_, rfl⟩
      have hnI : (n : Int) ≤ 1000000000 := by have := HB.out.2.2.2; omega
      go_wp2_with fail
      go_loopw [37] (fun iv wr => ∃ (i : Nat), i ≤ n ∧ iv = .int .i64 i ∧ Hid (wr = w2 ∧ (b.take i).all (fun c => decide (low ≤ c.toNat ∧ c.toNat ≤ 126)) = true)) (fun iv _ => n - (intOf iv).toNat)
      case atStart => exact ⟨0, Nat.zero_le _, rfl, Lib.hid ⟨rfl, by simp⟩⟩
      case round =>
        obtain ⟨i, hi, rfl, HR⟩ := hrel
        obtain ⟨hwr, htk0⟩ := HR.out
        subst hwr
        by_cases hlt : i < n
        · have hltI : (i : Int) < (n : Int) := by omega
          have hil : i < b.length := by have := HB.out.2.2.2.1; omega
          have hiS : i < B.size := by rw [hn]; exact hlt
          obtain ⟨x, hx⟩ : ∃ x, B[i]'hiS = x := ⟨_, rfl⟩
          have hsx : b[i] = x := by rw [← hx, get_bs HB.out.2.1 i hiS hil]
          have htk : (b.take (i + 1)).all (fun c => decide (low ≤ c.toNat ∧ c.toNat ≤ 126)) = decide (low ≤ x.toNat ∧ x.toNat ≤ 126) := by
            rw [List.take_succ_eq_append_getElem hil, hsx, List.all_append, htk0]; simp
          have hbad : ¬ (low ≤ x.toNat ∧ x.toNat ≤ 126) → betweenP e bad low s = none := fun hb => by
            rw [HRes3.out, if_neg]
            rw [List.all_eq_true]
            intro h
            have := h x (hsx ▸ List.getElem_mem hil)
            rw [decide_eq_true_eq] at this
            exact hb this
          obtain ⟨z, hz⟩ : ∃ z : Int, ((B[i]'hiS).toNat : Int) = z := ⟨_, rfl⟩
          have hxz : (x.toNat : Int) = z := by rw [← hx]; exact hz
          have HX := Lib.hid (And.intro htk (And.intro hbad hxz))
          clear htk hbad hxz hsx hx hil htk0 HR
          by_cases a1 : z < (low : Int)
          · have HN : Hid (betweenP e bad low s = none) := Lib.hid (HX.out.2.1 (fun h => by have := HX.out.2.2; omega))
            go_wp2_with fail
            go_ret2
            exact ⟨[], s, false, rfl, H.out.2.2.1.upd HU2.out (fun h => h), HU2.out.mono (fun _ _ h => h.elim), .inr ⟨rfl, HN.out⟩⟩
          by_cases a2 : 126 < z
          · have HN : Hid (betweenP e bad low s = none) := Lib.hid (HX.out.2.1 (fun h => by have := HX.out.2.2; omega))
            go_wp2_with fail
            go_ret2
            exact ⟨[], s, false, rfl, H.out.2.2.1.upd HU2.out (fun h => h), HU2.out.mono (fun _ _ h => h.elim), .inr ⟨rfl, HN.out⟩⟩
          have HJ : Hid ((b.take (i + 1)).all (fun c => decide (low ≤ c.toNat ∧ c.toNat ≤ 126)) = true) := Lib.hid (by rw [HX.out.1]; exact decide_eq_true (by have := HX.out.2.2; omega))
          clear HX
          go_wp2_with fail
          exact ⟨⟨i + 1, by omega, by go_num, Lib.hid ⟨trivial, HJ.out⟩⟩, by simp [intOf] <;> omega⟩
        · obtain rfl : i = n := by omega
          rw [List.take_of_length_le (by have := HB.out.2.2.2.1; omega)] at htk0
          have HN : Hid (betweenP e bad low s = some (b, r)) := Lib.hid (by rw [HRes3.out, if_pos htk0])
          have h1 := H.out.2.2.1.upd HU2.out (fun h => h)
          have d0 := CellsA.cell h1 0
          have f0 := CellsA.frozen h1 0
          simp only [List.getElem?_cons_zero] at d0
          rw [H.out.2.2.2.2] at d0
          have HF : Hid (RdAt (wr.setCell ⟨rb, 0, none⟩ (.string R)) rb r ∧ Upd (fun q => q = rb) w (wr.setCell ⟨rb, 0, none⟩ (.string R)) ∧ bs b = B) := Lib.hid ⟨by
            have := CellsA.set h1 0 (.string R)
            rw [RdAt, HB.out.2.2.1]; exact this, (HU2.out.mono (fun _ _ h => h.elim)).setCell _ (.inl rfl), HB.out.2.1⟩
          clear h1 HR htk0 HB H HRes3
          go_wp2_with fail
          go_ret2
          exact ⟨b, r, true, by rw [HF.out.2.2]; rfl, HF.out.1, HF.out.2.1, .inl ⟨rfl, HN.out⟩⟩
    · rw [hcv] at HB
      have HN : Hid (betweenP e bad low s = none) := Lib.hid (by rw [HRes2.out, if_neg b1, hcv, if_pos rfl])
      clear hcv b1
      go_wp2_with fail
      refine HB.out.1.mono ?_
      rintro en w2 ⟨rfl, hu⟩
      dsimp only
      have HU2 := Lib.hid (HU.out.trans hu)
      clear hu
      go_wp2_with fail
      go_ret2
      exact ⟨[], s, false, rfl, H.out.2.2.1.upd HU2.out (fun h => h), HU2.out.mono (fun _ _ h => h.elim), .inr ⟨rfl, HN.out⟩⟩
  · dsimp only
    have HN : Hid (betweenP e bad low s = none) := Lib.hid (by rw [HRes.out, if_pos hy0])
    go_wp2_with fail
    go_ret2
    exact ⟨[], s, false, rfl, H.out.2.2.1.upd HU.out (fun h => h), HU.out.mono (fun _ _ h => h.elim), .inr ⟨rfl, HN.out⟩⟩
end Go.Proofs.YtbhmeagliebfdaaDoor
