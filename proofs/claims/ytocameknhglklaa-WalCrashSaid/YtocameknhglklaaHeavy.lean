/- docketlaw03.heavy: it answers. -/
import Derived.Test.YtocameknhglklaaKOpen3
import Derived.Test.YtocameknhglklaaKBase
namespace Go.Proofs.Ytocameknhglklaa
open Go.RowKit
set_option linter.unusedSimpArgs false
set_option linter.unusedVariables false
set_option maxRecDepth 100000

/-- The facts of an Op in a script. -/
theorem wop_at {xa : Option Addr} {xc : Nat} {l : List WOp} {w : World} (hl : Sees w 3 (.slice xa l.length xc) l.length (l.flatMap wopV)) (k : Nat) (hk : k < l.length) :
    ∃ xb xo, xa = some ⟨xb, xo, none⟩ ∧ w.rangeAt xb (xo + k * 3) (wopV l[k]) := by
  obtain ⟨_, _, x', c', e', hc⟩ := hl
  cases e'
  obtain ⟨xb, xo, rfl, hr⟩ := hc (by omega)
  refine ⟨xb, xo, rfl, rangeAt.sub hr (k * 3) ?_⟩
  rw [wopV_length]
  exact flat_piece wopV 3 l k hk (fun o _ => wopV_length o)
set_option maxHeartbeats 2000000 in
theorem heavy_ok (xa : Option Addr) (xc : Nat) (l : List WOp) (w : World) (hW : WopsAt w xa xc l) :
    Calls Try.prog 28 #[.slice xa l.length xc] w fun e w' => ∃ b, e = .returned (.bool b) ∧ w = w' := by
  obtain ⟨m, hmm⟩ : ∃ m, l.length = m := ⟨_, rfl⟩
  have H := Lib.hid (And.intro hW hmm)
  have hm := hW.1.2.1
  rw [hmm] at hm
  have hmI : (m : Int) ≤ 9223372036854775807 := by simp only [maxLen] at hm; omega
  rw [hmm]
  clear hW hmm hm
  go_enter Try.func28, Try.ntmps28
  go_wp2_with fail
  go_loopw [3, 4] (fun n i wr => ∃ (k : Nat) (z : Int), k ≤ m ∧ i = .int .i64 k ∧ n = .int .i64 z ∧ w = wr) (fun _ i _ => m - (intOf i).toNat)
  case atStart => exact ⟨0, 0, Nat.zero_le _, rfl, rfl, rfl⟩
  case round =>
    obtain ⟨k, z, hk, rfl, rfl, rfl⟩ := hrel
    by_cases hlt : k < m
    · obtain ⟨o, ho⟩ : ∃ o, l[k]'(by rw [H.out.2]; exact hlt) = o := ⟨_, rfl⟩
      obtain ⟨xb, xo, rfl, hr⟩ := wop_at H.out.1.1 k (by rw [H.out.2]; exact hlt)
      rw [ho] at hr
      have hb := (H.out.1.2.1 o (ho ▸ List.getElem_mem _)).batch
      obtain ⟨bl, hbl⟩ : ∃ bl, o.batch.length = bl := ⟨_, rfl⟩
      have hbm := hb.2.1
      rw [hbl] at hbm
      have hblI : (bl : Int) ≤ 9223372036854775807 := by simp only [maxLen] at hbm; omega
      have hcell : w.cell? ⟨xb, xo + k * 3 + 1, none⟩ = some (.slice o.ba bl o.bc) := by rw [← hbl]; exact rangeAt.cell hr 1 rfl
      obtain ⟨ba, hba⟩ : ∃ ba, o.ba = ba := ⟨_, rfl⟩
      obtain ⟨bc, hbc⟩ : ∃ bc, o.bc = bc := ⟨_, rfl⟩
      rw [hba, hbc] at hcell hb
      have hkm : (k : Int) < (m : Int) := by omega
      have Hb := Lib.hid (And.intro hb hbl)
      clear hb hbl hbm hr ho hba hbc
      go_wp2_with fail
      go_loopw [3, 5] (fun n i wr => ∃ (j : Nat) (z : Int), j ≤ bl ∧ i = .int .i64 j ∧ n = .int .i64 z ∧ w = wr) (fun _ i _ => bl - (intOf i).toNat)
      case atStart => exact ⟨0, z, Nat.zero_le _, rfl, rfl, rfl⟩
      case round =>
        clear hlt
        obtain ⟨j, z', hj, rfl, rfl, rfl⟩ := hrel
        by_cases hlj : j < bl
        · have hjb : (j : Int) < (bl : Int) := by omega
          have q1 : decide ((j : Int) < (bl : Int)) = true := by simp; omega
          obtain ⟨_, _, x', c', e', hc⟩ := Hb.out.1
          cases e'
          obtain ⟨gb, go, rfl, hrr⟩ := hc (by rw [Hb.out.2]; omega)
          obtain ⟨r, hr⟩ : ∃ r, o.batch[j]'(by rw [Hb.out.2]; exact hlj) = r := ⟨_, rfl⟩
          have hcj : w.cell? ⟨gb, go + j, none⟩ = some (.string r) := hrr j _ (by simp [strsV, hr, Hb.out.2, hlj])
          have Hq := Lib.hid hr
          clear hc hrr hr
          go_wp2_with fail
          · exact ⟨⟨j + 1, _, by omega, by go_num, rfl, trivial⟩, by simp [intOf]; omega⟩
          · exact ⟨⟨k + 1, _, by omega, by go_num, rfl, trivial⟩, by simp [intOf]; omega⟩
        · obtain rfl : j = bl := by omega
          go_wp2_with fail
          exact ⟨⟨k + 1, _, by omega, by go_num, rfl, trivial⟩, by simp [intOf]; omega⟩
    · obtain rfl : k = m := by omega
      clear hlt
      go_wp2_with fail
      go_ret
      exact ⟨_, rfl, rfl⟩
end Go.Proofs.Ytocameknhglklaa
