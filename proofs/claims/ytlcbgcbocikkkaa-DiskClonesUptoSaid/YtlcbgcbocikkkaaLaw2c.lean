/- docketlaw02.full. -/
import Derived.Test.YtlcbgcbocikkkaaLaw2b
namespace Go.Proofs.Ytlcbgcbocikkkaa
open Go.RowKit
set_option linter.unusedSimpArgs false
set_option maxRecDepth 100000

theorem conv_fact (v : Value) (bs : Bytes) (w : World) (h : Sees w 1 v bs.length (bvs bs)) : (convert 22 9 v).run Try.prog w = .ok (.string (strV bs)) w :=
  run_bytes_string 22 5 9 Try.underlying22 Try.underlying5 Try.underlying9 v bs h

set_option maxHeartbeats 2000000 in
theorem full_true (b1 b2 : Nat) (D1 D2 : DSt) (F1 F2 : Nat → Prop) (w : World) (h1 : DiskAt w b1 D1 F1) (h2 : DiskAt w b2 D2 F2) (a1 : D1.dead = false) (a2 : D2.dead = false) (hn : D1.secs.length = D2.secs.length)
    (m1 : D1.waits.length < 100000000000) (m2 : D2.waits.length < 100000000000)
    (heq : ∀ i : Nat, i < D1.secs.length → D1.read i = D2.read i ∧ D1.durable i = D2.durable i) :
    Calls Try.prog 28 #[.pointer (some ⟨b1, 0, none⟩), .pointer (some ⟨b2, 0, none⟩)] w fun e w' => e = .returned (.bool true) ∧ Upd (fun _ => False) w w' := by
  have hmx := h1.1.most
  have Hm := Lib.hid (And.intro m1 (And.intro m2 hmx))
  have Heq := Lib.hid heq
  have Hn := Lib.hid hn
  have Ha := Lib.hid (And.intro a1 a2)
  have hR0 : DiskAt w b1 D1 F1 ∧ DiskAt w b2 D2 F2 ∧ Upd (fun _ => False) w w := ⟨h1, h2, Upd.refl _ _⟩
  clear h1 h2 a1 a2 hn m1 m2 heq hmx
  go_enter Try.func28, Try.ntmps28
  go_wp2_with fail
  go_loopw [5] (fun v wr => ∃ i : Nat, i ≤ D1.secs.length ∧ v = .int .i64 i ∧ DiskAt wr b1 D1 F1 ∧ DiskAt wr b2 D2 F2 ∧ Upd (fun _ => False) w wr) (fun v _ => D1.secs.length - (intOf v).toNat)
  case atStart => exact ⟨0, Nat.zero_le _, rfl, hR0⟩
  case round =>
    clear hR0
    obtain ⟨i, hi, rfl, h1, h2, hU⟩ := hrel
    have hi2 : (i : Int) ≤ 4096 := by have := Hm.out.2.2; omega
    go_wp2_with fail
    refine (size_disk h1).mono ?_
    rintro e w' ⟨rfl, rfl⟩
    dsimp only
    by_cases hlt : i < D1.secs.length
    · have hlt2 : (i : Int) < (D1.secs.length : Int) := by omega
      obtain ⟨e1, e2⟩ := Heq.out i hlt
      have r1 : D1.read i = (lastOf D1.waits (i : Int).toNat (D1.secs.getD (i : Int).toNat []), 0) := DSt.read_eq Ha.out.1 (by omega) (by omega)
      obtain ⟨rb, hrb⟩ : ∃ rb, D1.read i = (rb, 0) := ⟨_, r1⟩
      obtain ⟨db, hdb⟩ : ∃ db, D1.durable i = (db, 0) := ⟨_, by rw [DSt.durable, if_neg (by omega)]⟩
      have hrb2 : D2.read i = (rb, 0) := e1 ▸ hrb
      have hdb2 : D2.durable i = (db, 0) := e2 ▸ hdb
      have Hp := Lib.hid (And.intro hrb (And.intro hdb (And.intro hrb2 hdb2)))
      have H1 := Lib.hid h1
      have H2 := Lib.hid h2
      clear e1 e2 r1 hrb hdb hrb2 hdb2 h1 h2
      go_wp2_with fail
      refine (read_disk H1.out Hm.out.1 i Hp.out.1).mono ?_
      rintro e w1 ⟨xa, xc, rfl, q1, u1, hz⟩
      clear hz
      dsimp only
      have H1 := Lib.hid (H1.out.upd u1 (fun _ _ h => h))
      have H2 := Lib.hid (H2.out.upd u1 (fun _ _ h => h))
      go_wp2_with fail
      refine (read_disk H2.out Hm.out.2.1 i Hp.out.2.2.1).mono ?_
      rintro e w2 ⟨xb, xd, rfl, q2, u2, hz⟩
      clear hz
      dsimp only
      have H1 := Lib.hid (H1.out.upd u2 (fun _ _ h => h))
      have H2 := Lib.hid (H2.out.upd u2 (fun _ _ h => h))
      have q1 := (sees_of_row q1).upd u2 (fun _ _ _ h => h)
      go_wp2_with fail
      refine (durable_disk H1.out i Hp.out.2.1).mono ?_
      rintro e w3 ⟨xe, xf, rfl, q3, u3⟩
      dsimp only
      have H1 := Lib.hid (H1.out.upd u3 (fun _ _ h => h))
      have H2 := Lib.hid (H2.out.upd u3 (fun _ _ h => h))
      have q1 := q1.upd u3 (fun _ _ _ h => h)
      have q2 := (sees_of_row q2).upd u3 (fun _ _ _ h => h)
      go_wp2_with fail
      refine (durable_disk H2.out i Hp.out.2.2.2).mono ?_
      rintro e w4 ⟨xg, xh, rfl, q4, u4⟩
      dsimp only
      have H1 := Lib.hid (H1.out.upd u4 (fun _ _ h => h))
      have H2 := Lib.hid (H2.out.upd u4 (fun _ _ h => h))
      have q1 := conv_fact _ rb w4 (q1.upd u4 (fun _ _ _ h => h))
      have q2 := conv_fact _ rb w4 (q2.upd u4 (fun _ _ _ h => h))
      have q3 := conv_fact _ db w4 ((sees_of_row q3).upd u4 (fun _ _ _ h => h))
      have q4 := conv_fact _ db w4 (sees_of_row q4)
      have HU := Lib.hid (((hU.trans u1).trans u2).trans (u3.trans u4))
      clear u1 u2 u3 u4 hU
      go_wp2_with fail
      exact ⟨⟨i + 1, by omega, by go_num, H1.out, H2.out, HU.out⟩, by simp [intOf]; omega⟩
    · obtain rfl : i = D1.secs.length := by omega
      have H1 := Lib.hid h1
      have H2 := Lib.hid h2
      have HU := Lib.hid hU
      clear h1 h2 hU
      go_wp2_with fail
      refine (size_disk H1.out).mono ?_
      rintro e w' ⟨rfl, rfl⟩
      dsimp only
      go_wp2_with fail
      refine (size_disk H2.out).mono ?_
      rintro e w' ⟨rfl, rfl⟩
      dsimp only
      rw [← Hn.out]
      go_wp2_with fail
      go_ret
      exact ⟨by simp, HU.out⟩
end Go.Proofs.Ytlcbgcbocikkkaa
