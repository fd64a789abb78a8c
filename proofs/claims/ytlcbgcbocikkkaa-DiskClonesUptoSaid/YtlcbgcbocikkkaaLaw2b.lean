/- docketlaw02.written, full. -/
import Derived.Test.YtlcbgcbocikkkaaLaw2a
import Derived.Test.YtlcbgcbocikkkaaOpen2
import Derived.Deep.DeepCutAuto
import Derived.Deep.CutBlock
namespace Go.Proofs.Ytlcbgcbocikkkaa
open Go.RowKit
set_option linter.unusedSimpArgs false
set_option maxRecDepth 100000

theorem and_three (x : Int) : bits BinOp.and IntKind.i64 x 3 = x % 4 := by
  have h : (BitVec.ofInt 64 x &&& BitVec.ofInt 64 3).toNat = (x % 4).toNat := by
    rw [BitVec.toNat_and, BitVec.toNat_ofInt, BitVec.toNat_ofInt]
    have e : ((3 : Int) % ((2 ^ 64 : Nat) : Int)).toNat = 2 ^ 2 - 1 := by decide
    rw [e, Nat.and_two_pow_sub_one_eq_mod]
    omega
  show IntKind.i64.wrap (((BitVec.ofInt 64 x &&& BitVec.ofInt 64 3).toNat : Nat) : Int) = x % 4
  rw [h, IntKind.wrap_i64]
  omega

def writtenD (l : List OpR) : DSt := l.foldl (fun D o => (D.write (o.i % 4) o.data.data.toList).1) (DSt.new 4)
theorem writtenD_snoc (l : List OpR) (o : OpR) : writtenD (l ++ [o]) = ((writtenD l).write (o.i % 4) o.data.data.toList).1 := by simp [writtenD]
theorem write_any {D : DSt} {i : Int} {data : Bytes} (hd : D.dead = false) (hf : D.fuel = -1) (hs : D.secs.length = 4) (h0 : 0 ≤ i) (h1 : i < 4) :
    (D.write i data).1.dead = false ∧ (D.write i data).1.fuel = -1 ∧ (D.write i data).1.secs = D.secs ∧ (D.write i data).1.waits.length ≤ D.waits.length + 1 ∧
      (D.write i data).1.waits = D.waits ++ (if data.length ≤ 512 then [(i.toNat, pad data)] else []) := by
  by_cases h : data.length ≤ 512
  · rw [DSt.write_eq hd h0 (by omega) h (by omega)]
    exact ⟨hd, by show burnt D.fuel = -1; rw [hf]; decide, rfl, by simp, by rw [if_pos h]⟩
  · rw [DSt.write, if_neg (by rw [hd]; decide), if_neg (by omega), if_pos (by omega)]
    exact ⟨hd, hf, rfl, by simp, by rw [if_neg h]; simp⟩
theorem writtenD_from : ∀ (l : List OpR) (D : DSt), D.dead = false → D.fuel = -1 → D.secs = List.replicate 4 zeros512 →
    ∃ E : DSt, l.foldl (fun D o => (D.write (o.i % 4) o.data.data.toList).1) D = E ∧ E.dead = false ∧ E.fuel = -1 ∧ E.secs = List.replicate 4 zeros512 ∧ E.waits.length ≤ D.waits.length + l.length ∧
      E.waits = D.waits ++ (l.filter (fun o => decide (o.data.size ≤ 512))).map (fun o => ((o.i % 4).toNat, pad o.data.data.toList))
  | [], D, h1, h2, h3 => ⟨D, rfl, h1, h2, h3, Nat.le_refl _, by simp⟩
  | o :: r, D, h1, h2, h3 => by
    have hl : o.data.data.toList.length = o.data.size := by rw [Array.length_toList]; rfl
    obtain ⟨k1, k2, k3, k4, k5⟩ := write_any (data := o.data.data.toList) h1 h2 (by rw [h3]; rfl) (show 0 ≤ o.i % 4 by omega) (show o.i % 4 < 4 by omega)
    obtain ⟨E, e0, e1, e2, e3, e4, e5⟩ := writtenD_from r _ k1 k2 (k3.trans h3)
    refine ⟨E, e0, e1, e2, e3, by simp; omega, ?_⟩
    rw [e5, k5, hl, List.append_assoc]
    congr 1
    by_cases h : o.data.size ≤ 512 <;> simp [h]
theorem writtenD_facts (l : List OpR) : (writtenD l).dead = false ∧ (writtenD l).fuel = -1 ∧ (writtenD l).secs = List.replicate 4 zeros512 ∧ (writtenD l).waits.length ≤ l.length ∧
    (writtenD l).waits = (l.filter (fun o => decide (o.data.size ≤ 512))).map (fun o => ((o.i % 4).toNat, pad o.data.data.toList)) := by
  obtain ⟨E, e0, e1, e2, e3, e4, e5⟩ := writtenD_from l (DSt.new 4) rfl rfl rfl
  rw [writtenD, e0]
  exact ⟨e1, e2, e3, by simpa [DSt.new] using e4, by simpa [DSt.new] using e5⟩

def WrittenR (w0 : World) (b : Nat) (l : List OpR) (wr : World) : Prop :=
  ∃ F, DiskAt wr b (writtenD l) F ∧ Upd (fun _ => False) w0 wr ∧ (∀ j, F j → w0.heap.size ≤ j)

set_option maxHeartbeats 2000000 in
theorem written_ok (xa : Option Addr) (xc : Nat) (l : List OpR) (m : Nat) (hm : m ≤ 200) (w : World) (hl : Sees w 4 (.slice xa l.length xc) l.length (l.flatMap opV)) (ho : ∀ o ∈ l, o.Ok w) :
    Calls Try.prog 27 #[.slice xa l.length xc, .int .i64 m] w fun e w' => ∃ b, e = .returned (.pointer (some ⟨b, 0, none⟩)) ∧ WrittenR w b (l.take m) w' := by
  have hm2 : (m : Int) ≤ 200 := by omega
  have hll : (l.length : Int) ≤ 9223372036854775807 := by have := hl.2.1; unfold maxLen at this; omega
  have Hl := Lib.hid hl
  have Ho := Lib.hid ho
  clear hl ho hm
  go_enter Try.func27, Try.ntmps27
  go_wp2_with fail
  refine (new_disk 4 w).mono ?_
  rintro e w1 ⟨b, F, rfl, hD, hu, hF⟩
  dsimp only
  have hR0 : WrittenR w b (l.take 0) w1 := ⟨F, hD, hu, hF⟩
  clear hD hu hF
  go_upto_block 0 with (fail)
  go_cut [6] (fun i w' => WrittenR w b (l.take m) w')
  case first =>
    go_wp2_with fail
    go_loopw [6] (fun v wr => ∃ k : Nat, k ≤ l.length ∧ k ≤ m ∧ v = .int .i64 k ∧ WrittenR w b (l.take k) wr) (fun v _ => l.length - (intOf v).toNat)
    case atStart => exact ⟨0, Nat.zero_le _, Nat.zero_le _, rfl, hR0⟩
    case round =>
      clear hR0
      obtain ⟨k, hkl, hkm, rfl, hR⟩ := hrel
      by_cases hlt : k < l.length ∧ k < m
      · obtain ⟨h1, h2⟩ := hlt
        have h1' : (k : Int) < (l.length : Int) := by omega
        have h2' : (k : Int) < (m : Int) := by omega
        obtain ⟨o, hoe⟩ : ∃ o, l[k] = o := ⟨_, rfl⟩
        have hok := Ho.out o (hoe ▸ List.getElem_mem h1)
        have htk : l.take (k + 1) = l.take k ++ [o] := by rw [List.take_succ_eq_append_getElem h1, hoe]
        obtain ⟨F, hD, hU, hF⟩ := hR
        obtain ⟨_, _, x', c', e', hc⟩ := Hl.out
        cases e'
        obtain ⟨xb, xo, rfl, hr⟩ := hc (by omega)
        have hcell : ∀ r, r < 4 → wr.cell? ⟨xb, xo + (k * 4 + r), none⟩ = (opV o)[r]? := fun r hr4 => by
          have := flat_cell opV 4 l (fun o _ => opV_length o) k r h1 hr4
          rw [hoe] at this
          have hv : (opV o)[r]? = some ((opV o)[r]'(by rw [opV_length]; exact hr4)) := List.getElem?_eq_getElem _
          rw [hv] at this ⊢
          exact hU.cell_some (hr _ _ this) (fun h => h)
        have hc1 : wr.cell? ⟨xb, xo + k * 4 + 1, none⟩ = some (.int .i64 o.i) := by have := hcell 1 (by decide); rwa [← Nat.add_assoc] at this
        have hc2 : wr.cell? ⟨xb, xo + k * 4 + 2, none⟩ = some (.string o.data) := by have := hcell 2 (by decide); rwa [← Nat.add_assoc] at this
        have hand := and_three o.i
        have Hfin : Hid (∀ X w' D', Upd (fun _ => False) wr X → (writtenD (l.take k)).write (o.i % 4) o.data.data.toList = D' → (∃ F', DiskAt w' b D'.1 F' ∧ Upd F X w' ∧ (∀ j, F' j → F j ∨ X.heap.size ≤ j)) → WrittenR w b (l.take (k + 1)) w') := by
          rintro X w' D' hX rfl ⟨F', a1, a2, a3⟩
          exact ⟨F', by rw [htk, writtenD_snoc]; exact a1, (hU.trans hX).then a2 (fun i hi => .inr (hF i hi)), fun j hj => (a3 j hj).elim (hF j) (fun h => Nat.le_trans (hU.trans hX).size h)⟩
        have hwl := (writtenD_facts (l.take k)).2.2.2.1
        have hwl2 : (writtenD (l.take k)).waits.length ≤ k := Nat.le_trans hwl (by simp; omega)
        have Hwl := Lib.hid hwl2
        have Hdm : Hid (o.data.size ≤ maxLen) := hok.data
        have HFlt : Hid (∀ j, F j → j < wr.heap.size) := hD.lt
        have HD := Lib.hid hD
        clear hcell hr hc hok htk hD hU hF hwl hwl2 hoe
        go_wp2_with fail
        have HS : wr.drew.cell? ⟨xb, xo + k * 4 + 1, none⟩ = some (.int .i64 o.i) ∧ wr.drew.cell? ⟨xb, xo + k * 4 + 2, none⟩ = some (.string o.data) := ⟨hc1, hc2⟩
        refine wp_region_plan (fun w' => w'.cell? ⟨xb, xo + k * 4 + 1, none⟩ = some (.int .i64 o.i) ∧ w'.cell? ⟨xb, xo + k * 4 + 2, none⟩ = some (.string o.data)) 13 [(0, true), (1, true), (2, true), (3, true), (4, true), (5, true), (6, true), (7, true), (8, true), (9, true), (10, true), (11, true), (12, false), (13, false)] (by kernel_rfl) (by kernel_rfl) (fun d _ _ _ _ h => by cases d <;> exact h) HS ?_
        iterate 12 (apply plan_held rfl rfl rfl (by simp) HS; (intro w' hS K hK; go_simp; exact hK))
        refine plan_op rfl rfl (fun K hK => ?_)
        refine wp_string_bytes 5 o.data Try.underlying9 Try.underlying22 Try.underlying5 rfl Hdm.out ?_
        intro c X hX hXs hXe
        have hX' : Upd (fun _ => False) wr X := (Upd.drew (Upd.refl _ _)).trans hX
        refine hK _ _ (fun _ => ⟨hX.cell_some HS.1 (fun h => h), hX.cell_some HS.2 (fun h => h)⟩) ?_
        simp only [Act.put, List.setIfInBounds_toArray, List.set_cons_zero, List.set_cons_succ]
        have hsl : o.data.data.toList.length = o.data.size := by rw [Array.length_toList]; rfl
        obtain ⟨D', hD'⟩ : ∃ D', (writtenD (l.take k)).write (o.i % 4) o.data.data.toList = D' := ⟨_, rfl⟩
        have hW := write_disk (HD.out.upd hX' (fun _ _ h => h)) (o.i % 4) (some ⟨wr.drew.heap.size, 0, none⟩) c o.data.data.toList (by rw [hsl]; exact hXe) (fun x hx _ h => by cases hx; exact Nat.lt_irrefl _ (HFlt.out _ h)) (by have := Hwl.out; omega) (D' := D'.1) (r := D'.2) (by rw [hD'])
        rw [hsl] at hW
        have HW := Lib.hid hW
        have HD' := Lib.hid hD'
        clear hW hD' hsl hXe hXs
        refine plan_op rfl rfl (fun K hK => ?_)
        go_simp
        refine HW.out.mono ?_
        rintro e w3 ⟨rfl, h3⟩
        dsimp only
        have HR := Lib.hid (Hfin.out X w3 D' hX' HD'.out h3)
        clear h3
        refine hK _ _ (fun h => absurd rfl h) ?_
        refine plan_nil ?_
        go_wp2_with fail
        exact ⟨⟨k + 1, by omega, by omega, by go_num, HR.out⟩, by simp [intOf]; omega⟩
      · have hR2 : WrittenR w b (l.take m) wr := by
          have : l.take k = l.take m := by
            by_cases h : k < l.length
            · rw [show k = m by omega]
            · rw [List.take_of_length_le (by omega), List.take_of_length_le (by omega)]
          rw [← this]; exact hR
        have HR := Lib.hid hR2
        clear hR hR2
        rcases (by omega : (l.length : Int) ≤ (k : Int) ∨ (k : Int) < (l.length : Int) ∧ (m : Int) ≤ (k : Int)) with h1 | ⟨h1, h2⟩
        · go_wp2_with fail
          go_meet
          exact HR.out
        · go_wp2_with fail
          go_meet
          exact HR.out
  case rest =>
    obtain ⟨F, hD, hU, hF⟩ := hcut
    have HR : Hid (WrittenR w b (l.take m) wc) := ⟨F, hD, hU, hF⟩
    clear hD hU hF hR0
    go_wp2_with fail
    go_ret
    exact ⟨b, rfl, HR.out⟩
end Go.Proofs.Ytlcbgcbocikkkaa
