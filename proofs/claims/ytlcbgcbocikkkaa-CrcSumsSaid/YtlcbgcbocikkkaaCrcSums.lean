/- The walk of CrcSums. -/
import Derived.Test.YtlcbgcbocikkkaaCrcRef
import Derived.Test.YtlcbgcbocikkkaaOpenB
import Derived.Test.YtlcbgcbocikkkaaOps
namespace Go.Proofs.Ytlcbgcbocikkkaa
open Go.RowKit
open Go.ChangeShapes Go.WideShapes Go.ChangeAt Go.Deep
set_option linter.unusedSimpArgs false
set_option linter.unusedVariables false
set_option maxRecDepth 100000

/-- A slice of bytes in a cell. -/
structure BytesR where
  ka : Option Addr
  bs : List UInt8
  kc : Nat
instance : Inhabited BytesR := ⟨⟨none, [], 0⟩⟩
def BytesR.val (o : BytesR) : Value := .slice o.ka o.bs.length o.kc
structure BytesR.Ok (w : World) (o : BytesR) : Prop where
  sees : Sees w 1 o.val o.bs.length (bvs o.bs)
  lt : ∀ x, o.ka = some x → 0 < o.bs.length → x.block < w.heap.size

section
variable {H : Type} {enc : TypeId × Value → H} {W : World} {base : Nat}
theorem open_bytes_cell {n : Nat} {cs : List Value} {d : DataW H × List MemPlace} (h : DataW.trod enc Try.prog W 0 (fun _ => true) true n 22 cs = some d) : ∃ o : BytesR, cs = [o.val] ∧ o.Ok W := by
  rcases open_ints Try.underlying22 Try.underlying5 (by kernel_rfl) h with ⟨hcs, hx⟩ | ⟨x, l, c, zs, hcs, _, hl, hm, hz, hx, hcell, hwz⟩
  · exact ⟨⟨none, [], 0⟩, hcs, Sees.zero _ _ _ _, fun x hx => by cases hx⟩
  · have hz' : zs.length = c := by simpa using hz
    have hlen : ((zs.take l).map (fun n => UInt8.ofNat n.toNat)).length = l := by simp; omega
    have hc : ∀ i, i < l → W.cell? (x.add i) = some (.int .u8 (zs.getD i 0)) := fun i hi => hcell i (by omega)
    obtain ⟨h1, h2⟩ := sees_of_cells (cap := c) (Nat.le_trans hl hm) hc
    have e : (List.range l).map (fun i => Value.int .u8 (zs.getD i 0)) = bvs ((zs.take l).map (fun n => UInt8.ofNat n.toNat)) := by
      apply List.ext_getElem?
      intro i
      by_cases hi : i < l
      · have hiz : i < zs.length := by omega
        have hw := hwz zs[i] (List.getElem_mem hiz)
        have hb := bounds_u8 hw
        simp [bvs, hi, hiz, bv, List.getElem?_take]
        omega
      · rw [List.getElem?_eq_none (by simpa using hi), List.getElem?_eq_none (by rw [bvs_length, hlen]; omega)]
    rw [e] at h1
    refine ⟨⟨some x, (zs.take l).map (fun n => UInt8.ofNat n.toNat), c⟩, by rw [hcs]; simp only [BytesR.val, hlen], ?_, fun y hy h0 => by cases hy; exact h2 (by rw [hlen] at h0; exact h0)⟩
    simp only [BytesR.val, hlen]
    exact h1
theorem open_byteses {v : Value} {d : DataW H} {p : List MemPlace} (hv : Value.okWide Try.prog W .any base 63 v) (h : DataW.Trod enc Try.prog W 0 (fun _ => true) true 63 v d p) :
    ∃ (a : Option Addr) (c : Nat) (l : List BytesR), v = .slice a l.length c ∧ (Sees W 1 (.slice a l.length c) l.length (l.map BytesR.val) ∧ ∀ o ∈ l, o.Ok W) ∧ (∀ x, a = some x → 0 < l.length → x.block < W.heap.size) := by
  obtain ⟨a0, len, cap, rfl⟩ := okWide_slice Try.underlying63 hv
  obtain ⟨fuel, hf⟩ := h
  rcases open_slice1 Try.underlying63 (by kernel_rfl) hf with ⟨hcs, _⟩ | ⟨x, l, c, m, n, V, D, Pl, hcs, _, hl, hm, hmm, _, hcell⟩
  · simp [Value.cells] at hcs
    obtain ⟨rfl, rfl, rfl⟩ := hcs
    exact ⟨none, 0, [], rfl, ⟨Sees.zero _ _ _ _, fun o ho => by cases ho⟩, fun x hx => by cases hx⟩
  · simp [Value.cells] at hcs
    obtain ⟨rfl, rfl, rfl⟩ := hcs
    have hm' : m = cap := by simpa using hmm
    have hb : ∀ i, i < len → ∃ o : BytesR, o.Ok W ∧ V i = o.val := fun i hi => by
      obtain ⟨o, e, ho⟩ := open_bytes_cell (hcell i (by omega)).2
      exact ⟨o, ho, by simpa using e⟩
    obtain ⟨f, hf'⟩ := choose_lt hb
    have hc : ∀ i, i < len → W.cell? (x.add i) = some ((f i).val) := fun i hi => by rw [(hcell i (by omega)).1, (hf' i hi).2]
    obtain ⟨h1, h2⟩ := sees_of_cells (cap := cap) (Nat.le_trans hl hm) hc
    refine ⟨some x, cap, (List.range len).map f, by simp, ⟨?_, fun o ho => ?_⟩, fun y hy h0 => by cases hy; exact h2 (by simpa using h0)⟩
    · have e : (List.range len).map (fun i => (f i).val) = ((List.range len).map f).map BytesR.val := by simp
      rw [e] at h1
      simpa using h1
    · simp only [List.mem_map, List.mem_range] at ho
      obtain ⟨i, hi, rfl⟩ := ho
      exact (hf' i hi).1
end
theorem BytesR.Ok.upd {w w' : World} {o : BytesR} (h : o.Ok w) (hu : Upd (fun _ => False) w w') : o.Ok w' :=
  ⟨h.sees.upd hu (fun _ _ _ h => h), fun x hx h0 => Nat.lt_of_lt_of_le (h.lt x hx h0) hu.size⟩

set_option maxHeartbeats 4000000 in
theorem crcSums_walk (xa : Option Addr) (ca : Nat) (l : List BytesR) (w : World) (hl : Sees w 1 (.slice xa l.length ca) l.length (l.map BytesR.val)) (ho : ∀ o ∈ l, o.Ok w) :
    Calls Try.prog 13 #[.slice xa l.length ca] w fun e w' => e = .returned (.bool true) ∧ Below w.heap.size w w' := by
  have hll : (l.length : Int) ≤ 9223372036854775807 := by have := hl.2.1; unfold maxLen at this; omega
  have Hl := Lib.hid (And.intro hl ho)
  have kc := fun (w : World) (C : Array Value) (n c : Nat) => Lib.run_convert_bytes_const (P := Try.prog) w 22 5 C n c Try.underlying22 Try.underlying5
  clear hl ho
  go_enter Try.func13, Try.ntmps13
  go_wp2_with fail
  refine (crc_fixed w).mono ?_
  rintro e w0 ⟨rfl, hu0⟩
  dsimp only
  have hT := tab_new w0
  have hU : Upd (fun _ => False) w (w0.alloc (.cells Try.zeroCells81 81)) := hu0.alloc _
  obtain ⟨b, hb⟩ : ∃ b, w0.heap.size = b := ⟨_, rfl⟩
  have hbw : w.heap.size ≤ b := by rw [← hb]; exact hu0.size
  clear hu0
  go_upto_region 4 with fail
  rw [hb] at hT
  generalize w0.alloc (.cells Try.zeroCells81 81) = w1 at *
  have HR0 : Hid (Ready w1 b (0 : Nat) ∧ Upd (fun _ => False) w w1) := ⟨.inl ⟨_, hT⟩, hU⟩
  have Hbw := Lib.hid hbw
  clear hT hU hb hbw
  go_wp2_with fail
  go_loopw [4, 5] (fun v _ wr => ∃ i : Nat, i ≤ l.length ∧ v = .int .i64 i ∧ Ready wr b (i : Int) ∧ Upd (fun _ => False) w wr) (fun v _ _ => l.length - (intOf v).toNat)
  case atStart => exact ⟨0, by omega, rfl, HR0.out⟩
  case round =>
    clear HR0
    obtain ⟨i, hi, rfl, hR, hU⟩ := hrel
    by_cases hlt : i < l.length
    · have hlt2 : (i : Int) < (l.length : Int) := by omega
      obtain ⟨o, hoe⟩ : ∃ o, l[i] = o := ⟨_, rfl⟩
      have hok0 := Hl.out.2 o (hoe ▸ List.getElem_mem hlt)
      have hok := hok0.upd hU
      obtain ⟨_, _, x', c', e', hc⟩ := Hl.out.1
      cases e'
      obtain ⟨g, off, rfl, hr⟩ := hc (by omega)
      have hcw : w.cell? ⟨g, off + i, none⟩ = some o.val := hr i _ (by simp [hlt, hoe])
      have hcell : wr.cell? ⟨g, off + i, none⟩ = some o.val := hU.cell_some hcw (fun h => h)
      have hgw : g < w.heap.size := World.block_lt_of_cell? w _ hcw
      obtain ⟨X, hX⟩ : ∃ X : BitVec 32, updB 0 o.bs = X := ⟨_, rfl⟩
      have s1 : Hid (Calls Try.prog 36 #[o.val] wr fun e w' => e = .returned (.int .u32 X.toNat) ∧ wr = w') := by have := ref_sum _ _ _ hok.sees; rwa [hX] at this
      have s2 : Hid (Calls Try.prog 26 #[o.val] wr fun e w' => e = .returned (.int .u32 X.toNat) ∧ wr = w') := by have := sum_ok _ _ _ hok.sees; rwa [hX] at this
      have s3 : Hid (Calls Try.prog 37 #[.pointer (some ⟨b, 0, none⟩), o.val] wr fun e w' => e = .returned (.int .u32 X.toNat) ∧ Upd (fun j => j = b) wr w' ∧ TabAt w' b 1 0 fullRows (i + 1)) := by
        have := table_sum b i _ _ _ hR (by omega) (by omega) hok.sees (fun k hk h0 e => by
          cases hka : o.ka with
          | none => rw [BytesR.val, hka] at hk; cases hk
          | some x =>
            have := hok0.lt x hka h0
            have hbb := Hbw.out
            rw [BytesR.val, hka] at hk
            simp [Value.ownBlock] at hk
            omega)
        rwa [hX] at this
      have HU := Lib.hid hU
      obtain ⟨V, hV⟩ : ∃ V, o.val = V := ⟨_, rfl⟩
      rw [hV] at s1 s2 s3 hcell
      clear hR hU hok hok0 hr hc hcw hX hoe hV hgw
      go_wp2_with fail
      refine s1.out.mono ?_
      rintro e w' ⟨rfl, rfl⟩
      dsimp only
      go_wp2_with fail
      refine s2.out.mono ?_
      rintro e w' ⟨rfl, rfl⟩
      dsimp only
      go_wp2_with fail
      refine s3.out.mono ?_
      rintro e w2 ⟨rfl, hu2, hT2⟩
      dsimp only
      have HU2 := Lib.hid (HU.out.then hu2 (fun j hj => .inr (by rw [hj]; exact Hbw.out)))
      have HT2 := Lib.hid hT2
      clear hu2 hT2
      go_wp2_with fail
      refine (calls_ok _ _ _ _ _ _ HT2.out).mono ?_
      rintro e w' ⟨rfl, rfl⟩
      dsimp only
      go_wp2_with fail
      exact ⟨⟨i + 1, by omega, by go_num, .inr HT2.out, HU2.out⟩, by simp [intOf]; omega⟩
    · obtain rfl : i = l.length := by omega
      have HU := Lib.hid hU
      clear hU hR
      go_wp2_with fail
      refine (calls_nil wr).mono ?_
      rintro e w' ⟨rfl, rfl⟩
      dsimp only
      go_wp2_with fail
      have h := sum_nil _ _ _ (sees_lit wr [49, 50, 51, 52, 53, 54, 55, 56, 57] 5 (9, 10) (by decide))
      rw [sum123] at h
      refine h.mono ?_
      clear h
      rintro e w' ⟨rfl, rfl⟩
      dsimp only
      have HU2 := Lib.hid (HU.out.alloc (.cells (bvs [49, 50, 51, 52, 53, 54, 55, 56, 57]).toArray 5 (9, 10)))
      generalize wr.alloc (.cells (bvs [49, 50, 51, 52, 53, 54, 55, 56, 57]).toArray 5 (9, 10)) = w2 at *
      go_wp2_with fail
      go_ret
      exact ⟨rfl, HU2.out.below0⟩
end Go.Proofs.Ytlcbgcbocikkkaa
