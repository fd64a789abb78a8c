/- Package crc: contracts; strings. -/
import Derived.Test.YtihlijnobbonbaaGreatRows
import Derived.Test.YtihlijnobbonbaaGreatKPlain
import Derived.Test.YtihlijnobbonbaaGreatKBase
import Derived.WalkKit
import Derived.ProofKit
import Derived.Deep.QuietTactic
import Derived.BigQuiet
import Derived.Below
import Derived.Lib.Hide
import Derived.Defers
import Derived.Laws.Pointers
import Derived.Laws.LoneSync
import Derived.RegionTactic
import Derived.RegionCalls
import Derived.ChangeAlike
import Derived.Lib.ConvBytes
import Derived.Laws.BytesArg
set_option linter.unusedSimpArgs false
set_option linter.unusedVariables false
/- Contracts of package crc: step, Update, Sum. -/
namespace Go.Proofs.YtihlijnobbonbaaGreat
open Go.RowKit
set_option linter.unusedSimpArgs false
set_option maxRecDepth 100000

theorem of_u32 (x : BitVec 32) : BitVec.ofInt 32 (x.toNat : Int) = x := by simp
theorem u32_and (x y : BitVec 32) : bits BinOp.and IntKind.u32 (x.toNat : Int) (y.toNat : Int) = ((x &&& y).toNat : Int) := by
  show IntKind.u32.wrap (((BitVec.ofInt 32 (x.toNat : Int) &&& BitVec.ofInt 32 (y.toNat : Int)).toNat : Nat) : Int) = _
  rw [of_u32, of_u32, IntKind.wrap_u32]
  have := (x &&& y).isLt
  omega
theorem u32_xor (x y : BitVec 32) : bits BinOp.xor IntKind.u32 (x.toNat : Int) (y.toNat : Int) = ((x ^^^ y).toNat : Int) := by
  show IntKind.u32.wrap (((BitVec.ofInt 32 (x.toNat : Int) ^^^ BitVec.ofInt 32 (y.toNat : Int)).toNat : Nat) : Int) = _
  rw [of_u32, of_u32, IntKind.wrap_u32]
  have := (x ^^^ y).isLt
  omega

theorem lsb_odd (x : BitVec 32) : x.getLsbD 0 = decide (x.toNat % 2 = 1) := by
  rw [BitVec.getLsbD, Nat.testBit_zero]
theorem half (x : BitVec 32) : ((x.toNat : Int) / (2 : Int)) = ((x >>> 1).toNat : Int) := by
  rw [BitVec.toNat_ushiftRight, Nat.shiftRight_succ, Nat.shiftRight_zero]; omega
theorem step1_odd {x : BitVec 32} (h : ((x.toNat : Int) % 2 == 1) = true) : bits BinOp.xor IntKind.u32 ((x.toNat : Int) / (2 : Int)) 2197175160 = ((step1 x).toNat : Int) := by
  have h' : x.toNat % 2 = 1 := by have := eq_of_beq h; omega
  have e : ((x.toNat : Int) / (2 : Int)) = ((x >>> 1).toNat : Int) := half x
  have e2 : (2197175160 : Int) = (poly.toNat : Int) := by decide
  rw [e, e2, u32_xor, step1, lsb_odd, if_pos (by simpa using h')]
theorem step1_even {x : BitVec 32} (h : ((x.toNat : Int) % 2 == 1) = false) : ((x.toNat : Int) / (2 : Int)) = ((step1 x).toNat : Int) := by
  have h' : ¬ x.toNat % 2 = 1 := fun h' => absurd h (by simp; omega)
  rw [step1, lsb_odd, if_neg (by simpa using h'), half]

set_option maxHeartbeats 2000000 in
theorem step_ok (r : BitVec 32) (w : World) : Calls Tryz.prog 97 #[.int .u32 r.toNat] w fun e w' => e = .returned (.int .u32 (steps 8 r).toNat) ∧ w = w' := by
  go_enter Tryz.func97, Tryz.ntmps97
  go_wp2_with fail
  go_loop [0, 4] (fun x i => ∃ k : Nat, k ≤ 8 ∧ i = .int .i64 k ∧ x = .int .u32 (steps k r).toNat) (fun _ i => 8 - (intOf i).toNat)
  case atStart => exact ⟨0, by omega, rfl, rfl⟩
  case round =>
    obtain ⟨k, hk, rfl, rfl⟩ := hrel
    by_cases h8 : (k : Int) < 8
    · obtain ⟨x, hx⟩ : ∃ x, steps k r = x := ⟨_, rfl⟩
      have hs : steps (k + 1) r = step1 x := by rw [steps_add, hx]; rfl
      rw [hx]
      have hand : bits BinOp.and IntKind.u32 (x.toNat : Int) 1 = ((x &&& 1#32).toNat : Int) := u32_and x 1#32
      go_wp2_with fail
      · rename_i hb
        exact ⟨⟨k + 1, by omega, by go_num, by rw [step1_odd hb, hs]⟩, by simp [intOf]; omega⟩
      · rename_i hb
        exact ⟨⟨k + 1, by omega, by go_num, by rw [step1_even hb, hs]⟩, by simp [intOf]; omega⟩
    · obtain rfl : k = 8 := by omega
      go_wp2_with fail
      go_ret
      exact ⟨rfl, rfl⟩

theorem u32_not (x : BitVec 32) : bits BinOp.xor IntKind.u32 IntKind.u32.max (x.toNat : Int) = ((~~~x).toNat : Int) := by
  have e : IntKind.u32.max = ((BitVec.allOnes 32).toNat : Int) := by decide
  rw [e, u32_xor, BitVec.allOnes_xor]
theorem low_byte (x : BitVec 32) (b : UInt8) : bits BinOp.xor IntKind.u32 (bits BinOp.and IntKind.u32 (x.toNat : Int) 255) ((b.toNat : Int) % 4294967296) = (((x &&& 255#32) ^^^ BitVec.ofNat 32 b.toNat).toNat : Int) := by
  have hb := b.toNat_lt
  have e1 : bits BinOp.and IntKind.u32 (x.toNat : Int) 255 = ((x &&& 255#32).toNat : Int) := u32_and x 255#32
  have e2 : (b.toNat : Int) % 4294967296 = ((BitVec.ofNat 32 b.toNat).toNat : Int) := by rw [BitVec.toNat_ofNat, Nat.mod_eq_of_lt (by omega)]; omega
  rw [e1, e2, u32_xor]
theorem eat_fact (x : BitVec 32) (b : UInt8) : bits BinOp.xor IntKind.u32 ((steps 8 ((x &&& 255#32) ^^^ BitVec.ofNat 32 b.toNat)).toNat : Int) ((x.toNat : Int) / (256 : Int)) = ((eat x b).toNat : Int) := by
  have e : (x.toNat : Int) / (256 : Int) = ((x >>> 8).toNat : Int) := by rw [BitVec.toNat_ushiftRight, Nat.shiftRight_eq_div_pow]; omega
  rw [e, u32_xor]; rfl

set_option maxHeartbeats 2000000 in
theorem update_ok (s : BitVec 32) (v : Value) (bs : List UInt8) (w : World) (hv : Sees w 1 v bs.length (bvs bs)) :
    Calls Tryz.prog 94 #[.int .u32 s.toNat, v] w fun e w' => e = .returned (.int .u32 (updB s bs).toNat) ∧ w = w' := by
  obtain ⟨_, hm, xa, xc, rfl, hc⟩ := hv
  have hm2 : (bs.length : Int) ≤ 9223372036854775807 := by unfold maxLen at hm; omega
  have hn1 := u32_not s
  have hu : updB s bs = ~~~ (regs (~~~ s) bs) := rfl
  obtain ⟨c, hc1⟩ : ∃ c, ~~~ s = c := ⟨_, rfl⟩
  rw [hc1] at hn1 hu
  rw [hu]
  clear hu hc1
  obtain ⟨d, hd⟩ : ∃ d, ~~~ (regs c bs) = d := ⟨_, rfl⟩
  rw [hd]
  have Hd := Lib.hid hd
  clear hd
  go_enter Tryz.func94, Tryz.ntmps94
  go_wp2_with fail
  go_loop [5, 12] (fun x i => ∃ k : Nat, k ≤ bs.length ∧ i = .int .i64 k ∧ x = .int .u32 (regs c (bs.take k)).toNat) (fun _ i => bs.length - (intOf i).toNat)
  case atStart => exact ⟨0, by omega, rfl, rfl⟩
  case round =>
    obtain ⟨k, hk, rfl, rfl⟩ := hrel
    by_cases hl : k < bs.length
    · have hl2 : (k : Int) < (bs.length : Int) := by omega
      have hs := regs_take_succ c bs k hl
      obtain ⟨x, hx⟩ : ∃ x, regs c (bs.take k) = x := ⟨_, rfl⟩
      obtain ⟨b, hb⟩ : ∃ b, bs[k] = b := ⟨_, rfl⟩
      rw [hx, hb] at hs
      rw [hx]
      obtain ⟨g, off, rfl, hr⟩ := hc (by omega)
      have hcell : w.cell? ⟨g, off + k, none⟩ = some (.int .u8 b.toNat) := by
        have := hr k (bv bs[k]) (bvs_get bs k hl)
        rw [this, hb]; rfl
      have h1 := low_byte x b
      have h2 := eat_fact x b
      obtain ⟨y, hy⟩ : ∃ y, (x &&& 255#32) ^^^ BitVec.ofNat 32 b.toNat = y := ⟨_, rfl⟩
      rw [hy] at h1 h2
      clear hy
      have Hs := Lib.hid hs
      clear hs hx hb hr hc hn1
      go_wp2_with fail
      refine (step_ok y w).mono ?_
      rintro e w' ⟨rfl, rfl⟩
      dsimp only
      go_wp2_with fail
      exact ⟨⟨k + 1, by omega, by go_num, by rw [Hs.out]⟩, by simp [intOf]; omega⟩
    · obtain rfl : k = bs.length := by omega
      rw [List.take_length]
      have hn2 := u32_not (regs c bs)
      rw [Hd.out] at hn2
      go_wp2_with fail
      go_ret
      exact ⟨rfl, rfl⟩

theorem sum_ok (v : Value) (bs : List UInt8) (w : World) (hv : Sees w 1 v bs.length (bvs bs)) :
    Calls Tryz.prog 79 #[v] w fun e w' => e = .returned (.int .u32 (updB 0 bs).toNat) ∧ w = w' := by
  have Hv := Lib.hid (update_ok 0 v bs w hv)
  clear hv
  go_enter Tryz.func79, Tryz.ntmps79
  go_wp2_with fail
  refine Hv.out.mono ?_
  rintro e w' ⟨rfl, rfl⟩
  dsimp only
  go_wp2_with fail
  go_ret
  exact ⟨rfl, rfl⟩
end Go.Proofs.YtihlijnobbonbaaGreat
/- Contracts of package crc: the table, in the midst of a block: fill, sync.Once's Do, Sum, Calls. -/
namespace Go.Proofs.YtihlijnobbonbaaGreat
open Go.RowKit
set_option linter.unusedSimpArgs false
set_option maxRecDepth 100000

/-- A table as it lies: once (done, the lock's state, its semaphore), the rows, the calls. -/
def u32V (x : BitVec 32) : Value := .int .u32 x.toNat
def tabV (d m : Int) (rows : List (BitVec 32)) (c : Int) : List Value := .int .u32 d :: .int .i32 m :: .int .u32 0 :: (rows.map u32V ++ [.int .i64 c])
def TabAt (w : World) (b o : Nat) (pre post : List Value) (t : TypeId) (d m : Int) (rows : List (BitVec 32)) (c : Int) : Prop := pre.length = o ∧ rows.length = 256 ∧ w.heap[b]? = some (.cells (pre ++ tabV d m rows c ++ post).toArray t (0, 0))
def fullRows : List (BitVec 32) := (List.range 256).map (fun i => steps 8 (BitVec.ofNat 32 i))
theorem fullRows_length : fullRows.length = 256 := by simp [fullRows]

theorem tab_get {b o : Nat} {pre post : List Value} {t : TypeId} {w : World} {d m : Int} {rows : List (BitVec 32)} {c : Int} (h : TabAt w b o pre post t d m rows c) (i : Nat) (hi : i < 260) : w.cell? ⟨b, o + i, none⟩ = (tabV d m rows c)[i]? := by
  have hl : (tabV d m rows c).length = 260 := by simp [tabV, h.2.1]
  rw [cell_of_row _ _ _ _ _ _ h.2.2, ← h.1]
  simp only [List.getElem?_toArray]
  rw [List.append_assoc, List.getElem?_append_right (by omega), Nat.add_sub_cancel_left, List.getElem?_append_left (by omega)]
theorem tab_set {b o : Nat} {pre post : List Value} {t : TypeId} {w : World} {d m : Int} {rows : List (BitVec 32)} {c : Int} (h : TabAt w b o pre post t d m rows c) (i : Nat) (hi : i < 260) (v : Value) : (w.setCell ⟨b, o + i, none⟩ v).heap[b]? = some (.cells (pre ++ (tabV d m rows c).set i v ++ post).toArray t (0, 0)) := by
  have hl : (tabV d m rows c).length = 260 := by simp [tabV, h.2.1]
  rw [stored h.2.2, ← h.1, List.setIfInBounds_toArray]
  rw [List.append_assoc, List.set_append_right _ _ (by omega), Nat.add_sub_cancel_left, List.set_append_left _ _ (by omega), List.append_assoc]
theorem TabAt.heap {b o : Nat} {pre post : List Value} {t : TypeId} {w : World} {d m : Int} {rows : List (BitVec 32)} {c : Int} (h : TabAt w b o pre post t d m rows c) : w.heap[b]? = some (.cells (pre ++ tabV d m rows c ++ post).toArray t (0, 0)) := h.2.2
theorem TabAt.cell0 {w : World} {b o : Nat} {pre post : List Value} {t : TypeId} {d m : Int} {rows : List (BitVec 32)} {c : Int} (h : TabAt w b o pre post t d m rows c) : w.cell? ⟨b, o, none⟩ = some (.int .u32 d) := tab_get h 0 (by decide)
theorem TabAt.cell1 {w : World} {b o : Nat} {pre post : List Value} {t : TypeId} {d m : Int} {rows : List (BitVec 32)} {c : Int} (h : TabAt w b o pre post t d m rows c) : w.cell? ⟨b, o + 1, none⟩ = some (.int .i32 m) := tab_get h 1 (by decide)
theorem TabAt.cellR {w : World} {b o : Nat} {pre post : List Value} {t : TypeId} {d m : Int} {rows : List (BitVec 32)} {c : Int} (h : TabAt w b o pre post t d m rows c) (k : Nat) (hk : k < 256) : w.cell? ⟨b, o + 3 + k, none⟩ = some (u32V (rows[k]'(by rw [h.2.1]; exact hk))) := by
  rw [Nat.add_assoc, tab_get h (3 + k) (by omega), Nat.add_comm 3 k]
  have hl := h.2.1
  simp [tabV, hl, hk, List.getElem?_append]
theorem TabAt.cellC {w : World} {b o : Nat} {pre post : List Value} {t : TypeId} {d m : Int} {rows : List (BitVec 32)} {c : Int} (h : TabAt w b o pre post t d m rows c) : w.cell? ⟨b, o + 259, none⟩ = some (.int .i64 c) := by
  rw [tab_get h 259 (by decide)]
  have hl := h.2.1
  simp [tabV, hl]
theorem TabAt.set0 {w : World} {b o : Nat} {pre post : List Value} {t : TypeId} {d m : Int} {rows : List (BitVec 32)} {c : Int} (h : TabAt w b o pre post t d m rows c) (d' : Int) : TabAt (w.setCell ⟨b, o, none⟩ (.int .u32 d')) b o pre post t d' m rows c := ⟨h.1, h.2.1, tab_set h 0 (by decide) _⟩
theorem TabAt.set1 {w : World} {b o : Nat} {pre post : List Value} {t : TypeId} {d m : Int} {rows : List (BitVec 32)} {c : Int} (h : TabAt w b o pre post t d m rows c) (m' : Int) : TabAt (w.setCell ⟨b, o + 1, none⟩ (.int .i32 m')) b o pre post t d m' rows c := ⟨h.1, h.2.1, tab_set h 1 (by decide) _⟩
theorem TabAt.setC {w : World} {b o : Nat} {pre post : List Value} {t : TypeId} {d m : Int} {rows : List (BitVec 32)} {c : Int} (h : TabAt w b o pre post t d m rows c) (c' : Int) : TabAt (w.setCell ⟨b, o + 259, none⟩ (.int .i64 c')) b o pre post t d m rows c' :=
  ⟨h.1, h.2.1, by
    have hl := h.2.1
    rw [tab_set h 259 (by decide)]
    simp only [tabV]
    rw [List.set_cons_succ, List.set_cons_succ, List.set_cons_succ, List.set_append_right _ _ (by simp [hl])]
    simp [hl]⟩
theorem TabAt.setR {w : World} {b o : Nat} {pre post : List Value} {t : TypeId} {d m : Int} {rows : List (BitVec 32)} {c : Int} (h : TabAt w b o pre post t d m rows c) (k : Nat) (hk : k < 256) (x : BitVec 32) : TabAt (w.setCell ⟨b, o + 3 + k, none⟩ (u32V x)) b o pre post t d m (rows.set k x) c :=
  ⟨h.1, by rw [List.length_set]; exact h.2.1, by
    have hl := h.2.1
    rw [Nat.add_assoc, tab_set h (3 + k) (by omega), Nat.add_comm 3 k]
    simp only [tabV]
    rw [List.set_cons_succ, List.set_cons_succ, List.set_cons_succ, List.set_append_left _ _ (by simp [hl, hk])]
    simp⟩
theorem TabAt.upd {w w' : World} {b o : Nat} {pre post : List Value} {t : TypeId} {d m : Int} {rows : List (BitVec 32)} {c : Int} {F : Nat → Prop} (h : TabAt w b o pre post t d m rows c) (hu : Upd F w w') (hf : ¬ F b) : TabAt w' b o pre post t d m rows c := ⟨h.1, h.2.1, hu.heap h.2.2 hf⟩

/-- What fill has laid so far. -/
def FillR (w0 : World) (b o : Nat) (pre post : List Value) (t : TypeId) (d m c : Int) (k : Nat) (wr : World) : Prop := Upd (fun j => j = b) w0 wr ∧ ∃ rows, TabAt wr b o pre post t d m rows c ∧ ∀ j, j < k → rows[j]? = some (steps 8 (BitVec.ofNat 32 j))

set_option maxHeartbeats 2000000 in
theorem fill_ok (b o : Nat) (pre post : List Value) (t : TypeId) (d m : Int) (rows : List (BitVec 32)) (c : Int) (w : World) (h : TabAt w b o pre post t d m rows c) :
    Calls Tryz.prog 81 #[.pointer (some ⟨b, o, none⟩)] w fun e w' => e = .returned (.tuple #[]) ∧ Upd (fun j => j = b) w w' ∧ TabAt w' b o pre post t d m fullRows c := by
  have hR0 : FillR w b o pre post t d m c 0 w := ⟨Upd.refl _ _, rows, h, fun j hj => by omega⟩
  clear h
  go_enter Tryz.func81, Tryz.ntmps81
  go_wp2_with fail
  go_loopw [3] (fun v wr => ∃ k : Nat, k ≤ 256 ∧ v = .int .i64 k ∧ FillR w b o pre post t d m c k wr) (fun v _ => 256 - (intOf v).toNat)
  case atStart => exact ⟨0, by omega, rfl, hR0⟩
  case round =>
    clear hR0
    obtain ⟨k, hk, rfl, hU, rows, hT, hr⟩ := hrel
    by_cases h8 : k < 256
    · have h8' : (k : Int) < 256 := by omega
      obtain ⟨y, hy⟩ : ∃ y, BitVec.ofNat 32 k = y := ⟨_, rfl⟩
      have hyk : ((k : Int) % 4294967296) = (y.toNat : Int) := by rw [← hy, BitVec.toNat_ofNat]; omega
      have hyk2 : IntKind.u32.wrap (k : Int) = (y.toNat : Int) := by rw [IntKind.wrap_u32]; exact hyk
      have hfz := unfrozen hT.heap
      obtain ⟨x, hx⟩ : ∃ x, rows[k]'(by rw [hT.2.1]; exact h8) = x := ⟨_, rfl⟩
      have hcell := hT.cellR k h8
      rw [hx] at hcell
      have Hst : Hid (FillR w b o pre post t d m c (k + 1) (wr.drew.setCell ⟨b, o + 3 + k, none⟩ (u32V (steps 8 y)))) := by
        have hTd : TabAt wr.drew b o pre post t d m rows c := hT
        refine ⟨hU.drew.setCell _ (.inl rfl), _, hTd.setR k h8 (steps 8 y), fun j hj => ?_⟩
        by_cases e : j = k
        · subst e; rw [List.getElem?_set_self (by rw [hT.2.1]; exact h8), hy]
        · rw [List.getElem?_set_ne (fun h => e h.symm)]; exact hr j (by omega)
      clear hU hr hy hx hT
      go_wp2_with fail
      have HS : True := trivial
      refine wp_region_plan (fun _ => True) 8 [(0, true), (1, true), (2, true), (5, true), (6, true), (3, false), (4, false), (7, true), (8, false)] (by kernel_rfl) (by kernel_rfl) (fun d _ _ _ _ h => by cases d <;> exact h) HS ?_
      iterate 5 (apply plan_held rfl rfl rfl (by simp) HS; (intro w' hS K hK; go_simp; exact hK))
      refine plan_op rfl rfl (fun K hK => ?_)
      go_simp
      refine hK _ _ (fun _ => trivial) ?_
      try (simp only [Act.put, List.setIfInBounds_toArray, List.set_cons_zero, List.set_cons_succ])
      refine plan_op rfl rfl (fun K hK => ?_)
      go_simp
      refine (step_ok y _).mono ?_
      rintro e w' ⟨rfl, rfl⟩
      dsimp only
      refine hK _ _ (fun _ => trivial) ?_
      try (simp only [Act.put, List.setIfInBounds_toArray, List.set_cons_zero, List.set_cons_succ])
      (apply plan_held rfl rfl rfl (by simp) HS; (intro w' hS K hK; go_simp; exact hK))
      refine plan_op rfl rfl (fun K hK => ?_)
      go_simp
      refine hK _ _ (fun h => absurd rfl h) ?_
      refine plan_nil ?_
      go_wp2_with fail
      exact ⟨⟨k + 1, by omega, by go_num, Hst.out⟩, by simp [intOf]; omega⟩
    · obtain rfl : k = 256 := by omega
      have hre : rows = fullRows := by
        apply List.ext_getElem?
        intro j
        by_cases hj : j < 256
        · rw [hr j hj]; simp [fullRows, hj]
        · rw [List.getElem?_eq_none (by rw [hT.2.1]; omega), List.getElem?_eq_none (by rw [fullRows_length]; omega)]
      subst hre
      have HT := Lib.hid (And.intro hU hT)
      clear hU hT hr
      go_wp2_with fail
      go_end0
      exact ⟨rfl, HT.out⟩
end Go.Proofs.YtihlijnobbonbaaGreat
/- sync.Once over the table: the parts. -/
namespace Go.Proofs.YtihlijnobbonbaaGreat
open Go.RowKit
set_option linter.unusedSimpArgs false
set_option maxRecDepth 100000

theorem race_disable (w : World) : (callFunc 114 #[]).run Tryz.prog w = .ok (.value (.tuple #[])) w := run_call_mark0 Tryz.func114 (by kernel_rfl) (by kernel_rfl) (by kernel_rfl) .disable (by kernel_rfl) w
theorem race_enable (w : World) : (callFunc 116 #[]).run Tryz.prog w = .ok (.value (.tuple #[])) w := run_call_mark0 Tryz.func116 (by kernel_rfl) (by kernel_rfl) (by kernel_rfl) .enable (by kernel_rfl) w
theorem race_acquire (a : Addr) (w : World) : (callFunc 117 #[.pointer (some a)]).run Tryz.prog w = .ok (.value (.tuple #[])) w := run_call_marked Tryz.func117 (by kernel_rfl) (by kernel_rfl) (by kernel_rfl) .acquire (by kernel_rfl) a w
theorem race_releaseMerge (a : Addr) (w : World) : (callFunc 119 #[.pointer (some a)]).run Tryz.prog w = .ok (.value (.tuple #[])) w := run_call_marked Tryz.func119 (by kernel_rfl) (by kernel_rfl) (by kernel_rfl) .releaseMerge (by kernel_rfl) a w

/-- '(*sync/atomic.Bool).Store(true)', entered as a deferred call. -/
theorem bool_store_deferred (a : Addr) (x : Value) (u : FrameMode) (w : World) (hc : w.cell? a = some x) (hz : w.frozen? a = false) :
    CallsD Tryz.prog 108 #[.pointer (some a), .bool true] u w fun e u' w' => u' = u ∧ (e = .returned (.tuple #[]) ∧ w' = w.drew.setCell a (.int .u32 1)) := by
  have hc' : w.drew.cell? a = some x := by go_simp
  have hz' : w.drew.frozen? a = false := by go_simp
  have hst := run_call_store (P := Tryz.prog) Tryz.func112 (by kernel_rfl) (by kernel_rfl) (by kernel_rfl) (by kernel_rfl) (k := .u32) (y := 1) hc' hz'
  go_enter_d Tryz.func108, Tryz.ntmps108
  go_wp2
  go_region_calls
  all_goals (go_end0; exact ⟨rfl, rfl⟩)

/-- '(*sync.Mutex).Unlock', entered as a deferred call, the lock held and nobody waiting. -/
theorem mutex_unlock_deferred (a : Addr) (u : FrameMode) (w : World) (hc : w.cell? a = some (.int .i32 1)) (hz : w.frozen? a = false) :
    CallsD Tryz.prog 107 #[.pointer (some a)] u w fun e u' w' => u' = u ∧ (e = .returned (.tuple #[]) ∧ w' = w.setCell a (.int .i32 0)) := by
  have hd := race_disable
  have he := race_enable
  have hr := race_releaseMerge
  have hadd := run_call_add (P := Tryz.prog) Tryz.func120 (by kernel_rfl) (by kernel_rfl) (by kernel_rfl) .i32 (by kernel_rfl) (y := -1) (s := 0) hc hz (by simp [go_sem]; rfl)
  have hcv := run_convert_to_unsafe (P := Tryz.prog) (src := 200) (dst := 204) Tryz.underlying200 Tryz.underlying204 (by kernel_rfl) hc
  go_enter_d Tryz.func107, Tryz.ntmps107
  go_wp2
  go_end0
  go_wp2
  go_end0
  exact ⟨rfl, rfl⟩

/-- '(*sync.Mutex).Lock', the lock free. -/
theorem mutex_lock_free (a : Addr) (w : World) (hc : w.cell? a = some (.int .i32 0)) (hz : w.frozen? a = false) :
    Calls Tryz.prog 106 #[.pointer (some a)] w fun e w' => e = .returned (.tuple #[]) ∧ w' = w.setCell a (.int .i32 1) := by
  have hd := race_disable
  have he := race_enable
  have ha := race_acquire
  have hcas := run_call_cas_hit (P := Tryz.prog) Tryz.func115 (by kernel_rfl) (by kernel_rfl) (by kernel_rfl) .i32 (by kernel_rfl) (y := 1) hc hz
  have hc' : (w.setCell a (.int .i32 1)).cell? a = some (.int .i32 1) := World.cell?_setCell_same w a _ hc
  have hcv := run_convert_to_unsafe (P := Tryz.prog) (src := 200) (dst := 204) Tryz.underlying200 Tryz.underlying204 (by kernel_rfl) hc'
  go_enter Tryz.func106, Tryz.ntmps106
  go_wp2
  first | go_end0 | (simp only [Exit.inBlock, Exit.then]; refine bodyPost_ret (results_none rfl _ _ _) rfl ?_) | refine bodyPost_ret (results_none rfl _ _ _) rfl ?_
  go_wp2
  go_end0
  exact ⟨rfl, rfl⟩

set_option maxHeartbeats 1600000 in
/-- doSlow, not yet done: the function it was handed is fill. -/
theorem slow_ok (b o : Nat) (pre post : List Value) (t : TypeId) (rows : List (BitVec 32)) (c : Int) (w : World) (hT : TabAt w b o pre post t 0 0 rows c) :
    Calls Tryz.prog 96 #[.pointer (some ⟨b, o, none⟩), .func (.func 81) #[.pointer (some ⟨b, o, none⟩)] #[]] w fun e w' => e = .returned (.tuple #[]) ∧ Upd (fun j => j = b) w w' ∧ TabAt w' b o pre post t 1 0 fullRows c := by
  have hT1 := hT.set1 1
  have hl := run_call_load (P := Tryz.prog) Tryz.func105 (by kernel_rfl) (by kernel_rfl) (by kernel_rfl) .u32 (by kernel_rfl) (w := w.setCell ⟨b, o + 1, none⟩ (.int .i32 1)) (a := ⟨b, o, none⟩) (x := 0) hT1.cell0
  have hnot : ∀ (x : Bool) (w : World), (Op.unary .not (.bool x)).run Tryz.prog w = .ok (.bool (!x)) w := fun _ _ => rfl
  have hc1 := hT.cell1
  have hz1 := unfrozen hT.heap (o + 1)
  have hU1 : Upd (fun j => j = b) w (w.setCell ⟨b, o + 1, none⟩ (.int .i32 1)) := (Upd.refl _ _).setCell _ (.inl rfl)
  have HT1 := Lib.hid (And.intro hU1 hT1)
  clear hT hT1 hU1
  go_enter_defers Tryz.func96, Tryz.ntmps96
  go_wp2_with (first | (go_at_call 106; refine (mutex_lock_free ⟨b, o + 1, none⟩ _ (by go_simp) (by go_simp)).mono ?_; rintro e w' ⟨rfl, rfl⟩) | (go_at_call 95; go_in))
  refine (fill_ok b o pre post t 0 1 rows c _ HT1.out.2).mono ?_
  rintro e w2 ⟨rfl, hU2, hT2⟩
  have HT2 := Lib.hid (And.intro (HT1.out.1.trans hU2) hT2)
  clear hU2 hT2
  dsimp only
  go_wp2
  refine leaves_cons (f := 108) (args := #[.pointer (some ⟨b, o, none⟩), .bool true]) (by simp) (by simp [go_sem]) ?_
  refine (bool_store_deferred ⟨b, o, none⟩ (.int .u32 0) .returning _ HT2.out.2.cell0 (unfrozen HT2.out.2.heap o)).mono ?_
  rintro e u' w3 ⟨rfl, rfl, rfl⟩
  have hT2 : TabAt w2.drew b o pre post t 0 1 fullRows c := HT2.out.2
  have HT3 := Lib.hid (And.intro (HT2.out.1.drew.setCell (p := ⟨b, o, none⟩) (.int .u32 1) (.inl rfl)) (hT2.set0 1))
  clear hT2
  refine leaves_cons (f := 107) (args := #[.pointer (some ⟨b, o + 1, none⟩)]) (by simp [settle]) (by simp [go_sem]) ?_
  refine (mutex_unlock_deferred ⟨b, o + 1, none⟩ _ _ HT3.out.2.cell1 (unfrozen HT3.out.2.heap (o + 1))).mono ?_
  rintro e u' w4 ⟨rfl, rfl, rfl⟩
  have HT4 := Lib.hid (And.intro (HT3.out.1.setCell (p := ⟨b, o + 1, none⟩) (.int .i32 0) (.inl rfl)) (HT3.out.2.set1 0))
  simp [Leaves, settle, results, Tryz.results96]
  exact HT4.out

/-- Do, not yet done. -/
theorem do_first (b o : Nat) (pre post : List Value) (t : TypeId) (rows : List (BitVec 32)) (c : Int) (w : World) (hT : TabAt w b o pre post t 0 0 rows c) :
    Calls Tryz.prog 80 #[.pointer (some ⟨b, o, none⟩), .func (.func 81) #[.pointer (some ⟨b, o, none⟩)] #[]] w fun e w' => e = .returned (.tuple #[]) ∧ Upd (fun j => j = b) w w' ∧ TabAt w' b o pre post t 1 0 fullRows c := by
  have hl := run_call_load (P := Tryz.prog) Tryz.func105 (by kernel_rfl) (by kernel_rfl) (by kernel_rfl) .u32 (by kernel_rfl) hT.cell0
  have hnot : ∀ (x : Bool) (w : World), (Op.unary .not (.bool x)).run Tryz.prog w = .ok (.bool (!x)) w := fun _ _ => rfl
  have Hs := Lib.hid (slow_ok b o pre post t rows c w hT)
  clear hT
  go_enter Tryz.func80, Tryz.ntmps80
  go_wp2_with ((go_at_call 95; go_in))
  refine Hs.out.mono ?_
  rintro e w2 ⟨rfl, hU, hT⟩
  have HT := Lib.hid (And.intro hU hT)
  clear hU hT
  dsimp only
  go_wp2_with fail
  go_end0
  exact ⟨rfl, HT.out⟩

/-- Do, done already. -/
theorem do_done (a : Addr) (fv : Value) (w : World) (h0 : w.cell? a = some (.int .u32 1)) :
    Calls Tryz.prog 80 #[.pointer (some a), fv] w fun e w' => e = .returned (.tuple #[]) ∧ w = w' := by
  have hl := run_call_load (P := Tryz.prog) Tryz.func105 (by kernel_rfl) (by kernel_rfl) (by kernel_rfl) .u32 (by kernel_rfl) h0
  have hnot : ∀ (x : Bool) (w : World), (Op.unary .not (.bool x)).run Tryz.prog w = .ok (.bool (!x)) w := fun _ _ => rfl
  go_enter Tryz.func80, Tryz.ntmps80
  go_wp2
  go_end0
  exact ⟨rfl, rfl⟩
end Go.Proofs.YtihlijnobbonbaaGreat
/- The table's Sum and Calls; docketlaw01.fixed. -/
namespace Go.Proofs.YtihlijnobbonbaaGreat
open Go.RowKit
set_option linter.unusedSimpArgs false
set_option maxRecDepth 100000

def Ready (w : World) (b o : Nat) (pre post : List Value) (t : TypeId) (c : Int) : Prop := (∃ rows, TabAt w b o pre post t 0 0 rows c) ∨ TabAt w b o pre post t 1 0 fullRows c
theorem do_ready (b o : Nat) (pre post : List Value) (t : TypeId) (c : Int) (w : World) (h : Ready w b o pre post t c) :
    Calls Tryz.prog 80 #[.pointer (some ⟨b, o, none⟩), .func (.func 81) #[.pointer (some ⟨b, o, none⟩)] #[]] w fun e w' => e = .returned (.tuple #[]) ∧ Upd (fun j => j = b) w w' ∧ TabAt w' b o pre post t 1 0 fullRows c := by
  rcases h with ⟨rows, hT⟩ | hT
  · exact do_first b o pre post t rows c w hT
  · refine (do_done ⟨b, o, none⟩ _ w hT.cell0).mono ?_
    rintro e w' ⟨rfl, rfl⟩
    exact ⟨rfl, Upd.refl _ _, hT⟩

theorem u8_xor_idx (x : BitVec 32) (b : UInt8) : bits BinOp.xor IntKind.u8 ((x.toNat : Int) % 256) (b.toNat : Int) = (((x &&& 255#32) ^^^ BitVec.ofNat 32 b.toNat).toNat : Int) ∧ ((x &&& 255#32) ^^^ BitVec.ofNat 32 b.toNat).toNat < 256 := by
  have hb := b.toNat_lt
  have e1 : (x &&& 255#32).toNat = x.toNat % 256 := by rw [BitVec.toNat_and, show (255#32).toNat = 2 ^ 8 - 1 by decide, Nat.and_two_pow_sub_one_eq_mod]
  have e2 : (BitVec.ofNat 32 b.toNat).toNat = b.toNat := by rw [BitVec.toNat_ofNat, Nat.mod_eq_of_lt (by omega)]
  have e3 : ((x &&& 255#32) ^^^ BitVec.ofNat 32 b.toNat).toNat = (x.toNat % 256) ^^^ b.toNat := by rw [BitVec.toNat_xor, e1, e2]
  have hlt : (x.toNat % 256) ^^^ b.toNat < 2 ^ 8 := Nat.xor_lt_two_pow (by omega) (by omega)
  refine ⟨?_, by rw [e3]; exact hlt⟩
  rw [e3]
  have e5 : (x.toNat : Int) % 256 = ((x.toNat % 256 : Nat) : Int) := by omega
  rw [e5]
  show IntKind.u8.wrap (((BitVec.ofInt 8 ((x.toNat % 256 : Nat) : Int) ^^^ BitVec.ofInt 8 (b.toNat : Int)).toNat : Nat) : Int) = _
  rw [BitVec.toNat_xor, BitVec.ofInt_natCast, BitVec.ofInt_natCast, BitVec.toNat_ofNat, BitVec.toNat_ofNat, Nat.mod_eq_of_lt (show x.toNat % 256 < 2 ^ 8 by omega), Nat.mod_eq_of_lt (show b.toNat < 2 ^ 8 by omega), IntKind.wrap_u8]
  omega

set_option maxHeartbeats 4000000 in
theorem table_sum (b o : Nat) (pre post : List Value) (t : TypeId) (c : Int) (v : Value) (bs : List UInt8) (w : World) (h : Ready w b o pre post t c) (hv : Sees w 1 v bs.length (bvs bs)) (hvb : ∀ k, v.ownBlock = some k → 0 < bs.length → k ≠ b) :
    Calls Tryz.prog 67 #[.pointer (some ⟨b, o, none⟩), v] w fun e w' => e = .returned (.int .u32 (updB 0 bs).toNat) ∧ Upd (fun j => j = b) w w' ∧ TabAt w' b o pre post t 1 0 fullRows (IntKind.i64.wrap (c + 1)) := by
  obtain ⟨c2, hc2⟩ : ∃ c2, IntKind.i64.wrap (c + 1) = c2 := ⟨_, rfl⟩
  rw [hc2]
  have Hc2 := Lib.hid hc2
  clear hc2
  have Hd := Lib.hid (do_ready b o pre post t c w h)
  have hmf : ∀ (fn : Fn) (first cap : Array Value) (w : World), (Instr.makeFunc fn first cap).run Tryz.prog w = .ok (.func fn first cap) w := fun _ _ _ _ => rfl
  have Hv := Lib.hid hv
  have Hvb := Lib.hid hvb
  obtain ⟨_, hm, xa, xc, rfl, _⟩ := hv
  have hm2 : (bs.length : Int) ≤ 9223372036854775807 := by unfold maxLen at hm; omega
  clear h hm hvb
  have hn1 : ~~~ (0#32) = 4294967295#32 := by decide
  have hu : updB 0 bs = ~~~ (regs (~~~ (0#32)) bs) := rfl
  obtain ⟨i0, hi0⟩ : ∃ i0, ~~~ (0#32) = i0 := ⟨_, rfl⟩
  rw [hu, hi0]
  obtain ⟨d, hd⟩ : ∃ d, ~~~ (regs i0 bs) = d := ⟨_, rfl⟩
  rw [hd]
  have hi1 : (4294967295 : Int) = (i0.toNat : Int) := by rw [← hi0]; decide
  have Hd2 := Lib.hid (And.intro hd hi1)
  clear hd hu hi0 hn1 hi1
  go_enter Tryz.func67, Tryz.ntmps67
  go_wp2_with fail
  refine Hd.out.mono ?_
  rintro e w1 ⟨rfl, hU1, hT1⟩
  dsimp only
  have hadd0 : (Op.intArith .add .i64 c 1).run Tryz.prog w1 = .ok (.int .i64 c2) w1 := by
    rw [← Hc2.out]; rfl
  have hadd := run_call_add (P := Tryz.prog) Tryz.func98 (by kernel_rfl) (by kernel_rfl) (by kernel_rfl) .i64 (by kernel_rfl) (y := 1) (s := c2) hT1.cellC (unfrozen hT1.heap (o + 259)) hadd0
  have HT := Lib.hid (And.intro (hU1.setCell (p := ⟨b, o + 259, none⟩) (.int .i64 c2) (.inl rfl)) (hT1.setC c2))
  have Hv1 := Lib.hid (Hv.out.upd hU1 (fun k hk h0 e => Hvb.out k hk h0 e))
  clear hU1 hT1
  go_wp2_with ((go_at_call 82; go_in))
  have Hv2 := Lib.hid (Hv1.out.upd ((Upd.refl (fun j => j = b) w1).setCell (p := ⟨b, o + 259, none⟩) (.int .i64 c2) (.inl rfl)) (fun k hk h0 e => Hvb.out k hk h0 e))
  generalize w1.setCell ⟨b, o + 259, none⟩ (.int .i64 c2) = w2 at *
  clear Hv Hv1 hadd Hd hmf
  go_loop [5, 24] (fun x i => ∃ k : Nat, k ≤ bs.length ∧ i = .int .i64 k ∧ x = .int .u32 (regs i0 (bs.take k)).toNat) (fun _ i => bs.length - (intOf i).toNat)
  case atStart => exact ⟨0, by omega, rfl, by rw [Hd2.out.2]; rfl⟩
  case round =>
    obtain ⟨k, hk, rfl, rfl⟩ := hrel
    by_cases hl : k < bs.length
    · have hl2 : (k : Int) < (bs.length : Int) := by omega
      have hs := regs_take_succ i0 bs k hl
      obtain ⟨x, hx⟩ : ∃ x, regs i0 (bs.take k) = x := ⟨_, rfl⟩
      obtain ⟨u, hub⟩ : ∃ u, bs[k] = u := ⟨_, rfl⟩
      rw [hx, hub] at hs
      rw [hx]
      obtain ⟨_, _, xo, cc, e', hc⟩ := Hv2.out
      cases e'
      obtain ⟨g, off, rfl, hr⟩ := hc (by omega)
      have hcell : w2.cell? ⟨g, off + k, none⟩ = some (.int .u8 u.toNat) := by
        have := hr k (bv bs[k]) (bvs_get bs k hl)
        rw [this, hub]; rfl
      obtain ⟨h1, hy⟩ := u8_xor_idx x u
      have h2 := eat_fact x u
      obtain ⟨y, hye⟩ : ∃ y, (x &&& 255#32) ^^^ BitVec.ofNat 32 u.toNat = y := ⟨_, rfl⟩
      rw [hye] at h1 h2 hy
      obtain ⟨n, hn⟩ : ∃ n, y.toNat = n := ⟨_, rfl⟩
      have hyn : y = BitVec.ofNat 32 n := by rw [← hn, BitVec.ofNat_toNat]; simp
      rw [hn] at h1 hy
      have hrow : w2.cell? ⟨b, o + 3 + n, none⟩ = some (.int .u32 (steps 8 y).toNat) := by
        rw [HT.out.2.cellR n hy]
        simp [fullRows, u32V, hyn]
      have hn3 : (n : Int) < 256 := by omega
      have Hs := Lib.hid hs
      clear hs hx hub hr hc hye hn hyn hy
      go_wp2_with fail
      exact ⟨⟨k + 1, by omega, by go_num, by rw [Hs.out]⟩, by simp [intOf]; omega⟩
    · obtain rfl : k = bs.length := by omega
      rw [List.take_length]
      have hn2 := u32_not (regs i0 bs)
      rw [Hd2.out.1] at hn2
      go_wp2_with fail
      go_ret
      exact ⟨rfl, HT.out⟩
end Go.Proofs.YtihlijnobbonbaaGreat
/- Strings and bytes: the conversions. -/
namespace Go.Proofs.YtihlijnobbonbaaGreat
open Go Go.RowKit
set_option linter.unusedSimpArgs false
set_option maxRecDepth 100000

/-- A text of bytes. -/
def strV (l : List UInt8) : ByteArray := ⟨l.toArray⟩
theorem strV_data (s : ByteArray) : strV s.data.toList = s := by cases s; simp [strV]
theorem strV_size (l : List UInt8) : (strV l).size = l.length := by simp [strV, ByteArray.size]
theorem strV_list (l : List UInt8) : (strV l).toList = l := by simp [strV]
theorem strV_inj {a b : List UInt8} (h : strV a = strV b) : a = b := by rw [← strV_list a, h, strV_list]

section
variable {P : Program} {ops : Array Oper} {Q : Exit → Act → World → Prop} {rest : List Oper} {dst : Option Tmp} {ty : TypeId} {pos : String} {aft : Array Edge} {a : Act} {w : World} {K : Act → World → Prop} {next : Act → Prop}

theorem run_bytes_string (src e sty : TypeId) (hs : P.underlying src = some (.slice e)) (he : P.underlying e = some (.int .u8)) (hd : P.underlying sty = some .string) (v : Value) (bs : List UInt8) (hv : Sees w 1 v bs.length (bvs bs)) :
    (convert src sty v).run P w = .ok (.string (strV bs)) w := by
  obtain ⟨_, _, xo, c, rfl, hc⟩ := hv
  by_cases h0 : 0 < bs.length
  · obtain ⟨b, off, rfl, hr⟩ := hc h0
    have h := run_convert_bytes_arg (P := P) w src e hs he b off bs.length c (bs.map fun b => (b.toNat : Int)) (by simp) (fun i hi => by
      have := hr i (bv bs[i]) (bvs_get bs i hi)
      rw [this]
      simp [bv, List.getD, hi]) sty hd
    rw [h]
    congr 2
    have : (strOfNums (bs.map fun b => (b.toNat : Int))).data.toList = bs := by
      rw [strOfNums_data, List.map_map]
      conv => rhs; rw [← List.map_id bs]
      apply List.map_congr_left
      intro b _
      simp
    rw [← strV_data (strOfNums _), this]
  · have hb : bs = [] := List.eq_nil_of_length_eq_zero (by omega)
    subst hb
    cases xo with
    | none => exact run_convert_bytes_nil (P := P) w src e hs he 0 c sty hd
    | some x =>
      simp [convert, run_underlying hs, run_underlying hd, run_underlying he, Conv.bytesToString, loadCells, loadCellsFrom]
      rfl
theorem gives_bytes_string {src sty : TypeId} {x : Operand} (e : TypeId) (v : Value) (bs : List UInt8) (hs : P.underlying src = some (.slice e)) (he : P.underlying e = some (.int .u8)) (hd : P.underlying sty = some .string)
    (hx : a.eval x = v) (hv : Sees w 1 v bs.length (bvs bs)) (h : next (a.put dst (.string (strV bs)))) : Oper.gives P (⟨dst, .convert src sty x, ty, pos, aft, none⟩ : Oper) a w next := by
  subst hx
  unfold Oper.gives execOp
  simp only [Sem.run_bind, run_bytes_string src e sty hs he hd _ bs hv, Result.andThen_ok, Sem.run_pure, Oper.givesUpon_value]
  exact h

/-- []byte(s): a new row. -/
theorem run_string_bytes (src dst' e : TypeId) (s : ByteArray) (hs : P.underlying src = some .string) (hd : P.underlying dst' = some (.slice e)) (he : P.underlying e = some (.int .u8)) (hm : s.size ≤ maxLen) (w : World) :
    ∃ c w', (convert src dst' (.string s)).run P w = .ok (.slice (some ⟨w.heap.size, 0, none⟩) s.size c) w' ∧ Upd (fun _ => False) w w' ∧ w'.heap.size = w.heap.size + 1 ∧
      Sees w' 1 (.slice (some ⟨w.heap.size, 0, none⟩) s.size c) s.size (bvs s.data.toList) ∧ ∃ cur fr, w'.heap[w.heap.size]? = some (.cells cur e fr) := by
  refine ⟨_, _, Lib.run_convert_string_bytes w src dst' e s hs hd he, ?_, Lib.bytesWorld_size w e s, ?_, ⟨_, _, Lib.bytesWorld_at_new w e s⟩⟩
  · exact ⟨rfl, rfl, rfl, by rw [Lib.bytesWorld_size]; omega, fun k hk _ => Lib.bytesWorld_at_old w e s k hk⟩
  · have hl : s.data.toList.length = s.size := by rw [Array.length_toList]; rfl
    refine Sees.at (by rw [bvs_length, hl, Nat.mul_one]) hm (fun j v hj => ?_)
    have hjl : j < s.size := by
      rcases Nat.lt_or_ge j s.size with h | h
      · exact h
      · rw [List.getElem?_eq_none (by rw [bvs_length, hl]; exact h)] at hj; cases hj
    rw [Nat.zero_add, Lib.bytesWorld_cell w e s j hjl]
    rw [bvs_get _ j (by rw [hl]; exact hjl)] at hj
    cases hj
    have hjd : j < s.data.size := hjl
    simp [bv, List.getD, Array.getElem?_eq_getElem hjd]
theorem wp_string_bytes {src dst' : TypeId} {x : Operand} (e : TypeId) (s : ByteArray) (hs : P.underlying src = some .string) (hd : P.underlying dst' = some (.slice e)) (he : P.underlying e = some (.int .u8)) (hx : a.eval x = .string s) (hm : s.size ≤ maxLen)
    (h : ∀ c w', Upd (fun _ => False) w w' → w'.heap.size = w.heap.size + 1 → Sees w' 1 (.slice (some ⟨w.heap.size, 0, none⟩) s.size c) s.size (bvs s.data.toList) → K (a.put dst (.slice (some ⟨w.heap.size, 0, none⟩) s.size c)) w') :
    (⟨dst, .convert src dst' x, ty, pos, aft, none⟩ : Oper).wp P a w K Q := by
  obtain ⟨c, w', hr, h1, h2, h3, _⟩ := run_string_bytes (P := P) src dst' e s hs hd he hm w
  unfold Oper.wp execOp
  simp only [hx, Sem.run_bind, hr, Result.andThen_ok, Sem.run_pure]
  exact h c w' h1 h2 h3
theorem wpl_string_bytes {src dst' : TypeId} {x : Operand} (e : TypeId) (s : ByteArray) (hs : P.underlying src = some .string) (hd : P.underlying dst' = some (.slice e)) (he : P.underlying e = some (.int .u8)) (hx : a.eval x = .string s) (hm : s.size ≤ maxLen)
    (h : ∀ c w', Upd (fun _ => False) w w' → w'.heap.size = w.heap.size + 1 → Sees w' 1 (.slice (some ⟨w.heap.size, 0, none⟩) s.size c) s.size (bvs s.data.toList) → wpList P ops Q rest (a.put dst (.slice (some ⟨w.heap.size, 0, none⟩) s.size c)) w') :
    wpList P ops Q (⟨dst, .convert src dst' x, ty, pos, aft, none⟩ :: rest) a w :=
  wpList_plain rfl fun _ hK => wp_string_bytes e s hs hd he hx hm fun c w' h1 h2 h3 => hK _ _ (h c w' h1 h2 h3)
end
end Go.Proofs.YtihlijnobbonbaaGreat
