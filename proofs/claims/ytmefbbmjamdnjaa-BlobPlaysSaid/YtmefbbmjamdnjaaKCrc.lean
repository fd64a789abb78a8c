/- Package crc: contracts; strings. -/
import Derived.Test.YtmefbbmjamdnjaaRows
import Derived.Test.YtmefbbmjamdnjaaKPlain
import Derived.Test.YtmefbbmjamdnjaaKBase
import Derived.WalkKit
import Derived.ProofKit
import Derived.Deep.QuietTactic
import Derived.BigQuiet
import Derived.Below
import Derived.Lib.Hide
import Derived.Defers
import Derived.Laws.Pointers
import Derived.Laws.LoneSync
import Derived.RegionTactic
import Derived.RegionCalls
import Derived.ChangeAlike
import Derived.Lib.ConvBytes
import Derived.Laws.BytesArg
set_option linter.unusedSimpArgs false
set_option linter.unusedVariables false
/- Contracts of package crc: step, Update, Sum. -/
namespace Go.Proofs.Ytmefbbmjamdnjaa
open Go.RowKit
set_option linter.unusedSimpArgs false
set_option maxRecDepth 100000

theorem of_u32 (x : BitVec 32) : BitVec.ofInt 32 (x.toNat : Int) = x := by simp
theorem u32_and (x y : BitVec 32) : bits BinOp.and IntKind.u32 (x.toNat : Int) (y.toNat : Int) = ((x &&& y).toNat : Int) := by
  show IntKind.u32.wrap (((BitVec.ofInt 32 (x.toNat : Int) &&& BitVec.ofInt 32 (y.toNat : Int)).toNat : Nat) : Int) = _
  rw [of_u32, of_u32, IntKind.wrap_u32]
  have := (x &&& y).isLt
  omega
theorem u32_xor (x y : BitVec 32) : bits BinOp.xor IntKind.u32 (x.toNat : Int) (y.toNat : Int) = ((x ^^^ y).toNat : Int) := by
  show IntKind.u32.wrap (((BitVec.ofInt 32 (x.toNat : Int) ^^^ BitVec.ofInt 32 (y.toNat : Int)).toNat : Nat) : Int) = _
  rw [of_u32, of_u32, IntKind.wrap_u32]
  have := (x ^^^ y).isLt
  omega

theorem lsb_odd (x : BitVec 32) : x.getLsbD 0 = decide (x.toNat % 2 = 1) := by
  rw [BitVec.getLsbD, Nat.testBit_zero]
theorem half (x : BitVec 32) : ((x.toNat : Int) / (2 : Int)) = ((x >>> 1).toNat : Int) := by
  rw [BitVec.toNat_ushiftRight, Nat.shiftRight_succ, Nat.shiftRight_zero]; omega
theorem step1_odd {x : BitVec 32} (h : ((x.toNat : Int) % 2 == 1) = true) : bits BinOp.xor IntKind.u32 ((x.toNat : Int) / (2 : Int)) 2197175160 = ((step1 x).toNat : Int) := by
  have h' : x.toNat % 2 = 1 := by have := eq_of_beq h; omega
  have e : ((x.toNat : Int) / (2 : Int)) = ((x >>> 1).toNat : Int) := half x
  have e2 : (2197175160 : Int) = (poly.toNat : Int) := by decide
  rw [e, e2, u32_xor, step1, lsb_odd, if_pos (by simpa using h')]
theorem step1_even {x : BitVec 32} (h : ((x.toNat : Int) % 2 == 1) = false) : ((x.toNat : Int) / (2 : Int)) = ((step1 x).toNat : Int) := by
  have h' : ¬ x.toNat % 2 = 1 := fun h' => absurd h (by simp; omega)
  rw [step1, lsb_odd, if_neg (by simpa using h'), half]

theorem u32_not (x : BitVec 32) : bits BinOp.xor IntKind.u32 IntKind.u32.max (x.toNat : Int) = ((~~~x).toNat : Int) := by
  have e : IntKind.u32.max = ((BitVec.allOnes 32).toNat : Int) := by decide
  rw [e, u32_xor, BitVec.allOnes_xor]
theorem low_byte (x : BitVec 32) (b : UInt8) : bits BinOp.xor IntKind.u32 (bits BinOp.and IntKind.u32 (x.toNat : Int) 255) ((b.toNat : Int) % 4294967296) = (((x &&& 255#32) ^^^ BitVec.ofNat 32 b.toNat).toNat : Int) := by
  have hb := b.toNat_lt
  have e1 : bits BinOp.and IntKind.u32 (x.toNat : Int) 255 = ((x &&& 255#32).toNat : Int) := u32_and x 255#32
  have e2 : (b.toNat : Int) % 4294967296 = ((BitVec.ofNat 32 b.toNat).toNat : Int) := by rw [BitVec.toNat_ofNat, Nat.mod_eq_of_lt (by omega)]; omega
  rw [e1, e2, u32_xor]
theorem eat_fact (x : BitVec 32) (b : UInt8) : bits BinOp.xor IntKind.u32 ((steps 8 ((x &&& 255#32) ^^^ BitVec.ofNat 32 b.toNat)).toNat : Int) ((x.toNat : Int) / (256 : Int)) = ((eat x b).toNat : Int) := by
  have e : (x.toNat : Int) / (256 : Int) = ((x >>> 8).toNat : Int) := by rw [BitVec.toNat_ushiftRight, Nat.shiftRight_eq_div_pow]; omega
  rw [e, u32_xor]; rfl

end Go.Proofs.Ytmefbbmjamdnjaa
/- Contracts of package crc: the table, in the midst of a block: fill, sync.Once's Do, Sum, Calls. -/
namespace Go.Proofs.Ytmefbbmjamdnjaa
open Go.RowKit
set_option linter.unusedSimpArgs false
set_option maxRecDepth 100000

/-- A table as it lies: once (done, the lock's state, its semaphore), the rows, the calls. -/
def u32V (x : BitVec 32) : Value := .int .u32 x.toNat
def tabV (d m : Int) (rows : List (BitVec 32)) (c : Int) : List Value := .int .u32 d :: .int .i32 m :: .int .u32 0 :: (rows.map u32V ++ [.int .i64 c])
def TabAt (w : World) (b o : Nat) (pre post : List Value) (t : TypeId) (d m : Int) (rows : List (BitVec 32)) (c : Int) : Prop := pre.length = o ∧ rows.length = 256 ∧ w.heap[b]? = some (.cells (pre ++ tabV d m rows c ++ post).toArray t (0, 0))
def fullRows : List (BitVec 32) := (List.range 256).map (fun i => steps 8 (BitVec.ofNat 32 i))
theorem fullRows_length : fullRows.length = 256 := by simp [fullRows]

theorem tab_get {b o : Nat} {pre post : List Value} {t : TypeId} {w : World} {d m : Int} {rows : List (BitVec 32)} {c : Int} (h : TabAt w b o pre post t d m rows c) (i : Nat) (hi : i < 260) : w.cell? ⟨b, o + i, none⟩ = (tabV d m rows c)[i]? := by
  have hl : (tabV d m rows c).length = 260 := by simp [tabV, h.2.1]
  rw [cell_of_row _ _ _ _ _ _ h.2.2, ← h.1]
  simp only [List.getElem?_toArray]
  rw [List.append_assoc, List.getElem?_append_right (by omega), Nat.add_sub_cancel_left, List.getElem?_append_left (by omega)]
theorem tab_set {b o : Nat} {pre post : List Value} {t : TypeId} {w : World} {d m : Int} {rows : List (BitVec 32)} {c : Int} (h : TabAt w b o pre post t d m rows c) (i : Nat) (hi : i < 260) (v : Value) : (w.setCell ⟨b, o + i, none⟩ v).heap[b]? = some (.cells (pre ++ (tabV d m rows c).set i v ++ post).toArray t (0, 0)) := by
  have hl : (tabV d m rows c).length = 260 := by simp [tabV, h.2.1]
  rw [stored h.2.2, ← h.1, List.setIfInBounds_toArray]
  rw [List.append_assoc, List.set_append_right _ _ (by omega), Nat.add_sub_cancel_left, List.set_append_left _ _ (by omega), List.append_assoc]
theorem TabAt.heap {b o : Nat} {pre post : List Value} {t : TypeId} {w : World} {d m : Int} {rows : List (BitVec 32)} {c : Int} (h : TabAt w b o pre post t d m rows c) : w.heap[b]? = some (.cells (pre ++ tabV d m rows c ++ post).toArray t (0, 0)) := h.2.2
theorem TabAt.cell0 {w : World} {b o : Nat} {pre post : List Value} {t : TypeId} {d m : Int} {rows : List (BitVec 32)} {c : Int} (h : TabAt w b o pre post t d m rows c) : w.cell? ⟨b, o, none⟩ = some (.int .u32 d) := tab_get h 0 (by decide)
theorem TabAt.cell1 {w : World} {b o : Nat} {pre post : List Value} {t : TypeId} {d m : Int} {rows : List (BitVec 32)} {c : Int} (h : TabAt w b o pre post t d m rows c) : w.cell? ⟨b, o + 1, none⟩ = some (.int .i32 m) := tab_get h 1 (by decide)
theorem TabAt.cellR {w : World} {b o : Nat} {pre post : List Value} {t : TypeId} {d m : Int} {rows : List (BitVec 32)} {c : Int} (h : TabAt w b o pre post t d m rows c) (k : Nat) (hk : k < 256) : w.cell? ⟨b, o + 3 + k, none⟩ = some (u32V (rows[k]'(by rw [h.2.1]; exact hk))) := by
  rw [Nat.add_assoc, tab_get h (3 + k) (by omega), Nat.add_comm 3 k]
  have hl := h.2.1
  simp [tabV, hl, hk, List.getElem?_append]
theorem TabAt.cellC {w : World} {b o : Nat} {pre post : List Value} {t : TypeId} {d m : Int} {rows : List (BitVec 32)} {c : Int} (h : TabAt w b o pre post t d m rows c) : w.cell? ⟨b, o + 259, none⟩ = some (.int .i64 c) := by
  rw [tab_get h 259 (by decide)]
  have hl := h.2.1
  simp [tabV, hl]
theorem TabAt.set0 {w : World} {b o : Nat} {pre post : List Value} {t : TypeId} {d m : Int} {rows : List (BitVec 32)} {c : Int} (h : TabAt w b o pre post t d m rows c) (d' : Int) : TabAt (w.setCell ⟨b, o, none⟩ (.int .u32 d')) b o pre post t d' m rows c := ⟨h.1, h.2.1, tab_set h 0 (by decide) _⟩
theorem TabAt.set1 {w : World} {b o : Nat} {pre post : List Value} {t : TypeId} {d m : Int} {rows : List (BitVec 32)} {c : Int} (h : TabAt w b o pre post t d m rows c) (m' : Int) : TabAt (w.setCell ⟨b, o + 1, none⟩ (.int .i32 m')) b o pre post t d m' rows c := ⟨h.1, h.2.1, tab_set h 1 (by decide) _⟩
theorem TabAt.setC {w : World} {b o : Nat} {pre post : List Value} {t : TypeId} {d m : Int} {rows : List (BitVec 32)} {c : Int} (h : TabAt w b o pre post t d m rows c) (c' : Int) : TabAt (w.setCell ⟨b, o + 259, none⟩ (.int .i64 c')) b o pre post t d m rows c' :=
  ⟨h.1, h.2.1, by
    have hl := h.2.1
    rw [tab_set h 259 (by decide)]
    simp only [tabV]
    rw [List.set_cons_succ, List.set_cons_succ, List.set_cons_succ, List.set_append_right _ _ (by simp [hl])]
    simp [hl]⟩
theorem TabAt.setR {w : World} {b o : Nat} {pre post : List Value} {t : TypeId} {d m : Int} {rows : List (BitVec 32)} {c : Int} (h : TabAt w b o pre post t d m rows c) (k : Nat) (hk : k < 256) (x : BitVec 32) : TabAt (w.setCell ⟨b, o + 3 + k, none⟩ (u32V x)) b o pre post t d m (rows.set k x) c :=
  ⟨h.1, by rw [List.length_set]; exact h.2.1, by
    have hl := h.2.1
    rw [Nat.add_assoc, tab_set h (3 + k) (by omega), Nat.add_comm 3 k]
    simp only [tabV]
    rw [List.set_cons_succ, List.set_cons_succ, List.set_cons_succ, List.set_append_left _ _ (by simp [hl, hk])]
    simp⟩
theorem TabAt.upd {w w' : World} {b o : Nat} {pre post : List Value} {t : TypeId} {d m : Int} {rows : List (BitVec 32)} {c : Int} {F : Nat → Prop} (h : TabAt w b o pre post t d m rows c) (hu : Upd F w w') (hf : ¬ F b) : TabAt w' b o pre post t d m rows c := ⟨h.1, h.2.1, hu.heap h.2.2 hf⟩

/-- What fill has laid so far. -/
def FillR (w0 : World) (b o : Nat) (pre post : List Value) (t : TypeId) (d m c : Int) (k : Nat) (wr : World) : Prop := Upd (fun j => j = b) w0 wr ∧ ∃ rows, TabAt wr b o pre post t d m rows c ∧ ∀ j, j < k → rows[j]? = some (steps 8 (BitVec.ofNat 32 j))

end Go.Proofs.Ytmefbbmjamdnjaa
/- sync.Once over the table: the parts. -/
namespace Go.Proofs.Ytmefbbmjamdnjaa
open Go.RowKit
set_option linter.unusedSimpArgs false
set_option maxRecDepth 100000

end Go.Proofs.Ytmefbbmjamdnjaa
/- The table's Sum and Calls; docketlaw01.fixed. -/
namespace Go.Proofs.Ytmefbbmjamdnjaa
open Go.RowKit
set_option linter.unusedSimpArgs false
set_option maxRecDepth 100000

def Ready (w : World) (b o : Nat) (pre post : List Value) (t : TypeId) (c : Int) : Prop := (∃ rows, TabAt w b o pre post t 0 0 rows c) ∨ TabAt w b o pre post t 1 0 fullRows c
theorem u8_xor_idx (x : BitVec 32) (b : UInt8) : bits BinOp.xor IntKind.u8 ((x.toNat : Int) % 256) (b.toNat : Int) = (((x &&& 255#32) ^^^ BitVec.ofNat 32 b.toNat).toNat : Int) ∧ ((x &&& 255#32) ^^^ BitVec.ofNat 32 b.toNat).toNat < 256 := by
  have hb := b.toNat_lt
  have e1 : (x &&& 255#32).toNat = x.toNat % 256 := by rw [BitVec.toNat_and, show (255#32).toNat = 2 ^ 8 - 1 by decide, Nat.and_two_pow_sub_one_eq_mod]
  have e2 : (BitVec.ofNat 32 b.toNat).toNat = b.toNat := by rw [BitVec.toNat_ofNat, Nat.mod_eq_of_lt (by omega)]
  have e3 : ((x &&& 255#32) ^^^ BitVec.ofNat 32 b.toNat).toNat = (x.toNat % 256) ^^^ b.toNat := by rw [BitVec.toNat_xor, e1, e2]
  have hlt : (x.toNat % 256) ^^^ b.toNat < 2 ^ 8 := Nat.xor_lt_two_pow (by omega) (by omega)
  refine ⟨?_, by rw [e3]; exact hlt⟩
  rw [e3]
  have e5 : (x.toNat : Int) % 256 = ((x.toNat % 256 : Nat) : Int) := by omega
  rw [e5]
  show IntKind.u8.wrap (((BitVec.ofInt 8 ((x.toNat % 256 : Nat) : Int) ^^^ BitVec.ofInt 8 (b.toNat : Int)).toNat : Nat) : Int) = _
  rw [BitVec.toNat_xor, BitVec.ofInt_natCast, BitVec.ofInt_natCast, BitVec.toNat_ofNat, BitVec.toNat_ofNat, Nat.mod_eq_of_lt (show x.toNat % 256 < 2 ^ 8 by omega), Nat.mod_eq_of_lt (show b.toNat < 2 ^ 8 by omega), IntKind.wrap_u8]
  omega

end Go.Proofs.Ytmefbbmjamdnjaa
/- Strings and bytes: the conversions. -/
namespace Go.Proofs.Ytmefbbmjamdnjaa
open Go Go.RowKit
set_option linter.unusedSimpArgs false
set_option maxRecDepth 100000

/-- A text of bytes. -/
def strV (l : List UInt8) : ByteArray := ⟨l.toArray⟩
theorem strV_data (s : ByteArray) : strV s.data.toList = s := by cases s; simp [strV]
theorem strV_size (l : List UInt8) : (strV l).size = l.length := by simp [strV, ByteArray.size]
theorem strV_list (l : List UInt8) : (strV l).toList = l := by simp [strV]
theorem strV_inj {a b : List UInt8} (h : strV a = strV b) : a = b := by rw [← strV_list a, h, strV_list]

section
variable {P : Program} {ops : Array Oper} {Q : Exit → Act → World → Prop} {rest : List Oper} {dst : Option Tmp} {ty : TypeId} {pos : String} {aft : Array Edge} {a : Act} {w : World} {K : Act → World → Prop} {next : Act → Prop}

theorem run_bytes_string (src e sty : TypeId) (hs : P.underlying src = some (.slice e)) (he : P.underlying e = some (.int .u8)) (hd : P.underlying sty = some .string) (v : Value) (bs : List UInt8) (hv : Sees w 1 v bs.length (bvs bs)) :
    (convert src sty v).run P w = .ok (.string (strV bs)) w := by
  obtain ⟨_, _, xo, c, rfl, hc⟩ := hv
  by_cases h0 : 0 < bs.length
  · obtain ⟨b, off, rfl, hr⟩ := hc h0
    have h := run_convert_bytes_arg (P := P) w src e hs he b off bs.length c (bs.map fun b => (b.toNat : Int)) (by simp) (fun i hi => by
      have := hr i (bv bs[i]) (bvs_get bs i hi)
      rw [this]
      simp [bv, List.getD, hi]) sty hd
    rw [h]
    congr 2
    have : (strOfNums (bs.map fun b => (b.toNat : Int))).data.toList = bs := by
      rw [strOfNums_data, List.map_map]
      conv => rhs; rw [← List.map_id bs]
      apply List.map_congr_left
      intro b _
      simp
    rw [← strV_data (strOfNums _), this]
  · have hb : bs = [] := List.eq_nil_of_length_eq_zero (by omega)
    subst hb
    cases xo with
    | none => exact run_convert_bytes_nil (P := P) w src e hs he 0 c sty hd
    | some x =>
      simp [convert, run_underlying hs, run_underlying hd, run_underlying he, Conv.bytesToString, loadCells, loadCellsFrom]
      rfl
theorem gives_bytes_string {src sty : TypeId} {x : Operand} (e : TypeId) (v : Value) (bs : List UInt8) (hs : P.underlying src = some (.slice e)) (he : P.underlying e = some (.int .u8)) (hd : P.underlying sty = some .string)
    (hx : a.eval x = v) (hv : Sees w 1 v bs.length (bvs bs)) (h : next (a.put dst (.string (strV bs)))) : Oper.gives P (⟨dst, .convert src sty x, ty, pos, aft, none⟩ : Oper) a w next := by
  subst hx
  unfold Oper.gives execOp
  simp only [Sem.run_bind, run_bytes_string src e sty hs he hd _ bs hv, Result.andThen_ok, Sem.run_pure, Oper.givesUpon_value]
  exact h

/-- []byte(s): a new row. -/
theorem run_string_bytes (src dst' e : TypeId) (s : ByteArray) (hs : P.underlying src = some .string) (hd : P.underlying dst' = some (.slice e)) (he : P.underlying e = some (.int .u8)) (hm : s.size ≤ maxLen) (w : World) :
    ∃ c w', (convert src dst' (.string s)).run P w = .ok (.slice (some ⟨w.heap.size, 0, none⟩) s.size c) w' ∧ Upd (fun _ => False) w w' ∧ w'.heap.size = w.heap.size + 1 ∧
      Sees w' 1 (.slice (some ⟨w.heap.size, 0, none⟩) s.size c) s.size (bvs s.data.toList) ∧ ∃ cur fr, w'.heap[w.heap.size]? = some (.cells cur e fr) := by
  refine ⟨_, _, Lib.run_convert_string_bytes w src dst' e s hs hd he, ?_, Lib.bytesWorld_size w e s, ?_, ⟨_, _, Lib.bytesWorld_at_new w e s⟩⟩
  · exact ⟨rfl, rfl, rfl, by rw [Lib.bytesWorld_size]; omega, fun k hk _ => Lib.bytesWorld_at_old w e s k hk⟩
  · have hl : s.data.toList.length = s.size := by rw [Array.length_toList]; rfl
    refine Sees.at (by rw [bvs_length, hl, Nat.mul_one]) hm (fun j v hj => ?_)
    have hjl : j < s.size := by
      rcases Nat.lt_or_ge j s.size with h | h
      · exact h
      · rw [List.getElem?_eq_none (by rw [bvs_length, hl]; exact h)] at hj; cases hj
    rw [Nat.zero_add, Lib.bytesWorld_cell w e s j hjl]
    rw [bvs_get _ j (by rw [hl]; exact hjl)] at hj
    cases hj
    have hjd : j < s.data.size := hjl
    simp [bv, List.getD, Array.getElem?_eq_getElem hjd]
theorem wp_string_bytes {src dst' : TypeId} {x : Operand} (e : TypeId) (s : ByteArray) (hs : P.underlying src = some .string) (hd : P.underlying dst' = some (.slice e)) (he : P.underlying e = some (.int .u8)) (hx : a.eval x = .string s) (hm : s.size ≤ maxLen)
    (h : ∀ c w', Upd (fun _ => False) w w' → w'.heap.size = w.heap.size + 1 → Sees w' 1 (.slice (some ⟨w.heap.size, 0, none⟩) s.size c) s.size (bvs s.data.toList) → K (a.put dst (.slice (some ⟨w.heap.size, 0, none⟩) s.size c)) w') :
    (⟨dst, .convert src dst' x, ty, pos, aft, none⟩ : Oper).wp P a w K Q := by
  obtain ⟨c, w', hr, h1, h2, h3, _⟩ := run_string_bytes (P := P) src dst' e s hs hd he hm w
  unfold Oper.wp execOp
  simp only [hx, Sem.run_bind, hr, Result.andThen_ok, Sem.run_pure]
  exact h c w' h1 h2 h3
theorem wpl_string_bytes {src dst' : TypeId} {x : Operand} (e : TypeId) (s : ByteArray) (hs : P.underlying src = some .string) (hd : P.underlying dst' = some (.slice e)) (he : P.underlying e = some (.int .u8)) (hx : a.eval x = .string s) (hm : s.size ≤ maxLen)
    (h : ∀ c w', Upd (fun _ => False) w w' → w'.heap.size = w.heap.size + 1 → Sees w' 1 (.slice (some ⟨w.heap.size, 0, none⟩) s.size c) s.size (bvs s.data.toList) → wpList P ops Q rest (a.put dst (.slice (some ⟨w.heap.size, 0, none⟩) s.size c)) w') :
    wpList P ops Q (⟨dst, .convert src dst' x, ty, pos, aft, none⟩ :: rest) a w :=
  wpList_plain rfl fun _ hK => wp_string_bytes e s hs hd he hx hm fun c w' h1 h2 h3 => hK _ _ (h c w' h1 h2 h3)
end
end Go.Proofs.Ytmefbbmjamdnjaa
