/- Strings and bytes: the conversions. -/
import Derived.Test.YtocameknhglklaaOps
import Derived.Lib.ConvBytes
import Derived.Laws.BytesArg
namespace Go.Proofs.Ytocameknhglklaa
open Go Go.RowKit
set_option linter.unusedSimpArgs false
set_option maxRecDepth 100000

/-- A text of bytes. -/
def strV (l : List UInt8) : ByteArray := ⟨l.toArray⟩
theorem strV_data (s : ByteArray) : strV s.data.toList = s := by cases s; simp [strV]
theorem strV_size (l : List UInt8) : (strV l).size = l.length := by simp [strV, ByteArray.size]
theorem strV_list (l : List UInt8) : (strV l).toList = l := by simp [strV]
theorem strV_inj {a b : List UInt8} (h : strV a = strV b) : a = b := by rw [← strV_list a, h, strV_list]

section
variable {P : Program} {ops : Array Oper} {Q : Exit → Act → World → Prop} {rest : List Oper} {dst : Option Tmp} {ty : TypeId} {pos : String} {aft : Array Edge} {a : Act} {w : World} {K : Act → World → Prop} {next : Act → Prop}

theorem run_bytes_string (src e sty : TypeId) (hs : P.underlying src = some (.slice e)) (he : P.underlying e = some (.int .u8)) (hd : P.underlying sty = some .string) (v : Value) (bs : List UInt8) (hv : Sees w 1 v bs.length (bvs bs)) :
    (convert src sty v).run P w = .ok (.string (strV bs)) w := by
  obtain ⟨_, _, xo, c, rfl, hc⟩ := hv
  by_cases h0 : 0 < bs.length
  · obtain ⟨b, off, rfl, hr⟩ := hc h0
    have h := run_convert_bytes_arg (P := P) w src e hs he b off bs.length c (bs.map fun b => (b.toNat : Int)) (by simp) (fun i hi => by
      have := hr i (bv bs[i]) (bvs_get bs i hi)
      rw [this]
      simp [bv, List.getD, hi]) sty hd
    rw [h]
    congr 2
    have : (strOfNums (bs.map fun b => (b.toNat : Int))).data.toList = bs := by
      rw [strOfNums_data, List.map_map]
      conv => rhs; rw [← List.map_id bs]
      apply List.map_congr_left
      intro b _
      simp
    rw [← strV_data (strOfNums _), this]
  · have hb : bs = [] := List.eq_nil_of_length_eq_zero (by omega)
    subst hb
    cases xo with
    | none => exact run_convert_bytes_nil (P := P) w src e hs he 0 c sty hd
    | some x =>
      simp [convert, run_underlying hs, run_underlying hd, run_underlying he, Conv.bytesToString, loadCells, loadCellsFrom]
      rfl
theorem gives_bytes_string {src sty : TypeId} {x : Operand} (e : TypeId) (v : Value) (bs : List UInt8) (hs : P.underlying src = some (.slice e)) (he : P.underlying e = some (.int .u8)) (hd : P.underlying sty = some .string)
    (hx : a.eval x = v) (hv : Sees w 1 v bs.length (bvs bs)) (h : next (a.put dst (.string (strV bs)))) : Oper.gives P (⟨dst, .convert src sty x, ty, pos, aft, none⟩ : Oper) a w next := by
  subst hx
  unfold Oper.gives execOp
  simp only [Sem.run_bind, run_bytes_string src e sty hs he hd _ bs hv, Result.andThen_ok, Sem.run_pure, Oper.givesUpon_value]
  exact h

/-- []byte(s): a new row. -/
theorem run_string_bytes (src dst' e : TypeId) (s : ByteArray) (hs : P.underlying src = some .string) (hd : P.underlying dst' = some (.slice e)) (he : P.underlying e = some (.int .u8)) (hm : s.size ≤ maxLen) (w : World) :
    ∃ c w', (convert src dst' (.string s)).run P w = .ok (.slice (some ⟨w.heap.size, 0, none⟩) s.size c) w' ∧ Upd (fun _ => False) w w' ∧ w'.heap.size = w.heap.size + 1 ∧
      Sees w' 1 (.slice (some ⟨w.heap.size, 0, none⟩) s.size c) s.size (bvs s.data.toList) ∧ ∃ cur fr, w'.heap[w.heap.size]? = some (.cells cur e fr) := by
  refine ⟨_, _, Lib.run_convert_string_bytes w src dst' e s hs hd he, ?_, Lib.bytesWorld_size w e s, ?_, ⟨_, _, Lib.bytesWorld_at_new w e s⟩⟩
  · exact ⟨rfl, rfl, rfl, by rw [Lib.bytesWorld_size]; omega, fun k hk _ => Lib.bytesWorld_at_old w e s k hk⟩
  · have hl : s.data.toList.length = s.size := by rw [Array.length_toList]; rfl
    refine Sees.at (by rw [bvs_length, hl, Nat.mul_one]) hm (fun j v hj => ?_)
    have hjl : j < s.size := by
      rcases Nat.lt_or_ge j s.size with h | h
      · exact h
      · rw [List.getElem?_eq_none (by rw [bvs_length, hl]; exact h)] at hj; cases hj
    rw [Nat.zero_add, Lib.bytesWorld_cell w e s j hjl]
    rw [bvs_get _ j (by rw [hl]; exact hjl)] at hj
    cases hj
    have hjd : j < s.data.size := hjl
    simp [bv, List.getD, Array.getElem?_eq_getElem hjd]
theorem wp_string_bytes {src dst' : TypeId} {x : Operand} (e : TypeId) (s : ByteArray) (hs : P.underlying src = some .string) (hd : P.underlying dst' = some (.slice e)) (he : P.underlying e = some (.int .u8)) (hx : a.eval x = .string s) (hm : s.size ≤ maxLen)
    (h : ∀ c w', Upd (fun _ => False) w w' → w'.heap.size = w.heap.size + 1 → Sees w' 1 (.slice (some ⟨w.heap.size, 0, none⟩) s.size c) s.size (bvs s.data.toList) → K (a.put dst (.slice (some ⟨w.heap.size, 0, none⟩) s.size c)) w') :
    (⟨dst, .convert src dst' x, ty, pos, aft, none⟩ : Oper).wp P a w K Q := by
  obtain ⟨c, w', hr, h1, h2, h3, _⟩ := run_string_bytes (P := P) src dst' e s hs hd he hm w
  unfold Oper.wp execOp
  simp only [hx, Sem.run_bind, hr, Result.andThen_ok, Sem.run_pure]
  exact h c w' h1 h2 h3
theorem wpl_string_bytes {src dst' : TypeId} {x : Operand} (e : TypeId) (s : ByteArray) (hs : P.underlying src = some .string) (hd : P.underlying dst' = some (.slice e)) (he : P.underlying e = some (.int .u8)) (hx : a.eval x = .string s) (hm : s.size ≤ maxLen)
    (h : ∀ c w', Upd (fun _ => False) w w' → w'.heap.size = w.heap.size + 1 → Sees w' 1 (.slice (some ⟨w.heap.size, 0, none⟩) s.size c) s.size (bvs s.data.toList) → wpList P ops Q rest (a.put dst (.slice (some ⟨w.heap.size, 0, none⟩) s.size c)) w') :
    wpList P ops Q (⟨dst, .convert src dst' x, ty, pos, aft, none⟩ :: rest) a w :=
  wpList_plain rfl fun _ hK => wp_string_bytes e s hs hd he hx hm fun c w' h1 h2 h3 => hK _ _ (h c w' h1 h2 h3)
end
end Go.Proofs.Ytocameknhglklaa
