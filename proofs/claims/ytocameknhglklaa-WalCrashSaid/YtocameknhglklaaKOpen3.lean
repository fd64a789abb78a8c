/- What comes in for the laws of chapter 3. -/
import Derived.Test.YtocameknhglklaaRows
import Derived.Test.YtocameknhglklaaKDisk
import Derived.SizedLaws
import Derived.Test.YtocameknhglklaaKCrc
import Derived.Lib.SmallJoins
import Derived.Test.YtocameknhglklaaKWal
import Derived.Deep.Strs
/- Bytes that came in, with what they weigh. -/
namespace Go.Proofs.Ytocameknhglklaa
open Go.ChangeShapes Go.WideShapes Go.ChangeAt Go.RowKit Go.Deep
set_option linter.unusedSimpArgs false
set_option maxRecDepth 100000

section
variable {H : Type} {enc : TypeId × Value → H} {W : World} {base : Nat}

theorem open_bytes2 {v : Value} {d : DataW H} {p : List MemPlace} (hv : Value.okWide Try.prog W .any base 98 v) (h : DataW.Trod enc Try.prog W 0 (fun _ => true) true 98 v d p) :
    ∃ (a : Option Addr) (c : Nat) (bs : List UInt8), v = .slice a bs.length c ∧ (Sees W 1 (.slice a bs.length c) bs.length (bvs bs) ∧ bs.length ≤ c) ∧ (∀ x, a = some x → 0 < bs.length → x.block < W.heap.size) ∧
      ((d = .nil ∧ bs = []) ∨ ∃ zs sp, zs.length = bs.length ∧ d = .slice (lits .u8 zs) sp) := by
  obtain ⟨a0, len, cap, rfl⟩ := okWide_slice Try.underlying98 hv
  obtain ⟨fuel, hf⟩ := h
  rcases open_ints Try.underlying98 Try.underlying5 (by kernel_rfl) hf with ⟨hcs, hx⟩ | ⟨x, l, c, zs, hcs, _, hl, hm, hz, hx, hcell, hwz⟩
  · simp [Value.cells] at hcs
    obtain ⟨rfl, rfl, rfl⟩ := hcs
    simp only [Prod.mk.injEq] at hx
    exact ⟨none, 0, [], rfl, ⟨Sees.zero _ _ _ _, Nat.le_refl _⟩, (fun x hx => by cases hx), .inl ⟨hx.1, rfl⟩⟩
  · simp [Value.cells] at hcs
    obtain ⟨rfl, rfl, rfl⟩ := hcs
    have hz' : zs.length = cap := by simpa using hz
    simp only [Prod.mk.injEq] at hx
    have hlen : ((zs.take len).map (fun n => UInt8.ofNat n.toNat)).length = len := by simp; omega
    have hc : ∀ i, i < len → W.cell? (x.add i) = some (.int .u8 (zs.getD i 0)) := fun i hi => hcell i (by omega)
    obtain ⟨h1, h2⟩ := sees_of_cells (cap := cap) (Nat.le_trans hl hm) hc
    have e : (List.range len).map (fun i => Value.int .u8 (zs.getD i 0)) = bvs ((zs.take len).map (fun n => UInt8.ofNat n.toNat)) := by
      apply List.ext_getElem?
      intro i
      by_cases hi : i < len
      · have hiz : i < zs.length := by omega
        have hw := hwz zs[i] (List.getElem_mem hiz)
        have hb := bounds_u8 hw
        simp [bvs, hi, hiz, bv, List.getElem?_take]
        omega
      · rw [List.getElem?_eq_none (by simpa using hi), List.getElem?_eq_none (by rw [bvs_length, hlen]; omega)]
    rw [e] at h1
    exact ⟨some x, cap, _, by rw [hlen], by rw [hlen]; exact ⟨h1, hl⟩, (fun y hy h0 => by cases hy; exact h2 (by omega)), .inr ⟨zs.take len, _, by rw [hlen]; simp; omega, hx.1⟩⟩

theorem bytes8 : Try.prog.bytesOf 5 = 1 := by kernel_rfl
/-- By the form's own reach. -/
theorem bytes_reach {ts : List TypeId} {ds : List (DataW H)} (hsz : (DataW.weightsEach Try.prog ts ds).all (· ≤ reachBytes) = true) (j : Nat) {d : DataW H} {bs : List UInt8} (ht : ts[j]? = some 98) (hd : ds[j]? = some d)
    (h : (d = .nil ∧ bs = []) ∨ ∃ zs sp, zs.length = bs.length ∧ d = .slice (lits .u8 zs) sp) : bs.length ≤ 140737488351232 := by
  rcases h with ⟨_, rfl⟩ | ⟨zs, sp, hz, rfl⟩
  · simp
  · have := sized_slice hsz ht hd Try.underlying98
    rw [bytes8] at this
    simp only [lits, List.length_map, reachBytes] at this
    omega

/-- By the bulk. -/
theorem bulk_len : ∀ (ds : List (DataW H)), ds.length ≤ Rows.uptoBulkAll ds
  | [] => Nat.zero_le _
  | d :: r => by
    have h1 := bulk_len r
    have h2 : 1 ≤ Rows.uptoBulk d := by cases d <;> (try (rename_i l; cases l)) <;> simp [Rows.uptoBulk]
    simp only [Rows.uptoBulkAll, List.length_cons]
    omega
theorem bulk_mem : ∀ (ds : List (DataW H)) (d : DataW H), d ∈ ds → Rows.uptoBulk d ≤ Rows.uptoBulkAll ds
  | e :: r, d, h => by
    simp only [Rows.uptoBulkAll]
    rcases List.mem_cons.1 h with rfl | h
    · omega
    · have := bulk_mem r d h; omega
theorem bytes_bulk {ds : List (DataW H)} (hk : Rows.uptoSmall H ds = true) {d : DataW H} (hd : d ∈ ds) {bs : List UInt8}
    (h : (d = .nil ∧ bs = []) ∨ ∃ zs sp, zs.length = bs.length ∧ d = .slice (lits .u8 zs) sp) : bs.length ≤ 1048576 := by
  rcases h with ⟨_, rfl⟩ | ⟨zs, sp, hz, rfl⟩
  · simp
  · have h1 := bulk_mem _ _ hd
    have h2 := bulk_len (lits (H := H) .u8 zs)
    simp only [Rows.uptoSmall, decide_eq_true_eq] at hk
    simp only [lits, List.length_map] at h2
    simp only [Rows.uptoBulk, lits] at h1
    omega
end
end Go.Proofs.Ytocameknhglklaa
/- How long a slice that came in can be, by the bulk of an '..UptoSaid'. -/
namespace Go.Proofs.Ytocameknhglklaa
open Go.ChangeShapes Go.WideShapes Go.ChangeAt Go.RowKit Go.Deep
section
variable {H : Type} {enc : TypeId × Value → H} {W : World}
theorem upto_len {t e : TypeId} {a : Option Addr} {len cap : Nat} {d : DataW H} {p : List MemPlace} {ds : List (DataW H)} (ht : Try.prog.underlying t = some (.slice e)) (h : DataW.Trod enc Try.prog W 0 (fun _ => true) true t (.slice a len cap) d p)
    (hk : Rows.uptoSmall H ds = true) (hd : d ∈ ds) : len ≤ 1048576 := by
  obtain ⟨fuel, hf⟩ := h
  have h1 := bulk_mem _ _ hd
  simp only [Rows.uptoSmall, decide_eq_true_eq] at hk
  rcases open_slice ht hf with ⟨hcs, _⟩ | ⟨x, l, c, m, n, D, Pl, hcs, _, hl, hm, hmm, hx, hcell⟩
  · simp [Value.cells] at hcs
    obtain ⟨rfl, rfl, rfl⟩ := hcs
    omega
  · simp [Value.cells] at hcs
    obtain ⟨rfl, rfl, rfl⟩ := hcs
    simp only [Prod.mk.injEq] at hx
    obtain ⟨rfl, _⟩ := hx
    have h2 := bulk_len ((List.range len).map D)
    simp only [List.length_map, List.length_range] at h2
    simp only [Rows.uptoBulk] at h1
    omega
end
end Go.Proofs.Ytocameknhglklaa
/- Slices of docketlaw02.Op that came in. -/
namespace Go.Proofs.Ytocameknhglklaa
open Go.ChangeShapes Go.WideShapes Go.ChangeAt Go.RowKit Go.Deep
set_option linter.unusedSimpArgs false
set_option maxRecDepth 100000

/-- An Op, as it lies. -/
structure OpR where
  kind : Nat
  i : Int
  data : ByteArray
  ka : Option Addr
  kc : Nat
  keep : List Bool
instance : Inhabited OpR := ⟨⟨0, 0, ByteArray.empty, none, 0, []⟩⟩
def opV (o : OpR) : List Value := [.int .u8 o.kind, .int .i64 o.i, .string o.data, .slice o.ka o.keep.length o.kc]
structure OpR.Ok (w : World) (o : OpR) : Prop where
  kind : o.kind ≤ 255
  lo : -9223372036854775808 ≤ o.i
  hi : o.i ≤ 9223372036854775807
  data : o.data.size ≤ maxLen
  keep : Sees w 1 (.slice o.ka o.keep.length o.kc) o.keep.length (boolsV o.keep)
  lt : ∀ x, o.ka = some x → 0 < o.keep.length → x.block < w.heap.size

theorem cU8 : Try.prog.cellsOf 5 = 1 := by kernel_rfl
theorem cInt : Try.prog.cellsOf 3 = 1 := by kernel_rfl
theorem cStr : Try.prog.cellsOf 9 = 1 := by kernel_rfl
theorem cBools : Try.prog.cellsOf 43 = 1 := by kernel_rfl
theorem opV_length (o : OpR) : (opV o).length = 4 := rfl

section
variable {H : Type} {enc : TypeId × Value → H} {W : World} {base : Nat}

theorem open_bools' {n : Nat} {cs : List Value} {d : DataW H × List MemPlace} (h : DataW.trod enc Try.prog W 0 (fun _ => true) true n 43 cs = some d) :
    ∃ (a : Option Addr) (c : Nat) (bs : List Bool), cs = [.slice a bs.length c] ∧ Sees W 1 (.slice a bs.length c) bs.length (boolsV bs) ∧ (∀ x, a = some x → 0 < bs.length → x.block < W.heap.size) := by
  rcases open_slice1 Try.underlying43 (by kernel_rfl) h with ⟨hcs, _⟩ | ⟨x, l, c, m, n, V, D, Pl, hcs, _, hl, hm, hmm, _, hcell⟩
  · exact ⟨none, 0, [], hcs, Sees.zero _ _ _ _, fun x hx => by cases hx⟩
  · have hm' : m = c := by simpa using hmm
    have hb : ∀ i, i < m → ∃ b, V i = .bool b := fun i hi => by
      obtain ⟨b, hb, _⟩ := DataW.trod_bool Try.underlying4 (hcell i hi).2
      exact ⟨b, by simpa using hb⟩
    obtain ⟨f, hf'⟩ := choose_lt hb
    have hc : ∀ i, i < l → W.cell? (x.add i) = some (.bool (f i)) := fun i hi => by rw [(hcell i (by omega)).1, hf' i (by omega)]
    obtain ⟨h1, h2⟩ := sees_of_cells (cap := c) (Nat.le_trans hl hm) hc
    refine ⟨some x, c, (List.range l).map f, by simpa using hcs, ?_, fun y hy h0 => by cases hy; exact h2 (by simpa using h0)⟩
    have e : (List.range l).map (fun i => Value.bool (f i)) = boolsV ((List.range l).map f) := by simp [boolsV]
    rw [e] at h1
    simpa using h1

/-- What cells? reads. -/
theorem cells?_get {w : World} {base : Nat} {a : Addr} {n : Nat} {cs : List Value} (h : w.cells? base a n = some cs) : cs.length = n ∧ ∀ r v, cs[r]? = some v → w.cell? (a.add r) = some v := by
  unfold World.cells? at h
  split at h
  · have key : ∀ (l : List Nat) (cs : List Value), l.mapM (fun i => w.cell? (a.add i)) = some cs → cs.length = l.length ∧ ∀ (r : Nat) v, cs[r]? = some v → ∃ i, l[r]? = some i ∧ w.cell? (a.add i) = some v := by
      intro l
      induction l with
      | nil => intro cs h; simp at h; subst h; simp
      | cons x r ih =>
        intro cs h
        rw [List.mapM_cons] at h
        cases hx : w.cell? (a.add x) with
        | none => simp [hx] at h
        | some v =>
          cases ht : r.mapM (fun i => w.cell? (a.add i)) with
          | none => simp [hx, ht] at h
          | some t =>
          simp [hx, ht] at h
          subst h
          obtain ⟨h1, h2⟩ := ih t ht
          refine ⟨by simp [h1], fun r' u hu => ?_⟩
          cases r' with
          | zero => simp at hu; subst hu; exact ⟨x, rfl, hx⟩
          | succ r' => simp at hu; obtain ⟨i, h3, h4⟩ := h2 r' u hu; exact ⟨i, by simpa using h3, h4⟩
    obtain ⟨h1, h2⟩ := key _ _ h
    refine ⟨by simpa using h1, fun r v hv => ?_⟩
    obtain ⟨i, h3, h4⟩ := h2 r v hv
    rw [List.getElem?_range] at h3
    · cases h3; exact h4
    · rcases Nat.lt_or_ge r n with h | h
      · exact h
      · rw [List.getElem?_eq_none (by simpa using h)] at h3; cases h3
  · cases h

/-- A slice of things of several cells. -/
theorem sees_of_many {w : World} {a : Addr} {len cap size : Nat} (hsz : 0 < size) {α : Type} (l : List α) (f : α → List Value) (hf : ∀ x ∈ l, (f x).length = size) (hlen : l.length = len) (hm : len ≤ maxLen)
    (hc : ∀ i (hi : i < l.length) r v, (f l[i])[r]? = some v → w.cell? ((a.add (i * size)).add r) = some v) :
    Sees w size (.slice (some a) len cap) len (l.flatMap f) ∧ (0 < len → a.block < w.heap.size) := by
  have first : 0 < len → ∃ v, w.cell? a = some v := fun h0 => by
    have hi : 0 < l.length := by omega
    have hl := hf l[0] (List.getElem_mem hi)
    refine ⟨(f l[0])[0], ?_⟩
    have := hc 0 hi 0 _ (List.getElem?_eq_getElem (by omega))
    simpa [Addr.add] using this
  refine ⟨⟨by rw [flat_length f size l hf, hlen], hm, _, _, rfl, fun h0 => ?_⟩, fun h0 => ?_⟩
  · obtain ⟨v0, hv0⟩ := first h0
    have hs : a.spot = none := World.cell?_spot hv0
    refine ⟨a.block, a.off, by obtain ⟨b, o, s⟩ := a; simp at hs; subst hs; rfl, fun j v hj => ?_⟩
    have hjl : j < l.length * size := by
      rcases Nat.lt_or_ge j (l.length * size) with h | h
      · exact h
      · rw [List.getElem?_eq_none (by rw [flat_length f size l hf]; exact h)] at hj; cases hj
    have hq : j / size < l.length := by rw [Nat.div_lt_iff_lt_mul hsz]; exact hjl
    have hr : j % size < size := Nat.mod_lt _ hsz
    have he : j = j / size * size + j % size := by rw [Nat.mul_comm]; exact (Nat.div_add_mod j size).symm
    rw [he, flat_cell f size l hf _ _ hq hr] at hj
    have h1 := hc _ hq _ _ hj
    rw [Go.Deep.add_add, ← he] at h1
    exact Addr.add_none h1 (fun _ => hs)
  · obtain ⟨v0, hv0⟩ := first h0
    exact World.block_lt_of_cell? _ a hv0

end
end Go.Proofs.Ytocameknhglklaa
/- Batches and Ops of chapter 3 that came in. -/
namespace Go.Proofs.Ytocameknhglklaa
open Go.ChangeShapes Go.WideShapes Go.ChangeAt Go.RowKit Go.Deep
set_option linter.unusedSimpArgs false
set_option maxRecDepth 100000

/-- An Op of chapter 3, as it lies. -/
structure WOp where
  kind : Nat
  ba : Option Addr
  bc : Nat
  batch : Batch
  n : Int
instance : Inhabited WOp := ⟨⟨0, none, 0, [], 0⟩⟩
def wopV (o : WOp) : List Value := [.int .u8 o.kind, .slice o.ba o.batch.length o.bc, .int .i64 o.n]
structure WOp.Ok (w : World) (o : WOp) : Prop where
  kind : o.kind ≤ 255
  lo : -9223372036854775808 ≤ o.n
  hi : o.n ≤ 9223372036854775807
  batch : Sees w 1 (.slice o.ba o.batch.length o.bc) o.batch.length (strsV o.batch)
  lt : ∀ x, o.ba = some x → 0 < o.batch.length → x.block < w.heap.size
  sizes : ∀ r ∈ o.batch, r.size ≤ maxLen
theorem cStrs : Try.prog.cellsOf 22 = 1 := by kernel_rfl
theorem cI64 : Try.prog.cellsOf 2 = 1 := by kernel_rfl
theorem cWop : Try.prog.cellsOf 55 = 3 := by kernel_rfl
theorem wopV_length (o : WOp) : (wopV o).length = 3 := rfl

section
variable {H : Type} {enc : TypeId × Value → H} {W : World} {base : Nat}
theorem open_strs' {n : Nat} {cs : List Value} {d : DataW H × List MemPlace} (h : DataW.trod enc Try.prog W 0 (fun _ => true) true n 22 cs = some d) :
    ∃ (a : Option Addr) (c : Nat) (bs : Batch), cs = [.slice a bs.length c] ∧ Sees W 1 (.slice a bs.length c) bs.length (strsV bs) ∧ (∀ x, a = some x → 0 < bs.length → x.block < W.heap.size) ∧ (∀ r ∈ bs, r.size ≤ maxLen) := by
  rcases open_slice1 Try.underlying22 (by kernel_rfl) h with ⟨hcs, _⟩ | ⟨x, l, c, m, n, V, D, Pl, hcs, _, hl, hm, hmm, _, hcell⟩
  · exact ⟨none, 0, [], hcs, Sees.zero _ _ _ _, (fun x hx => by cases hx), fun r hr => by cases hr⟩
  · have hm' : m = c := by simpa using hmm
    have hb : ∀ i, i < m → ∃ b, V i = .string b ∧ b.size ≤ maxLen := fun i hi => by
      obtain ⟨s, hs, _, hsz⟩ := DataW.trod_string Try.underlying9 (hcell i hi).2
      exact ⟨s, by simpa using hs, hsz⟩
    obtain ⟨f, hf'⟩ := choose_lt hb
    have hc : ∀ i, i < l → W.cell? (x.add i) = some (.string (f i)) := fun i hi => by rw [(hcell i (by omega)).1, (hf' i (by omega)).1]
    obtain ⟨h1, h2⟩ := sees_of_cells (cap := c) (Nat.le_trans hl hm) hc
    refine ⟨some x, c, (List.range l).map f, by simpa using hcs, ?_, (fun y hy h0 => by cases hy; exact h2 (by simpa using h0)), fun r hr => ?_⟩
    · have e : (List.range l).map (fun i => Value.string (f i)) = strsV ((List.range l).map f) := by simp [strsV]
      rw [e] at h1
      simpa using h1
    · simp only [List.mem_map, List.mem_range] at hr
      obtain ⟨i, hi, rfl⟩ := hr
      exact (hf' i (by omega)).2
theorem open_strs {v : Value} {d : DataW H} {p : List MemPlace} (hv : Value.okWide Try.prog W .any base 22 v) (h : DataW.Trod enc Try.prog W 0 (fun _ => true) true 22 v d p) :
    ∃ (a : Option Addr) (c : Nat) (bs : Batch), v = .slice a bs.length c ∧ Sees W 1 (.slice a bs.length c) bs.length (strsV bs) ∧ (∀ x, a = some x → 0 < bs.length → x.block < W.heap.size) ∧ (∀ r ∈ bs, r.size ≤ maxLen) := by
  obtain ⟨a0, len, cap, rfl⟩ := okWide_slice Try.underlying22 hv
  obtain ⟨fuel, hf⟩ := h
  obtain ⟨a, c, bs, hcs, h1, h2, h3⟩ := open_strs' hf
  simp [Value.cells] at hcs
  obtain ⟨rfl, rfl, rfl⟩ := hcs
  exact ⟨_, _, bs, rfl, h1, h2, h3⟩
theorem open_wop {n : Nat} {cs : List Value} {x : DataW H × List MemPlace} (h : DataW.trod enc Try.prog W 0 (fun _ => true) true n 55 cs = some x) : ∃ o : WOp, cs = wopV o ∧ o.Ok W := by
  obtain ⟨y0, y1, y2, n', rfl, hl, h0, h1, h2⟩ := trod_struct3 Try.underlying55 h
  have hl' : cs.length = 3 := hl.trans (by kernel_rfl)
  match cs, hl' with
  | [c0, c1, c2], _ =>
    obtain ⟨k, e0, _, hk⟩ := DataW.trod_int Try.underlying5 h0
    obtain ⟨i, e2, _, hi⟩ := DataW.trod_int Try.underlying2 h2
    obtain ⟨a, c, bs, e1, hse, hlt, hsz⟩ := open_strs' h1
    have e0 : c0 = .int .u8 k := by simpa [cU8] using e0
    have e2 : c2 = .int .i64 i := by simpa [cStrs, cI64, cU8] using e2
    have e1 : c1 = .slice a bs.length c := by simpa [cU8, cStrs] using e1
    have hkb := bounds_u8 hk
    have hib := bounds_i64 hi
    refine ⟨⟨k.toNat, a, c, bs, i⟩, ?_, ⟨by simp; omega, hib.1, hib.2, hse, hlt, hsz⟩⟩
    simp only [wopV, e0, e1, e2]
    rw [show ((k.toNat : Nat) : Int) = k by omega]
theorem open_wop1 {v : Value} {d : DataW H} {p : List MemPlace} (hv : Value.okWide Try.prog W .any base 55 v) (h : DataW.Trod enc Try.prog W 0 (fun _ => true) true 55 v d p) :
    ∃ o : WOp, v = .agg (wopV o).toArray ∧ o.Ok W := by
  obtain ⟨cs, rfl, _⟩ := okWide_struct Try.underlying55 hv
  obtain ⟨fuel, hf⟩ := h
  obtain ⟨o, ho, hok⟩ := open_wop hf
  exact ⟨o, by rw [← ho]; simp [Value.cells], hok⟩
end
end Go.Proofs.Ytocameknhglklaa
/- A batch that came in, with what it weighs. -/
namespace Go.Proofs.Ytocameknhglklaa
open Go.ChangeShapes Go.WideShapes Go.ChangeAt Go.RowKit Go.Deep
set_option linter.unusedSimpArgs false
set_option linter.unusedVariables false
set_option maxRecDepth 100000
section
variable {H : Type} {enc : TypeId × Value → H} {W : World} {base : Nat}
theorem bulkAll_append (a b : List (DataW H)) : Rows.uptoBulkAll (a ++ b) = Rows.uptoBulkAll a + Rows.uptoBulkAll b := by
  induction a with
  | nil => simp [Rows.uptoBulkAll]
  | cons x r ih => simp [Rows.uptoBulkAll, ih]; omega
theorem strs_bulk (f : Nat → ByteArray) (D : Nat → DataW H) : ∀ l, (∀ i, i < l → D i = .lit (.string (f i).data.toList)) → bytesOf ((List.range l).map f) ≤ 16 + 4 * Rows.uptoBulkAll ((List.range l).map D)
  | 0, _ => by simp [bytesOf]
  | l + 1, h => by
    have ih := strs_bulk f D l (fun i hi => h i (by omega))
    rw [List.range_succ, List.map_append, List.map_append, bulkAll_append]
    simp only [List.map_cons, List.map_nil, bytesOf_snoc, Rows.uptoBulkAll, h l (by omega), Rows.uptoBulk]
    have : (f l).data.toList.length = (f l).size := Array.length_toList
    omega
theorem open_strsB' {n : Nat} {cs : List Value} {d : DataW H × List MemPlace} (h : DataW.trod enc Try.prog W 0 (fun _ => true) true n 22 cs = some d) :
    ∃ (a : Option Addr) (c : Nat) (bs : Batch), cs = [.slice a bs.length c] ∧ Sees W 1 (.slice a bs.length c) bs.length (strsV bs) ∧ (∀ x, a = some x → 0 < bs.length → x.block < W.heap.size) ∧ (∀ r ∈ bs, r.size ≤ maxLen) ∧ bytesOf bs ≤ 16 + 4 * Rows.uptoBulk d.1 ∧ bs.length ≤ Rows.uptoBulk d.1 := by
  rcases open_slice1 Try.underlying22 (by kernel_rfl) h with ⟨hcs, _⟩ | ⟨x, l, c, m, n, V, D, Pl, hcs, _, hl, hm, hmm, hd, hcell⟩
  · exact ⟨none, 0, [], hcs, Sees.zero _ _ _ _, (fun x hx => by cases hx), (fun r hr => by cases hr), by simp [bytesOf], by simp⟩
  · have hm' : m = c := by simpa using hmm
    have hb : ∀ i, i < m → ∃ b, (V i = .string b ∧ b.size ≤ maxLen) ∧ D i = .lit (.string b.data.toList) := fun i hi => by
      obtain ⟨s, hs, hd', hsz⟩ := DataW.trod_string Try.underlying9 (hcell i hi).2
      exact ⟨s, ⟨by simpa using hs, hsz⟩, by simpa using congrArg Prod.fst hd'⟩
    obtain ⟨f, hf'⟩ := choose_lt hb
    have hc : ∀ i, i < l → W.cell? (x.add i) = some (.string (f i)) := fun i hi => by rw [(hcell i (by omega)).1, (hf' i (by omega)).1.1]
    obtain ⟨h1, h2⟩ := sees_of_cells (cap := c) (Nat.le_trans hl hm) hc
    have hB := strs_bulk f D l (fun i hi => (hf' i (by omega)).2)
    have hU : Rows.uptoBulkAll ((List.range l).map D) ≤ Rows.uptoBulk d.1 := by
      rw [hd]; simp only [Rows.uptoBulk]; omega
    have hL := bulk_len ((List.range l).map D)
    refine ⟨some x, c, (List.range l).map f, by simpa using hcs, ?_, (fun y hy h0 => by cases hy; exact h2 (by simpa using h0)), (fun r hr => ?_), by omega, by simp at hL ⊢; omega⟩
    · have e : (List.range l).map (fun i => Value.string (f i)) = strsV ((List.range l).map f) := by simp [strsV]
      rw [e] at h1
      simpa using h1
    · obtain ⟨i, hi, rfl⟩ := List.mem_map.1 hr
      exact (hf' i (by have := List.mem_range.1 hi; omega)).1.2
theorem open_strsB {v : Value} {d : DataW H} {p : List MemPlace} {ds : List (DataW H)} (hv : Value.okWide Try.prog W .any base 22 v) (h : DataW.Trod enc Try.prog W 0 (fun _ => true) true 22 v d p)
    (hk : Rows.uptoSmall H ds = true) (hd : d ∈ ds) :
    ∃ (a : Option Addr) (c : Nat) (bs : Batch), v = .slice a bs.length c ∧ Sees W 1 (.slice a bs.length c) bs.length (strsV bs) ∧ (∀ x, a = some x → 0 < bs.length → x.block < W.heap.size) ∧ (∀ r ∈ bs, r.size ≤ maxLen) ∧ bytesOf bs ≤ 16 + 4 * 1048576 ∧ bs.length ≤ 1048576 := by
  obtain ⟨a0, len, cap, rfl⟩ := okWide_slice Try.underlying22 hv
  obtain ⟨fuel, hf⟩ := h
  obtain ⟨a, c, bs, hcs, h1, h2, h3, h4, h5⟩ := open_strsB' hf
  simp [Value.cells] at hcs
  obtain ⟨rfl, rfl, rfl⟩ := hcs
  have h6 := bulk_mem _ _ hd
  simp only [Rows.uptoSmall, decide_eq_true_eq] at hk
  exact ⟨_, _, bs, rfl, h1, h2, h3, by simp only at h4; omega, by simp only at h5; omega⟩
end
end Go.Proofs.Ytocameknhglklaa
/- Scripts (slices of docketlaw03.Op) and lives that came in. -/
namespace Go.Proofs.Ytocameknhglklaa
open Go.ChangeShapes Go.WideShapes Go.ChangeAt Go.RowKit Go.Deep
set_option linter.unusedSimpArgs false
set_option linter.unusedVariables false
set_option maxRecDepth 100000
/-- A script, as it lies. -/
def WopsAt (W : World) (x : Option Addr) (c : Nat) (l : List WOp) : Prop :=
  Sees W 3 (.slice x l.length c) l.length (l.flatMap wopV) ∧ (∀ o ∈ l, o.Ok W) ∧ (∀ y, x = some y → 0 < l.length → y.block < W.heap.size)
section
variable {H : Type} {enc : TypeId × Value → H} {W : World} {base : Nat}
theorem bulk_get (D : Nat → DataW H) (l i : Nat) (h : i < l) (sp : List (DataW H)) : Rows.uptoBulk (D i) + 1 ≤ Rows.uptoBulk (.slice ((List.range l).map D) sp) := by
  have := bulk_mem ((List.range l).map D) (d := D i) (List.mem_map.2 ⟨i, List.mem_range.2 h, rfl⟩)
  simp only [Rows.uptoBulk]
  omega
theorem open_wopB {n : Nat} {cs : List Value} {x : DataW H × List MemPlace} (h : DataW.trod enc Try.prog W 0 (fun _ => true) true n 55 cs = some x) :
    ∃ o : WOp, cs = wopV o ∧ o.Ok W ∧ bytesOf o.batch ≤ 16 + 4 * Rows.uptoBulk x.1 ∧ o.batch.length ≤ Rows.uptoBulk x.1 := by
  obtain ⟨y0, y1, y2, n', rfl, hl, h0, h1, h2⟩ := trod_struct3 Try.underlying55 h
  have hl' : cs.length = 3 := hl.trans (by kernel_rfl)
  match cs, hl' with
  | [c0, c1, c2], _ =>
    obtain ⟨k, e0, _, hk⟩ := DataW.trod_int Try.underlying5 h0
    obtain ⟨i, e2, _, hi⟩ := DataW.trod_int Try.underlying2 h2
    obtain ⟨a, c, bs, e1, hse, hlt, hsz, hby, hln⟩ := open_strsB' h1
    have e0 : c0 = .int .u8 k := by simpa [cU8] using e0
    have e2 : c2 = .int .i64 i := by simpa [cStrs, cI64, cU8] using e2
    have e1 : c1 = .slice a bs.length c := by simpa [cU8, cStrs] using e1
    have hkb := bounds_u8 hk
    have hib := bounds_i64 hi
    have hu : Rows.uptoBulk y1.1 ≤ Rows.uptoBulk (.agg [y0.1, y1.1, y2.1]) := by simp only [Rows.uptoBulk, Rows.uptoBulkAll]; omega
    refine ⟨⟨k.toNat, a, c, bs, i⟩, ?_, ⟨by simp; omega, hib.1, hib.2, hse, hlt, hsz⟩, by show bytesOf bs ≤ _; simp only at *; omega, by show bs.length ≤ _; simp only at *; omega⟩
    simp only [wopV, e0, e1, e2]
    rw [show ((k.toNat : Nat) : Int) = k by omega]
theorem open_wops' {n : Nat} {cs : List Value} {d : DataW H × List MemPlace} (h : DataW.trod enc Try.prog W 0 (fun _ => true) true n 52 cs = some d) :
    ∃ (a : Option Addr) (c : Nat) (l : List WOp), cs = [.slice a l.length c] ∧ WopsAt W a c l ∧ l.length ≤ Rows.uptoBulk d.1 ∧ ∀ o ∈ l, bytesOf o.batch ≤ 16 + 4 * Rows.uptoBulk d.1 ∧ o.batch.length ≤ Rows.uptoBulk d.1 := by
  rcases open_slice Try.underlying52 h with ⟨hcs, _⟩ | ⟨x, len, cap, m, n, D, Pl, hcs, _, hl, hm, hmm, hx, hcell⟩
  · exact ⟨none, 0, [], hcs, ⟨Sees.zero _ _ _ _, (fun o ho => by cases ho), fun x hx => by cases hx⟩, Nat.zero_le _, fun o ho => by cases ho⟩
  · have hm' : m = cap := by simpa using hmm
    subst hx
    have hb : ∀ i, i < len → ∃ o : WOp, o.Ok W ∧ (∀ r u, (wopV o)[r]? = some u → W.cell? ((x.add (i * 3)).add r) = some u) ∧ bytesOf o.batch ≤ 16 + 4 * Rows.uptoBulk (D i) ∧ o.batch.length ≤ Rows.uptoBulk (D i) := fun i hi => by
      obtain ⟨cs', h1, h2⟩ := hcell i (by omega)
      obtain ⟨o, rfl, ho, hby, hln⟩ := open_wopB h2
      rw [cWop] at h1
      exact ⟨o, ho, (cells?_get h1).2, hby, hln⟩
    obtain ⟨f, hf'⟩ := choose_lt hb
    have hlen : ((List.range len).map f).length = len := by simp
    obtain ⟨h1, h2⟩ := sees_of_many (w := W) (a := x) (len := len) (cap := cap) (size := 3) (by decide) ((List.range len).map f) wopV (fun o _ => wopV_length o) hlen (Nat.le_trans hl hm)
      (fun i hi r u hu => by
        have hi' : i < len := by simpa using hi
        simp only [List.getElem_map, List.getElem_range] at hu
        exact (hf' i hi').2.1 r u hu)
    have hL := bulk_len ((List.range len).map D)
    simp only [List.length_map, List.length_range] at hL
    refine ⟨some x, cap, (List.range len).map f, by rw [hlen]; exact hcs, ⟨by rw [hlen]; exact h1, fun o ho => ?_, fun y hy h0 => by cases hy; exact h2 (by omega)⟩, by simp only [Rows.uptoBulk]; omega, fun o ho => ?_⟩
    · simp only [List.mem_map, List.mem_range] at ho
      obtain ⟨i, hi, rfl⟩ := ho
      exact (hf' i hi).1
    · simp only [List.mem_map, List.mem_range] at ho
      obtain ⟨i, hi, rfl⟩ := ho
      have h3 := bulk_get D len i hi ((List.range (m - len)).map fun j => D (len + j))
      have h4 := (hf' i hi).2.2
      simp only at *
      omega
theorem open_wops {v : Value} {d : DataW H} {p : List MemPlace} (hv : Value.okWide Try.prog W .any base 52 v) (h : DataW.Trod enc Try.prog W 0 (fun _ => true) true 52 v d p) :
    ∃ (a : Option Addr) (c : Nat) (l : List WOp), v = .slice a l.length c ∧ WopsAt W a c l ∧ (l.length ≤ Rows.uptoBulk d ∧ ∀ o ∈ l, bytesOf o.batch ≤ 16 + 4 * Rows.uptoBulk d ∧ o.batch.length ≤ Rows.uptoBulk d) := by
  obtain ⟨a0, len, cap, rfl⟩ := okWide_slice Try.underlying52 hv
  obtain ⟨fuel, hf⟩ := h
  obtain ⟨a, c, l, hcs, h1, h2, h3⟩ := open_wops' hf
  simp [Value.cells] at hcs
  obtain ⟨rfl, rfl, rfl⟩ := hcs
  exact ⟨_, _, l, rfl, h1, h2, h3⟩

/-- A life, as it lies. -/
structure LifeR where
  sa : Option Addr
  sc : Nat
  script : List WOp
  fuel : Nat
  ka : Option Addr
  kc : Nat
  keep : List Bool
instance : Inhabited LifeR := ⟨⟨none, 0, [], 0, none, 0, []⟩⟩
def lifeV (o : LifeR) : List Value := [.slice o.sa o.script.length o.sc, .int .u8 o.fuel, .slice o.ka o.keep.length o.kc]
theorem lifeV_length (o : LifeR) : (lifeV o).length = 3 := rfl
structure LifeR.Ok (w : World) (o : LifeR) : Prop where
  script : WopsAt w o.sa o.sc o.script
  fuel : o.fuel ≤ 255
  keep : Sees w 1 (.slice o.ka o.keep.length o.kc) o.keep.length (boolsV o.keep)
  klt : ∀ x, o.ka = some x → 0 < o.keep.length → x.block < w.heap.size
theorem cWops : Try.prog.cellsOf 52 = 1 := by kernel_rfl
theorem cLife : Try.prog.cellsOf 66 = 3 := by kernel_rfl
theorem open_life {n : Nat} {cs : List Value} {x : DataW H × List MemPlace} (h : DataW.trod enc Try.prog W 0 (fun _ => true) true n 66 cs = some x) : ∃ o : LifeR, cs = lifeV o ∧ o.Ok W := by
  obtain ⟨y0, y1, y2, n', rfl, hl, h0, h1, h2⟩ := trod_struct3 Try.underlying66 h
  have hl' : cs.length = 3 := hl.trans (by kernel_rfl)
  match cs, hl' with
  | [c0, c1, c2], _ =>
    obtain ⟨sa, sc, sl, e0, hsc, _, _⟩ := open_wops' h0
    obtain ⟨k, e1, _, hk⟩ := DataW.trod_int Try.underlying5 h1
    obtain ⟨ka, kc, ks, e2, hse, hlt⟩ := open_bools' h2
    have e0 : c0 = .slice sa sl.length sc := by simpa [cWops] using e0
    have e1 : c1 = .int .u8 k := by simpa [cU8, cWops] using e1
    have e2 : c2 = .slice ka ks.length kc := by simpa [cU8, cWops, cBools] using e2
    have hkb := bounds_u8 hk
    refine ⟨⟨sa, sc, sl, k.toNat, ka, kc, ks⟩, ?_, ⟨hsc, by simp; omega, hse, hlt⟩⟩
    simp only [lifeV, e0, e1, e2]
    rw [show ((k.toNat : Nat) : Int) = k by omega]
/-- Lives, as they lie. -/
def LivesAt (W : World) (x : Option Addr) (c : Nat) (l : List LifeR) : Prop :=
  Sees W 3 (.slice x l.length c) l.length (l.flatMap lifeV) ∧ (∀ o ∈ l, o.Ok W) ∧ (∀ y, x = some y → 0 < l.length → y.block < W.heap.size)
theorem open_lives {v : Value} {d : DataW H} {p : List MemPlace} (hv : Value.okWide Try.prog W .any base 62 v) (h : DataW.Trod enc Try.prog W 0 (fun _ => true) true 62 v d p) :
    ∃ (a : Option Addr) (c : Nat) (l : List LifeR), v = .slice a l.length c ∧ LivesAt W a c l ∧ True := by
  obtain ⟨a0, len, cap, rfl⟩ := okWide_slice Try.underlying62 hv
  obtain ⟨fuel, hf⟩ := h
  rcases open_slice Try.underlying62 hf with ⟨hcs, _⟩ | ⟨x, l, c, m, n, D, Pl, hcs, _, hl, hm, hmm, _, hcell⟩
  · simp [Value.cells] at hcs
    obtain ⟨rfl, rfl, rfl⟩ := hcs
    exact ⟨none, 0, [], rfl, ⟨Sees.zero _ _ _ _, (fun o ho => by cases ho), fun x hx => by cases hx⟩, trivial⟩
  · simp [Value.cells] at hcs
    obtain ⟨rfl, rfl, rfl⟩ := hcs
    have hm' : m = cap := by simpa using hmm
    have hb : ∀ i, i < len → ∃ o : LifeR, o.Ok W ∧ ∀ r u, (lifeV o)[r]? = some u → W.cell? ((x.add (i * 3)).add r) = some u := fun i hi => by
      obtain ⟨cs, h1, h2⟩ := hcell i (by omega)
      obtain ⟨o, rfl, ho⟩ := open_life h2
      rw [cLife] at h1
      exact ⟨o, ho, (cells?_get h1).2⟩
    obtain ⟨f, hf'⟩ := choose_lt hb
    have hlen : ((List.range len).map f).length = len := by simp
    obtain ⟨h1, h2⟩ := sees_of_many (w := W) (a := x) (len := len) (cap := cap) (size := 3) (by decide) ((List.range len).map f) lifeV (fun o _ => lifeV_length o) hlen (Nat.le_trans hl hm)
      (fun i hi r u hu => by
        have hi' : i < len := by simpa using hi
        simp only [List.getElem_map, List.getElem_range] at hu
        exact (hf' i hi').2 r u hu)
    refine ⟨some x, cap, (List.range len).map f, by rw [hlen], ⟨by rw [hlen]; exact h1, fun o ho => ?_, fun y hy h0 => by cases hy; exact h2 (by omega)⟩, trivial⟩
    simp only [List.mem_map, List.mem_range] at ho
    obtain ⟨i, hi, rfl⟩ := ho
    exact (hf' i hi).1
end
end Go.Proofs.Ytocameknhglklaa
