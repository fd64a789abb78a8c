/- What comes in for the laws of chapter 3. -/
import Derived.Test.YtihlijnobbonbaaGreatRows
import Derived.Test.YtihlijnobbonbaaGreatKDisk
import Derived.SizedLaws
import Derived.Test.YtihlijnobbonbaaGreatKCrc
import Derived.Lib.SmallJoins
import Derived.Test.YtihlijnobbonbaaGreatKWal
import Derived.Deep.Strs
set_option linter.unusedSimpArgs false
set_option linter.unusedVariables false
/- Bytes that came in, with what they weigh. -/
namespace Go.Proofs.YtihlijnobbonbaaGreat
open Go.ChangeShapes Go.WideShapes Go.ChangeAt Go.RowKit Go.Deep
set_option linter.unusedSimpArgs false
set_option maxRecDepth 100000

section
variable {H : Type} {enc : TypeId × Value → H} {W : World} {base : Nat}

theorem open_bytes2 {v : Value} {d : DataW H} {p : List MemPlace} (hv : Value.okWide Tryz.prog W .any base 38 v) (h : DataW.Trod enc Tryz.prog W 0 (fun _ => true) true 38 v d p) :
    ∃ (a : Option Addr) (c : Nat) (bs : List UInt8), v = .slice a bs.length c ∧ (Sees W 1 (.slice a bs.length c) bs.length (bvs bs) ∧ bs.length ≤ c) ∧ (∀ x, a = some x → 0 < bs.length → x.block < W.heap.size) ∧
      ((d = .nil ∧ bs = []) ∨ ∃ zs sp, zs.length = bs.length ∧ d = .slice (lits .u8 zs) sp) := by
  obtain ⟨a0, len, cap, rfl⟩ := okWide_slice Tryz.underlying38 hv
  obtain ⟨fuel, hf⟩ := h
  rcases open_ints Tryz.underlying38 Tryz.underlying5 (by kernel_rfl) hf with ⟨hcs, hx⟩ | ⟨x, l, c, zs, hcs, _, hl, hm, hz, hx, hcell, hwz⟩
  · simp [Value.cells] at hcs
    obtain ⟨rfl, rfl, rfl⟩ := hcs
    simp only [Prod.mk.injEq] at hx
    exact ⟨none, 0, [], rfl, ⟨Sees.zero _ _ _ _, Nat.le_refl _⟩, (fun x hx => by cases hx), .inl ⟨hx.1, rfl⟩⟩
  · simp [Value.cells] at hcs
    obtain ⟨rfl, rfl, rfl⟩ := hcs
    have hz' : zs.length = cap := by simpa using hz
    simp only [Prod.mk.injEq] at hx
    have hlen : ((zs.take len).map (fun n => UInt8.ofNat n.toNat)).length = len := by simp; omega
    have hc : ∀ i, i < len → W.cell? (x.add i) = some (.int .u8 (zs.getD i 0)) := fun i hi => hcell i (by omega)
    obtain ⟨h1, h2⟩ := sees_of_cells (cap := cap) (Nat.le_trans hl hm) hc
    have e : (List.range len).map (fun i => Value.int .u8 (zs.getD i 0)) = bvs ((zs.take len).map (fun n => UInt8.ofNat n.toNat)) := by
      apply List.ext_getElem?
      intro i
      by_cases hi : i < len
      · have hiz : i < zs.length := by omega
        have hw := hwz zs[i] (List.getElem_mem hiz)
        have hb := bounds_u8 hw
        simp [bvs, hi, hiz, bv, List.getElem?_take]
        omega
      · rw [List.getElem?_eq_none (by simpa using hi), List.getElem?_eq_none (by rw [bvs_length, hlen]; omega)]
    rw [e] at h1
    exact ⟨some x, cap, _, by rw [hlen], by rw [hlen]; exact ⟨h1, hl⟩, (fun y hy h0 => by cases hy; exact h2 (by omega)), .inr ⟨zs.take len, _, by rw [hlen]; simp; omega, hx.1⟩⟩

theorem bytes8 : Tryz.prog.bytesOf 5 = 1 := by kernel_rfl
/-- By the form's own reach. -/
theorem bytes_reach {ts : List TypeId} {ds : List (DataW H)} (hsz : (DataW.weightsEach Tryz.prog ts ds).all (· ≤ reachBytes) = true) (j : Nat) {d : DataW H} {bs : List UInt8} (ht : ts[j]? = some 38) (hd : ds[j]? = some d)
    (h : (d = .nil ∧ bs = []) ∨ ∃ zs sp, zs.length = bs.length ∧ d = .slice (lits .u8 zs) sp) : bs.length ≤ 140737488351232 := by
  rcases h with ⟨_, rfl⟩ | ⟨zs, sp, hz, rfl⟩
  · simp
  · have := sized_slice hsz ht hd Tryz.underlying38
    rw [bytes8] at this
    simp only [lits, List.length_map, reachBytes] at this
    omega

/-- By the bulk. -/
theorem bulk_len : ∀ (ds : List (DataW H)), ds.length ≤ Rows.uptoBulkAll ds
  | [] => Nat.zero_le _
  | d :: r => by
    have h1 := bulk_len r
    have h2 : 1 ≤ Rows.uptoBulk d := by cases d <;> (try (rename_i l; cases l)) <;> simp [Rows.uptoBulk]
    simp only [Rows.uptoBulkAll, List.length_cons]
    omega
theorem bulk_mem : ∀ (ds : List (DataW H)) (d : DataW H), d ∈ ds → Rows.uptoBulk d ≤ Rows.uptoBulkAll ds
  | e :: r, d, h => by
    simp only [Rows.uptoBulkAll]
    rcases List.mem_cons.1 h with rfl | h
    · omega
    · have := bulk_mem r d h; omega
theorem bytes_bulk {ds : List (DataW H)} (hk : Rows.uptoSmall H ds = true) {d : DataW H} (hd : d ∈ ds) {bs : List UInt8}
    (h : (d = .nil ∧ bs = []) ∨ ∃ zs sp, zs.length = bs.length ∧ d = .slice (lits .u8 zs) sp) : bs.length ≤ 1048576 := by
  rcases h with ⟨_, rfl⟩ | ⟨zs, sp, hz, rfl⟩
  · simp
  · have h1 := bulk_mem _ _ hd
    have h2 := bulk_len (lits (H := H) .u8 zs)
    simp only [Rows.uptoSmall, decide_eq_true_eq] at hk
    simp only [lits, List.length_map] at h2
    simp only [Rows.uptoBulk, lits] at h1
    omega
end
end Go.Proofs.YtihlijnobbonbaaGreat
/- How long a slice that came in can be, by the bulk of an '..UptoSaid'. -/
namespace Go.Proofs.YtihlijnobbonbaaGreat
open Go.ChangeShapes Go.WideShapes Go.ChangeAt Go.RowKit Go.Deep
section
variable {H : Type} {enc : TypeId × Value → H} {W : World}
theorem upto_len {t e : TypeId} {a : Option Addr} {len cap : Nat} {d : DataW H} {p : List MemPlace} {ds : List (DataW H)} (ht : Tryz.prog.underlying t = some (.slice e)) (h : DataW.Trod enc Tryz.prog W 0 (fun _ => true) true t (.slice a len cap) d p)
    (hk : Rows.uptoSmall H ds = true) (hd : d ∈ ds) : len ≤ 1048576 := by
  obtain ⟨fuel, hf⟩ := h
  have h1 := bulk_mem _ _ hd
  simp only [Rows.uptoSmall, decide_eq_true_eq] at hk
  rcases open_slice ht hf with ⟨hcs, _⟩ | ⟨x, l, c, m, n, D, Pl, hcs, _, hl, hm, hmm, hx, hcell⟩
  · simp [Value.cells] at hcs
    obtain ⟨rfl, rfl, rfl⟩ := hcs
    omega
  · simp [Value.cells] at hcs
    obtain ⟨rfl, rfl, rfl⟩ := hcs
    simp only [Prod.mk.injEq] at hx
    obtain ⟨rfl, _⟩ := hx
    have h2 := bulk_len ((List.range len).map D)
    simp only [List.length_map, List.length_range] at h2
    simp only [Rows.uptoBulk] at h1
    omega
end
end Go.Proofs.YtihlijnobbonbaaGreat
/- Slices of docketlaw02.Op that came in. -/
namespace Go.Proofs.YtihlijnobbonbaaGreat
open Go.ChangeShapes Go.WideShapes Go.ChangeAt Go.RowKit Go.Deep
set_option linter.unusedSimpArgs false
set_option maxRecDepth 100000

/-- An Op, as it lies. -/
structure OpR where
  kind : Nat
  i : Int
  data : ByteArray
  ka : Option Addr
  kc : Nat
  keep : List Bool
instance : Inhabited OpR := ⟨⟨0, 0, ByteArray.empty, none, 0, []⟩⟩
def opV (o : OpR) : List Value := [.int .u8 o.kind, .int .i64 o.i, .string o.data, .slice o.ka o.keep.length o.kc]
structure OpR.Ok (w : World) (o : OpR) : Prop where
  kind : o.kind ≤ 255
  lo : -9223372036854775808 ≤ o.i
  hi : o.i ≤ 9223372036854775807
  data : o.data.size ≤ maxLen
  keep : Sees w 1 (.slice o.ka o.keep.length o.kc) o.keep.length (boolsV o.keep)
  lt : ∀ x, o.ka = some x → 0 < o.keep.length → x.block < w.heap.size

theorem cU8 : Tryz.prog.cellsOf 5 = 1 := by kernel_rfl
theorem cInt : Tryz.prog.cellsOf 3 = 1 := by kernel_rfl
theorem cStr : Tryz.prog.cellsOf 9 = 1 := by kernel_rfl
theorem cBools : Tryz.prog.cellsOf 66 = 1 := by kernel_rfl
theorem opV_length (o : OpR) : (opV o).length = 4 := rfl

section
variable {H : Type} {enc : TypeId × Value → H} {W : World} {base : Nat}

theorem open_bools' {n : Nat} {cs : List Value} {d : DataW H × List MemPlace} (h : DataW.trod enc Tryz.prog W 0 (fun _ => true) true n 66 cs = some d) :
    ∃ (a : Option Addr) (c : Nat) (bs : List Bool), cs = [.slice a bs.length c] ∧ Sees W 1 (.slice a bs.length c) bs.length (boolsV bs) ∧ (∀ x, a = some x → 0 < bs.length → x.block < W.heap.size) := by
  rcases open_slice1 Tryz.underlying66 (by kernel_rfl) h with ⟨hcs, _⟩ | ⟨x, l, c, m, n, V, D, Pl, hcs, _, hl, hm, hmm, _, hcell⟩
  · exact ⟨none, 0, [], hcs, Sees.zero _ _ _ _, fun x hx => by cases hx⟩
  · have hm' : m = c := by simpa using hmm
    have hb : ∀ i, i < m → ∃ b, V i = .bool b := fun i hi => by
      obtain ⟨b, hb, _⟩ := DataW.trod_bool Tryz.underlying4 (hcell i hi).2
      exact ⟨b, by simpa using hb⟩
    obtain ⟨f, hf'⟩ := choose_lt hb
    have hc : ∀ i, i < l → W.cell? (x.add i) = some (.bool (f i)) := fun i hi => by rw [(hcell i (by omega)).1, hf' i (by omega)]
    obtain ⟨h1, h2⟩ := sees_of_cells (cap := c) (Nat.le_trans hl hm) hc
    refine ⟨some x, c, (List.range l).map f, by simpa using hcs, ?_, fun y hy h0 => by cases hy; exact h2 (by simpa using h0)⟩
    have e : (List.range l).map (fun i => Value.bool (f i)) = boolsV ((List.range l).map f) := by simp [boolsV]
    rw [e] at h1
    simpa using h1

/-- What cells? reads. -/
theorem cells?_get {w : World} {base : Nat} {a : Addr} {n : Nat} {cs : List Value} (h : w.cells? base a n = some cs) : cs.length = n ∧ ∀ r v, cs[r]? = some v → w.cell? (a.add r) = some v := by
  unfold World.cells? at h
  split at h
  · have key : ∀ (l : List Nat) (cs : List Value), l.mapM (fun i => w.cell? (a.add i)) = some cs → cs.length = l.length ∧ ∀ (r : Nat) v, cs[r]? = some v → ∃ i, l[r]? = some i ∧ w.cell? (a.add i) = some v := by
      intro l
      induction l with
      | nil => intro cs h; simp at h; subst h; simp
      | cons x r ih =>
        intro cs h
        rw [List.mapM_cons] at h
        cases hx : w.cell? (a.add x) with
        | none => simp [hx] at h
        | some v =>
          cases ht : r.mapM (fun i => w.cell? (a.add i)) with
          | none => simp [hx, ht] at h
          | some t =>
          simp [hx, ht] at h
          subst h
          obtain ⟨h1, h2⟩ := ih t ht
          refine ⟨by simp [h1], fun r' u hu => ?_⟩
          cases r' with
          | zero => simp at hu; subst hu; exact ⟨x, rfl, hx⟩
          | succ r' => simp at hu; obtain ⟨i, h3, h4⟩ := h2 r' u hu; exact ⟨i, by simpa using h3, h4⟩
    obtain ⟨h1, h2⟩ := key _ _ h
    refine ⟨by simpa using h1, fun r v hv => ?_⟩
    obtain ⟨i, h3, h4⟩ := h2 r v hv
    rw [List.getElem?_range] at h3
    · cases h3; exact h4
    · rcases Nat.lt_or_ge r n with h | h
      · exact h
      · rw [List.getElem?_eq_none (by simpa using h)] at h3; cases h3
  · cases h

/-- A slice of things of several cells. -/
theorem sees_of_many {w : World} {a : Addr} {len cap size : Nat} (hsz : 0 < size) {α : Type} (l : List α) (f : α → List Value) (hf : ∀ x ∈ l, (f x).length = size) (hlen : l.length = len) (hm : len ≤ maxLen)
    (hc : ∀ i (hi : i < l.length) r v, (f l[i])[r]? = some v → w.cell? ((a.add (i * size)).add r) = some v) :
    Sees w size (.slice (some a) len cap) len (l.flatMap f) ∧ (0 < len → a.block < w.heap.size) := by
  have first : 0 < len → ∃ v, w.cell? a = some v := fun h0 => by
    have hi : 0 < l.length := by omega
    have hl := hf l[0] (List.getElem_mem hi)
    refine ⟨(f l[0])[0], ?_⟩
    have := hc 0 hi 0 _ (List.getElem?_eq_getElem (by omega))
    simpa [Addr.add] using this
  refine ⟨⟨by rw [flat_length f size l hf, hlen], hm, _, _, rfl, fun h0 => ?_⟩, fun h0 => ?_⟩
  · obtain ⟨v0, hv0⟩ := first h0
    have hs : a.spot = none := World.cell?_spot hv0
    refine ⟨a.block, a.off, by obtain ⟨b, o, s⟩ := a; simp at hs; subst hs; rfl, fun j v hj => ?_⟩
    have hjl : j < l.length * size := by
      rcases Nat.lt_or_ge j (l.length * size) with h | h
      · exact h
      · rw [List.getElem?_eq_none (by rw [flat_length f size l hf]; exact h)] at hj; cases hj
    have hq : j / size < l.length := by rw [Nat.div_lt_iff_lt_mul hsz]; exact hjl
    have hr : j % size < size := Nat.mod_lt _ hsz
    have he : j = j / size * size + j % size := by rw [Nat.mul_comm]; exact (Nat.div_add_mod j size).symm
    rw [he, flat_cell f size l hf _ _ hq hr] at hj
    have h1 := hc _ hq _ _ hj
    rw [Go.Deep.add_add, ← he] at h1
    exact Addr.add_none h1 (fun _ => hs)
  · obtain ⟨v0, hv0⟩ := first h0
    exact World.block_lt_of_cell? _ a hv0

end
end Go.Proofs.YtihlijnobbonbaaGreat
/- Batches and Ops of chapter 3 that came in. -/
namespace Go.Proofs.YtihlijnobbonbaaGreat
open Go.ChangeShapes Go.WideShapes Go.ChangeAt Go.RowKit Go.Deep
set_option linter.unusedSimpArgs false
set_option maxRecDepth 100000

/-- An Op of chapter 3, as it lies. -/
structure WOp where
  kind : Nat
  ba : Option Addr
  bc : Nat
  batch : Batch
  n : Int
instance : Inhabited WOp := ⟨⟨0, none, 0, [], 0⟩⟩
def wopV (o : WOp) : List Value := [.int .u8 o.kind, .slice o.ba o.batch.length o.bc, .int .i64 o.n]
structure WOp.Ok (w : World) (o : WOp) : Prop where
  kind : o.kind ≤ 255
  lo : -9223372036854775808 ≤ o.n
  hi : o.n ≤ 9223372036854775807
  batch : Sees w 1 (.slice o.ba o.batch.length o.bc) o.batch.length (strsV o.batch)
  lt : ∀ x, o.ba = some x → 0 < o.batch.length → x.block < w.heap.size
  sizes : ∀ r ∈ o.batch, r.size ≤ maxLen
theorem cStrs : Tryz.prog.cellsOf 41 = 1 := by kernel_rfl
theorem cI64 : Tryz.prog.cellsOf 2 = 1 := by kernel_rfl
theorem wopV_length (o : WOp) : (wopV o).length = 3 := rfl

section
variable {H : Type} {enc : TypeId × Value → H} {W : World} {base : Nat}
theorem open_strs' {n : Nat} {cs : List Value} {d : DataW H × List MemPlace} (h : DataW.trod enc Tryz.prog W 0 (fun _ => true) true n 41 cs = some d) :
    ∃ (a : Option Addr) (c : Nat) (bs : Batch), cs = [.slice a bs.length c] ∧ Sees W 1 (.slice a bs.length c) bs.length (strsV bs) ∧ (∀ x, a = some x → 0 < bs.length → x.block < W.heap.size) ∧ (∀ r ∈ bs, r.size ≤ maxLen) := by
  rcases open_slice1 Tryz.underlying41 (by kernel_rfl) h with ⟨hcs, _⟩ | ⟨x, l, c, m, n, V, D, Pl, hcs, _, hl, hm, hmm, _, hcell⟩
  · exact ⟨none, 0, [], hcs, Sees.zero _ _ _ _, (fun x hx => by cases hx), fun r hr => by cases hr⟩
  · have hm' : m = c := by simpa using hmm
    have hb : ∀ i, i < m → ∃ b, V i = .string b ∧ b.size ≤ maxLen := fun i hi => by
      obtain ⟨s, hs, _, hsz⟩ := DataW.trod_string Tryz.underlying9 (hcell i hi).2
      exact ⟨s, by simpa using hs, hsz⟩
    obtain ⟨f, hf'⟩ := choose_lt hb
    have hc : ∀ i, i < l → W.cell? (x.add i) = some (.string (f i)) := fun i hi => by rw [(hcell i (by omega)).1, (hf' i (by omega)).1]
    obtain ⟨h1, h2⟩ := sees_of_cells (cap := c) (Nat.le_trans hl hm) hc
    refine ⟨some x, c, (List.range l).map f, by simpa using hcs, ?_, (fun y hy h0 => by cases hy; exact h2 (by simpa using h0)), fun r hr => ?_⟩
    · have e : (List.range l).map (fun i => Value.string (f i)) = strsV ((List.range l).map f) := by simp [strsV]
      rw [e] at h1
      simpa using h1
    · simp only [List.mem_map, List.mem_range] at hr
      obtain ⟨i, hi, rfl⟩ := hr
      exact (hf' i (by omega)).2
theorem open_strs {v : Value} {d : DataW H} {p : List MemPlace} (hv : Value.okWide Tryz.prog W .any base 41 v) (h : DataW.Trod enc Tryz.prog W 0 (fun _ => true) true 41 v d p) :
    ∃ (a : Option Addr) (c : Nat) (bs : Batch), v = .slice a bs.length c ∧ Sees W 1 (.slice a bs.length c) bs.length (strsV bs) ∧ (∀ x, a = some x → 0 < bs.length → x.block < W.heap.size) ∧ (∀ r ∈ bs, r.size ≤ maxLen) := by
  obtain ⟨a0, len, cap, rfl⟩ := okWide_slice Tryz.underlying41 hv
  obtain ⟨fuel, hf⟩ := h
  obtain ⟨a, c, bs, hcs, h1, h2, h3⟩ := open_strs' hf
  simp [Value.cells] at hcs
  obtain ⟨rfl, rfl, rfl⟩ := hcs
  exact ⟨_, _, bs, rfl, h1, h2, h3⟩
end
end Go.Proofs.YtihlijnobbonbaaGreat
/- A batch that came in, with what it weighs. -/
namespace Go.Proofs.YtihlijnobbonbaaGreat
open Go.ChangeShapes Go.WideShapes Go.ChangeAt Go.RowKit Go.Deep
set_option linter.unusedSimpArgs false
set_option linter.unusedVariables false
set_option maxRecDepth 100000
section
variable {H : Type} {enc : TypeId × Value → H} {W : World} {base : Nat}
theorem bulkAll_append (a b : List (DataW H)) : Rows.uptoBulkAll (a ++ b) = Rows.uptoBulkAll a + Rows.uptoBulkAll b := by
  induction a with
  | nil => simp [Rows.uptoBulkAll]
  | cons x r ih => simp [Rows.uptoBulkAll, ih]; omega
theorem strs_bulk (f : Nat → ByteArray) (D : Nat → DataW H) : ∀ l, (∀ i, i < l → D i = .lit (.string (f i).data.toList)) → bytesOf ((List.range l).map f) ≤ 16 + 4 * Rows.uptoBulkAll ((List.range l).map D)
  | 0, _ => by simp [bytesOf]
  | l + 1, h => by
    have ih := strs_bulk f D l (fun i hi => h i (by omega))
    rw [List.range_succ, List.map_append, List.map_append, bulkAll_append]
    simp only [List.map_cons, List.map_nil, bytesOf_snoc, Rows.uptoBulkAll, h l (by omega), Rows.uptoBulk]
    have : (f l).data.toList.length = (f l).size := Array.length_toList
    omega
theorem open_strsB' {n : Nat} {cs : List Value} {d : DataW H × List MemPlace} (h : DataW.trod enc Tryz.prog W 0 (fun _ => true) true n 41 cs = some d) :
    ∃ (a : Option Addr) (c : Nat) (bs : Batch), cs = [.slice a bs.length c] ∧ Sees W 1 (.slice a bs.length c) bs.length (strsV bs) ∧ (∀ x, a = some x → 0 < bs.length → x.block < W.heap.size) ∧ (∀ r ∈ bs, r.size ≤ maxLen) ∧ bytesOf bs ≤ 16 + 4 * Rows.uptoBulk d.1 ∧ bs.length ≤ Rows.uptoBulk d.1 := by
  rcases open_slice1 Tryz.underlying41 (by kernel_rfl) h with ⟨hcs, _⟩ | ⟨x, l, c, m, n, V, D, Pl, hcs, _, hl, hm, hmm, hd, hcell⟩
  · exact ⟨none, 0, [], hcs, Sees.zero _ _ _ _, (fun x hx => by cases hx), (fun r hr => by cases hr), by simp [bytesOf], by simp⟩
  · have hm' : m = c := by simpa using hmm
    have hb : ∀ i, i < m → ∃ b, (V i = .string b ∧ b.size ≤ maxLen) ∧ D i = .lit (.string b.data.toList) := fun i hi => by
      obtain ⟨s, hs, hd', hsz⟩ := DataW.trod_string Tryz.underlying9 (hcell i hi).2
      exact ⟨s, ⟨by simpa using hs, hsz⟩, by simpa using congrArg Prod.fst hd'⟩
    obtain ⟨f, hf'⟩ := choose_lt hb
    have hc : ∀ i, i < l → W.cell? (x.add i) = some (.string (f i)) := fun i hi => by rw [(hcell i (by omega)).1, (hf' i (by omega)).1.1]
    obtain ⟨h1, h2⟩ := sees_of_cells (cap := c) (Nat.le_trans hl hm) hc
    have hB := strs_bulk f D l (fun i hi => (hf' i (by omega)).2)
    have hU : Rows.uptoBulkAll ((List.range l).map D) ≤ Rows.uptoBulk d.1 := by
      rw [hd]; simp only [Rows.uptoBulk]; omega
    have hL := bulk_len ((List.range l).map D)
    refine ⟨some x, c, (List.range l).map f, by simpa using hcs, ?_, (fun y hy h0 => by cases hy; exact h2 (by simpa using h0)), (fun r hr => ?_), by omega, by simp at hL ⊢; omega⟩
    · have e : (List.range l).map (fun i => Value.string (f i)) = strsV ((List.range l).map f) := by simp [strsV]
      rw [e] at h1
      simpa using h1
    · obtain ⟨i, hi, rfl⟩ := List.mem_map.1 hr
      exact (hf' i (by have := List.mem_range.1 hi; omega)).1.2
theorem open_strsB {v : Value} {d : DataW H} {p : List MemPlace} {ds : List (DataW H)} (hv : Value.okWide Tryz.prog W .any base 41 v) (h : DataW.Trod enc Tryz.prog W 0 (fun _ => true) true 41 v d p)
    (hk : Rows.uptoSmall H ds = true) (hd : d ∈ ds) :
    ∃ (a : Option Addr) (c : Nat) (bs : Batch), v = .slice a bs.length c ∧ Sees W 1 (.slice a bs.length c) bs.length (strsV bs) ∧ (∀ x, a = some x → 0 < bs.length → x.block < W.heap.size) ∧ (∀ r ∈ bs, r.size ≤ maxLen) ∧ bytesOf bs ≤ 16 + 4 * 1048576 ∧ bs.length ≤ 1048576 := by
  obtain ⟨a0, len, cap, rfl⟩ := okWide_slice Tryz.underlying41 hv
  obtain ⟨fuel, hf⟩ := h
  obtain ⟨a, c, bs, hcs, h1, h2, h3, h4, h5⟩ := open_strsB' hf
  simp [Value.cells] at hcs
  obtain ⟨rfl, rfl, rfl⟩ := hcs
  have h6 := bulk_mem _ _ hd
  simp only [Rows.uptoSmall, decide_eq_true_eq] at hk
  exact ⟨_, _, bs, rfl, h1, h2, h3, by simp only at h4; omega, by simp only at h5; omega⟩
end
end Go.Proofs.YtihlijnobbonbaaGreat
/- Scripts (slices of docketlaw03.Op) and lives that came in. -/
namespace Go.Proofs.YtihlijnobbonbaaGreat
open Go.ChangeShapes Go.WideShapes Go.ChangeAt Go.RowKit Go.Deep
set_option linter.unusedSimpArgs false
set_option linter.unusedVariables false
set_option maxRecDepth 100000
/-- A script, as it lies. -/
def WopsAt (W : World) (x : Option Addr) (c : Nat) (l : List WOp) : Prop :=
  Sees W 3 (.slice x l.length c) l.length (l.flatMap wopV) ∧ (∀ o ∈ l, o.Ok W) ∧ (∀ y, x = some y → 0 < l.length → y.block < W.heap.size)
section
variable {H : Type} {enc : TypeId × Value → H} {W : World} {base : Nat}
theorem bulk_get (D : Nat → DataW H) (l i : Nat) (h : i < l) (sp : List (DataW H)) : Rows.uptoBulk (D i) + 1 ≤ Rows.uptoBulk (.slice ((List.range l).map D) sp) := by
  have := bulk_mem ((List.range l).map D) (d := D i) (List.mem_map.2 ⟨i, List.mem_range.2 h, rfl⟩)
  simp only [Rows.uptoBulk]
  omega
/-- A life, as it lies. -/
structure LifeR where
  sa : Option Addr
  sc : Nat
  script : List WOp
  fuel : Nat
  ka : Option Addr
  kc : Nat
  keep : List Bool
instance : Inhabited LifeR := ⟨⟨none, 0, [], 0, none, 0, []⟩⟩
def lifeV (o : LifeR) : List Value := [.slice o.sa o.script.length o.sc, .int .u8 o.fuel, .slice o.ka o.keep.length o.kc]
theorem lifeV_length (o : LifeR) : (lifeV o).length = 3 := rfl
structure LifeR.Ok (w : World) (o : LifeR) : Prop where
  script : WopsAt w o.sa o.sc o.script
  fuel : o.fuel ≤ 255
  keep : Sees w 1 (.slice o.ka o.keep.length o.kc) o.keep.length (boolsV o.keep)
  klt : ∀ x, o.ka = some x → 0 < o.keep.length → x.block < w.heap.size
/-- Lives, as they lie. -/
def LivesAt (W : World) (x : Option Addr) (c : Nat) (l : List LifeR) : Prop :=
  Sees W 3 (.slice x l.length c) l.length (l.flatMap lifeV) ∧ (∀ o ∈ l, o.Ok W) ∧ (∀ y, x = some y → 0 < l.length → y.block < W.heap.size)
end
end Go.Proofs.YtihlijnobbonbaaGreat
