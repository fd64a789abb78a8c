/- Package btree: Mem, a store of blocks in memory: NewMem, Used, Take, Read, Write. -/
import Derived.Test.YtmefbbmjamdnjaaKMap
import Derived.Test.YtmefbbmjamdnjaaKCrc
import Derived.Test.YtmefbbmjamdnjaaPm1
import Derived.Lib.LazyBuf
namespace Go.Proofs.Ytmefbbmjamdnjaa
open Go Go.RowKit
set_option linter.unusedSimpArgs false
set_option linter.unusedVariables false
set_option maxRecDepth 100000

/-- Block b holds the cells l. -/
def CellsA (w : World) (b : Nat) (t : TypeId) (l : List Value) : Prop := w.heap[b]? = some (.cells l.toArray t (0, 0))
theorem CellsA.cell {w : World} {b : Nat} {t : TypeId} {l : List Value} (h : CellsA w b t l) (i : Nat) : w.cell? ⟨b, i, none⟩ = l[i]? := by
  rw [cell_of_row _ _ _ _ _ _ h]
  simp
theorem CellsA.lt {w : World} {b : Nat} {t : TypeId} {l : List Value} (h : CellsA w b t l) : b < w.heap.size := lt_of_block h
theorem CellsA.frozen {w : World} {b : Nat} {t : TypeId} {l : List Value} (h : CellsA w b t l) (i : Nat) : w.frozen? ⟨b, i, none⟩ = false := unfrozen h i
theorem CellsA.upd {w w' : World} {b : Nat} {t : TypeId} {l : List Value} {F : Nat → Prop} (h : CellsA w b t l) (hu : Upd F w w') (hf : ¬ F b) : CellsA w' b t l := hu.heap h hf
theorem CellsA.set {w : World} {b : Nat} {t : TypeId} {l : List Value} (h : CellsA w b t l) (i : Nat) (v : Value) : CellsA (w.setCell ⟨b, i, none⟩ v) b t (l.set i v) := by
  rw [CellsA, stored h, List.setIfInBounds_toArray]
theorem CellsA.new (w : World) (t : TypeId) (l : List Value) : CellsA (w.alloc (.cells l.toArray t)) w.heap.size t l := heap_alloc_new w _
theorem CellsA.range {w : World} {b : Nat} {t : TypeId} {l : List Value} (h : CellsA w b t l) : w.rangeAt b 0 l := rangeAt_of_row h (by simp)
section
variable {P : Program} {ops : Array Oper} {Q : Exit → Act → World → Prop} {rest : List Oper} {dst : Option Tmp} {ty : TypeId} {pos : String} {aft : Array Edge} {a : Act} {w : World} {K : Act → World → Prop}
theorem run_lookup1_map {t kt E : TypeId} (ht : P.underlying t = some (.map kt E)) (hk : P.underlying kt = some (.int .i64)) {z : Value} (hz : (zeroValue E).run P w = .ok z w) {b : Nat} {es : List (Int × Value)} (h : MapAt w b es) (k : Int) :
    (Instr.lookup t (.map (some b)) (.int .i64 k) false).run P w = .ok ((lookV es k).getD z) w := by
  obtain ⟨en, ck, h1, h2, h2s⟩ := h
  have hf := findNow_ix k en.toList es 0 h2
  have hc := fun e => Go.MapKept.run_checkKey (P := P) (w := w) (kt := kt) (k := .int .i64 k) hk (by simp [Go.MapKept.IsKey]) e 9999
  cases hq : findIx k es 0 with
  | none =>
    rw [hq] at hf
    simp [Instr.lookup, run_underlying ht, Go.MapKept.run_getObj_map h1, hc, Go.MapKept.run_findKey hk hf, hz, lookV, hq, Result.andThen]
  | some p =>
    rw [hq] at hf
    simp [Instr.lookup, run_underlying ht, Go.MapKept.run_getObj_map h1, hc, Go.MapKept.run_findKey hk hf, lookV, hq, Result.andThen]
theorem wpl_lookup1_map {t kt E : TypeId} {x y : Operand} (ht : P.underlying t = some (.map kt E)) (hk : P.underlying kt = some (.int .i64)) (z : Value) (hz : (zeroValue E).run P w = .ok z w) (b : Nat) (es : List (Int × Value)) (k : Int)
    (hx : a.eval x = .map (some b)) (hy : a.eval y = .int .i64 k) (h : MapAt w b es) (hr : wpList P ops Q rest (a.put dst ((lookV es k).getD z)) w) :
    wpList P ops Q (⟨dst, .lookup t x y false, ty, pos, aft, none⟩ :: rest) a w :=
  wpList_plain rfl fun K' hK' => by
    unfold Oper.wp
    simp only [execOp, hx, hy, Sem.run_bind, run_lookup1_map ht hk hz h k, Result.andThen_ok, Sem.run_pure]
    exact hK' _ _ hr
theorem run_len_map {w : World} (mt ty : TypeId) (b : Nat) (en : Array MapEntry) (ck : Nat) {kt E : TypeId} (hu : P.underlying mt = some (.map kt E)) (h : w.heap[b]? = some (.map en ck)) :
    (Builtin.len_ #[mt] ty #[.map (some b)]).run P w = .ok (.int .i64 (en.size : Nat)) w := by
  simp [Builtin.len_, Builtin.lenOf, run_underlying hu, Go.MapKept.run_getObj_map h, Result.andThen]
  first | done | rfl
end
/-! The store. -/
/-- An entry: a block's number, the row of its bytes, the bytes. -/
abbrev Ent := Int × Nat × Bytes
def entV (l : List Ent) : List (Int × Value) := l.map fun p => (p.1, .slice (some ⟨p.2.1, 0, none⟩) 512 512)
def entI (l : List Ent) : Img := l.map fun p => (p.1, p.2.2)
theorem keys_ent (l : List Ent) : (entV l).map (·.1) = keysB (entI l) := by simp [entV, entI, keysB]
theorem find_some (k : Int) : ∀ (l : List Ent) (i j : Nat) (v : Value), findIx k (entV l) i = some (j, v) → ∃ g x, v = .slice (some ⟨g, 0, none⟩) 512 512 ∧ (k, g, x) ∈ l ∧ lookB (entI l) k = some x
  | [], _, _, _, h => by cases h
  | p :: r, i, j, v, h => by
    rw [entV, List.map_cons, findIx] at h
    by_cases hk : k = p.1
    · rw [if_pos hk] at h
      cases h
      exact ⟨p.2.1, p.2.2, rfl, by rw [hk]; exact List.mem_cons_self .., by show lookB ((p.1, p.2.2) :: entI r) k = _; rw [lookB, if_pos hk]⟩
    · rw [if_neg hk] at h
      obtain ⟨g, x, h1, h2, h3⟩ := find_some k r (i + 1) j v h
      exact ⟨g, x, h1, List.mem_cons_of_mem _ h2, by show lookB ((p.1, p.2.2) :: entI r) k = _; rw [lookB, if_neg hk]; exact h3⟩
theorem find_no (k : Int) : ∀ (l : List Ent) (i : Nat), findIx k (entV l) i = none → lookB (entI l) k = none
  | [], _, _ => rfl
  | p :: r, i, h => by
    rw [entV, List.map_cons, findIx] at h
    by_cases hk : k = p.1
    · rw [if_pos hk] at h; cases h
    · rw [if_neg hk] at h
      show lookB ((p.1, p.2.2) :: entI r) k = _
      rw [lookB, if_neg hk]
      exact find_no k r (i + 1) h
theorem look_ent (l : List Ent) (k : Int) : (∃ g x, lookV (entV l) k = some (.slice (some ⟨g, 0, none⟩) 512 512) ∧ (k, g, x) ∈ l ∧ lookB (entI l) k = some x) ∨ (lookV (entV l) k = none ∧ lookB (entI l) k = none) := by
  rw [lookV]
  cases hq : findIx k (entV l) 0 with
  | none => exact .inr ⟨rfl, find_no k l 0 hq⟩
  | some q =>
    obtain ⟨j, v⟩ := q
    obtain ⟨g, x, rfl, h2, h3⟩ := find_some k l 0 j v hq
    exact .inl ⟨g, x, rfl, h2, h3⟩
def putE : List Ent → Int → Nat → Bytes → List Ent
  | [], k, g, x => [(k, g, x)]
  | p :: r, k, g, x => if k = p.1 then (k, g, x) :: r else p :: putE r k g x
theorem entI_putE (k : Int) (g : Nat) (x : Bytes) : ∀ l : List Ent, entI (putE l k g x) = putP (entI l) k x
  | [] => rfl
  | p :: r => by
    have ih := entI_putE k g x r
    rw [putE]
    show _ = putP ((p.1, p.2.2) :: entI r) k x
    rw [putP]
    by_cases h : k = p.1
    · rw [if_pos h, if_pos h]; rfl
    · rw [if_neg h, if_neg h, ← ih]; rfl
theorem putE_go (k : Int) (g : Nat) (x : Bytes) : ∀ (l pre : List Ent), (match findIx k (entV l) pre.length with
    | some (i, _) => (entV (pre ++ l)).set i (k, .slice (some ⟨g, 0, none⟩) 512 512)
    | none => entV (pre ++ l) ++ [(k, .slice (some ⟨g, 0, none⟩) 512 512)]) = entV (pre ++ putE l k g x)
  | [], pre => by simp [entV, findIx, putE]
  | p :: r, pre => by
    rw [entV, List.map_cons, findIx, putE]
    by_cases h : k = p.1
    · rw [if_pos h, if_pos h]
      show (entV (pre ++ p :: r)).set pre.length _ = _
      simp only [entV, List.map_append, List.map_cons]
      rw [List.set_append_right _ _ (by simp)]
      simp
    · rw [if_neg h, if_neg h]
      have ih := putE_go k g x r (pre ++ [p])
      simpa [entV] using ih
theorem entV_putE (l : List Ent) (k : Int) (g : Nat) (x : Bytes) : putV (entV l) k (.slice (some ⟨g, 0, none⟩) 512 512) = entV (putE l k g x) := putE_go k g x l []
theorem mem_putE {k : Int} {g : Nat} {x : Bytes} {p : Ent} : ∀ {l : List Ent}, p ∈ putE l k g x → p = (k, g, x) ∨ p ∈ l
  | [], h => .inl (List.mem_singleton.1 h)
  | q :: r, h => by
    rw [putE] at h
    split at h
    · rcases List.mem_cons.1 h with e | e
      · exact .inl e
      · exact .inr (List.mem_cons_of_mem _ e)
    · rcases List.mem_cons.1 h with e | e
      · exact .inr (e ▸ List.mem_cons_self ..)
      · rcases mem_putE e with e | e
        · exact .inl e
        · exact .inr (List.mem_cons_of_mem _ e)
/-- A store at mb of at most most blocks: es; K: its blocks in memory. -/
def MemAt (w : World) (mb most : Nat) (es : Img) (K : Nat → Prop) : Prop :=
  ∃ (m1 m2 : Nat) (l : List Ent), es = entI l ∧ CellsA w mb 55 [.int .i64 most, .map (some m1), .map (some m2)] ∧ MapAt w m1 (entV l) ∧ MapAt w m2 [] ∧ (∀ p ∈ l, CellsA w p.2.1 5 (bvs p.2.2) ∧ p.2.2.length = 512 ∧ K p.2.1 ∧ p.2.1 ≠ m1 ∧ 1 ≤ p.1) ∧ (keysB es).Nodup ∧ mb ≠ m1 ∧ m2 ≠ m1 ∧ K mb ∧ K m1 ∧ K m2 ∧ (∀ q, K q → q < w.heap.size) ∧ es.length ≤ most ∧ most ≤ 4096
section
variable {w w' : World} {mb most : Nat} {es : Img} {K H : Nat → Prop}
theorem MemAt.upd (h : MemAt w mb most es K) (hu : Upd H w w') (hf : ∀ q, K q → ¬ H q) : MemAt w' mb most es K :=
  let ⟨m1, m2, l, h1, h2, h3, h4, h5, h6, h7, h8, h9, h10, h11, h12, h13⟩ := h
  ⟨m1, m2, l, h1, h2.upd hu (hf _ h9), h3.upd hu (hf _ h10), h4.upd hu (hf _ h11), fun p hp => ⟨(h5 p hp).1.upd hu (hf _ (h5 p hp).2.2.1), (h5 p hp).2⟩, h6, h7, h8, h9, h10, h11, fun q hq => Nat.lt_of_lt_of_le (h12 q hq) hu.size, h13⟩
theorem MemAt.lt (h : MemAt w mb most es K) : ∀ q, K q → q < w.heap.size := let ⟨_, _, _, _, _, _, _, _, _, _, _, _, _, _, h, _⟩ := h; h
theorem MemAt.ok (h : MemAt w mb most es K) : (keysB es).Nodup ∧ es.length ≤ most ∧ most ≤ 4096 := let ⟨_, _, _, _, _, _, _, _, h1, _, _, _, _, _, _, h2⟩ := h; ⟨h1, h2⟩
theorem newmem_ok (n : Nat) (hn : n ≤ 4096) (w : World) (nI : Int) (hnI : nI = (n : Nat)) : Calls Try.prog 8 #[.int .i64 nI] w fun e w' => ∃ mb K, e = .returned (.pointer (some ⟨mb, 0, none⟩)) ∧ MemAt w' mb n [] K ∧ Upd (fun _ => False) w w' ∧ ∀ q, K q → w.heap.size ≤ q := by
  subst hnI
  have hnI : (n : Int) ≤ 4096 := by omega
  have hmm := @run_makeMap Try.prog
  go_enter Try.func8, Try.ntmps8
  go_wp2_with fail
  go_ret
  have u1 : Upd (fun _ => False) w (w.alloc (.map #[] 0)) := (Upd.refl _ w).alloc _
  have s1 : (w.alloc (.map #[] 0)).heap.size = w.heap.size + 1 := by simp
  have m1 := MapAt.new w
  have u2 : Upd (fun _ => False) (w.alloc (.map #[] 0)) ((w.alloc (.map #[] 0)).alloc (.map #[] 0)) := (Upd.refl _ _).alloc _
  have s2 : ((w.alloc (.map #[] 0)).alloc (.map #[] 0)).heap.size = w.heap.size + 1 + 1 := by simp
  have m2 := MapAt.new (w.alloc (.map #[] 0))
  rw [s1] at m2
  have cp := CellsA.new ((w.alloc (.map #[] 0)).alloc (.map #[] 0)) 55 [.int .i64 n, .map (some w.heap.size), .map (some (w.heap.size + 1))]
  rw [s2] at cp
  have u3 : Upd (fun _ => False) ((w.alloc (.map #[] 0)).alloc (.map #[] 0)) (((w.alloc (.map #[] 0)).alloc (.map #[] 0)).alloc (.cells #[.int .i64 n, .map (some w.heap.size), .map (some (w.heap.size + 1))] 55)) := (Upd.refl _ _).alloc _
  refine ⟨w.heap.size + 1 + 1, fun q => q = w.heap.size ∨ q = w.heap.size + 1 ∨ q = w.heap.size + 1 + 1, rfl, ⟨w.heap.size, w.heap.size + 1, [], rfl, cp, (m1.upd u2 (fun h => h)).upd u3 (fun h => h), m2.upd u3 (fun h => h), (fun p hp => by cases hp), by simp [keysB], by omega, by omega, .inr (.inr rfl), .inl rfl, .inr (.inl rfl), fun q hq => ?_, Nat.zero_le _, hn⟩, (u1.trans u2).trans u3, fun q hq => ?_⟩
  · have := cp.lt
    rcases hq with e | e | e <;> omega
  · rcases hq with e | e | e <;> omega
theorem used_ok (h : MemAt w mb most es K) : Calls Try.prog 16 #[.pointer (some ⟨mb, 0, none⟩)] w fun e w' => e = .returned (.int .i64 (es.length : Nat)) ∧ w = w' := by
  obtain ⟨m1, m2, l, rfl, h2, h3, _⟩ := h
  have c1 := h2.cell 1
  simp only [List.getElem?_cons_zero, List.getElem?_cons_succ] at c1
  obtain ⟨en, ck, hm, he, _⟩ := h3
  have hlen : en.size = (entI l).length := by have := congrArg List.length he; simpa [entV, entI] using this
  have hln : ∀ ty, (Builtin.len_ #[52] ty #[.map (some m1)]).run Try.prog w = .ok (.int .i64 ((entI l).length : Nat)) w := fun ty => by
    rw [← hlen]
    exact run_len_map (w := w) 52 ty m1 en ck Try.underlying52 hm
  obtain ⟨n, hn⟩ : ∃ n, (entI l).length = n := ⟨_, rfl⟩
  rw [hn] at hln ⊢
  clear hm he hlen h2 hn
  go_enter Try.func16, Try.ntmps16
  go_wp2_with fail
  go_ret
  exact ⟨rfl, rfl⟩
theorem zeroSlB (w : World) : (zeroValue 31).run Try.prog w = .ok (.slice none 0 0) w := by kernel_rfl
theorem zeroInB (w : World) : (zeroValue 3).run Try.prog w = .ok (.int .i64 0) w := by kernel_rfl
theorem mcheck_ok (h : MemAt w mb most es K) (b : Int) : Calls Try.prog 71 #[.pointer (some ⟨mb, 0, none⟩), .int .i64 b] w fun e w' => e = .returned (.int .i64 (if (lookB es b).isSome then 0 else 1)) ∧ w = w' := by
  obtain ⟨m1, m2, l, rfl, h2, h3, _⟩ := h
  have c1 := h2.cell 1
  simp only [List.getElem?_cons_zero, List.getElem?_cons_succ] at c1
  have H3 := Lib.hid h3
  clear h2 h3
  rcases look_ent l b with ⟨g, x, e1, _, e2⟩ | ⟨e1, e2⟩
  · rw [e2]
    have E1 := Lib.hid e1
    clear e1 e2
    go_enter Try.func71, Try.ntmps71
    go_wp2_with (first | ((with_reducible apply wpl_lookup_map Try.underlying52 Try.underlying3 (.slice none 0 0) (zeroSlB _) m1 (entV l) b); exact rfl; exact rfl; exact H3.out; rw [E1.out]; try (simp only [Act.put, List.setIfInBounds_toArray, List.set_cons_zero, List.set_cons_succ])))
    go_ret
    exact ⟨rfl, rfl⟩
  · rw [e2]
    have E1 := Lib.hid e1
    clear e1 e2
    go_enter Try.func71, Try.ntmps71
    go_wp2_with (first | ((with_reducible apply wpl_lookup_map Try.underlying52 Try.underlying3 (.slice none 0 0) (zeroSlB _) m1 (entV l) b); exact rfl; exact rfl; exact H3.out; rw [E1.out]; try (simp only [Act.put, List.setIfInBounds_toArray, List.set_cons_zero, List.set_cons_succ])))
    go_ret
    exact ⟨rfl, rfl⟩
theorem infoU8b : (Try.prog.info? 5).map (fun i => (i.zero, i.size, i.bytes)) = some (some (.int .u8 0), 1, 1) := by kernel_rfl
theorem made_512 (u : World) : (Instr.makeSlice 31 (.int .i64 512) (.int .i64 512)).run Try.prog u = .ok (.slice (some ⟨u.heap.size, 0, none⟩) 512 512) (u.alloc (.cells (bvs zeros512).toArray 5)) := by
  obtain ⟨i, hi, hz0, hz1, hz2⟩ := info_parts infoU8b
  have h := run_make (P := Try.prog) u 31 5 i _ Try.underlying31 hi hz0 .i64 .i64 512 512 (by omega) (Int.le_refl _) (by rw [hz2]; omega) (by omega)
  rw [hz1] at h
  refine h.trans ?_
  have e1 : ((512 : Int)).toNat = 512 := by omega
  have e2 : madeCells (Value.int .u8 0).cells (512 * 1) = (bvs zeros512).toArray := by
    rw [Nat.mul_one]
    have := toList_madeCells_one (.int .u8 0) 512
    apply Array.toList_inj.1
    rw [show (Value.int .u8 0).cells = #[.int .u8 0] from rfl, this]
    simp only [bvs, zeros512, List.map_replicate]
    rfl
  rw [e1, e2]
/-- slices.Clone. -/
theorem clone_bytes (g c : Nat) (x : Bytes) (w : World) (hx : x.length = 512) (hs : Sees w 1 (.slice (some ⟨g, 0, none⟩) 512 c) 512 (bvs x)) :
    Calls Try.prog 72 #[.slice (some ⟨g, 0, none⟩) 512 c] w fun e w' => ∃ (y : Option Addr) (d : Nat), e = .returned (.slice y 512 d) ∧ Mid w' 1 (.slice y 512 d) 512 (bvs x) ∧ Upd (fun _ => False) w w' ∧ (∀ q, (Value.slice y 512 d).ownBlock = some q → w.heap.size ≤ q) := by
  have Hs := Lib.hid hs
  have hq : ∀ w : World, (binOp .eql 31 (.slice (some ⟨g, 0, none⟩) 512 c) (.slice none 0 0)).run Try.prog w = .ok (.bool false) w := fun w => by
    exact run_eql_slice_nil w 31 5 (some ⟨g, 0, none⟩) 512 c Try.underlying31
  clear hs
  go_enter Try.func72, Try.ntmps72
  go_wp2_with ((with_reducible apply wpl_append_mid 5 1 1 _ (.slice (some ⟨w.heap.size, 0, none⟩) 0 0) 0 [] 512 (bvs x)))
  · exact Try.underlying31
  · exact infoU8b
  · rfl
  · rfl
  · exact ⟨rfl, .inr ⟨w.heap.size, 0, 0, rfl, Nat.le_refl _, Nat.zero_le _, by simp, (fun j v hj => by cases hj), fun j hj => absurd hj (Nat.not_lt_zero _)⟩⟩
  · exact Hs.out.upd ((Upd.refl _ w).alloc _) (fun _ _ _ h => h)
  · exact bvs_one x
  · unfold maxLen; omega
  · omega
  intro y d w5 hm5 hu5 hb5
  try (simp only [Act.put, List.setIfInBounds_toArray, List.set_cons_zero, List.set_cons_succ])
  have h5 : Upd (fun _ => False) w w5 := ((Upd.refl (fun _ => False) w).alloc (.cells #[] 5)).then hu5 (fun q hq => .inr (by cases hq; exact Nat.le_refl _))
  have ho5 : ∀ q, (Value.slice y (0 + 512) d).ownBlock = some q → w.heap.size ≤ q := fun q hq => by
    rcases hb5 with e | e
    · rw [e] at hq; cases hq; exact Nat.le_refl _
    · rw [e] at hq; cases hq; simp
  have H5 := Lib.hid (And.intro hm5 (And.intro h5 ho5))
  clear hm5 hu5 hb5 h5 ho5
  go_wp2_with fail
  go_ret
  exact ⟨y, d, rfl, H5.out.1, H5.out.2.1, H5.out.2.2⟩
theorem mread_bad (h : MemAt w mb most es K) (b : Int) (hb : lookB es b = none) : Calls Try.prog 68 #[.pointer (some ⟨mb, 0, none⟩), .int .i64 b] w fun e w' => e = .returned (.tuple #[.slice none 0 0, .int .i64 1]) ∧ w = w' := by
  have hc := mcheck_ok h b
  rw [hb] at hc
  have Hc := Lib.hid hc
  clear hc h hb
  go_enter Try.func68, Try.ntmps68
  go_wp2_with fail
  refine Hc.out.mono ?_
  rintro e w1 ⟨rfl, rfl⟩
  dsimp only
  go_wp2_with fail
  go_ret2
  exact ⟨rfl, rfl⟩
theorem mread_ok (h : MemAt w mb most es K) (b : Int) (x : Bytes) (hb : lookB es b = some x) : Calls Try.prog 68 #[.pointer (some ⟨mb, 0, none⟩), .int .i64 b] w fun e w' => ∃ (y : Option Addr) (d : Nat), e = .returned (.tuple #[.slice y 512 d, .int .i64 0]) ∧ Mid w' 1 (.slice y 512 d) 512 (bvs x) ∧ Upd (fun _ => False) w w' ∧ x.length = 512 ∧ ∀ q, (Value.slice y 512 d).ownBlock = some q → w.heap.size ≤ q := by
  have hc := mcheck_ok h b
  rw [hb] at hc
  have Hc := Lib.hid hc
  obtain ⟨m1, m2, l, rfl, h2, h3, h4, h5, _⟩ := h
  have c1 := h2.cell 1
  simp only [List.getElem?_cons_zero, List.getElem?_cons_succ] at c1
  rcases look_ent l b with ⟨g, x', e1, e3, e2⟩ | ⟨e1, e2⟩
  · rw [hb] at e2
    cases e2
    have hx := (h5 _ e3).2.1
    have hcl := clone_bytes g 512 x w hx (Sees.at (by rw [bvs_length]; exact hx) (by decide) (h5 _ e3).1.range)
    have Hcl := Lib.hid (And.intro hcl hx)
    have E1 := Lib.hid (And.intro e1 h3)
    clear hc h2 h3 h4 h5 e1 e3 hb hx hcl
    go_enter Try.func68, Try.ntmps68
    go_wp2_with fail
    refine Hc.out.mono ?_
    rintro e w1 ⟨rfl, rfl⟩
    dsimp only
    go_wp2_with (first | ((with_reducible apply wpl_lookup1_map Try.underlying52 Try.underlying3 (.slice none 0 0) (zeroSlB _) m1 (entV l) b); exact rfl; exact rfl; exact E1.out.2; rw [E1.out.1]; try (simp only [Act.put, List.setIfInBounds_toArray, List.set_cons_zero, List.set_cons_succ])))
    refine Hcl.out.1.mono ?_
    rintro e w1 ⟨y, d, rfl, hm, hu, ho⟩
    dsimp only
    have Hm := Lib.hid (And.intro hm (And.intro hu ho))
    clear hm hu ho
    go_wp2_with fail
    go_ret2
    exact ⟨y, d, rfl, Hm.out.1, Hm.out.2.1, Hcl.out.2, Hm.out.2.2⟩
  · rw [hb] at e2; cases e2
/-- The entries with one more, or another, row. -/
theorem MemAt.put {m1 m2 : Nat} {l : List Ent} (h2 : CellsA w mb 55 [.int .i64 most, .map (some m1), .map (some m2)]) (h4 : MapAt w m2 []) (h5 : ∀ p ∈ l, CellsA w p.2.1 5 (bvs p.2.2) ∧ p.2.2.length = 512 ∧ K p.2.1 ∧ p.2.1 ≠ m1 ∧ 1 ≤ p.1)
    (h6 : (keysB (entI l)).Nodup) (h7 : mb ≠ m1) (h8 : m2 ≠ m1) (h9 : K mb) (h10 : K m1) (h11 : K m2) (h12 : ∀ q, K q → q < w.heap.size) (h13 : (entI l).length ≤ most ∧ most ≤ 4096)
    (k : Int) (hk : 1 ≤ k) (x : Bytes) (hx : x.length = 512) (hlen : (putP (entI l) k x).length ≤ most) {w1 : World} (hu1 : Upd (fun _ => False) w w1) {g : Nat} (hg : w.heap.size ≤ g) (hc : CellsA w1 g 5 (bvs x)) {w' : World}
    (hm : MapAt w' m1 (putV (entV l) k (.slice (some ⟨g, 0, none⟩) 512 512))) (hu : Upd (fun q => q = m1) w1 w') :
    MemAt w' mb most (putP (entI l) k x) (fun q => K q ∨ q = g) ∧ Upd K w w' := by
  have hgm : g ≠ m1 := fun e => by have := h12 _ h10; omega
  have hall : Upd (fun q => q = m1) w w' := (hu1.mono (fun _ _ h => h.elim)).trans hu
  rw [entV_putE] at hm
  refine ⟨⟨m1, m2, putE l k g x, (entI_putE k g x l).symm, h2.upd hall h7, hm, h4.upd hall h8, fun p hp => ?_, nodup_putP k x _ h6, h7, h8, .inl h9, .inl h10, .inl h11, fun q hq => ?_, hlen, h13.2⟩, hall.mono (fun q _ e => by rw [e]; exact h10)⟩
  · rcases mem_putE hp with rfl | hp
    · exact ⟨hc.upd hu hgm, hx, .inr rfl, hgm, hk⟩
    · have := h5 p hp
      exact ⟨this.1.upd hall this.2.2.2.1, this.2.1, .inl this.2.2.1, this.2.2.2⟩
  · rcases hq with e | e
    · exact Nat.lt_of_lt_of_le (h12 q e) hall.size
    · rw [e]; exact Nat.lt_of_lt_of_le hc.lt hu.size
theorem putP_len (k : Int) (x : Bytes) : ∀ es : Img, lookB es k ≠ none → (putP es k x).length = es.length
  | [], h => absurd rfl h
  | q :: r, h => by
    rw [lookB] at h
    rw [putP]
    split
    · simp
    · rename_i hk
      rw [if_neg hk] at h
      rw [List.length_cons, List.length_cons, putP_len k x r h]
theorem putP_len1 (k : Int) (x : Bytes) : ∀ es : Img, lookB es k = none → (putP es k x).length = es.length + 1
  | [], h => rfl
  | q :: r, h => by
    rw [lookB] at h
    rw [putP]
    split
    · rename_i hk; rw [if_pos hk] at h; cases h
    · rename_i hk
      rw [if_neg hk] at h
      rw [List.length_cons, List.length_cons, putP_len1 k x r h]
theorem pad512_splice (l : Bytes) : splice (bvs zeros512) 0 (bvs l) = bvs (pad l) := by
  simp only [splice, pad, List.take_zero, List.nil_append, bvs_append, bvs_length, Nat.zero_add]
  simp only [bvs, ← List.map_drop, zeros512, List.drop_replicate]
theorem sizeU8b : (Try.prog.info? 5).map (·.size) = some 1 := by kernel_rfl
set_option maxHeartbeats 2000000 in
theorem mwrite_ok (h : MemAt w mb most es K) (b : Int) (x0 : Bytes) (hb : lookB es b = some x0) (xa : Option Addr) (xc : Nat) (bs : Bytes) (n : Nat) (hn : bs.length = n) (hl : n ≤ 512) (hs : Sees w 1 (.slice xa n xc) n (bvs bs)) :
    Calls Try.prog 70 #[.pointer (some ⟨mb, 0, none⟩), .int .i64 b, .slice xa n xc] w fun e w' => e = .returned (.int .i64 0) ∧ ∃ g, w.heap.size ≤ g ∧ MemAt w' mb most (putP es b (pad bs)) (fun q => K q ∨ q = g) ∧ Upd K w w' := by
  have hc := mcheck_ok h b
  rw [hb] at hc
  have Hc := Lib.hid hc
  have hnI : (n : Int) ≤ 512 := by omega
  obtain ⟨m1, m2, l, rfl, h2, h3, h4, h5, h6, h7, h8, h9, h10, h11, h12, h13⟩ := h
  have hb1 : 1 ≤ b := by
    rcases look_ent l b with ⟨g, x', _, e3, _⟩ | ⟨_, e2⟩
    · exact (h5 _ e3).2.2.2.2
    · rw [hb] at e2; cases e2
  have c1 := h2.cell 1
  have c2 := h2.cell 2
  simp only [List.getElem?_cons_zero, List.getElem?_cons_succ] at c1 c2
  have hmk := made_512 w
  have h4e : lookV [] b = none := rfl
  have hu1 : Upd (fun _ => False) w (w.alloc (.cells (bvs (pad bs)).toArray 5)) := (Upd.refl _ w).alloc _
  have c1b := hu1.cell_some c1 (fun h => h)
  have hcp : ∀ ty, (Builtin.copy_ #[31, 31] ty #[.slice (some ⟨w.heap.size, 0, none⟩) 512 512, .slice xa n xc]).run Try.prog (w.alloc (.cells (bvs zeros512).toArray 5)) =
      .ok (.int .i64 (n : Nat)) (w.alloc (.cells (bvs (pad bs)).toArray 5)) := fun ty => by
    have hmin : min n 512 = n := by omega
    have h := run_copy_sees (P := Try.prog) (ty := ty) (w.alloc (.cells (bvs zeros512).toArray 5)) 31 31 5 w.heap.size 0 512 512 (.slice xa n xc) 1 n (bvs bs) Try.underlying31 sizeU8b (hs.upd ((Upd.refl _ w).alloc _) (fun _ _ _ h => h)) (there_of_row (heap_alloc_new w _) (by simp [bvs_length, zeros512]; omega)) (bvs_one bs)
    rw [hmin, Nat.mul_one, List.take_of_length_le (by rw [bvs_length]; omega), setCells_alloc _ _ _ _ _ (by simp [bvs_length, zeros512]; omega), pad512_splice] at h
    exact h
  have H := Lib.hid (And.intro h2 (And.intro h3 (And.intro h4 (And.intro h5 (And.intro h6 (And.intro h7 (And.intro h8 (And.intro h9 (And.intro h10 (And.intro h11 (And.intro h12 (And.intro h13 (And.intro hb1 (And.intro hb hu1))))))))))))))
  have Hn := Lib.hid (And.intro hn hl)
  clear hc h2 h3 h4 h5 h6 h7 h8 h9 h10 h11 h12 h13 hb1 hb hs hn hl hu1
  go_enter Try.func70, Try.ntmps70
  go_wp2_with fail
  refine Hc.out.mono ?_
  rintro e w1 ⟨rfl, rfl⟩
  dsimp only
  go_wp2_with (first | ((with_reducible apply wpl_lookup1_map Try.underlying53 Try.underlying3 (.int .i64 0) (zeroInB _) m2 [] b); exact rfl; exact rfl; exact H.out.2.2.1; rw [h4e]; try (simp only [Act.put, List.setIfInBounds_toArray, List.set_cons_zero, List.set_cons_succ])) | ((with_reducible apply wpl_update_map Try.underlying52 Try.underlying3 m1 (entV l) b (.slice (some ⟨w.heap.size, 0, none⟩) 512 512)); exact rfl; exact rfl; exact rfl; exact H.out.2.1.upd H.out.2.2.2.2.2.2.2.2.2.2.2.2.2.2 (fun h => h)))
  intro w9 hm9 hu9
  try (simp only [Act.put, List.setIfInBounds_toArray, List.set_cons_zero, List.set_cons_succ])
  have hpl : (pad bs).length = 512 := pad_length (by have := Hn.out; omega)
  obtain ⟨h2, h3, h4, h5, h6, h7, h8, h9, h10, h11, h12, h13, hb1, hb, hu1⟩ := H.out
  have hfin := MemAt.put h2 h4 h5 h6 h7 h8 h9 h10 h11 h12 h13 b hb1 (pad bs) hpl (by rw [putP_len b _ _ (by rw [hb]; simp)]; exact h13.1) hu1 (Nat.le_refl _) (CellsA.new w 5 (bvs (pad bs))) hm9 hu9
  have Hf := Lib.hid hfin
  clear hm9 hu9 hfin h2 h3 h4 h5 h6 h7 h8 h9 h10 h11 h12 h13 hb1 hb hu1 hpl
  go_wp2_with fail
  go_ret
  exact ⟨rfl, w.heap.size, Nat.le_refl _, Hf.out.1, Hf.out.2⟩
/-- What Take finds: the least number that is free. -/
def gapB (es : Img) (b : Nat) : Prop := 1 ≤ b ∧ lookB es (b : Int) = none ∧ ∀ j : Nat, 1 ≤ j → j < b → lookB es (j : Int) ≠ none
theorem nodup_sub_len : ∀ (l m : List Int), l.Nodup → (∀ x ∈ l, x ∈ m) → l.length ≤ m.length
  | [], m, _, _ => Nat.zero_le _
  | x :: r, m, hn, hs => by
    have hc := List.nodup_cons.1 hn
    have hx := hs x (List.mem_cons_self ..)
    have h1 := nodup_sub_len r (m.erase x) hc.2 (fun y hy => (List.mem_erase_of_ne (fun e : y = x => hc.1 (e ▸ hy))).2 (hs y (List.mem_cons_of_mem _ hy)))
    rw [List.length_erase_of_mem hx] at h1
    have h2 := List.length_pos_of_mem hx
    rw [List.length_cons]; omega
theorem gap_le {es : Img} {b : Nat} (h : ∀ j : Nat, 1 ≤ j → j < b → lookB es (j : Int) ≠ none) : b ≤ es.length + 1 := by
  have hsub : ∀ x ∈ (List.range (b - 1)).map (fun j => ((j + 1 : Nat) : Int)), x ∈ keysB es := by
    intro x hx
    obtain ⟨j, hj, rfl⟩ := List.mem_map.1 hx
    rw [List.mem_range] at hj
    exact Classical.byContradiction fun hn => h (j + 1) (by omega) (by omega) ((lookB_none_iff _ es).2 hn)
  have hnd : ((List.range (b - 1)).map (fun j => ((j + 1 : Nat) : Int))).Nodup := by
    show List.Pairwise (· ≠ ·) _
    exact List.Pairwise.map _ (fun i j hne e => hne (by omega)) List.nodup_range
  have := nodup_sub_len _ _ hnd hsub
  rw [List.length_map, List.length_range, keysB_length] at this
  omega
/-- What Take leaves. -/
def TakP (w : World) (mb most : Nat) (es : Img) (K : Nat → Prop) (e : Ending) (w' : World) : Prop :=
  (most ≤ es.length ∧ e = .returned (.tuple #[.int .i64 0, .int .i64 12]) ∧ Upd (fun _ => False) w w') ∨
  (es.length < most ∧ ∃ b : Nat, gapB es b ∧ e = .returned (.tuple #[.int .i64 (b : Nat), .int .i64 0]) ∧ ∃ g, w.heap.size ≤ g ∧ MemAt w' mb most (putP es (b : Int) zeros512) (fun q => K q ∨ q = g) ∧ Upd K w w')
set_option maxHeartbeats 4000000 in
theorem take_ok (h : MemAt w mb most es K) : Calls Try.prog 69 #[.pointer (some ⟨mb, 0, none⟩)] w fun e w' => TakP w mb most es K e w' := by
  have hK := h
  obtain ⟨m1, m2, l, rfl, h2, h3, h4, h5, h6, h7, h8, h9, h10, h11, h12, h13⟩ := h
  have c0 := h2.cell 0
  have c1 := h2.cell 1
  simp only [List.getElem?_cons_zero, List.getElem?_cons_succ] at c0 c1
  obtain ⟨n, hn⟩ : ∃ n, (entI l).length = n := ⟨_, rfl⟩
  have hln : ∀ ty, (Builtin.len_ #[52] ty #[.map (some m1)]).run Try.prog w.drew = .ok (.int .i64 (n : Nat)) w.drew := fun ty => by
    obtain ⟨en, ck, hm, he, _⟩ := h3
    have hlen : en.size = n := by have := congrArg List.length he; simp [entV, entI] at this hn; omega
    rw [← hlen]
    exact run_len_map (w := w.drew) 52 ty m1 en ck Try.underlying52 hm
  have hnI : (n : Int) ≤ 4096 := by omega
  have hmI : (most : Int) ≤ 4096 := by omega
  have H := Lib.hid (And.intro h2 (And.intro h3 (And.intro h4 (And.intro h5 (And.intro h6 (And.intro h7 (And.intro h8 (And.intro h9 (And.intro h10 (And.intro h11 (And.intro h12 h13)))))))))))
  have HN := Lib.hid hn
  have HS : w.drew.cell? ⟨mb, 0, none⟩ = some (.int .i64 most) ∧ w.drew.cell? ⟨mb, 1, none⟩ = some (.map (some m1)) := ⟨c0, c1⟩
  clear h2 h3 h4 h5 h6 h7 h8 h9 h10 h11 h12 h13 hn hK
  by_cases hmo : most ≤ n
  · have hmoI : (most : Int) ≤ (n : Int) := by omega
    go_enter Try.func69, Try.ntmps69
    go_wp2_with fail
    refine wp_region_planD (fun u => u.cell? ⟨mb, 0, none⟩ = some (.int .i64 most) ∧ u.cell? ⟨mb, 1, none⟩ = some (.map (some m1))) 10 [(0, true), (1, true), (2, true), (3, true), (5, true), (6, true), (7, true), (8, true), (4, false), (9, true)] (by kernel_rfl) (by kernel_rfl) (fun d _ _ _ _ h => by cases d <;> exact h) HS ?_
    iterate 8 (first | (apply planD_held rfl rfl rfl (by simp) HS; (intro w' hS K hK; go_simp; exact hK)) | (apply planD_wanted rfl rfl rfl (by simp) HS; (intro w' hS K hK; go_simp; exact hK)))
    refine planD_op rfl rfl (fun KK hK => ?_)
    go_simp
    refine hK _ _ _ (fun u h => h) (fun _ => HS) ?_
    clear hK
    try (simp only [Act.put, List.setIfInBounds_toArray, List.set_cons_zero, List.set_cons_succ])
    iterate 1 (first | (apply planD_held rfl rfl rfl (by simp) HS; (intro w' hS K hK; go_simp; exact hK)) | (apply planD_wanted rfl rfl rfl (by simp) HS; (intro w' hS K hK; go_simp; exact hK)))
    refine planD_nil ?_
    clear HS
    go_wp2_with fail
    go_ret2
    exact .inl ⟨by rw [HN.out]; exact hmo, rfl, (Upd.refl _ w).drew⟩
  · have hmoI : (n : Int) < (most : Int) := by omega
    go_enter Try.func69, Try.ntmps69
    go_wp2_with fail
    refine wp_region_planD (fun u => u.cell? ⟨mb, 0, none⟩ = some (.int .i64 most) ∧ u.cell? ⟨mb, 1, none⟩ = some (.map (some m1))) 10 [(0, true), (1, true), (2, true), (3, true), (5, true), (6, true), (7, true), (8, true), (4, false), (9, true)] (by kernel_rfl) (by kernel_rfl) (fun d _ _ _ _ h => by cases d <;> exact h) HS ?_
    iterate 8 (first | (apply planD_held rfl rfl rfl (by simp) HS; (intro w' hS K hK; go_simp; exact hK)) | (apply planD_wanted rfl rfl rfl (by simp) HS; (intro w' hS K hK; go_simp; exact hK)))
    refine planD_op rfl rfl (fun KK hK => ?_)
    go_simp
    refine hK _ _ _ (fun u h => h) (fun _ => HS) ?_
    clear hK
    try (simp only [Act.put, List.setIfInBounds_toArray, List.set_cons_zero, List.set_cons_succ])
    iterate 1 (first | (apply planD_held rfl rfl rfl (by simp) HS; (intro w' hS K hK; go_simp; exact hK)) | (apply planD_wanted rfl rfl rfl (by simp) HS; (intro w' hS K hK; go_simp; exact hK)))
    refine planD_nil ?_
    clear hln
    have hm3 : Hid (MapAt w.drew m1 (entV l)) := H.out.2.1.upd (Upd.refl (fun _ => False) _).drew (fun h => h)
    have hc1 := HS.2
    clear HS c0 c1
    have HD : Hid (Upd (fun _ => False) w w.drew) := (Upd.refl _ w).drew
    generalize w.drew = w1 at *
    go_wp2_with fail
    go_loop [4] (fun bv => ∃ b : Nat, bv = .int .i64 b ∧ 1 ≤ b ∧ b ≤ n + 1 ∧ ∀ j : Nat, 1 ≤ j → j < b → lookB (entI l) (j : Int) ≠ none) (fun bv => n + 2 - (intOf bv).toNat)
    case atStart => exact ⟨1, rfl, Nat.le_refl _, by omega, fun j h1 h2 => by omega⟩
    case round =>
      obtain ⟨b, rfl, hb1, hbn, hbj⟩ := hrel
      have hbI : (b : Int) ≤ 4097 := by omega
      have Hbj := Lib.hid hbj
      clear hbj
      rcases look_ent l (b : Int) with ⟨g, x, e1, _, e2⟩ | ⟨e1, e2⟩
      · have E1 := Lib.hid (And.intro e1 e2)
        clear e1 e2
        go_wp2_with (first | ((with_reducible apply wpl_lookup_map Try.underlying52 Try.underlying3 (.slice none 0 0) (zeroSlB _) m1 (entV l) (b : Int)); exact rfl; exact rfl; exact hm3.out; rw [E1.out.1]; try (simp only [Act.put, List.setIfInBounds_toArray, List.set_cons_zero, List.set_cons_succ])))
        have hnx : ∀ j : Nat, 1 ≤ j → j < b + 1 → lookB (entI l) (j : Int) ≠ none := fun j h1 h2 => by
          by_cases hj : j = b
          · rw [hj, E1.out.2]; simp
          · exact Hbj.out j h1 (by omega)
        have hbn2 : b + 1 ≤ n + 1 := by have := gap_le hnx; rw [HN.out] at this; omega
        exact ⟨⟨b + 1, by go_num, by omega, hbn2, hnx⟩, by simp [intOf]; omega⟩
      · have E1 := Lib.hid (And.intro e1 e2)
        clear e1 e2
        go_wp2_with (first | ((with_reducible apply wpl_lookup_map Try.underlying52 Try.underlying3 (.slice none 0 0) (zeroSlB _) m1 (entV l) (b : Int)); exact rfl; exact rfl; exact hm3.out; rw [E1.out.1]; try (simp only [Act.put, List.setIfInBounds_toArray, List.set_cons_zero, List.set_cons_succ])))
        have hmk := made_512 w1.drew
        have HS : w1.drew.cell? ⟨mb, 1, none⟩ = some (.map (some m1)) := hc1
        have hu1 : Upd (fun _ => False) w1.drew (w1.drew.alloc (.cells (bvs zeros512).toArray 5)) := (Upd.refl _ _).alloc _
        refine wp_region_planD (fun u => u.cell? ⟨mb, 1, none⟩ = some (.map (some m1))) 6 [(0, true), (1, true), (2, true), (3, true), (4, true), (5, false), (6, false)] (by kernel_rfl) (by kernel_rfl) (fun d _ _ _ _ h => by cases d <;> exact h) HS ?_
        iterate 5 (first | (apply planD_held rfl rfl rfl (by simp) HS; (intro w' hS K hK; go_simp; exact hK)) | (apply planD_wanted rfl rfl rfl (by simp) HS; (intro w' hS K hK; go_simp; exact hK)))
        refine planD_op rfl rfl (fun KK hK => ?_)
        go_simp
        have HS2 : (w1.drew.alloc (.cells (bvs zeros512).toArray 5)).cell? ⟨mb, 1, none⟩ = some (.map (some m1)) := hu1.cell_some HS (fun h => h)
        refine hK _ _ _ (fun u h => h) (fun _ => HS2) ?_
        clear hK
        try (simp only [Act.put, List.setIfInBounds_toArray, List.set_cons_zero, List.set_cons_succ])
        refine planD_op rfl rfl (fun KK hK => ?_)
        refine wp_update_map Try.underlying52 Try.underlying3 m1 (entV l) (b : Int) (.slice (some ⟨w1.drew.heap.size, 0, none⟩) 512 512) rfl rfl rfl ((hm3.out.upd (Upd.refl (fun _ => False) _).drew (fun h => h)).upd hu1 (fun h => h)) (fun w9 hm9 hu9 => ?_)
        have hfin : ∃ g, w.heap.size ≤ g ∧ MemAt w9 mb most (putP (entI l) (b : Int) zeros512) (fun q => K q ∨ q = g) ∧ Upd K w w9 := by
          obtain ⟨h2, h3, h4, h5, h6, h7, h8, h9, h10, h11, h12, h13⟩ := H.out
          have hsz := HD.out.size
          exact ⟨_, hsz, MemAt.put h2 h4 h5 h6 h7 h8 h9 h10 h11 h12 h13 (b : Int) (by omega) zeros512 zeros512_length (by rw [putP_len1 _ _ _ E1.out.2, HN.out]; omega) ((HD.out.drew).trans hu1) hsz (CellsA.new w1.drew 5 (bvs zeros512)) hm9 hu9⟩
        have Hf := Lib.hid hfin
        clear hm9 hu9 hfin
        refine hK _ _ _ (fun u h => h) (fun h => absurd rfl h) ?_
        clear hK HS HS2 hu1
        try (simp only [Act.put, List.setIfInBounds_toArray, List.set_cons_zero, List.set_cons_succ])
        refine planD_nil ?_
        go_wp2_with fail
        go_ret2
        exact .inr ⟨by rw [HN.out]; omega, b, ⟨hb1, E1.out.2, Hbj.out⟩, rfl, Hf.out⟩
end
end Go.Proofs.Ytmefbbmjamdnjaa
