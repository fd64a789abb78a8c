/- A slice of bytes anywhere in a block: append of a string's bytes. No program here. -/
import Derived.Test.YtocameknhglklaaRow
import Derived.Lib.AppendStr
namespace Go.Proofs.Ytocameknhglklaa
open Go Go.RowKit
set_option linter.unusedSimpArgs false

theorem strCells_bvs (s : ByteArray) : Lib.strCells s = bvs s.data.toList := rfl
section
variable {P : Program} {ops : Array Oper} {Q : Exit → Act → World → Prop} {rest : List Oper} {dst : Option Tmp} {ty : TypeId} {pos : String} {aft : Array Edge} {a : Act} {w : World} {K : Act → World → Prop} {next : Act → Prop}

theorem run_append_mid_str (w : World) (t u ty e : TypeId) (hu : P.underlying t = some (.slice e)) (hs : P.underlying u = some .string) (hinfo : (P.info? e).map (fun i => (i.zero, i.size, i.bytes)) = some (some (.int .u8 0), 1, 1))
    (v : Value) (n : Nat) (xs : List Value) (hown : Mid w 1 v n xs) (s : ByteArray) (h63 : n + s.size ≤ 140737488355328) :
    ∃ x' c' w', (Builtin.append_ #[t, u] ty #[v, .string s]).run P w = .ok (.slice x' (n + s.size) c') w' ∧ Mid w' 1 (.slice x' (n + s.size) c') (n + s.size) (xs ++ bvs s.data.toList) ∧ Upd (fun k => v.ownBlock = some k) w w' ∧
      ((Value.slice x' (n + s.size) c').ownBlock = v.ownBlock ∨ (Value.slice x' (n + s.size) c').ownBlock = some w.heap.size) := by
  obtain ⟨i, hi, hz, hz1, hz2⟩ := info_parts hinfo
  have hmm : n + s.size ≤ maxLen := by unfold maxLen; omega
  have hsl : (bvs s.data.toList).length = s.size := by rw [← strCells_bvs, Lib.strCells_length]
  have hxl : xs.length = n := by simpa using hown.1
  have hlen : (xs ++ bvs s.data.toList).length = (n + s.size) * 1 := by rw [List.length_append, hxl, hsl, Nat.mul_one]
  have hzc : (Value.int IntKind.u8 0).cells.size = 1 := rfl
  have grown : ∀ (old : Nat), Mid (w.drew.alloc (.cells (xs.toArray ++ (bvs s.data.toList).toArray ++ Builtin.zeroCells (Value.int .u8 0).cells (grownCap w (n + s.size) old e - (n + s.size))) e)) 1
        (.slice (some ⟨w.heap.size, 0, none⟩) (n + s.size) (grownCap w (n + s.size) old e)) (n + s.size) (xs ++ bvs s.data.toList) ∧
      Upd (fun k => v.ownBlock = some k) w (w.drew.alloc (.cells (xs.toArray ++ (bvs s.data.toList).toArray ++ Builtin.zeroCells (Value.int .u8 0).cells (grownCap w (n + s.size) old e - (n + s.size))) e)) := by
    intro old
    have hge := grownCap_ge w (n + s.size) old e
    have hcm : grownCap w (n + s.size) old e ≤ maxLen := grownCap_le_maxLen w (n + s.size) old e hmm
    have hb := heap_alloc_new w.drew (.cells (xs.toArray ++ (bvs s.data.toList).toArray ++ Builtin.zeroCells (Value.int .u8 0).cells (grownCap w (n + s.size) old e - (n + s.size))) e)
    have hsz : (xs.toArray ++ (bvs s.data.toList).toArray ++ Builtin.zeroCells (Value.int .u8 0).cells (grownCap w (n + s.size) old e - (n + s.size))).size = grownCap w (n + s.size) old e * 1 := by
      simp only [Array.size_append, List.size_toArray, size_zeroCells, hzc, hxl, hsl]
      omega
    refine ⟨⟨hlen, .inr ⟨w.heap.size, 0, _, rfl, hge, hcm, by simp, ?_, ?_⟩⟩, ((Upd.refl _ w).drew).alloc _⟩
    · have hb2 : (w.drew.alloc (.cells (xs.toArray ++ (bvs s.data.toList).toArray ++ Builtin.zeroCells (Value.int .u8 0).cells (grownCap w (n + s.size) old e - (n + s.size))) e)).heap[w.heap.size]? = some (.cells (xs.toArray ++ (bvs s.data.toList).toArray ++ Builtin.zeroCells (Value.int .u8 0).cells (grownCap w (n + s.size) old e - (n + s.size))).toList.toArray e (0, 0)) := by rw [Array.toArray_toList]; exact hb
      refine rangeAt_of_row hb2 ?_
      simp only [Array.toList_append, List.drop_zero]
      exact List.take_left
    · refine there_of_row hb ?_
      rw [hsz, Nat.zero_add, ← Nat.add_mul]
      exact Nat.mul_le_mul_right _ (by omega)
  have e1 : (s.data.map fun b => Value.int .u8 b.toNat) = (bvs s.data.toList).toArray := by
    apply Array.ext'
    simp [bvs, bv]
  rcases hown.2 with ⟨rfl, rfl⟩ | ⟨g, off', cap, rfl, hnc, hcm, hgs, hrg, htr⟩
  · have hxs : xs = [] := List.eq_nil_of_length_eq_zero (by simpa using hown.1)
    subst hxs
    by_cases hm : s.size = 0
    · have hn : bvs s.data.toList = [] := List.eq_nil_of_length_eq_zero (by rw [hsl]; exact hm)
      have hf := Lib.run_firstCells_string (P := P) w 1 s
      rw [hm] at hf
      refine ⟨none, 0, w, ?_, by rw [hm, hn]; exact Mid.nil w 1, Upd.refl _ _, .inl (by rw [hm])⟩
      simp [Builtin.append_, run_underlying hu, run_underlying hs, sizeOf, typeInfo, hi, hz1, Builtin.lenOf, hm, hf]
    · have hr := run_append_nil_string (P := P) w t u ty e i (.int .u8 0) hu hs hi hz s (by omega) (by omega) (by rw [hz2]; omega)
      obtain ⟨g1, g2⟩ := grown 0
      simp only [Nat.zero_add, List.nil_append, Array.empty_append] at g1 g2 ⊢
      rw [e1] at hr
      exact ⟨_, _, _, hr, g1, g2, .inr rfl⟩
  · by_cases hroom : n + s.size ≤ cap
    · have hst := run_storeCells_set (P := P) g (off' + n) (bvs s.data.toList) w (fun j hj => by
        have := htr j (by rw [hsl] at hj; omega)
        rwa [Nat.mul_one] at this) (bvs_one _)
      have hf := Lib.run_firstCells_string (P := P) w 1 s
      rw [strCells_bvs] at hf
      have hrun : (Builtin.append_ #[t, u] ty #[.slice (some ⟨g, off', none⟩) n cap, .string s]).run P w = .ok (.slice (some ⟨g, off', none⟩) (n + s.size) cap) (w.setCells g (off' + n) (bvs s.data.toList)) := by
        simp [Builtin.append_, run_underlying hu, run_underlying hs, sizeOf, typeInfo, hi, hz1, Builtin.lenOf, hroom, hf, Addr.add_mid, hst]
      refine ⟨_, _, _, hrun, ⟨hlen, .inr ⟨g, off', cap, rfl, hroom, hcm, by rw [size_setCells]; exact hgs, ?_, ?_⟩⟩, upd_setCells g _ _ (Upd.refl _ w) (.inl rfl), .inl rfl⟩
      · refine rangeAt_append (World.rangeAt_setCells_apart hrg g _ _ (.inr (.inl (by rw [hxl]; exact Nat.le_refl _)))) ?_
        rw [hxl]
        exact World.rangeAt_setCells_same w g _ _ (fun j hj => by
          have := htr j (by rw [hsl] at hj; omega)
          rwa [Nat.mul_one] at this)
      · refine World.there_setCells ?_ g _ _
        intro j hj
        have := htr (s.size + j) (by omega)
        rwa [show off' + n * 1 + (s.size + j) = off' + (n + s.size) * 1 + j by omega] at this
    · have holds : ∀ j u, xs[j]? = some u → w.cell? ((⟨g, off', none⟩ : Addr).add j) = some u := fun j u hj => by rw [Addr.add_mid]; exact hrg j u hj
      have hr := Lib.run_append_grow_string (P := P) w t u ty e i (.int .u8 0) hu hs hi hz ⟨g, off', none⟩ n cap xs (by rw [hz1]; simpa using hxl) holds s (by omega) (by omega) (by rw [hz2]; exact growslice_fits (by omega) (by omega))
      obtain ⟨g1, g2⟩ := grown cap
      rw [strCells_bvs] at hr
      exact ⟨_, _, _, hr, g1, g2, .inr rfl⟩
theorem wp_append_mid_str {x y : Operand} {t u : TypeId} (e : TypeId) (v : Value) (n : Nat) (xs : List Value) (s : ByteArray)
    (hu : P.underlying t = some (.slice e)) (hs : P.underlying u = some .string) (hinfo : (P.info? e).map (fun i => (i.zero, i.size, i.bytes)) = some (some (.int .u8 0), 1, 1))
    (hx : a.eval x = v) (hy : a.eval y = .string s) (hown : Mid w 1 v n xs) (h63 : n + s.size ≤ 140737488355328)
    (h : ∀ x' c' w', Mid w' 1 (.slice x' (n + s.size) c') (n + s.size) (xs ++ bvs s.data.toList) → Upd (fun k => v.ownBlock = some k) w w' → ((Value.slice x' (n + s.size) c').ownBlock = v.ownBlock ∨ (Value.slice x' (n + s.size) c').ownBlock = some w.heap.size) →
      K (a.put dst (.slice x' (n + s.size) c')) w') : (⟨dst, .call { callee := .builtin .append, args := #[x, y], argTypes := #[t, u] }, ty, pos, aft, none⟩ : Oper).wp P a w K Q := by
  obtain ⟨x', c', w', hr, h2, h3, h4⟩ := run_append_mid_str (P := P) w t u ty e hu hs hinfo v n xs hown s h63
  unfold Oper.wp execOp
  simp only [resolve, invoke, builtin, Sem.run_bind, Sem.run_pure, Result.andThen_ok, List.map_toArray, List.map_cons, List.map_nil, hx, hy, hr]
  exact h x' c' w' h2 h3 h4
theorem wpl_append_mid_str {x y : Operand} {t u : TypeId} (e : TypeId) (v : Value) (n : Nat) (xs : List Value) (s : ByteArray)
    (hu : P.underlying t = some (.slice e)) (hs : P.underlying u = some .string) (hinfo : (P.info? e).map (fun i => (i.zero, i.size, i.bytes)) = some (some (.int .u8 0), 1, 1))
    (hx : a.eval x = v) (hy : a.eval y = .string s) (hown : Mid w 1 v n xs) (h63 : n + s.size ≤ 140737488355328)
    (h : ∀ x' c' w', Mid w' 1 (.slice x' (n + s.size) c') (n + s.size) (xs ++ bvs s.data.toList) → Upd (fun k => v.ownBlock = some k) w w' → ((Value.slice x' (n + s.size) c').ownBlock = v.ownBlock ∨ (Value.slice x' (n + s.size) c').ownBlock = some w.heap.size) →
      wpList P ops Q rest (a.put dst (.slice x' (n + s.size) c')) w') : wpList P ops Q (⟨dst, .call { callee := .builtin .append, args := #[x, y], argTypes := #[t, u] }, ty, pos, aft, none⟩ :: rest) a w :=
  wpList_plain rfl fun _ hK => wp_append_mid_str e v n xs s hu hs hinfo hx hy hown h63 fun x' c' w' h2 h3 h4 => hK _ _ (h x' c' w' h2 h3 h4)
end
end Go.Proofs.Ytocameknhglklaa
