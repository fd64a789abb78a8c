/- Laws of single operations, over whatever program. -/
import Derived.Test.YtocameknhglklaaMem
import Derived.Test.YtocameknhglklaaRegion
import Derived.Great.BuildSlice
import Derived.Great.FillDense
import Derived.Deep.WholeRow
import Derived.Deep.AppendLies
import Derived.Lib.AppendStr
namespace Go.Proofs.Ytocameknhglklaa
open Go Go.RowKit

section
variable {P : Program} {ops : Array Oper} {Q : Exit → Act → World → Prop} {rest : List Oper} {dst : Option Tmp} {ty : TypeId} {pos : String} {aft : Array Edge} {a : Act} {w : World} {K : Act → World → Prop} {next : Act → Prop}

/-! Build a value, of one part. -/
theorem wp_build1 {t : TypeId} {k : Nat} {x : Operand} (u v : Value) (hx : a.eval x = u) (hr : ∀ w, (Instr.build t #[(k, u)]).run P w = .ok v w) (h : K (a.put dst v) w) : (⟨dst, .build t #[(k, x)], ty, pos, aft, none⟩ : Oper).wp P a w K Q := by
  subst hx
  unfold Oper.wp execOp
  simp only [List.map_toArray, List.map_cons, List.map_nil, Sem.run_bind, hr, Result.andThen_ok, Sem.run_pure]
  exact h
theorem wpl_build1 {t : TypeId} {k : Nat} {x : Operand} (u v : Value) (hx : a.eval x = u) (hr : ∀ w, (Instr.build t #[(k, u)]).run P w = .ok v w) (h : wpList P ops Q rest (a.put dst v) w) : wpList P ops Q (⟨dst, .build t #[(k, x)], ty, pos, aft, none⟩ :: rest) a w :=
  wpList_plain rfl fun _ hK => wp_build1 u v hx hr (hK _ _ h)
theorem gives_build1 {t : TypeId} {k : Nat} {x : Operand} (u v : Value) (hx : a.eval x = u) (hr : ∀ w, (Instr.build t #[(k, u)]).run P w = .ok v w) (h : next (a.put dst v)) : Oper.gives P (⟨dst, .build t #[(k, x)], ty, pos, aft, none⟩ : Oper) a w next := by
  subst hx
  unfold Oper.gives execOp
  simp only [List.map_toArray, List.map_cons, List.map_nil, Sem.run_bind, hr, Result.andThen_ok, Sem.run_pure, Oper.givesUpon_value]
  exact h

/-! A new variable. -/
theorem wp_alloc {t : TypeId} (z : Value) (hz : (P.info? t).map (·.zero) = some (some z))
    (h : K (a.put dst (.pointer (some ⟨w.heap.size, 0, none⟩))) (w.alloc (.cells z.cells t))) : (⟨dst, .alloc t, ty, pos, aft, none⟩ : Oper).wp P a w K Q := by
  unfold Oper.wp execOp
  cases hq : P.info? t with
  | none => simp [hq] at hz
  | some i =>
    have hzz : i.zero = some z := by simpa [hq] using hz
    simp only [Instr.alloc, zeroValue, typeInfo, Sem.run_bind, Sem.run_pure]
    simp [hq, hzz, newVar, newRow]
    exact h
theorem wpl_alloc {t : TypeId} (z : Value) (hz : (P.info? t).map (·.zero) = some (some z))
    (h : wpList P ops Q rest (a.put dst (.pointer (some ⟨w.heap.size, 0, none⟩))) (w.alloc (.cells z.cells t))) : wpList P ops Q (⟨dst, .alloc t, ty, pos, aft, none⟩ :: rest) a w :=
  wpList_plain rfl fun _ hK => wp_alloc z hz (hK _ _ h)

/-- A whole value into the variable that was made last. -/
theorem wp_store_new {t : TypeId} {x y : Operand} (w0 : World) (c cells : Array Value) (hx : a.eval x = .pointer (some ⟨w0.heap.size, 0, none⟩)) (hy : a.eval y = .agg cells)
    (hi : (P.info? t).map (·.size) = some cells.size) (hc : c.size = cells.size) (h1 : cells.all (·.oneCell') = true)
    (h : K (a.put dst undef) (w0.alloc (.cells cells t))) : (⟨dst, .store t x y, ty, pos, aft, none⟩ : Oper).wp P a (w0.alloc (.cells c t)) K Q := by
  unfold Oper.wp execOp
  simp only [hx, hy, Sem.run_bind, run_storeAt_new w0 t c cells hi hc h1, Result.andThen_ok, Sem.run_pure]
  exact h
theorem wpl_store_new {t : TypeId} {x y : Operand} (w0 : World) (c cells : Array Value) (hx : a.eval x = .pointer (some ⟨w0.heap.size, 0, none⟩)) (hy : a.eval y = .agg cells)
    (hi : (P.info? t).map (·.size) = some cells.size) (hc : c.size = cells.size) (h1 : cells.all (·.oneCell') = true)
    (h : wpList P ops Q rest (a.put dst undef) (w0.alloc (.cells cells t))) : wpList P ops Q (⟨dst, .store t x y, ty, pos, aft, none⟩ :: rest) a (w0.alloc (.cells c t)) :=
  wpList_plain rfl fun _ hK => wp_store_new w0 c cells hx hy hi hc h1 (hK _ _ h)

/-! An array or a struct out of the middle of a block. -/
theorem gives_load_mid {t : TypeId} {x : Operand} (b off : Nat) (hx : a.eval x = .pointer (some ⟨b, off, none⟩)) (cs : List Value) (d : TypeDesc) (hc : w.rangeAt b off cs)
    (hu : P.underlying t = some d) (hd : d.isRow = true) (hi : (P.info? t).map (·.size) = some cs.length) (h : next (a.put dst (.agg cs.toArray))) : Oper.gives P (⟨dst, .load t x, ty, pos, aft, none⟩ : Oper) a w next := by
  unfold Oper.gives execOp
  simp only [hx, Sem.run_bind, run_loadAt_mid w b off t cs d hc hu hd hi, Result.andThen_ok, Sem.run_pure, Oper.givesUpon_value]
  exact h

theorem Sees.take {w : World} {size : Nat} {v : Value} {n : Nat} {xs : List Value} (h : Sees w size v n xs) (m : Nat) (hm : m ≤ n) :
    (Builtin.firstCells size m v).run P w = .ok (xs.take (m * size)).toArray w := by
  obtain ⟨hl, _, xo, c, rfl, hc⟩ := h
  by_cases h0 : m = 0
  · subst h0
    cases xo <;> simp [Builtin.firstCells, loadCells, loadCellsFrom]
  · obtain ⟨b, off, rfl, hr⟩ := hc (by omega)
    refine run_firstCells_some w size m ⟨b, off, none⟩ n c (xs.take (m * size)) ?_ fun j v hj => ?_
    · rw [List.length_take, hl]
      exact Nat.min_eq_left (Nat.mul_le_mul_right _ hm)
    · rw [Addr.add_mid]
      refine hr j v ?_
      rw [List.getElem?_take] at hj
      split at hj
      · exact hj
      · cases hj
theorem Sees.len {w : World} {size : Nat} {v : Value} {n : Nat} {xs : List Value} (h : Sees w size v n xs) : (Builtin.lenOf v).run P w = .ok n w := by
  obtain ⟨_, _, xo, c, rfl, _⟩ := h
  simp [Builtin.lenOf]

/-! A slice written out, of one element. -/
theorem run_buildSlice_one (w : World) (t e : TypeId) (v : Value) (ie : TypeInfo) (z : Value) (hu : P.underlying t = some (.slice e)) (hie : P.info? e = some ie) (hz : ie.zero = some z)
    (hpos : 0 < ie.size) (hsmall : ie.size ≤ 16777216) (hv : v.cells.size = ie.size) :
    (Instr.buildSlice t 1 #[(0, v)]).run P w = .ok (.slice (some ⟨w.heap.size, 0, none⟩) 1 1) (w.alloc (.cells v.cells e)) := by
  refine run_buildSlice w t e 1 #[(0, v)] v.cells ie z hu hie hz (by omega) (by omega) ?_
  have h := Great.fill_whole hpos [v] ((Array.range (1 * ie.size)).map (z.cells[· % z.cells.size]!)) (fun x hx => by simp at hx; rw [hx]; exact hv) (by simp)
  simpa using h
theorem wp_buildSlice_one {t : TypeId} {x : Operand} (e : TypeId) (size bytes : Nat) (z v : Value) (hu : P.underlying t = some (.slice e)) (hinfo : (P.info? e).map (fun i => (i.zero, i.size, i.bytes)) = some (some z, size, bytes))
    (hpos : 0 < size) (hsmall : size ≤ 16777216) (hx : a.eval x = v) (hv : v.cells.size = size)
    (h : K (a.put dst (.slice (some ⟨w.heap.size, 0, none⟩) 1 1)) (w.alloc (.cells v.cells e))) : (⟨dst, .buildSlice t 1 #[(0, x)], ty, pos, aft, none⟩ : Oper).wp P a w K Q := by
  obtain ⟨ie, hie, hz, hz1, _⟩ := info_parts hinfo
  subst hz1
  unfold Oper.wp execOp
  subst hx
  simp only [Sem.run_bind, List.map_toArray, List.map_cons, List.map_nil, run_buildSlice_one w t e _ ie z hu hie hz hpos hsmall hv, Result.andThen_ok, Sem.run_pure]
  exact h

/-! append onto a row of one's own. -/
theorem run_append_sees (w : World) (base : Nat) (t ty e : TypeId) (size bytes : Nat) (z : Value) (hu : P.underlying t = some (.slice e)) (hinfo : (P.info? e).map (fun i => (i.zero, i.size, i.bytes)) = some (some z, size, bytes))
    (hzs : z.cells.size = size) (hpos : 0 < size) (v : Value) (n : Nat) (xs : List Value) (hown : w.ownsRow base e size v n xs) (x : Value) (m : Nat) (news : List Value) (hx : Sees w size x m news) (h1 : ∀ u ∈ news, u.oneCell' = true)
    (h63 : n + m ≤ maxLen) (hbytes : (n + m) * bytes ≤ 140737488355328) (hbase : base ≤ w.heap.size) :
    ∃ x' c' w', (Builtin.append_ #[t, t] ty #[v, x]).run P w = .ok (.slice x' (n + m) c') w' ∧ w'.ownsRow base e size (.slice x' (n + m) c') (n + m) (xs ++ news) ∧ w.grownBy w' v.ownBlock ∧
      ((Value.slice x' (n + m) c').ownBlock = v.ownBlock ∨ (Value.slice x' (n + m) c').ownBlock = some w.heap.size) := by
  obtain ⟨i, hi, hz, hz1, hz2⟩ := info_parts hinfo
  obtain ⟨hl, _, xo, c, rfl, hc⟩ := hx
  cases xo with
  | none =>
    have h0 : m = 0 := by
      rcases Nat.eq_zero_or_pos m with h | h
      · exact h
      · obtain ⟨_, _, e, _⟩ := hc h; cases e
    subst h0
    have hn : news = [] := List.eq_nil_of_length_eq_zero (by simpa using hl)
    subst hn
    obtain ⟨x', c', rfl⟩ := (sees_of_row hown).2.2 |> fun ⟨x', c', e, _⟩ => (⟨x', c', e⟩ : ∃ x' c', v = Value.slice x' n c')
    have hr := run_append_owned_none (P := P) w base t ty e i size hu hi _ n xs hown
    have hr2 : (Builtin.append_ #[t, t] ty #[.slice x' n c', .slice none 0 c]).run P w = .ok (.slice x' n c') w := hr
    exact ⟨x', c', w, hr2, by simpa using hown, ⟨rfl, rfl, rfl, Nat.le_refl _, fun _ _ _ => rfl⟩, .inl rfl⟩
  | some ad =>
    obtain ⟨v', w', hr, h2, h3, _, h5⟩ := run_append_own_at (P := P) w base t ty e i z size bytes hu hi hz hz1 hz2 hzs hpos v n xs hown ad m c news hl
      (fun j u hj => by
        have hm0 : 0 < m := by
          rcases Nat.eq_zero_or_pos m with h | h
          · subst h
            have hn : news = [] := List.eq_nil_of_length_eq_zero (by simpa using hl)
            rw [hn] at hj; cases hj
          · exact h
        obtain ⟨b, off, e, hr⟩ := hc hm0
        cases e
        rw [Addr.add_mid]; exact hr j u hj) h1 h63 hbytes hbase
    obtain ⟨x', c', rfl⟩ := (sees_of_row h2).2.2 |> fun ⟨x', c', e, _⟩ => (⟨x', c', e⟩ : ∃ x' c', v' = Value.slice x' (n + m) c')
    exact ⟨x', c', w', hr, h2, h3, h5⟩
theorem wp_append_sees {s x : Operand} {t : TypeId} (base : Nat) (e : TypeId) (size bytes : Nat) (z : Value) (v : Value) (n : Nat) (xs : List Value) (m : Nat) (news : List Value)
    (hu : P.underlying t = some (.slice e)) (hinfo : (P.info? e).map (fun i => (i.zero, i.size, i.bytes)) = some (some z, size, bytes)) (hzs : z.cells.size = size) (hpos : 0 < size)
    (hs : a.eval s = v) (hown : w.ownsRow base e size v n xs) (hx : Sees w size (a.eval x) m news) (h1 : ∀ u ∈ news, u.oneCell' = true)
    (h63 : n + m ≤ maxLen) (hbytes : (n + m) * bytes ≤ 140737488355328) (hbase : base ≤ w.heap.size)
    (h : ∀ x' c' w', w'.ownsRow base e size (.slice x' (n + m) c') (n + m) (xs ++ news) → w.grownBy w' v.ownBlock → ((Value.slice x' (n + m) c').ownBlock = v.ownBlock ∨ (Value.slice x' (n + m) c').ownBlock = some w.heap.size) →
      K (a.put dst (.slice x' (n + m) c')) w') : (⟨dst, .call { callee := .builtin .append, args := #[s, x], argTypes := #[t, t] }, ty, pos, aft, none⟩ : Oper).wp P a w K Q := by
  obtain ⟨x', c', w', hr, h2, h3, h4⟩ := run_append_sees (P := P) w base t ty e size bytes z hu hinfo hzs hpos v n xs hown (a.eval x) m news hx h1 h63 hbytes hbase
  unfold Oper.wp execOp
  simp only [resolve, invoke, builtin, Sem.run_bind, Sem.run_pure, Result.andThen_ok, List.map_toArray, List.map_cons, List.map_nil, hs, hr]
  exact h x' c' w' h2 h3 h4
theorem wpl_append_sees {s x : Operand} {t : TypeId} (base : Nat) (e : TypeId) (size bytes : Nat) (z : Value) (v : Value) (n : Nat) (xs : List Value) (m : Nat) (news : List Value)
    (hu : P.underlying t = some (.slice e)) (hinfo : (P.info? e).map (fun i => (i.zero, i.size, i.bytes)) = some (some z, size, bytes)) (hzs : z.cells.size = size) (hpos : 0 < size)
    (hs : a.eval s = v) (hown : w.ownsRow base e size v n xs) (hx : Sees w size (a.eval x) m news) (h1 : ∀ u ∈ news, u.oneCell' = true)
    (h63 : n + m ≤ maxLen) (hbytes : (n + m) * bytes ≤ 140737488355328) (hbase : base ≤ w.heap.size)
    (h : ∀ x' c' w', w'.ownsRow base e size (.slice x' (n + m) c') (n + m) (xs ++ news) → w.grownBy w' v.ownBlock → ((Value.slice x' (n + m) c').ownBlock = v.ownBlock ∨ (Value.slice x' (n + m) c').ownBlock = some w.heap.size) →
      wpList P ops Q rest (a.put dst (.slice x' (n + m) c')) w') : wpList P ops Q (⟨dst, .call { callee := .builtin .append, args := #[s, x], argTypes := #[t, t] }, ty, pos, aft, none⟩ :: rest) a w :=
  wpList_plain rfl fun _ hK => wp_append_sees base e size bytes z v n xs m news hu hinfo hzs hpos hs hown hx h1 h63 hbytes hbase fun x' c' w' h2 h3 h4 => hK _ _ (h x' c' w' h2 h3 h4)

/-! Blocks behind stores of many cells. -/
theorem heap_setCells_same (g : Nat) (t : TypeId) : ∀ (vs : List Value) (off : Nat) (cur : List Value) (w : World), w.heap[g]? = some (.cells cur.toArray t (0, 0)) → off + vs.length ≤ cur.length →
    (w.setCells g off vs).heap[g]? = some (.cells (splice cur off vs).toArray t (0, 0))
  | [], off, cur, w, hg, _ => by simp [World.setCells, splice, hg]
  | v :: r, off, cur, w, hg, hl => by
    simp only [List.length_cons] at hl
    rw [World.setCells]
    have h1 := heap_setCell_same w g off cur.toArray t v hg
    have h2 := heap_setCells_same g t r (off + 1) (cur.set off v) _ (by rw [h1]; simp) (by simp; omega)
    rw [h2]
    congr 2
    simp only [splice]
    congr 1
    rw [List.take_succ_eq_append_getElem (by simp; omega), List.take_set_of_le (Nat.le_refl _), List.append_assoc, List.drop_set]
    simp
    rw [if_pos (by omega)]
    congr 1; omega
theorem heap_setCells_other (g : Nat) : ∀ (vs : List Value) (off : Nat) (w : World) (k : Nat), k ≠ g → (w.setCells g off vs).heap[k]? = w.heap[k]?
  | [], _, _, _, _ => rfl
  | v :: r, off, w, k, hk => by
    rw [World.setCells, heap_setCells_other g r (off + 1) _ k hk]
    exact heap_setCell_other w ⟨g, off, none⟩ k v hk
theorem size_setCells (g : Nat) : ∀ (vs : List Value) (off : Nat) (w : World), (w.setCells g off vs).heap.size = w.heap.size
  | [], _, _ => rfl
  | v :: r, off, w => by rw [World.setCells, size_setCells g r]; simp
theorem upd_setCells (g : Nat) : ∀ (vs : List Value) (off : Nat) {F : Nat → Prop} {a w : World}, Upd F a w → (F g ∨ a.heap.size ≤ g) → Upd F a (w.setCells g off vs)
  | [], _, _, _, _, h, _ => h
  | v :: r, off, _, _, _, h, hp => upd_setCells g r (off + 1) (h.setCell v hp) hp

theorem run_storeCells_set (g o : Nat) (vs : List Value) (w : World) (ht : w.there g o vs.length) (h1 : ∀ v ∈ vs, v.oneCell' = true) :
    (storeCells ⟨g, o, none⟩ vs).run P w = .ok () (w.setCells g o vs) := by
  have h := run_storeCells_cells (P := P) g o vs 0 w (fun j hj => by rw [Nat.add_zero]; exact (ht j hj).1) (fun j hj => by rw [Nat.add_zero]; exact (ht j hj).2) h1
  simpa using h

/-! copy into cells that are there. -/
theorem run_copy_sees (w : World) (dT sT ty elem : TypeId) (g off dLen dCap : Nat) (v : Value) (size n : Nat) (xs : List Value) (hu : P.underlying dT = some (.slice elem)) (hs : (P.info? elem).map (·.size) = some size)
    (hv : Sees w size v n xs) (ht : w.there g off (min n dLen * size)) (h1 : ∀ u ∈ xs, u.oneCell' = true) :
    (Builtin.copy_ #[dT, sT] ty #[.slice (some ⟨g, off, none⟩) dLen dCap, v]).run P w = .ok (goInt (min n dLen : Nat)) (w.setCells g off (xs.take (min n dLen * size))) := by
  cases hq : P.info? elem with
  | none => simp [hq] at hs
  | some i =>
    have hi : i.size = size := by simpa [hq] using hs
    have hm : Nat.min n dLen = min n dLen := rfl
    have hl : (xs.take (min n dLen * size)).length = min n dLen * size := by
      rw [List.length_take, hv.1]; exact Nat.min_eq_left (Nat.mul_le_mul_right _ (Nat.min_le_left _ _))
    have hst := run_storeCells_set (P := P) g off (xs.take (min n dLen * size)) w (by rw [hl]; exact ht) (fun u hu => h1 u (List.mem_of_mem_take hu))
    simp [Builtin.copy_, run_underlying hu, hv.len, sizeOf, typeInfo, hq, hi, hm, hv.take (P := P) (min n dLen) (Nat.min_le_left _ _), hst]
theorem wp_copy_sees {d s : Operand} {dT sT : TypeId} (elem : TypeId) (hu : P.underlying dT = some (.slice elem)) (size : Nat) (hs : (P.info? elem).map (·.size) = some size)
    (g off dLen dCap : Nat) (hd : a.eval d = .slice (some ⟨g, off, none⟩) dLen dCap) (n : Nat) (xs : List Value) (hv : Sees w size (a.eval s) n xs) (ht : w.there g off (min n dLen * size)) (h1 : ∀ u ∈ xs, u.oneCell' = true)
    (h : K (a.put dst (.int .i64 (min n dLen : Nat))) (w.setCells g off (xs.take (min n dLen * size)))) : (⟨dst, .call { callee := .builtin .copy, args := #[d, s], argTypes := #[dT, sT] }, ty, pos, aft, none⟩ : Oper).wp P a w K Q := by
  unfold Oper.wp execOp
  simp only [resolve, invoke, builtin, Sem.run_bind, Sem.run_pure, Result.andThen_ok, List.map_toArray, List.map_cons, List.map_nil, hd, run_copy_sees w dT sT ty elem g off dLen dCap _ size n xs hu hs hv ht h1]
  exact h
theorem wpl_copy_sees {d s : Operand} {dT sT : TypeId} (elem : TypeId) (hu : P.underlying dT = some (.slice elem)) (size : Nat) (hs : (P.info? elem).map (·.size) = some size)
    (g off dLen dCap : Nat) (hd : a.eval d = .slice (some ⟨g, off, none⟩) dLen dCap) (n : Nat) (xs : List Value) (hv : Sees w size (a.eval s) n xs) (ht : w.there g off (min n dLen * size)) (h1 : ∀ u ∈ xs, u.oneCell' = true)
    (h : wpList P ops Q rest (a.put dst (.int .i64 (min n dLen : Nat))) (w.setCells g off (xs.take (min n dLen * size)))) : wpList P ops Q (⟨dst, .call { callee := .builtin .copy, args := #[d, s], argTypes := #[dT, sT] }, ty, pos, aft, none⟩ :: rest) a w :=
  wpList_plain rfl fun _ hK => wp_copy_sees elem hu size hs g off dLen dCap hd n xs hv ht h1 (hK _ _ h)

theorem there_of_row {w : World} {g : Nat} {c : Array Value} {t : TypeId} (h : w.heap[g]? = some (.cells c t (0, 0))) {off n : Nat} (hn : off + n ≤ c.size) : w.there g off n := fun j hj => by
  rw [cell_of_row w g (off + j) c t (0, 0) h, frozen_of_row w g (off + j) c t h]
  simp; omega
theorem rangeAt_of_row {w : World} {g : Nat} {c : List Value} {t : TypeId} {fr : Nat × Nat} (h : w.heap[g]? = some (.cells c.toArray t fr)) {off : Nat} {xs : List Value} (hx : (c.drop off).take xs.length = xs) : w.rangeAt g off xs := fun j v hj => by
  rw [cell_of_row w g (off + j) c.toArray t fr h]
  rw [← hx, List.getElem?_take] at hj
  split at hj
  · simpa [List.getElem?_drop] using hj
  · cases hj
theorem Upd.range {F : Nat → Prop} {w w' : World} (h : Upd F w w') {b off : Nat} {xs : List Value} (hr : w.rangeAt b off xs) (hf : ¬ F b) : w'.rangeAt b off xs :=
  fun j v hj => h.cell_some (hr j v hj) hf
theorem Sees.upd {F : Nat → Prop} {w w' : World} (hu : Upd F w w') {size : Nat} {v : Value} {n : Nat} {xs : List Value} (h : Sees w size v n xs) (hf : ∀ k, v.ownBlock = some k → 0 < n → ¬ F k) : Sees w' size v n xs := by
  obtain ⟨hl, hm, xo, c, rfl, hc⟩ := h
  refine ⟨hl, hm, xo, c, rfl, fun h0 => ?_⟩
  obtain ⟨b, off, rfl, hr⟩ := hc h0
  exact ⟨b, off, rfl, hu.range hr (hf b rfl h0)⟩

theorem setCells_alloc (w : World) (t : TypeId) : ∀ (vs : List Value) (off : Nat) (c : List Value), off + vs.length ≤ c.length →
    (w.alloc (.cells c.toArray t)).setCells w.heap.size off vs = w.alloc (.cells (splice c off vs).toArray t)
  | [], off, c, _ => by simp [World.setCells, splice]
  | v :: r, off, c, hl => by
    simp only [List.length_cons] at hl
    rw [World.setCells, World.setCell_alloc_new, show c.toArray.setIfInBounds off v = (c.set off v).toArray from by simp, setCells_alloc w t r (off + 1) (c.set off v) (by simp; omega)]
    congr 3
    simp only [splice]
    rw [List.take_succ_eq_append_getElem (by simp; omega), List.take_set_of_le (Nat.le_refl _), List.append_assoc, List.drop_set]
    simp
    rw [if_pos (by omega)]
    congr 1; omega
theorem Sees.shape {w : World} {size : Nat} {v : Value} {n : Nat} {xs : List Value} (h : Sees w size v n xs) : ∃ x c, v = .slice x n c := by
  obtain ⟨_, _, xo, c, rfl, _⟩ := h
  exact ⟨xo, c, rfl⟩

/-! Rows of equal pieces. -/
theorem flat_length {α β : Type} (f : α → List β) (c : Nat) : ∀ (l : List α), (∀ x ∈ l, (f x).length = c) → (l.flatMap f).length = l.length * c
  | [], _ => by simp
  | x :: r, h => by
    rw [List.flatMap_cons, List.length_append, flat_length f c r (fun y hy => h y (List.mem_cons_of_mem _ hy)), h x (List.mem_cons_self ..), List.length_cons, Nat.succ_mul, Nat.add_comm]
theorem flat_piece {α β : Type} (f : α → List β) (c : Nat) : ∀ (l : List α) (k : Nat) (hk : k < l.length), (∀ x ∈ l, (f x).length = c) → ((l.flatMap f).drop (k * c)).take c = f l[k]
  | x :: r, 0, _, h => by
    rw [List.flatMap_cons, Nat.zero_mul, List.drop_zero, List.take_append_of_le_length (by rw [h x (List.mem_cons_self ..)]; exact Nat.le_refl _)]
    exact List.take_of_length_le (by rw [h x (List.mem_cons_self ..)]; exact Nat.le_refl _)
  | x :: r, k + 1, hk, h => by
    have hx := h x (List.mem_cons_self ..)
    rw [List.flatMap_cons, Nat.succ_mul, Nat.add_comm, ← hx, ← List.drop_drop, List.drop_left, hx]
    exact flat_piece f c r k (by simpa using hk) (fun y hy => h y (List.mem_cons_of_mem _ hy))
theorem flat_cell {α β : Type} (f : α → List β) (c : Nat) (l : List α) (h : ∀ x ∈ l, (f x).length = c) (k r : Nat) (hk : k < l.length) (hr : r < c) : (l.flatMap f)[k * c + r]? = (f l[k])[r]? := by
  rw [← flat_piece f c l k hk h, List.getElem?_take, if_pos hr, List.getElem?_drop]
theorem flat_set {α β : Type} (f : α → List β) (c : Nat) : ∀ (l : List α) (k : Nat) (y : α), k < l.length → (∀ x ∈ l, (f x).length = c) → (f y).length = c →
    splice (l.flatMap f) (k * c) (f y) = (l.set k y).flatMap f
  | x :: r, 0, y, _, h, hy => by
    have hx := h x (List.mem_cons_self ..)
    rw [List.flatMap_cons, List.set_cons_zero, List.flatMap_cons, splice, Nat.zero_mul, List.take_zero, List.nil_append, Nat.zero_add, hy, ← hx, List.drop_left]
  | x :: r, k + 1, y, hk, h, hy => by
    have hx := h x (List.mem_cons_self ..)
    have ih := flat_set f c r k y (by simpa using hk) (fun z hz => h z (List.mem_cons_of_mem _ hz)) hy
    rw [List.flatMap_cons, List.set_cons_succ, List.flatMap_cons, ← ih, splice, splice, Nat.succ_mul, Nat.add_comm (k * c) c, ← hx, List.take_length_add_append, Nat.add_assoc, List.drop_length_add_append, List.append_assoc]
theorem row_range {w : World} {base : Nat} {e : TypeId} {size : Nat} {g n cap : Nat} {xs : List Value} (hr : w.ownsRow base e size (.slice (some ⟨g, 0, none⟩) n cap) n xs) {off : Nat} {ys : List Value} (hy : (xs.drop off).take ys.length = ys) :
    w.rangeAt g off ys := by
  rcases hr.2 with ⟨h, _⟩ | ⟨g', cap', cur, h, _, hg, _, _, _, ht⟩
  · cases h
  · cases h
    intro j u hj
    rw [cell_of_row w g (off + j) cur e (0, 0) hg]
    rw [← hy, List.getElem?_take] at hj
    split at hj
    · rw [List.getElem?_drop, ← ht, List.getElem?_take] at hj
      split at hj
      · simpa using hj
      · cases hj
    · cases hj
theorem rangeAt.cell {w : World} {b off : Nat} {xs : List Value} (h : w.rangeAt b off xs) (j : Nat) {v : Value} (hj : xs[j]? = some v) : w.cell? ⟨b, off + j, none⟩ = some v := h j v hj
theorem rangeAt.sub {w : World} {b off : Nat} {xs : List Value} (h : w.rangeAt b off xs) (k : Nat) {ys : List Value} (hy : (xs.drop k).take ys.length = ys) : w.rangeAt b (off + k) ys := fun j u hj => by
  rw [Nat.add_assoc]
  refine h (k + j) u ?_
  rw [← hy, List.getElem?_take] at hj
  split at hj
  · rwa [List.getElem?_drop] at hj
  · cases hj
theorem take_splice {α : Type} (cur ys : List α) (m off : Nat) (h : off + ys.length ≤ m) (hm : m ≤ cur.length) : (splice cur off ys).take m = splice (cur.take m) off ys := by
  simp only [splice]
  rw [List.take_append, List.take_append, List.length_take, List.drop_take, Nat.min_eq_left (show off ≤ cur.length by omega), List.take_take, List.take_take, Nat.min_eq_right (show off ≤ m by omega), Nat.min_eq_left (show off ≤ m by omega)]
  rw [List.take_of_length_le (show ys.length ≤ m - off by omega), Nat.sub_sub]
/-- The first cell of a row. -/
theorem row_some {w : World} {base : Nat} {e : TypeId} {size n : Nat} {x : Option Addr} {c : Nat} {xs : List Value} (h : w.ownsRow base e size (.slice x n c) n xs) (hn : 0 < n) :
    ∃ g, x = some ⟨g, 0, none⟩ ∧ base ≤ g ∧ g < w.heap.size ∧ ∀ j v, xs[j]? = some v → w.cell? ⟨g, j, none⟩ = some v := by
  obtain ⟨g, cap, hv, hb, hg⟩ := h.form hn
  cases hv
  exact ⟨g, rfl, hb, hg, fun j v hj => by have := h.cells (g := g) rfl j v hj; rwa [Addr.add_lit, Nat.zero_add] at this⟩
/-- A load of an array or a struct. -/
theorem wpl_load_mid {t : TypeId} {x : Operand} (b off : Nat) (cs : List Value) (d : TypeDesc) (hx : a.eval x = .pointer (some ⟨b, off, none⟩)) (hc : w.rangeAt b off cs)
    (hu : P.underlying t = some d) (hd : d.isRow = true) (hi : (P.info? t).map (·.size) = some cs.length) (h : wpList P ops Q rest (a.put dst (.agg cs.toArray)) w) : wpList P ops Q (⟨dst, .load t x, ty, pos, aft, none⟩ :: rest) a w :=
  wpList_load_mid rfl t x rfl b off hx cs d hc hu hd hi h
/-- A store of an array or a struct. -/
theorem wp_store_mid' {t : TypeId} {x y : Operand} (b off : Nat) (cells : List Value) (hx : a.eval x = .pointer (some ⟨b, off, none⟩)) (hy : a.eval y = .agg cells.toArray) (ht : w.there b off cells.length)
    (hi : (P.info? t).map (·.size) = some cells.length) (h1 : ∀ u ∈ cells, u.oneCell' = true) (h : K (a.put dst undef) (w.setCells b off cells)) : (⟨dst, .store t x y, ty, pos, aft, none⟩ : Oper).wp P a w K Q :=
  wp_store_mid t x y rfl b off cells.toArray hx hy (by simpa using ht) (by simpa using hi) (all_oneCell_toArray h1) (by simpa using h)
end
end Go.Proofs.Ytocameknhglklaa
