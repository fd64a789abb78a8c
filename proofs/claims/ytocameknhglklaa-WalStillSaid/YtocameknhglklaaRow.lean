/- A slice anywhere in a block, with room behind it: append, and parts of it. No program here. -/
import Derived.Test.YtocameknhglklaaOps
namespace Go.Proofs.Ytocameknhglklaa
open Go Go.RowKit
set_option linter.unusedSimpArgs false

/-- The slice v (n elements of size cells) shows xs; what lies behind its length, up to its capacity, may be written. -/
def Mid (w : World) (size : Nat) (v : Value) (n : Nat) (xs : List Value) : Prop :=
  xs.length = n * size ∧ ((v = .slice none 0 0 ∧ n = 0) ∨ ∃ g off cap, v = .slice (some ⟨g, off, none⟩) n cap ∧ n ≤ cap ∧ cap ≤ maxLen ∧ g < w.heap.size ∧ w.rangeAt g off xs ∧ w.there g (off + n * size) ((cap - n) * size))
theorem Mid.nil (w : World) (size : Nat) : Mid w size (.slice none 0 0) 0 [] := ⟨by simp, .inl ⟨rfl, rfl⟩⟩
theorem Mid.sees {w : World} {size : Nat} {v : Value} {n : Nat} {xs : List Value} (h : Mid w size v n xs) : Sees w size v n xs := by
  obtain ⟨hl, ⟨rfl, rfl⟩ | ⟨g, off, cap, rfl, h1, h2, h3, h4, h5⟩⟩ := h
  · have : xs = [] := List.eq_nil_of_length_eq_zero (by simpa using hl)
    subst this
    exact Sees.zero _ _ _ _
  · exact Sees.at hl (by omega) h4
theorem Mid.lt {w : World} {size : Nat} {v : Value} {n : Nat} {xs : List Value} (h : Mid w size v n xs) : ∀ k, v.ownBlock = some k → k < w.heap.size := by
  obtain ⟨hl, ⟨rfl, rfl⟩ | ⟨g, off, cap, rfl, h1, h2, h3, h4, h5⟩⟩ := h
  · intro k hk; cases hk
  · intro k hk; cases hk; exact h3
theorem Upd.there {F : Nat → Prop} {w w' : World} (h : Upd F w w') {g off n : Nat} (ht : w.there g off n) (hf : ¬ F g) (hg : g < w.heap.size) : w'.there g off n := fun j hj => by
  have h1 := h.cell (a := ⟨g, off + j, none⟩) hg hf
  have h2 := h.frozen (a := ⟨g, off + j, none⟩) hg hf
  rw [h1, h2]
  exact ht j hj
theorem Mid.upd {F : Nat → Prop} {w w' : World} {size : Nat} {v : Value} {n : Nat} {xs : List Value} (h : Mid w size v n xs) (hu : Upd F w w') (hf : ∀ k, v.ownBlock = some k → ¬ F k) : Mid w' size v n xs := by
  obtain ⟨hl, ⟨rfl, rfl⟩ | ⟨g, off, cap, rfl, h1, h2, h3, h4, h5⟩⟩ := h
  · exact ⟨hl, .inl ⟨rfl, rfl⟩⟩
  · have := hf g rfl
    exact ⟨hl, .inr ⟨g, off, cap, rfl, h1, h2, Nat.lt_of_lt_of_le h3 hu.size, hu.range h4 this, hu.there h5 this h3⟩⟩
theorem mid_of_row {w : World} {base : Nat} {e : TypeId} {size : Nat} {v : Value} {n : Nat} {xs : List Value} (h : w.ownsRow base e size v n xs) : Mid w size v n xs := by
  obtain ⟨hl, h0 | ⟨g, cap, cur, rfl, hb, hg, hn, hc, hs, ht⟩⟩ := id h
  · exact ⟨hl, .inl h0⟩
  · refine ⟨hl, .inr ⟨g, 0, cap, rfl, hn, hc, lt_of_block hg, row_range h (by simp), ?_⟩⟩
    refine there_of_row hg ?_
    rw [hs, Nat.zero_add, ← Nat.add_mul]
    exact Nat.mul_le_mul_right _ (by omega)
/-- A constant's bytes: no room behind them. -/
theorem mid_full {w : World} {size b off n : Nat} {xs : List Value} (hl : xs.length = n * size) (hm : n ≤ maxLen) (hb : b < w.heap.size) (hr : w.rangeAt b off xs) : Mid w size (.slice (some ⟨b, off, none⟩) n n) n xs :=
  ⟨hl, .inr ⟨b, off, n, rfl, Nat.le_refl _, hm, hb, hr, fun j hj => by simp at hj⟩⟩

theorem rangeAt_append {w : World} {b off : Nat} {xs ys : List Value} (h1 : w.rangeAt b off xs) (h2 : w.rangeAt b (off + xs.length) ys) : w.rangeAt b off (xs ++ ys) := fun j v hj => by
  rw [List.getElem?_append] at hj
  split at hj
  · exact h1 j v hj
  · have := h2 _ v hj
    rw [Nat.add_assoc] at this
    rwa [show xs.length + (j - xs.length) = j by omega] at this

section
variable {P : Program} {ops : Array Oper} {Q : Exit → Act → World → Prop} {rest : List Oper} {dst : Option Tmp} {ty : TypeId} {pos : String} {aft : Array Edge} {a : Act} {w : World} {K : Act → World → Prop} {next : Act → Prop}

theorem run_append_mid (w : World) (t ty e : TypeId) (size bytes : Nat) (z : Value) (hu : P.underlying t = some (.slice e)) (hinfo : (P.info? e).map (fun i => (i.zero, i.size, i.bytes)) = some (some z, size, bytes))
    (hzs : z.cells.size = size) (v : Value) (n : Nat) (xs : List Value) (hown : Mid w size v n xs) (x : Value) (m : Nat) (news : List Value) (hx : Sees w size x m news) (h1 : ∀ u ∈ news, u.oneCell' = true)
    (h63 : n + m ≤ maxLen) (hbytes : (n + m) * bytes ≤ 140737488355328) :
    ∃ x' c' w', (Builtin.append_ #[t, t] ty #[v, x]).run P w = .ok (.slice x' (n + m) c') w' ∧ Mid w' size (.slice x' (n + m) c') (n + m) (xs ++ news) ∧ Upd (fun k => v.ownBlock = some k) w w' ∧
      ((Value.slice x' (n + m) c').ownBlock = v.ownBlock ∨ (Value.slice x' (n + m) c').ownBlock = some w.heap.size) := by
  obtain ⟨i, hi, hz, hz1, hz2⟩ := info_parts hinfo
  subst hz1
  subst hz2
  obtain ⟨hl, hmm, xo, c, rfl, hc⟩ := hx
  have hsmall : n + m ≤ 9223372036854775807 := by simp only [maxLen] at h63; omega
  have hlen : (xs ++ news).length = (n + m) * i.size := by rw [List.length_append, hown.1, hl, Nat.add_mul]
  have grown : ∀ (old : Nat), Mid (w.drew.alloc (.cells (xs.toArray ++ news.toArray ++ Builtin.zeroCells z.cells (grownCap w (n + m) old e - (n + m))) e)) i.size
        (.slice (some ⟨w.heap.size, 0, none⟩) (n + m) (grownCap w (n + m) old e)) (n + m) (xs ++ news) ∧
      Upd (fun k => v.ownBlock = some k) w (w.drew.alloc (.cells (xs.toArray ++ news.toArray ++ Builtin.zeroCells z.cells (grownCap w (n + m) old e - (n + m))) e)) := by
    intro old
    have hge := grownCap_ge w (n + m) old e
    have hcm : grownCap w (n + m) old e ≤ maxLen := grownCap_le_maxLen w (n + m) old e h63
    have hb := heap_alloc_new w.drew (.cells (xs.toArray ++ news.toArray ++ Builtin.zeroCells z.cells (grownCap w (n + m) old e - (n + m))) e)
    have hsz : (xs.toArray ++ news.toArray ++ Builtin.zeroCells z.cells (grownCap w (n + m) old e - (n + m))).size = grownCap w (n + m) old e * i.size := by
      simp only [Array.size_append, List.size_toArray, size_zeroCells, hzs, hown.1, hl, ← Nat.add_mul]
      congr 1
      omega
    refine ⟨⟨hlen, .inr ⟨w.heap.size, 0, _, rfl, hge, hcm, by simp, ?_, ?_⟩⟩, ((Upd.refl _ w).drew).alloc _⟩
    · have hb2 : (w.drew.alloc (.cells (xs.toArray ++ news.toArray ++ Builtin.zeroCells z.cells (grownCap w (n + m) old e - (n + m))) e)).heap[w.heap.size]? = some (.cells (xs.toArray ++ news.toArray ++ Builtin.zeroCells z.cells (grownCap w (n + m) old e - (n + m))).toList.toArray e (0, 0)) := by rw [Array.toArray_toList]; exact hb
      refine rangeAt_of_row hb2 ?_
      simp only [Array.toList_append, List.drop_zero]
      exact List.take_left
    · refine there_of_row hb ?_
      rw [hsz, Nat.zero_add, ← Nat.add_mul]
      exact Nat.mul_le_mul_right _ (by omega)
  have nothing : m = 0 → ∃ x' c' w', (Builtin.append_ #[t, t] ty #[v, .slice xo m c]).run P w = .ok (.slice x' (n + m) c') w' ∧ Mid w' i.size (.slice x' (n + m) c') (n + m) (xs ++ news) ∧ Upd (fun k => v.ownBlock = some k) w w' ∧
      ((Value.slice x' (n + m) c').ownBlock = v.ownBlock ∨ (Value.slice x' (n + m) c').ownBlock = some w.heap.size) := by
    intro h0
    subst h0
    have hn : news = [] := List.eq_nil_of_length_eq_zero (by simpa using hl)
    subst hn
    obtain ⟨x', c', rfl⟩ := hown.sees.shape
    refine ⟨x', c', w, ?_, by simpa using hown, Upd.refl _ _, .inl rfl⟩
    have hcn : n ≤ c' := by
      obtain ⟨_, ⟨h, _⟩ | ⟨g, off, cap, h, h1, _⟩⟩ := hown
      · cases h; omega
      · cases h; exact h1
    cases x' <;> cases xo <;> simp [Builtin.append_, run_underlying hu, sizeOf, typeInfo, hi, Builtin.lenOf, Builtin.firstCells, loadCells, loadCellsFrom, storeCells, hcn]
    all_goals
      obtain ⟨_, ⟨h, _⟩ | ⟨g, off, cap, h, h1, _⟩⟩ := hown <;> cases h
      simp_all
  by_cases h0 : m = 0
  · exact nothing h0
  obtain ⟨b, off, rfl, hr⟩ := hc (by omega)
  have hnews : ∀ j u, news[j]? = some u → w.cell? ((⟨b, off, none⟩ : Addr).add j) = some u := fun j u hj => by rw [Addr.add_mid]; exact hr j u hj
  rcases hown.2 with ⟨rfl, rfl⟩ | ⟨g, off', cap, rfl, hnc, hcm, hgs, hrg, htr⟩
  · have hxs : xs = [] := List.eq_nil_of_length_eq_zero (by simpa using hown.1)
    subst hxs
    have hr := run_append_nil (P := P) w t ty e i z hu hi hz ⟨b, off, none⟩ m c news hl hnews (by omega) (by omega) (by simp only [Nat.zero_add] at hbytes; omega)
    obtain ⟨g1, g2⟩ := grown 0
    simp only [Nat.zero_add, List.nil_append, Array.empty_append] at g1 g2 ⊢
    exact ⟨_, _, _, hr, g1, g2, .inr rfl⟩
  · by_cases hroom : n + m ≤ cap
    · have hst := run_storeCells_set (P := P) g (off' + n * i.size) news w (fun j hj => htr j (by rw [hl] at hj; exact Nat.lt_of_lt_of_le hj (Nat.mul_le_mul_right _ (by omega)))) h1
      have hf := run_firstCells_some (P := P) w i.size m ⟨b, off, none⟩ m c news hl hnews
      have hrun : (Builtin.append_ #[t, t] ty #[.slice (some ⟨g, off', none⟩) n cap, .slice (some ⟨b, off, none⟩) m c]).run P w = .ok (.slice (some ⟨g, off', none⟩) (n + m) cap) (w.setCells g (off' + n * i.size) news) := by
        simp [Builtin.append_, run_underlying hu, sizeOf, typeInfo, hi, Builtin.lenOf, hroom, hf, Addr.add_mid, hst]
      refine ⟨_, _, _, hrun, ⟨hlen, .inr ⟨g, off', cap, rfl, hroom, hcm, by rw [size_setCells]; exact hgs, ?_, ?_⟩⟩, upd_setCells g news _ (Upd.refl _ w) (.inl rfl), .inl rfl⟩
      · refine rangeAt_append (World.rangeAt_setCells_apart hrg g _ news (.inr (.inl (by rw [hown.1]; exact Nat.le_refl _)))) ?_
        rw [hown.1]
        exact World.rangeAt_setCells_same w g _ news (fun j hj => htr j (by rw [hl] at hj; exact Nat.lt_of_lt_of_le hj (Nat.mul_le_mul_right _ (by omega))))
      · refine World.there_setCells ?_ g _ news
        intro j hj
        have := htr (m * i.size + j) (by
          have e1 : (cap - n) * i.size = m * i.size + (cap - (n + m)) * i.size := by rw [← Nat.add_mul]; congr 1; omega
          omega)
        rwa [show off' + n * i.size + (m * i.size + j) = off' + (n + m) * i.size + j by rw [Nat.add_mul]; omega] at this
    · have holds : ∀ j u, xs[j]? = some u → w.cell? ((⟨g, off', none⟩ : Addr).add j) = some u := fun j u hj => by rw [Addr.add_mid]; exact hrg j u hj
      have hr := run_append_grow (P := P) w t ty e i z hu hi hz ⟨g, off', none⟩ n cap xs hown.1 holds ⟨b, off, none⟩ m c news hl hnews (by omega) (by omega) (growslice_fits (by omega) hbytes)
      obtain ⟨g1, g2⟩ := grown cap
      exact ⟨_, _, _, hr, g1, g2, .inr rfl⟩
theorem wp_append_mid {s x : Operand} {t : TypeId} (e : TypeId) (size bytes : Nat) (z : Value) (v : Value) (n : Nat) (xs : List Value) (m : Nat) (news : List Value)
    (hu : P.underlying t = some (.slice e)) (hinfo : (P.info? e).map (fun i => (i.zero, i.size, i.bytes)) = some (some z, size, bytes)) (hzs : z.cells.size = size)
    (hs : a.eval s = v) (hown : Mid w size v n xs) (hx : Sees w size (a.eval x) m news) (h1 : ∀ u ∈ news, u.oneCell' = true)
    (h63 : n + m ≤ maxLen) (hbytes : (n + m) * bytes ≤ 140737488355328)
    (h : ∀ x' c' w', Mid w' size (.slice x' (n + m) c') (n + m) (xs ++ news) → Upd (fun k => v.ownBlock = some k) w w' → ((Value.slice x' (n + m) c').ownBlock = v.ownBlock ∨ (Value.slice x' (n + m) c').ownBlock = some w.heap.size) →
      K (a.put dst (.slice x' (n + m) c')) w') : (⟨dst, .call { callee := .builtin .append, args := #[s, x], argTypes := #[t, t] }, ty, pos, aft, none⟩ : Oper).wp P a w K Q := by
  obtain ⟨x', c', w', hr, h2, h3, h4⟩ := run_append_mid (P := P) w t ty e size bytes z hu hinfo hzs v n xs hown (a.eval x) m news hx h1 h63 hbytes
  unfold Oper.wp execOp
  simp only [resolve, invoke, builtin, Sem.run_bind, Sem.run_pure, Result.andThen_ok, List.map_toArray, List.map_cons, List.map_nil, hs, hr]
  exact h x' c' w' h2 h3 h4
theorem wpl_append_mid {s x : Operand} {t : TypeId} (e : TypeId) (size bytes : Nat) (z : Value) (v : Value) (n : Nat) (xs : List Value) (m : Nat) (news : List Value)
    (hu : P.underlying t = some (.slice e)) (hinfo : (P.info? e).map (fun i => (i.zero, i.size, i.bytes)) = some (some z, size, bytes)) (hzs : z.cells.size = size)
    (hs : a.eval s = v) (hown : Mid w size v n xs) (hx : Sees w size (a.eval x) m news) (h1 : ∀ u ∈ news, u.oneCell' = true)
    (h63 : n + m ≤ maxLen) (hbytes : (n + m) * bytes ≤ 140737488355328)
    (h : ∀ x' c' w', Mid w' size (.slice x' (n + m) c') (n + m) (xs ++ news) → Upd (fun k => v.ownBlock = some k) w w' → ((Value.slice x' (n + m) c').ownBlock = v.ownBlock ∨ (Value.slice x' (n + m) c').ownBlock = some w.heap.size) →
      wpList P ops Q rest (a.put dst (.slice x' (n + m) c')) w') : wpList P ops Q (⟨dst, .call { callee := .builtin .append, args := #[s, x], argTypes := #[t, t] }, ty, pos, aft, none⟩ :: rest) a w :=
  wpList_plain rfl fun _ hK => wp_append_mid e size bytes z v n xs m news hu hinfo hzs hs hown hx h1 h63 hbytes fun x' c' w' h2 h3 h4 => hK _ _ (h x' c' w' h2 h3 h4)
end
end Go.Proofs.Ytocameknhglklaa
