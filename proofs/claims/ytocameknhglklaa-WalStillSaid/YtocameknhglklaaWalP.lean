/- wal: Open of a log. -/
import Derived.Test.YtocameknhglklaaWalO
import Derived.Deep.CutBlock
namespace Go.Proofs.Ytocameknhglklaa
open Go.RowKit
set_option linter.unusedSimpArgs false
set_option linter.unusedVariables false
set_option maxRecDepth 100000

theorem laid_get {S : List Bytes} {fr n : Nat} : ∀ (bs : List Batch) (a num : Nat), laid S fr n a num bs → ∀ (k : Nat) (hk : k < bs.length) (j : Nat), j < needB bs[k] → S[ringAt fr n (a + needsB (bs.take k) + j)]? = some (pad (chunk (encB (num + k) bs[k]) j))
  | b :: r, a, num, h, 0, hk, j, hj => by
    have := h.1 j hj
    simpa [needsB_nil] using this
  | b :: r, a, num, h, k + 1, hk, j, hj => by
    have := laid_get r _ _ h.2 k (by simpa using hk) j hj
    rw [List.take_succ_cons, needsB_cons, ← Nat.add_assoc, show num + (k + 1) = num + 1 + k by omega]
    exact this
theorem needsB_take_succ (bs : List Batch) (k : Nat) (hk : k < bs.length) : needsB (bs.take (k + 1)) = needsB (bs.take k) + needB bs[k] := by
  rw [List.take_succ_eq_append_getElem hk, needsB_append]; simp [needsB]
theorem needsB_take_le (bs : List Batch) (k : Nat) : needsB (bs.take k) ≤ needsB bs := by
  have h : needsB bs = needsB (bs.take k) + needsB (bs.drop k) := by rw [← needsB_append, List.take_append_drop]
  omega
theorem number_take_succ (bs : List Batch) (f k : Nat) (hk : k < bs.length) : number f (bs.take (k + 1)) = number f (bs.take k) ++ [(f + k, needB bs[k])] := by
  rw [List.take_succ_eq_append_getElem hk, number_append, List.length_take, Nat.min_eq_left (by omega)]; rfl
/-- The log while it is opened: k of its batches are told. -/
def LSt.part (fr n st fi sy : Nat) (bs : List Batch) (k : Nat) : LSt := ⟨fr, n, st, needsB (bs.take k), number fi (bs.take k), sy, sy, false⟩
theorem part_ok {S : List Bytes} {fr n st fi sy : Nat} {bs : List Batch} (h : Good S fr n st fi sy bs) (hm : S.length ≤ 4096) (k : Nat) : (LSt.part fr n st fi sy bs k).Ok := by
  have hle := needsB_take_le bs k
  have hf := h.fit
  refine ⟨h.two, by show fr + n ≤ 4096; omega, h.start, ?_, number_sum _ _, fun p hp => (number_mem _ _ p hp).1, fun p hp => ?_, h.big, Nat.le_refl _⟩
  · show needsB (bs.take k) ≤ n - 1
    have := h.need; omega
  · have h1 := (number_mem _ _ p hp).2.2
    have h2 := h.len
    have h3 : (bs.take k).length ≤ bs.length := by rw [List.length_take]; omega
    show p.1 ≤ sy
    omega
theorem infoSS : (Try.prog.info? 22).map (fun i => (i.zero, i.size, i.bytes)) = some (some (.slice none 0 0), 1, 24) := by kernel_rfl
/-- Values that show batches. -/
def RowsAt (w : World) (vs : List Value) (bs : List Batch) (A : Nat → Prop) : Prop :=
  vs.length = bs.length ∧ ∀ i (h1 : i < vs.length) (h2 : i < bs.length), Sees w 1 vs[i] bs[i].length (strsV bs[i]) ∧ (∀ k, vs[i].ownBlock = some k → 0 < bs[i].length → A k)
theorem RowsAt.upd {w w' : World} {vs : List Value} {bs : List Batch} {A F : Nat → Prop} (h : RowsAt w vs bs A) (hu : Upd F w w') (hA : ∀ k, A k → ¬ F k) : RowsAt w' vs bs A :=
  ⟨h.1, fun i h1 h2 => ⟨(h.2 i h1 h2).1.upd hu (fun k hk h0 => hA k ((h.2 i h1 h2).2 k hk h0)), (h.2 i h1 h2).2⟩⟩
theorem RowsAt.nil (w : World) (A : Nat → Prop) : RowsAt w [] [] A := ⟨rfl, fun i h1 _ => absurd h1 (Nat.not_lt_zero _)⟩
theorem RowsAt.snoc {w : World} {vs : List Value} {bs : List Batch} {A A' : Nat → Prop} (h : RowsAt w vs bs A) (v : Value) (b : Batch) (hv : Sees w 1 v b.length (strsV b)) (hb : ∀ k, v.ownBlock = some k → 0 < b.length → A' k) (hA : ∀ k, A k → A' k) : RowsAt w (vs ++ [v]) (bs ++ [b]) A' := by
  refine ⟨by simp [h.1], fun i h1 h2 => ?_⟩
  by_cases hi : i < vs.length
  · have hi2 : i < bs.length := by rw [← h.1]; exact hi
    rw [List.getElem_append_left hi, List.getElem_append_left hi2]
    exact ⟨(h.2 i hi hi2).1, fun k hk h0 => hA k ((h.2 i hi hi2).2 k hk h0)⟩
  · have e1 : i = vs.length := by simp at h1; omega
    subst e1
    have e2 : (bs ++ [b])[vs.length] = b := by
      have := h.1
      simp [this]
    rw [List.getElem_append_right (Nat.le_refl _)]
    simp only [Nat.sub_self, List.getElem_singleton, e2]
    exact ⟨hv, hb⟩
/-- In the middle of Open's loop. -/
def OpnR (w : World) (db lb fr n st fi sy : Nat) (bs : List Batch) (k : Nat) (x : Option Addr) (c : Nat) (wr : World) : Prop :=
  ∃ (lv : Value) (vs : List Value) (A : Nat → Prop), Cells9 wr lb (preL (LSt.part fr n st fi sy bs k) db lv) ∧ Mid wr 2 lv k (listV (number fi (bs.take k))) ∧ Mid wr 1 (.slice x k c) k vs ∧ RowsAt wr vs (bs.take k) A ∧
    Upd (fun _ => False) w wr ∧ (∀ j, A j → w.heap.size ≤ j ∧ j < wr.heap.size ∧ j ≠ lb ∧ lv.ownBlock ≠ some j ∧ (Value.slice x k c).ownBlock ≠ some j) ∧ w.heap.size ≤ lb ∧
    (∀ j, lv.ownBlock = some j → w.heap.size ≤ j ∧ j ≠ lb ∧ (Value.slice x k c).ownBlock ≠ some j) ∧ (∀ j, (Value.slice x k c).ownBlock = some j → w.heap.size ≤ j ∧ j ≠ lb)
theorem opR_step {w : World} {db lb fr n st fi sy : Nat} {bs : List Batch} {k : Nat} {x : Option Addr} {c : Nat} {wr : World} {lv : Value} {vs : List Value} {A : Nat → Prop}
    (c1 : Cells9 wr lb (preL (LSt.part fr n st fi sy bs k) db lv)) (m1 : Mid wr 2 lv k (listV (number fi (bs.take k)))) (m2 : Mid wr 1 (.slice x k c) k vs) (r : RowsAt wr vs (bs.take k) A) (u : Upd (fun _ => False) w wr)
    (a : ∀ j, A j → w.heap.size ≤ j ∧ j < wr.heap.size ∧ j ≠ lb ∧ lv.ownBlock ≠ some j ∧ (Value.slice x k c).ownBlock ≠ some j) (l : w.heap.size ≤ lb)
    (b1 : ∀ j, lv.ownBlock = some j → w.heap.size ≤ j ∧ j ≠ lb ∧ (Value.slice x k c).ownBlock ≠ some j) (b2 : ∀ j, (Value.slice x k c).ownBlock = some j → w.heap.size ≤ j ∧ j ≠ lb)
    (hk : k < bs.length) {w1 : World} {xb : Option Addr} {cb : Nat} (l1 : LoadPost wr lb (preL (LSt.part fr n st fi sy bs k) db lv) bs[k] xb cb w1) {o1 o2 : Obj} {W2 W4 : World} {x1 x2 : Option Addr} {c1' c2' s' : Nat}
    (hs' : s' = needsB (bs.take (k + 1)))
    (hm2 : Mid W2 2 (.slice x1 (k + 1) c1') (k + 1) (listV (number fi (bs.take k)) ++ entryV (fi + k, needB bs[k]))) (hu2 : Upd (fun j => lv.ownBlock = some j) (w1.drew.alloc o1) W2)
    (hb2 : (Value.slice x1 (k + 1) c1').ownBlock = lv.ownBlock ∨ (Value.slice x1 (k + 1) c1').ownBlock = some (w1.drew.alloc o1).heap.size)
    (hm4 : Mid W4 1 (.slice x2 (k + 1) c2') (k + 1) (vs ++ [.slice xb bs[k].length cb])) (hu4 : Upd (fun j => (Value.slice x k c).ownBlock = some j) (((W2.setCell ⟨lb, 5, none⟩ (.slice x1 (k + 1) c1')).setCell ⟨lb, 4, none⟩ (.int .i64 s')).alloc o2) W4)
    (hb4 : (Value.slice x2 (k + 1) c2').ownBlock = (Value.slice x k c).ownBlock ∨ (Value.slice x2 (k + 1) c2').ownBlock = some (((W2.setCell ⟨lb, 5, none⟩ (.slice x1 (k + 1) c1')).setCell ⟨lb, 4, none⟩ (.int .i64 s')).alloc o2).heap.size) :
    OpnR w db lb fr n st fi sy bs (k + 1) x2 c2' W4 := by
  obtain ⟨lm, lo, lu, lc⟩ := l1
  have ua : Upd (fun _ => False) w1 (w1.drew.alloc o1) := ((Upd.refl _ w1).drew).alloc _
  have ub : Upd (fun k => k = lb) W2 ((W2.setCell ⟨lb, 5, none⟩ (.slice x1 (k + 1) c1')).setCell ⟨lb, 4, none⟩ (.int .i64 s')) := upd_set 4 _ (upd_set 5 _ (Upd.refl _ W2))
  have uc : Upd (fun _ => False) ((W2.setCell ⟨lb, 5, none⟩ (.slice x1 (k + 1) c1')).setCell ⟨lb, 4, none⟩ (.int .i64 s')) (((W2.setCell ⟨lb, 5, none⟩ (.slice x1 (k + 1) c1')).setCell ⟨lb, 4, none⟩ (.int .i64 s')).alloc o2) := (Upd.refl _ _).alloc _
  have s0 := u.size
  have s1 := lu.size
  have s2 := ua.size
  have s3 := hu2.size
  have s4 := ub.size
  have s5 := uc.size
  have s6 := hu4.size
  have hlvlt := m1.lt
  have hxlt := m2.lt
  have hlblt := c1.lt
  have hx1 : ∀ j, (Value.slice x1 (k + 1) c1').ownBlock = some j → (lv.ownBlock = some j ∨ j = (w1.drew.alloc o1).heap.size) := fun j hj => by
    rcases hb2 with h | h
    · exact .inl (by rw [← h]; exact hj)
    · rw [h] at hj; cases hj; exact .inr rfl
  have hx2 : ∀ j, (Value.slice x2 (k + 1) c2').ownBlock = some j → ((Value.slice x k c).ownBlock = some j ∨ (w1.drew.alloc o1).heap.size ≤ j ∧ W2.heap.size ≤ j) := fun j hj => by
    rcases hb4 with h | h
    · exact .inl (by rw [← h]; exact hj)
    · rw [h] at hj; cases hj; exact .inr ⟨by omega, by omega⟩
  have hx1lt := hm2.lt
  have hlbF : lv.ownBlock ≠ some lb := fun h => (b1 lb h).2.1 rfl
  have hlbX : (Value.slice x k c).ownBlock ≠ some lb := fun h => (b2 lb h).2 rfl
  refine ⟨.slice x1 (k + 1) c1', vs ++ [.slice xb bs[k].length cb], fun j => A j ∨ (Value.slice xb bs[k].length cb).ownBlock = some j, ?_, ?_, hm4, ?_, ?_, ?_, l, ?_, ?_⟩
  · have h1 := ((((lc.upd ua (fun h => h)).upd hu2 hlbF).set 5 (by decide) (.slice x1 (k + 1) c1')).set 4 (by decide) (.int .i64 s'))
    have h2 := (h1.upd uc (fun h => h)).upd hu4 hlbX
    have e : ((preL (LSt.part fr n st fi sy bs k) db lv).set 5 (.slice x1 (k + 1) c1')).set 4 (.int .i64 s') = preL (LSt.part fr n st fi sy bs (k + 1)) db (.slice x1 (k + 1) c1') := by
      rw [hs']; rfl
    rwa [e] at h2
  · have e : listV (number fi (bs.take k)) ++ entryV (fi + k, needB bs[k]) = listV (number fi (bs.take (k + 1))) := by
      rw [number_take_succ bs fi k hk]; simp [listV]
    rw [e] at hm2
    refine ((hm2.upd ub (fun j hj e => ?_)).upd uc (fun _ _ h => h)).upd hu4 (fun j hj h => ?_)
    · rcases hx1 j hj with h | h
      · exact (b1 j h).2.1 e
      · omega
    · rcases hx1 j hj with h' | h'
      · exact (b1 j h').2.2 h
      · have := hxlt j h; omega
  · rw [List.take_succ_eq_append_getElem hk]
    refine RowsAt.snoc (A := A) (r.upd (((((lu.mono (fun j _ h => (.inl h : j = lb ∨ lv.ownBlock = some j ∨ (Value.slice x k c).ownBlock = some j))).trans (ua.mono (fun _ _ h => h.elim))).trans (hu2.mono (fun _ _ h => .inr (.inl h)))).trans (ub.mono (fun _ _ h => .inl h))).trans (uc.mono (fun _ _ h => h.elim)) |>.trans (hu4.mono (fun _ _ h => .inr (.inr h)))) (fun j hj h => ?_)) _ _ ?_ (fun j hj _ => .inr hj) (fun j hj => .inl hj)
    · have h1 := a j hj
      rcases h with h | h | h
      · exact h1.2.2.1 h
      · exact h1.2.2.2.1 h
      · exact h1.2.2.2.2 h
    · refine ((((lm.sees.upd ua (fun _ _ _ h => h)).upd hu2 (fun j hj _ h => ?_)).upd ub (fun j hj _ h => ?_)).upd uc (fun _ _ _ h => h)).upd hu4 (fun j hj _ h => ?_)
      · have := lo j hj; have := hlvlt j h; omega
      · have := lo j hj; omega
      · have := lo j hj; have := hxlt j h; omega
  · refine ((((u.then lu (fun j hj => .inr (by omega))).trans ua).then hu2 (fun j hj => .inr (b1 j hj).1)).then ub (fun j hj => .inr (by omega))).trans uc |>.then hu4 (fun j hj => .inr (b2 j hj).1)
  · intro j hj
    rcases hj with hj | hj
    · have h1 := a j hj
      refine ⟨h1.1, by omega, h1.2.2.1, fun h => ?_, fun h => ?_⟩
      · rcases hx1 j h with h | h
        · exact h1.2.2.2.1 h
        · omega
      · rcases hx2 j h with h | h
        · exact h1.2.2.2.2 h
        · omega
    · have h1 := lo j hj
      have h2 := lm.lt j hj
      refine ⟨by omega, by omega, by omega, fun h => ?_, fun h => ?_⟩
      · rcases hx1 j h with h | h
        · have := hlvlt j h; omega
        · omega
      · rcases hx2 j h with h | h
        · have := hxlt j h; omega
        · omega
  · intro j hj
    refine ⟨?_, ?_, fun h => ?_⟩
    · rcases hx1 j hj with h | h
      · exact (b1 j h).1
      · omega
    · rcases hx1 j hj with h | h
      · exact (b1 j h).2.1
      · omega
    · rcases hx2 j h with h' | h'
      · rcases hx1 j hj with h'' | h''
        · exact (b1 j h'').2.2 h'
        · have := hxlt j h'; omega
      · have := hx1lt j hj; omega
  · intro j hj
    rcases hx2 j hj with h | h
    · exact b2 j h
    · exact ⟨by omega, by omega⟩
/-- What Open leaves. -/
def OpenPost (w : World) (lb db : Nat) (L : LSt) (D : DSt) (F : Nat → Prop) (bs : List Batch) (x : Option Addr) (c : Nat) (w' : World) : Prop :=
  ∃ (F' : Nat → Prop) (vs : List Value) (A : Nat → Prop), WalAt w' lb db L D F' ∧ Upd (fun _ => False) w w' ∧ (∀ k, F' k → F k ∨ w.heap.size ≤ k) ∧ Mid w' 1 (.slice x bs.length c) bs.length vs ∧ RowsAt w' vs bs A ∧
    (∀ k, A k → w.heap.size ≤ k ∧ k < w'.heap.size ∧ ¬ F' k ∧ (Value.slice x bs.length c).ownBlock ≠ some k) ∧ (∀ k, (Value.slice x bs.length c).ownBlock = some k → w.heap.size ≤ k ∧ ¬ F' k)

set_option maxHeartbeats 2000000 in
theorem open_good {w : World} {db : Nat} {D : DSt} {F : Nat → Prop} (hD : DiskAt w db D F) (fr n : Nat) (h2 : 2 ≤ n) (hf : fr + n ≤ D.secs.length) (hwt : D.waits.length < 99999999990) (hd : D.dead = false) (st fi sy : Nat) (bs : List Batch) (m : Bytes) (hm : (done D.secs D.waits)[fr]? = some m) (hml : m.length = 512) (hm2 : m = pad (markB fr n st fi sy)) (hg : Good (done D.secs D.waits) fr n st fi sy bs) :
    Calls Try.prog 21 #[.pointer (some ⟨db, 0, none⟩), .int .i64 fr, .int .i64 n] w fun r w' => ∃ lb x c, r = .returned (.tuple #[.pointer (some ⟨lb, 0, none⟩), .slice x bs.length c, .int .i64 0]) ∧ OpenPost w lb db (LSt.opened fr n st fi sy bs) D F bs x c w' := by
  have hreg := region_good hD fr n (by omega) (by omega) (by omega)
  have hr := read_of_vis hd hm
  have hmost := hD.1.most
  have H := Lib.hid (And.intro hD (And.intro hwt (And.intro hr (And.intro hreg (And.intro hml (And.intro h2 (And.intro hf hmost)))))))
  have hmf : ∀ (fn : Fn) (first cap : Array Value) (w : World), (Instr.makeFunc fn first cap).run Try.prog w = .ok (.func fn first cap) w := fun _ _ _ _ => rfl
  have hb1 : fr ≤ 4096 ∧ n ≤ 4096 ∧ st ≤ 4096 ∧ sy < 1000000000000000000 ∧ fi ≤ 1000000000000000000 := by
    have := hD.1.most; have := hg.start; have := hg.big; have := hg.len; omega
  have h0 : fieldOf m 0 = fr := by rw [hm2]; exact mark_f0 _ _ _ _ _ (by omega)
  have h1 : fieldOf m 1 = n := by rw [hm2]; exact mark_f1 _ _ _ _ _ (by omega)
  have h2' : fieldOf m 2 = st := by rw [hm2]; exact mark_f2 _ _ _ _ _ (by omega)
  have h3 : fieldOf m 3 = fi := by rw [hm2]; exact mark_f3 _ _ _ _ _ (by omega)
  have h4 : fieldOf m 4 = sy := by rw [hm2]; exact mark_f4 _ _ _ _ _ (by omega)
  have hsum : unB ((m.drop 52).take 4) = (updB 0 (m.take 52)).toNat := by rw [hm2]; exact mark_sum _ _ _ _ _
  have hmg : m.take 12 = magicB := by rw [hm2]; exact mark_magic _ _ _ _ _
  have q0 : ((strV (m.take 12)).toList == [100, 111, 99, 107, 101, 116, 32, 108, 111, 103, 32, 49]) = true := by
    rw [strV_list, hmg]
    rfl
  have f1 : IntKind.u64.wrap (fr : Int) = (fr : Int) := by have := hD.1.most; show (fr : Int) % 18446744073709551616 = _; omega
  have f2 : IntKind.u64.wrap (n : Int) = (n : Int) := by have := hD.1.most; show (n : Int) % 18446744073709551616 = _; omega
  obtain ⟨sm, hsm⟩ : ∃ sm, updB 0 (m.take 52) = sm := ⟨_, rfl⟩
  have f6 : IntKind.u64.wrap (sm.toNat : Int) = (sm.toNat : Int) := by have := sm.isLt; show (sm.toNat : Int) % 18446744073709551616 = _; omega
  have f52 : IntKind.i64.wrap 52 = 52 := by decide
  have Hf := Lib.hid (And.intro h0 (And.intro h1 (And.intro h2' (And.intro h3 (And.intro h4 (And.intro hsum (And.intro hsm (And.intro hg hd))))))))
  have hbn : (fr : Int) ≤ 4096 ∧ (n : Int) ≤ 4096 ∧ (2 : Int) ≤ (n : Int) ∧ (st : Int) ≤ 4096 ∧ (sy : Int) < 1000000000000000000 ∧ (fi : Int) ≤ 1000000000000000000 := by have := hg.two; omega
  obtain ⟨bn1, bn2, bn3, bn4, bn5, bn6⟩ := hbn
  clear h0 h1 h2' h3 h4 hsum hsm hmg hb1 hm2 hg
  clear hreg hr hD h2 hf hwt hd hm hml hmost
  go_enter Try.func21, Try.ntmps21
  go_wp2_with fail
  refine H.out.2.2.2.1.mono ?_
  rintro e w1 ⟨rfl, rfl⟩
  dsimp only
  go_wp2_with fail
  refine (read_disk H.out.1 (by have := H.out.2.1; omega) (fr : Nat) H.out.2.2.1).mono ?_
  rintro e w1 ⟨xa, xc, rfl, hrow, hu, -, -⟩
  dsimp only
  have hml := H.out.2.2.2.2.1
  rw [hml] at hrow ⊢
  obtain ⟨g, hxa, hgb, hglt, -⟩ := row_some hrow (by decide)
  subst hxa
  have hm1 := mid_of_row hrow
  have hxc : 512 ≤ xc := by
    obtain ⟨_, ⟨h, _⟩ | ⟨g', o', c', h, h1, _⟩⟩ := hm1
    · cases h
    · cases h; exact h1
  have hr1 : w1.rangeAt g 0 (bvs m) := row_range hrow (by rw [List.drop_zero, List.take_length])
  have H1 := Lib.hid (And.intro hu (And.intro hr1 (And.intro hxc (And.intro hgb hglt))))
  clear hrow hu hgb hglt hm1 hxc hr1 hml
  go_wp2_with fail
  obtain ⟨w2, hw2⟩ : ∃ w2, ((w1.alloc (.cells #[.slice (some ⟨g, 0, none⟩) 512 xc] 98)).alloc (.cells #[.int .i64 12] 3)).alloc (.cells (((Try.zeroCells96.setIfInBounds 0 (.pointer (some ⟨db, 0, none⟩))).setIfInBounds 1 (.int .i64 fr)).setIfInBounds 2 (.int .i64 n)) 96) = w2 := ⟨_, rfl⟩
  have hh := hdr_new H1.out.1 H1.out.2.1 H.out.2.2.2.2.1 H1.out.2.2.1 H1.out.2.2.2.1 H1.out.2.2.2.2 db fr n
  rw [hw2] at hh ⊢
  generalize w1.heap.size + 1 + 1 = lb at *
  generalize w1.heap.size + 1 = pk at *
  generalize w1.heap.size = pb at *
  have hh2 := hh.drew
  have HH := Lib.hid hh2
  have hxc := H1.out.2.2.1
  have hsl12 := slice_toI (P := Try.prog) 98 5 Try.underlying98 (by kernel_rfl) g 0 512 xc 12 12 rfl (by omega) (by omega)
  have hsl52 := slice_fromI (P := Try.prog) 98 5 Try.underlying98 (by kernel_rfl) g 0 512 xc 52 52 460 (xc - 52) rfl (by omega) (by omega) rfl rfl
  have hsl52b := slice_toI (P := Try.prog) 98 5 Try.underlying98 (by kernel_rfl) g 0 512 xc 52 52 rfl (by omega) (by omega)
  simp only [Nat.zero_add] at hsl52
  have HS : w2.drew.cell? ⟨pb, 0, none⟩ = some (.slice (some ⟨g, 0, none⟩) 512 xc) ∧ w2.drew.cell? ⟨pk, 0, none⟩ = some (.int .i64 12) ∧ Hid (Hdr w g xc pb pk lb m (preL (LSt.made fr n) db (.slice none 0 0)) w2.drew) := ⟨hh2.b, hh2.k, hh2⟩
  clear hh hh2 hw2 hxc hmf
  refine wp_region_planD (fun w' => w'.cell? ⟨pb, 0, none⟩ = some (.slice (some ⟨g, 0, none⟩) 512 xc) ∧ w'.cell? ⟨pk, 0, none⟩ = some (.int .i64 12) ∧ Hid (Hdr w g xc pb pk lb m (preL (LSt.made fr n) db (.slice none 0 0)) w')) 36 [(0, true), (1, true), (2, true), (3, true), (4, true), (5, true), (6, true), (8, true), (9, true), (7, false), (10, true), (11, true), (12, true), (13, true), (15, true), (16, true), (14, false), (17, true), (18, true), (19, true), (20, true), (21, true), (22, true), (23, true), (24, true), (25, true), (26, true), (27, true), (28, true), (29, true), (30, true), (31, true), (32, false), (33, true), (34, true), (35, true)] (by kernel_rfl) (by kernel_rfl) (fun d _ _ _ _ h => by cases d <;> exact h) HS ?_
  iterate 3 (apply planD_held rfl rfl rfl (by simp) HS; (intro w' hS K hK; go_simp; exact hK))
  apply planD_held rfl rfl rfl (by simp) HS
  · intro w' hS K hK
    exact gives_bytes_string 5 (.slice (some ⟨g, 0, none⟩) 12 xc) (m.take 12) Try.underlying98 Try.underlying5 Try.underlying9 rfl (hS.2.2.out.sees12) hK
  simp only [Act.put, List.setIfInBounds_toArray, List.set_cons_zero, List.set_cons_succ]
  iterate 5 (first | (apply planD_held rfl rfl rfl (by simp) HS; (intro w' hS K hK; go_simp; exact hK)) | (apply planD_wanted rfl rfl rfl (by simp) HS; (intro w' hS K hK; go_simp; exact hK)))
  refine planD_op rfl (by kernel_rfl) (fun K hK => ?_)
  go_simp
  refine (field_ok pb pk g 0 xc m 0 0 rfl _ HS.1 HS.2.1 HH.out.range HH.out.len HH.out.cap (by decide) fr Hf.out.1).mono ?_
  rintro e' w3 ⟨rfl, rfl⟩
  dsimp only
  refine hK _ _ _ (fun u h => h) (fun _ => HS) ?_
  clear hK
  try (simp only [Act.put, List.setIfInBounds_toArray, List.set_cons_zero, List.set_cons_succ])
  iterate 6 (first | (apply planD_held rfl rfl rfl (by simp) HS; (intro w' hS K hK; go_simp; exact hK)) | (apply planD_wanted rfl rfl rfl (by simp) HS; (intro w' hS K hK; go_simp; exact hK)))
  refine planD_op rfl (by kernel_rfl) (fun K hK => ?_)
  go_simp
  refine (field_ok pb pk g 0 xc m 1 1 rfl _ HS.1 HS.2.1 HH.out.range HH.out.len HH.out.cap (by decide) n Hf.out.2.1).mono ?_
  rintro e' w3 ⟨rfl, rfl⟩
  dsimp only
  refine hK _ _ _ (fun u h => h) (fun _ => HS) ?_
  clear hK
  try (simp only [Act.put, List.setIfInBounds_toArray, List.set_cons_zero, List.set_cons_succ])
  iterate 7 (first | (apply planD_held rfl rfl rfl (by simp) HS; (intro w' hS K hK; go_simp; exact hK)) | (apply planD_wanted rfl rfl rfl (by simp) HS; (intro w' hS K hK; go_simp; exact hK)))
  refine planD_call (.int .u64 sm.toNat) rfl (by kernel_rfl) (fun w' hS => ⟨48, #[.slice (some ⟨g, 52, none⟩) 460 (xc - 52), .int .i64 4], by go_simp, by
    have h := hS.2.2.out
    have h2 := get_part (n := 512) (cap := xc) h.range 52 4 sm.toNat (by rw [h.len]; decide) (by rw [h.len]; exact Nat.le_refl _) (by decide) (by rw [Hf.out.2.2.2.2.2.1, Hf.out.2.2.2.2.2.2.1]) (by rw [h.len]; decide) 460 (by rw [h.len]) (xc - 52)
    exact h2⟩) ?_
  try (simp only [Act.put, List.setIfInBounds_toArray, List.set_cons_zero, List.set_cons_succ])
  iterate 7 (first | (apply planD_held rfl rfl rfl (by simp) HS; (intro w' hS K hK; go_simp; exact hK)) | (apply planD_wanted rfl rfl rfl (by simp) HS; (intro w' hS K hK; go_simp; exact hK)))
  refine planD_op rfl (by kernel_rfl) (fun K hK => ?_)
  go_simp
  have hs52 : Sees w2.drew 1 (.slice (some ⟨g, 0, none⟩) 52 xc) (m.take 52).length (bvs (m.take 52)) := by
    have hl : (m.take 52).length = 52 := by rw [List.length_take, HH.out.len]; rfl
    have h1 := sees_part (n := 512) (cap := xc) HH.out.range 0 52 xc (by rw [HH.out.len]; decide) (by decide)
    rw [List.drop_zero] at h1
    rw [hl]
    exact h1
  refine (sum9 HH.out.log _ (m.take 52) hs52 (fun j hj _ => by cases hj; exact HH.out.new.2.2.1)).mono ?_
  rintro e' w3 ⟨rfl, hu3, hC3⟩
  dsimp only
  rw [Hf.out.2.2.2.2.2.2.1]
  have hh3 := HH.out.write hu3 hC3
  have HH3 := Lib.hid hh3
  have HS3 : w3.cell? ⟨pb, 0, none⟩ = some (.slice (some ⟨g, 0, none⟩) 512 xc) ∧ w3.cell? ⟨pk, 0, none⟩ = some (.int .i64 12) ∧ Hid (Hdr w g xc pb pk lb m (preL (LSt.made fr n) db (.slice none 0 0)) w3) := ⟨hh3.b, hh3.k, hh3⟩
  refine hK _ _ _ (fun u h => h) (fun _ => HS3) ?_
  clear hK HS hs52 hu3 hC3 hh3
  try (simp only [Act.put, List.setIfInBounds_toArray, List.set_cons_zero, List.set_cons_succ])
  iterate 3 (first | (apply planD_held rfl rfl rfl (by simp) HS3; (intro w' hS K hK; go_simp; exact hK)) | (apply planD_wanted rfl rfl rfl (by simp) HS3; (intro w' hS K hK; go_simp; exact hK)))
  refine planD_nil ?_
  clear HS3 f6 f52 f1 f2 hsl12 hsl52 hsl52b q0
  have f3 : IntKind.i64.wrap (st : Int) = (st : Int) := by rw [IntKind.wrap_i64]; omega
  have f4 : IntKind.i64.wrap (sy : Int) = (sy : Int) := by rw [IntKind.wrap_i64]; omega
  have f5 : IntKind.i64.wrap (fi : Int) = (fi : Int) := by rw [IntKind.wrap_i64]; omega
  obtain ⟨d0, d1, d2, d3, d4, d5, d6, d7, d8⟩ := nine HH3.out.log
  have hfz := HH3.out.log.frozen
  clear d0 d1 d2 d4 d5 d8
  go_wp2_with fail
  refine (field_ok pb pk g 0 xc m 2 2 rfl _ HH3.out.b HH3.out.k HH3.out.range HH3.out.len HH3.out.cap (by decide) st Hf.out.2.2.1).mono ?_
  rintro e' w4 ⟨rfl, rfl⟩
  dsimp only
  go_wp2_with fail
  refine (field_ok pb pk g 0 xc m 4 4 rfl _ HH3.out.b HH3.out.k HH3.out.range HH3.out.len HH3.out.cap (by decide) sy Hf.out.2.2.2.2.1).mono ?_
  rintro e' w4 ⟨rfl, rfl⟩
  dsimp only
  go_wp2_with fail
  have hu4 : Upd (fun k => k = lb) w3 (((w3.setCell ⟨lb, 3, none⟩ (.int .i64 st)).setCell ⟨lb, 7, none⟩ (.int .i64 sy)).setCell ⟨lb, 6, none⟩ (.int .i64 sy)) := upd_set 6 _ (upd_set 7 _ (upd_set 3 _ (Upd.refl _ w3)))
  have hC4 : Cells9 (((w3.setCell ⟨lb, 3, none⟩ (.int .i64 st)).setCell ⟨lb, 7, none⟩ (.int .i64 sy)).setCell ⟨lb, 6, none⟩ (.int .i64 sy)) lb (preL (LSt.part fr n st fi sy bs 0) db (.slice none 0 0)) :=
    ((HH3.out.log.set 3 (by decide) (.int .i64 st)).set 7 (by decide) (.int .i64 sy)).set 6 (by decide) (.int .i64 sy)
  have HH4 := Lib.hid (HH3.out.write hu4 hC4)
  clear hu4 hC4
  generalize ((w3.setCell ⟨lb, 3, none⟩ (.int .i64 st)).setCell ⟨lb, 7, none⟩ (.int .i64 sy)).setCell ⟨lb, 6, none⟩ (.int .i64 sy) = w4 at *
  refine (field_ok pb pk g 0 xc m 3 3 rfl _ HH4.out.b HH4.out.k HH4.out.range HH4.out.len HH4.out.cap (by decide) fi Hf.out.2.2.2.1).mono ?_
  rintro e' w5 ⟨rfl, rfl⟩
  dsimp only
  have hg := Hf.out.2.2.2.2.2.2.2.1
  have hgl := hg.len
  have hgs := hg.start
  have hgp := hg.pos
  have q1 : decide ((st : Int) < 0) = false := by simp; try omega
  have q2 : decide ((n : Int) - 1 ≤ (st : Int)) = false := by simp; omega
  have q3 : decide ((fi : Int) < 1) = false := by simp; omega
  have q4 : decide ((sy : Int) + 1 < (fi : Int)) = false := by simp; omega
  have hbsn : bs.length ≤ needsB bs := by
    have : ∀ l : List Batch, l.length ≤ needsB l := by
      intro l
      induction l with
      | nil => exact Nat.zero_le _
      | cons b r ih => rw [needsB_cons, List.length_cons]; have := needB_pos b; omega
    exact this bs
  have q5 : decide ((n : Int) ≤ (sy : Int) - (fi : Int)) = false := by have := hg.need; simp; omega
  obtain ⟨e0, e1, e2, e3, e4, e5, e6, e7, e8⟩ := nine HH4.out.log
  have d3' : w4.cell? ⟨lb, 3, none⟩ = some (.int .i64 st) := e3
  have d7' : w4.cell? ⟨lb, 7, none⟩ = some (.int .i64 sy) := e7
  clear hg hgl hgs hgp hbsn d3 d6 d7 hfz e0 e1 e2 e3 e4 e5 e6 e7 e8 f3 f4
  go_wp2_with fail
  have HO0 : Hid (OpnR w db lb fr n st fi sy bs 0 none 0 w4) :=
    ⟨.slice none 0 0, [], fun _ => False, HH4.out.log, Mid.nil _ _, Mid.nil _ _, RowsAt.nil _ _, HH4.out.upd, (fun j hj => hj.elim), HH4.out.new.1, (fun j hj => by cases hj), (fun j hj => by cases hj)⟩
  clear q1 q2 q3 q4 q5 d3' d7' f5
  go_loopw [16, 17] (fun al i wr => ∃ (k q : Nat) (x : Option Addr) (c : Nat), k ≤ bs.length ∧ q = fi + k ∧ i = .int .i64 q ∧ al = .slice x k c ∧ Hid (OpnR w db lb fr n st fi sy bs k x c wr)) (fun _ i _ => bs.length + fi - (intOf i).toNat)
  case atStart => exact ⟨0, fi, none, 0, Nat.zero_le _, rfl, rfl, rfl, HO0⟩
  case round =>
    clear HO0
    obtain ⟨k, q, x, c, hk, hq, rfl, rfl, HO⟩ := hrel
    have Hq := Lib.hid hq
    have hg := Hf.out.2.2.2.2.2.2.2.1
    have hgl := hg.len
    have hqb : (q : Int) ≤ 1000000000000005000 := by have := hg.need; omega
    obtain ⟨lv, vs, A, o1, o2, o3, o4, o5, o6, o7, o8, o9⟩ := HO.out
    obtain ⟨d0, d1, d2, d3, d4, d5, d6, d7, d8⟩ := nine o1
    have d3' : wr.cell? ⟨lb, 3, none⟩ = some (.int .i64 st) := d3
    have d7' : wr.cell? ⟨lb, 7, none⟩ = some (.int .i64 sy) := d7
    obtain ⟨s, hs⟩ : ∃ s, needsB (bs.take k) = s := ⟨_, rfl⟩
    have d4' : wr.cell? ⟨lb, 4, none⟩ = some (.int .i64 s) := by rw [← hs]; exact d4
    have hsn : s ≤ 4096 := by have h1 := needsB_take_le bs k; have := hg.need; omega
    have hok := part_ok hg (by rw [done_length]; exact H.out.2.2.2.2.2.2.2) k
    by_cases hlt : k < bs.length
    · obtain ⟨b, hb⟩ : ∃ b, bs[k] = b := ⟨_, rfl⟩
      obtain ⟨nd, hnd⟩ : ∃ nd, needB b = nd := ⟨_, rfl⟩
      have hsn2 : s + nd ≤ n - 1 := by have h1 := needsB_take_succ bs k hlt; have h2 := needsB_take_le bs (k + 1); have := hg.need; rw [hb, hnd, hs] at h1; omega
      obtain ⟨P, hP⟩ : ∃ P, st + s = P := ⟨_, rfl⟩
      obtain ⟨ro, hro⟩ : ∃ ro, n - 1 - s = ro := ⟨_, rfl⟩
      have f1 : IntKind.i64.wrap ((st : Int) + (s : Int)) = (P : Int) := by rw [IntKind.wrap_i64]; omega
      have q1 : (q : Int) ≤ (sy : Int) := by omega
      have q2 : (nd : Int) ≤ (ro : Int) := by omega
      have hdr : Upd (fun _ => False) wr wr.drew := (Upd.refl _ wr).drew
      have hDr := (H.out.1.upd o5 (fun _ _ h => h)).upd hdr (fun _ _ h => h)
      have hload := load_ok (w := wr.drew) (lv := lv) (o1.upd hdr (fun h => h)) hok hDr Hf.out.2.2.2.2.2.2.2.2 (fun h => by have := H.out.1.lt lb h; omega) H.out.2.1 P q b (by omega) (by omega) (by rw [hnd]; show nd ≤ n - 1; omega) (fun j hj => by
        have h := laid_get bs st fi hg.laid k hlt j (by rw [hb]; exact hj)
        rw [hs, hP, ← hq, hb] at h
        exact h)
      rw [hnd] at hload
      have Hload := Lib.hid hload
      have HR := Lib.hid (And.intro hb (And.intro hnd (And.intro hs (And.intro hsn2 (And.intro hP (And.intro hro (And.intro hok hg)))))))
      have HS : wr.drew.cell? ⟨lb, 3, none⟩ = some (.int .i64 st) ∧ wr.drew.cell? ⟨lb, 4, none⟩ = some (.int .i64 s) := ⟨d3', d4'⟩
      have Ho := Lib.hid (And.intro (o1.upd hdr (fun h => h)) (And.intro (o2.upd hdr (fun _ _ h => h)) (And.intro (o3.upd hdr (fun _ _ h => h)) (And.intro (o4.upd hdr (fun _ _ h => h)) (And.intro o5.drew (And.intro o6 (And.intro o7 (And.intro o8 o9))))))))
      have hndb : (nd : Int) ≤ 4096 := by omega
      have hsb : (s : Int) ≤ 4096 := by omega
      clear hq hg hgl o1 o2 o3 o4 o5 o6 o7 o8 o9 d0 d1 d2 d3 d4 d5 d6 d7 d8 hs hsn hok hb hnd hsn2 hP hro hDr hload d3' d4' hdr
      go_wp2_with fail
      clear d7'
      refine wp_region_planD (fun w' => w'.cell? ⟨lb, 3, none⟩ = some (.int .i64 st) ∧ w'.cell? ⟨lb, 4, none⟩ = some (.int .i64 s)) 19 [(0, true), (1, true), (2, true), (3, true), (4, true), (5, true), (6, true), (7, true), (8, true), (9, true), (10, true), (11, false), (12, true), (13, true), (14, true), (15, true), (16, true), (17, true), (18, true)] (by kernel_rfl) (by kernel_rfl) (fun d _ _ _ _ h => by cases d <;> exact h) HS ?_
      iterate 11 (apply planD_held rfl rfl rfl (by simp) HS; (intro w' hS K hK; go_simp; exact hK))
      refine planD_op rfl rfl (fun K hK => ?_)
      go_simp
      refine Hload.out.mono ?_
      rintro e' w6 ⟨xb, cb, rfl, hld⟩
      dsimp only
      have hC6 := hld.2.2.2
      have hroom := room_ok hC6 HR.out.2.2.2.2.2.2.1
      have hroe : (LSt.part fr n st fi sy bs k).n - 1 - (LSt.part fr n st fi sy bs k).used = ro := by rw [← HR.out.2.2.2.2.2.1, ← HR.out.2.2.1]; rfl
      rw [hroe] at hroom
      have Hroom := Lib.hid hroom
      obtain ⟨d0, d1, d2, d3, d4, d5, d6, d7, d8⟩ := nine hC6
      have hsu : (LSt.part fr n st fi sy bs k).used = s := HR.out.2.2.1
      rw [hsu] at d4
      have d3' : w6.cell? ⟨lb, 3, none⟩ = some (.int .i64 st) := d3
      have HS6 : w6.cell? ⟨lb, 3, none⟩ = some (.int .i64 st) ∧ w6.cell? ⟨lb, 4, none⟩ = some (.int .i64 s) := ⟨d3', d4⟩
      obtain ⟨xl, cl, hlvs⟩ := Ho.out.2.1.sees.shape
      have d5' : w6.cell? ⟨lb, 5, none⟩ = some (.slice xl k cl) := by rw [← hlvs]; exact d5
      have d4' := d4
      have hfz6 := hC6.frozen
      have Hld := Lib.hid (And.intro hld hlvs)
      refine hK _ _ _ (fun u h => h) (fun _ => HS6) ?_
      clear hK HS hld hC6 hroom hroe hsu d0 d1 d2 d3 d3' d4 d5 d6 d7 d8 hlvs f1
      try (simp only [Act.put, List.setIfInBounds_toArray, List.set_cons_zero, List.set_cons_succ])
      iterate 7 (apply planD_held rfl rfl rfl (by simp) HS6; (intro w' hS K hK; go_simp; exact hK))
      refine planD_nil ?_
      clear HS6
      go_wp2_with fail
      refine Hroom.out.mono ?_
      rintro e' w7 ⟨rfl, rfl⟩
      dsimp only
      clear Hroom
      have q2b : decide (ro < nd) = false := by simp; omega
      have Hz := Lib.hid (And.intro d4' (And.intro d5' (And.intro hfz6 (And.intro hsb (And.intro hndb (And.intro hqb q2))))))
      clear q1 hndb hsb hqb bn1 bn2 bn3 bn4 bn5 bn6 d4' d5' hfz6 q2
      go_upto_region 26 with fail
      obtain ⟨d4', d5', hfz6, hsb, hndb, hqb, q2⟩ := Hz.out
      clear q2b q2
      have hal := (Upd.refl (fun _ => False) w6.drew).alloc (.cells (entryV (q, nd)).toArray 106)
      go_wp2_with ((with_reducible apply wpl_append_mid 106 2 16 _ (.slice xl k cl) k (listV (number fi (bs.take k))) 1 (entryV (q, nd))))
      · exact Try.underlying76
      · exact infoE
      · rfl
      · rfl
      · have h := (Ho.out.2.1.upd Hld.out.1.2.2.1 (fun j hj => (Ho.out.2.2.2.2.2.2.2.1 j hj).2.1))
        rw [Hld.out.2] at h
        exact (h.upd ((Upd.refl (fun _ => False) w6).drew) (fun _ _ h => h)).upd hal (fun _ _ h => h)
      · exact Sees.at rfl (by decide) (rangeAt_of_row (heap_alloc_new w6.drew (.cells (entryV (q, nd)).toArray 106)) rfl)
      · intro u hu
        simp only [entryV, List.mem_cons, List.not_mem_nil, or_false] at hu
        rcases hu with rfl | rfl <;> rfl
      · have := H.out.2.2.2.2.2.2.2; have h2 := HR.out.2.2.2.2.2.2.2.need; have h3 := HR.out.2.2.2.2.2.2.2.fit
        have h4 := sum_ge_length (number fi (bs.take k)) (fun p hp => (number_mem _ _ p hp).1)
        rw [number_sum, number_length, List.length_take] at h4
        have h5 := needsB_take_le bs k
        rw [done_length] at h3
        unfold maxLen; omega
      · have := H.out.2.2.2.2.2.2.2; have h2 := HR.out.2.2.2.2.2.2.2.need; have h3 := HR.out.2.2.2.2.2.2.2.fit
        have h4 := sum_ge_length (number fi (bs.take k)) (fun p hp => (number_mem _ _ p hp).1)
        rw [number_sum, number_length, List.length_take] at h4
        have h5 := needsB_take_le bs k
        rw [done_length] at h3
        omega
      intro x1 c1' W2 hm2 hu2 hb2
      try (simp only [Act.put, List.setIfInBounds_toArray, List.set_cons_zero, List.set_cons_succ])
      have hal0 : Upd (fun _ => False) w6 (w6.drew.alloc (.cells (entryV (q, nd)).toArray 106)) := ((Upd.refl _ w6).drew).alloc _
      have hlbl : lv.ownBlock ≠ some lb := fun h => (Ho.out.2.2.2.2.2.2.2.1 lb h).2.1 rfl
      have hC2 : Cells9 W2 lb (preL (LSt.part fr n st fi sy bs k) db lv) := (Hld.out.1.2.2.2.upd hal0 (fun h => h)).upd hu2 (by rw [← Hld.out.2]; exact hlbl)
      obtain ⟨e0, e1, e2, e3, e4, e5, e6, e7, e8⟩ := nine hC2
      have hsu : (LSt.part fr n st fi sy bs k).used = s := HR.out.2.2.1
      rw [hsu] at e4
      rw [Hld.out.2] at e5
      have hfz2 := hC2.frozen
      obtain ⟨s', hs'⟩ : ∃ s', s + nd = s' := ⟨_, rfl⟩
      have f4 : (s : Int) + (nd : Int) = (s' : Int) := by omega
      have hs'b : (s' : Int) ≤ 8192 := by omega
      have Hm2 := Lib.hid (And.intro hm2 (And.intro hu2 (And.intro hb2 (And.intro hC2 hs'))))
      have hkb : k ≤ 4096 := by
        have := H.out.2.2.2.2.2.2.2; have h2 := HR.out.2.2.2.2.2.2.2.need; have h3 := HR.out.2.2.2.2.2.2.2.fit
        have h4 := sum_ge_length (number fi (bs.take k)) (fun p hp => (number_mem _ _ p hp).1)
        rw [number_sum, number_length, List.length_take] at h4
        have h5 := needsB_take_le bs k
        rw [done_length] at h3
        omega
      have hb' : bs[k] = b := HR.out.1
      have ub : Upd (fun k => k = lb) W2 ((W2.setCell ⟨lb, 5, none⟩ (.slice x1 (k + 1) c1')).setCell ⟨lb, 4, none⟩ (.int .i64 s')) := upd_set 4 _ (upd_set 5 _ (Upd.refl _ W2))
      have hxm : Mid (((W2.setCell ⟨lb, 5, none⟩ (.slice x1 (k + 1) c1')).setCell ⟨lb, 4, none⟩ (.int .i64 s')).alloc (.cells ([.slice xb b.length cb] : List Value).toArray 22)) 1 (.slice x k c) k vs := by
        have h1 := Ho.out.2.2.1.upd Hld.out.1.2.2.1 (fun j hj => (Ho.out.2.2.2.2.2.2.2.2 j hj).2)
        have h2 := (h1.upd hal0 (fun _ _ h => h)).upd hu2 (fun j hj h => by
          rw [← Hld.out.2] at h
          exact (Ho.out.2.2.2.2.2.2.2.1 j h).2.2 hj)
        exact (h2.upd ub (fun j hj => (Ho.out.2.2.2.2.2.2.2.2 j hj).2)).upd ((Upd.refl (fun _ => False) _).alloc _) (fun _ _ h => h)
      have hxs := rangeAt_of_row (heap_alloc_new ((W2.setCell ⟨lb, 5, none⟩ (.slice x1 (k + 1) c1')).setCell ⟨lb, 4, none⟩ (.int .i64 s')) (.cells ([.slice xb b.length cb] : List Value).toArray 22)) (off := 0) (xs := [.slice xb b.length cb]) rfl
      have hsz2 : ((W2.setCell ⟨lb, 5, none⟩ (.slice x1 (k + 1) c1')).setCell ⟨lb, 4, none⟩ (.int .i64 s')).heap.size = W2.heap.size := by simp
      rw [hsz2] at hxs
      have Hxm := Lib.hid (And.intro hxm (And.intro hkb hxs))
      clear hm2 hu2 hb2 hC2 hs' hal hal0 hlbl e0 e1 e2 e3 e6 e7 e8 d4' d5' hfz6 hsb hndb hsu hb' ub hxm hkb hxs hsz2
      go_wp2_with ((with_reducible apply wpl_append_mid 22 1 24 _ (.slice x k c) k vs 1 [.slice xb b.length cb]))
      · exact Try.underlying39
      · exact infoSS
      · rfl
      · rfl
      · exact Hxm.out.1
      · exact Sees.at rfl (by decide) Hxm.out.2.2
      · intro u hu; simp at hu; rw [hu]; rfl
      · have := Hxm.out.2.1; unfold maxLen; omega
      · have := Hxm.out.2.1; omega
      intro x2 c2' W4 hm4 hu4 hb4
      try (simp only [Act.put, List.setIfInBounds_toArray, List.set_cons_zero, List.set_cons_succ])
      have hb' : bs[k] = b := HR.out.1
      have hnd' : needB bs[k] = nd := by rw [hb']; exact HR.out.2.1
      have HO2 : Hid (OpnR w db lb fr n st fi sy bs (k + 1) x2 c2' W4) := by
        have ho := Ho.out
        have hl1 := Hld.out.1
        rw [← hb'] at hl1 hm4 hu4 hb4
        have h2 := Hm2.out
        rw [← Hld.out.2] at h2
        have hm2' := h2.1
        have hu2' : Upd (fun j => lv.ownBlock = some j) (w6.drew.alloc (.cells (entryV (q, nd)).toArray 106)) W2 := h2.2.1
        have hb2' : (Value.slice x1 (k + 1) c1').ownBlock = lv.ownBlock ∨ (Value.slice x1 (k + 1) c1').ownBlock = some (w6.drew.alloc (.cells (entryV (q, nd)).toArray 106)).heap.size := by
          rcases h2.2.2.1 with h | h
          · exact .inl h
          · exact .inr h
        have e : (q, nd) = (fi + k, needB bs[k]) := by rw [hnd', ← Hq.out]
        rw [e] at hm2' hu2' hb2'
        exact opR_step (s' := s') (o1 := .cells (entryV (fi + k, needB bs[k])).toArray 106) (o2 := .cells ([.slice xb bs[k].length cb] : List Value).toArray 22) ho.1 ho.2.1 ho.2.2.1 ho.2.2.2.1 ho.2.2.2.2.1 ho.2.2.2.2.2.1 ho.2.2.2.2.2.2.1 ho.2.2.2.2.2.2.2.1 ho.2.2.2.2.2.2.2.2 hlt hl1 (by rw [← h2.2.2.2.2, needsB_take_succ bs k hlt, hnd', HR.out.2.2.1]) hm2' hu2' hb2' hm4 hu4 hb4
      clear hm4 hu4 hb4 hb' hnd' f4 e4 e5 hfz2
      go_wp2_with fail
      exact ⟨⟨k + 1, q + 1, x2, c2', by omega, by have := Hq.out; omega, by go_num, rfl, HO2⟩, by have := Hq.out; simp [intOf]; omega⟩
    · obtain rfl : k = bs.length := by omega
      have q1 : decide (q ≤ sy) = false := by simp; omega
      have hs2 : s = needsB bs := by rw [← hs, List.take_length]
      have HE := Lib.hid (And.intro o1 (And.intro o2 (And.intro o3 (And.intro o4 (And.intro o5 (And.intro o6 (And.intro o7 (And.intro o8 (And.intro o9 hok)))))))))
      clear hq hg hgl o1 o2 o3 o4 o5 o6 o7 o8 o9 hok d0 d1 d2 d3 d4 d5 d6 d7 d8 d3' d4' hs hsn hs2 hlt hqb bn1 bn2 bn3 bn4 bn5 bn6
      go_wp2_with fail
      go_ret3
      refine ⟨lb, x, c, rfl, ?_⟩
      obtain ⟨o1, o2, o3, o4, o5, o6, o7, o8, o9, hok⟩ := HE.out
      rw [List.take_length] at o2 o4
      have hL : LSt.part fr n st fi sy bs bs.length = LSt.opened fr n st fi sy bs := by rw [LSt.part, LSt.opened, List.take_length]
      rw [hL] at o1 hok
      have hDr := H.out.1.upd o5 (fun _ _ h => h)
      have hFlt := H.out.1.lt
      have hl : (LSt.opened fr n st fi sy bs).list.length = bs.length := number_length _ _
      refine ⟨fun j => j = lb ∨ lv.ownBlock = some j ∨ F j, vs, A, ⟨lv, F, hok, o1, by rw [hl]; exact o2, hDr, fun h => by have := hFlt _ h; omega, fun j hj => ⟨fun h => by have := hFlt _ h; have := (o8 j hj).1; omega, (o8 j hj).2.1⟩, fun _ => Iff.rfl⟩, o5, fun j hj => ?_, o3, o4, fun j hj => ?_, fun j hj => ?_⟩
      · rcases hj with rfl | hj | hj
        · exact .inr o7
        · exact .inr (o8 j hj).1
        · exact .inl hj
      · have h1 := o6 j hj
        refine ⟨h1.1, h1.2.1, fun h => ?_, h1.2.2.2.2⟩
        rcases h with h | h | h
        · exact h1.2.2.1 h
        · exact h1.2.2.2.1 h
        · have := hFlt _ h; omega
      · have h1 := o9 j hj
        refine ⟨h1.1, fun h => ?_⟩
        rcases h with h | h | h
        · exact h1.2 h
        · exact (o8 j h).2.2 hj
        · have := hFlt _ h; omega
end Go.Proofs.Ytocameknhglklaa
