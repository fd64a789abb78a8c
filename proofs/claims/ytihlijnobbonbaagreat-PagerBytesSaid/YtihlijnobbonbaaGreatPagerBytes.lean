/- docketlaw04.PagerBytes. -/
import Derived.Test.YtihlijnobbonbaaGreatPb2
import Derived.Test.YtihlijnobbonbaaGreatRf5
namespace Go.Proofs.YtihlijnobbonbaaGreat
open Go Go.RowKit
set_option linter.unusedSimpArgs false
set_option linter.unusedVariables false
set_option maxRecDepth 100000

section
variable {P : Program} {ops : Array Oper} {Q : Exit → Act → World → Prop} {rest : List Oper} {dst : Option Tmp} {ty : TypeId} {pos : String} {aft : Array Edge} {a : Act} {w : World} {K : Act → World → Prop} {next : Act → Prop} {gd : Option (Nat × Bool)}
theorem gives_bytes_stringG {src sty : TypeId} {x : Operand} (e : TypeId) (v : Value) (bs : List UInt8) (hs : P.underlying src = some (.slice e)) (he : P.underlying e = some (.int .u8)) (hd : P.underlying sty = some .string)
    (hx : a.eval x = v) (hv : Sees w 1 v bs.length (bvs bs)) (h : next (a.put dst (.string (strV bs)))) : Oper.gives P (⟨dst, .convert src sty x, ty, pos, aft, gd⟩ : Oper) a w next := by
  subst hx
  unfold Oper.gives execOp
  simp only [Sem.run_bind, run_bytes_string src e sty hs he hd _ bs hv, Result.andThen_ok, Sem.run_pure, Oper.givesUpon_value]
  exact h
end
/-! Nil pagers, nil transactions. -/
theorem nil_usable (b : Int) (w : World) : Calls Tryz.prog 41 #[.pointer none, .int .i64 b] w fun e w' => e = .returned (.int .i64 2) ∧ w = w' := by
  go_enter Tryz.func41, Tryz.ntmps41
  go_wp2_with fail
  go_ret
  exact ⟨rfl, rfl⟩
theorem nil_begin (w : World) : Calls Tryz.prog 13 #[.pointer none] w fun e w' => e = .returned (.tuple #[.pointer none, .int .i64 2]) ∧ w = w' := by
  go_enter Tryz.func13, Tryz.ntmps13
  go_wp2_with fail
  go_ret2
  exact ⟨rfl, rfl⟩
theorem nil_read (b : Int) (w : World) : Calls Tryz.prog 23 #[.pointer none, .int .i64 b] w fun e w' => e = .returned (.tuple #[.slice none 0 0, .int .i64 2]) ∧ w = w' := by
  go_enter Tryz.func23, Tryz.ntmps23
  go_wp2_with fail
  refine (nil_usable b w).mono ?_
  rintro e w' ⟨rfl, rfl⟩
  dsimp only
  go_wp2_with fail
  go_ret2
  exact ⟨rfl, rfl⟩
theorem nil_write (b : Int) (v : Value) (w : World) : Calls Tryz.prog 15 #[.pointer none, .int .i64 b, v] w fun e w' => e = .returned (.int .i64 2) ∧ w = w' := by
  go_enter Tryz.func15, Tryz.ntmps15
  go_wp2_with fail
  refine (nil_usable b w).mono ?_
  rintro e w' ⟨rfl, rfl⟩
  dsimp only
  go_wp2_with fail
  go_ret
  exact ⟨rfl, rfl⟩
theorem nil_commit (w : World) : Calls Tryz.prog 16 #[.pointer none] w fun e w' => e = .returned (.tuple #[.int .i64 0, .int .i64 2]) ∧ w = w' := by
  go_enter_defers Tryz.func16, Tryz.ntmps16
  go_wp2_with fail
  refine (nil_usable 0 w).mono ?_
  rintro e w' ⟨rfl, rfl⟩
  dsimp only
  go_wp2_with fail
  refine ⟨_, results_tmp2 rfl _ _ _, ?_⟩
  exact ⟨rfl, rfl⟩
theorem nil_abort (w : World) : Calls Tryz.prog 17 #[.pointer none] w fun e w' => e = .returned (.tuple #[]) ∧ w = w' := by
  go_enter Tryz.func17, Tryz.ntmps17
  go_wp2_with fail
  go_end0
  exact ⟨rfl, rfl⟩
theorem nil_dirty (w : World) : Calls Tryz.prog 26 #[.pointer none] w fun e w' => e = .returned (.int .i64 0) ∧ w = w' := by
  go_enter Tryz.func26, Tryz.ntmps26
  go_wp2_with fail
  go_ret
  exact ⟨rfl, rfl⟩
theorem nil_blocks (w : World) : Calls Tryz.prog 27 #[.pointer none] w fun e w' => e = .returned (.int .i64 0) ∧ w = w' := by
  go_enter Tryz.func27, Tryz.ntmps27
  go_wp2_with fail
  go_ret
  exact ⟨rfl, rfl⟩
theorem nil_done (w : World) : Calls Tryz.prog 14 #[.pointer none] w fun e w' => e = .returned (.int .i64 0) ∧ w = w' := by
  go_enter Tryz.func14, Tryz.ntmps14
  go_wp2_with fail
  go_ret
  exact ⟨rfl, rfl⟩
theorem nil_synced (w : World) : Calls Tryz.prog 24 #[.pointer none] w fun e w' => e = .returned (.int .i64 0) ∧ w = w' := by
  go_enter Tryz.func24, Tryz.ntmps24
  go_wp2_with fail
  go_ret
  exact ⟨rfl, rfl⟩
theorem nil_sync (w : World) : Calls Tryz.prog 22 #[.pointer none] w fun e w' => e = .returned (.int .i64 2) ∧ w = w' := by
  go_enter Tryz.func22, Tryz.ntmps22
  go_wp2_with fail
  go_ret
  exact ⟨rfl, rfl⟩
/-- The bytes of a row turned, one behind the other: what is yet to turn is as it was. -/
def XorO (w0 : World) (g off n k : Nat) (wr : World) : Prop :=
  Upd (fun j => j = g) w0 wr ∧ (∀ j, k ≤ j → j < n → wr.cell? ⟨g, off + j, none⟩ = w0.cell? ⟨g, off + j, none⟩) ∧ (∀ j, j < n → wr.frozen? ⟨g, off + j, none⟩ = false)
theorem XorO.step {w0 : World} {g off n k : Nat} {wr : World} (h : XorO w0 g off n k wr) (v : Value) : XorO w0 g off n (k + 1) (wr.setCell ⟨g, off + k, none⟩ v) := by
  refine ⟨h.1.setCell _ (.inl rfl), fun j h1 h2 => ?_, fun j hj => ?_⟩
  · rw [← h.2.1 j (by omega) h2]
    exact World.cell?_setCell_other _ _ _ _ (by intro e; simp at e <;> omega)
  · rw [← h.2.2 j hj]
    exact World.frozen?_setCell _ _ _ _
/-- A transaction by which block 1 holds x. -/
def ByT (w wr : World) (tb pb db m : Nat) (x : Bytes) : Prop :=
  ∃ (cs : List Img) (ds : Img) (sy : Nat) (K : Nat → Prop), Txr wr tb pb db 6 14 cs ds sy (-1) K ∧ Upd (fun _ => False) w wr ∧ (∀ q, K q → w.heap.size ≤ q) ∧ cs.length ≤ m ∧ ds.length ≤ 1 ∧ (lookB ds 1).getD (atC cs 1) = x
def ByP (w wr : World) (pb db m : Nat) (x : Bytes) : Prop :=
  ∃ (cs : List Img) (sy : Nat) (K : Nat → Prop), Pgr wr pb db 6 14 cs sy (-1) K ∧ Upd (fun _ => False) w wr ∧ (∀ q, K q → w.heap.size ≤ q) ∧ cs.length ≤ m ∧ atC cs 1 = x
section
variable {w wr w' : World} {tb pb db m : Nat} {x : Bytes}
theorem ByT.upd0 (h : ByT w wr tb pb db m x) : Upd (fun _ => False) w wr := let ⟨_, _, _, _, _, h, _⟩ := h; h
theorem ByT.quiet (h : ByT w wr tb pb db m x) (hu : Upd (fun _ => False) wr w') : ByT w w' tb pb db m x :=
  let ⟨cs, ds, sy, K, h1, h2, h3, h4⟩ := h; ⟨cs, ds, sy, K, h1.upd hu (fun _ _ h => h), h2.trans hu, h3, h4⟩
/-- What is new may be written over. -/
theorem ByT.over {g : Nat} (h : ByT w wr tb pb db m x) {wz : World} (hz : Upd (fun _ => False) wr wz) (hg : wr.heap.size ≤ g) (hu : Upd (fun j => j = g) wz w') : ByT w w' tb pb db m x := by
  obtain ⟨cs, ds, sy, K, h1, h2, h3, h4⟩ := h
  refine ⟨cs, ds, sy, K, (h1.upd hz (fun _ _ h => h)).upd hu (fun q hq e => ?_), (h2.trans hz).then hu (fun q hq => .inr ?_), h3, h4⟩
  · have := h1.lt q hq; omega
  · have := h2.size; omega
theorem ByT.read (h : ByT w wr tb pb db m x) : Calls Tryz.prog 23 #[.pointer (some ⟨tb, 0, none⟩), .int .i64 1] wr fun e w' => ∃ (g o xc : Nat), e = .returned (.tuple #[.slice (some ⟨g, o, none⟩) 512 xc, .int .i64 0]) ∧ Sees w' 1 (.slice (some ⟨g, o, none⟩) 512 xc) 512 (bvs x) ∧ wr.heap.size ≤ g ∧ XorO w' g o 512 0 w' ∧ Upd (fun _ => False) wr w' := by
  obtain ⟨cs, ds, sy, K, h1, h2, h3, h4, h5, rfl⟩ := h
  refine (qread_ok h1 1 (by decide)).mono ?_
  rintro e w' ⟨xa, xc, rfl, hm, hn, hu⟩
  obtain ⟨hl, ⟨e1, _⟩ | ⟨g, o, cap, e1, g1, g2, g3, g4, g5⟩⟩ := id hm
  · cases e1
  · cases e1
    exact ⟨g, o, xc, rfl, hm.sees, (hn g rfl).1, ⟨Upd.refl _ _, fun _ _ _ => rfl, fun j _ => (hn g rfl).2 _⟩, hu⟩
theorem ByT.len (h : ByT w wr tb pb db m x) : x.length = 512 := by
  obtain ⟨cs, ds, sy, K, h1, h2, h3, h4, h5, rfl⟩ := h
  exact h1.look_len 1
theorem ByT.commit (h : ByT w wr tb pb db m x) (hm : m ≤ 1000) : Calls Tryz.prog 16 #[.pointer (some ⟨tb, 0, none⟩)] wr fun e w' => (∃ a r, e = .returned (.tuple #[.int .i64 a, .int .i64 r])) ∧ ByP w w' pb db (m + 1) x := by
  obtain ⟨cs, ds, sy, K, h1, h2, h3, h4, h5, h6⟩ := h
  have hok := h1.ok.1
  refine (qcommit_ok h1 (by decide) (by omega)).mono ?_
  rintro e w' ⟨a, r, rfl, K', hf, hp⟩
  have hu : Upd (fun _ => False) w w' := h2.then hf.upd (fun q hq => .inr (h3 q hq))
  have ho : ∀ q, K' q → w.heap.size ≤ q := fun q hq => (hf.own q hq).elim (h3 q) (fun e => Nat.le_trans h2.size e)
  refine ⟨⟨a, r, rfl⟩, ?_⟩
  rcases hp with ⟨h0, _, _, hp⟩ | ⟨_, h0, _, _, _⟩ | ⟨h0, _, _, _, sy', f', _, hf', hp⟩ | ⟨_, _, _, _, _, hp⟩
  · obtain rfl : ds = [] := List.eq_nil_of_length_eq_zero h0
    exact ⟨cs, sy, K', hp, hu, ho, by omega, h6⟩
  · exfalso
    rw [long_same hok, RLong] at h0
    omega
  · rw [hf' (by decide)] at hp
    refine ⟨_, sy', K', hp, hu, ho, ?_, ?_⟩
    · simp; omega
    · rw [atC_append, lastC_one]; exact h6
  · exact absurd hp (by decide)
def ByE (w wr : World) (tb pb db m : Nat) : Prop :=
  ∃ (cs : List Img) (sy : Nat) (K : Nat → Prop), Txr wr tb pb db 6 14 cs [] sy (-1) K ∧ Upd (fun _ => False) w wr ∧ (∀ q, K q → w.heap.size ≤ q) ∧ cs.length ≤ m
theorem ByP.begin (h : ByP w wr pb db m x) : Calls Tryz.prog 13 #[.pointer (some ⟨pb, 0, none⟩)] wr fun e w' => ∃ tb, e = .returned (.tuple #[.pointer (some ⟨tb, 0, none⟩), .int .i64 0]) ∧ ByT w w' tb pb db m x ∧ ByE w w' tb pb db m := by
  obtain ⟨cs, sy, K, h1, h2, h3, h4, h5⟩ := h
  refine (qbegin_ok h1).mono ?_
  rintro e w' ⟨tb, K', rfl, ht, hf⟩
  have hu := h2.then hf.upd (fun q hq => .inr (h3 q hq))
  have ho : ∀ q, K' q → w.heap.size ≤ q := fun q hq => (hf.own q hq).elim (h3 q) (fun e => Nat.le_trans h2.size e)
  exact ⟨tb, rfl, ⟨cs, [], sy, K', ht, hu, ho, h4, Nat.zero_le _, h5⟩, cs, sy, K', ht, hu, ho, h4⟩
theorem ByE.put {X : World} (h : ByE w wr tb pb db m) (hX : Upd (fun _ => False) wr X) (xa : Option Addr) (xc n : Nat) (bs : Bytes) (hn : bs.length = n) (hl : n ≤ 512) (hs : Sees X 1 (.slice xa n xc) n (bvs bs)) :
    Calls Tryz.prog 15 #[.pointer (some ⟨tb, 0, none⟩), .int .i64 1, .slice xa n xc] X fun e w' => e = .returned (.int .i64 0) ∧ ByT w w' tb pb db m (pad bs) ∧ Upd (fun q => q < wr.heap.size) X w' ∧ (∀ g w'', wr.heap.size ≤ g → Upd (fun j => j = g) w' w'' → ByT w w'' tb pb db m (pad bs)) := by
  subst hn
  obtain ⟨cs, sy, K, h1, h2, h3, h4⟩ := h
  refine (qwrite_ok (h1.upd hX (fun _ _ h => h)) 1 (by decide) (by decide) xa xc bs hs).mono ?_
  rintro e w' (⟨hb, _⟩ | ⟨_, _, _, rfl, ht, hu⟩)
  · omega
  · have hu0 := (h2.trans hX).then hu (fun q hq => .inr (h3 q hq))
    refine ⟨rfl, ⟨cs, _, sy, K, ht, hu0, h3, h4, by simp [putP], by simp [putP, lookB]⟩, hu.mono (fun q _ hq => h1.lt q hq), fun g w'' hg hu2 => ⟨cs, _, sy, K, ht.upd hu2 (fun q hq e => ?_), hu0.then hu2 (fun q hq => .inr ?_), h3, h4, by simp [putP], by simp [putP, lookB]⟩⟩
    · have := h1.lt q hq; omega
    · have := h2.size; omega
end
set_option maxHeartbeats 8000000 in
theorem pagerBytes_walk (xa : Option Addr) (xc : Nat) (bs : Bytes) (w : World) (hW : Sees w 1 (.slice xa bs.length xc) bs.length (bvs bs)) :
    Calls Tryz.prog 5 #[.slice xa bs.length xc] w fun e w' => e = .returned (.bool true) ∧ Below w.heap.size w w' := by
  obtain ⟨n, hn⟩ : ∃ n, bs.length = n := ⟨_, rfl⟩
  have hl := hW.2.1
  rw [hn] at hW hl ⊢
  have hnI : (n : Int) ≤ 9223372036854775807 := by simp only [maxLen] at hl; omega
  have H := Lib.hid (And.intro hW hn)
  clear hW hn hl
  by_cases h512 : 512 < n
  · have h5I : (512 : Int) < (n : Int) := by omega
    go_enter Tryz.func5, Tryz.ntmps5
    go_wp2_with fail
    refine (fixed_ok w).mono ?_
    rintro e w1 ⟨rfl, hu1⟩
    dsimp only
    have HU1 := Lib.hid hu1
    clear hu1
    go_wp2_with fail
    refine (fixed_ok w1).mono ?_
    rintro e w2 ⟨rfl, hu2⟩
    dsimp only
    have HU2 := Lib.hid (HU1.out.trans hu2)
    clear hu2
    go_wp2_with fail
    go_ret
    exact ⟨rfl, HU2.out.below0⟩
  have h5I : (n : Int) ≤ 512 := by omega
  go_enter Tryz.func5, Tryz.ntmps5
  go_wp2_with fail
  refine (fixed_ok w).mono ?_
  rintro e w1 ⟨rfl, hu1⟩
  dsimp only
  have HU1 := Lib.hid hu1
  clear hu1
  go_wp2_with fail
  refine (qnew_ok 20 (by decide) (by decide) w1 20 rfl).mono ?_
  rintro e w2 ⟨db, F, rfl, hD, hu, hF⟩
  dsimp only
  have H1 := Lib.hid (And.intro hD (And.intro (HU1.out.trans hu) (fun q hq => Nat.le_trans HU1.out.size (hF q hq))))
  clear hD hu hF
  go_wp2_with fail
  refine (qmake_ok 6 14 (by decide) (by decide) (by decide) H1.out.1 6 rfl).mono ?_
  rintro e w3 ⟨pb, K3, rfl, hp, hu, hK⟩
  dsimp only
  have H3 : Hid (ByP w w3 pb db 0 zeros512) :=
    ⟨[], 0, K3, hp, H1.out.2.1.then hu (fun q hq => .inr (H1.out.2.2 q hq)), (fun q hq => by
      rcases hK q hq with e | e
      · exact H1.out.2.2 q e
      · exact Nat.le_trans H1.out.2.1.size e), by decide, rfl⟩
  clear hp hu hK H1
  go_wp2_with fail
  refine H3.out.begin.mono ?_
  rintro e w4 ⟨tb, rfl, h4, h4e⟩
  dsimp only
  have H4 : Hid (ByT w w4 tb pb db 0 zeros512) := h4
  have H4e := Lib.hid h4e
  clear h4 h4e H3
  go_wp2_with ((with_reducible apply wpl_append_whole 5 1 1 _ (.slice (some ⟨w4.heap.size, 0, none⟩) 0 0) 0 [] n (bvs bs)))
  · exact Tryz.underlying38
  · exact infoU8r
  · rfl
  · rfl
  · exact ⟨rfl, .inr ⟨w4.heap.size, 0, 0, rfl, Nat.le_refl _, Nat.zero_le _, by simp, (fun j v hj => by cases hj), fun j hj => absurd hj (Nat.not_lt_zero _)⟩⟩
  · intro g off k cap e j hj
    cases e
    simp at hj
  · exact H.out.1.upd (H4.out.upd0.alloc _) (fun _ _ _ h => h)
  · exact bvs_one bs
  · unfold maxLen; omega
  · omega
  intro x5 c5 w5 hm5 hu5 hb5 hw5
  try (simp only [Act.put, List.setIfInBounds_toArray, List.set_cons_zero, List.set_cons_succ])
  have h5 : Upd (fun _ => False) w4 w5 := ((Upd.refl (fun _ => False) w4).alloc (.cells #[] 5)).then hu5 (fun q hq => .inr (by cases hq; exact Nat.le_refl _))
  have ho5 : ∀ q, (Value.slice x5 (0 + n) c5).ownBlock = some q → w4.heap.size ≤ q := fun q hq => by
    rcases hb5 with e | e
    · rw [e] at hq; cases hq; exact Nat.le_refl _
    · rw [e] at hq; cases hq; simp
  rw [Nat.zero_add] at hm5 hw5 ho5 ⊢
  have H5 := Lib.hid (And.intro hm5 (And.intro hw5 (And.intro h5 ho5)))
  clear hm5 hw5 h5 ho5 hb5 hu5
  go_wp2_with ((with_reducible apply wpl_append_whole 5 1 1 _ (.slice x5 n c5) n ([] ++ bvs bs) 1 [.int .u8 7]))
  · exact Tryz.underlying38
  · exact infoU8r
  · rfl
  · rfl
  · exact H5.out.1.upd ((Upd.refl (fun _ => False) w5).alloc _) (fun _ _ h => h)
  · exact H5.out.2.1.upd ((Upd.refl (fun _ => False) w5).alloc _) (fun _ _ h => h) H5.out.1.lt
  · exact Sees.at rfl (by decide) (rangeAt_of_row (heap_alloc_new w5 (.cells ([.int .u8 7] : List Value).toArray 5)) rfl)
  · intro u hu; simp at hu; rw [hu]; rfl
  · unfold maxLen; omega
  · omega
  intro x6 c6 w6 hm6 hu6 hb6 hw6
  try (simp only [Act.put, List.setIfInBounds_toArray, List.set_cons_zero, List.set_cons_succ])
  have h6 : Upd (fun _ => False) w4 w6 := (H5.out.2.2.1.trans ((Upd.refl (fun _ => False) w5).alloc (.cells #[.int .u8 7] 5))).then hu6 (fun q hq => .inr (H5.out.2.2.2 q hq))
  have ho6 : ∀ q, (Value.slice x6 (n + 1) c6).ownBlock = some q → w4.heap.size ≤ q := fun q hq => by
    rcases hb6 with e | e
    · rw [e] at hq; exact H5.out.2.2.2 q hq
    · rw [e] at hq; cases hq; have := H5.out.2.2.1.size; simp; omega
  obtain ⟨g, o, rfl, hg⟩ : ∃ g o, x6 = some ⟨g, o, none⟩ ∧ w6.rangeAt g o ([] ++ bvs bs ++ [.int .u8 7]) := by
    obtain ⟨_, ⟨e, e2⟩ | ⟨g, o, cap, e, _, _, _, hr, _⟩⟩ := hm6
    · omega
    · cases e; exact ⟨g, o, rfl, hr⟩
  rw [List.nil_append] at hg
  have hbl : (bvs bs).length = n := by rw [bvs_length]; exact H.out.2
  have hth := hw6 g o (n + 1) c6 rfl
  have hcap : n + 1 ≤ c6 := by
    obtain ⟨_, ⟨e, e2⟩ | ⟨g', o', cap, e, h1, _⟩⟩ := hm6
    · omega
    · cases e; exact h1
  have hX : XorO w6 g o (n + 1) 0 w6 := ⟨Upd.refl _ _, fun _ _ _ => rfl, fun j hj => (hth j (by omega)).2⟩
  have h7 : w6.cell? ⟨g, o + n, none⟩ = some (.int .u8 7) := hg n _ (by rw [List.getElem?_append_right (by omega), hbl]; simp)
  have hsl : Sees w6 1 (.slice (some ⟨g, o, none⟩) n c6) n (bvs bs) := Sees.at (by rw [hbl, Nat.mul_one]) (by unfold maxLen; omega) (fun j v hj => hg j v (by rw [List.getElem?_append_left (List.getElem?_eq_some_iff.1 hj).1]; exact hj))
  have H6 := Lib.hid (And.intro h6 (And.intro (ho6 g rfl) (And.intro hX (And.intro hsl hg))))
  clear hm6 hu6 hb6 hw6 h6 ho6 hg hX hsl hth H5 hbl
  go_wp2_with fail
  refine (H4e.out.put H6.out.1 _ _ n bs H.out.2 (by omega) H6.out.2.2.2.1).mono ?_
  rintro e w7 ⟨rfl, h7t, hu7, hov⟩
  dsimp only
  have hgn : ¬ g < w4.heap.size := by have := H6.out.2.1; omega
  have h77 : w7.cell? ⟨g, o + n, none⟩ = some (.int .u8 7) := hu7.cell_some h7 hgn
  have hr7 : w7.rangeAt g o (bvs (bs ++ [7])) := by
    rw [bvs_append]
    exact hu7.range H6.out.2.2.2.2 hgn
  have hl7 : (bs ++ [7]).length = n + 1 := by rw [List.length_append, H.out.2]; rfl
  have hx7 : XorO w7 g o (n + 1) 0 w7 := ⟨Upd.refl _ _, fun _ _ _ => rfl, fun j hj => by
    rw [← H6.out.2.2.1.2.2 j hj]
    have hg6 : g < w6.heap.size := World.block_lt_of_cell? _ _ h7
    exact hu7.frozen hg6 hgn⟩
  have H7 := Lib.hid (And.intro h7t (And.intro hr7 (And.intro hx7 (And.intro hl7 (fun w'' hu => hov g w'' (by omega) hu)))))
  clear h7t hu7 hr7 hx7 h7 H4e H4 H6 hgn hov hl7
  go_wp2_with fail
  go_loopw [8] (fun v wx => ∃ j : Nat, j ≤ n + 1 ∧ v = .int .i64 j ∧ Hid (XorO w7 g o (n + 1) j wx)) (fun v _ => n + 1 - (intOf v).toNat)
  case atStart => exact ⟨0, Nat.zero_le _, rfl, H7.out.2.2.1⟩
  case round =>
    obtain ⟨j, hj, rfl, hX⟩ := hrel
    by_cases hjl : j < n + 1
    · have hjl2 : (j : Int) < (n : Int) + 1 := by omega
      obtain ⟨x, hx⟩ : ∃ x : UInt8, (bvs (bs ++ [7]))[j]? = some (bv x) := ⟨_, bvs_get _ j (by rw [H7.out.2.2.2.1]; exact hjl)⟩
      have hcx : wr.cell? ⟨g, o + j, none⟩ = some (.int .u8 x.toNat) := by
        rw [hX.out.2.1 j (Nat.le_refl _) hjl]
        exact H7.out.2.1 j _ hx
      have hfx := hX.out.2.2 j hjl
      have HXs := Lib.hid (fun v => hX.out.step v)
      clear hX hx
      go_wp2_with fail
      exact ⟨⟨j + 1, by omega, by go_num, HXs.out _⟩, by simp [intOf]; omega⟩
    · obtain rfl : j = n + 1 := by omega
      have H8 : Hid (ByT w wr tb pb db 0 (pad bs)) := H7.out.2.2.2.2 wr hX.out.1
      clear hX H7 h77
      go_wp2_with fail
      obtain ⟨n1, hn1⟩ : ∃ n1 : Int, ((n + 1 : Nat) : Int) = n1 := ⟨_, rfl⟩
      simp only [hn1]
      clear hn1
      go_loopw [9, 5] (fun iv tv wr => ∃ i tb : Nat, i ≤ 3 ∧ iv = .int .i64 i ∧ tv = .pointer (some ⟨tb, 0, none⟩) ∧ Hid (ByT w wr tb pb db i (pad bs))) (fun iv _ _ => 3 - (intOf iv).toNat)
      case atStart => exact ⟨0, tb, by decide, rfl, rfl, H8⟩
      case round =>
        clear H8
        obtain ⟨i, tb, hi, rfl, rfl, HR⟩ := hrel
        by_cases hlt : i < 3
        · have hltI : (i : Int) < 3 := by omega
          go_wp2_with fail
          refine HR.out.read.mono ?_
          rintro e wa ⟨g2, o2, xc2, rfl, hs2, hg2, hx2, hua⟩
          dsimp only
          have hsd : Sees wa.drew 1 (.slice xa n xc) n (bvs bs) := ((H.out.1.upd HR.out.upd0 (fun _ _ _ h => h)).upd hua (fun _ _ _ h => h)).upd (Upd.refl (fun _ => False) _).drew (fun _ _ _ h => h)
          have hs2d : Sees wa.drew 1 (.slice (some ⟨g2, o2, none⟩) 512 xc2) 512 (bvs (pad bs)) := hs2.upd (Upd.refl (fun _ => False) _).drew (fun _ _ _ h => h)
          have hful := full_ok (strV bs) wa.drew (by rw [strV_size, H.out.2]; omega)
          have hd0 : (strV bs).data.toList = bs := by simp [strV]
          rw [hd0] at hful
          have hpl : (pad bs).length = 512 := HR.out.len
          have HA := Lib.hid (And.intro hg2 (And.intro hx2 (And.intro hua (And.intro hs2 hpl))))
          have Hful := Lib.hid hful
          have HS : Sees wa.drew 1 (.slice (some ⟨g2, o2, none⟩) 512 xc2) 512 (bvs (pad bs)) ∧ Sees wa.drew 1 (.slice xa n xc) n (bvs bs) := ⟨hs2d, hsd⟩
          clear hs2 hg2 hx2 hua hsd hs2d hful hd0 hpl
          go_wp2_with fail
          refine wp_region_planD (fun u => Sees u 1 (.slice (some ⟨g2, o2, none⟩) 512 xc2) 512 (bvs (pad bs)) ∧ Sees u 1 (.slice xa n xc) n (bvs bs)) 10 [(0, true), (1, true), (2, true), (3, true), (4, true), (5, true), (6, true), (7, false), (8, true), (9, true)] (by kernel_rfl) (by kernel_rfl) (fun d _ _ _ _ h => by cases d <;> exact h) HS ?_
          iterate 4 (first | (apply planD_held rfl rfl rfl (by simp) HS; (intro w' hS K hK; go_simp; exact hK)) | (apply planD_wanted rfl rfl rfl (by simp) HS; (intro w' hS K hK; go_simp; exact hK)))
          apply planD_wanted rfl rfl rfl (by simp) HS
          · intro w' hS K hK
            exact gives_bytes_stringG 5 (.slice (some ⟨g2, o2, none⟩) 512 xc2) (pad bs) Tryz.underlying38 Tryz.underlying5 Tryz.underlying9 rfl (by rw [HA.out.2.2.2.2]; exact hS.1) hK
          try (simp only [Act.put, List.setIfInBounds_toArray, List.set_cons_zero, List.set_cons_succ])
          iterate 1 (first | (apply planD_held rfl rfl rfl (by simp) HS; (intro w' hS K hK; go_simp; exact hK)) | (apply planD_wanted rfl rfl rfl (by simp) HS; (intro w' hS K hK; go_simp; exact hK)))
          apply planD_wanted rfl rfl rfl (by simp) HS
          · intro w' hS K hK
            exact gives_bytes_stringG 5 (.slice xa n xc) bs Tryz.underlying38 Tryz.underlying5 Tryz.underlying9 rfl (by rw [H.out.2]; exact hS.2) hK
          try (simp only [Act.put, List.setIfInBounds_toArray, List.set_cons_zero, List.set_cons_succ])
          refine planD_op rfl rfl (fun K hK => ?_)
          go_simp
          refine Hful.out.mono ?_
          rintro e wb ⟨rfl, hub⟩
          dsimp only
          refine hK _ _ _ (fun u h => h) (fun _ => ⟨HS.1.upd hub (fun _ _ _ h => h), HS.2.upd hub (fun _ _ _ h => h)⟩) ?_
          have HSb : Sees wb 1 (.slice (some ⟨g2, o2, none⟩) 512 xc2) 512 (bvs (pad bs)) ∧ Sees wb 1 (.slice xa n xc) n (bvs bs) := ⟨HS.1.upd hub (fun _ _ _ h => h), HS.2.upd hub (fun _ _ _ h => h)⟩
          have HB : Hid (Upd (fun _ => False) wa wb) := ((Upd.refl (fun _ => False) wa).drew).trans hub
          obtain ⟨z, hz⟩ : ∃ z, strV (pad bs) = z := ⟨_, rfl⟩
          rw [hz]
          clear hK HS hub hz Hful
          try (simp only [Act.put, List.setIfInBounds_toArray, List.set_cons_zero, List.set_cons_succ])
          iterate 2 (first | (apply planD_held rfl rfl rfl (by simp) HSb; (intro w' hS K hK; go_simp; exact hK)) | (apply planD_wanted rfl rfl rfl (by simp) HSb; (intro w' hS K hK; go_simp; exact hK)))
          refine planD_nil ?_
          clear HSb
          have hxb : Hid (XorO wb g2 o2 512 0 wb ∧ wb.rangeAt g2 o2 (bvs (pad bs))) := by
            have hr2 : wa.rangeAt g2 o2 (bvs (pad bs)) := by
              obtain ⟨_, _, x', c', e', hc⟩ := HA.out.2.2.2.1
              cases e'
              obtain ⟨g3, o3, e3, hr⟩ := hc (by decide)
              cases e3
              exact hr
            refine ⟨⟨Upd.refl _ _, fun _ _ _ => rfl, fun j hj => ?_⟩, HB.out.range hr2 (fun h => h)⟩
            rw [← HA.out.2.1.2.2 j hj]
            have hg6 : g2 < wa.heap.size := World.block_lt_of_cell? _ _ (hr2 0 _ (bvs_get _ 0 (by rw [HA.out.2.2.2.2]; decide)))
            exact HB.out.frozen hg6 (fun h => h)
          go_wp2_with fail
          go_loopw [12] (fun v wx => ∃ j : Nat, j ≤ 512 ∧ v = .int .i64 j ∧ Hid (XorO wb g2 o2 512 j wx)) (fun v _ => 512 - (intOf v).toNat)
          case atStart => exact ⟨0, Nat.zero_le _, rfl, hxb.out.1⟩
          case round =>
            obtain ⟨j, hj, rfl, hX⟩ := hrel
            by_cases hjl : j < 512
            · have hjl2 : (j : Int) < 512 := by omega
              obtain ⟨x, hx⟩ : ∃ x : UInt8, (bvs (pad bs))[j]? = some (bv x) := ⟨_, bvs_get _ j (by rw [HA.out.2.2.2.2]; exact hjl)⟩
              have hcx : wr.cell? ⟨g2, o2 + j, none⟩ = some (.int .u8 x.toNat) := by
                rw [hX.out.2.1 j (Nat.le_refl _) hjl]
                exact hxb.out.2 j _ hx
              have hfx := hX.out.2.2 j hjl
              have HXs := Lib.hid (fun v => hX.out.step v)
              clear hX hx
              go_wp2_with fail
              exact ⟨⟨j + 1, by omega, by go_num, HXs.out _⟩, by simp [intOf]; omega⟩
            · obtain rfl : j = 512 := by omega
              have H9 : Hid (ByT w wr tb pb db i (pad bs)) := HR.out.over (HA.out.2.2.1.trans HB.out) HA.out.1 hX.out.1
              clear hX hxb HB HA HR
              by_cases hi1 : i = 1
              · subst hi1
                go_wp2_with fail
                refine (H9.out.commit (by decide)).mono ?_
                rintro e wc ⟨⟨a, r, rfl⟩, hc⟩
                dsimp only
                have HC : Hid (ByP w wc pb db (1 + 1) (pad bs)) := hc
                clear hc H9
                go_wp2_with fail
                refine HC.out.begin.mono ?_
                rintro e wd ⟨tb2, rfl, hd, _⟩
                dsimp only
                have HD : Hid (ByT w wd tb2 pb db (1 + 1) (pad bs)) := hd
                clear hd HC
                go_wp2_with fail
                exact ⟨⟨2, tb2, by omega, by go_num, rfl, HD⟩, by simp [intOf]⟩
              · have hi2 : ((i : Int) == 1) = false := by simp; omega
                have HD : Hid (ByT w wr tb pb db (i + 1) (pad bs)) := by
                  obtain ⟨cs, ds, sy, K, h1, h2, h3, h4, h5⟩ := H9.out
                  exact ⟨cs, ds, sy, K, h1, h2, h3, by omega, h5⟩
                clear H9
                go_wp2_with fail
                exact ⟨⟨i + 1, tb, by omega, by go_num, rfl, HD⟩, by simp [intOf]; omega⟩
        · obtain rfl : i = 3 := by omega
          have HU := Lib.hid HR.out.upd0
          clear HR
          go_wp2_with fail
          refine (nil_begin wr).mono ?_
          rintro e wz ⟨rfl, rfl⟩
          dsimp only
          go_wp2_with fail
          refine (nil_read 0 wr).mono ?_
          rintro e wz ⟨rfl, rfl⟩
          dsimp only
          go_wp2_with fail
          refine (nil_commit wr).mono ?_
          rintro e wz ⟨rfl, rfl⟩
          dsimp only
          go_wp2_with fail
          refine (nil_abort wr).mono ?_
          rintro e wz ⟨rfl, rfl⟩
          dsimp only
          go_wp2_with fail
          refine (nil_write 0 _ wr).mono ?_
          rintro e wz ⟨rfl, rfl⟩
          dsimp only
          go_wp2_with fail
          refine (nil_dirty wr).mono ?_
          rintro e wz ⟨rfl, rfl⟩
          dsimp only
          go_wp2_with fail
          refine (nil_blocks wr).mono ?_
          rintro e wz ⟨rfl, rfl⟩
          dsimp only
          go_wp2_with fail
          refine (nil_done wr).mono ?_
          rintro e wz ⟨rfl, rfl⟩
          dsimp only
          go_wp2_with fail
          refine (nil_synced wr).mono ?_
          rintro e wz ⟨rfl, rfl⟩
          dsimp only
          go_wp2_with fail
          refine (nil_sync wr).mono ?_
          rintro e wz ⟨rfl, rfl⟩
          dsimp only
          go_wp2_with fail
          go_ret
          exact ⟨rfl, HU.out.below0⟩
end Go.Proofs.YtihlijnobbonbaaGreat
