/- Package pager: its memory; Read, Write, Dirty, Abort, Begin, Done, Synced of one that lives. -/
import Derived.Test.YtihlijnobbonbaaGreatLayP
import Derived.Test.YtihlijnobbonbaaGreatPm2
import Derived.Test.YtihlijnobbonbaaGreatPg3
namespace Go.Proofs.YtihlijnobbonbaaGreat
open Go Go.RowKit
set_option linter.unusedSimpArgs false
set_option linter.unusedVariables false
set_option maxRecDepth 100000

theorem look_imgs (k : Int) : ∀ (es : Img) (i : Nat), (findIx k (imgs es) i).map (·.2) = (lookB es k).map (fun x => Value.agg (bvs x).toArray)
  | [], _ => rfl
  | p :: r, i => by
    rw [imgs, List.map_cons, findIx, lookB]
    by_cases h : k = p.1
    · rw [if_pos h, if_pos h]; rfl
    · rw [if_neg h, if_neg h]
      exact look_imgs k r (i + 1)
theorem lookV_imgs (es : Img) (k : Int) : lookV (imgs es) k = (lookB es k).map (fun x => Value.agg (bvs x).toArray) := look_imgs k es 0
theorem putB_go (k : Int) (x : Bytes) : ∀ (es pre : Img), (match findIx k (imgs es) pre.length with
    | some (i, _) => (pre ++ es).set i (k, x)
    | none => (pre ++ es) ++ [(k, x)]) = pre ++ putP es k x
  | [], pre => by simp [imgs, findIx, putP]
  | p :: r, pre => by
    rw [imgs, List.map_cons, findIx, putP]
    by_cases h : k = p.1
    · rw [if_pos h, if_pos h]
      show (pre ++ p :: r).set pre.length (k, x) = _
      rw [List.set_append_right _ _ (Nat.le_refl _), Nat.sub_self]
      rfl
    · rw [if_neg h, if_neg h]
      have ih := putB_go k x r (pre ++ [p])
      simpa [imgs] using ih
theorem putB_putP (es : Img) (k : Int) (x : Bytes) : putB es k x = putP es k x := putB_go k x es []
theorem imgs_putP (es : Img) (k : Int) (x : Bytes) : imgs (putP es k x) = putV (imgs es) k (.agg (bvs x).toArray) := by rw [← putB_putP, imgs_putB]

def pgD (db lb skip fb : Nat) (ot : Option Addr) (dd : Bool) : List Value := [.pointer (some ⟨db, 0, none⟩), .pointer (some ⟨lb, 0, none⟩), .int .i64 skip, .int .i64 ((skip - 1 : Nat) : Int), .map (some fb), .pointer ot, .bool dd]
theorem pgD_alive (db lb skip fb : Nat) (ot : Option Addr) : pgD db lb skip fb ot false = pgV db lb skip (skip - 1) fb ot := rfl
/-- A pager: its block pb, the fresh map fb, the log lb on the disk db, F: the blocks of log and disk. -/
structure PgAt (w : World) (pb db lb fb skip : Nat) (ot : Option Addr) (dd : Bool) (L : LSt) (D : DSt) (es : Img) (F : Nat → Prop) : Prop where
  pg : CellsA w pb 85 (pgD db lb skip fb ot dd)
  fresh : MapAt w fb (imgs es)
  wal : WalAt w lb db L D F
  ne : fb ≠ pb
  g1 : ¬ F pb
  g2 : ¬ F fb
def ownP (pb fb : Nat) (F : Nat → Prop) (q : Nat) : Prop := q = pb ∨ q = fb ∨ F q
theorem PgAt.upd {w w' : World} {pb db lb fb skip : Nat} {ot : Option Addr} {dd : Bool} {L : LSt} {D : DSt} {es : Img} {F : Nat → Prop} (h : PgAt w pb db lb fb skip ot dd L D es F) {H : Nat → Prop} (hu : Upd H w w') (hf : ∀ q, ownP pb fb F q → ¬ H q) : PgAt w' pb db lb fb skip ot dd L D es F :=
  ⟨h.pg.upd hu (hf _ (.inl rfl)), h.fresh.upd hu (hf _ (.inr (.inl rfl))), h.wal.upd hu (fun q hq => hf q (.inr (.inr hq))), h.ne, h.g1, h.g2⟩
theorem PgAt.lt {w : World} {pb db lb fb skip : Nat} {ot : Option Addr} {dd : Bool} {L : LSt} {D : DSt} {es : Img} {F : Nat → Prop} (h : PgAt w pb db lb fb skip ot dd L D es F) : ∀ q, ownP pb fb F q → q < w.heap.size := by
  rintro q (rfl | rfl | hq)
  · exact h.pg.lt
  · exact h.fresh.lt
  · exact h.wal.lt q hq
/-- A transaction that is open, of a pager that lives; ds: what it has written. -/
structure TxP (w : World) (tb mb pb db lb fb skip : Nat) (L : LSt) (D : DSt) (ds es : Img) (F : Nat → Prop) : Prop where
  pg : PgAt w pb db lb fb skip (some ⟨tb, 0, none⟩) false L D es F
  tx : CellsA w tb 91 [.pointer (some ⟨pb, 0, none⟩), .map (some mb)]
  dirty : MapAt w mb (imgs ds)
  n1 : mb ≠ tb
  n2 : ¬ ownP pb fb F tb
  n3 : ¬ ownP pb fb F mb
def ownTx (tb mb pb fb : Nat) (F : Nat → Prop) (q : Nat) : Prop := q = tb ∨ q = mb ∨ ownP pb fb F q
section
variable {w w' : World} {tb mb pb db lb fb skip N T : Nat} {L : LSt} {D : DSt} {ds es : Img} {cs : List Img} {F : Nat → Prop}
theorem TxP.upd (h : TxP w tb mb pb db lb fb skip L D ds es F) {H : Nat → Prop} (hu : Upd H w w') (hf : ∀ q, ownTx tb mb pb fb F q → ¬ H q) : TxP w' tb mb pb db lb fb skip L D ds es F :=
  ⟨h.pg.upd hu (fun q hq => hf q (.inr (.inr hq))), h.tx.upd hu (hf _ (.inl rfl)), h.dirty.upd hu (hf _ (.inr (.inl rfl))), h.n1, h.n2, h.n3⟩
theorem TxP.lt (h : TxP w tb mb pb db lb fb skip L D ds es F) : ∀ q, ownTx tb mb pb fb F q → q < w.heap.size := by
  rintro q (rfl | rfl | hq)
  · exact h.tx.lt
  · exact h.dirty.lt
  · exact h.pg.lt q hq
theorem TxP.s (h : TxP w tb mb pb db lb fb skip L D ds es F) (hl : D.secs.length = skip + N) (hd : ∀ p ∈ ds, p.2.length = 512) :
    ∃ G, TxS w tb pb mb db lb fb skip (skip - 1) N (some ⟨tb, 0, none⟩) D ds G ∧ (∀ q, G q → F q) := by
  obtain ⟨G, hD, hG⟩ := h.pg.wal.disk
  exact ⟨G, ⟨h.tx, h.pg.pg, h.dirty, hD, hl, hd, fun e => h.n2 (.inl e), h.n1, fun e => h.n3 (.inl e), fun e => h.n2 (.inr (.inr (hG _ e))), fun e => h.pg.g1 (hG _ e), fun e => h.n3 (.inr (.inr (hG _ e)))⟩, hG⟩
theorem lens_of (hd : EsOk N ds) : ∀ p ∈ ds, p.2.length = 512 := fun p hp => (hd.rng p hp).2.2
/-- Write. -/
theorem pwrite_ok (h : TxP w tb mb pb db lb fb skip L D ds es F) (hl : D.secs.length = skip + N) (hd : EsOk N ds) (b : Int) (hb : -9223372036854775808 ≤ b) (hb2 : b ≤ 9223372036854775807) (xd : Option Addr) (xc : Nat) (dl : Bytes)
    (hs : Sees w 1 (.slice xd dl.length xc) dl.length (bvs dl)) : Calls Tryz.prog 15 #[.pointer (some ⟨tb, 0, none⟩), .int .i64 b, .slice xd dl.length xc] w fun e w' =>
      ((b < 0 ∨ (N : Int) ≤ b ∨ 512 < dl.length) ∧ e = .returned (.int .i64 1) ∧ Upd (fun _ => False) w w') ∨
      (0 ≤ b ∧ b < (N : Int) ∧ dl.length ≤ 512 ∧ e = .returned (.int .i64 0) ∧ TxP w' tb mb pb db lb fb skip L D (putP ds b (pad dl)) es F ∧ EsOk N (putP ds b (pad dl)) ∧ Upd (fun q => q = mb) w w') := by
  obtain ⟨G, hS, hG⟩ := h.s hl (lens_of hd)
  refine (txwrite_ok hS b hb hb2 xd xc dl hs).mono ?_
  rintro e w' ⟨r, rfl, ⟨a1, rfl, a3⟩ | ⟨a1, a2, a3, rfl, a4, a5⟩⟩
  · exact .inl ⟨a1, rfl, a3⟩
  · rw [putB_putP] at a4
    refine .inr ⟨a1, a2, a3, rfl, ⟨h.pg.upd a5 (fun q hq e => h.n3 (e ▸ hq)), a4.tx, a4.dirty, h.n1, h.n2, h.n3⟩, hd.put a1 a2 (pad_length a3), a5⟩
/-- Begin. -/
theorem pbegin_ok (h : PgAt w pb db lb fb skip none false L D es F) (hl : D.secs.length = skip + N) : Calls Tryz.prog 13 #[.pointer (some ⟨pb, 0, none⟩)] w fun e w' =>
    ∃ tb mb, e = .returned (.tuple #[.pointer (some ⟨tb, 0, none⟩), .int .i64 0]) ∧ w.heap.size ≤ tb ∧ w.heap.size ≤ mb ∧ TxP w' tb mb pb db lb fb skip L D [] es F ∧ Upd (fun q => q = pb) w w' := by
  obtain ⟨G, hD, hG⟩ := h.wal.disk
  have hlt := h.lt
  refine (begin_ok h.pg hD hl (fun e => h.g1 (hG _ e))).mono ?_
  rintro e w' ⟨tb, mb, rfl, a1, a2, a3, a4⟩
  refine ⟨tb, mb, rfl, a1, a2, ⟨⟨a3.pg, h.fresh.upd a4 h.ne, h.wal.upd a4 (fun q hq e => h.g1 (e ▸ hq)), h.ne, h.g1, h.g2⟩, a3.tx, a3.dirty, a3.ne2, fun e => ?_, fun e => ?_⟩, a4⟩
  · have := hlt _ e; omega
  · have := hlt _ e; omega
/-- Dirty. -/
theorem pdirty_ok (h : TxP w tb mb pb db lb fb skip L D ds es F) : Calls Tryz.prog 26 #[.pointer (some ⟨tb, 0, none⟩)] w fun e w' => e = .returned (.int .i64 (ds.length : Nat)) ∧ w = w' := by
  have c0 := h.tx.cell 0
  have c1 := h.tx.cell 1
  simp only [List.getElem?_cons_zero, List.getElem?_cons_succ] at c0 c1
  obtain ⟨en, ck, hm, he, _⟩ := h.dirty
  have hlen : en.size = ds.length := by have := congrArg List.length he; simpa [imgs] using this
  have hln : ∀ ty, (Builtin.len_ #[83] ty #[.map (some mb)]).run Tryz.prog w = .ok (.int .i64 (ds.length : Nat)) w := fun ty => by
    rw [← hlen]
    exact run_len_map (w := w) 83 ty mb en ck (by kernel_rfl) hm
  clear h hm he hlen
  go_enter Tryz.func26, Tryz.ntmps26
  go_wp2_with fail
  go_ret
  exact ⟨rfl, rfl⟩
/-- Abort. -/
theorem pabort_ok (h : TxP w tb mb pb db lb fb skip L D ds es F) : Calls Tryz.prog 17 #[.pointer (some ⟨tb, 0, none⟩)] w fun e w' => e = .returned (.tuple #[]) ∧ PgAt w' pb db lb fb skip none false L D es F ∧ Upd (fun q => q = tb ∨ q = pb) w w' := by
  have c0 := h.tx.cell 0
  have f0 := h.tx.frozen 0
  have c5 := h.pg.pg.cell 5
  have f5 := h.pg.pg.frozen 5
  have hne : tb ≠ pb := fun e => h.n2 (.inl e)
  simp only [pgD, List.getElem?_cons_zero, List.getElem?_cons_succ] at c0 c5
  have H := Lib.hid h
  clear h
  go_enter Tryz.func17, Tryz.ntmps17
  go_wp2_with fail
  go_end0
  have h := H.out
  have u1 : Upd (fun q => q = tb ∨ q = pb) w ((w.setCell ⟨pb, 5, none⟩ (.pointer none)).setCell ⟨tb, 0, none⟩ (.pointer none)) := ((Upd.refl _ w).setCell _ (.inl (.inr rfl))).setCell _ (.inl (.inl rfl))
  have p1 : CellsA ((w.setCell ⟨pb, 5, none⟩ (.pointer none)).setCell ⟨tb, 0, none⟩ (.pointer none)) pb 85 (pgD db lb skip fb none false) := (h.pg.pg.set 5 (.pointer none)).upd ((Upd.refl (fun q => q = tb) _).setCell _ (.inl rfl)) (fun e => hne e.symm)
  refine ⟨rfl, ⟨p1, h.pg.fresh.upd u1 ?_, h.pg.wal.upd u1 ?_, h.pg.ne, h.pg.g1, h.pg.g2⟩, u1⟩
  · rintro (e | e)
    · exact h.n2 (.inr (.inl e.symm))
    · exact h.pg.ne e
  · rintro q hq (e | e)
    · exact h.n2 (.inr (.inr (e ▸ hq)))
    · exact h.pg.g1 (e ▸ hq)
/-- Done, Synced. -/
theorem pdone_ok {ot : Option Addr} {dd : Bool} (h : PgAt w pb db lb fb skip ot dd L D es F) : Calls Tryz.prog 14 #[.pointer (some ⟨pb, 0, none⟩)] w fun e w' => e = .returned (.int .i64 (L.last : Nat)) ∧ w = w' := by
  have c1 := h.pg.cell 1
  simp only [pgD, List.getElem?_cons_zero, List.getElem?_cons_succ] at c1
  obtain ⟨lv, G, h0, h1, h2, _⟩ := h.wal
  have HL := Lib.hid (last_ok9 h1)
  clear h h0 h1 h2
  go_enter Tryz.func14, Tryz.ntmps14
  go_wp2_with fail
  refine HL.out.mono ?_
  rintro e w1 ⟨rfl, rfl⟩
  dsimp only
  go_wp2_with fail
  go_ret
  exact ⟨rfl, rfl⟩
theorem psynced_ok {ot : Option Addr} {dd : Bool} (h : PgAt w pb db lb fb skip ot dd L D es F) : Calls Tryz.prog 24 #[.pointer (some ⟨pb, 0, none⟩)] w fun e w' => e = .returned (.int .i64 (L.synced : Nat)) ∧ w = w' := by
  have c1 := h.pg.cell 1
  simp only [pgD, List.getElem?_cons_zero, List.getElem?_cons_succ] at c1
  obtain ⟨lv, G, h0, h1, h2, _⟩ := h.wal
  have HL := Lib.hid (synced_ok9 h1)
  clear h h0 h1 h2
  go_enter Tryz.func24, Tryz.ntmps24
  go_wp2_with fail
  refine HL.out.mono ?_
  rintro e w1 ⟨rfl, rfl⟩
  dsimp only
  go_wp2_with fail
  go_ret
  exact ⟨rfl, rfl⟩
/-- fail. -/
theorem pfail_ok {ot : Option Addr} {dd : Bool} (h : PgAt w pb db lb fb skip ot dd L D es F) (e : Int) (he : e = 0 ∨ e ≠ 0) : Calls Tryz.prog 49 #[.pointer (some ⟨pb, 0, none⟩), .int .i64 e] w fun r w' =>
    r = .returned (.int .i64 (failE e)) ∧ PgAt w' pb db lb fb skip ot (if e = 0 then dd else true) L D es F ∧ Upd (fun q => q = pb) w w' := by
  have f6 := h.pg.frozen 6
  have c6 := h.pg.cell 6
  simp only [pgD, List.getElem?_cons_zero, List.getElem?_cons_succ] at c6
  have H := Lib.hid h
  clear h
  rcases he with rfl | he
  · go_enter Tryz.func49, Tryz.ntmps49
    go_wp2_with fail
    go_ret
    exact ⟨rfl, H.out, Upd.refl _ _⟩
  · have hd : (e != 0) = true := by simpa using he
    rw [if_neg he, failE, if_neg he]
    go_enter Tryz.func49, Tryz.ntmps49
    go_wp2_with fail
    go_ret
    have h := H.out
    have u1 : Upd (fun q => q = pb) w (w.setCell ⟨pb, 6, none⟩ (.bool true)) := (Upd.refl _ w).setCell _ (.inl rfl)
    refine ⟨rfl, ⟨h.pg.set 6 (.bool true), h.fresh.upd u1 h.ne, h.wal.upd u1 (fun q hq e => h.g1 (e ▸ hq)), h.ne, h.g1, h.g2⟩, u1⟩
end
end Go.Proofs.YtihlijnobbonbaaGreat
