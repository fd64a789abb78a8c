/- Package wal: contracts, first part. -/
import Derived.Test.YtihlijnobbonbaaGreatKBase
import Derived.Test.YtihlijnobbonbaaGreatKPlain
import Derived.Test.YtihlijnobbonbaaGreatKDisk
import Derived.Test.YtihlijnobbonbaaGreatKCrc
import Derived.Lib.SlBytesConst
import Derived.Deep.LoopGhost
set_option linter.unusedSimpArgs false
set_option linter.unusedVariables false
/- Contracts of package wal: put, get. -/
namespace Go.Proofs.YtihlijnobbonbaaGreat
open Go.RowKit
set_option linter.unusedSimpArgs false
set_option linter.unusedVariables false
set_option maxRecDepth 100000

theorem infoU8 : (Tryz.prog.info? 5).map (fun i => (i.zero, i.size, i.bytes)) = some (some (.int .u8 0), 1, 1) := by kernel_rfl
theorem bv_nat (n : Nat) : bv (UInt8.ofNat (n % 256)) = .int .u8 ((n % 256 : Nat) : Int) := by
  have : (UInt8.ofNat (n % 256)).toNat = n % 256 := by simp
  rw [bv, this]

set_option maxHeartbeats 2000000 in
theorem put_ok (v : Value) (l : Bytes) (N size : Nat) (w : World) (hv : Mid w 1 v l.length (bvs l)) (hN : N < 18446744073709551616) (hs : size ≤ 8) (hl : l.length ≤ 100000000000000) :
    Calls Tryz.prog 66 #[v, .int .u64 N, .int .i64 size] w fun e w' => ∃ x' c', e = .returned (.slice x' (l.length + size) c') ∧ Mid w' 1 (.slice x' (l.length + size) c') (l.length + size) (bvs (l ++ leB size N)) ∧
      Upd (fun k => v.ownBlock = some k) w w' ∧ (∀ k, (Value.slice x' (l.length + size) c').ownBlock = some k → v.ownBlock = some k ∨ w.heap.size ≤ k) := by
  obtain ⟨x0, c0, rfl⟩ := hv.sees.shape
  have hs2 : (size : Int) ≤ 8 := by omega
  have Hl := Lib.hid (And.intro hl (And.intro hs hN))
  let R : Nat → Option Addr → Nat → World → Prop := fun k x c wr => Mid wr 1 (.slice x (l.length + k) c) (l.length + k) (bvs (l ++ leB k N)) ∧ Upd (fun j => (Value.slice x0 l.length c0).ownBlock = some j) w wr ∧ (∀ j, (Value.slice x (l.length + k) c).ownBlock = some j → (Value.slice x0 l.length c0).ownBlock = some j ∨ w.heap.size ≤ j)
  have HR0 : Hid (R 0 x0 c0 w) := ⟨by simpa [leB] using hv, Upd.refl _ _, fun j hj => .inl hj⟩
  clear hv hl hs hN
  go_enter Tryz.func66, Tryz.ntmps66
  go_wp2_with fail
  go_loopw [0, 1, 8] (fun b n i wr => ∃ (k : Nat) (x : Option Addr) (c : Nat), k ≤ size ∧ i = .int .i64 k ∧ n = .int .u64 ((N / 256 ^ k : Nat) : Int) ∧ b = .slice x (l.length + k) c ∧ Hid (R k x c wr)) (fun _ _ i _ => size - (intOf i).toNat)
  case atStart => exact ⟨0, x0, c0, Nat.zero_le _, rfl, by simp, rfl, HR0⟩
  case round =>
    clear HR0
    obtain ⟨k, x, c, hk, rfl, rfl, rfl, HR⟩ := hrel
    by_cases hlt : k < size
    · have hlt2 : (k : Int) < (size : Int) := by omega
      obtain ⟨M, hM⟩ : ∃ M, N / 256 ^ k = M := ⟨_, rfl⟩
      rw [hM]
      have HM := Lib.hid hM
      clear hM
      go_wp2_with ((with_reducible apply wpl_append_mid 5 1 1 _ (.slice x (l.length + k) c) (l.length + k) (bvs (l ++ leB k N)) 1 [.int .u8 ((M : Int) % 256)]))
      · exact Tryz.underlying38
      · exact infoU8
      · rfl
      · rfl
      · exact HR.out.1.upd ((Upd.refl (fun _ => False) wr).alloc _) (fun _ _ h => h)
      · exact Sees.at rfl (by decide) (rangeAt_of_row (heap_alloc_new wr (.cells ([.int .u8 ((M : Int) % 256)] : List Value).toArray 5)) rfl)
      · intro u hu; simp at hu; rw [hu]; rfl
      · have := Hl.out; unfold maxLen; omega
      · have := Hl.out; omega
      intro x' c' w4 hmid hu hbk
      try (simp only [Act.put, List.setIfInBounds_toArray, List.set_cons_zero, List.set_cons_succ])
      have hput : bvs (l ++ leB k N) ++ [.int .u8 ((M : Int) % 256)] = bvs (l ++ leB (k + 1) N) := by
        rw [leB_snoc, ← List.append_assoc, bvs_append (l ++ leB k N), HM.out]
        congr 1
        show _ = [bv _]
        rw [bv_nat]
        simp
      rw [hput] at hmid
      have hR : R (k + 1) x' c' w4 := by
        have hs := HR.out.2.1.size
        refine ⟨hmid, ((HR.out.2.1.alloc _).then hu (fun j hj => ?_)), fun j hj => ?_⟩
        · rcases HR.out.2.2 j hj with h | h
          · exact .inl h
          · exact .inr h
        · rcases hbk with hb | hb
          · exact HR.out.2.2 j (by rw [← hb]; exact hj)
          · have e : (Value.slice x' (l.length + (k + 1)) c').ownBlock = (Value.slice x' (l.length + k + 1) c').ownBlock := rfl
            rw [e, hb] at hj
            simp at hj
            exact .inr (by omega)
      have HR2 : Hid (R (k + 1) x' c' w4) := hR
      have hdiv : (M : Int) / 256 = ((N / 256 ^ (k + 1) : Nat) : Int) := by
        rw [← HM.out, Nat.pow_succ, ← Nat.div_div_eq_div_mul]; omega
      have Hdiv := Lib.hid hdiv
      clear hmid hu hbk hput hR hdiv HR
      go_wp2_with fail
      exact ⟨⟨k + 1, x', c', by omega, by go_num, by rw [← Hdiv.out], rfl, HR2⟩, by simp [intOf]; omega⟩
    · obtain rfl : k = size := by omega
      go_wp2_with fail
      go_ret
      exact ⟨x, c, rfl, HR.out.1, HR.out.2.1, HR.out.2.2⟩
end Go.Proofs.YtihlijnobbonbaaGreat
/- Contracts of package wal: get. -/
namespace Go.Proofs.YtihlijnobbonbaaGreat
open Go.RowKit
set_option linter.unusedSimpArgs false
set_option linter.unusedVariables false
set_option maxRecDepth 100000

theorem or_byte (n b : Nat) (hn : n < 2 ^ 56) (hb : b < 256) : bits BinOp.or IntKind.u64 ((n * 256 : Nat) : Int) (b : Int) = ((b + 256 * n : Nat) : Int) := by
  have h : (BitVec.ofInt 64 ((n * 256 : Nat) : Int) ||| BitVec.ofInt 64 (b : Int)).toNat = b + 256 * n := by
    rw [BitVec.ofInt_natCast, BitVec.ofInt_natCast, BitVec.toNat_or, BitVec.toNat_ofNat, BitVec.toNat_ofNat, Nat.mod_eq_of_lt (by omega), Nat.mod_eq_of_lt (by omega)]
    have := Nat.shiftLeft_add_eq_or_of_lt (i := 8) (b := b) (by omega) n
    rw [Nat.shiftLeft_eq] at this
    rw [← this]; omega
  show IntKind.u64.wrap (((BitVec.ofInt 64 ((n * 256 : Nat) : Int) ||| BitVec.ofInt 64 (b : Int)).toNat : Nat) : Int) = _
  rw [h]
  show ((b + 256 * n : Nat) : Int) % 18446744073709551616 = _
  omega

theorem unB_drop (bs : Bytes) (size j : Nat) (hj : j < size) (hs : size ≤ bs.length) : unB ((bs.take size).drop j) = (bs[j]'(by omega)).toNat + 256 * unB ((bs.take size).drop (j + 1)) := by
  have h : j < (bs.take size).length := by simp; omega
  rw [List.drop_eq_getElem_cons h, unB]
  simp

set_option maxHeartbeats 2000000 in
theorem get_ok (xa : Option Addr) (n xc : Nat) (bs : Bytes) (size : Nat) (w : World) (hv : Sees w 1 (.slice xa n xc) bs.length (bvs bs)) (hs : size ≤ 8) (hl : size ≤ bs.length) :
    Calls Tryz.prog 72 #[.slice xa n xc, .int .i64 size] w fun e w' => e = .returned (.int .u64 (unB (bs.take size))) ∧ w = w' := by
  obtain ⟨_, hm, x', c', e', _⟩ := id hv
  cases e'
  have hs2 : (size : Int) ≤ 8 := by omega
  have hlm : (bs.length : Int) ≤ 9223372036854775807 := by unfold maxLen at hm; omega
  have Hv := Lib.hid (And.intro hv (And.intro hs hl))
  clear hv hs hl hm
  go_enter Tryz.func72, Tryz.ntmps72
  go_wp2_with fail
  go_loop [5, 6] (fun n i => ∃ (k : Nat), k ≤ size ∧ i = .int .i64 ((k : Int) - 1) ∧ n = .int .u64 ((unB ((bs.take size).drop k) : Nat) : Int)) (fun _ i => (intOf i + 1).toNat)
  case atStart => exact ⟨size, Nat.le_refl _, rfl, by rw [List.drop_eq_nil_of_le (by simp; omega)]; rfl⟩
  case round =>
    obtain ⟨k, hk, rfl, rfl⟩ := hrel
    by_cases h0 : k = 0
    · subst h0
      have hneg : decide ((0 : Int) ≤ ((0 : Nat) : Int) - 1) = false := by decide
      go_wp2_with fail
      go_ret
      exact ⟨by simp, rfl⟩
    · obtain ⟨j, rfl⟩ : ∃ j, k = j + 1 := ⟨k - 1, by omega⟩
      have e1 : ((j + 1 : Nat) : Int) - 1 = (j : Int) := by omega
      have hjlen : j < bs.length := by have := Hv.out.2.2; omega
      have hd := unB_drop bs size j (by omega) Hv.out.2.2
      have hlt := unB_lt ((bs.take size).drop (j + 1))
      have hlt2 : unB ((bs.take size).drop (j + 1)) < 2 ^ 56 := by
        refine Nat.lt_of_lt_of_le hlt ?_
        have : ((bs.take size).drop (j + 1)).length ≤ 7 := by have := Hv.out.2.1; simp; omega
        calc 256 ^ ((bs.take size).drop (j + 1)).length ≤ 256 ^ 7 := Nat.pow_le_pow_right (by decide) this
          _ = 2 ^ 56 := by decide
      obtain ⟨M, hM⟩ : ∃ M, unB ((bs.take size).drop (j + 1)) = M := ⟨_, rfl⟩
      obtain ⟨x, hx⟩ : ∃ x, bs[j]'hjlen = x := ⟨_, rfl⟩
      obtain ⟨_, _, xo, cc, e', hc⟩ := Hv.out.1
      cases e'
      obtain ⟨g, off, rfl, hr⟩ := hc (by have := Hv.out.2.2; omega)
      have hcell : w.cell? ⟨g, off + j, none⟩ = some (.int .u8 x.toNat) := by
        have := hr j (bv bs[j]) (bvs_get bs j (by have := Hv.out.2.2; omega))
        rw [this, hx]; rfl
      rw [hM, hx] at hd
      rw [hM] at hlt2
      have hor := or_byte M x.toNat hlt2 x.toNat_lt
      have hjl : (j : Int) < (bs.length : Int) := by have := Hv.out.2.2; omega
      have hj0 : (0 : Int) ≤ (j : Int) := by omega
      have hwr : IntKind.u64.wrap ((M : Int) * 256) = ((M * 256 : Nat) : Int) := by
        show ((M : Int) * 256) % 18446744073709551616 = _
        omega
      have hwx : IntKind.u64.wrap (x.toNat : Int) = (x.toNat : Int) := by
        have := x.toNat_lt
        show (x.toNat : Int) % 18446744073709551616 = _
        omega
      have hfin : bits BinOp.or IntKind.u64 (IntKind.u64.wrap ((M : Int) * 256)) (IntKind.u64.wrap (x.toNat : Int)) = ((unB ((bs.take size).drop j) : Nat) : Int) := by
        rw [hwx, hwr, hor, hd]
      have Hd := Lib.hid hfin
      rw [hM, e1]
      clear hlt hlt2 hM hx hr hc hd e1 hwx hfin hwr hor
      go_wp2_with fail
      exact ⟨⟨j, by omega, rfl, by rw [Hd.out]⟩, by simp [intOf]⟩
end Go.Proofs.YtihlijnobbonbaaGreat
/- The log in memory; its small functions. -/
namespace Go.Proofs.YtihlijnobbonbaaGreat
open Go.RowKit
set_option linter.unusedSimpArgs false
set_option linter.unusedVariables false
set_option maxRecDepth 100000

def entryV (p : Nat × Nat) : List Value := [.int .i64 (p.1 : Nat), .int .i64 (p.2 : Nat)]
def listV (l : List (Nat × Nat)) : List Value := l.flatMap entryV
theorem entryV_length (p : Nat × Nat) : (entryV p).length = 2 := rfl
theorem listV_length (l : List (Nat × Nat)) : (listV l).length = l.length * 2 := flat_length entryV 2 l (fun p _ => entryV_length p)
def preL (L : LSt) (db : Nat) (lv : Value) : List Value :=
  [.pointer (some ⟨db, 0, none⟩), .int .i64 L.fr, .int .i64 L.n, .int .i64 L.start, .int .i64 L.used, lv, .int .i64 L.last, .int .i64 L.synced, .bool L.dead]
/-- A Log's cells: the first nine, and the table. -/
def Cells9 (w : World) (lb : Nat) (pre : List Value) : Prop := ∃ c, Ready w lb 9 pre [] 140 c

theorem Cells9.heap {w : World} {lb : Nat} {pre : List Value} (h : Cells9 w lb pre) : pre.length = 9 ∧ ∃ rest : List Value, w.heap[lb]? = some (.cells (pre ++ rest).toArray 140 (0, 0)) := by
  obtain ⟨c, ⟨rows, h⟩ | h⟩ := h
  · exact ⟨h.1, _, by rw [h.heap, List.append_assoc]⟩
  · exact ⟨h.1, _, by rw [h.heap, List.append_assoc]⟩
theorem Cells9.cell {w : World} {lb : Nat} {pre : List Value} (h : Cells9 w lb pre) (i : Nat) (hi : i < 9) : w.cell? ⟨lb, i, none⟩ = pre[i]? := by
  obtain ⟨hl, rest, hh⟩ := h.heap
  rw [cell_of_row _ _ _ _ _ _ hh]
  simp only [List.getElem?_toArray]
  rw [List.getElem?_append_left (by omega)]
theorem Cells9.lt {w : World} {lb : Nat} {pre : List Value} (h : Cells9 w lb pre) : lb < w.heap.size := by
  obtain ⟨_, rest, hh⟩ := h.heap
  exact lt_of_block hh
theorem Cells9.frozen {w : World} {lb : Nat} {pre : List Value} (h : Cells9 w lb pre) (i : Nat) : w.frozen? ⟨lb, i, none⟩ = false := by
  obtain ⟨_, rest, hh⟩ := h.heap
  exact unfrozen hh i
theorem Cells9.upd {w w' : World} {lb : Nat} {pre : List Value} {F : Nat → Prop} (h : Cells9 w lb pre) (hu : Upd F w w') (hf : ¬ F lb) : Cells9 w' lb pre := by
  obtain ⟨c, ⟨rows, h⟩ | h⟩ := h
  · exact ⟨c, .inl ⟨rows, h.upd hu hf⟩⟩
  · exact ⟨c, .inr (h.upd hu hf)⟩
theorem tab_pre {b o : Nat} {pre post : List Value} {t : TypeId} {w : World} {d m : Int} {rows : List (BitVec 32)} {c : Int} (h : TabAt w b o pre post t d m rows c) (i : Nat) (hi : i < o) (v : Value) : TabAt (w.setCell ⟨b, i, none⟩ v) b o (pre.set i v) post t d m rows c := by
  have hl := h.1
  refine ⟨by rw [List.length_set]; exact h.1, h.2.1, ?_⟩
  rw [stored h.2.2, List.setIfInBounds_toArray, List.append_assoc, List.set_append_left _ _ (by omega), List.append_assoc]
theorem Cells9.set {w : World} {lb : Nat} {pre : List Value} (h : Cells9 w lb pre) (i : Nat) (hi : i < 9) (v : Value) : Cells9 (w.setCell ⟨lb, i, none⟩ v) lb (pre.set i v) := by
  obtain ⟨c, ⟨rows, h⟩ | h⟩ := h
  · exact ⟨c, .inl ⟨rows, tab_pre h i hi v⟩⟩
  · exact ⟨c, .inr (tab_pre h i hi v)⟩
theorem nine {w : World} {lb : Nat} {v0 v1 v2 v3 v4 v5 v6 v7 v8 : Value} (h : Cells9 w lb [v0, v1, v2, v3, v4, v5, v6, v7, v8]) :
    w.cell? ⟨lb, 0, none⟩ = some v0 ∧ w.cell? ⟨lb, 1, none⟩ = some v1 ∧ w.cell? ⟨lb, 2, none⟩ = some v2 ∧ w.cell? ⟨lb, 3, none⟩ = some v3 ∧ w.cell? ⟨lb, 4, none⟩ = some v4 ∧ w.cell? ⟨lb, 5, none⟩ = some v5 ∧ w.cell? ⟨lb, 6, none⟩ = some v6 ∧ w.cell? ⟨lb, 7, none⟩ = some v7 ∧ w.cell? ⟨lb, 8, none⟩ = some v8 :=
  ⟨h.cell 0 (by decide), h.cell 1 (by decide), h.cell 2 (by decide), h.cell 3 (by decide), h.cell 4 (by decide), h.cell 5 (by decide), h.cell 6 (by decide), h.cell 7 (by decide), h.cell 8 (by decide)⟩
/-- The sum of bytes, by the log's own table. -/
theorem sum9 {w : World} {lb : Nat} {pre : List Value} (h : Cells9 w lb pre) (v : Value) (bs : Bytes) (hv : Sees w 1 v bs.length (bvs bs)) (hvb : ∀ k, v.ownBlock = some k → 0 < bs.length → k ≠ lb) :
    Calls Tryz.prog 67 #[.pointer (some ⟨lb, 9, none⟩), v] w fun e w' => e = .returned (.int .u32 (updB 0 bs).toNat) ∧ Upd (fun j => j = lb) w w' ∧ Cells9 w' lb pre := by
  obtain ⟨c, h⟩ := h
  refine (table_sum lb 9 pre [] _ c v bs w h hv hvb).mono ?_
  rintro e w' ⟨rfl, h1, h2⟩
  exact ⟨rfl, h1, _, .inr h2⟩

/-- A Log at block lb that is L, on the disk at block db; F: all blocks that are its own. -/
def LogAt (w : World) (lb : Nat) (L : LSt) (db : Nat) (F : Nat → Prop) : Prop :=
  L.Ok ∧ F lb ∧ (∀ k, F k → k < w.heap.size) ∧ ∃ lv, Cells9 w lb (preL L db lv) ∧ Mid w 2 lv L.list.length (listV L.list) ∧ (∀ k, lv.ownBlock = some k → F k ∧ k ≠ lb)
theorem LogAt.lt {w : World} {lb : Nat} {L : LSt} {db : Nat} {F : Nat → Prop} (h : LogAt w lb L db F) : ∀ k, F k → k < w.heap.size := h.2.2.1
theorem LogAt.upd {w w' : World} {lb : Nat} {L : LSt} {db : Nat} {F G : Nat → Prop} (h : LogAt w lb L db F) (hu : Upd G w w') (hf : ∀ k, F k → ¬ G k) : LogAt w' lb L db F := by
  obtain ⟨h0, h1, h2, lv, h3, h4, h5⟩ := h
  exact ⟨h0, h1, fun k hk => Nat.lt_of_lt_of_le (h2 k hk) hu.size, lv, h3.upd hu (hf lb h1), h4.upd hu (fun k hk => hf k (h5 k hk).1), h5⟩

theorem fail_ok (lb : Nat) (pre : List Value) (e : Int) (w : World) (h : Cells9 w lb pre) :
    Calls Tryz.prog 69 #[.pointer (some ⟨lb, 0, none⟩), .int .i64 e] w fun r w' => r = .returned (.int .i64 (if e = 0 then 0 else 10)) ∧ Upd (fun k => k = lb) w w' ∧ Cells9 w' lb (if e = 0 then pre else pre.set 8 (.bool true)) := by
  have hf := h.frozen 8
  have hc := h.cell 8 (by decide)
  obtain ⟨v8, hv8⟩ : ∃ v8, pre[8]? = some v8 := by
    obtain ⟨hl, _⟩ := h.heap
    exact ⟨_, List.getElem?_eq_getElem (by omega)⟩
  rw [hv8] at hc
  clear hv8
  by_cases he : e = 0
  · subst he
    have H := Lib.hid h
    clear h hc
    go_enter Tryz.func69, Tryz.ntmps69
    go_wp2_with fail
    go_ret
    exact ⟨rfl, Upd.refl _ _, H.out⟩
  · have hne : (e != 0) = true := by simp [he]
    have H : Hid (Upd (fun k => k = lb) w (w.setCell ⟨lb, 8, none⟩ (.bool true)) ∧ Cells9 (w.setCell ⟨lb, 8, none⟩ (.bool true)) lb (pre.set 8 (.bool true))) := ⟨(Upd.refl _ _).setCell _ (.inl rfl), h.set 8 (by decide) _⟩
    rw [if_neg he, if_neg he]
    clear h he
    go_enter Tryz.func69, Tryz.ntmps69
    go_wp2_with fail
    go_ret
    exact ⟨rfl, H.out⟩

theorem ring_ok (lb : Nat) (L : LSt) (db : Nat) (lv : Value) (i : Nat) (w : World) (h : Cells9 w lb (preL L db lv)) (hOk : L.Ok) (hi : i ≤ 100000000000) :
    Calls Tryz.prog 68 #[.pointer (some ⟨lb, 0, none⟩), .int .i64 i] w fun e w' => e = .returned (.int .i64 (L.ring i : Nat)) ∧ w' = w.drew := by
  obtain ⟨c0, c1, c2, c3, c4, c5, c6, c7, c8⟩ := nine h
  have h1 := hOk.two
  have h2 := hOk.fit
  obtain ⟨n, hn⟩ : ∃ n, L.n = n + 2 := ⟨L.n - 2, by omega⟩
  obtain ⟨fr, hfr⟩ : ∃ fr, L.fr = fr := ⟨_, rfl⟩
  have hring : (L.ring i : Int) = (fr : Int) + 1 + (i : Int) % ((n : Int) + 1) := by
    rw [LSt.ring, hn, hfr, show n + 2 - 1 = n + 1 from rfl]
    push_cast
    rfl
  rw [hring]
  rw [hn] at c2
  rw [hfr] at c1
  have hb1 : (fr : Int) ≤ 4096 := by omega
  have hb2 : (n : Int) ≤ 4096 := by omega
  have hb3 : (i : Int) ≤ 100000000000 := by omega
  clear h hOk h1 h2 hn hfr hring c0 c3 c4 c5 c6 c7 c8 hi
  have e1 : ((n + 2 : Nat) : Int) = (n : Int) + 2 := by omega
  rw [e1] at c2
  clear e1
  go_enter Tryz.func68, Tryz.ntmps68
  go_wp2_with fail
  have f1 : IntKind.i64.wrap ((fr : Int) + 1) = (fr : Int) + 1 := by rw [IntKind.wrap_i64]; omega
  have f2 : IntKind.i64.wrap ((n : Int) + 2 - 1) = (n : Int) + 1 := by rw [IntKind.wrap_i64]; omega
  have HS : w.drew.cell? ⟨lb, 1, none⟩ = some (.int .i64 fr) ∧ w.drew.cell? ⟨lb, 2, none⟩ = some (.int .i64 ((n : Int) + 2)) := ⟨c1, c2⟩
  refine wp_region_planD (fun w' => w'.cell? ⟨lb, 1, none⟩ = some (.int .i64 fr) ∧ w'.cell? ⟨lb, 2, none⟩ = some (.int .i64 ((n : Int) + 2))) 14 [(0, true), (1, true), (2, true), (3, true), (4, true), (5, true), (6, true), (7, true), (8, true), (9, true), (10, true), (11, true), (12, true), (13, true)] (by kernel_rfl) (by kernel_rfl) (fun d _ _ _ _ h => by cases d <;> exact h) HS ?_
  have hne : ((n : Int) + 1 == 0) = false := by rw [beq_eq_false_iff_ne]; omega
  have hne2 : ¬ ((n : Int) + 1 = 0) := by omega
  have htm : (i : Int).tmod ((n : Int) + 1) = (i : Int) % ((n : Int) + 1) := Int.tmod_eq_emod_of_nonneg (by omega)
  have hm0 : 0 ≤ (i : Int) % ((n : Int) + 1) := Int.emod_nonneg _ (by omega)
  have hm1 : (i : Int) % ((n : Int) + 1) < (n : Int) + 1 := Int.emod_lt_of_pos _ (by omega)
  have f3 : IntKind.i64.wrap ((i : Int).tmod ((n : Int) + 1)) = (i : Int) % ((n : Int) + 1) := by rw [htm, IntKind.wrap_i64]; omega
  have f4 : IntKind.i64.wrap ((fr : Int) + 1 + (i : Int) % ((n : Int) + 1)) = (fr : Int) + 1 + (i : Int) % ((n : Int) + 1) := by rw [IntKind.wrap_i64]; omega
  iterate 14 (first | (apply planD_held rfl rfl rfl (by simp) HS; (intro w' hS K hK; go_simp; exact hK)) | (apply planD_wanted rfl rfl rfl (by simp) HS; (intro w' hS K hK; go_simp; exact hK)))
  refine planD_nil ?_
  clear HS f1 f2 f3 f4 htm
  go_wp2_with fail
  go_ret
  exact ⟨rfl, rfl⟩
end Go.Proofs.YtihlijnobbonbaaGreat
/- wal: First, Room, Last, Synced, region, Need. -/
namespace Go.Proofs.YtihlijnobbonbaaGreat
open Go.RowKit
set_option linter.unusedSimpArgs false
set_option linter.unusedVariables false
set_option maxRecDepth 100000

theorem first_ok {w : World} {lb : Nat} {L : LSt} {db : Nat} {lv : Value} (h : Cells9 w lb (preL L db lv)) (hm : Mid w 2 lv L.list.length (listV L.list)) (hOk : L.Ok) :
    Calls Tryz.prog 74 #[.pointer (some ⟨lb, 0, none⟩)] w fun e w' => e = .returned (.int .i64 (L.first : Nat)) ∧ w = w' := by
  obtain ⟨c0, c1, c2, c3, c4, c5, c6, c7, c8⟩ := nine h
  have hlast : (L.last : Int) < 1000000000000000000 := by have := hOk.last; omega
  obtain ⟨xa, xc, rfl⟩ := hm.sees.shape
  have hlen := hOk.length
  cases hl : L.list with
  | nil =>
    have hf : L.first = L.last + 1 := by rw [LSt.first, hl]
    rw [hf]
    rw [hl] at c5
    clear h hm hOk hlen hl hf
    go_enter Tryz.func74, Tryz.ntmps74
    go_wp2_with fail
    go_ret
    exact ⟨by simp, rfl⟩
  | cons p r =>
    have hf : L.first = p.1 := by rw [LSt.first, hl]
    rw [hf]
    rw [hl] at c5 hm hlen
    obtain ⟨_, ⟨h0, h1⟩ | ⟨g, off, cap, he, h1, h2, h3, h4, h5⟩⟩ := hm
    · cases h1
    · cases he
      have hc : w.cell? ⟨g, off, none⟩ = some (.int .i64 (p.1 : Nat)) := h4 0 _ rfl
      have hpp : 0 < (p :: r).length := Nat.succ_pos _
      have hpos : (0 : Int) < ((p :: r).length : Int) := by omega
      have hn0 : (((p :: r).length : Int) == 0) = false := by rw [beq_eq_false_iff_ne]; omega
      obtain ⟨m, hmm⟩ : ∃ m, (p :: r).length = m := ⟨_, rfl⟩
      rw [hmm] at c5 hpos hn0 hlen hpp
      have hlen2 : (m : Int) ≤ 4096 := by omega
      clear h hOk hlen hl hf h1 h2 h3 h4 h5 hmm hpp
      go_enter Tryz.func74, Tryz.ntmps74
      go_wp2_with fail
      go_ret
      exact ⟨rfl, rfl⟩

theorem room_ok {w : World} {lb : Nat} {L : LSt} {db : Nat} {lv : Value} (h : Cells9 w lb (preL L db lv)) (hOk : L.Ok) :
    Calls Tryz.prog 46 #[.pointer (some ⟨lb, 0, none⟩)] w fun e w' => e = .returned (.int .i64 ((L.n - 1 - L.used : Nat) : Int)) ∧ w' = w.drew := by
  obtain ⟨c0, c1, c2, c3, c4, c5, c6, c7, c8⟩ := nine h
  obtain ⟨n, hn⟩ : ∃ n, L.n = n := ⟨_, rfl⟩
  obtain ⟨u, hu⟩ : ∃ u, L.used = u := ⟨_, rfl⟩
  have h1 := hOk.two
  have h2 := hOk.fit
  have h3 := hOk.used
  rw [hn] at c2 h1 h2 h3
  rw [hu] at c4 h3
  have e1 : ((n - 1 - u : Nat) : Int) = (n : Int) - 1 - (u : Int) := by omega
  rw [hn, hu, e1]
  have f1 : IntKind.i64.wrap ((n : Int) - 1) = (n : Int) - 1 := by rw [IntKind.wrap_i64]; omega
  have f2 : IntKind.i64.wrap ((n : Int) - 1 - (u : Int)) = (n : Int) - 1 - (u : Int) := by rw [IntKind.wrap_i64]; omega
  have Hf := Lib.hid (And.intro f1 f2)
  clear h hOk hn hu h1 h2 h3 e1 c0 c1 c3 c5 c6 c7 c8 f1 f2
  go_enter Tryz.func46, Tryz.ntmps46
  go_wp2_with fail
  obtain ⟨f1, f2⟩ := Hf.out
  have HS : w.drew.cell? ⟨lb, 2, none⟩ = some (.int .i64 n) ∧ w.drew.cell? ⟨lb, 4, none⟩ = some (.int .i64 u) := ⟨c2, c4⟩
  refine wp_region_planD (fun w' => w'.cell? ⟨lb, 2, none⟩ = some (.int .i64 n) ∧ w'.cell? ⟨lb, 4, none⟩ = some (.int .i64 u)) 11 [(0, true), (1, true), (2, true), (3, true), (4, true), (5, true), (6, true), (7, true), (8, true), (9, true), (10, true)] (by kernel_rfl) (by kernel_rfl) (fun d _ _ _ _ h => by cases d <;> exact h) HS ?_
  iterate 11 (first | (apply planD_held rfl rfl rfl (by simp) HS; (intro w' hS K hK; go_simp; exact hK)) | (apply planD_wanted rfl rfl rfl (by simp) HS; (intro w' hS K hK; go_simp; exact hK)))
  refine planD_nil ?_
  clear HS f1 f2
  go_wp2_with fail
  go_ret
  exact ⟨rfl, rfl⟩

theorem last_ok9 {w : World} {lb : Nat} {L : LSt} {db : Nat} {lv : Value} (h : Cells9 w lb (preL L db lv)) :
    Calls Tryz.prog 40 #[.pointer (some ⟨lb, 0, none⟩)] w fun e w' => e = .returned (.int .i64 (L.last : Nat)) ∧ w = w' := by
  obtain ⟨c0, c1, c2, c3, c4, c5, c6, c7, c8⟩ := nine h
  clear h
  go_enter Tryz.func40, Tryz.ntmps40
  go_wp2_with fail
  go_ret
  exact ⟨rfl, rfl⟩
theorem synced_ok9 {w : World} {lb : Nat} {L : LSt} {db : Nat} {lv : Value} (h : Cells9 w lb (preL L db lv)) :
    Calls Tryz.prog 51 #[.pointer (some ⟨lb, 0, none⟩)] w fun e w' => e = .returned (.int .i64 (L.synced : Nat)) ∧ w = w' := by
  obtain ⟨c0, c1, c2, c3, c4, c5, c6, c7, c8⟩ := nine h
  clear h
  go_enter Tryz.func51, Tryz.ntmps51
  go_wp2_with fail
  go_ret
  exact ⟨rfl, rfl⟩

/-- What can be no region. -/
def badRegion (secs : Nat) (fr n : Int) : Bool := decide (fr < 0 ∨ n < 2 ∨ (secs : Int) < n ∨ (secs : Int) - n < fr)
theorem region_bad {w : World} {b : Nat} {D : DSt} {F : Nat → Prop} (hD : DiskAt w b D F) (fr n : Int) (hn : n ≤ 9223372036854775807) (h : fr < 0 ∨ 0 ≤ fr ∧ n < 2 ∨ 0 ≤ fr ∧ 2 ≤ n ∧ (D.secs.length : Int) < n ∨ 0 ≤ fr ∧ 2 ≤ n ∧ n ≤ (D.secs.length : Int) ∧ (D.secs.length : Int) - n < fr) :
    Calls Tryz.prog 59 #[.pointer (some ⟨b, 0, none⟩), .int .i64 fr, .int .i64 n] w fun e w' => e = .returned (.int .i64 1) ∧ w = w' := by
  have hs := size_disk hD
  have hm := hD.1.most
  obtain ⟨m, hmm⟩ : ∃ m, D.secs.length = m := ⟨_, rfl⟩
  rw [hmm] at hs h hm
  have hm2 : (m : Int) ≤ 4096 := by omega
  have Hs := Lib.hid hs
  clear hs hm hmm hD
  rcases h with h | ⟨h1, h2⟩ | ⟨h1, h2, h3⟩ | ⟨h1, h2, h3, h4⟩
  · go_enter Tryz.func59, Tryz.ntmps59
    go_wp2_with fail
    go_ret
    exact ⟨rfl, rfl⟩
  · go_enter Tryz.func59, Tryz.ntmps59
    go_wp2_with fail
    go_ret
    exact ⟨rfl, rfl⟩
  · go_enter Tryz.func59, Tryz.ntmps59
    go_wp2_with ((with_reducible refine Hs.out.mono ?_); rintro e w' ⟨rfl, rfl⟩; dsimp only)
    go_ret
    exact ⟨rfl, rfl⟩
  · go_enter Tryz.func59, Tryz.ntmps59
    go_wp2_with ((with_reducible refine Hs.out.mono ?_); rintro e w' ⟨rfl, rfl⟩; dsimp only)
    go_ret
    exact ⟨rfl, rfl⟩
theorem region_good {w : World} {b : Nat} {D : DSt} {F : Nat → Prop} (hD : DiskAt w b D F) (fr n : Int) (h1 : 0 ≤ fr) (h2 : 2 ≤ n) (h3 : fr + n ≤ (D.secs.length : Int)) :
    Calls Tryz.prog 59 #[.pointer (some ⟨b, 0, none⟩), .int .i64 fr, .int .i64 n] w fun e w' => e = .returned (.int .i64 0) ∧ w = w' := by
  have hs := size_disk hD
  have hm := hD.1.most
  obtain ⟨m, hmm⟩ : ∃ m, D.secs.length = m := ⟨_, rfl⟩
  rw [hmm] at hs h3 hm
  have hm2 : (m : Int) ≤ 4096 := by omega
  have h4 : n ≤ (m : Int) := by omega
  have h5 : fr ≤ (m : Int) - n := by omega
  have Hs := Lib.hid hs
  clear hs hm hmm hD h3
  go_enter Tryz.func59, Tryz.ntmps59
  go_wp2_with ((with_reducible refine Hs.out.mono ?_); rintro e w' ⟨rfl, rfl⟩; dsimp only)
  go_ret
  exact ⟨rfl, rfl⟩
theorem region_nil (fr n : Int) (w : World) :
    Calls Tryz.prog 59 #[.pointer none, .int .i64 fr, .int .i64 n] w fun e w' => e = .returned (.int .i64 2) ∧ w = w' := by
  go_enter Tryz.func59, Tryz.ntmps59
  go_wp2_with fail
  go_ret
  exact ⟨rfl, rfl⟩

/-! Need. -/
def strsV (b : Batch) : List Value := b.map .string
theorem strsV_length (b : Batch) : (strsV b).length = b.length := by simp [strsV]
def bytesFrom (b : Batch) : Nat := b.foldl (fun n r => n + (4 + r.size)) 16
theorem bytesOf_snoc (b : Batch) (r : ByteArray) : bytesOf (b ++ [r]) = bytesOf b + (4 + r.size) := by simp [bytesOf]
theorem bytesOf_take_le (b : Batch) (k : Nat) : bytesOf (b.take k) ≤ bytesOf b := by
  rw [bytesOf_eq, bytesOf_eq]
  have : bodyB b = bodyB (b.take k) ++ bodyB (b.drop k) := by
    rw [bodyB, bodyB, bodyB, ← List.flatMap_append, List.take_append_drop]
  rw [this, List.length_append]; omega

set_option maxHeartbeats 1000000 in
theorem need_ok (xa : Option Addr) (xc : Nat) (b : Batch) (w : World) (hb : Sees w 1 (.slice xa b.length xc) b.length (strsV b)) (hsz : bytesOf b ≤ 1000000000000000000) :
    Calls Tryz.prog 45 #[.slice xa b.length xc] w fun e w' => e = .returned (.int .i64 (needB b : Nat)) ∧ w = w' := by
  have hm := hb.2.1
  have hlm : (b.length : Int) ≤ 9223372036854775807 := by unfold maxLen at hm; omega
  have Hb := Lib.hid (And.intro hb hsz)
  clear hb hsz hm
  go_enter Tryz.func45, Tryz.ntmps45
  go_wp2_with fail
  go_loop [3, 8] (fun n i => ∃ k : Nat, k ≤ b.length ∧ i = .int .i64 k ∧ n = .int .i64 (bytesOf (b.take k) : Nat)) (fun _ i => b.length - (intOf i).toNat)
  case atStart => exact ⟨0, Nat.zero_le _, rfl, rfl⟩
  case round =>
    obtain ⟨k, hk, rfl, rfl⟩ := hrel
    obtain ⟨N, hN⟩ : ∃ N, bytesOf (b.take k) = N := ⟨_, rfl⟩
    have hle : N ≤ bytesOf b := by rw [← hN]; exact bytesOf_take_le b k
    have hN2 : (N : Int) ≤ 1000000000000000000 := by have := Hb.out.2; omega
    by_cases hlt : k < b.length
    · have hlt2 : (k : Int) < (b.length : Int) := by omega
      obtain ⟨r, hr⟩ : ∃ r, b[k] = r := ⟨_, rfl⟩
      have hsn : bytesOf (b.take (k + 1)) = N + (4 + r.size) := by rw [List.take_succ_eq_append_getElem hlt, bytesOf_snoc, hN, hr]
      have hle2 : bytesOf (b.take (k + 1)) ≤ bytesOf b := bytesOf_take_le b _
      obtain ⟨_, _, xo, cc, e', hc⟩ := Hb.out.1
      cases e'
      obtain ⟨g, off, rfl, hrr⟩ := hc (by omega)
      have hcell : w.cell? ⟨g, off + k, none⟩ = some (.string r) := hrr k _ (by simp [strsV, hlt, hr])
      have hr2 : (r.size : Int) ≤ 1000000000000000000 := by have := Hb.out.2; omega
      have hsum : (N : Int) + (4 + (r.size : Int)) ≤ 1000000000000000000 := by have := Hb.out.2; omega
      have Hsn := Lib.hid hsn
      rw [hN]
      clear hsn hle hle2 hc hrr hr hN
      go_wp2_with fail
      exact ⟨⟨k + 1, by omega, by go_num, by rw [Hsn.out]; go_num⟩, by simp [intOf]; omega⟩
    · obtain rfl : k = b.length := by omega
      rw [List.take_length] at hN
      have hfin : ((needB b : Nat) : Int) = ((N : Int) + 512 - 1) / 512 := by rw [needB, hN]; omega
      rw [List.take_length, hN]
      have Hfin := Lib.hid hfin
      clear hfin hN hle
      go_wp2_with fail
      go_ret
      exact ⟨by rw [Hfin.out]; simp, rfl⟩
end Go.Proofs.YtihlijnobbonbaaGreat
/- wal: mark. -/
namespace Go.Proofs.YtihlijnobbonbaaGreat
open Go.RowKit
set_option linter.unusedSimpArgs false
set_option linter.unusedVariables false
set_option maxRecDepth 100000

def fldsOf (l : List Nat) : Bytes := magicB ++ l.flatMap (leB 8)
theorem fldsOf_length (l : List Nat) : (fldsOf l).length = 12 + 8 * l.length := by
  unfold fldsOf
  rw [List.length_append]
  have : (l.flatMap (leB 8)).length = l.length * 8 := flat_length (leB 8) 8 l (fun x _ => leB_length 8 x)
  rw [this]
  simp [magicB]; omega
theorem fldsOf_five (a b c d e : Nat) : fldsOf [a, b, c, d, e] = fieldsB a b c d e := by simp [fldsOf, fieldsB]

def u64V (l : List Nat) : List Value := l.map fun x => .int .u64 ((x : Nat) : Int)
/-- What mark has laid so far. -/
def MarkR (w : World) (bl : Nat) (fs : List Nat) (k : Nat) (bs : Bytes) (x : Option Addr) (c : Nat) (wr : World) : Prop :=
  bs = fldsOf (fs.take k) ∧ Mid wr 1 (.slice x bs.length c) bs.length (bvs bs) ∧ Upd (fun _ => False) w wr ∧ (∀ j, (Value.slice x bs.length c).ownBlock = some j → w.heap.size ≤ j ∧ j ≠ bl) ∧ wr.heap[bl]? = some (.cells (u64V fs).toArray 147 (0, 0))
theorem fldsOf_snoc (l : List Nat) (x : Nat) : fldsOf (l ++ [x]) = fldsOf l ++ leB 8 x := by simp [fldsOf]

def failE (e : Int) : Int := if e = 0 then 0 else 10
theorem fail_snd (L : LSt) (e : Int) : (L.fail e).2 = failE e := by unfold LSt.fail failE; split <;> rfl
/-- What fail leaves. -/
def FailPost (w : World) (lb db : Nat) (L : LSt) (lv : Value) (w' : World) : Prop := Upd (fun k => k = lb) w w' ∧ Cells9 w' lb (preL L db lv)
theorem preL_fail (L : LSt) (e : Int) (db : Nat) (lv : Value) : (if e = 0 then preL L db lv else (preL L db lv).set 8 (.bool true)) = preL (L.fail e).1 db lv := by unfold LSt.fail; split <;> rfl
theorem fail_log (lb db : Nat) (L : LSt) (lv : Value) (e : Int) (w : World) (h : Cells9 w lb (preL L db lv)) :
    Calls Tryz.prog 69 #[.pointer (some ⟨lb, 0, none⟩), .int .i64 e] w fun r w' => r = .returned (.int .i64 (failE e)) ∧ FailPost w lb db (L.fail e).1 lv w' := by
  refine (fail_ok lb _ e w h).mono ?_
  rintro r w' ⟨rfl, h1, h2⟩
  rw [preL_fail] at h2
  exact ⟨rfl, h1, h2⟩
theorem write_waits (D : DSt) (i : Int) (data : Bytes) : (D.write i data).1.waits.length ≤ D.waits.length + 1 := by
  unfold DSt.write
  split
  · exact Nat.le_succ _
  · split
    · exact Nat.le_succ _
    · split
      · exact Nat.le_succ _
      · split
        · exact Nat.le_succ _
        · simp
theorem write_zero_or (D : DSt) (i : Int) (data : Bytes) : (D.write i data).2 = 0 ∨ (D.write i data).2 = 1 ∨ (D.write i data).2 = 10 := by
  unfold DSt.write
  split
  · simp
  · split
    · simp
    · split
      · simp
      · split <;> simp

/-- Behind a call that writes the log's own cells and the disk. -/
def RawPost (w : World) (lb db : Nat) (L : LSt) (lv : Value) (D : DSt) (G : Nat → Prop) (w' : World) : Prop :=
  ∃ G', Cells9 w' lb (preL L db lv) ∧ DiskAt w' db D G' ∧ Upd (fun k => k = lb ∨ G k) w w' ∧ (∀ k, G' k → G k ∨ w.heap.size ≤ k)
set_option maxHeartbeats 2000000 in
theorem mark_raw {w : World} {lb db : Nat} {L : LSt} {lv : Value} {D : DSt} {G : Nat → Prop} (h : Cells9 w lb (preL L db lv)) (hm : Mid w 2 lv L.list.length (listV L.list)) (hOk : L.Ok) (hD : DiskAt w db D G) (hG : ¬ G lb)
    (hlv : ∀ k, lv.ownBlock = some k → ¬ G k ∧ k ≠ lb) (hwt : D.waits.length < 99999999990) :
    Calls Tryz.prog 60 #[.pointer (some ⟨lb, 0, none⟩)] w fun e w' => e = .returned (.int .i64 (L.mark D).2.2) ∧ RawPost w lb db (L.mark D).1 lv (L.mark D).2.1 G w' := by
  obtain ⟨fr, hfr⟩ : ∃ fr, L.fr = fr := ⟨_, rfl⟩
  obtain ⟨n, hn⟩ : ∃ n, L.n = n := ⟨_, rfl⟩
  obtain ⟨st, hst⟩ : ∃ st, L.start = st := ⟨_, rfl⟩
  obtain ⟨sy, hsy⟩ : ∃ sy, L.synced = sy := ⟨_, rfl⟩
  obtain ⟨fi, hfi⟩ : ∃ fi, L.first = fi := ⟨_, rfl⟩
  have hmk : L.mk_ = markB fr n st fi sy := by rw [LSt.mk_, hfr, hn, hst, hfi, hsy]
  have hb : fr ≤ 4096 ∧ n ≤ 4096 ∧ st ≤ 4096 ∧ sy < 1000000000000000000 ∧ fi ≤ 1000000000000000000 := by
    have := hOk.fit; have := hOk.start; have := hOk.synced; have := hOk.last; have := hOk.first_le; omega
  obtain ⟨b1, b2, b3, b4, b5⟩ := hb
  have f1 : IntKind.u64.wrap (fr : Int) = (fr : Int) := by show (fr : Int) % 18446744073709551616 = _; omega
  have f2 : IntKind.u64.wrap (n : Int) = (n : Int) := by show (n : Int) % 18446744073709551616 = _; omega
  have f3 : IntKind.u64.wrap (st : Int) = (st : Int) := by show (st : Int) % 18446744073709551616 = _; omega
  have f4 : IntKind.u64.wrap (fi : Int) = (fi : Int) := by show (fi : Int) % 18446744073709551616 = _; omega
  have f5 : IntKind.u64.wrap (sy : Int) = (sy : Int) := by show (sy : Int) % 18446744073709551616 = _; omega
  have H := Lib.hid (And.intro h (And.intro hm (And.intro hOk hD)))
  have Hb := Lib.hid (And.intro b1 (And.intro b2 (And.intro b3 (And.intro b4 b5))))
  have Hf := Lib.hid (And.intro f1 (And.intro f2 (And.intro f3 (And.intro f4 f5))))
  have Hmk := Lib.hid hmk
  have Hn := Lib.hid (And.intro hfr (And.intro hn (And.intro hst (And.intro hsy hfi))))
  clear h hm hOk hD b1 b2 b3 b4 b5 f1 f2 f3 f4 f5 hmk hfr hn hst hsy hfi
  have kc := fun (w : World) (C : Array Value) (n c : Nat) => Lib.run_convert_bytes_const (P := Tryz.prog) w 38 5 C n c Tryz.underlying38 Tryz.underlying5
  go_enter Tryz.func60, Tryz.ntmps60
  go_wp2_with fail
  have hu1 : Upd (fun _ => False) w (w.alloc (.cells (bvs magicB).toArray 5 (12, 13))) := (Upd.refl _ w).alloc _
  have hm1 : Mid (w.alloc (.cells (bvs magicB).toArray 5 (12, 13))) 1 (.slice (some ⟨w.heap.size, 0, none⟩) 12 12) 12 (bvs magicB) :=
    mid_full rfl (by decide) (by simp) (rangeAt_of_row (heap_alloc_new w _) (by simp))
  have hsz : w.heap.size < (w.alloc (.cells (bvs magicB).toArray 5 (12, 13))).heap.size := by simp
  have hbk : ∀ k, (Value.slice (some ⟨w.heap.size, 0, none⟩) 12 12).ownBlock = some k → w.heap.size ≤ k := fun k hk => by cases hk; exact Nat.le_refl _
  change Code.wp _ _ _ _ (w.alloc (.cells (bvs magicB).toArray 5 (12, 13)))
  generalize w.alloc (.cells (bvs magicB).toArray 5 (12, 13)) = w1 at *
  have hC := H.out.1.upd hu1 (fun h => h)
  have hM := H.out.2.1.upd hu1 (fun _ _ h => h)
  obtain ⟨d0, d1, d2, d3, d4, d5, d6, d7, d8⟩ := nine hC
  rw [Hn.out.1] at d1
  rw [Hn.out.2.1] at d2
  rw [Hn.out.2.2.1] at d3
  rw [Hn.out.2.2.2.1] at d7
  clear d0 d4 d5 d6 d8
  have HS : w1.drew.cell? ⟨lb, 1, none⟩ = some (.int .i64 fr) ∧ w1.drew.cell? ⟨lb, 2, none⟩ = some (.int .i64 n) ∧ w1.drew.cell? ⟨lb, 3, none⟩ = some (.int .i64 st) ∧ w1.drew.cell? ⟨lb, 7, none⟩ = some (.int .i64 sy) ∧
    Hid (Cells9 w1.drew lb (preL L db lv) ∧ Mid w1.drew 2 lv L.list.length (listV L.list)) := ⟨d1, d2, d3, d7, ⟨hC, hM⟩⟩
  obtain ⟨f1, f2, f3, f4, f5⟩ := Hf.out
  refine wp_region_planD (fun w' => w'.cell? ⟨lb, 1, none⟩ = some (.int .i64 fr) ∧ w'.cell? ⟨lb, 2, none⟩ = some (.int .i64 n) ∧ w'.cell? ⟨lb, 3, none⟩ = some (.int .i64 st) ∧ w'.cell? ⟨lb, 7, none⟩ = some (.int .i64 sy) ∧
    Hid (Cells9 w' lb (preL L db lv) ∧ Mid w' 2 lv L.list.length (listV L.list))) 26 [(0, true), (1, true), (2, true), (3, true), (4, true), (5, true), (6, true), (7, true), (8, true), (9, true), (10, true), (11, true), (12, true), (13, true), (14, true), (15, true), (16, true), (17, true), (18, true), (19, true), (20, true), (21, true), (22, true), (25, true), (23, false), (24, true)] (by kernel_rfl) (by kernel_rfl) (fun d _ _ _ _ h => by cases d <;> exact h) HS ?_
  iterate 16 (apply planD_held rfl rfl rfl (by simp) HS; (intro w' hS K hK; go_simp; exact hK))
  refine planD_call (.int .i64 fi) rfl rfl (fun w' hS => ⟨74, #[.pointer (some ⟨lb, 0, none⟩)], by go_simp, by have := first_ok hS.2.2.2.2.out.1 hS.2.2.2.2.out.2 H.out.2.2.1; rw [Hn.out.2.2.2.2] at this; exact this⟩) ?_
  simp only [Act.put, List.setIfInBounds_toArray, List.set_cons_zero, List.set_cons_succ]
  iterate 7 (apply planD_held rfl rfl rfl (by simp) HS; (intro w' hS K hK; go_simp; exact hK))
  refine planD_op rfl rfl (fun K hK => ?_)
  go_simp
  obtain ⟨bl, hbl⟩ : ∃ bl, w1.heap.size = bl := ⟨_, rfl⟩
  have hbl1 : w.heap.size < bl := by rw [← hbl]; exact hsz
  have hu2 : Upd (fun _ => False) w1 ((w1.alloc (.cells (u64V [fr, n, st, fi, sy]).toArray 147)).drew) := ((Upd.refl _ w1).alloc _).drew
  have hnew : ((w1.alloc (.cells (u64V [fr, n, st, fi, sy]).toArray 147)).drew).heap[bl]? = some (.cells (u64V [fr, n, st, fi, sy]).toArray 147 (0, 0)) := by
    rw [← hbl]; exact heap_alloc_new w1 _
  rw [hbl]
  have hlb1 : lb < w1.heap.size := hC.lt
  refine hK _ _ ((w1.alloc (.cells (u64V [fr, n, st, fi, sy]).toArray 147)).drew) (fun u h => h) (fun _ => ⟨(hu2.cell (a := ⟨lb, 1, none⟩) hlb1 (fun h => h)).trans d1, (hu2.cell (a := ⟨lb, 2, none⟩) hlb1 (fun h => h)).trans d2, (hu2.cell (a := ⟨lb, 3, none⟩) hlb1 (fun h => h)).trans d3, (hu2.cell (a := ⟨lb, 7, none⟩) hlb1 (fun h => h)).trans d7, ⟨hC.upd hu2 (fun h => h), hM.upd hu2 (fun _ _ h => h)⟩⟩) ?_
  generalize (w1.alloc (.cells (u64V [fr, n, st, fi, sy]).toArray 147)).drew = w2 at *
  have HR0 : Hid (MarkR w bl [fr, n, st, fi, sy] 0 magicB (some ⟨w.heap.size, 0, none⟩) 12 w2) :=
    ⟨by simp [fldsOf], hm1.upd hu2 (fun _ _ h => h), hu1.trans hu2, fun j hj => ⟨hbk j hj, by cases hj; show w.heap.size ≠ bl; omega⟩, hnew⟩
  have HS2 : w2.cell? ⟨lb, 1, none⟩ = some (.int .i64 fr) ∧ w2.cell? ⟨lb, 2, none⟩ = some (.int .i64 n) ∧ w2.cell? ⟨lb, 3, none⟩ = some (.int .i64 st) ∧ w2.cell? ⟨lb, 7, none⟩ = some (.int .i64 sy) ∧
    Hid (Cells9 w2 lb (preL L db lv) ∧ Mid w2 2 lv L.list.length (listV L.list)) := ⟨(hu2.cell (a := ⟨lb, 1, none⟩) hlb1 (fun h => h)).trans d1, (hu2.cell (a := ⟨lb, 2, none⟩) hlb1 (fun h => h)).trans d2, (hu2.cell (a := ⟨lb, 3, none⟩) hlb1 (fun h => h)).trans d3, (hu2.cell (a := ⟨lb, 7, none⟩) hlb1 (fun h => h)).trans d7, ⟨hC.upd hu2 (fun h => h), hM.upd hu2 (fun _ _ h => h)⟩⟩
  clear hu2 hnew hC hM hm1 hu1 d1 d2 d3 d7 hbk hsz hK hbl hlb1 f1 f2 f3 f4 f5 kc
  try (simp only [Act.put, List.setIfInBounds_toArray, List.set_cons_zero, List.set_cons_succ])
  apply planD_held (S := fun w' => w'.cell? ⟨lb, 1, none⟩ = some (.int .i64 fr) ∧ w'.cell? ⟨lb, 2, none⟩ = some (.int .i64 n) ∧ w'.cell? ⟨lb, 3, none⟩ = some (.int .i64 st) ∧ w'.cell? ⟨lb, 7, none⟩ = some (.int .i64 sy) ∧
    Hid (Cells9 w' lb (preL L db lv) ∧ Mid w' 2 lv L.list.length (listV L.list))) rfl rfl rfl (by simp) HS2
  · intro w' hS K hK; go_simp; exact hK
  refine planD_nil ?_
  clear HS2
  go_wp2_with fail
  have hslot : (Value.slice (some ⟨w.heap.size, 0, none⟩) 12 12) = .slice (some ⟨w.heap.size, 0, none⟩) magicB.length 12 := rfl
  go_loopw [3, 34] (fun b i wr => ∃ (k : Nat) (bs : Bytes) (x : Option Addr) (c : Nat), k ≤ 5 ∧ i = .int .i64 k ∧ b = .slice x bs.length c ∧ Hid (MarkR w bl [fr, n, st, fi, sy] k bs x c wr)) (fun _ i _ => 5 - (intOf i).toNat)
  case atStart => exact ⟨0, magicB, some ⟨w.heap.size, 0, none⟩, 12, Nat.zero_le _, rfl, rfl, HR0⟩
  case round =>
    clear HR0 hslot
    obtain ⟨k, bs, x, c, hk, rfl, rfl, HR⟩ := hrel
    by_cases hlt : k < 5
    · have hlt2 : (k : Int) < 5 := by omega
      obtain ⟨y, hy, hy64⟩ : ∃ y : Nat, ([fr, n, st, fi, sy] : List Nat)[k]? = some y ∧ y < 18446744073709551616 := by
        have := Hb.out
        match k, hlt with
        | 0, _ => exact ⟨_, rfl, by omega⟩
        | 1, _ => exact ⟨_, rfl, by omega⟩
        | 2, _ => exact ⟨_, rfl, by omega⟩
        | 3, _ => exact ⟨_, rfl, by omega⟩
        | 4, _ => exact ⟨_, rfl, by omega⟩
      have hcell : wr.cell? ⟨bl, k, none⟩ = some (.int .u64 y) := by
        rw [cell_of_row _ _ _ _ _ _ HR.out.2.2.2.2]
        simp only [List.getElem?_toArray, u64V, List.getElem?_map, hy]
        rfl
      have Hy := Lib.hid (And.intro hy hy64)
      clear hy hy64
      have hlen : bs.length ≤ 100000000000000 := by rw [HR.out.1, fldsOf_length]; simp; omega
      have Hlen := Lib.hid hlen
      clear hlen
      go_wp2_with fail
      refine (put_ok (.slice x bs.length c) bs y 8 _ HR.out.2.1 Hy.out.2 (by decide) Hlen.out).mono ?_
      rintro e w3 ⟨x', c', rfl, hmid, hu, hbk⟩
      dsimp only
      have HR2 : Hid (MarkR w bl [fr, n, st, fi, sy] (k + 1) (bs ++ leB 8 y) x' c' w3) := by
        have h0 := HR.out
        have hlen : (bs ++ leB 8 y).length = bs.length + 8 := by rw [List.length_append, leB_length]
        refine ⟨?_, by rw [hlen]; exact hmid, h0.2.2.1.then hu (fun j hj => .inr (h0.2.2.2.1 j hj).1), fun j hj => ?_, hu.heap h0.2.2.2.2 (fun hj => (h0.2.2.2.1 _ hj).2 rfl)⟩
        · rw [h0.1, List.take_add_one, Hy.out.1]
          exact (fldsOf_snoc _ _).symm
        · rw [hlen] at hj
          rcases hbk j hj with h | h
          · exact h0.2.2.2.1 j h
          · have h3 := lt_of_block h0.2.2.2.2
            have h4 := h0.2.2.1.size
            omega
      have hlen : bs.length + 8 = (bs ++ leB 8 y).length := by rw [List.length_append, leB_length]
      rw [hlen]
      clear hmid hu hbk hcell HR hlen
      go_wp2_with fail
      exact ⟨⟨k + 1, bs ++ leB 8 y, x', c', by omega, by go_num, rfl, HR2⟩, by simp [intOf]; omega⟩
    · obtain rfl : k = 5 := by omega
      clear hlt
      go_wp2_with fail
      have h0 := HR.out
      have hlbw : lb < w.heap.size := H.out.1.lt
      have hfb : bs = fieldsB fr n st fi sy := by rw [h0.1]; exact fldsOf_five _ _ _ _ _
      have hbl52 : bs.length = 52 := by rw [hfb, fieldsB_length]
      have hC := H.out.1.upd h0.2.2.1 (fun h => h)
      refine (sum9 hC (.slice x bs.length c) bs h0.2.1.sees (fun j hj _ => by have := (h0.2.2.2.1 j hj).1; omega)).mono ?_
      rintro e w4 ⟨rfl, hu4, hC4⟩
      dsimp only
      have hm4 := h0.2.1.upd hu4 (fun j hj => by have := (h0.2.2.2.1 j hj).1; omega)
      have hU4 : Upd (fun k => k = lb) w w4 := (h0.2.2.1.mono (fun _ _ h => h.elim)).trans hu4
      obtain ⟨sm, hsm⟩ : ∃ sm, updB 0 bs = sm := ⟨_, rfl⟩
      rw [hsm]
      have f6 : IntKind.u64.wrap (sm.toNat : Int) = (sm.toNat : Int) := by have := sm.isLt; show (sm.toNat : Int) % 18446744073709551616 = _; omega
      have hown : ∀ j, (Value.slice x bs.length c).ownBlock = some j → w.heap.size ≤ j := fun j hj => (h0.2.2.2.1 j hj).1
      have H4 := Lib.hid (And.intro hm4 (And.intro hU4 (And.intro hC4 (And.intro hown (And.intro hfb (And.intro hbl52 (And.intro hsm hlbw)))))))
      clear h0 hC hu4 hC4 hm4 hU4 hown hfb hbl52 hsm hlbw HR
      go_wp2_with fail
      refine (put_ok (.slice x bs.length c) bs sm.toNat 4 _ H4.out.1 (by have := sm.isLt; omega) (by decide) (by have := H4.out.2.2.2.2.2.1; omega)).mono ?_
      rintro e w5 ⟨x', c', rfl, hm5, hu5, hb5⟩
      dsimp only
      obtain ⟨_, hU4, hC4, hown, hfb, hbl52, hsm, hlbw⟩ := H4.out
      have hdata : bs ++ leB 4 sm.toNat = L.mk_ := by rw [Hmk.out, markB, ← hfb, hsm]
      have hlen : bs.length + 4 = L.mk_.length := by rw [← hdata, List.length_append, leB_length]
      rw [hdata, hlen] at hm5
      rw [hlen]
      rw [hlen] at hb5
      have hU5 : Upd (fun k => k = lb) w w5 := hU4.then hu5 (fun j hj => .inr (hown j hj))
      have hC5 := hC4.upd hu5 (fun hj => by have := hown _ hj; omega)
      have hD5 := H.out.2.2.2.upd hU5 (fun k hk e => hG (e ▸ hk))
      have hx5 : ∀ z, x' = some z → 0 < L.mk_.length → ¬ G z.block := fun z hz _ hg => by
        subst hz
        have h1 := hD5.lt _ hg
        have h2 := (H.out.2.2.2).lt _ hg
        rcases hb5 z.block rfl with h | h
        · have := hown _ h; omega
        · have := hU4.size; omega
      obtain ⟨⟨D1, r⟩, hDr⟩ : ∃ p, D.write (L.fr : Nat) L.mk_ = p := ⟨_, rfl⟩
      have hD1w : D1.waits.length < 100000000000 := by have := write_waits D (L.fr : Nat) L.mk_; rw [hDr] at this; dsimp only at this; omega
      have hmark : L.mark D = if r = 0 then ((L.fail D1.flush.2).1, D1.flush.1, (L.fail D1.flush.2).2) else ((L.fail r).1, D1, (L.fail r).2) := by
        simp only [LSt.mark, hDr]
      obtain ⟨d0, d1, d2, d3, d4, d5, d6, d7, d8⟩ := nine hC5
      rw [Hn.out.1] at d1 hDr
      clear d2 d3 d4 d5 d6 d7 d8
      have H5 := Lib.hid (And.intro hm5 (And.intro hU5 (And.intro hC5 (And.intro hD5 (And.intro hx5 (And.intro hDr (And.intro hD1w hmark)))))))
      clear hm5 hU5 hC5 hD5 hx5 hDr hD1w hmark hdata hlen hb5 hu5 H4 hU4 hC4 hown hfb hbl52 hsm hlbw f6
      go_wp2_with fail
      have HS : w5.drew.cell? ⟨lb, 0, none⟩ = some (.pointer (some ⟨db, 0, none⟩)) ∧ w5.drew.cell? ⟨lb, 1, none⟩ = some (.int .i64 fr) := ⟨d0, d1⟩
      refine wp_region_planD (fun w' => w'.cell? ⟨lb, 0, none⟩ = some (.pointer (some ⟨db, 0, none⟩)) ∧ w'.cell? ⟨lb, 1, none⟩ = some (.int .i64 fr)) 11 [(0, true), (1, true), (2, true), (3, true), (4, true), (5, true), (6, true), (7, true), (8, true), (9, false), (10, true)] (by kernel_rfl) (by kernel_rfl) (fun d _ _ _ _ h => by cases d <;> exact h) HS ?_
      iterate 9 (apply planD_held rfl rfl rfl (by simp) HS; (intro w' hS K hK; go_simp; exact hK))
      refine planD_op rfl rfl (fun K hK => ?_)
      go_simp
      have hdr : Upd (fun _ => False) w5 w5.drew := (Upd.refl _ w5).drew
      refine (write_disk (H5.out.2.2.2.1.upd hdr (fun _ _ h => h)) (fr : Nat) x' c' L.mk_ (H5.out.1.upd hdr (fun _ _ h => h)).sees H5.out.2.2.2.2.1 (by omega) H5.out.2.2.2.2.2.1).mono ?_
      rintro e w6 ⟨rfl, G', hD6, hu6, hG6⟩
      dsimp only
      have hu6' : Upd G w5 w6 := (Upd.mono hdr (fun _ _ h => h.elim)).trans hu6
      have hC6 := H5.out.2.2.1.upd hu6' hG
      have hlb6 : ¬ G' lb := fun h => by
        rcases hG6 _ h with h | h
        · exact hG h
        · have h1 := H5.out.2.2.1.lt
          have h2 := hdr.size
          omega
      have hU6 : Upd (fun k => k = lb ∨ G k) w w6 := (H5.out.2.1.mono (fun _ _ h => .inl h)).trans (hu6'.mono (fun _ _ h => .inr h))
      have hG6' : ∀ k, G' k → G k ∨ w.heap.size ≤ k := fun k hk => by
        rcases hG6 k hk with h | h
        · exact .inl h
        · have h1 := H5.out.2.1.size
          have h2 := hdr.size
          exact .inr (by omega)
      have H6 := Lib.hid (And.intro hD6 (And.intro hC6 (And.intro hlb6 (And.intro hU6 hG6'))))
      obtain ⟨e0, e1, e2, e3, e4, e5, e6, e7, e8⟩ := nine hC6
      rw [Hn.out.1] at e1
      have HS6 : w6.cell? ⟨lb, 0, none⟩ = some (.pointer (some ⟨db, 0, none⟩)) ∧ w6.cell? ⟨lb, 1, none⟩ = some (.int .i64 fr) := ⟨e0, e1⟩
      clear d0 d1 HS hdr hD6 hu6 hG6 hu6' hC6 hlb6 hU6 hG6' e1 e2 e3 e4 e5 e6 e7 e8
      refine hK _ _ _ (fun u h => h) (fun _ => HS6) ?_
      clear hK
      try (simp only [Act.put, List.setIfInBounds_toArray, List.set_cons_zero, List.set_cons_succ])
      (apply planD_held rfl rfl rfl (by simp) HS6; (intro w' hS K hK; go_simp; exact hK))
      refine planD_nil ?_
      clear HS6
      by_cases hr0 : r = 0
      · have hmk0 := H5.out.2.2.2.2.2.2.2
        rw [if_pos hr0] at hmk0
        have Hmk0 := Lib.hid hmk0
        clear hmk0
        subst hr0
        go_wp2_with fail
        obtain ⟨⟨D2, r2⟩, hfl⟩ : ∃ p, D1.flush = p := ⟨_, rfl⟩
        refine (flush_disk H6.out.1 H5.out.2.2.2.2.2.2.1 hfl).mono ?_
        rintro e w7 ⟨rfl, hD7, hu7⟩
        dsimp only
        have hC7 := H6.out.2.1.upd hu7 H6.out.2.2.1
        have H7 := Lib.hid (And.intro hC7 (And.intro hD7 (And.intro hu7 hfl)))
        clear hC7 hD7 hu7 hfl e0
        go_wp2_with fail
        refine (fail_log lb db L lv r2 _ H7.out.1).mono ?_
        rintro e w8 ⟨rfl, hu8, hC8⟩
        dsimp only
        have H8 := Lib.hid (And.intro hu8 hC8)
        clear hu8 hC8
        go_wp2_with fail
        go_ret
        have hmk := Hmk0.out
        rw [H7.out.2.2.2] at hmk
        rw [hmk]
        dsimp only
        have h8 := H8.out.2
        refine ⟨by rw [fail_snd]; rfl, G', h8, H7.out.2.1.upd H8.out.1 (fun k hk e => H6.out.2.2.1 (e ▸ hk)), ?_, H6.out.2.2.2.2⟩
        refine (H6.out.2.2.2.1.then H7.out.2.2.1 (fun k hk => ?_)).trans (H8.out.1.mono (fun _ _ h => .inl h))
        rcases H6.out.2.2.2.2 k hk with h | h
        · exact .inl (.inr h)
        · exact .inr h
      · have hne : (r != 0) = true := by simp [hr0]
        have Hr0 := Lib.hid hr0
        clear hr0
        go_wp2_with fail
        refine (fail_log lb db L lv r _ H6.out.2.1).mono ?_
        rintro e w8 ⟨rfl, hu8, hC8⟩
        dsimp only
        have H8 := Lib.hid (And.intro hu8 hC8)
        clear hu8 hC8
        go_wp2_with fail
        go_ret
        have hmk := H5.out.2.2.2.2.2.2.2
        rw [if_neg Hr0.out] at hmk
        rw [hmk]
        dsimp only
        have h8 := H8.out.2
        exact ⟨by rw [fail_snd]; rfl, G', h8, H6.out.1.upd H8.out.1 (fun k hk e => H6.out.2.2.1 (e ▸ hk)), H6.out.2.2.2.1.trans (H8.out.1.mono (fun _ _ h => .inl h)), H6.out.2.2.2.2⟩
end Go.Proofs.YtihlijnobbonbaaGreat
/- wal: Make, Sync. -/
namespace Go.Proofs.YtihlijnobbonbaaGreat
open Go.RowKit
set_option linter.unusedSimpArgs false
set_option linter.unusedVariables false
set_option maxRecDepth 100000

/-- A log and its disk; F: all blocks that are theirs. -/
def WalAt (w : World) (lb db : Nat) (L : LSt) (D : DSt) (F : Nat → Prop) : Prop :=
  ∃ lv G, L.Ok ∧ Cells9 w lb (preL L db lv) ∧ Mid w 2 lv L.list.length (listV L.list) ∧ DiskAt w db D G ∧ ¬ G lb ∧ (∀ k, lv.ownBlock = some k → ¬ G k ∧ k ≠ lb) ∧ (∀ k, F k ↔ k = lb ∨ lv.ownBlock = some k ∨ G k)
theorem WalAt.ok {w : World} {lb db : Nat} {L : LSt} {D : DSt} {F : Nat → Prop} (h : WalAt w lb db L D F) : L.Ok := by
  obtain ⟨lv, G, h0, _⟩ := h
  exact h0
theorem WalAt.lt {w : World} {lb db : Nat} {L : LSt} {D : DSt} {F : Nat → Prop} (h : WalAt w lb db L D F) : ∀ k, F k → k < w.heap.size := by
  obtain ⟨lv, G, h0, h1, h2, h3, h4, h5, h6⟩ := h
  intro k hk
  rcases (h6 k).1 hk with rfl | hk | hk
  · exact h1.lt
  · exact h2.lt k hk
  · exact h3.lt k hk
theorem WalAt.upd {w w' : World} {lb db : Nat} {L : LSt} {D : DSt} {F H : Nat → Prop} (h : WalAt w lb db L D F) (hu : Upd H w w') (hf : ∀ k, F k → ¬ H k) : WalAt w' lb db L D F := by
  obtain ⟨lv, G, h0, h1, h2, h3, h4, h5, h6⟩ := h
  exact ⟨lv, G, h0, h1.upd hu (hf lb ((h6 lb).2 (.inl rfl))), h2.upd hu (fun k hk => hf k ((h6 k).2 (.inr (.inl hk)))), h3.upd hu (fun k hk => hf k ((h6 k).2 (.inr (.inr hk)))), h4, h5, h6⟩
/-- What a call leaves. -/
def WalPost (w : World) (lb db : Nat) (L : LSt) (D : DSt) (F : Nat → Prop) (w' : World) : Prop := ∃ F', WalAt w' lb db L D F' ∧ Upd F w w' ∧ (∀ k, F' k → F k ∨ w.heap.size ≤ k)
theorem walPost_of_raw {w w' : World} {lb db : Nat} {L : LSt} {lv : Value} {D : DSt} {F G : Nat → Prop} (hOk : L.Ok) (hm : Mid w' 2 lv L.list.length (listV L.list)) (h4 : ¬ G lb) (hlt : lb < w.heap.size) (hlvlt : ∀ k, lv.ownBlock = some k → k < w.heap.size)
    (h5 : ∀ k, lv.ownBlock = some k → ¬ G k ∧ k ≠ lb) (h6 : ∀ k, F k ↔ k = lb ∨ lv.ownBlock = some k ∨ G k) (h : RawPost w lb db L lv D G w') : WalPost w lb db L D F w' := by
  obtain ⟨G', r1, r2, r3, r4⟩ := h
  refine ⟨fun k => k = lb ∨ lv.ownBlock = some k ∨ G' k, ⟨lv, G', hOk, r1, hm, r2, ?_, ?_, fun k => Iff.rfl⟩, r3.mono (fun k _ hk => ?_), fun k hk => ?_⟩
  · intro hg
    rcases r4 _ hg with h | h
    · exact h4 h
    · omega
  · intro k hk
    refine ⟨fun hg => ?_, (h5 k hk).2⟩
    rcases r4 _ hg with h | h
    · exact (h5 k hk).1 h
    · have := hlvlt k hk; omega
  · rcases hk with rfl | hk
    · exact (h6 _).2 (.inl rfl)
    · exact (h6 _).2 (.inr (.inr hk))
  · rcases hk with rfl | hk | hk
    · exact .inl ((h6 _).2 (.inl rfl))
    · exact .inl ((h6 _).2 (.inr (.inl hk)))
    · rcases r4 _ hk with h | h
      · exact .inl ((h6 _).2 (.inr (.inr h)))
      · exact .inr h

theorem mark_fst (L : LSt) (D : DSt) : ∃ d, (L.mark D).1 = { L with dead := d } := by
  have hf : ∀ e, ∃ d, (L.fail e).1 = { L with dead := d } := by
    intro e
    unfold LSt.fail
    split
    · exact ⟨_, rfl⟩
    · exact ⟨_, rfl⟩
  unfold LSt.mark
  dsimp only
  split
  · exact hf _
  · exact hf _
theorem sync_nil (w : World) : Calls Tryz.prog 52 #[.pointer none] w fun e w' => e = .returned (.int .i64 2) ∧ w = w' := by
  go_enter Tryz.func52, Tryz.ntmps52
  go_wp2_with fail
  go_ret
  exact ⟨rfl, rfl⟩

set_option maxHeartbeats 1000000 in
theorem sync_ok {w : World} {lb db : Nat} {L : LSt} {D : DSt} {F : Nat → Prop} (h : WalAt w lb db L D F) (hwt : D.waits.length < 99999999990) :
    Calls Tryz.prog 52 #[.pointer (some ⟨lb, 0, none⟩)] w fun e w' => e = .returned (.int .i64 (L.sync D).2.2) ∧ WalPost w lb db (L.sync D).1 (L.sync D).2.1 F w' := by
  obtain ⟨lv, G, hOk, hC, hM, hD, hG, hlv, hF⟩ := id h
  obtain ⟨c0, c1, c2, c3, c4, c5, c6, c7, c8⟩ := nine hC
  obtain ⟨de, hde⟩ : ∃ de, L.dead = de := ⟨_, rfl⟩
  have hfr := hC.frozen
  have H := Lib.hid (And.intro hOk (And.intro hC (And.intro hM (And.intro hD (And.intro hG (And.intro hlv hF))))))
  have Hh := Lib.hid h
  have Hwt := Lib.hid hwt
  clear hOk hC hM hD hG hlv hF h hwt c1 c2 c3 c4 c5
  cases de with
  | true =>
    rw [hde] at c8
    have hs : L.sync D = (L, D, 10) := by rw [LSt.sync, if_pos hde]
    rw [hs]
    have Hde := Lib.hid hde
    clear hs hde c6 c7 hfr
    go_enter Tryz.func52, Tryz.ntmps52
    go_wp2_with fail
    go_ret
    exact ⟨rfl, F, Hh.out, Upd.refl _ _, fun k hk => .inl hk⟩
  | false =>
    rw [hde] at c8
    obtain ⟨⟨D1, r⟩, hfl⟩ : ∃ p, D.flush = p := ⟨_, rfl⟩
    have hs : L.sync D = if r = 0 then (if (({ L with synced := L.last } : LSt).mark D1).2.2 = 0 then (({ L with synced := L.last } : LSt).mark D1) else ({ (({ L with synced := L.last } : LSt).mark D1).1 with synced := L.synced }, (({ L with synced := L.last } : LSt).mark D1).2.1, (({ L with synced := L.last } : LSt).mark D1).2.2)) else ((L.fail r).1, D1, (L.fail r).2) := by
      unfold LSt.sync
      rw [if_neg (by rw [hde]; decide)]
      simp only [hfl]
    have Hde := Lib.hid hde
    have Hs := Lib.hid hs
    have Hfl := Lib.hid hfl
    clear hde hs hfl
    go_enter Tryz.func52, Tryz.ntmps52
    go_wp2_with fail
    refine (flush_disk H.out.2.2.2.1 (by have := Hwt.out; omega) Hfl.out).mono ?_
    rintro e w1 ⟨rfl, hD1, hu1⟩
    dsimp only
    have hC1 := H.out.2.1.upd hu1 H.out.2.2.2.2.1
    have hM1 := H.out.2.2.1.upd hu1 (fun k hk => (H.out.2.2.2.2.2.1 k hk).1)
    by_cases hr : r = 0
    · have hs := Hs.out
      rw [if_pos hr] at hs
      have Hs := Lib.hid hs
      subst hr
      obtain ⟨d0, d1, d2, d3, d4, d5, d6, d7, d8⟩ := nine hC1
      have hfr1 := hC1.frozen
      have H1 := Lib.hid (And.intro hD1 (And.intro hu1 (And.intro hC1 hM1)))
      clear hs hD1 hu1 hC1 hM1 c0 c6 c7 c8 hfr d0 d1 d2 d3 d4 d5 d8
      go_wp2_with fail
      have hC2 : Cells9 (w1.setCell ⟨lb, 7, none⟩ (.int .i64 L.last)) lb (preL { L with synced := L.last } db lv) := H1.out.2.2.1.set 7 (by decide) _
      have hu2 : Upd (fun k => k = lb) w1 (w1.setCell ⟨lb, 7, none⟩ (.int .i64 L.last)) := (Upd.refl _ _).setCell _ (.inl rfl)
      have hwt1 : D1.waits.length < 99999999990 := by
        have h1 := Hfl.out
        have h2 := Hwt.out
        unfold DSt.flush at h1
        split at h1
        · cases h1
        · split at h1
          · cases h1
          · cases h1; exact (by decide : (0 : Nat) < 99999999990)
      refine (mark_raw hC2 (H1.out.2.2.2.upd hu2 (fun k hk => (H.out.2.2.2.2.2.1 k hk).2)) H.out.1.synced_last (H1.out.1.upd hu2 (fun k hk e => H.out.2.2.2.2.1 (e ▸ hk))) H.out.2.2.2.2.1 H.out.2.2.2.2.2.1 hwt1).mono ?_
      rintro e w3 ⟨rfl, hraw⟩
      dsimp only
      obtain ⟨⟨L2, D2, r2⟩, hmk⟩ : ∃ p, ({ L with synced := L.last } : LSt).mark D1 = p := ⟨_, rfl⟩
      have hmok := (H.out.1.synced_last).mark D1
      rw [hmk] at hraw hmok
      have hs := Hs.out
      rw [hmk] at hs
      rw [hmk]
      dsimp only at hraw hs hmok ⊢
      have hlist : L2.list = L.list := by
        obtain ⟨d, h1⟩ := mark_fst ({ L with synced := L.last } : LSt) D1
        rw [hmk] at h1
        dsimp only at h1
        rw [h1]
      have hlast : L2.last = L.last := by
        obtain ⟨d, h1⟩ := mark_fst ({ L with synced := L.last } : LSt) D1
        rw [hmk] at h1
        dsimp only at h1
        rw [h1]
      have hun : Upd (fun k => k = lb ∨ G k) w w3 := by
        obtain ⟨G', r1, r2, r3, r4⟩ := hraw
        exact ((H1.out.2.1.mono (fun _ _ h => .inr h)).trans (hu2.mono (fun _ _ h => .inl h))).trans r3
      have hM3 : Mid w3 2 lv L2.list.length (listV L2.list) := by
        rw [hlist]
        refine H.out.2.2.1.upd hun (fun k hk h => ?_)
        rcases h with h | h
        · exact (H.out.2.2.2.2.2.1 k hk).2 h
        · exact (H.out.2.2.2.2.2.1 k hk).1 h
      have hraw' : RawPost w lb db L2 lv D2 G w3 := by
        obtain ⟨G', r1, r2, r3, r4⟩ := hraw
        refine ⟨G', r1, r2, hun, fun k hk => ?_⟩
        rcases r4 k hk with h | h
        · exact .inl h
        · have h1 := H1.out.2.1.size
          have h2 := hu2.size
          exact .inr (by omega)
      have H3 := Lib.hid (And.intro hraw' (And.intro hM3 (And.intro hlast hmok)))
      clear hraw hraw' hM3 hlist hlast hun hmk hwt1 hC2 hu2 hmok
      by_cases hr2 : r2 = 0
      · rw [if_pos hr2] at hs
        subst hr2
        have Hs := Lib.hid hs
        clear hs
        go_wp2_with fail
        go_ret
        rw [Hs.out]
        refine ⟨rfl, walPost_of_raw H3.out.2.2.2 H3.out.2.1 H.out.2.2.2.2.1 H.out.2.1.lt (fun k hk => H.out.2.2.1.lt k hk) H.out.2.2.2.2.2.1 H.out.2.2.2.2.2.2 H3.out.1⟩
      · rw [if_neg hr2] at hs
        have hne : (r2 != 0) = true := by simp [hr2]
        have Hs := Lib.hid hs
        have hfr3 : w3.frozen? ⟨lb, 7, none⟩ = false := by
          obtain ⟨G', r1, _⟩ := H3.out.1
          exact r1.frozen 7
        obtain ⟨v7, hv7⟩ : ∃ v, w3.cell? ⟨lb, 7, none⟩ = some v := by
          obtain ⟨G', r1, _⟩ := H3.out.1
          exact ⟨_, (nine r1).2.2.2.2.2.2.2.1⟩
        clear hs hr2
        go_wp2_with fail
        go_ret
        rw [Hs.out]
        have hsok : ({ L2 with synced := L.synced } : LSt).Ok := by
          have h1 := H3.out.2.2.2
          have h2 := H3.out.2.2.1
          exact ⟨h1.two, h1.fit, h1.start, h1.used, h1.sum, h1.needs, h1.nums, h1.last, by show L.synced ≤ L2.last; rw [h2]; exact H.out.1.synced⟩
        refine ⟨rfl, walPost_of_raw hsok ?_ H.out.2.2.2.2.1 H.out.2.1.lt (fun k hk => H.out.2.2.1.lt k hk) H.out.2.2.2.2.2.1 H.out.2.2.2.2.2.2 ?_⟩
        · exact H3.out.2.1.upd ((Upd.refl (fun k => k = lb) _).setCell _ (.inl rfl)) (fun k hk => (H.out.2.2.2.2.2.1 k hk).2)
        · obtain ⟨G', r1, r2', r3, r4⟩ := H3.out.1
          refine ⟨G', r1.set 7 (by decide) _, r2'.upd ((Upd.refl (fun k => k = lb) _).setCell _ (.inl rfl)) (fun k hk e => ?_), r3.setCell _ (.inl (.inl rfl)), r4⟩
          rcases r4 k hk with h | h
          · exact H.out.2.2.2.2.1 (e ▸ h)
          · have := H.out.2.1.lt; omega
    · have hs := Hs.out
      rw [if_neg hr] at hs
      have Hs := Lib.hid hs
      have hne : (r != 0) = true := by simp [hr]
      have H1 := Lib.hid (And.intro hD1 (And.intro hu1 (And.intro hC1 hM1)))
      clear hs hD1 hu1 hC1 hM1 c0 c6 c7 c8 hr hfr
      go_wp2_with fail
      refine (fail_log lb db L lv r _ H1.out.2.2.1).mono ?_
      rintro e w2 ⟨rfl, hu2, hC2⟩
      dsimp only
      have H2 := Lib.hid (And.intro hu2 hC2)
      clear hu2 hC2
      go_wp2_with fail
      go_ret
      rw [Hs.out]
      refine ⟨by rw [fail_snd]; rfl, walPost_of_raw (H.out.1.fail r) ?_ H.out.2.2.2.2.1 H.out.2.1.lt (fun k hk => H.out.2.2.1.lt k hk) H.out.2.2.2.2.2.1 H.out.2.2.2.2.2.2 ?_⟩
      · have hl : (L.fail r).1.list = L.list := by unfold LSt.fail; split <;> rfl
        rw [hl]
        exact H1.out.2.2.2.upd H2.out.1 (fun k hk => (H.out.2.2.2.2.2.1 k hk).2)
      · exact ⟨G, H2.out.2, H1.out.1.upd H2.out.1 (fun k hk e => H.out.2.2.2.2.1 (e ▸ hk)), (H1.out.2.1.mono (fun _ _ h => .inr h)).trans (H2.out.1.mono (fun _ _ h => .inl h)), fun k hk => .inl hk⟩
end Go.Proofs.YtihlijnobbonbaaGreat
/- wal: Make. -/
namespace Go.Proofs.YtihlijnobbonbaaGreat
open Go.RowKit
set_option linter.unusedSimpArgs false
set_option linter.unusedVariables false
set_option maxRecDepth 100000

theorem make_err (dv : Value) (fr n e : Int) (w : World) (he : (e != 0) = true) (hc : Calls Tryz.prog 59 #[dv, .int .i64 fr, .int .i64 n] w fun r w' => r = .returned (.int .i64 e) ∧ w = w') :
    Calls Tryz.prog 39 #[dv, .int .i64 fr, .int .i64 n] w fun r w' => r = .returned (.tuple #[.pointer none, .int .i64 e]) ∧ w = w' := by
  have Hc := Lib.hid hc
  clear hc
  go_enter Tryz.func39, Tryz.ntmps39
  go_wp2_with fail
  refine Hc.out.mono ?_
  rintro e w1 ⟨rfl, rfl⟩
  dsimp only
  go_wp2_with fail
  go_ret2
  exact ⟨rfl, rfl⟩
theorem zeroLog : Tryz.zeroCells140 = (([.pointer none, .int .i64 0, .int .i64 0, .int .i64 0, .int .i64 0, .slice none 0 0, .int .i64 0, .int .i64 0, .bool false] : List Value) ++ tabV 0 0 (List.replicate 256 0#32) 0 ++ []).toArray := by kernel_rfl
theorem newLog (db : Nat) (fr n : Nat) : ((Tryz.zeroCells140.setIfInBounds 0 (.pointer (some ⟨db, 0, none⟩))).setIfInBounds 1 (.int .i64 fr)).setIfInBounds 2 (.int .i64 n) = (preL (LSt.made fr n) db (.slice none 0 0) ++ tabV 0 0 (List.replicate 256 0#32) 0 ++ []).toArray := by
  rw [zeroLog]
  rfl
theorem log_new (w : World) (db fr n : Nat) : Cells9 (w.alloc (.cells (((Tryz.zeroCells140.setIfInBounds 0 (.pointer (some ⟨db, 0, none⟩))).setIfInBounds 1 (.int .i64 fr)).setIfInBounds 2 (.int .i64 n)) 140)) w.heap.size (preL (LSt.made fr n) db (.slice none 0 0)) :=
  ⟨0, .inl ⟨List.replicate 256 0#32, rfl, by simp, by rw [heap_alloc_new, newLog]⟩⟩
theorem fail_zero (L : LSt) (e : Int) (h : (L.fail e).2 = 0) : (L.fail e).1 = L := by
  unfold LSt.fail at h ⊢
  split
  · rfl
  · rename_i he
    rw [if_neg he] at h
    cases h
theorem mark_zero (L : LSt) (D : DSt) (h : (L.mark D).2.2 = 0) : (L.mark D).1 = L := by
  unfold LSt.mark at h ⊢
  dsimp only at h ⊢
  split
  · rename_i he
    rw [if_pos he] at h
    exact fail_zero _ _ h
  · rename_i he
    rw [if_neg he] at h
    exact fail_zero _ _ h
/-- What Make does. -/
def makeD (D : DSt) (fr n : Nat) : DSt × Int := if D.flush.2 = 0 then (((LSt.made fr n).mark D.flush.1).2.1, ((LSt.made fr n).mark D.flush.1).2.2) else (D.flush.1, D.flush.2)
def MakePost (w : World) (db fr n : Nat) (D D' : DSt) (F : Nat → Prop) (r : Int) (p : Option Addr) (w' : World) : Prop :=
  (r = 0 ∧ ∃ lb F', p = some ⟨lb, 0, none⟩ ∧ WalAt w' lb db (LSt.made fr n) D' F' ∧ Upd F w w' ∧ (∀ k, F' k → F k ∨ w.heap.size ≤ k)) ∨
  (r ≠ 0 ∧ p = none ∧ ∃ F', DiskAt w' db D' F' ∧ Upd F w w' ∧ (∀ k, F' k → F k ∨ w.heap.size ≤ k))

set_option maxHeartbeats 1000000 in
theorem make_ok {w : World} {db : Nat} {D : DSt} {F : Nat → Prop} (hD : DiskAt w db D F) (fr n : Nat) (h2 : 2 ≤ n) (hf : fr + n ≤ D.secs.length) (hwt : D.waits.length < 99999999990) :
    Calls Tryz.prog 39 #[.pointer (some ⟨db, 0, none⟩), .int .i64 fr, .int .i64 n] w fun e w' => ∃ p, e = .returned (.tuple #[.pointer p, .int .i64 (makeD D fr n).2]) ∧ MakePost w db fr n D (makeD D fr n).1 F (makeD D fr n).2 p w' := by
  have hreg := region_good hD fr n (by omega) (by omega) (by omega)
  have H := Lib.hid (And.intro hD (And.intro h2 (And.intro hf hwt)))
  have hmost := hD.1.most
  have Hreg := Lib.hid hreg
  have Hmost := Lib.hid hmost
  clear hD h2 hf hwt hreg hmost
  go_enter Tryz.func39, Tryz.ntmps39
  go_wp2_with fail
  refine Hreg.out.mono ?_
  rintro e w1 ⟨rfl, rfl⟩
  dsimp only
  go_wp2_with fail
  have hC0 := log_new w db fr n
  have hu0 : Upd (fun _ => False) w (w.alloc (.cells (((Tryz.zeroCells140.setIfInBounds 0 (.pointer (some ⟨db, 0, none⟩))).setIfInBounds 1 (.int .i64 fr)).setIfInBounds 2 (.int .i64 n)) 140)) := (Upd.refl _ w).alloc _
  obtain ⟨lb, hlb⟩ : ∃ lb, w.heap.size = lb := ⟨_, rfl⟩
  rw [hlb] at hC0 ⊢
  generalize w.alloc (.cells (((Tryz.zeroCells140.setIfInBounds 0 (.pointer (some ⟨db, 0, none⟩))).setIfInBounds 1 (.int .i64 fr)).setIfInBounds 2 (.int .i64 n)) 140) = w2 at *
  obtain ⟨⟨D1, r⟩, hfl⟩ : ∃ p, D.flush = p := ⟨_, rfl⟩
  have hmk : makeD D fr n = if r = 0 then (((LSt.made fr n).mark D1).2.1, ((LSt.made fr n).mark D1).2.2) else (D1, r) := by simp only [makeD, hfl]
  have hD2 := H.out.1.upd hu0 (fun _ _ h => h)
  have hF : ¬ F lb := fun h => by have := H.out.1.lt lb h; omega
  have H2 := Lib.hid (And.intro hC0 (And.intro hu0 (And.intro hlb (And.intro hfl (And.intro hmk hF)))))
  refine (flush_disk hD2 (by have := H.out.2.2.2; omega) hfl).mono ?_
  clear hC0 hu0 hlb hfl hmk hD2 hF
  rintro e w3 ⟨rfl, hD3, hu3⟩
  dsimp only
  have H3 := Lib.hid (And.intro hD3 hu3)
  clear hD3 hu3
  by_cases hr : r = 0
  · have hmk := H2.out.2.2.2.2.1
    rw [if_pos hr] at hmk
    have Hmk := Lib.hid hmk
    clear hmk
    have hwt1 : D1.waits.length < 99999999990 := by
      have h1 := H2.out.2.2.2.1
      have h2 := H.out.2.2.2
      unfold DSt.flush at h1
      split at h1
      · cases h1; omega
      · split at h1
        · cases h1; omega
        · cases h1; exact (by decide : (0 : Nat) < 99999999990)
    have Hw := Lib.hid hwt1
    clear hwt1
    subst hr
    go_wp2_with fail
    have hok : (LSt.made fr n).Ok := by
      have h2 := H.out.2.1
      have h3 := H.out.2.2.1
      have h4 := Hmost.out
      exact ⟨h2, by show fr + n ≤ 4096; omega, by show 0 < n - 1; omega, Nat.zero_le _, rfl, (fun p hp => by cases hp), (fun p hp => by cases hp), by show 0 < 1000000000000000000; decide, Nat.le_refl _⟩
    have hC3 := H2.out.1.upd H3.out.2 H2.out.2.2.2.2.2
    refine (mark_raw hC3 (Mid.nil _ _) hok H3.out.1 H2.out.2.2.2.2.2 (fun k hk => by cases hk) Hw.out).mono ?_
    rintro e w4 ⟨rfl, hraw⟩
    dsimp only
    have hok4 := hok.mark D1
    obtain ⟨d, hfst⟩ := mark_fst (LSt.made fr n) D1
    have hz := mark_zero (LSt.made fr n) D1
    obtain ⟨⟨L2, D2, r2⟩, hm⟩ : ∃ p, (LSt.made fr n).mark D1 = p := ⟨_, rfl⟩
    have hmk := Hmk.out
    rw [hm] at hraw hfst hz hok4 hmk ⊢
    dsimp only at hraw hfst hz hok4 hmk ⊢
    have Hmk := Lib.hid hmk
    have hFin : Hid (∃ F', WalAt w4 lb db L2 D2 F' ∧ (∃ G', DiskAt w4 db D2 G' ∧ (∀ k, G' k → F k ∨ w.heap.size ≤ k)) ∧ Upd F w w4 ∧ (∀ k, F' k → F k ∨ w.heap.size ≤ k)) := by
      obtain ⟨G', r1, r2, r3, r4⟩ := hraw
      have hs2 := H2.out.2.1.size
      have hs3 := H3.out.2.size
      have hlb := H2.out.2.2.1
      have hg : ∀ k, G' k → F k ∨ w.heap.size ≤ k := fun k hk => by
        rcases r4 k hk with h | h
        · exact .inl h
        · exact .inr (by omega)
      have hfl2 : ¬ G' lb := fun h => by
        rcases r4 lb h with h | h
        · exact H2.out.2.2.2.2.2 h
        · have := H2.out.1.lt; omega
      have hls : L2.list = [] := by rw [hfst]; rfl
      refine ⟨fun k => k = lb ∨ (Value.slice none 0 0).ownBlock = some k ∨ G' k, ⟨.slice none 0 0, G', hok4, r1, by rw [hls]; exact Mid.nil _ _, r2, hfl2, (fun k hk => by cases hk), fun k => Iff.rfl⟩, ⟨G', r2, hg⟩, ?_, fun k hk => ?_⟩
      · refine ((H2.out.2.1.mono (fun _ _ h => h.elim)).trans H3.out.2).then r3 (fun k hk => ?_)
        rcases hk with rfl | hk
        · exact .inr (by omega)
        · exact .inl hk
      · rcases hk with rfl | hk | hk
        · exact .inr (by omega)
        · cases hk
        · exact hg k hk
    have Hz := Lib.hid hz
    clear hraw hfst hz hok4 hm hC3 hok hmk
    by_cases hr2 : r2 = 0
    · have Hl := Lib.hid (Hz.out hr2)
      subst hr2
      go_wp2_with fail
      go_ret2
      rw [Hmk.out]
      obtain ⟨F', g1, _, g2, g3⟩ := hFin.out
      rw [Hl.out] at g1
      exact ⟨_, rfl, .inl ⟨rfl, lb, F', rfl, g1, g2, g3⟩⟩
    · have hne : (r2 != 0) = true := by simp [hr2]
      have Hr2 := Lib.hid hr2
      clear hr2
      go_wp2_with fail
      go_ret2
      rw [Hmk.out]
      obtain ⟨F', g1, ⟨G', g4, g5⟩, g2, g3⟩ := hFin.out
      exact ⟨none, rfl, .inr ⟨Hr2.out, rfl, G', g4, g2, g5⟩⟩
  · have hmk := H2.out.2.2.2.2.1
    rw [if_neg hr] at hmk
    have Hmk := Lib.hid hmk
    have hne : (r != 0) = true := by simp [hr]
    have Hr := Lib.hid hr
    clear hmk hr
    go_wp2_with fail
    go_ret2
    rw [Hmk.out]
    exact ⟨none, rfl, .inr ⟨Hr.out, rfl, F, H3.out.1, (H2.out.2.1.mono (fun _ _ h => h.elim)).trans H3.out.2, fun k hk => .inl hk⟩⟩
end Go.Proofs.YtihlijnobbonbaaGreat
/- wal: Trim. -/
namespace Go.Proofs.YtihlijnobbonbaaGreat
open Go.RowKit
set_option linter.unusedSimpArgs false
set_option linter.unusedVariables false
set_option maxRecDepth 100000

theorem trim_nil (u : Int) (w : World) : Calls Tryz.prog 64 #[.pointer none, .int .i64 u] w fun e w' => e = .returned (.int .i64 2) ∧ w = w' := by
  go_enter Tryz.func64, Tryz.ntmps64
  go_wp2_with fail
  go_ret
  exact ⟨rfl, rfl⟩

def ShapePost (w : World) (sb : Nat) (v3 v4 v5 : Value) (w' : World) : Prop := w'.heap[sb]? = some (.cells #[v3, v4, v5] 162 (0, 0)) ∧ Upd (fun _ => False) w w' ∧ w.heap.size ≤ sb
theorem shape_ok {w : World} {lb : Nat} {v0 v1 v2 v6 v7 v8 : Value} (st us : Int) (sa : Option Addr) (n c : Nat) (h : Cells9 w lb [v0, v1, v2, .int .i64 st, .int .i64 us, .slice sa n c, v6, v7, v8]) :
    Calls Tryz.prog 78 #[.pointer (some ⟨lb, 0, none⟩)] w fun e w' => ∃ sb, e = .returned (.pointer (some ⟨sb, 0, none⟩)) ∧ ShapePost w sb (.int .i64 st) (.int .i64 us) (.slice sa n c) w' := by
  obtain ⟨c0, c1, c2, c3, c4, c5, c6, c7, c8⟩ := nine h
  clear h c0 c1 c2 c6 c7 c8
  go_enter Tryz.func78, Tryz.ntmps78
  go_wp2_with fail
  have HS : w.drew.cell? ⟨lb, 3, none⟩ = some (.int .i64 st) ∧ w.drew.cell? ⟨lb, 4, none⟩ = some (.int .i64 us) ∧ w.drew.cell? ⟨lb, 5, none⟩ = some (.slice sa n c) := ⟨c3, c4, c5⟩
  refine wp_region_planD (fun w' => w'.cell? ⟨lb, 3, none⟩ = some (.int .i64 st) ∧ w'.cell? ⟨lb, 4, none⟩ = some (.int .i64 us) ∧ w'.cell? ⟨lb, 5, none⟩ = some (.slice sa n c)) 15 [(0, true), (1, true), (2, true), (3, true), (4, true), (5, true), (6, true), (7, true), (8, true), (9, true), (10, true), (11, true), (12, true), (13, false), (14, true)] (by kernel_rfl) (by kernel_rfl) (fun d _ _ _ _ h => by cases d <;> exact h) HS ?_
  iterate 13 (apply planD_held rfl rfl rfl (by simp) HS; (intro w' hS K hK; go_simp; exact hK))
  refine planD_op rfl rfl (fun K hK => ?_)
  go_simp
  have hl : lb < w.heap.size := World.block_lt_of_cell? w ⟨lb, 3, none⟩ c3
  have hu : Upd (fun _ => False) w ((w.alloc (.cells #[.int .i64 st, .int .i64 us, .slice sa n c] 162)).drew) := ((Upd.refl _ w).alloc _).drew
  have hn : ((w.alloc (.cells #[.int .i64 st, .int .i64 us, .slice sa n c] 162)).drew).heap[w.heap.size]? = some (.cells #[.int .i64 st, .int .i64 us, .slice sa n c] 162 (0, 0)) := heap_alloc_new w _
  have HS2 : ((w.alloc (.cells #[.int .i64 st, .int .i64 us, .slice sa n c] 162)).drew).cell? ⟨lb, 3, none⟩ = some (.int .i64 st) ∧ ((w.alloc (.cells #[.int .i64 st, .int .i64 us, .slice sa n c] 162)).drew).cell? ⟨lb, 4, none⟩ = some (.int .i64 us) ∧ ((w.alloc (.cells #[.int .i64 st, .int .i64 us, .slice sa n c] 162)).drew).cell? ⟨lb, 5, none⟩ = some (.slice sa n c) :=
    ⟨(hu.cell hl (fun h => h)).trans c3, (hu.cell hl (fun h => h)).trans c4, (hu.cell hl (fun h => h)).trans c5⟩
  refine hK _ _ _ (fun u h => h) (fun _ => HS2) ?_
  have H := Lib.hid (And.intro hn hu)
  clear hu hn hK HS hl
  try (simp only [Act.put, List.setIfInBounds_toArray, List.set_cons_zero, List.set_cons_succ])
  (apply planD_held rfl rfl rfl (by simp) HS2; (intro w' hS K hK; go_simp; exact hK))
  refine planD_nil ?_
  clear HS2
  generalize (w.alloc (.cells #[.int .i64 st, .int .i64 us, .slice sa n c] 162)).drew = W at *
  go_wp2_with fail
  go_ret
  exact ⟨w.heap.size, rfl, H.out.1, H.out.2, Nat.le_refl _⟩

theorem upd_set {a w : World} {lb : Nat} (i : Nat) (v : Value) (h : Upd (fun k => k = lb) a w) : Upd (fun k => k = lb) a (w.setCell ⟨lb, i, none⟩ v) := h.setCell v (.inl rfl)
/-- In the middle of the loop. -/
def TrimR (w : World) (lb db : Nat) (L : LSt) (lv : Value) (upto : Int) (k : Nat) (wr : World) : Prop :=
  ∃ (M : LSt) (mv : Value), M.Ok ∧ M.cut upto = L.cut upto ∧ M.list.length = k ∧ Cells9 wr lb (preL M db mv) ∧ Mid wr 2 mv M.list.length (listV M.list) ∧ Upd (fun k => k = lb) w wr ∧ (mv.ownBlock = lv.ownBlock)
theorem cut_step {M : LSt} {p : Nat × Nat} {r : List (Nat × Nat)} {upto : Int} (h : M.Ok) (hl : M.list = p :: r) (hp : (p.1 : Int) ≤ upto) :
    ({ M with start := (M.start + p.2) % (M.n - 1), used := M.used - p.2, list := r } : LSt).Ok ∧ ({ M with start := (M.start + p.2) % (M.n - 1), used := M.used - p.2, list := r } : LSt).cut upto = M.cut upto ∧ p.2 ≤ M.used := by
  have hs := h.sum
  rw [hl] at hs
  simp only [List.map_cons, List.foldr_cons] at hs
  have h2 := h.two
  have hu := h.used
  refine ⟨⟨h.two, h.fit, ?_, ?_, ?_, ?_, ?_, h.last, h.synced⟩, ?_, by omega⟩
  · exact Nat.mod_lt _ (by omega)
  · show M.used - p.2 ≤ M.n - 1; omega
  · show (r.map (·.2)).foldr (· + ·) 0 = M.used - p.2; omega
  · exact fun q hq => h.needs q (by rw [hl]; exact List.mem_cons_of_mem _ hq)
  · exact fun q hq => h.nums q (by rw [hl]; exact List.mem_cons_of_mem _ hq)
  · rw [LSt.cut, LSt.cut, hl, trimTo, if_pos hp]
theorem cut_stop {M : LSt} {upto : Int} (h : ∀ p r, M.list = p :: r → upto < (p.1 : Int)) : M.cut upto = M := by
  rw [LSt.cut]
  cases hl : M.list with
  | nil => rw [trimTo, ← hl]
  | cons p r =>
    rw [trimTo, if_neg (by have := h p r hl; omega), ← hl]
theorem slice_from1 {P : Program} (t e : TypeId) (size : Nat) (hu : P.underlying t = some (.slice e)) (hs : (P.info? e).map (·.size) = some size) (g off m cap : Nat) (w : World) :
    (Instr.slice t (.slice (some ⟨g, off, none⟩) (m + 1) (cap + 1)) (some (.int .i64 1)) none none).run P w = .ok (.slice (some ⟨g, if cap = 0 then off else off + size, none⟩) m cap) w := by
  cases hq : P.info? e with
  | none => simp [hq] at hs
  | some i =>
    have hi : i.size = size := by simpa [hq] using hs
    have hb : (Instr.sliceBound (.int .i64 1) (m + 1) BoundsCode.sliceB).run P w = .ok 1 w := by
      rw [run_sliceBound w .i64 1 (m + 1) BoundsCode.sliceB (by decide) (by omega)]
      rfl
    simp [Instr.slice, run_underlying hu, Instr.sliceBounds, hb, sizeOf, typeInfo, hq, hi]
    by_cases hc : cap = 0
    · simp [hc]
    · rw [if_neg (by omega)]
      simp [Addr.add_mid, hc]
/-- All but the first. -/
theorem Mid.tail {w : World} {x : Option Addr} {c m : Nat} {p : Nat × Nat} {r : List (Nat × Nat)} (h : Mid w 2 (.slice x (m + 1) c) (m + 1) (listV (p :: r))) :
    ∃ g off cap, x = some ⟨g, off, none⟩ ∧ c = cap + 1 ∧ m ≤ cap ∧ cap + 1 ≤ maxLen ∧ w.cell? ⟨g, off, none⟩ = some (.int .i64 (p.1 : Nat)) ∧ w.cell? ⟨g, off + 1, none⟩ = some (.int .i64 (p.2 : Nat)) ∧
      Mid w 2 (.slice (some ⟨g, if cap = 0 then off else off + 2, none⟩) m cap) m (listV r) := by
  obtain ⟨hl, ⟨h0, h1⟩ | ⟨g, off, cap, he, h1, h2, h3, h4, h5⟩⟩ := h
  · cases h1
  · cases he
    obtain ⟨cap, rfl⟩ : ∃ c', c = c' + 1 := ⟨c - 1, by omega⟩
    have e : listV (p :: r) = entryV p ++ listV r := by simp [listV]
    rw [e] at h4 hl
    have hl2 : (listV r).length = m * 2 := by rw [List.length_append, entryV_length] at hl; omega
    refine ⟨g, off, cap, rfl, rfl, by omega, h2, h4 0 _ rfl, h4 1 _ rfl, hl2, .inr ⟨g, _, cap, rfl, by omega, by omega, h3, ?_, ?_⟩⟩
    · by_cases hc : cap = 0
      · have hm0 : m = 0 := by omega
        subst hm0
        have hn : listV r = [] := List.eq_nil_of_length_eq_zero (by simpa using hl2)
        rw [hn]
        intro j v hj
        cases hj
      · rw [if_neg hc]
        intro j v hj
        have := h4 (j + 2) v (by rw [List.getElem?_append_right (by rw [entryV_length]; omega), entryV_length]; exact hj)
        rwa [show off + (j + 2) = off + 2 + j by omega] at this
    · by_cases hc : cap = 0
      · intro j hj
        have : (cap - m) * 2 = 0 := by rw [hc]; simp
        omega
      · rw [if_neg hc]
        intro j hj
        have := h5 j (by omega)
        rwa [show off + (m + 1) * 2 + j = off + 2 + m * 2 + j by omega] at this
end Go.Proofs.YtihlijnobbonbaaGreat
/- wal: Trim, the walk. -/
namespace Go.Proofs.YtihlijnobbonbaaGreat
open Go.RowKit
set_option linter.unusedSimpArgs false
set_option linter.unusedVariables false
set_option maxRecDepth 100000

set_option maxHeartbeats 2000000 in
/-- One round of Trim's loop. -/
theorem trim_round {wr : World} {lb db : Nat} {M : LSt} {p : Nat × Nat} {r : List (Nat × Nat)} {mv : Value} {upto : Int} (hOk : M.Ok) (hl : M.list = p :: r) (hp : (p.1 : Int) ≤ upto) (hC : Cells9 wr lb (preL M db mv)) (hM : Mid wr 2 mv M.list.length (listV M.list)) (hmv : mv.ownBlock ≠ some lb) : True := by
  trivial

set_option maxHeartbeats 2000000 in
theorem trim_ok {w : World} {lb db : Nat} {L : LSt} {D : DSt} {F : Nat → Prop} (h : WalAt w lb db L D F) (hwt : D.waits.length < 99999999990) (upto : Int) (hm : upto ≤ 9223372036854775807) :
    Calls Tryz.prog 64 #[.pointer (some ⟨lb, 0, none⟩), .int .i64 upto] w fun e w' => e = .returned (.int .i64 (L.trim D upto).2.2) ∧ WalPost w lb db (L.trim D upto).1 (L.trim D upto).2.1 F w' := by
  obtain ⟨lv, G, hOk, hC, hM, hD, hG, hlv, hF⟩ := id h
  obtain ⟨c0, c1, c2, c3, c4, c5, c6, c7, c8⟩ := nine hC
  obtain ⟨de, hde⟩ : ∃ de, L.dead = de := ⟨_, rfl⟩
  obtain ⟨sy, hsy⟩ : ∃ sy, L.synced = sy := ⟨_, rfl⟩
  have hsyb : (sy : Int) < 1000000000000000000 := by have := hOk.synced; have := hOk.last; omega
  have H := Lib.hid (And.intro hOk (And.intro hC (And.intro hM (And.intro hD (And.intro hG (And.intro hlv hF))))))
  have Hh := Lib.hid h
  have Hwt := Lib.hid hwt
  clear hOk hC hM hD hG hlv hF h hwt c0 c1 c2 c3 c4 c5 c6
  rw [hde] at c8
  rw [hsy] at c7
  cases de with
  | true =>
    have hs : L.trim D upto = (L, D, 10) := by rw [LSt.trim, if_pos hde]
    rw [hs]
    have Hde := Lib.hid (And.intro hde hsy)
    clear hs hde hsy c7
    go_enter Tryz.func64, Tryz.ntmps64
    go_wp2_with fail
    go_ret
    exact ⟨rfl, F, Hh.out, Upd.refl _ _, fun k hk => .inl hk⟩
  | false =>
    by_cases hu : upto < 0 ∨ (sy : Int) < upto
    · have hs : L.trim D upto = (L, D, 1) := by rw [LSt.trim, if_neg (by rw [hde]; decide), if_pos (by rw [hsy]; exact hu)]
      rw [hs]
      have Hde := Lib.hid (And.intro hde hsy)
      clear hs hde hsy
      by_cases h0 : upto < 0
      · clear hu
        go_enter Tryz.func64, Tryz.ntmps64
        go_wp2_with fail
        go_ret
        exact ⟨rfl, F, Hh.out, Upd.refl _ _, fun k hk => .inl hk⟩
      · have hu1 : (sy : Int) < upto := by omega
        have hu0 : 0 ≤ upto := by omega
        clear hu h0
        go_enter Tryz.func64, Tryz.ntmps64
        go_wp2_with fail
        go_ret
        exact ⟨rfl, F, Hh.out, Upd.refl _ _, fun k hk => .inl hk⟩
    · have hs : L.trim D upto = if ((L.cut upto).mark D).2.2 = 0 then (L.cut upto).mark D else ({ ((L.cut upto).mark D).1 with start := L.start, used := L.used, list := L.list }, ((L.cut upto).mark D).2.1, ((L.cut upto).mark D).2.2) := by
        rw [LSt.trim, if_neg (by rw [hde]; decide), if_neg (by rw [hsy]; exact hu)]
      have hu0 : 0 ≤ upto := by omega
      have hu1 : upto ≤ (sy : Int) := by omega
      have hd0 : decide (upto < 0) = false := by simp; omega
      have hd1 : decide ((sy : Int) < upto) = false := by simp; omega
      have Hs := Lib.hid hs
      have Hde := Lib.hid (And.intro hde hsy)
      obtain ⟨xa, xc, rfl⟩ := H.out.2.2.1.sees.shape
      have hsh := shape_ok (L.start : Nat) (L.used : Nat) xa L.list.length xc H.out.2.1
      have Hsh := Lib.hid hsh
      clear hs hde hsy hu hsh
      go_enter Tryz.func64, Tryz.ntmps64
      go_wp2_with fail
      refine Hsh.out.mono ?_
      rintro e w1 ⟨sb, rfl, hsb, hu1', hsz⟩
      dsimp only
      have hrg : w1.rangeAt sb 0 [.int .i64 (L.start : Nat), .int .i64 (L.used : Nat), .slice xa L.list.length xc] := rangeAt_of_row hsb rfl
      have H1 := Lib.hid (And.intro hsb (And.intro hu1' hsz))
      clear hsb hu1' hsz c7 c8
      go_wp2_with ((with_reducible apply wpl_load_mid sb 0 [.int .i64 (L.start : Nat), .int .i64 (L.used : Nat), .slice xa L.list.length xc]); exact rfl; exact hrg; exact Tryz.underlying162; exact rfl; kernel_rfl; simp only [Act.put, List.setIfInBounds_toArray, List.set_cons_zero, List.set_cons_succ])
      have hu2 : Upd (fun _ => False) w (w1.alloc (.cells #[.int .i64 (L.start : Nat), .int .i64 (L.used : Nat), .slice xa L.list.length xc] 162)) := H1.out.2.1.alloc _
      have htb : (w1.alloc (.cells #[.int .i64 (L.start : Nat), .int .i64 (L.used : Nat), .slice xa L.list.length xc] 162)).heap[w1.heap.size]? = some (.cells #[.int .i64 (L.start : Nat), .int .i64 (L.used : Nat), .slice xa L.list.length xc] 162 (0, 0)) := heap_alloc_new w1 _
      have htl : w.heap.size ≤ w1.heap.size := H1.out.2.1.size
      change Code.wp _ _ _ _ (w1.alloc (.cells #[.int .i64 (L.start : Nat), .int .i64 (L.used : Nat), .slice xa L.list.length xc] 162))
      generalize w1.alloc (.cells #[.int .i64 (L.start : Nat), .int .i64 (L.used : Nat), .slice xa L.list.length xc] 162) = w2 at *
      generalize w1.heap.size = tb at *
      have hC2 := H.out.2.1.upd hu2 (fun h => h)
      have hM2 := H.out.2.2.1.upd hu2 (fun _ _ h => h)
      have HR0 : Hid (TrimR w2 lb db L (.slice xa L.list.length xc) upto L.list.length w2) := ⟨L, _, H.out.1, rfl, rfl, hC2, hM2, Upd.refl _ _, rfl⟩
      have H2 := Lib.hid (And.intro hu2 (And.intro htb htl))
      clear hu2 htb htl hC2 hM2 hrg H1 hd0 hd1
      go_loopg [] L.list.length (fun k wr => Hid (TrimR w2 lb db L (.slice xa L.list.length xc) upto k wr))
      case atStart => exact HR0
      case round =>
        clear HR0
        obtain ⟨M, mv, hMok, hMcut, hMk, hMC, hMM, hMu, hMb⟩ := hrel.out
        obtain ⟨d0, d1, d2, d3, d4, d5, d6, d7, d8⟩ := nine hMC
        by_cases hgo : ∃ p r, M.list = p :: r ∧ (p.1 : Int) ≤ upto
        · obtain ⟨p, r, hl, hp⟩ := hgo
          obtain ⟨hs1, hs2, hs3⟩ := cut_step hMok hl hp
          have hst := hMok.start
          have hfit := hMok.fit
          have hus := hMok.used
          have h2 := hMok.two
          obtain ⟨n, hn⟩ : ∃ n, M.n = n + 2 := ⟨M.n - 2, by omega⟩
          obtain ⟨st, hst'⟩ : ∃ st, M.start = st := ⟨_, rfl⟩
          obtain ⟨us, hus'⟩ : ∃ us, M.used = us := ⟨_, rfl⟩
          obtain ⟨nd, hnd⟩ : ∃ nd, p.2 = nd := ⟨_, rfl⟩
          obtain ⟨nu, hnu⟩ : ∃ nu, p.1 = nu := ⟨_, rfl⟩
          obtain ⟨m, hm'⟩ : ∃ m, r.length = m := ⟨_, rfl⟩
          have hlm : M.list.length = m + 1 := by rw [hl, List.length_cons, hm']
          have hk : gk = m + 1 := by rw [← hMk, hlm]
          obtain ⟨x, c, rfl⟩ := hMM.sees.shape
          rw [hlm] at hMM hMb d5
          rw [hl] at hMM
          obtain ⟨g, off, cap, rfl, rfl, hc1, hc2, e0, e1, htl⟩ := hMM.tail
          have hgl : g ≠ lb := by
            have h1 := (H.out.2.2.2.2.2.1 g (by rw [← hMb]; rfl)).2
            exact h1
          have hdone : Hid (TrimR w2 lb db L (.slice xa L.list.length xc) upto m ((((wr.setCell ⟨lb, 3, none⟩ (.int .i64 (((st : Int) + (nd : Int)) % ((n : Int) + 1)))).setCell ⟨lb, 4, none⟩ (.int .i64 ((us : Int) - (nd : Int)))).setCell ⟨lb, 5, none⟩ (.slice (some ⟨g, if cap = 0 then off else off + 2, none⟩) m cap)).drew.drew)) := by
            have hU : Upd (fun k => k = lb) wr ((((wr.setCell ⟨lb, 3, none⟩ (.int .i64 (((st : Int) + (nd : Int)) % ((n : Int) + 1)))).setCell ⟨lb, 4, none⟩ (.int .i64 ((us : Int) - (nd : Int)))).setCell ⟨lb, 5, none⟩ (.slice (some ⟨g, if cap = 0 then off else off + 2, none⟩) m cap)).drew.drew) :=
              ((upd_set 5 _ (upd_set 4 _ (upd_set 3 _ (Upd.refl _ wr)))).drew).drew
            refine ⟨_, .slice (some ⟨g, if cap = 0 then off else off + 2, none⟩) m cap, hs1, hs2.trans hMcut, hm', ?_, ?_, hMu.trans hU, hMb⟩
            · have h3 := ((hMC.set 3 (by decide) (.int .i64 (((st : Int) + (nd : Int)) % ((n : Int) + 1)))).set 4 (by decide) (.int .i64 ((us : Int) - (nd : Int)))).set 5 (by decide) (.slice (some ⟨g, if cap = 0 then off else off + 2, none⟩) m cap)
              have hd : Upd (fun _ => False) ((((wr.setCell ⟨lb, 3, none⟩ (.int .i64 (((st : Int) + (nd : Int)) % ((n : Int) + 1)))).setCell ⟨lb, 4, none⟩ (.int .i64 ((us : Int) - (nd : Int)))).setCell ⟨lb, 5, none⟩ (.slice (some ⟨g, if cap = 0 then off else off + 2, none⟩) m cap))) ((((wr.setCell ⟨lb, 3, none⟩ (.int .i64 (((st : Int) + (nd : Int)) % ((n : Int) + 1)))).setCell ⟨lb, 4, none⟩ (.int .i64 ((us : Int) - (nd : Int)))).setCell ⟨lb, 5, none⟩ (.slice (some ⟨g, if cap = 0 then off else off + 2, none⟩) m cap)).drew.drew) := ((Upd.refl _ _).drew).drew
              have h4 := h3.upd hd (fun h => h)
              have e1 : ((M.start + p.2) % (M.n - 1) : Nat) = (((st + nd) % (n + 1) : Nat)) := by rw [hst', hnd, hn]; rfl
              have e2 : (((st + nd) % (n + 1) : Nat) : Int) = ((st : Int) + (nd : Int)) % ((n : Int) + 1) := by push_cast; rfl
              have e3 : ((M.used - p.2 : Nat) : Int) = (us : Int) - (nd : Int) := by rw [hus', hnd]; rw [hus', hnd] at hs3; omega
              have e4 : preL { M with start := (M.start + p.2) % (M.n - 1), used := M.used - p.2, list := r } db (.slice (some ⟨g, if cap = 0 then off else off + 2, none⟩) m cap) =
                  [.pointer (some ⟨db, 0, none⟩), .int .i64 M.fr, .int .i64 M.n, .int .i64 (((st : Int) + (nd : Int)) % ((n : Int) + 1)), .int .i64 ((us : Int) - (nd : Int)), .slice (some ⟨g, if cap = 0 then off else off + 2, none⟩) m cap, .int .i64 M.last, .int .i64 M.synced, .bool M.dead] := by
                simp only [preL]
                rw [e1, e2, e3]
              rw [e4]
              exact h4
            · rw [hm']
              exact htl.upd hU (fun k hk => by cases hk; exact hgl)
          rw [hn] at d2
          rw [hst'] at d3
          rw [hus'] at d4
          rw [hnu] at e0 hp
          rw [hnd] at e1
          have f1 : IntKind.i64.wrap ((st : Int) + (nd : Int)) = (st : Int) + (nd : Int) := by rw [IntKind.wrap_i64]; omega
          have f2 : IntKind.i64.wrap (((n + 2 : Nat) : Int) - 1) = (n : Int) + 1 := by rw [IntKind.wrap_i64]; omega
          have f4 : IntKind.i64.wrap ((us : Int) - (nd : Int)) = (us : Int) - (nd : Int) := by rw [IntKind.wrap_i64]; omega
          have hmb : (m : Int) ≤ 9223372036854775806 := by unfold maxLen at hc2; omega
          have q1 : decide ((0 : Int) < (m : Int) + 1) = true := by simp; try omega
          have q2 : decide ((nu : Int) ≤ upto) = true := by simpa using hp
          have hfrz := hMC.frozen
          have hstb : (st : Int) ≤ 4096 ∧ (nd : Int) ≤ 4096 ∧ (n : Int) ≤ 4096 := by omega
          clear hMok hMcut hMk hMC hMM hMu hMb d0 d1 d6 d7 d8 hs1 hs2 hs3 hl htl
          go_wp2_with fail
          have hne : ((n : Int) + 1 == 0) = false := by rw [beq_eq_false_iff_ne]; omega
          have hne2 : ¬ ((n : Int) + 1 = 0) := by omega
          have htm : ((st : Int) + (nd : Int)).tmod ((n : Int) + 1) = ((st : Int) + (nd : Int)) % ((n : Int) + 1) := Int.tmod_eq_emod_of_nonneg (by omega)
          have hm0 : 0 ≤ ((st : Int) + (nd : Int)) % ((n : Int) + 1) := Int.emod_nonneg _ (by omega)
          have hm1 : ((st : Int) + (nd : Int)) % ((n : Int) + 1) < (n : Int) + 1 := Int.emod_lt_of_pos _ (by omega)
          have f3 : IntKind.i64.wrap (((st : Int) + (nd : Int)).tmod ((n : Int) + 1)) = ((st : Int) + (nd : Int)) % ((n : Int) + 1) := by rw [htm, IntKind.wrap_i64]; omega
          have e2 : ((n + 2 : Nat) : Int) = (n : Int) + 2 := by omega
          rw [e2] at f2 d2
          have HS : wr.drew.cell? ⟨lb, 3, none⟩ = some (.int .i64 st) ∧ wr.drew.cell? ⟨lb, 5, none⟩ = some (.slice (some ⟨g, off, none⟩) (m + 1) (cap + 1)) ∧ wr.drew.cell? ⟨lb, 2, none⟩ = some (.int .i64 ((n : Int) + 2)) ∧ wr.drew.cell? ⟨g, off + 1, none⟩ = some (.int .i64 nd) := ⟨d3, d5, d2, e1⟩
          have Hmm := Lib.hid (And.intro hm0 hm1)
          have Hf4 := Lib.hid f4
          clear f4 e2 htm
          refine wp_region_planD (fun w' => w'.cell? ⟨lb, 3, none⟩ = some (.int .i64 st) ∧ w'.cell? ⟨lb, 5, none⟩ = some (.slice (some ⟨g, off, none⟩) (m + 1) (cap + 1)) ∧ w'.cell? ⟨lb, 2, none⟩ = some (.int .i64 ((n : Int) + 2)) ∧ w'.cell? ⟨g, off + 1, none⟩ = some (.int .i64 nd)) 21 [(0, true), (1, true), (2, true), (3, true), (4, true), (5, true), (6, true), (7, true), (8, true), (9, true), (10, true), (11, true), (12, true), (13, true), (14, true), (15, true), (16, true), (17, true), (18, true), (19, true), (20, true), (21, false)] (by kernel_rfl) (by kernel_rfl) (fun d _ _ _ _ h => by cases d <;> exact h) HS ?_
          iterate 21 (first | (apply planD_held rfl rfl rfl (by simp) HS; (intro w' hS K hK; go_simp; exact hK)) | (apply planD_wanted rfl rfl rfl (by simp) HS; (intro w' hS K hK; go_simp; exact hK)))
          refine planD_op rfl rfl (fun K hK => ?_)
          go_simp
          refine hK (fun _ => False) _ _ (fun u h => h.elim) (fun h => absurd rfl h) ?_
          refine planD_nil ?_
          clear HS hK f1 f2 f3 hne hne2 Hmm
          go_wp2_with fail
          have HS : (wr.setCell ⟨lb, 3, none⟩ (.int .i64 (((st : Int) + (nd : Int)).tmod ((n : Int) + 1)))).drew.drew.cell? ⟨lb, 4, none⟩ = some (.int .i64 us) ∧ (wr.setCell ⟨lb, 3, none⟩ (.int .i64 (((st : Int) + (nd : Int)).tmod ((n : Int) + 1)))).drew.drew.cell? ⟨lb, 5, none⟩ = some (.slice (some ⟨g, off, none⟩) (m + 1) (cap + 1)) ∧ (wr.setCell ⟨lb, 3, none⟩ (.int .i64 (((st : Int) + (nd : Int)).tmod ((n : Int) + 1)))).drew.drew.cell? ⟨g, off + 1, none⟩ = some (.int .i64 nd) := by
            refine ⟨?_, ?_, ?_⟩ <;> go_simp
          have f4 := Hf4.out
          refine wp_region_planD (fun w' => w'.cell? ⟨lb, 4, none⟩ = some (.int .i64 us) ∧ w'.cell? ⟨lb, 5, none⟩ = some (.slice (some ⟨g, off, none⟩) (m + 1) (cap + 1)) ∧ w'.cell? ⟨g, off + 1, none⟩ = some (.int .i64 nd)) 14 [(0, true), (1, true), (2, true), (3, true), (4, true), (5, true), (6, true), (7, true), (8, true), (9, true), (10, true), (11, true), (12, true), (13, true), (14, false)] (by kernel_rfl) (by kernel_rfl) (fun d _ _ _ _ h => by cases d <;> exact h) HS ?_
          iterate 14 (first | (apply planD_held rfl rfl rfl (by simp) HS; (intro w' hS K hK; go_simp; exact hK)) | (apply planD_wanted rfl rfl rfl (by simp) HS; (intro w' hS K hK; go_simp; exact hK)))
          refine planD_op rfl rfl (fun K hK => ?_)
          go_simp
          refine hK (fun _ => False) _ _ (fun u h => h.elim) (fun h => absurd rfl h) ?_
          refine planD_nil ?_
          clear HS hK f4
          obtain ⟨o5, ho5⟩ : ∃ o5, (if cap = 0 then off else off + 2) = o5 := ⟨_, rfl⟩
          have hsl := slice_from1 (P := Tryz.prog) 120 151 2 Tryz.underlying120 (by kernel_rfl) g off m cap
          rw [ho5] at hsl hdone
          go_wp2_with fail
          go_roundg m
          case measure => omega
          case rel => exact hdone
        · have hstop : M.cut upto = M := cut_stop (fun p r hl => by
            rcases Int.lt_or_le upto p.1 with h | h
            · exact h
            · exact absurd ⟨p, r, hl, h⟩ hgo)
          have hML : L.cut upto = M := by rw [← hMcut, hstop]
          have hexit : M.list.length = 0 ∨ ∃ g off nu m cap, mv = .slice (some ⟨g, off, none⟩) (m + 1) cap ∧ M.list.length = m + 1 ∧ wr.cell? ⟨g, off, none⟩ = some (.int .i64 ((nu : Nat) : Int)) ∧ upto < (nu : Int) ∧ (m : Int) ≤ 9223372036854775806 := by
            cases hl : M.list with
            | nil => exact .inl rfl
            | cons p r =>
              right
              obtain ⟨x, c, rfl⟩ := hMM.sees.shape
              rw [hl, List.length_cons] at hMM
              obtain ⟨g, off, cap, rfl, rfl, hc1, hc2, e0, e1, htl⟩ := hMM.tail
              refine ⟨g, off, p.1, r.length, cap + 1, by rw [hl, List.length_cons], rfl, e0, ?_, by unfold maxLen at hc2; omega⟩
              rcases Int.lt_or_le upto p.1 with h | h
              · exact h
              · exact absurd ⟨p, r, hl, h⟩ hgo
          have HM := Lib.hid (And.intro hMok (And.intro hML (And.intro hMC (And.intro hMM (And.intro hMu hMb)))))
          have Hk := Lib.hid hMk
          clear hMok hMcut hMk hMC hMM hMu hMb hgo hstop hML d0 d1 d2 d3 d4 d6 d7 d8 hrel
          have hrest : ∀ (K : Ending → World → Prop), (∀ w5, (Hid (∃ G', Cells9 w5 lb (preL (M.mark D).1 db mv) ∧ DiskAt w5 db (M.mark D).2.1 G' ∧ Upd (fun k => k = lb ∨ G k) w w5 ∧ (∀ k, G' k → G k ∨ w.heap.size ≤ k) ∧ Mid w5 2 mv M.list.length (listV M.list) ∧ w5.heap[tb]? = some (.cells #[.int .i64 (L.start : Nat), .int .i64 (L.used : Nat), .slice xa L.list.length xc] 162 (0, 0)))) → K (.returned (.int .i64 (M.mark D).2.2)) w5) →
              Calls Tryz.prog 60 #[.pointer (some ⟨lb, 0, none⟩)] wr K := by
            intro K hK
            have hDr := H.out.2.2.2.1.upd (H2.out.1.mono (fun _ _ h => h.elim) : Upd (fun k => k = lb) w w2) (fun k hk e => H.out.2.2.2.2.1 (e ▸ hk))
            have hDr2 := hDr.upd HM.out.2.2.2.2.1 (fun k hk e => H.out.2.2.2.2.1 (e ▸ hk))
            have hmvb : ∀ k, mv.ownBlock = some k → ¬ G k ∧ k ≠ lb := fun k hk => H.out.2.2.2.2.2.1 k (by rw [← HM.out.2.2.2.2.2]; exact hk)
            refine (mark_raw HM.out.2.2.1 HM.out.2.2.2.1 HM.out.1 hDr2 H.out.2.2.2.2.1 hmvb Hwt.out).mono ?_
            rintro e w5 ⟨rfl, hraw⟩
            refine hK w5 ?_
            obtain ⟨G', r1, r2, r3, r4⟩ := hraw
            have hsz1 := H2.out.1.size
            have hsz2 := HM.out.2.2.2.2.1.size
            refine ⟨G', r1, r2, ?_, ?_, ?_, ?_⟩
            · exact ((H2.out.1.mono (fun _ _ h => h.elim)).trans (HM.out.2.2.2.2.1.mono (fun _ _ h => .inl h))).trans r3
            · intro k hk
              rcases r4 k hk with h | h
              · exact .inl h
              · exact .inr (by omega)
            · exact HM.out.2.2.2.1.upd r3 (fun k hk h => by
                rcases h with h | h
                · exact (hmvb k hk).2 h
                · exact (hmvb k hk).1 h)
            · have htb2 : tb ≠ lb := by have := H2.out.2.2; have := H.out.2.1.lt; omega
              refine r3.heap (HM.out.2.2.2.2.1.heap H2.out.2.1 htb2) (fun h => ?_)
              rcases h with h | h
              · exact htb2 h
              · have := H.out.2.2.2.1.lt _ h; have := H2.out.2.2; omega
          have Hrest := Lib.hid hrest
          have hok1 := (HM.out.1).mark D
          obtain ⟨⟨M1, D1, r⟩, hmk⟩ : ∃ p, M.mark D = p := ⟨_, rfl⟩
          have hs := Hs.out
          rw [HM.out.2.1, hmk] at hs
          rw [hmk] at hok1
          have hfst := mark_fst M D
          rw [hmk] at hfst
          dsimp only at hs hok1 hfst
          have hrest := Hrest.out
          rw [hmk] at hrest
          dsimp only at hrest
          have Hrest := Lib.hid hrest
          have Hs := Lib.hid hs
          have Hok1 := Lib.hid (And.intro hok1 hfst)
          clear hrest hs hok1 hfst hmk
          have hfin : ∀ w5, (Hid (∃ G', Cells9 w5 lb (preL M1 db mv) ∧ DiskAt w5 db D1 G' ∧ Upd (fun k => k = lb ∨ G k) w w5 ∧ (∀ k, G' k → G k ∨ w.heap.size ≤ k) ∧ Mid w5 2 mv M.list.length (listV M.list) ∧ w5.heap[tb]? = some (.cells #[.int .i64 (L.start : Nat), .int .i64 (L.used : Nat), .slice xa L.list.length xc] 162 (0, 0)))) → WalPost w lb db M1 D1 F w5 := by
            intro w5 hw5
            obtain ⟨G', r1, r2, r3, r4, r5, r6⟩ := hw5.out
            obtain ⟨d, hd⟩ := Hok1.out.2
            have hml : M1.list = M.list := by rw [hd]
            have hb := HM.out.2.2.2.2.2
            exact walPost_of_raw Hok1.out.1 (by rw [hml]; exact r5) H.out.2.2.2.2.1 H.out.2.1.lt (fun k hk => H.out.2.2.1.lt k (by rw [← hb]; exact hk)) (fun k hk => H.out.2.2.2.2.2.1 k (by rw [← hb]; exact hk))
              (fun k => by rw [hb]; exact H.out.2.2.2.2.2.2 k) ⟨G', r1, r2, r3, r4⟩
          have Hfin := Lib.hid hfin
          clear hfin
          have htne : tb ≠ lb := by have := H2.out.2.2; have := H.out.2.1.lt; omega
          have htne' : lb ≠ tb := fun e => htne e.symm
          by_cases hr : r = 0
          · have hs := Hs.out
            rw [if_pos hr] at hs
            have Hs := Lib.hid hs
            clear hs
            subst hr
            rcases hexit with hl0 | ⟨g, off, nu, m, cap, rfl, hlm, e0, hnu, hmb⟩
            · obtain ⟨x, c, rfl⟩ := (HM.out.2.2.2.1).sees.shape
              rw [hl0] at d5
              have Hl0 := Lib.hid hl0
              clear hl0
              go_wp2_with fail
              refine Hrest.out _ (fun w5 hw5 => ?_)
              dsimp only
              clear d5
              go_wp2_with fail
              go_ret
              rw [Hs.out]
              exact ⟨rfl, Hfin.out _ hw5⟩
            · have Hl0 := Lib.hid hlm
              have q1 : decide ((0 : Int) < (m : Int) + 1) = true := by simp; try omega
              have q2 : decide ((nu : Int) ≤ upto) = false := by simp; omega
              clear hlm
              go_wp2_with fail
              refine Hrest.out _ (fun w5 hw5 => ?_)
              dsimp only
              clear d5 e0
              go_wp2_with fail
              go_ret
              rw [Hs.out]
              exact ⟨rfl, Hfin.out _ hw5⟩
          · have hs := Hs.out
            rw [if_neg hr] at hs
            have Hs := Lib.hid hs
            have hne : (r != 0) = true := by simp [hr]
            have hback : ∀ w5, (Hid (∃ G', Cells9 w5 lb (preL M1 db mv) ∧ DiskAt w5 db D1 G' ∧ Upd (fun k => k = lb ∨ G k) w w5 ∧ (∀ k, G' k → G k ∨ w.heap.size ≤ k) ∧ Mid w5 2 mv M.list.length (listV M.list) ∧ w5.heap[tb]? = some (.cells #[.int .i64 (L.start : Nat), .int .i64 (L.used : Nat), .slice xa L.list.length xc] 162 (0, 0)))) →
                WalPost w lb db { M1 with start := L.start, used := L.used, list := L.list } D1 F (((w5.setCell ⟨lb, 3, none⟩ (.int .i64 (L.start : Nat))).setCell ⟨lb, 4, none⟩ (.int .i64 (L.used : Nat))).setCell ⟨lb, 5, none⟩ (.slice xa L.list.length xc)).drew := by
              intro w5 hw5
              obtain ⟨G', r1, r2, r3, r4, r5, r6⟩ := hw5.out
              obtain ⟨d, hd⟩ := Hok1.out.2
              have hu : Upd (fun k => k = lb) w5 (((w5.setCell ⟨lb, 3, none⟩ (.int .i64 (L.start : Nat))).setCell ⟨lb, 4, none⟩ (.int .i64 (L.used : Nat))).setCell ⟨lb, 5, none⟩ (.slice xa L.list.length xc)).drew := (upd_set 5 _ (upd_set 4 _ (upd_set 3 _ (Upd.refl _ w5)))).drew
              have hdr : Upd (fun _ => False) (((w5.setCell ⟨lb, 3, none⟩ (.int .i64 (L.start : Nat))).setCell ⟨lb, 4, none⟩ (.int .i64 (L.used : Nat))).setCell ⟨lb, 5, none⟩ (.slice xa L.list.length xc)) (((w5.setCell ⟨lb, 3, none⟩ (.int .i64 (L.start : Nat))).setCell ⟨lb, 4, none⟩ (.int .i64 (L.used : Nat))).setCell ⟨lb, 5, none⟩ (.slice xa L.list.length xc)).drew := (Upd.refl _ _).drew
              have hcu : M = L.cut upto := HM.out.2.1.symm
              have hok : ({ M1 with start := L.start, used := L.used, list := L.list } : LSt).Ok := by
                have h0 := H.out.1
                rw [hd, hcu]
                exact ⟨h0.two, h0.fit, h0.start, h0.used, h0.sum, h0.needs, h0.nums, h0.last, h0.synced⟩
              refine walPost_of_raw (lv := .slice xa L.list.length xc) hok (H.out.2.2.1.upd (r3.trans (hu.mono (fun _ _ h => .inl h))) (fun k hk h => ?_)) H.out.2.2.2.2.1 H.out.2.1.lt (fun k hk => H.out.2.2.1.lt k hk) H.out.2.2.2.2.2.1 H.out.2.2.2.2.2.2 ⟨G', ?_, ?_, r3.trans (hu.mono (fun _ _ h => .inl h)), r4⟩
              · rcases h with h | h
                · exact (H.out.2.2.2.2.2.1 k hk).2 h
                · exact (H.out.2.2.2.2.2.1 k hk).1 h
              · exact ((((r1.set 3 (by decide) (.int .i64 (L.start : Nat))).set 4 (by decide) (.int .i64 (L.used : Nat))).set 5 (by decide) (.slice xa L.list.length xc))).upd hdr (fun h => h)
              · refine r2.upd hu (fun k hk e => ?_)
                rcases r4 k hk with h | h
                · exact H.out.2.2.2.2.1 (e ▸ h)
                · have := H.out.2.1.lt; omega
            have Hback := Lib.hid hback
            have hfr5 : ∀ w5, (Hid (∃ G', Cells9 w5 lb (preL M1 db mv) ∧ DiskAt w5 db D1 G' ∧ Upd (fun k => k = lb ∨ G k) w w5 ∧ (∀ k, G' k → G k ∨ w.heap.size ≤ k) ∧ Mid w5 2 mv M.list.length (listV M.list) ∧ w5.heap[tb]? = some (.cells #[.int .i64 (L.start : Nat), .int .i64 (L.used : Nat), .slice xa L.list.length xc] 162 (0, 0)))) →
                (w5.cell? ⟨tb, 0, none⟩ = some (.int .i64 (L.start : Nat)) ∧ w5.cell? ⟨tb, 1, none⟩ = some (.int .i64 (L.used : Nat)) ∧ w5.cell? ⟨tb, 2, none⟩ = some (.slice xa L.list.length xc)) ∧ (∀ i, w5.frozen? ⟨lb, i, none⟩ = false) ∧ (∃ v, w5.cell? ⟨lb, 3, none⟩ = some v) ∧ (∃ v, w5.cell? ⟨lb, 4, none⟩ = some v) ∧ (∃ v, w5.cell? ⟨lb, 5, none⟩ = some v) := by
              intro w5 hw5
              obtain ⟨G', r1, r2, r3, r4, r5, r6⟩ := hw5.out
              obtain ⟨d0, d1, d2, d3, d4, d5, d6, d7, d8⟩ := nine r1
              exact ⟨by simp [World.cell?, r6], r1.frozen, ⟨_, d3⟩, ⟨_, d4⟩, ⟨_, d5⟩⟩
            have Hfr5 := Lib.hid hfr5
            clear hs hr hback hfr5
            rcases hexit with hl0 | ⟨g, off, nu, m, cap, rfl, hlm, e0, hnu, hmb⟩
            · obtain ⟨x, c, rfl⟩ := (HM.out.2.2.2.1).sees.shape
              rw [hl0] at d5
              have Hl0 := Lib.hid hl0
              clear hl0
              go_wp2_with fail
              refine Hrest.out _ (fun w5 hw5 => ?_)
              dsimp only
              clear d5
              obtain ⟨⟨t0, t1, t2⟩, hfz, ⟨v3, k3⟩, ⟨v4, k4⟩, ⟨v5, k5⟩⟩ := Hfr5.out w5 hw5
              go_wp2_with fail
              have HS : w5.drew.cell? ⟨tb, 0, none⟩ = some (.int .i64 (L.start : Nat)) ∧ w5.drew.cell? ⟨tb, 1, none⟩ = some (.int .i64 (L.used : Nat)) ∧ w5.drew.cell? ⟨tb, 2, none⟩ = some (.slice xa L.list.length xc) := ⟨t0, t1, t2⟩
              refine wp_region_planD (fun w' => w'.cell? ⟨tb, 0, none⟩ = some (.int .i64 (L.start : Nat)) ∧ w'.cell? ⟨tb, 1, none⟩ = some (.int .i64 (L.used : Nat)) ∧ w'.cell? ⟨tb, 2, none⟩ = some (.slice xa L.list.length xc)) 17 [(0, true), (1, true), (2, true), (3, true), (4, true), (5, true), (6, true), (7, true), (8, true), (9, true), (10, true), (11, false), (12, true), (13, true), (14, false), (15, true), (16, true), (17, false)] (by kernel_rfl) (by kernel_rfl) (fun d _ _ _ _ h => by cases d <;> exact h) HS ?_
              iterate 11 (apply planD_held rfl rfl rfl (by simp) HS; (intro w' hS K hK; go_simp; exact hK))
              refine planD_op rfl rfl (fun K hK => ?_)
              go_simp
              refine hK _ _ _ (fun u h => h) (fun _ => by refine ⟨?_, ?_, ?_⟩ <;> go_simp) ?_
              clear hK
              have HS3 : (w5.setCell ⟨lb, 3, none⟩ (.int .i64 (L.start : Nat))).drew.cell? ⟨tb, 0, none⟩ = some (.int .i64 (L.start : Nat)) ∧ (w5.setCell ⟨lb, 3, none⟩ (.int .i64 (L.start : Nat))).drew.cell? ⟨tb, 1, none⟩ = some (.int .i64 (L.used : Nat)) ∧ (w5.setCell ⟨lb, 3, none⟩ (.int .i64 (L.start : Nat))).drew.cell? ⟨tb, 2, none⟩ = some (.slice xa L.list.length xc) := by
                refine ⟨?_, ?_, ?_⟩ <;> go_simp
              try (simp only [Act.put, List.setIfInBounds_toArray, List.set_cons_zero, List.set_cons_succ])
              iterate 2 (apply planD_held rfl rfl rfl (by simp) HS3; (intro w' hS K hK; go_simp; exact hK))
              refine planD_op rfl rfl (fun K hK => ?_)
              go_simp
              refine hK _ _ _ (fun u h => h) (fun _ => by refine ⟨?_, ?_, ?_⟩ <;> go_simp) ?_
              clear hK
              have HS4 : ((w5.setCell ⟨lb, 3, none⟩ (.int .i64 (L.start : Nat))).setCell ⟨lb, 4, none⟩ (.int .i64 (L.used : Nat))).drew.cell? ⟨tb, 0, none⟩ = some (.int .i64 (L.start : Nat)) ∧ ((w5.setCell ⟨lb, 3, none⟩ (.int .i64 (L.start : Nat))).setCell ⟨lb, 4, none⟩ (.int .i64 (L.used : Nat))).drew.cell? ⟨tb, 1, none⟩ = some (.int .i64 (L.used : Nat)) ∧ ((w5.setCell ⟨lb, 3, none⟩ (.int .i64 (L.start : Nat))).setCell ⟨lb, 4, none⟩ (.int .i64 (L.used : Nat))).drew.cell? ⟨tb, 2, none⟩ = some (.slice xa L.list.length xc) := by
                refine ⟨?_, ?_, ?_⟩ <;> go_simp
              try (simp only [Act.put, List.setIfInBounds_toArray, List.set_cons_zero, List.set_cons_succ])
              iterate 2 (apply planD_held rfl rfl rfl (by simp) HS4; (intro w' hS K hK; go_simp; exact hK))
              refine planD_op rfl rfl (fun K hK => ?_)
              go_simp
              refine hK (fun _ => False) _ _ (fun u h => h.elim) (fun h => absurd rfl h) ?_
              refine planD_nil ?_
              clear HS HS3 HS4 hK
              go_wp2_with fail
              go_ret
              rw [Hs.out]
              exact ⟨rfl, Hback.out _ hw5⟩
            · have Hl0 := Lib.hid hlm
              have q1 : decide ((0 : Int) < (m : Int) + 1) = true := by simp; try omega
              have q2 : decide ((nu : Int) ≤ upto) = false := by simp; omega
              clear hlm
              go_wp2_with fail
              refine Hrest.out _ (fun w5 hw5 => ?_)
              dsimp only
              clear d5 e0
              obtain ⟨⟨t0, t1, t2⟩, hfz, ⟨v3, k3⟩, ⟨v4, k4⟩, ⟨v5, k5⟩⟩ := Hfr5.out w5 hw5
              go_wp2_with fail
              have HS : w5.drew.cell? ⟨tb, 0, none⟩ = some (.int .i64 (L.start : Nat)) ∧ w5.drew.cell? ⟨tb, 1, none⟩ = some (.int .i64 (L.used : Nat)) ∧ w5.drew.cell? ⟨tb, 2, none⟩ = some (.slice xa L.list.length xc) := ⟨t0, t1, t2⟩
              refine wp_region_planD (fun w' => w'.cell? ⟨tb, 0, none⟩ = some (.int .i64 (L.start : Nat)) ∧ w'.cell? ⟨tb, 1, none⟩ = some (.int .i64 (L.used : Nat)) ∧ w'.cell? ⟨tb, 2, none⟩ = some (.slice xa L.list.length xc)) 17 [(0, true), (1, true), (2, true), (3, true), (4, true), (5, true), (6, true), (7, true), (8, true), (9, true), (10, true), (11, false), (12, true), (13, true), (14, false), (15, true), (16, true), (17, false)] (by kernel_rfl) (by kernel_rfl) (fun d _ _ _ _ h => by cases d <;> exact h) HS ?_
              iterate 11 (apply planD_held rfl rfl rfl (by simp) HS; (intro w' hS K hK; go_simp; exact hK))
              refine planD_op rfl rfl (fun K hK => ?_)
              go_simp
              refine hK _ _ _ (fun u h => h) (fun _ => by refine ⟨?_, ?_, ?_⟩ <;> go_simp) ?_
              clear hK
              have HS3 : (w5.setCell ⟨lb, 3, none⟩ (.int .i64 (L.start : Nat))).drew.cell? ⟨tb, 0, none⟩ = some (.int .i64 (L.start : Nat)) ∧ (w5.setCell ⟨lb, 3, none⟩ (.int .i64 (L.start : Nat))).drew.cell? ⟨tb, 1, none⟩ = some (.int .i64 (L.used : Nat)) ∧ (w5.setCell ⟨lb, 3, none⟩ (.int .i64 (L.start : Nat))).drew.cell? ⟨tb, 2, none⟩ = some (.slice xa L.list.length xc) := by
                refine ⟨?_, ?_, ?_⟩ <;> go_simp
              try (simp only [Act.put, List.setIfInBounds_toArray, List.set_cons_zero, List.set_cons_succ])
              iterate 2 (apply planD_held rfl rfl rfl (by simp) HS3; (intro w' hS K hK; go_simp; exact hK))
              refine planD_op rfl rfl (fun K hK => ?_)
              go_simp
              refine hK _ _ _ (fun u h => h) (fun _ => by refine ⟨?_, ?_, ?_⟩ <;> go_simp) ?_
              clear hK
              have HS4 : ((w5.setCell ⟨lb, 3, none⟩ (.int .i64 (L.start : Nat))).setCell ⟨lb, 4, none⟩ (.int .i64 (L.used : Nat))).drew.cell? ⟨tb, 0, none⟩ = some (.int .i64 (L.start : Nat)) ∧ ((w5.setCell ⟨lb, 3, none⟩ (.int .i64 (L.start : Nat))).setCell ⟨lb, 4, none⟩ (.int .i64 (L.used : Nat))).drew.cell? ⟨tb, 1, none⟩ = some (.int .i64 (L.used : Nat)) ∧ ((w5.setCell ⟨lb, 3, none⟩ (.int .i64 (L.start : Nat))).setCell ⟨lb, 4, none⟩ (.int .i64 (L.used : Nat))).drew.cell? ⟨tb, 2, none⟩ = some (.slice xa L.list.length xc) := by
                refine ⟨?_, ?_, ?_⟩ <;> go_simp
              try (simp only [Act.put, List.setIfInBounds_toArray, List.set_cons_zero, List.set_cons_succ])
              iterate 2 (apply planD_held rfl rfl rfl (by simp) HS4; (intro w' hS K hK; go_simp; exact hK))
              refine planD_op rfl rfl (fun K hK => ?_)
              go_simp
              refine hK (fun _ => False) _ _ (fun u h => h.elim) (fun h => absurd rfl h) ?_
              refine planD_nil ?_
              clear HS HS3 HS4 hK
              go_wp2_with fail
              go_ret
              rw [Hs.out]
              exact ⟨rfl, Hback.out _ hw5⟩
end Go.Proofs.YtihlijnobbonbaaGreat
/- wal: check. -/
namespace Go.Proofs.YtihlijnobbonbaaGreat
open Go.RowKit
set_option linter.unusedSimpArgs false
set_option linter.unusedVariables false
set_option maxRecDepth 100000

theorem wcheck_nil (v : Value) (w : World) : Calls Tryz.prog 65 #[.pointer none, v] w fun e w' => e = .returned (.int .i64 2) ∧ w = w' := by
  go_enter Tryz.func65, Tryz.ntmps65
  go_wp2_with fail
  go_ret
  exact ⟨rfl, rfl⟩
theorem bytesOf_le (b : Batch) (h : ¬ ∃ r ∈ b, 600 < r.size) : bytesOf b ≤ 16 + b.length * 604 := by
  induction b with
  | nil => simp [bytesOf]
  | cons r t ih =>
    have h1 := ih (fun ⟨x, hx, hl⟩ => h ⟨x, List.mem_cons_of_mem _ hx, hl⟩)
    have h2 : ¬ 600 < r.size := fun hl => h ⟨r, List.mem_cons_self .., hl⟩
    rw [bytesOf_eq] at h1 ⊢
    have e : bodyB (r :: t) = (leB 4 r.size ++ r.data.toList) ++ bodyB t := by simp [bodyB]
    have : r.data.toList.length = r.size := by rw [Array.length_toList]; rfl
    rw [e, List.length_append, List.length_append, leB_length, List.length_cons]
    omega
/-- What check leaves: the world, or one draw. -/
def Drawn (w w' : World) : Prop := w' = w ∨ w' = w.drew
theorem Drawn.upd {w w' : World} (h : Drawn w w') : Upd (fun _ => False) w w' := by
  rcases h with rfl | rfl
  · exact Upd.refl _ _
  · exact (Upd.refl _ w).drew
theorem Drawn.size {w w' : World} (h : Drawn w w') : w'.heap.size = w.heap.size := by
  rcases h with rfl | rfl <;> rfl
set_option maxHeartbeats 1000000 in
theorem wcheck_ok {w : World} {lb : Nat} {L : LSt} {db : Nat} {lv : Value} (h : Cells9 w lb (preL L db lv)) (hOk : L.Ok) (xa : Option Addr) (xc : Nat) (b : Batch) (hb : Sees w 1 (.slice xa b.length xc) b.length (strsV b)) :
    Calls Tryz.prog 65 #[.pointer (some ⟨lb, 0, none⟩), .slice xa b.length xc] w fun e w' => e = .returned (.int .i64 (L.check b)) ∧ Drawn w w' := by
  obtain ⟨c0, c1, c2, c3, c4, c5, c6, c7, c8⟩ := nine h
  obtain ⟨de, hde⟩ : ∃ de, L.dead = de := ⟨_, rfl⟩
  have hroom := room_ok h hOk
  have hm := hb.2.1
  have hlm : (b.length : Int) ≤ 9223372036854775807 := by unfold maxLen at hm; omega
  rw [hde] at c8
  have Hb := Lib.hid (And.intro hb (And.intro hde hroom))
  have hun : L.check b = if de then 10 else if b.length = 0 ∨ 1024 < b.length then 1 else if ∃ r ∈ b, 600 < r.size then 1 else if L.room < needB b then 12 else 0 := by rw [LSt.check, hde]
  have Hun := Lib.hid hun
  clear h hOk hroom hb hm hde c0 c1 c2 c3 c4 c5 c6 c7 hun
  cases de with
  | true =>
    go_enter Tryz.func65, Tryz.ntmps65
    go_wp2_with fail
    go_ret
    rw [Hun.out]
    exact ⟨rfl, .inl rfl⟩
  | false =>
    by_cases h0 : b.length = 0
    · have q0 : ((b.length : Int) == 0) = true := by rw [h0]; rfl
      have H0 := Lib.hid h0
      clear h0
      go_enter Tryz.func65, Tryz.ntmps65
      go_wp2_with fail
      go_ret
      rw [Hun.out, if_neg (by decide), if_pos (.inl H0.out)]
      exact ⟨rfl, .inl rfl⟩
    · have q0 : ((b.length : Int) == 0) = false := by rw [beq_eq_false_iff_ne]; omega
      by_cases h1 : 1024 < b.length
      · have q1 : decide ((1024 : Int) < (b.length : Int)) = true := by simp; omega
        have H0 := Lib.hid (And.intro h0 h1)
        clear h0 h1
        go_enter Tryz.func65, Tryz.ntmps65
        go_wp2_with fail
        go_ret
        rw [Hun.out, if_neg (by decide), if_pos (.inr H0.out.2)]
        exact ⟨rfl, .inl rfl⟩
      · have q1 : decide ((1024 : Int) < (b.length : Int)) = false := by simp; omega
        have hun := Hun.out
        rw [if_neg (by decide), if_neg (by omega)] at hun
        have Hun := Lib.hid hun
        have H0 := Lib.hid (And.intro h0 h1)
        have hb1 : (b.length : Int) ≤ 1024 := by omega
        clear h0 h1 hun
        go_enter Tryz.func65, Tryz.ntmps65
        go_wp2_with fail
        go_loop [26] (fun i => ∃ k : Nat, k ≤ b.length ∧ i = .int .i64 k ∧ Hid (∀ j (hj : j < b.length), j < k → ¬ 600 < (b[j]).size)) (fun i => b.length - (intOf i).toNat)
        case atStart => exact ⟨0, Nat.zero_le _, rfl, Lib.hid (fun j _ hj => absurd hj (by omega))⟩
        case round =>
          obtain ⟨k, hk, rfl, Hk⟩ := hrel
          by_cases hlt : k < b.length
          · have hlt2 : (k : Int) < (b.length : Int) := by omega
            obtain ⟨r, hr⟩ : ∃ r, b[k] = r := ⟨_, rfl⟩
            obtain ⟨_, _, xo, cc, e', hc⟩ := Hb.out.1
            cases e'
            obtain ⟨g, off, rfl, hrr⟩ := hc (by omega)
            have hcell : w.cell? ⟨g, off + k, none⟩ = some (.string r) := hrr k _ (by simp [strsV, hlt, hr])
            by_cases h6 : 600 < r.size
            · have q2 : (600 : Int) < (r.size : Int) := by omega
              have hun := Hun.out
              rw [if_pos ⟨r, by rw [← hr]; exact List.getElem_mem hlt, h6⟩] at hun
              have Hun := Lib.hid hun
              clear hc hrr hr hun h6
              go_wp2_with fail
              go_ret
              rw [Hun.out]
              exact ⟨rfl, .inl rfl⟩
            · have q2 : (r.size : Int) ≤ (600 : Int) := by omega
              have Hk2 : Hid (∀ j (hj : j < b.length), j < k + 1 → ¬ 600 < (b[j]).size) := Lib.hid (fun j hj hjk => by
                by_cases e : j = k
                · subst e; rw [hr]; exact h6
                · exact Hk.out j hj (by omega))
              clear hc hrr hr h6
              go_wp2_with fail
              exact ⟨⟨k + 1, by omega, by go_num, Hk2⟩, by simp [intOf]; omega⟩
          · obtain rfl : k = b.length := by omega
            have hnone : ¬ ∃ r ∈ b, 600 < r.size := by
              rintro ⟨r, hr, h6⟩
              obtain ⟨j, hj, rfl⟩ := List.getElem_of_mem hr
              exact Hk.out j hj hj h6
            have hun := Hun.out
            rw [if_neg hnone] at hun
            have hby := bytesOf_le b hnone
            have Hun := Lib.hid hun
            have hneed := need_ok xa xc b w Hb.out.1 (by omega)
            have Hneed := Lib.hid hneed
            have Hroom := Lib.hid Hb.out.2.2
            have hnb : needB b ≤ 2000 := by unfold needB; omega
            obtain ⟨nb, hnb'⟩ : ∃ nb, needB b = nb := ⟨_, rfl⟩
            obtain ⟨ro, hro⟩ : ∃ ro, L.n - 1 - L.used = ro := ⟨_, rfl⟩
            have hro2 : L.room = ro := hro
            have hun := Hun.out
            rw [hro2, hnb'] at hun
            have Hun := Lib.hid hun
            have hneed := Hneed.out
            have hroom := Hroom.out
            rw [hnb'] at hneed hnb
            rw [hro] at hroom
            have Hneed := Lib.hid hneed
            have Hroom := Lib.hid hroom
            clear hun hneed hroom hby hnone hnb' hro hro2 hlt
            go_wp2_with fail
            refine Hneed.out.mono ?_
            rintro e w1 ⟨rfl, rfl⟩
            dsimp only
            go_wp2_with fail
            refine Hroom.out.mono ?_
            rintro e w1 ⟨rfl, rfl⟩
            dsimp only
            by_cases hc : ro < nb
            · have q3 : (ro : Int) < (nb : Int) := by omega
              have hun := Hun.out
              rw [if_pos hc] at hun
              have Hun := Lib.hid hun
              clear hc hun
              go_wp2_with fail
              go_ret
              rw [Hun.out]
              exact ⟨rfl, .inr rfl⟩
            · have q3 : (nb : Int) ≤ (ro : Int) := by omega
              have hun := Hun.out
              rw [if_neg hc] at hun
              have Hun := Lib.hid hun
              clear hc hun
              go_wp2_with fail
              go_ret
              rw [Hun.out]
              exact ⟨rfl, .inr rfl⟩
end Go.Proofs.YtihlijnobbonbaaGreat
/- wal: Append. -/
namespace Go.Proofs.YtihlijnobbonbaaGreat
open Go.RowKit
set_option linter.unusedSimpArgs false
set_option linter.unusedVariables false
set_option maxRecDepth 100000

theorem append_nil (v : Value) (w : World) : Calls Tryz.prog 48 #[.pointer none, v] w fun e w' => e = .returned (.tuple #[.int .i64 0, .int .i64 2]) ∧ w = w' := by
  have Hc := Lib.hid (wcheck_nil v w)
  go_enter Tryz.func48, Tryz.ntmps48
  go_wp2_with fail
  refine Hc.out.mono ?_
  rintro e w1 ⟨rfl, rfl⟩
  dsimp only
  go_wp2_with fail
  go_ret2
  exact ⟨rfl, rfl⟩
/-- The body so far. -/
def BodyR (w : World) (b : Batch) (k : Nat) (bs : Bytes) (x : Option Addr) (c : Nat) (wr : World) : Prop :=
  bs = bodyB (b.take k) ∧ Mid wr 1 (.slice x bs.length c) bs.length (bvs bs) ∧ Upd (fun _ => False) w wr ∧ (∀ j, (Value.slice x bs.length c).ownBlock = some j → w.heap.size ≤ j)
theorem bodyB_snoc (b : Batch) (r : ByteArray) : bodyB (b ++ [r]) = bodyB b ++ (leB 4 r.size ++ r.data.toList) := by simp [bodyB]
theorem bodyB_take_le (b : Batch) (k : Nat) : (bodyB (b.take k)).length ≤ (bodyB b).length := by
  have h : bodyB b = bodyB (b.take k) ++ bodyB (b.drop k) := by rw [bodyB, bodyB, bodyB, ← List.flatMap_append, List.take_append_drop]
  rw [h, List.length_append]; omega
theorem put_nil (N size : Nat) (w : World) (hN : N < 18446744073709551616) (hs : size ≤ 8) :
    Calls Tryz.prog 66 #[.slice none 0 0, .int .u64 N, .int .i64 size] w fun e w' => ∃ x' c', e = .returned (.slice x' size c') ∧ Mid w' 1 (.slice x' size c') size (bvs (leB size N)) ∧ Upd (fun _ => False) w w' ∧ (∀ k, (Value.slice x' size c').ownBlock = some k → w.heap.size ≤ k) := by
  refine (put_ok (.slice none 0 0) [] N size w (Mid.nil _ _) hN hs (by decide)).mono ?_
  rintro e w' ⟨x', c', rfl, h1, h2, h3⟩
  have e0 : ([] : Bytes).length + size = size := by simp
  rw [e0] at h1 h3 ⊢
  rw [List.nil_append] at h1
  exact ⟨x', c', rfl, h1, h2.mono (fun k _ hk => by cases hk), fun k hk => (h3 k hk).elim (fun h => by cases h) id⟩
theorem WalPost.drawn {w w1 w2 : World} {lb db : Nat} {L : LSt} {D : DSt} {F : Nat → Prop} (h : Drawn w w1) (h2 : WalPost w1 lb db L D F w2) : WalPost w lb db L D F w2 := by
  obtain ⟨F', g1, g2, g3⟩ := h2
  have := h.size
  exact ⟨F', g1, (h.upd.mono (fun _ _ h => h.elim)).trans g2, fun k hk => (g3 k hk).imp id (fun h => by omega)⟩

theorem infoE : (Tryz.prog.info? 151).map (fun i => (i.zero, i.size, i.bytes)) = some (some (.agg #[.int .i64 0, .int .i64 0]), 2, 16) := by kernel_rfl
theorem slice_lh1 {P : Program} (t e : TypeId) (hu : P.underlying t = some (.slice e)) (hs : (P.info? e).map (·.size) = some 1) (g off n cap lo hi : Nat) (h1 : lo ≤ hi) (h2 : hi ≤ cap) (h3 : lo < cap) (w : World) :
    (Instr.slice t (.slice (some ⟨g, off, none⟩) n cap) (some (.int .i64 lo)) (some (.int .i64 hi)) none).run P w = .ok (.slice (some ⟨g, off + lo, none⟩) (hi - lo) (cap - lo)) w := by
  cases hq : P.info? e with
  | none => simp [hq] at hs
  | some i =>
    have hi' : i.size = 1 := by simpa [hq] using hs
    have hu' : P.underlying t = some (.slice (P.elem t)) := by rw [hu]; simp [Program.elem, hu]
    have he : P.elem t = e := by simp [Program.elem, hu]
    rw [run_slice_lh w t (some ⟨g, off, none⟩) n cap hu' .i64 .i64 lo hi (by omega) (by omega) (by omega)]
    simp [sizeOf, typeInfo, he, hq, hi', sliced, Addr.add_mid]
    omega
/-- The writes so far. -/
def WrR (w : World) (lb db : Nat) (L : LSt) (lv : Value) (enc : Bytes) (x : Option Addr) (c : Nat) (D : DSt) (G : Nat → Prop) (nb k : Nat) (Dk : DSt) (Gk : Nat → Prop) (wr : World) : Prop :=
  L.writes enc (nb - k) k Dk = L.writes enc nb 0 D ∧ DiskAt wr db Dk Gk ∧ Upd (fun j => j = lb ∨ G j) w wr ∧ (∀ j, Gk j → G j ∨ w.heap.size ≤ j) ∧ Cells9 wr lb (preL L db lv) ∧
    Mid wr 1 (.slice x enc.length c) enc.length (bvs enc) ∧ Dk.waits.length ≤ D.waits.length + k ∧ (∀ j, (Value.slice x enc.length c).ownBlock = some j → ¬ Gk j ∧ j ≠ lb ∧ w.heap.size ≤ j)
set_option maxHeartbeats 2000000 in
theorem append_ok {w : World} {lb db : Nat} {L : LSt} {D : DSt} {F : Nat → Prop} (h : WalAt w lb db L D F) (hwt : D.waits.length < 99999900000) (xa : Option Addr) (xc : Nat) (b : Batch) (hb : Sees w 1 (.slice xa b.length xc) b.length (strsV b))
    (hbF : ∀ x, xa = some x → 0 < b.length → x.block ≠ lb) (hlast : L.last + 1 < 1000000000000000000) :
    Calls Tryz.prog 48 #[.pointer (some ⟨lb, 0, none⟩), .slice xa b.length xc] w fun e w' => e = .returned (.tuple #[.int .i64 (L.append D b).2.2.1, .int .i64 (L.append D b).2.2.2]) ∧ WalPost w lb db (L.append D b).1 (L.append D b).2.1 F w' := by
  obtain ⟨lv, G, hOk, hC, hM, hD, hG, hlv, hF⟩ := id h
  have hchk := wcheck_ok hC hOk xa xc b hb
  obtain ⟨ck, hck⟩ : ∃ ck, L.check b = ck := ⟨_, rfl⟩
  rw [hck] at hchk
  have H := Lib.hid (And.intro hOk (And.intro hC (And.intro hM (And.intro hD (And.intro hG (And.intro hlv hF))))))
  have Hh := Lib.hid (And.intro h (And.intro hwt (And.intro hb (And.intro hbF hlast))))
  have Hchk := Lib.hid hchk
  have Hck := Lib.hid hck
  clear hOk hC hM hD hG hlv hF h hwt hb hbF hlast hchk hck
  by_cases hc : ck = 0
  · subst hc
    have hc0 := Hck.out
    have hdead : L.dead = false := by
      cases hd : L.dead with
      | false => rfl
      | true => rw [LSt.check, if_pos hd] at hc0; cases hc0
    have hlen : b.length ≤ 1024 := by
      rcases Nat.lt_or_ge 1024 b.length with h | h
      · rw [LSt.check, if_neg (by rw [hdead]; decide), if_pos (.inr h)] at hc0; cases hc0
      · exact h
    have hne0 : b.length ≠ 0 := by
      intro h
      rw [LSt.check, if_neg (by rw [hdead]; decide), if_pos (.inl h)] at hc0; cases hc0
    have hnone : ¬ ∃ r ∈ b, 600 < r.size := by
      intro h
      rw [LSt.check, if_neg (by rw [hdead]; decide), if_neg (by omega), if_pos h] at hc0; cases hc0
    have hroom : needB b ≤ L.room := by
      rcases Nat.lt_or_ge L.room (needB b) with h | h
      · rw [LSt.check, if_neg (by rw [hdead]; decide), if_neg (by omega), if_neg hnone, if_pos h] at hc0; cases hc0
      · exact h
    have hby := bytesOf_le b hnone
    have hbl : (bodyB b).length ≤ 1024 * 604 := by rw [bytesOf_eq] at hby; omega
    have Hc := Lib.hid (And.intro hdead (And.intro hlen (And.intro hne0 (And.intro hnone (And.intro hroom (And.intro hby hbl))))))
    have hlm : (b.length : Int) ≤ 1024 := by omega
    clear hc0 hdead hlen hne0 hnone hroom hby hbl
    go_enter Tryz.func48, Tryz.ntmps48
    go_wp2_with fail
    refine Hchk.out.mono ?_
    rintro e w1 ⟨rfl, hdr⟩
    dsimp only
    have hb1 : Sees w1 1 (.slice xa b.length xc) b.length (strsV b) := Hh.out.2.2.1.upd hdr.upd (fun _ _ _ h => h)
    have H1 := Lib.hid (And.intro hdr hb1)
    have HR0 : Hid (BodyR w1 b 0 [] none 0 w1) := ⟨by simp [bodyB], Mid.nil _ _, Upd.refl _ _, fun j hj => by cases hj⟩
    clear hdr hb1
    go_wp2_with fail
    go_loopw [7, 22] (fun s i wr => ∃ (k : Nat) (bs : Bytes) (x : Option Addr) (c : Nat), k ≤ b.length ∧ i = .int .i64 k ∧ s = .slice x bs.length c ∧ Hid (BodyR w1 b k bs x c wr)) (fun _ i _ => b.length - (intOf i).toNat)
    case atStart => exact ⟨0, [], none, 0, Nat.zero_le _, rfl, rfl, HR0⟩
    case round =>
      clear HR0
      obtain ⟨k, bs, x, c, hk, rfl, rfl, HR⟩ := hrel
      by_cases hlt : k < b.length
      · have hlt2 : (k : Int) < (b.length : Int) := by omega
        obtain ⟨r, hr⟩ : ∃ r, b[k] = r := ⟨_, rfl⟩
        have hb2 := H1.out.2.upd HR.out.2.2.1 (fun _ _ _ h => h)
        obtain ⟨_, _, xo, cc, e', hcc⟩ := hb2
        cases e'
        obtain ⟨g, off, rfl, hrr⟩ := hcc (by omega)
        have hcell : wr.cell? ⟨g, off + k, none⟩ = some (.string r) := hrr k _ (by simp [strsV, hlt, hr])
        have hr6 : r.size ≤ 600 := by
          rcases Nat.lt_or_ge 600 r.size with h | h
          · exact absurd ⟨r, by rw [← hr]; exact List.getElem_mem hlt, h⟩ Hc.out.2.2.2.1
          · exact h
        have f1 : IntKind.u64.wrap (r.size : Int) = (r.size : Int) := by show (r.size : Int) % 18446744073709551616 = _; omega
        have hbsl : bs.length ≤ 1024 * 604 := by rw [HR.out.1]; exact Nat.le_trans (bodyB_take_le b k) Hc.out.2.2.2.2.2.2
        have Hr := Lib.hid (And.intro hr (And.intro hr6 hbsl))
        have hr7 : (r.size : Int) ≤ 600 := by omega
        clear hcc hrr hr hr6 hbsl
        go_wp2_with fail
        refine (put_ok (.slice x bs.length c) bs r.size 4 _ HR.out.2.1 (by omega) (by decide) (by have := Hr.out.2.2; omega)).mono ?_
        rintro e w3 ⟨x', c', rfl, hmid, hu, hbk⟩
        dsimp only
        have H3 := Lib.hid (And.intro hmid (And.intro hu hbk))
        clear hmid hu hbk hcell f1
        go_wp2_with ((with_reducible apply wpl_append_mid_str 5 (.slice x' (bs.length + 4) c') (bs.length + 4) (bvs (bs ++ leB 4 r.size)) r))
        · exact Tryz.underlying38
        · exact Tryz.underlying9
        · exact infoU8
        · rfl
        · rfl
        · exact H3.out.1
        · have := Hr.out.2; omega
        intro x4 c4 w4 hm4 hu4 hb4
        try (simp only [Act.put, List.setIfInBounds_toArray, List.set_cons_zero, List.set_cons_succ])
        have hl4 : bs.length + 4 + r.size = (bs ++ (leB 4 r.size ++ r.data.toList)).length := by
          have : r.data.toList.length = r.size := by rw [Array.length_toList]; rfl
          rw [List.length_append, List.length_append, leB_length, this]; omega
        rw [hl4] at hm4 hb4 ⊢
        have HR4 : Hid (BodyR w1 b (k + 1) (bs ++ (leB 4 r.size ++ r.data.toList)) x4 c4 w4) := by
          have h0 := HR.out
          refine ⟨?_, ?_, (h0.2.2.1.then H3.out.2.1 (fun j hj => .inr (h0.2.2.2 j hj))).then hu4 (fun j hj => ?_), fun j hj => ?_⟩
          · rw [h0.1, List.take_succ_eq_append_getElem hlt, bodyB_snoc, Hr.out.1]
          · rw [← bvs_append, List.append_assoc] at hm4
            exact hm4
          · have hs := h0.2.2.1.size
            rcases H3.out.2.2 j hj with h | h
            · exact .inr (h0.2.2.2 j h)
            · exact .inr (by omega)
          · have hs := h0.2.2.1.size
            have hs3 := H3.out.2.1.size
            rcases hb4 with h | h
            · rw [h] at hj
              rcases H3.out.2.2 j hj with h | h
              · exact h0.2.2.2 j h
              · omega
            · rw [h] at hj
              cases hj
              omega
        clear hm4 hu4 hb4 hl4 HR H3 hr7
        go_wp2_with fail
        exact ⟨⟨k + 1, _, x4, c4, by omega, by go_num, rfl, HR4⟩, by simp [intOf]; omega⟩
      · obtain rfl : k = b.length := by omega
        clear hlt
        obtain ⟨N, hN⟩ : ∃ N, 16 + bs.length = N := ⟨_, rfl⟩
        obtain ⟨M, hMl⟩ : ∃ M, L.last + 1 = M := ⟨_, rfl⟩
        obtain ⟨la, hla⟩ : ∃ la, L.last = la := ⟨_, rfl⟩
        have hbs : bs = bodyB b := by have := HR.out.1; rwa [List.take_length] at this
        have hbl2 : bs.length ≤ 1024 * 604 := by rw [hbs]; exact Hc.out.2.2.2.2.2.2
        have hbl3 : (bs.length : Int) ≤ 618496 := by omega
        have hlaM : la < 1000000000000000000 := by have := Hh.out.2.2.2.2; omega
        have hla2 : (la : Int) ≤ 1000000000000000000 := by omega
        have f1 : IntKind.u64.wrap ((16 : Int) + (bs.length : Int)) = (N : Int) := by show ((16 : Int) + (bs.length : Int)) % 18446744073709551616 = _; omega
        have f2 : IntKind.u64.wrap ((la : Int) + 1) = (M : Int) := by show ((la : Int) + 1) % 18446744073709551616 = _; omega
        have Hn := Lib.hid (And.intro hN (And.intro hMl (And.intro hla (And.intro hbs (And.intro hbl2 hlaM)))))
        have Hf2 := Lib.hid f2
        clear hN hMl hla hbs hbl2 hlaM f2
        go_wp2_with fail
        refine (put_nil N 4 _ (by have := Hn.out; omega) (by decide)).mono ?_
        rintro e w2 ⟨x2, c2, rfl, hm2, hu2, hb2⟩
        dsimp only
        have hU2 : Upd (fun _ => False) w1 w2 := HR.out.2.2.1.trans hu2
        have hC2 := (H.out.2.1.upd H1.out.1.upd (fun h => h)).upd hU2 (fun h => h)
        have hbody2 := HR.out.2.1.upd hu2 (fun _ _ h => h)
        have hb2' : ∀ k, (Value.slice x2 4 c2).ownBlock = some k → w1.heap.size ≤ k ∧ ∀ j, (Value.slice x bs.length c).ownBlock = some j → k ≠ j := fun k hk => by
          have h1 := hb2 k hk
          have h2 := HR.out.2.2.1.size
          exact ⟨by omega, fun j hj e => by have h3 := HR.out.2.1.lt j hj; omega⟩
        have H2 := Lib.hid (And.intro hm2 (And.intro hU2 (And.intro hC2 (And.intro hbody2 hb2'))))
        obtain ⟨d0, d1, d2, d3, d4, d5, d6, d7, d8⟩ := nine hC2
        rw [Hn.out.2.2.1] at d6
        have f2 := Hf2.out
        clear hm2 hu2 hU2 hC2 hbody2 hb2 hb2' d0 d1 d2 d3 d4 d5 d7 d8 f1
        go_wp2_with fail
        refine (put_ok (.slice x2 4 c2) (leB 4 N) M 8 _ H2.out.1 (by have := Hn.out; omega) (by decide) (by rw [leB_length]; decide)).mono ?_
        rintro e w3 ⟨x3, c3, rfl, hm3, hu3, hb3⟩
        dsimp only
        rw [leB_length] at hm3 hb3 ⊢
        have hown3 : ∀ k, (Value.slice x3 (4 + 8) c3).ownBlock = some k → w1.heap.size ≤ k ∧ ∀ j, (Value.slice x bs.length c).ownBlock = some j → k ≠ j := fun k hk => by
          rcases hb3 k hk with h | h
          · exact H2.out.2.2.2.2 k h
          · have h2 := H2.out.2.1.size
            exact ⟨by omega, fun j hj e => by have h3 := H2.out.2.2.2.1.lt j hj; omega⟩
        have hU3 : Upd (fun _ => False) w1 w3 := H2.out.2.1.then hu3 (fun j hj => .inr (H2.out.2.2.2.2 j hj).1)
        have hlb1 : lb < w1.heap.size := by rw [H1.out.1.size]; exact H.out.2.1.lt
        have hC3 := H2.out.2.2.1.upd hu3 (fun hj => by have := (H2.out.2.2.2.2 _ hj).1; omega)
        have hbody3 := H2.out.2.2.2.1.upd hu3 (fun j hj hk => (H2.out.2.2.2.2 _ hk).2 j hj rfl)
        have hbo : ∀ j, (Value.slice x bs.length c).ownBlock = some j → w1.heap.size ≤ j := HR.out.2.2.2
        have H3 := Lib.hid (And.intro hm3 (And.intro hU3 (And.intro hC3 (And.intro hbody3 (And.intro hown3 (And.intro hlb1 hbo))))))
        clear hm3 hU3 hC3 hbody3 hown3 hlb1 hbo hb3 hu3 H2 HR d6 f2
        go_wp2_with fail
        refine (sum9 H3.out.2.2.1 (.slice x bs.length c) bs H3.out.2.2.2.1.sees (fun j hj _ => by have := H3.out.2.2.2.2.2.2 j hj; have := H3.out.2.2.2.2.2.1; omega)).mono ?_
        rintro e w4 ⟨rfl, hu4, hC4⟩
        dsimp only
        obtain ⟨sm, hsm⟩ : ∃ sm, updB 0 bs = sm := ⟨_, rfl⟩
        rw [hsm]
        have f6 : IntKind.u64.wrap (sm.toNat : Int) = (sm.toNat : Int) := by have := sm.isLt; show (sm.toNat : Int) % 18446744073709551616 = _; omega
        have hm4 := H3.out.1.upd hu4 (fun j hj => by have := (H3.out.2.2.2.2.1 j hj).1; have := H3.out.2.2.2.2.2.1; omega)
        have hbody4 := H3.out.2.2.2.1.upd hu4 (fun j hj => by have := H3.out.2.2.2.2.2.2 j hj; have := H3.out.2.2.2.2.2.1; omega)
        have hU4 : Upd (fun k => k = lb) w1 w4 := (H3.out.2.1.mono (fun _ _ h => h.elim)).trans hu4
        have H4 := Lib.hid (And.intro hm4 (And.intro hU4 (And.intro hC4 (And.intro hbody4 hsm))))
        clear hm4 hU4 hC4 hbody4 hsm hu4
        go_wp2_with fail
        have hl12 : 4 + 8 = (leB 4 N ++ leB 8 M).length := by rw [List.length_append, leB_length, leB_length]
        have hm4 := H4.out.1
        rw [hl12] at hm4 ⊢
        refine (put_ok (.slice x3 (leB 4 N ++ leB 8 M).length c3) (leB 4 N ++ leB 8 M) sm.toNat 4 _ hm4 (by have := sm.isLt; omega) (by decide) (by rw [← hl12]; decide)).mono ?_
        rintro e w5 ⟨x5, c5, rfl, hm5, hu5, hb5⟩
        dsimp only
        have hhd : leB 4 N ++ leB 8 M ++ leB 4 sm.toNat = headB M bs := by
          rw [headB, H4.out.2.2.2.2, ← Hn.out.1]
        have hl16 : (leB 4 N ++ leB 8 M).length + 4 = (headB M bs).length := by rw [← hhd]; simp [List.length_append, leB_length]
        rw [hhd] at hm5
        rw [hl16] at hm5 hb5 ⊢
        rw [← hl12] at hu5 hb5
        have hown5 : ∀ k, (Value.slice x5 (headB M bs).length c5).ownBlock = some k → w1.heap.size ≤ k := fun k hk => by
          rcases hb5 k hk with h | h
          · exact (H3.out.2.2.2.2.1 k h).1
          · have h2 := H4.out.2.1.size
            omega
        have hU5 : Upd (fun k => k = lb) w1 w5 := H4.out.2.1.then hu5 (fun j hj => .inr (H3.out.2.2.2.2.1 j hj).1)
        have hC5 := H4.out.2.2.1.upd hu5 (fun hj => by have := (H3.out.2.2.2.2.1 _ hj).1; have := H3.out.2.2.2.2.2.1; omega)
        have hbody5 := H4.out.2.2.2.1.upd hu5 (fun j hj hk => (H3.out.2.2.2.2.1 _ hk).2 j hj rfl)
        have H5 := Lib.hid (And.intro hm5 (And.intro hU5 (And.intro hC5 (And.intro hbody5 hown5))))
        clear hm5 hU5 hC5 hbody5 hown5 hb5 hu5 H4 hm4 hl12 hhd hl16 f6
        go_wp2_with ((with_reducible apply wpl_append_mid 5 1 1 _ (.slice x5 (headB M bs).length c5) (headB M bs).length (bvs (headB M bs)) bs.length (bvs bs)))
        · exact Tryz.underlying38
        · exact infoU8
        · rfl
        · rfl
        · exact H5.out.1
        · exact H5.out.2.2.2.1.sees
        · exact bvs_one _
        · have := Hn.out.2.2.2.2.1; rw [headB_length]; unfold maxLen; omega
        · have := Hn.out.2.2.2.2.1; rw [headB_length]; omega
        intro x6 c6 w6 hm6 hu6 hb6
        try (simp only [Act.put, List.setIfInBounds_toArray, List.set_cons_zero, List.set_cons_succ])
        have henc : headB M bs ++ bs = encB M b := by rw [encB, Hn.out.2.2.2.1]
        have hl6 : (headB M bs).length + bs.length = (encB M b).length := by rw [← henc, List.length_append]
        rw [← bvs_append, henc] at hm6
        rw [hl6] at hm6 hb6 ⊢
        have hU6 : Upd (fun k => k = lb) w1 w6 := H5.out.2.1.then hu6 (fun j hj => .inr (H5.out.2.2.2.2 j hj))
        have hC6 := H5.out.2.2.1.upd hu6 (fun hj => by have := H5.out.2.2.2.2 _ hj; have := H3.out.2.2.2.2.2.1; omega)
        have hown6 : ∀ k, (Value.slice x6 (encB M b).length c6).ownBlock = some k → w1.heap.size ≤ k := fun k hk => by
          rcases hb6 with h | h
          · rw [h] at hk; exact H5.out.2.2.2.2 k hk
          · rw [h] at hk; cases hk; exact H5.out.2.1.size
        have hbsz : bytesOf b ≤ 1000000000000000000 := by have := Hc.out.2.2.2.2.2.1; have := Hc.out.2.1; omega
        have hsb : Sees w6 1 (.slice xa b.length xc) b.length (strsV b) := H1.out.2.upd hU6 (fun k hk h0 e => by
          cases xa with
          | none => cases hk
          | some y => exact Hh.out.2.2.2.1 y rfl h0 (by have h9 : some y.block = some k := hk; cases h9; exact e))
        have hneed := need_ok xa xc b w6 hsb hbsz
        obtain ⟨nb, hnb⟩ : ∃ nb, needB b = nb := ⟨_, rfl⟩
        rw [hnb] at hneed
        have Hneed := Lib.hid hneed
        have H6 := Lib.hid (And.intro hm6 (And.intro hU6 (And.intro hC6 (And.intro hown6 (And.intro hnb hsb)))))
        clear hm6 hU6 hC6 hown6 hnb hsb hneed hbsz hu6 hb6 hl6 henc H5
        go_wp2_with fail
        refine Hneed.out.mono ?_
        rintro e w7 ⟨rfl, rfl⟩
        dsimp only
        go_wp2_with fail
        have HW0 : Hid (WrR w lb db L lv (encB M b) x6 c6 D G nb 0 D G w6) := by
          have hs := H1.out.1.size
          have hu : Upd (fun j => j = lb ∨ G j) w w6 := (H1.out.1.upd.mono (fun _ _ h => h.elim)).trans (H6.out.2.1.mono (fun _ _ h => .inl h))
          refine ⟨rfl, (H.out.2.2.2.1.upd H1.out.1.upd (fun _ _ h => h)).upd H6.out.2.1 (fun k hk e => H.out.2.2.2.2.1 (e ▸ hk)), hu, fun j hj => .inl hj, H6.out.2.2.1, H6.out.1, Nat.le_refl _, fun j hj => ?_⟩
          have h1 := H6.out.2.2.2.1 j hj
          exact ⟨fun hg => by have := H.out.2.2.2.1.lt j hg; omega, fun e => by have := H.out.2.1.lt; omega, by omega⟩
        clear Hneed
        go_loopw [61] (fun i wr => ∃ (k : Nat) (Dk : DSt) (Gk : Nat → Prop), k ≤ nb ∧ i = .int .i64 k ∧ Hid (WrR w lb db L lv (encB M b) x6 c6 D G nb k Dk Gk wr)) (fun i _ => nb - (intOf i).toNat)
        case atStart => exact ⟨0, D, G, Nat.zero_le _, rfl, HW0⟩
        case round =>
          clear HW0
          obtain ⟨k, Dk, Gk, hk, rfl, HW⟩ := hrel
          by_cases hlt : k < nb
          · have hlt2 : (k : Int) < (nb : Int) := by omega
            obtain ⟨d0, d1, d2, d3, d4, d5, d6, d7, d8⟩ := nine HW.out.2.2.2.2.1
            obtain ⟨st, hst⟩ : ∃ st, L.start = st := ⟨_, rfl⟩
            obtain ⟨us, hus⟩ : ∃ us, L.used = us := ⟨_, rfl⟩
            obtain ⟨e, he⟩ : ∃ e, encB M b = e := ⟨_, rfl⟩
            rw [hst] at d3
            rw [hus] at d4
            obtain ⟨Q, hQ⟩ : ∃ Q, st + us = Q := ⟨_, rfl⟩
            obtain ⟨P, hP⟩ : ∃ P, Q + k = P := ⟨_, rfl⟩
            obtain ⟨lo, hlo⟩ : ∃ lo, k * 512 = lo := ⟨_, rfl⟩
            obtain ⟨k1, hk1⟩ : ∃ k1, k + 1 = k1 := ⟨_, rfl⟩
            obtain ⟨hi0, hhi0⟩ : ∃ hi0, k1 * 512 = hi0 := ⟨_, rfl⟩
            have hnb2 : nb ≤ 2000 := by have h1 := Hc.out.2.2.2.2.2.1; have h2 := Hc.out.2.1; have h3 := H6.out.2.2.2.2.1; unfold needB at h3; omega
            have hsu : st ≤ 4096 ∧ us ≤ 4096 := by have := H.out.1.start; have := H.out.1.used; have := H.out.1.fit; omega
            have f1 : IntKind.i64.wrap ((st : Int) + (us : Int)) = (Q : Int) := by rw [IntKind.wrap_i64]; omega
            have f2 : IntKind.i64.wrap ((Q : Int) + (k : Int)) = (P : Int) := by rw [IntKind.wrap_i64]; omega
            have f3 : IntKind.i64.wrap ((k : Int) * 512) = (lo : Int) := by rw [IntKind.wrap_i64]; omega
            have f4 : IntKind.i64.wrap ((k : Int) + 1) = (k1 : Int) := by rw [IntKind.wrap_i64]; omega
            have f5 : IntKind.i64.wrap ((k1 : Int) * 512) = (hi0 : Int) := by rw [IntKind.wrap_i64]; omega
            obtain ⟨hi, hhi⟩ : ∃ hi, min hi0 e.length = hi := ⟨_, rfl⟩
            have hel : e.length = bytesOf b := by rw [← he]; exact encB_length M b
            have hnbe : nb = (e.length + 511) / 512 := by have h3 := H6.out.2.2.2.2.1; unfold needB at h3; omega
            have hlo2 : lo < e.length := by omega
            have hcl : hi - lo = (chunk e k).length := by rw [chunk, List.length_take, List.length_drop]; omega
            have hmn : (if e.length < hi0 then ((e.length : Nat) : Int) else (hi0 : Int)) = (hi : Int) := by split <;> omega
            have hmid := HW.out.2.2.2.2.2.1
            rw [he] at hmid
            obtain ⟨hxl, ⟨h0', h1'⟩ | ⟨g, off, cap, hsl6, h1', h2', h3', h4', h5'⟩⟩ := id hmid
            · omega
            cases hsl6
            have hsl := slice_lh1 (P := Tryz.prog) 38 5 Tryz.underlying38 (by kernel_rfl) g off e.length c6 lo hi (by omega) (by omega) (by omega)
            have hchk : Sees wr 1 (.slice (some ⟨g, off + lo, none⟩) (chunk e k).length (c6 - lo)) (chunk e k).length (bvs (chunk e k)) := by
              refine Sees.at (by simp [bvs_length]) (by have := chunk_le e k; unfold maxLen; omega) ?_
              refine rangeAt.sub h4' lo ?_
              rw [bvs_length, chunk, bvs, bvs, ← List.map_drop, ← List.map_take, hlo]
              congr 1
              rw [List.length_take, ← List.take_eq_take_min]
            have hgk := HW.out.2.2.2.2.2.2.2
            rw [he] at hgk
            have hgk2 := hgk g rfl
            have Hx := Lib.hid (And.intro hst (And.intro hus (And.intro hcl (And.intro hchk (And.intro hnb2 (And.intro (show P ≤ 20000 by omega) (And.intro hgk2.1 (And.intro he (And.intro hmid (And.intro hQ hP))))))))))
            rw [he]
            have HS : wr.drew.cell? ⟨lb, 0, none⟩ = some (.pointer (some ⟨db, 0, none⟩)) ∧ wr.drew.cell? ⟨lb, 3, none⟩ = some (.int .i64 st) ∧ wr.drew.cell? ⟨lb, 4, none⟩ = some (.int .i64 us) := ⟨d0, d3, d4⟩
            clear d0 d1 d2 d3 d4 d5 d6 d7 d8 hst hus hQ hP hlo hk1 hhi0 hnb2 hsu he hhi hel hnbe hlo2 hcl hmid hxl h1' h2' h3' h4' h5' hchk hgk hgk2
            go_wp2_with fail
            refine wp_region_planD (fun w' => w'.cell? ⟨lb, 0, none⟩ = some (.pointer (some ⟨db, 0, none⟩)) ∧ w'.cell? ⟨lb, 3, none⟩ = some (.int .i64 st) ∧ w'.cell? ⟨lb, 4, none⟩ = some (.int .i64 us)) 29 [(0, true), (1, true), (2, true), (3, true), (4, true), (5, true), (6, true), (7, true), (8, true), (9, true), (10, true), (11, true), (12, true), (13, true), (14, true), (15, true), (17, true), (18, true), (19, true), (20, true), (21, true), (22, true), (23, true), (24, true), (25, true), (26, true), (16, false), (27, false), (28, true)] (by kernel_rfl) (by kernel_rfl) (fun d _ _ _ _ h => by cases d <;> exact h) HS ?_
            iterate 26 (apply planD_held rfl rfl rfl (by simp) HS; (intro w' hS K hK; go_simp; exact hK))
            refine planD_op rfl rfl (fun K hK => ?_)
            go_simp
            have hdr : Upd (fun _ => False) wr wr.drew := (Upd.refl _ wr).drew
            refine (ring_ok lb L db lv P _ (HW.out.2.2.2.2.1.upd hdr (fun h => h)) H.out.1 (by have := Hx.out.2.2.2.2.2.1; omega)).mono ?_
            rintro e' w8 ⟨rfl, rfl⟩
            dsimp only
            have HS8 : wr.drew.drew.cell? ⟨lb, 0, none⟩ = some (.pointer (some ⟨db, 0, none⟩)) ∧ wr.drew.drew.cell? ⟨lb, 3, none⟩ = some (.int .i64 st) ∧ wr.drew.drew.cell? ⟨lb, 4, none⟩ = some (.int .i64 us) := HS
            refine hK _ _ _ (fun u h => h) (fun _ => HS8) ?_
            clear hK HS
            try (simp only [Act.put, List.setIfInBounds_toArray, List.set_cons_zero, List.set_cons_succ])
            refine planD_op rfl rfl (fun K hK => ?_)
            go_simp
            have hdr2 : Upd (fun _ => False) wr wr.drew.drew := ((Upd.refl _ wr).drew).drew
            obtain ⟨⟨D1, r⟩, hDr⟩ : ∃ p, Dk.write (L.ring P : Nat) (chunk e k) = p := ⟨_, rfl⟩
            have hx := Hx.out
            have hcs : Sees wr.drew.drew 1 (.slice (some ⟨g, off + lo, none⟩) (chunk e k).length (c6 - lo)) (chunk e k).length (bvs (chunk e k)) := hx.2.2.2.1.upd hdr2 (fun _ _ _ h => h)
            rw [hx.2.2.1]
            refine (write_disk (HW.out.2.1.upd hdr2 (fun _ _ h => h)) (L.ring P : Nat) (some ⟨g, off + lo, none⟩) (c6 - lo) (chunk e k) hcs (fun z hz _ hg => by cases hz; exact hx.2.2.2.2.2.2.1 hg) (by have h1 := HW.out.2.2.2.2.2.2.1; have h2 := Hh.out.2.1; have h3 := hx.2.2.2.2.1; omega) hDr).mono ?_
            rintro e' w9 ⟨rfl, G9, hD9, hu9, hG9⟩
            dsimp only
            have hu9' : Upd Gk wr w9 := (hdr2.mono (fun _ _ h => h.elim)).trans hu9
            have hC9 := HW.out.2.2.2.2.1.upd hu9' (fun h => by
              rcases HW.out.2.2.2.1 _ h with h | h
              · exact H.out.2.2.2.2.1 h
              · have := H.out.2.1.lt; omega)
            have hG9' : ∀ j, G9 j → G j ∨ w.heap.size ≤ j := fun j hj => by
              rcases hG9 j hj with h | h
              · exact HW.out.2.2.2.1 j h
              · have h1 := HW.out.2.2.1.size
                have h2 := hdr2.size
                exact .inr (by omega)
            have hU9 : Upd (fun j => j = lb ∨ G j) w w9 := HW.out.2.2.1.then hu9' (fun j hj => (HW.out.2.2.2.1 j hj).imp .inr id)
            have hm9 := hx.2.2.2.2.2.2.2.2.1.upd hu9' (fun j hj => by cases hj; exact hx.2.2.2.2.2.2.1)
            have hw9 : D1.waits.length ≤ D.waits.length + (k + 1) := by
              have h1 := write_waits Dk (L.ring P : Nat) (chunk e k)
              have h2 := HW.out.2.2.2.2.2.2.1
              rw [hDr] at h1
              dsimp only at h1
              omega
            have hg9 : ∀ j, (Value.slice (some ⟨g, off, none⟩) e.length c6).ownBlock = some j → ¬ G9 j ∧ j ≠ lb ∧ w.heap.size ≤ j := fun j hj => by
              have h0 := HW.out.2.2.2.2.2.2.2
              rw [hx.2.2.2.2.2.2.2.1] at h0
              have h1 := h0 j hj
              refine ⟨fun h => ?_, h1.2⟩
              rcases hG9 j h with h | h
              · exact h1.1 h
              · have h2 := hdr2.size
                have h3 := hx.2.2.2.2.2.2.2.2.1.lt j hj
                omega
            have hwr : L.writes e (nb - k) k Dk = if r = 0 then L.writes e (nb - (k + 1)) (k + 1) D1 else (D1, r) := by
              have e1 : nb - k = (nb - (k + 1)) + 1 := by omega
              have e2 : L.start + L.used + k = P := by rw [hx.1, hx.2.1]; have := hx.2.2.2.2.2.2.2.2.2; omega
              rw [e1, LSt.writes]
              simp only [e2, hDr]
            have hw0 : L.writes e (nb - k) k Dk = L.writes e nb 0 D := by
              have := HW.out.1
              rwa [hx.2.2.2.2.2.2.2.1] at this
            have H9 := Lib.hid (And.intro hD9 (And.intro hU9 (And.intro hG9' (And.intro hC9 (And.intro hm9 (And.intro hw9 (And.intro hg9 (And.intro hwr hw0))))))))
            obtain ⟨q0, q1, q2, q3, q4, q5, q6, q7, q8⟩ := nine hC9
            rw [hx.1] at q3
            rw [hx.2.1] at q4
            have HS9 : w9.cell? ⟨lb, 0, none⟩ = some (.pointer (some ⟨db, 0, none⟩)) ∧ w9.cell? ⟨lb, 3, none⟩ = some (.int .i64 st) ∧ w9.cell? ⟨lb, 4, none⟩ = some (.int .i64 us) := ⟨q0, q3, q4⟩
            refine hK _ _ _ (fun u h => h) (fun _ => HS9) ?_
            clear hK HS8 hdr hdr2 hx hcs hDr hD9 hu9 hG9 hu9' hC9 hG9' hU9 hm9 hw9 hg9 hwr hw0 q0 q1 q2 q3 q4 q5 q6 q7 q8 hsl hmn f1 f2 f3 f4 f5
            try (simp only [Act.put, List.setIfInBounds_toArray, List.set_cons_zero, List.set_cons_succ])
            (apply planD_held rfl rfl rfl (by simp) HS9; (intro w' hS K hK; go_simp; exact hK))
            refine planD_nil ?_
            clear HS9
            by_cases hr : r = 0
            · have hwr := H9.out.2.2.2.2.2.2.2.1
              rw [if_pos hr] at hwr
              have HW2 : Hid (WrR w lb db L lv e (some ⟨g, off, none⟩) c6 D G nb (k + 1) D1 G9 w9) := by
                exact ⟨by rw [← hwr]; exact H9.out.2.2.2.2.2.2.2.2, H9.out.1, H9.out.2.1, H9.out.2.2.1, H9.out.2.2.2.1, H9.out.2.2.2.2.1, H9.out.2.2.2.2.2.1, H9.out.2.2.2.2.2.2.1⟩
              have hnb3 : (nb : Int) ≤ 2000 := by have := Hx.out.2.2.2.2.1; omega
              clear hwr
              subst hr
              go_wp2_with fail
              exact ⟨⟨u4, u5, _, _, _, ⟨k + 1, by omega, rfl, D1, G9, HW2⟩, rfl, rfl, rfl, rfl, by go_num⟩, by simp [intOf]; omega⟩
            · have hne : (r != 0) = true := by simp [hr]
              have happ : L.append D b = ((L.fail r).1, D1, 0, (L.fail r).2) := by
                have hwr := H9.out.2.2.2.2.2.2.2.1
                rw [if_neg hr, H9.out.2.2.2.2.2.2.2.2, ← Hx.out.2.2.2.2.2.2.2.1, ← H6.out.2.2.2.2.1, ← Hn.out.2.1] at hwr
                rw [LSt.append, if_neg (by rw [Hck.out]; decide), hwr]
                dsimp only
                rw [if_neg hr]
              have Happ := Lib.hid happ
              clear happ hr
              go_wp2_with fail
              refine (fail_log lb db L lv r _ H9.out.2.2.2.1).mono ?_
              rintro e' w10 ⟨rfl, hu10, hC10⟩
              dsimp only
              have H10 := Lib.hid (And.intro hu10 hC10)
              clear hu10 hC10
              go_wp2_with fail
              go_ret2
              rw [Happ.out]
              have hll : (L.fail r).1.list = L.list := by unfold LSt.fail; split <;> rfl
              refine ⟨by rw [fail_snd]; rfl, walPost_of_raw (H.out.1.fail r) ?_ H.out.2.2.2.2.1 H.out.2.1.lt (fun k hk => H.out.2.2.1.lt k hk) H.out.2.2.2.2.2.1 H.out.2.2.2.2.2.2 ⟨G9, H10.out.2, H9.out.1.upd H10.out.1 (fun k hk e' => ?_), H9.out.2.1.trans (H10.out.1.mono (fun _ _ h => .inl h)), H9.out.2.2.1⟩⟩
              · rw [hll]
                refine H.out.2.2.1.upd (H9.out.2.1.trans (H10.out.1.mono (fun _ _ h => .inl h))) (fun k hk h => ?_)
                rcases h with h | h
                · exact (H.out.2.2.2.2.2.1 k hk).2 h
                · exact (H.out.2.2.2.2.2.1 k hk).1 h
              · rcases H9.out.2.2.1 k hk with h | h
                · exact H.out.2.2.2.2.1 (e' ▸ h)
                · have := H.out.2.1.lt; omega
          · obtain rfl : k = nb := by omega
            clear hlt
            have hw0 : L.writes (encB M b) k 0 D = (Dk, 0) := by
              have := HW.out.1
              rw [Nat.sub_self] at this
              exact this.symm
            have happ : L.append D b = ({ L with last := L.last + 1, used := L.used + needB b, list := L.list ++ [(L.last + 1, needB b)] }, Dk, (L.last : Int) + 1, 0) := by
              rw [LSt.append, if_neg (by rw [Hck.out]; decide), Hn.out.2.1, H6.out.2.2.2.2.1, hw0]
              dsimp only
              rw [if_pos rfl]
            have Happ := Lib.hid happ
            obtain ⟨d0, d1, d2, d3, d4, d5, d6, d7, d8⟩ := nine HW.out.2.2.2.2.1
            obtain ⟨us, hus⟩ : ∃ us, L.used = us := ⟨_, rfl⟩
            rw [Hn.out.2.2.1] at d6
            rw [hus] at d4
            obtain ⟨xl, cl, hxl⟩ := H.out.2.2.1.sees.shape
            rw [hxl] at d5
            have hfrz := HW.out.2.2.2.2.1.frozen
            have husb : (us : Int) ≤ 4096 := by have := H.out.1.used; have := H.out.1.fit; omega
            have hnb2 : (k : Int) ≤ 2000 := by have h1 := Hc.out.2.2.2.2.2.1; have h2 := Hc.out.2.1; have h3 := H6.out.2.2.2.2.1; unfold needB at h3; omega
            have hw1 : ∀ i v, (wr.setCell ⟨lb, i, none⟩ v).heap.size = wr.heap.size := fun i v => by simp
            obtain ⟨W, hW⟩ : ∃ W, (wr.setCell ⟨lb, 6, none⟩ (.int .i64 ((la : Int) + 1))).setCell ⟨lb, 4, none⟩ (.int .i64 ((us : Int) + (k : Int))) = W := ⟨_, rfl⟩
            have hWu : Upd (fun j => j = lb) wr W := by rw [← hW]; exact upd_set 4 _ (upd_set 6 _ (Upd.refl _ wr))
            have hWC : Cells9 W lb [.pointer (some ⟨db, 0, none⟩), .int .i64 L.fr, .int .i64 L.n, .int .i64 L.start, .int .i64 ((us : Int) + (k : Int)), .slice xl L.list.length cl, .int .i64 ((la : Int) + 1), .int .i64 L.synced, .bool L.dead] := by
              have h := (HW.out.2.2.2.2.1.set 6 (by decide) (.int .i64 ((la : Int) + 1))).set 4 (by decide) (.int .i64 ((us : Int) + (k : Int)))
              rw [hW] at h
              have e4 : ((preL L db lv).set 6 (.int .i64 ((la : Int) + 1))).set 4 (.int .i64 ((us : Int) + (k : Int))) = [.pointer (some ⟨db, 0, none⟩), .int .i64 L.fr, .int .i64 L.n, .int .i64 L.start, .int .i64 ((us : Int) + (k : Int)), .slice xl L.list.length cl, .int .i64 ((la : Int) + 1), .int .i64 L.synced, .bool L.dead] := by
                rw [hxl]; rfl
              rwa [e4] at h
            have HWW := Lib.hid (And.intro hW (And.intro hWu (And.intro hWC (And.intro hxl hus))))
            clear happ hw0 hw1 hW hWu hWC d0 d1 d2 d3 d7 d8 hxl hus
            go_wp2_with fail
            rw [HWW.out.1]
            obtain ⟨hW, hWu, hWC, hxl, hus⟩ := HWW.out
            obtain ⟨q0, q1, q2, q3, q4, q5, q6, q7, q8⟩ := nine hWC
            clear d4 d5 d6 hfrz q0 q1 q2 q3 q4 q7 q8 hW hWu hWC hxl hus
            have HS : W.drew.cell? ⟨lb, 5, none⟩ = some (.slice xl L.list.length cl) ∧ W.drew.cell? ⟨lb, 6, none⟩ = some (.int .i64 ((la : Int) + 1)) := ⟨q5, q6⟩
            refine wp_region_planD (fun w' => w'.cell? ⟨lb, 5, none⟩ = some (.slice xl L.list.length cl) ∧ w'.cell? ⟨lb, 6, none⟩ = some (.int .i64 ((la : Int) + 1))) 15 [(0, true), (1, true), (2, true), (3, true), (4, true), (5, true), (6, true), (7, true), (8, true), (9, true), (10, true), (11, false), (12, false), (13, true), (14, true), (15, false)] (by kernel_rfl) (by kernel_rfl) (fun d _ _ _ _ h => by cases d <;> exact h) HS ?_
            iterate 11 (apply planD_held rfl rfl rfl (by simp) HS; (intro w' hS K hK; go_simp; exact hK))
            refine planD_op rfl rfl (fun K hK => ?_)
            go_simp
            obtain ⟨hW, hWu, hWC, hxl, hus⟩ := HWW.out
            obtain ⟨nw, hnw⟩ : ∃ nw, W.heap.size = nw := ⟨_, rfl⟩
            rw [hnw]
            have hXu : Upd (fun _ => False) W (W.alloc (.cells (entryV (la + 1, k)).toArray 151)).drew := ((Upd.refl _ W).alloc _).drew
            have hXn : (W.alloc (.cells (entryV (la + 1, k)).toArray 151)).drew.heap[nw]? = some (.cells (entryV (la + 1, k)).toArray 151 (0, 0)) := by rw [← hnw]; exact heap_alloc_new W _
            have hXe : (W.alloc (.cells (entryV (la + 1, k)).toArray 151)).drew = (W.alloc (.cells #[.int .i64 ((la : Int) + 1), .int .i64 (k : Int)] 151)).drew := by
              simp [entryV]
            rw [← hXe]
            clear hXe
            generalize (W.alloc (.cells (entryV (la + 1, k)).toArray 151)).drew = X at *
            have hXC := hWC.upd hXu (fun h => h)
            obtain ⟨p0, p1, p2, p3, p4, p5, p6, p7, p8⟩ := nine hXC
            refine hK _ _ _ (fun u h => h) (fun _ => ⟨p5, p6⟩) ?_
            clear hK
            try (simp only [Act.put, List.setIfInBounds_toArray, List.set_cons_zero, List.set_cons_succ])
            have hlvm : Mid X 2 lv L.list.length (listV L.list) := by
              have hu1 : Upd (fun j => j = lb ∨ G j) w W := HW.out.2.2.1.trans (hWu.mono (fun _ _ h => .inl h))
              refine (H.out.2.2.1.upd hu1 (fun j hj h => ?_)).upd hXu (fun _ _ h => h)
              rcases h with h | h
              · exact (H.out.2.2.2.2.2.1 j hj).2 h
              · exact (H.out.2.2.2.2.2.1 j hj).1 h
            have hll := H.out.1.length
            have hXs : Sees X 2 (.slice (some ⟨nw, 0, none⟩) 1 1) 1 (entryV (la + 1, k)) := Sees.at rfl (by decide) (rangeAt_of_row hXn rfl)
            have HX := Lib.hid (And.intro hXu (And.intro hXC (And.intro hlvm (And.intro hnw hll))))
            clear p0 p1 p2 p3 p4 p7 p8 HS hW hWu hWC hus hXu hXn hXC hnw q5 q6
            refine planD_op rfl rfl (fun K hK => ?_)
            refine wp_append_mid 151 2 16 _ (.slice xl L.list.length cl) L.list.length (listV L.list) 1 (entryV (la + 1, k)) Tryz.underlying120 infoE rfl rfl (by rw [← hxl]; exact hlvm) hXs ?_ (by unfold maxLen; omega) (by omega) ?_
            · intro u hu
              simp only [entryV, List.mem_cons, List.not_mem_nil, or_false] at hu
              rcases hu with rfl | rfl <;> rfl
            intro x' c' Y hYm hYu hYb
            have hYC := HX.out.2.1.upd hYu (fun hj => by
              have := (H.out.2.2.2.2.2.1 lb (by rw [hxl]; exact hj)).2
              exact this rfl)
            obtain ⟨p0, p1, p2, p3, p4, p5', p6', p7, p8⟩ := nine hYC
            have HSY : Y.cell? ⟨lb, 5, none⟩ = some (.slice xl L.list.length cl) ∧ Y.cell? ⟨lb, 6, none⟩ = some (.int .i64 ((la : Int) + 1)) := ⟨p5', p6'⟩
            have hfr : ∀ i, Y.frozen? ⟨lb, i, none⟩ = false := hYC.frozen
            refine hK _ _ _ (fun u h => h) (fun _ => HSY) ?_
            have HY := Lib.hid (And.intro hYm (And.intro hYu (And.intro hYb hYC)))
            clear hK p0 p1 p2 p3 p4 p5' p6' p7 p8 hYm hYu hYb hYC hlvm hXs hxl p5 p6 hll
            try (simp only [Act.put, List.setIfInBounds_toArray, List.set_cons_zero, List.set_cons_succ])
            iterate 2 (apply planD_held rfl rfl rfl (by simp) HSY; (intro w' hS K hK; go_simp; exact hK))
            refine planD_op rfl rfl (fun K hK => ?_)
            go_simp
            refine hK (fun _ => False) _ _ (fun u h => h.elim) (fun h => absurd rfl h) ?_
            refine planD_nil ?_
            clear hK
            obtain ⟨hs5, hs6⟩ := HSY
            go_wp2_with fail
            go_ret2
            rw [Happ.out]
            obtain ⟨hW, hWu, hWC, hxl, hus⟩ := HWW.out
            have hYC := (HY.out.2.2.2).set 5 (by decide) (.slice x' (L.list.length + 1) c')
            have hYu : Upd (fun j => j = lb ∨ lv.ownBlock = some j ∨ G j) w (Y.setCell ⟨lb, 5, none⟩ (.slice x' (L.list.length + 1) c')) := by
              refine Upd.setCell ?_ _ (.inl (.inl rfl))
              refine ((((HW.out.2.2.1.mono (fun _ _ h => h.imp id .inr)).trans (hWu.mono (fun _ _ h => .inl h))).trans (HX.out.1.mono (fun _ _ h => h.elim)))).trans (HY.out.2.1.mono (fun j _ hj => .inr (.inl (by rw [hxl]; exact hj))))
            have hsz : w.heap.size ≤ X.heap.size := by
              have h1 := HW.out.2.2.1.size
              have h2 := hWu.size
              have h3 := HX.out.1.size
              omega
            have hGlb : ¬ Gk lb := fun h => by
              rcases HW.out.2.2.2.1 lb h with h | h
              · exact H.out.2.2.2.2.1 h
              · have := H.out.2.1.lt; omega
            have hGlv : ∀ j, lv.ownBlock = some j → ¬ Gk j := fun j hj h => by
              rcases HW.out.2.2.2.1 j h with h | h
              · exact (H.out.2.2.2.2.2.1 j hj).1 h
              · have := H.out.2.2.1.lt j hj; omega
            have hwX : wr.heap.size ≤ X.heap.size := by
              have h2 := hWu.size
              have h3 := HX.out.1.size
              omega
            have hown' : ∀ j, (Value.slice x' (L.list.length + 1) c').ownBlock = some j → lv.ownBlock = some j ∨ X.heap.size = j := fun j hj => by
              rcases HY.out.2.2.1 with h | h
              · rw [h, ← hxl] at hj; exact .inl hj
              · rw [h] at hj; cases hj; exact .inr rfl
            have hD : DiskAt (Y.setCell ⟨lb, 5, none⟩ (.slice x' (L.list.length + 1) c')) db Dk Gk := by
              have h1 := (HW.out.2.1.upd hWu (fun j hj e => hGlb (e ▸ hj))).upd HX.out.1 (fun _ _ h => h)
              exact (h1.upd HY.out.2.1 (fun j hj e => hGlv j (by rw [hxl]; exact e) hj)).upd (upd_set 5 _ (Upd.refl _ Y)) (fun j hj e => hGlb (e ▸ hj))
            have hM' : Mid (Y.setCell ⟨lb, 5, none⟩ (.slice x' (L.list.length + 1) c')) 2 (.slice x' (L.list.length + 1) c') (L.list.length + 1) (listV L.list ++ entryV (la + 1, k)) :=
              HY.out.1.upd (upd_set 5 _ (Upd.refl _ Y)) (fun j hj e => by
                rcases hown' j hj with h | h
                · exact (H.out.2.2.2.2.2.1 j h).2 e
                · have := H.out.2.1.lt; omega)
            have hlist : listV L.list ++ entryV (la + 1, k) = listV (L.list ++ [(L.last + 1, needB b)]) := by
              rw [H6.out.2.2.2.2.1, Hn.out.2.2.1]
              simp [listV]
            have hpre : ([.pointer (some ⟨db, 0, none⟩), .int .i64 L.fr, .int .i64 L.n, .int .i64 L.start, .int .i64 ((us : Int) + (k : Int)), .slice xl L.list.length cl, .int .i64 ((la : Int) + 1), .int .i64 L.synced, .bool L.dead] : List Value).set 5 (.slice x' (L.list.length + 1) c') =
                preL { L with last := L.last + 1, used := L.used + needB b, list := L.list ++ [(L.last + 1, needB b)] } db (.slice x' (L.list.length + 1) c') := by
              have e1 : ((L.used + needB b : Nat) : Int) = (us : Int) + (k : Int) := by rw [H6.out.2.2.2.2.1, hus]; omega
              have e2 : ((L.last + 1 : Nat) : Int) = (la : Int) + 1 := by rw [Hn.out.2.2.1]; omega
              simp only [preL, e1, e2]
              rfl
            rw [hpre] at hYC
            rw [hlist] at hM'
            have hF := H.out.2.2.2.2.2.2
            refine ⟨?_, fun j => j = lb ∨ (Value.slice x' (L.list.length + 1) c').ownBlock = some j ∨ Gk j, ⟨.slice x' (L.list.length + 1) c', Gk, H.out.1.grow b Hc.out.2.2.2.2.1 Hh.out.2.2.2.2, hYC, ?_, hD, hGlb, fun j hj => ?_, fun j => Iff.rfl⟩, hYu.mono (fun j _ hj => (hF j).2 hj), fun j hj => ?_⟩
            · rw [Hn.out.2.2.1]
              rfl
            · show Mid _ 2 _ (L.list ++ [(L.last + 1, needB b)]).length (listV (L.list ++ [(L.last + 1, needB b)]))
              rw [List.length_append, List.length_singleton]
              exact hM'
            · rcases hown' j hj with h | h
              · exact ⟨hGlv j h, (H.out.2.2.2.2.2.1 j h).2⟩
              · exact ⟨fun hg => by have := HW.out.2.1.lt j hg; omega, fun e => by have := H.out.2.1.lt; omega⟩
            · rcases hj with rfl | hj | hj
              · exact .inl ((hF _).2 (.inl rfl))
              · rcases hown' j hj with h | h
                · exact .inl ((hF j).2 (.inr (.inl h)))
                · exact .inr (by omega)
              · exact (HW.out.2.2.2.1 j hj).imp (fun h => (hF j).2 (.inr (.inr h))) id
  · have happ : L.append D b = (L, D, 0, ck) := by rw [LSt.append, if_pos (by rw [Hck.out]; exact hc), Hck.out]
    have hne : (ck != 0) = true := by simp [hc]
    have Happ := Lib.hid happ
    clear happ hc
    go_enter Tryz.func48, Tryz.ntmps48
    go_wp2_with fail
    refine Hchk.out.mono ?_
    rintro e w1 ⟨rfl, hdr⟩
    dsimp only
    have Hdr := Lib.hid hdr
    clear hdr
    go_wp2_with fail
    go_ret2
    rw [Happ.out]
    exact ⟨rfl, F, Hh.out.1.upd Hdr.out.upd (fun _ _ h => h), Hdr.out.upd.mono (fun _ _ h => h.elim), fun k hk => .inl hk⟩
end Go.Proofs.YtihlijnobbonbaaGreat
