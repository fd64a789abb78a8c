/- Package wal: contracts, first part. -/
import Derived.Test.YtndhcimepgcfaaaKBase
import Derived.Test.YtndhcimepgcfaaaKPlain
import Derived.Test.YtndhcimepgcfaaaKDisk
import Derived.Test.YtndhcimepgcfaaaKCrc
import Derived.Lib.SlBytesConst
import Derived.Deep.LoopGhost
set_option linter.unusedSimpArgs false
set_option linter.unusedVariables false
/- Contracts of package wal: put, get. -/
namespace Go.Proofs.Ytndhcimepgcfaaa
open Go.RowKit
set_option linter.unusedSimpArgs false
set_option linter.unusedVariables false
set_option maxRecDepth 100000

theorem infoU8 : (Try.prog.info? 5).map (fun i => (i.zero, i.size, i.bytes)) = some (some (.int .u8 0), 1, 1) := by kernel_rfl
theorem bv_nat (n : Nat) : bv (UInt8.ofNat (n % 256)) = .int .u8 ((n % 256 : Nat) : Int) := by
  have : (UInt8.ofNat (n % 256)).toNat = n % 256 := by simp
  rw [bv, this]

set_option maxHeartbeats 2000000 in
theorem put_ok (v : Value) (l : Bytes) (N size : Nat) (w : World) (hv : Mid w 1 v l.length (bvs l)) (hN : N < 18446744073709551616) (hs : size ≤ 8) (hl : l.length ≤ 100000000000000) :
    Calls Try.prog 49 #[v, .int .u64 N, .int .i64 size] w fun e w' => ∃ x' c', e = .returned (.slice x' (l.length + size) c') ∧ Mid w' 1 (.slice x' (l.length + size) c') (l.length + size) (bvs (l ++ leB size N)) ∧
      Upd (fun k => v.ownBlock = some k) w w' ∧ (∀ k, (Value.slice x' (l.length + size) c').ownBlock = some k → v.ownBlock = some k ∨ w.heap.size ≤ k) := by
  obtain ⟨x0, c0, rfl⟩ := hv.sees.shape
  have hs2 : (size : Int) ≤ 8 := by omega
  have Hl := Lib.hid (And.intro hl (And.intro hs hN))
  let R : Nat → Option Addr → Nat → World → Prop := fun k x c wr => Mid wr 1 (.slice x (l.length + k) c) (l.length + k) (bvs (l ++ leB k N)) ∧ Upd (fun j => (Value.slice x0 l.length c0).ownBlock = some j) w wr ∧ (∀ j, (Value.slice x (l.length + k) c).ownBlock = some j → (Value.slice x0 l.length c0).ownBlock = some j ∨ w.heap.size ≤ j)
  have HR0 : Hid (R 0 x0 c0 w) := ⟨by simpa [leB] using hv, Upd.refl _ _, fun j hj => .inl hj⟩
  clear hv hl hs hN
  go_enter Try.func49, Try.ntmps49
  go_wp2_with fail
  go_loopw [0, 1, 8] (fun b n i wr => ∃ (k : Nat) (x : Option Addr) (c : Nat), k ≤ size ∧ i = .int .i64 k ∧ n = .int .u64 ((N / 256 ^ k : Nat) : Int) ∧ b = .slice x (l.length + k) c ∧ Hid (R k x c wr)) (fun _ _ i _ => size - (intOf i).toNat)
  case atStart => exact ⟨0, x0, c0, Nat.zero_le _, rfl, by simp, rfl, HR0⟩
  case round =>
    clear HR0
    obtain ⟨k, x, c, hk, rfl, rfl, rfl, HR⟩ := hrel
    by_cases hlt : k < size
    · have hlt2 : (k : Int) < (size : Int) := by omega
      obtain ⟨M, hM⟩ : ∃ M, N / 256 ^ k = M := ⟨_, rfl⟩
      rw [hM]
      have HM := Lib.hid hM
      clear hM
      go_wp2_with ((with_reducible apply wpl_append_mid 5 1 1 _ (.slice x (l.length + k) c) (l.length + k) (bvs (l ++ leB k N)) 1 [.int .u8 ((M : Int) % 256)]))
      · exact Try.underlying51
      · exact infoU8
      · rfl
      · rfl
      · exact HR.out.1.upd ((Upd.refl (fun _ => False) wr).alloc _) (fun _ _ h => h)
      · exact Sees.at rfl (by decide) (rangeAt_of_row (heap_alloc_new wr (.cells ([.int .u8 ((M : Int) % 256)] : List Value).toArray 5)) rfl)
      · intro u hu; simp at hu; rw [hu]; rfl
      · have := Hl.out; unfold maxLen; omega
      · have := Hl.out; omega
      intro x' c' w4 hmid hu hbk
      try (simp only [Act.put, List.setIfInBounds_toArray, List.set_cons_zero, List.set_cons_succ])
      have hput : bvs (l ++ leB k N) ++ [.int .u8 ((M : Int) % 256)] = bvs (l ++ leB (k + 1) N) := by
        rw [leB_snoc, ← List.append_assoc, bvs_append (l ++ leB k N), HM.out]
        congr 1
        show _ = [bv _]
        rw [bv_nat]
        simp
      rw [hput] at hmid
      have hR : R (k + 1) x' c' w4 := by
        have hs := HR.out.2.1.size
        refine ⟨hmid, ((HR.out.2.1.alloc _).then hu (fun j hj => ?_)), fun j hj => ?_⟩
        · rcases HR.out.2.2 j hj with h | h
          · exact .inl h
          · exact .inr h
        · rcases hbk with hb | hb
          · exact HR.out.2.2 j (by rw [← hb]; exact hj)
          · have e : (Value.slice x' (l.length + (k + 1)) c').ownBlock = (Value.slice x' (l.length + k + 1) c').ownBlock := rfl
            rw [e, hb] at hj
            simp at hj
            exact .inr (by omega)
      have HR2 : Hid (R (k + 1) x' c' w4) := hR
      have hdiv : (M : Int) / 256 = ((N / 256 ^ (k + 1) : Nat) : Int) := by
        rw [← HM.out, Nat.pow_succ, ← Nat.div_div_eq_div_mul]; omega
      have Hdiv := Lib.hid hdiv
      clear hmid hu hbk hput hR hdiv HR
      go_wp2_with fail
      exact ⟨⟨k + 1, x', c', by omega, by go_num, by rw [← Hdiv.out], rfl, HR2⟩, by simp [intOf]; omega⟩
    · obtain rfl : k = size := by omega
      go_wp2_with fail
      go_ret
      exact ⟨x, c, rfl, HR.out.1, HR.out.2.1, HR.out.2.2⟩
end Go.Proofs.Ytndhcimepgcfaaa
/- Contracts of package wal: get. -/
namespace Go.Proofs.Ytndhcimepgcfaaa
open Go.RowKit
set_option linter.unusedSimpArgs false
set_option linter.unusedVariables false
set_option maxRecDepth 100000

theorem or_byte (n b : Nat) (hn : n < 2 ^ 56) (hb : b < 256) : bits BinOp.or IntKind.u64 ((n * 256 : Nat) : Int) (b : Int) = ((b + 256 * n : Nat) : Int) := by
  have h : (BitVec.ofInt 64 ((n * 256 : Nat) : Int) ||| BitVec.ofInt 64 (b : Int)).toNat = b + 256 * n := by
    rw [BitVec.ofInt_natCast, BitVec.ofInt_natCast, BitVec.toNat_or, BitVec.toNat_ofNat, BitVec.toNat_ofNat, Nat.mod_eq_of_lt (by omega), Nat.mod_eq_of_lt (by omega)]
    have := Nat.shiftLeft_add_eq_or_of_lt (i := 8) (b := b) (by omega) n
    rw [Nat.shiftLeft_eq] at this
    rw [← this]; omega
  show IntKind.u64.wrap (((BitVec.ofInt 64 ((n * 256 : Nat) : Int) ||| BitVec.ofInt 64 (b : Int)).toNat : Nat) : Int) = _
  rw [h]
  show ((b + 256 * n : Nat) : Int) % 18446744073709551616 = _
  omega

theorem unB_drop (bs : Bytes) (size j : Nat) (hj : j < size) (hs : size ≤ bs.length) : unB ((bs.take size).drop j) = (bs[j]'(by omega)).toNat + 256 * unB ((bs.take size).drop (j + 1)) := by
  have h : j < (bs.take size).length := by simp; omega
  rw [List.drop_eq_getElem_cons h, unB]
  simp

end Go.Proofs.Ytndhcimepgcfaaa
/- The log in memory; its small functions. -/
namespace Go.Proofs.Ytndhcimepgcfaaa
open Go.RowKit
set_option linter.unusedSimpArgs false
set_option linter.unusedVariables false
set_option maxRecDepth 100000

def entryV (p : Nat × Nat) : List Value := [.int .i64 (p.1 : Nat), .int .i64 (p.2 : Nat)]
def listV (l : List (Nat × Nat)) : List Value := l.flatMap entryV
theorem entryV_length (p : Nat × Nat) : (entryV p).length = 2 := rfl
theorem listV_length (l : List (Nat × Nat)) : (listV l).length = l.length * 2 := flat_length entryV 2 l (fun p _ => entryV_length p)
def preL (L : LSt) (db : Nat) (lv : Value) : List Value :=
  [.pointer (some ⟨db, 0, none⟩), .int .i64 L.fr, .int .i64 L.n, .int .i64 L.start, .int .i64 L.used, lv, .int .i64 L.last, .int .i64 L.synced, .bool L.dead]
/-- A Log's cells: the first nine, and the table. -/
def Cells9 (w : World) (lb : Nat) (pre : List Value) : Prop := ∃ c, Ready w lb 9 pre [] 117 c

theorem Cells9.heap {w : World} {lb : Nat} {pre : List Value} (h : Cells9 w lb pre) : pre.length = 9 ∧ ∃ rest : List Value, w.heap[lb]? = some (.cells (pre ++ rest).toArray 117 (0, 0)) := by
  obtain ⟨c, ⟨rows, h⟩ | h⟩ := h
  · exact ⟨h.1, _, by rw [h.heap, List.append_assoc]⟩
  · exact ⟨h.1, _, by rw [h.heap, List.append_assoc]⟩
theorem Cells9.cell {w : World} {lb : Nat} {pre : List Value} (h : Cells9 w lb pre) (i : Nat) (hi : i < 9) : w.cell? ⟨lb, i, none⟩ = pre[i]? := by
  obtain ⟨hl, rest, hh⟩ := h.heap
  rw [cell_of_row _ _ _ _ _ _ hh]
  simp only [List.getElem?_toArray]
  rw [List.getElem?_append_left (by omega)]
theorem Cells9.lt {w : World} {lb : Nat} {pre : List Value} (h : Cells9 w lb pre) : lb < w.heap.size := by
  obtain ⟨_, rest, hh⟩ := h.heap
  exact lt_of_block hh
theorem Cells9.frozen {w : World} {lb : Nat} {pre : List Value} (h : Cells9 w lb pre) (i : Nat) : w.frozen? ⟨lb, i, none⟩ = false := by
  obtain ⟨_, rest, hh⟩ := h.heap
  exact unfrozen hh i
theorem Cells9.upd {w w' : World} {lb : Nat} {pre : List Value} {F : Nat → Prop} (h : Cells9 w lb pre) (hu : Upd F w w') (hf : ¬ F lb) : Cells9 w' lb pre := by
  obtain ⟨c, ⟨rows, h⟩ | h⟩ := h
  · exact ⟨c, .inl ⟨rows, h.upd hu hf⟩⟩
  · exact ⟨c, .inr (h.upd hu hf)⟩
theorem tab_pre {b o : Nat} {pre post : List Value} {t : TypeId} {w : World} {d m : Int} {rows : List (BitVec 32)} {c : Int} (h : TabAt w b o pre post t d m rows c) (i : Nat) (hi : i < o) (v : Value) : TabAt (w.setCell ⟨b, i, none⟩ v) b o (pre.set i v) post t d m rows c := by
  have hl := h.1
  refine ⟨by rw [List.length_set]; exact h.1, h.2.1, ?_⟩
  rw [stored h.2.2, List.setIfInBounds_toArray, List.append_assoc, List.set_append_left _ _ (by omega), List.append_assoc]
theorem Cells9.set {w : World} {lb : Nat} {pre : List Value} (h : Cells9 w lb pre) (i : Nat) (hi : i < 9) (v : Value) : Cells9 (w.setCell ⟨lb, i, none⟩ v) lb (pre.set i v) := by
  obtain ⟨c, ⟨rows, h⟩ | h⟩ := h
  · exact ⟨c, .inl ⟨rows, tab_pre h i hi v⟩⟩
  · exact ⟨c, .inr (tab_pre h i hi v)⟩
theorem nine {w : World} {lb : Nat} {v0 v1 v2 v3 v4 v5 v6 v7 v8 : Value} (h : Cells9 w lb [v0, v1, v2, v3, v4, v5, v6, v7, v8]) :
    w.cell? ⟨lb, 0, none⟩ = some v0 ∧ w.cell? ⟨lb, 1, none⟩ = some v1 ∧ w.cell? ⟨lb, 2, none⟩ = some v2 ∧ w.cell? ⟨lb, 3, none⟩ = some v3 ∧ w.cell? ⟨lb, 4, none⟩ = some v4 ∧ w.cell? ⟨lb, 5, none⟩ = some v5 ∧ w.cell? ⟨lb, 6, none⟩ = some v6 ∧ w.cell? ⟨lb, 7, none⟩ = some v7 ∧ w.cell? ⟨lb, 8, none⟩ = some v8 :=
  ⟨h.cell 0 (by decide), h.cell 1 (by decide), h.cell 2 (by decide), h.cell 3 (by decide), h.cell 4 (by decide), h.cell 5 (by decide), h.cell 6 (by decide), h.cell 7 (by decide), h.cell 8 (by decide)⟩
/-- The sum of bytes, by the log's own table. -/
theorem sum9 {w : World} {lb : Nat} {pre : List Value} (h : Cells9 w lb pre) (v : Value) (bs : Bytes) (hv : Sees w 1 v bs.length (bvs bs)) (hvb : ∀ k, v.ownBlock = some k → 0 < bs.length → k ≠ lb) :
    Calls Try.prog 50 #[.pointer (some ⟨lb, 9, none⟩), v] w fun e w' => e = .returned (.int .u32 (updB 0 bs).toNat) ∧ Upd (fun j => j = lb) w w' ∧ Cells9 w' lb pre := by
  obtain ⟨c, h⟩ := h
  refine (table_sum lb 9 pre [] _ c v bs w h hv hvb).mono ?_
  rintro e w' ⟨rfl, h1, h2⟩
  exact ⟨rfl, h1, _, .inr h2⟩

/-- A Log at block lb that is L, on the disk at block db; F: all blocks that are its own. -/
def LogAt (w : World) (lb : Nat) (L : LSt) (db : Nat) (F : Nat → Prop) : Prop :=
  L.Ok ∧ F lb ∧ (∀ k, F k → k < w.heap.size) ∧ ∃ lv, Cells9 w lb (preL L db lv) ∧ Mid w 2 lv L.list.length (listV L.list) ∧ (∀ k, lv.ownBlock = some k → F k ∧ k ≠ lb)
theorem LogAt.lt {w : World} {lb : Nat} {L : LSt} {db : Nat} {F : Nat → Prop} (h : LogAt w lb L db F) : ∀ k, F k → k < w.heap.size := h.2.2.1
theorem LogAt.upd {w w' : World} {lb : Nat} {L : LSt} {db : Nat} {F G : Nat → Prop} (h : LogAt w lb L db F) (hu : Upd G w w') (hf : ∀ k, F k → ¬ G k) : LogAt w' lb L db F := by
  obtain ⟨h0, h1, h2, lv, h3, h4, h5⟩ := h
  exact ⟨h0, h1, fun k hk => Nat.lt_of_lt_of_le (h2 k hk) hu.size, lv, h3.upd hu (hf lb h1), h4.upd hu (fun k hk => hf k (h5 k hk).1), h5⟩

theorem fail_ok (lb : Nat) (pre : List Value) (e : Int) (w : World) (h : Cells9 w lb pre) :
    Calls Try.prog 51 #[.pointer (some ⟨lb, 0, none⟩), .int .i64 e] w fun r w' => r = .returned (.int .i64 (if e = 0 then 0 else 10)) ∧ Upd (fun k => k = lb) w w' ∧ Cells9 w' lb (if e = 0 then pre else pre.set 8 (.bool true)) := by
  have hf := h.frozen 8
  have hc := h.cell 8 (by decide)
  obtain ⟨v8, hv8⟩ : ∃ v8, pre[8]? = some v8 := by
    obtain ⟨hl, _⟩ := h.heap
    exact ⟨_, List.getElem?_eq_getElem (by omega)⟩
  rw [hv8] at hc
  clear hv8
  by_cases he : e = 0
  · subst he
    have H := Lib.hid h
    clear h hc
    go_enter Try.func51, Try.ntmps51
    go_wp2_with fail
    go_ret
    exact ⟨rfl, Upd.refl _ _, H.out⟩
  · have hne : (e != 0) = true := by simp [he]
    have H : Hid (Upd (fun k => k = lb) w (w.setCell ⟨lb, 8, none⟩ (.bool true)) ∧ Cells9 (w.setCell ⟨lb, 8, none⟩ (.bool true)) lb (pre.set 8 (.bool true))) := ⟨(Upd.refl _ _).setCell _ (.inl rfl), h.set 8 (by decide) _⟩
    rw [if_neg he, if_neg he]
    clear h he
    go_enter Try.func51, Try.ntmps51
    go_wp2_with fail
    go_ret
    exact ⟨rfl, H.out⟩

end Go.Proofs.Ytndhcimepgcfaaa
/- wal: First, Room, Last, Synced, region, Need. -/
namespace Go.Proofs.Ytndhcimepgcfaaa
open Go.RowKit
set_option linter.unusedSimpArgs false
set_option linter.unusedVariables false
set_option maxRecDepth 100000

theorem first_ok {w : World} {lb : Nat} {L : LSt} {db : Nat} {lv : Value} (h : Cells9 w lb (preL L db lv)) (hm : Mid w 2 lv L.list.length (listV L.list)) (hOk : L.Ok) :
    Calls Try.prog 48 #[.pointer (some ⟨lb, 0, none⟩)] w fun e w' => e = .returned (.int .i64 (L.first : Nat)) ∧ w = w' := by
  obtain ⟨c0, c1, c2, c3, c4, c5, c6, c7, c8⟩ := nine h
  have hlast : (L.last : Int) < 1000000000000000000 := by have := hOk.last; omega
  obtain ⟨xa, xc, rfl⟩ := hm.sees.shape
  have hlen := hOk.length
  cases hl : L.list with
  | nil =>
    have hf : L.first = L.last + 1 := by rw [LSt.first, hl]
    rw [hf]
    rw [hl] at c5
    clear h hm hOk hlen hl hf
    go_enter Try.func48, Try.ntmps48
    go_wp2_with fail
    go_ret
    exact ⟨by simp, rfl⟩
  | cons p r =>
    have hf : L.first = p.1 := by rw [LSt.first, hl]
    rw [hf]
    rw [hl] at c5 hm hlen
    obtain ⟨_, ⟨h0, h1⟩ | ⟨g, off, cap, he, h1, h2, h3, h4, h5⟩⟩ := hm
    · cases h1
    · cases he
      have hc : w.cell? ⟨g, off, none⟩ = some (.int .i64 (p.1 : Nat)) := h4 0 _ rfl
      have hpp : 0 < (p :: r).length := Nat.succ_pos _
      have hpos : (0 : Int) < ((p :: r).length : Int) := by omega
      have hn0 : (((p :: r).length : Int) == 0) = false := by rw [beq_eq_false_iff_ne]; omega
      obtain ⟨m, hmm⟩ : ∃ m, (p :: r).length = m := ⟨_, rfl⟩
      rw [hmm] at c5 hpos hn0 hlen hpp
      have hlen2 : (m : Int) ≤ 4096 := by omega
      clear h hOk hlen hl hf h1 h2 h3 h4 h5 hmm hpp
      go_enter Try.func48, Try.ntmps48
      go_wp2_with fail
      go_ret
      exact ⟨rfl, rfl⟩

/-- What can be no region. -/
def badRegion (secs : Nat) (fr n : Int) : Bool := decide (fr < 0 ∨ n < 2 ∨ (secs : Int) < n ∨ (secs : Int) - n < fr)
theorem region_bad {w : World} {b : Nat} {D : DSt} {F : Nat → Prop} (hD : DiskAt w b D F) (fr n : Int) (hn : n ≤ 9223372036854775807) (h : fr < 0 ∨ 0 ≤ fr ∧ n < 2 ∨ 0 ≤ fr ∧ 2 ≤ n ∧ (D.secs.length : Int) < n ∨ 0 ≤ fr ∧ 2 ≤ n ∧ n ≤ (D.secs.length : Int) ∧ (D.secs.length : Int) - n < fr) :
    Calls Try.prog 45 #[.pointer (some ⟨b, 0, none⟩), .int .i64 fr, .int .i64 n] w fun e w' => e = .returned (.int .i64 1) ∧ w = w' := by
  have hs := size_disk hD
  have hm := hD.1.most
  obtain ⟨m, hmm⟩ : ∃ m, D.secs.length = m := ⟨_, rfl⟩
  rw [hmm] at hs h hm
  have hm2 : (m : Int) ≤ 4096 := by omega
  have Hs := Lib.hid hs
  clear hs hm hmm hD
  rcases h with h | ⟨h1, h2⟩ | ⟨h1, h2, h3⟩ | ⟨h1, h2, h3, h4⟩
  · go_enter Try.func45, Try.ntmps45
    go_wp2_with fail
    go_ret
    exact ⟨rfl, rfl⟩
  · go_enter Try.func45, Try.ntmps45
    go_wp2_with fail
    go_ret
    exact ⟨rfl, rfl⟩
  · go_enter Try.func45, Try.ntmps45
    go_wp2_with ((with_reducible refine Hs.out.mono ?_); rintro e w' ⟨rfl, rfl⟩; dsimp only)
    go_ret
    exact ⟨rfl, rfl⟩
  · go_enter Try.func45, Try.ntmps45
    go_wp2_with ((with_reducible refine Hs.out.mono ?_); rintro e w' ⟨rfl, rfl⟩; dsimp only)
    go_ret
    exact ⟨rfl, rfl⟩
theorem region_good {w : World} {b : Nat} {D : DSt} {F : Nat → Prop} (hD : DiskAt w b D F) (fr n : Int) (h1 : 0 ≤ fr) (h2 : 2 ≤ n) (h3 : fr + n ≤ (D.secs.length : Int)) :
    Calls Try.prog 45 #[.pointer (some ⟨b, 0, none⟩), .int .i64 fr, .int .i64 n] w fun e w' => e = .returned (.int .i64 0) ∧ w = w' := by
  have hs := size_disk hD
  have hm := hD.1.most
  obtain ⟨m, hmm⟩ : ∃ m, D.secs.length = m := ⟨_, rfl⟩
  rw [hmm] at hs h3 hm
  have hm2 : (m : Int) ≤ 4096 := by omega
  have h4 : n ≤ (m : Int) := by omega
  have h5 : fr ≤ (m : Int) - n := by omega
  have Hs := Lib.hid hs
  clear hs hm hmm hD h3
  go_enter Try.func45, Try.ntmps45
  go_wp2_with ((with_reducible refine Hs.out.mono ?_); rintro e w' ⟨rfl, rfl⟩; dsimp only)
  go_ret
  exact ⟨rfl, rfl⟩
theorem region_nil (fr n : Int) (w : World) :
    Calls Try.prog 45 #[.pointer none, .int .i64 fr, .int .i64 n] w fun e w' => e = .returned (.int .i64 2) ∧ w = w' := by
  go_enter Try.func45, Try.ntmps45
  go_wp2_with fail
  go_ret
  exact ⟨rfl, rfl⟩

/-! Need. -/
def strsV (b : Batch) : List Value := b.map .string
theorem strsV_length (b : Batch) : (strsV b).length = b.length := by simp [strsV]
def bytesFrom (b : Batch) : Nat := b.foldl (fun n r => n + (4 + r.size)) 16
theorem bytesOf_snoc (b : Batch) (r : ByteArray) : bytesOf (b ++ [r]) = bytesOf b + (4 + r.size) := by simp [bytesOf]
theorem bytesOf_take_le (b : Batch) (k : Nat) : bytesOf (b.take k) ≤ bytesOf b := by
  rw [bytesOf_eq, bytesOf_eq]
  have : bodyB b = bodyB (b.take k) ++ bodyB (b.drop k) := by
    rw [bodyB, bodyB, bodyB, ← List.flatMap_append, List.take_append_drop]
  rw [this, List.length_append]; omega

end Go.Proofs.Ytndhcimepgcfaaa
/- wal: mark. -/
namespace Go.Proofs.Ytndhcimepgcfaaa
open Go.RowKit
set_option linter.unusedSimpArgs false
set_option linter.unusedVariables false
set_option maxRecDepth 100000

def fldsOf (l : List Nat) : Bytes := magicB ++ l.flatMap (leB 8)
theorem fldsOf_length (l : List Nat) : (fldsOf l).length = 12 + 8 * l.length := by
  unfold fldsOf
  rw [List.length_append]
  have : (l.flatMap (leB 8)).length = l.length * 8 := flat_length (leB 8) 8 l (fun x _ => leB_length 8 x)
  rw [this]
  simp [magicB]; omega
theorem fldsOf_five (a b c d e : Nat) : fldsOf [a, b, c, d, e] = fieldsB a b c d e := by simp [fldsOf, fieldsB]

def u64V (l : List Nat) : List Value := l.map fun x => .int .u64 ((x : Nat) : Int)
/-- What mark has laid so far. -/
def MarkR (w : World) (bl : Nat) (fs : List Nat) (k : Nat) (bs : Bytes) (x : Option Addr) (c : Nat) (wr : World) : Prop :=
  bs = fldsOf (fs.take k) ∧ Mid wr 1 (.slice x bs.length c) bs.length (bvs bs) ∧ Upd (fun _ => False) w wr ∧ (∀ j, (Value.slice x bs.length c).ownBlock = some j → w.heap.size ≤ j ∧ j ≠ bl) ∧ wr.heap[bl]? = some (.cells (u64V fs).toArray 119 (0, 0))
theorem fldsOf_snoc (l : List Nat) (x : Nat) : fldsOf (l ++ [x]) = fldsOf l ++ leB 8 x := by simp [fldsOf]

def failE (e : Int) : Int := if e = 0 then 0 else 10
theorem fail_snd (L : LSt) (e : Int) : (L.fail e).2 = failE e := by unfold LSt.fail failE; split <;> rfl
/-- What fail leaves. -/
def FailPost (w : World) (lb db : Nat) (L : LSt) (lv : Value) (w' : World) : Prop := Upd (fun k => k = lb) w w' ∧ Cells9 w' lb (preL L db lv)
theorem preL_fail (L : LSt) (e : Int) (db : Nat) (lv : Value) : (if e = 0 then preL L db lv else (preL L db lv).set 8 (.bool true)) = preL (L.fail e).1 db lv := by unfold LSt.fail; split <;> rfl
theorem fail_log (lb db : Nat) (L : LSt) (lv : Value) (e : Int) (w : World) (h : Cells9 w lb (preL L db lv)) :
    Calls Try.prog 51 #[.pointer (some ⟨lb, 0, none⟩), .int .i64 e] w fun r w' => r = .returned (.int .i64 (failE e)) ∧ FailPost w lb db (L.fail e).1 lv w' := by
  refine (fail_ok lb _ e w h).mono ?_
  rintro r w' ⟨rfl, h1, h2⟩
  rw [preL_fail] at h2
  exact ⟨rfl, h1, h2⟩
theorem write_waits (D : DSt) (i : Int) (data : Bytes) : (D.write i data).1.waits.length ≤ D.waits.length + 1 := by
  unfold DSt.write
  split
  · exact Nat.le_succ _
  · split
    · exact Nat.le_succ _
    · split
      · exact Nat.le_succ _
      · split
        · exact Nat.le_succ _
        · simp
theorem write_zero_or (D : DSt) (i : Int) (data : Bytes) : (D.write i data).2 = 0 ∨ (D.write i data).2 = 1 ∨ (D.write i data).2 = 10 := by
  unfold DSt.write
  split
  · simp
  · split
    · simp
    · split
      · simp
      · split <;> simp

/-- Behind a call that writes the log's own cells and the disk. -/
def RawPost (w : World) (lb db : Nat) (L : LSt) (lv : Value) (D : DSt) (G : Nat → Prop) (w' : World) : Prop :=
  ∃ G', Cells9 w' lb (preL L db lv) ∧ DiskAt w' db D G' ∧ Upd (fun k => k = lb ∨ G k) w w' ∧ (∀ k, G' k → G k ∨ w.heap.size ≤ k)
set_option maxHeartbeats 2000000 in
theorem mark_raw {w : World} {lb db : Nat} {L : LSt} {lv : Value} {D : DSt} {G : Nat → Prop} (h : Cells9 w lb (preL L db lv)) (hm : Mid w 2 lv L.list.length (listV L.list)) (hOk : L.Ok) (hD : DiskAt w db D G) (hG : ¬ G lb)
    (hlv : ∀ k, lv.ownBlock = some k → ¬ G k ∧ k ≠ lb) (hwt : D.waits.length < 99999999990) :
    Calls Try.prog 47 #[.pointer (some ⟨lb, 0, none⟩)] w fun e w' => e = .returned (.int .i64 (L.mark D).2.2) ∧ RawPost w lb db (L.mark D).1 lv (L.mark D).2.1 G w' := by
  obtain ⟨fr, hfr⟩ : ∃ fr, L.fr = fr := ⟨_, rfl⟩
  obtain ⟨n, hn⟩ : ∃ n, L.n = n := ⟨_, rfl⟩
  obtain ⟨st, hst⟩ : ∃ st, L.start = st := ⟨_, rfl⟩
  obtain ⟨sy, hsy⟩ : ∃ sy, L.synced = sy := ⟨_, rfl⟩
  obtain ⟨fi, hfi⟩ : ∃ fi, L.first = fi := ⟨_, rfl⟩
  have hmk : L.mk_ = markB fr n st fi sy := by rw [LSt.mk_, hfr, hn, hst, hfi, hsy]
  have hb : fr ≤ 4096 ∧ n ≤ 4096 ∧ st ≤ 4096 ∧ sy < 1000000000000000000 ∧ fi ≤ 1000000000000000000 := by
    have := hOk.fit; have := hOk.start; have := hOk.synced; have := hOk.last; have := hOk.first_le; omega
  obtain ⟨b1, b2, b3, b4, b5⟩ := hb
  have f1 : IntKind.u64.wrap (fr : Int) = (fr : Int) := by show (fr : Int) % 18446744073709551616 = _; omega
  have f2 : IntKind.u64.wrap (n : Int) = (n : Int) := by show (n : Int) % 18446744073709551616 = _; omega
  have f3 : IntKind.u64.wrap (st : Int) = (st : Int) := by show (st : Int) % 18446744073709551616 = _; omega
  have f4 : IntKind.u64.wrap (fi : Int) = (fi : Int) := by show (fi : Int) % 18446744073709551616 = _; omega
  have f5 : IntKind.u64.wrap (sy : Int) = (sy : Int) := by show (sy : Int) % 18446744073709551616 = _; omega
  have H := Lib.hid (And.intro h (And.intro hm (And.intro hOk hD)))
  have Hb := Lib.hid (And.intro b1 (And.intro b2 (And.intro b3 (And.intro b4 b5))))
  have Hf := Lib.hid (And.intro f1 (And.intro f2 (And.intro f3 (And.intro f4 f5))))
  have Hmk := Lib.hid hmk
  have Hn := Lib.hid (And.intro hfr (And.intro hn (And.intro hst (And.intro hsy hfi))))
  clear h hm hOk hD b1 b2 b3 b4 b5 f1 f2 f3 f4 f5 hmk hfr hn hst hsy hfi
  have kc := fun (w : World) (C : Array Value) (n c : Nat) => Lib.run_convert_bytes_const (P := Try.prog) w 51 5 C n c Try.underlying51 Try.underlying5
  go_enter Try.func47, Try.ntmps47
  go_wp2_with fail
  have hu1 : Upd (fun _ => False) w (w.alloc (.cells (bvs magicB).toArray 5 (12, 13))) := (Upd.refl _ w).alloc _
  have hm1 : Mid (w.alloc (.cells (bvs magicB).toArray 5 (12, 13))) 1 (.slice (some ⟨w.heap.size, 0, none⟩) 12 12) 12 (bvs magicB) :=
    mid_full rfl (by decide) (by simp) (rangeAt_of_row (heap_alloc_new w _) (by simp))
  have hsz : w.heap.size < (w.alloc (.cells (bvs magicB).toArray 5 (12, 13))).heap.size := by simp
  have hbk : ∀ k, (Value.slice (some ⟨w.heap.size, 0, none⟩) 12 12).ownBlock = some k → w.heap.size ≤ k := fun k hk => by cases hk; exact Nat.le_refl _
  change Code.wp _ _ _ _ (w.alloc (.cells (bvs magicB).toArray 5 (12, 13)))
  generalize w.alloc (.cells (bvs magicB).toArray 5 (12, 13)) = w1 at *
  have hC := H.out.1.upd hu1 (fun h => h)
  have hM := H.out.2.1.upd hu1 (fun _ _ h => h)
  obtain ⟨d0, d1, d2, d3, d4, d5, d6, d7, d8⟩ := nine hC
  rw [Hn.out.1] at d1
  rw [Hn.out.2.1] at d2
  rw [Hn.out.2.2.1] at d3
  rw [Hn.out.2.2.2.1] at d7
  clear d0 d4 d5 d6 d8
  have HS : w1.drew.cell? ⟨lb, 1, none⟩ = some (.int .i64 fr) ∧ w1.drew.cell? ⟨lb, 2, none⟩ = some (.int .i64 n) ∧ w1.drew.cell? ⟨lb, 3, none⟩ = some (.int .i64 st) ∧ w1.drew.cell? ⟨lb, 7, none⟩ = some (.int .i64 sy) ∧
    Hid (Cells9 w1.drew lb (preL L db lv) ∧ Mid w1.drew 2 lv L.list.length (listV L.list)) := ⟨d1, d2, d3, d7, ⟨hC, hM⟩⟩
  obtain ⟨f1, f2, f3, f4, f5⟩ := Hf.out
  refine wp_region_planD (fun w' => w'.cell? ⟨lb, 1, none⟩ = some (.int .i64 fr) ∧ w'.cell? ⟨lb, 2, none⟩ = some (.int .i64 n) ∧ w'.cell? ⟨lb, 3, none⟩ = some (.int .i64 st) ∧ w'.cell? ⟨lb, 7, none⟩ = some (.int .i64 sy) ∧
    Hid (Cells9 w' lb (preL L db lv) ∧ Mid w' 2 lv L.list.length (listV L.list))) 26 [(0, true), (1, true), (2, true), (3, true), (4, true), (5, true), (6, true), (7, true), (8, true), (9, true), (10, true), (11, true), (12, true), (13, true), (14, true), (15, true), (16, true), (17, true), (18, true), (19, true), (20, true), (21, true), (22, true), (25, true), (23, false), (24, true)] (by kernel_rfl) (by kernel_rfl) (fun d _ _ _ _ h => by cases d <;> exact h) HS ?_
  iterate 16 (apply planD_held rfl rfl rfl (by simp) HS; (intro w' hS K hK; go_simp; exact hK))
  refine planD_call (.int .i64 fi) rfl rfl (fun w' hS => ⟨48, #[.pointer (some ⟨lb, 0, none⟩)], by go_simp, by have := first_ok hS.2.2.2.2.out.1 hS.2.2.2.2.out.2 H.out.2.2.1; rw [Hn.out.2.2.2.2] at this; exact this⟩) ?_
  simp only [Act.put, List.setIfInBounds_toArray, List.set_cons_zero, List.set_cons_succ]
  iterate 7 (apply planD_held rfl rfl rfl (by simp) HS; (intro w' hS K hK; go_simp; exact hK))
  refine planD_op rfl rfl (fun K hK => ?_)
  go_simp
  obtain ⟨bl, hbl⟩ : ∃ bl, w1.heap.size = bl := ⟨_, rfl⟩
  have hbl1 : w.heap.size < bl := by rw [← hbl]; exact hsz
  have hu2 : Upd (fun _ => False) w1 ((w1.alloc (.cells (u64V [fr, n, st, fi, sy]).toArray 119)).drew) := ((Upd.refl _ w1).alloc _).drew
  have hnew : ((w1.alloc (.cells (u64V [fr, n, st, fi, sy]).toArray 119)).drew).heap[bl]? = some (.cells (u64V [fr, n, st, fi, sy]).toArray 119 (0, 0)) := by
    rw [← hbl]; exact heap_alloc_new w1 _
  rw [hbl]
  have hlb1 : lb < w1.heap.size := hC.lt
  refine hK _ _ ((w1.alloc (.cells (u64V [fr, n, st, fi, sy]).toArray 119)).drew) (fun u h => h) (fun _ => ⟨(hu2.cell (a := ⟨lb, 1, none⟩) hlb1 (fun h => h)).trans d1, (hu2.cell (a := ⟨lb, 2, none⟩) hlb1 (fun h => h)).trans d2, (hu2.cell (a := ⟨lb, 3, none⟩) hlb1 (fun h => h)).trans d3, (hu2.cell (a := ⟨lb, 7, none⟩) hlb1 (fun h => h)).trans d7, ⟨hC.upd hu2 (fun h => h), hM.upd hu2 (fun _ _ h => h)⟩⟩) ?_
  generalize (w1.alloc (.cells (u64V [fr, n, st, fi, sy]).toArray 119)).drew = w2 at *
  have HR0 : Hid (MarkR w bl [fr, n, st, fi, sy] 0 magicB (some ⟨w.heap.size, 0, none⟩) 12 w2) :=
    ⟨by simp [fldsOf], hm1.upd hu2 (fun _ _ h => h), hu1.trans hu2, fun j hj => ⟨hbk j hj, by cases hj; show w.heap.size ≠ bl; omega⟩, hnew⟩
  have HS2 : w2.cell? ⟨lb, 1, none⟩ = some (.int .i64 fr) ∧ w2.cell? ⟨lb, 2, none⟩ = some (.int .i64 n) ∧ w2.cell? ⟨lb, 3, none⟩ = some (.int .i64 st) ∧ w2.cell? ⟨lb, 7, none⟩ = some (.int .i64 sy) ∧
    Hid (Cells9 w2 lb (preL L db lv) ∧ Mid w2 2 lv L.list.length (listV L.list)) := ⟨(hu2.cell (a := ⟨lb, 1, none⟩) hlb1 (fun h => h)).trans d1, (hu2.cell (a := ⟨lb, 2, none⟩) hlb1 (fun h => h)).trans d2, (hu2.cell (a := ⟨lb, 3, none⟩) hlb1 (fun h => h)).trans d3, (hu2.cell (a := ⟨lb, 7, none⟩) hlb1 (fun h => h)).trans d7, ⟨hC.upd hu2 (fun h => h), hM.upd hu2 (fun _ _ h => h)⟩⟩
  clear hu2 hnew hC hM hm1 hu1 d1 d2 d3 d7 hbk hsz hK hbl hlb1 f1 f2 f3 f4 f5 kc
  try (simp only [Act.put, List.setIfInBounds_toArray, List.set_cons_zero, List.set_cons_succ])
  apply planD_held (S := fun w' => w'.cell? ⟨lb, 1, none⟩ = some (.int .i64 fr) ∧ w'.cell? ⟨lb, 2, none⟩ = some (.int .i64 n) ∧ w'.cell? ⟨lb, 3, none⟩ = some (.int .i64 st) ∧ w'.cell? ⟨lb, 7, none⟩ = some (.int .i64 sy) ∧
    Hid (Cells9 w' lb (preL L db lv) ∧ Mid w' 2 lv L.list.length (listV L.list))) rfl rfl rfl (by simp) HS2
  · intro w' hS K hK; go_simp; exact hK
  refine planD_nil ?_
  clear HS2
  go_wp2_with fail
  have hslot : (Value.slice (some ⟨w.heap.size, 0, none⟩) 12 12) = .slice (some ⟨w.heap.size, 0, none⟩) magicB.length 12 := rfl
  go_loopw [3, 34] (fun b i wr => ∃ (k : Nat) (bs : Bytes) (x : Option Addr) (c : Nat), k ≤ 5 ∧ i = .int .i64 k ∧ b = .slice x bs.length c ∧ Hid (MarkR w bl [fr, n, st, fi, sy] k bs x c wr)) (fun _ i _ => 5 - (intOf i).toNat)
  case atStart => exact ⟨0, magicB, some ⟨w.heap.size, 0, none⟩, 12, Nat.zero_le _, rfl, rfl, HR0⟩
  case round =>
    clear HR0 hslot
    obtain ⟨k, bs, x, c, hk, rfl, rfl, HR⟩ := hrel
    by_cases hlt : k < 5
    · have hlt2 : (k : Int) < 5 := by omega
      obtain ⟨y, hy, hy64⟩ : ∃ y : Nat, ([fr, n, st, fi, sy] : List Nat)[k]? = some y ∧ y < 18446744073709551616 := by
        have := Hb.out
        match k, hlt with
        | 0, _ => exact ⟨_, rfl, by omega⟩
        | 1, _ => exact ⟨_, rfl, by omega⟩
        | 2, _ => exact ⟨_, rfl, by omega⟩
        | 3, _ => exact ⟨_, rfl, by omega⟩
        | 4, _ => exact ⟨_, rfl, by omega⟩
      have hcell : wr.cell? ⟨bl, k, none⟩ = some (.int .u64 y) := by
        rw [cell_of_row _ _ _ _ _ _ HR.out.2.2.2.2]
        simp only [List.getElem?_toArray, u64V, List.getElem?_map, hy]
        rfl
      have Hy := Lib.hid (And.intro hy hy64)
      clear hy hy64
      have hlen : bs.length ≤ 100000000000000 := by rw [HR.out.1, fldsOf_length]; simp; omega
      have Hlen := Lib.hid hlen
      clear hlen
      go_wp2_with fail
      refine (put_ok (.slice x bs.length c) bs y 8 _ HR.out.2.1 Hy.out.2 (by decide) Hlen.out).mono ?_
      rintro e w3 ⟨x', c', rfl, hmid, hu, hbk⟩
      dsimp only
      have HR2 : Hid (MarkR w bl [fr, n, st, fi, sy] (k + 1) (bs ++ leB 8 y) x' c' w3) := by
        have h0 := HR.out
        have hlen : (bs ++ leB 8 y).length = bs.length + 8 := by rw [List.length_append, leB_length]
        refine ⟨?_, by rw [hlen]; exact hmid, h0.2.2.1.then hu (fun j hj => .inr (h0.2.2.2.1 j hj).1), fun j hj => ?_, hu.heap h0.2.2.2.2 (fun hj => (h0.2.2.2.1 _ hj).2 rfl)⟩
        · rw [h0.1, List.take_add_one, Hy.out.1]
          exact (fldsOf_snoc _ _).symm
        · rw [hlen] at hj
          rcases hbk j hj with h | h
          · exact h0.2.2.2.1 j h
          · have h3 := lt_of_block h0.2.2.2.2
            have h4 := h0.2.2.1.size
            omega
      have hlen : bs.length + 8 = (bs ++ leB 8 y).length := by rw [List.length_append, leB_length]
      rw [hlen]
      clear hmid hu hbk hcell HR hlen
      go_wp2_with fail
      exact ⟨⟨k + 1, bs ++ leB 8 y, x', c', by omega, by go_num, rfl, HR2⟩, by simp [intOf]; omega⟩
    · obtain rfl : k = 5 := by omega
      clear hlt
      go_wp2_with fail
      have h0 := HR.out
      have hlbw : lb < w.heap.size := H.out.1.lt
      have hfb : bs = fieldsB fr n st fi sy := by rw [h0.1]; exact fldsOf_five _ _ _ _ _
      have hbl52 : bs.length = 52 := by rw [hfb, fieldsB_length]
      have hC := H.out.1.upd h0.2.2.1 (fun h => h)
      refine (sum9 hC (.slice x bs.length c) bs h0.2.1.sees (fun j hj _ => by have := (h0.2.2.2.1 j hj).1; omega)).mono ?_
      rintro e w4 ⟨rfl, hu4, hC4⟩
      dsimp only
      have hm4 := h0.2.1.upd hu4 (fun j hj => by have := (h0.2.2.2.1 j hj).1; omega)
      have hU4 : Upd (fun k => k = lb) w w4 := (h0.2.2.1.mono (fun _ _ h => h.elim)).trans hu4
      obtain ⟨sm, hsm⟩ : ∃ sm, updB 0 bs = sm := ⟨_, rfl⟩
      rw [hsm]
      have f6 : IntKind.u64.wrap (sm.toNat : Int) = (sm.toNat : Int) := by have := sm.isLt; show (sm.toNat : Int) % 18446744073709551616 = _; omega
      have hown : ∀ j, (Value.slice x bs.length c).ownBlock = some j → w.heap.size ≤ j := fun j hj => (h0.2.2.2.1 j hj).1
      have H4 := Lib.hid (And.intro hm4 (And.intro hU4 (And.intro hC4 (And.intro hown (And.intro hfb (And.intro hbl52 (And.intro hsm hlbw)))))))
      clear h0 hC hu4 hC4 hm4 hU4 hown hfb hbl52 hsm hlbw HR
      go_wp2_with fail
      refine (put_ok (.slice x bs.length c) bs sm.toNat 4 _ H4.out.1 (by have := sm.isLt; omega) (by decide) (by have := H4.out.2.2.2.2.2.1; omega)).mono ?_
      rintro e w5 ⟨x', c', rfl, hm5, hu5, hb5⟩
      dsimp only
      obtain ⟨_, hU4, hC4, hown, hfb, hbl52, hsm, hlbw⟩ := H4.out
      have hdata : bs ++ leB 4 sm.toNat = L.mk_ := by rw [Hmk.out, markB, ← hfb, hsm]
      have hlen : bs.length + 4 = L.mk_.length := by rw [← hdata, List.length_append, leB_length]
      rw [hdata, hlen] at hm5
      rw [hlen]
      rw [hlen] at hb5
      have hU5 : Upd (fun k => k = lb) w w5 := hU4.then hu5 (fun j hj => .inr (hown j hj))
      have hC5 := hC4.upd hu5 (fun hj => by have := hown _ hj; omega)
      have hD5 := H.out.2.2.2.upd hU5 (fun k hk e => hG (e ▸ hk))
      have hx5 : ∀ z, x' = some z → 0 < L.mk_.length → ¬ G z.block := fun z hz _ hg => by
        subst hz
        have h1 := hD5.lt _ hg
        have h2 := (H.out.2.2.2).lt _ hg
        rcases hb5 z.block rfl with h | h
        · have := hown _ h; omega
        · have := hU4.size; omega
      obtain ⟨⟨D1, r⟩, hDr⟩ : ∃ p, D.write (L.fr : Nat) L.mk_ = p := ⟨_, rfl⟩
      have hD1w : D1.waits.length < 100000000000 := by have := write_waits D (L.fr : Nat) L.mk_; rw [hDr] at this; dsimp only at this; omega
      have hmark : L.mark D = if r = 0 then ((L.fail D1.flush.2).1, D1.flush.1, (L.fail D1.flush.2).2) else ((L.fail r).1, D1, (L.fail r).2) := by
        simp only [LSt.mark, hDr]
      obtain ⟨d0, d1, d2, d3, d4, d5, d6, d7, d8⟩ := nine hC5
      rw [Hn.out.1] at d1 hDr
      clear d2 d3 d4 d5 d6 d7 d8
      have H5 := Lib.hid (And.intro hm5 (And.intro hU5 (And.intro hC5 (And.intro hD5 (And.intro hx5 (And.intro hDr (And.intro hD1w hmark)))))))
      clear hm5 hU5 hC5 hD5 hx5 hDr hD1w hmark hdata hlen hb5 hu5 H4 hU4 hC4 hown hfb hbl52 hsm hlbw f6
      go_wp2_with fail
      have HS : w5.drew.cell? ⟨lb, 0, none⟩ = some (.pointer (some ⟨db, 0, none⟩)) ∧ w5.drew.cell? ⟨lb, 1, none⟩ = some (.int .i64 fr) := ⟨d0, d1⟩
      refine wp_region_planD (fun w' => w'.cell? ⟨lb, 0, none⟩ = some (.pointer (some ⟨db, 0, none⟩)) ∧ w'.cell? ⟨lb, 1, none⟩ = some (.int .i64 fr)) 11 [(0, true), (1, true), (2, true), (3, true), (4, true), (5, true), (6, true), (7, true), (8, true), (9, false), (10, true)] (by kernel_rfl) (by kernel_rfl) (fun d _ _ _ _ h => by cases d <;> exact h) HS ?_
      iterate 9 (apply planD_held rfl rfl rfl (by simp) HS; (intro w' hS K hK; go_simp; exact hK))
      refine planD_op rfl rfl (fun K hK => ?_)
      go_simp
      have hdr : Upd (fun _ => False) w5 w5.drew := (Upd.refl _ w5).drew
      refine (write_disk (H5.out.2.2.2.1.upd hdr (fun _ _ h => h)) (fr : Nat) x' c' L.mk_ (H5.out.1.upd hdr (fun _ _ h => h)).sees H5.out.2.2.2.2.1 (by omega) H5.out.2.2.2.2.2.1).mono ?_
      rintro e w6 ⟨rfl, G', hD6, hu6, hG6⟩
      dsimp only
      have hu6' : Upd G w5 w6 := (Upd.mono hdr (fun _ _ h => h.elim)).trans hu6
      have hC6 := H5.out.2.2.1.upd hu6' hG
      have hlb6 : ¬ G' lb := fun h => by
        rcases hG6 _ h with h | h
        · exact hG h
        · have h1 := H5.out.2.2.1.lt
          have h2 := hdr.size
          omega
      have hU6 : Upd (fun k => k = lb ∨ G k) w w6 := (H5.out.2.1.mono (fun _ _ h => .inl h)).trans (hu6'.mono (fun _ _ h => .inr h))
      have hG6' : ∀ k, G' k → G k ∨ w.heap.size ≤ k := fun k hk => by
        rcases hG6 k hk with h | h
        · exact .inl h
        · have h1 := H5.out.2.1.size
          have h2 := hdr.size
          exact .inr (by omega)
      have H6 := Lib.hid (And.intro hD6 (And.intro hC6 (And.intro hlb6 (And.intro hU6 hG6'))))
      obtain ⟨e0, e1, e2, e3, e4, e5, e6, e7, e8⟩ := nine hC6
      rw [Hn.out.1] at e1
      have HS6 : w6.cell? ⟨lb, 0, none⟩ = some (.pointer (some ⟨db, 0, none⟩)) ∧ w6.cell? ⟨lb, 1, none⟩ = some (.int .i64 fr) := ⟨e0, e1⟩
      clear d0 d1 HS hdr hD6 hu6 hG6 hu6' hC6 hlb6 hU6 hG6' e1 e2 e3 e4 e5 e6 e7 e8
      refine hK _ _ _ (fun u h => h) (fun _ => HS6) ?_
      clear hK
      try (simp only [Act.put, List.setIfInBounds_toArray, List.set_cons_zero, List.set_cons_succ])
      (apply planD_held rfl rfl rfl (by simp) HS6; (intro w' hS K hK; go_simp; exact hK))
      refine planD_nil ?_
      clear HS6
      by_cases hr0 : r = 0
      · have hmk0 := H5.out.2.2.2.2.2.2.2
        rw [if_pos hr0] at hmk0
        have Hmk0 := Lib.hid hmk0
        clear hmk0
        subst hr0
        go_wp2_with fail
        obtain ⟨⟨D2, r2⟩, hfl⟩ : ∃ p, D1.flush = p := ⟨_, rfl⟩
        refine (flush_disk H6.out.1 H5.out.2.2.2.2.2.2.1 hfl).mono ?_
        rintro e w7 ⟨rfl, hD7, hu7⟩
        dsimp only
        have hC7 := H6.out.2.1.upd hu7 H6.out.2.2.1
        have H7 := Lib.hid (And.intro hC7 (And.intro hD7 (And.intro hu7 hfl)))
        clear hC7 hD7 hu7 hfl e0
        go_wp2_with fail
        refine (fail_log lb db L lv r2 _ H7.out.1).mono ?_
        rintro e w8 ⟨rfl, hu8, hC8⟩
        dsimp only
        have H8 := Lib.hid (And.intro hu8 hC8)
        clear hu8 hC8
        go_wp2_with fail
        go_ret
        have hmk := Hmk0.out
        rw [H7.out.2.2.2] at hmk
        rw [hmk]
        dsimp only
        have h8 := H8.out.2
        refine ⟨by rw [fail_snd]; rfl, G', h8, H7.out.2.1.upd H8.out.1 (fun k hk e => H6.out.2.2.1 (e ▸ hk)), ?_, H6.out.2.2.2.2⟩
        refine (H6.out.2.2.2.1.then H7.out.2.2.1 (fun k hk => ?_)).trans (H8.out.1.mono (fun _ _ h => .inl h))
        rcases H6.out.2.2.2.2 k hk with h | h
        · exact .inl (.inr h)
        · exact .inr h
      · have hne : (r != 0) = true := by simp [hr0]
        have Hr0 := Lib.hid hr0
        clear hr0
        go_wp2_with fail
        refine (fail_log lb db L lv r _ H6.out.2.1).mono ?_
        rintro e w8 ⟨rfl, hu8, hC8⟩
        dsimp only
        have H8 := Lib.hid (And.intro hu8 hC8)
        clear hu8 hC8
        go_wp2_with fail
        go_ret
        have hmk := H5.out.2.2.2.2.2.2.2
        rw [if_neg Hr0.out] at hmk
        rw [hmk]
        dsimp only
        have h8 := H8.out.2
        exact ⟨by rw [fail_snd]; rfl, G', h8, H6.out.1.upd H8.out.1 (fun k hk e => H6.out.2.2.1 (e ▸ hk)), H6.out.2.2.2.1.trans (H8.out.1.mono (fun _ _ h => .inl h)), H6.out.2.2.2.2⟩
end Go.Proofs.Ytndhcimepgcfaaa
/- wal: Make, Sync. -/
namespace Go.Proofs.Ytndhcimepgcfaaa
open Go.RowKit
set_option linter.unusedSimpArgs false
set_option linter.unusedVariables false
set_option maxRecDepth 100000

/-- A log and its disk; F: all blocks that are theirs. -/
def WalAt (w : World) (lb db : Nat) (L : LSt) (D : DSt) (F : Nat → Prop) : Prop :=
  ∃ lv G, L.Ok ∧ Cells9 w lb (preL L db lv) ∧ Mid w 2 lv L.list.length (listV L.list) ∧ DiskAt w db D G ∧ ¬ G lb ∧ (∀ k, lv.ownBlock = some k → ¬ G k ∧ k ≠ lb) ∧ (∀ k, F k ↔ k = lb ∨ lv.ownBlock = some k ∨ G k)
theorem WalAt.ok {w : World} {lb db : Nat} {L : LSt} {D : DSt} {F : Nat → Prop} (h : WalAt w lb db L D F) : L.Ok := by
  obtain ⟨lv, G, h0, _⟩ := h
  exact h0
theorem WalAt.lt {w : World} {lb db : Nat} {L : LSt} {D : DSt} {F : Nat → Prop} (h : WalAt w lb db L D F) : ∀ k, F k → k < w.heap.size := by
  obtain ⟨lv, G, h0, h1, h2, h3, h4, h5, h6⟩ := h
  intro k hk
  rcases (h6 k).1 hk with rfl | hk | hk
  · exact h1.lt
  · exact h2.lt k hk
  · exact h3.lt k hk
theorem WalAt.upd {w w' : World} {lb db : Nat} {L : LSt} {D : DSt} {F H : Nat → Prop} (h : WalAt w lb db L D F) (hu : Upd H w w') (hf : ∀ k, F k → ¬ H k) : WalAt w' lb db L D F := by
  obtain ⟨lv, G, h0, h1, h2, h3, h4, h5, h6⟩ := h
  exact ⟨lv, G, h0, h1.upd hu (hf lb ((h6 lb).2 (.inl rfl))), h2.upd hu (fun k hk => hf k ((h6 k).2 (.inr (.inl hk)))), h3.upd hu (fun k hk => hf k ((h6 k).2 (.inr (.inr hk)))), h4, h5, h6⟩
/-- What a call leaves. -/
def WalPost (w : World) (lb db : Nat) (L : LSt) (D : DSt) (F : Nat → Prop) (w' : World) : Prop := ∃ F', WalAt w' lb db L D F' ∧ Upd F w w' ∧ (∀ k, F' k → F k ∨ w.heap.size ≤ k)
theorem walPost_of_raw {w w' : World} {lb db : Nat} {L : LSt} {lv : Value} {D : DSt} {F G : Nat → Prop} (hOk : L.Ok) (hm : Mid w' 2 lv L.list.length (listV L.list)) (h4 : ¬ G lb) (hlt : lb < w.heap.size) (hlvlt : ∀ k, lv.ownBlock = some k → k < w.heap.size)
    (h5 : ∀ k, lv.ownBlock = some k → ¬ G k ∧ k ≠ lb) (h6 : ∀ k, F k ↔ k = lb ∨ lv.ownBlock = some k ∨ G k) (h : RawPost w lb db L lv D G w') : WalPost w lb db L D F w' := by
  obtain ⟨G', r1, r2, r3, r4⟩ := h
  refine ⟨fun k => k = lb ∨ lv.ownBlock = some k ∨ G' k, ⟨lv, G', hOk, r1, hm, r2, ?_, ?_, fun k => Iff.rfl⟩, r3.mono (fun k _ hk => ?_), fun k hk => ?_⟩
  · intro hg
    rcases r4 _ hg with h | h
    · exact h4 h
    · omega
  · intro k hk
    refine ⟨fun hg => ?_, (h5 k hk).2⟩
    rcases r4 _ hg with h | h
    · exact (h5 k hk).1 h
    · have := hlvlt k hk; omega
  · rcases hk with rfl | hk
    · exact (h6 _).2 (.inl rfl)
    · exact (h6 _).2 (.inr (.inr hk))
  · rcases hk with rfl | hk | hk
    · exact .inl ((h6 _).2 (.inl rfl))
    · exact .inl ((h6 _).2 (.inr (.inl hk)))
    · rcases r4 _ hk with h | h
      · exact .inl ((h6 _).2 (.inr (.inr h)))
      · exact .inr h

theorem mark_fst (L : LSt) (D : DSt) : ∃ d, (L.mark D).1 = { L with dead := d } := by
  have hf : ∀ e, ∃ d, (L.fail e).1 = { L with dead := d } := by
    intro e
    unfold LSt.fail
    split
    · exact ⟨_, rfl⟩
    · exact ⟨_, rfl⟩
  unfold LSt.mark
  dsimp only
  split
  · exact hf _
  · exact hf _
end Go.Proofs.Ytndhcimepgcfaaa
/- wal: Make. -/
namespace Go.Proofs.Ytndhcimepgcfaaa
open Go.RowKit
set_option linter.unusedSimpArgs false
set_option linter.unusedVariables false
set_option maxRecDepth 100000

theorem make_err (dv : Value) (fr n e : Int) (w : World) (he : (e != 0) = true) (hc : Calls Try.prog 45 #[dv, .int .i64 fr, .int .i64 n] w fun r w' => r = .returned (.int .i64 e) ∧ w = w') :
    Calls Try.prog 40 #[dv, .int .i64 fr, .int .i64 n] w fun r w' => r = .returned (.tuple #[.pointer none, .int .i64 e]) ∧ w = w' := by
  have Hc := Lib.hid hc
  clear hc
  go_enter Try.func40, Try.ntmps40
  go_wp2_with fail
  refine Hc.out.mono ?_
  rintro e w1 ⟨rfl, rfl⟩
  dsimp only
  go_wp2_with fail
  go_ret2
  exact ⟨rfl, rfl⟩
theorem zeroLog : Try.zeroCells117 = (([.pointer none, .int .i64 0, .int .i64 0, .int .i64 0, .int .i64 0, .slice none 0 0, .int .i64 0, .int .i64 0, .bool false] : List Value) ++ tabV 0 0 (List.replicate 256 0#32) 0 ++ []).toArray := by kernel_rfl
theorem newLog (db : Nat) (fr n : Nat) : ((Try.zeroCells117.setIfInBounds 0 (.pointer (some ⟨db, 0, none⟩))).setIfInBounds 1 (.int .i64 fr)).setIfInBounds 2 (.int .i64 n) = (preL (LSt.made fr n) db (.slice none 0 0) ++ tabV 0 0 (List.replicate 256 0#32) 0 ++ []).toArray := by
  rw [zeroLog]
  rfl
theorem log_new (w : World) (db fr n : Nat) : Cells9 (w.alloc (.cells (((Try.zeroCells117.setIfInBounds 0 (.pointer (some ⟨db, 0, none⟩))).setIfInBounds 1 (.int .i64 fr)).setIfInBounds 2 (.int .i64 n)) 117)) w.heap.size (preL (LSt.made fr n) db (.slice none 0 0)) :=
  ⟨0, .inl ⟨List.replicate 256 0#32, rfl, by simp, by rw [heap_alloc_new, newLog]⟩⟩
theorem fail_zero (L : LSt) (e : Int) (h : (L.fail e).2 = 0) : (L.fail e).1 = L := by
  unfold LSt.fail at h ⊢
  split
  · rfl
  · rename_i he
    rw [if_neg he] at h
    cases h
theorem mark_zero (L : LSt) (D : DSt) (h : (L.mark D).2.2 = 0) : (L.mark D).1 = L := by
  unfold LSt.mark at h ⊢
  dsimp only at h ⊢
  split
  · rename_i he
    rw [if_pos he] at h
    exact fail_zero _ _ h
  · rename_i he
    rw [if_neg he] at h
    exact fail_zero _ _ h
/-- What Make does. -/
def makeD (D : DSt) (fr n : Nat) : DSt × Int := if D.flush.2 = 0 then (((LSt.made fr n).mark D.flush.1).2.1, ((LSt.made fr n).mark D.flush.1).2.2) else (D.flush.1, D.flush.2)
def MakePost (w : World) (db fr n : Nat) (D D' : DSt) (F : Nat → Prop) (r : Int) (p : Option Addr) (w' : World) : Prop :=
  (r = 0 ∧ ∃ lb F', p = some ⟨lb, 0, none⟩ ∧ WalAt w' lb db (LSt.made fr n) D' F' ∧ Upd F w w' ∧ (∀ k, F' k → F k ∨ w.heap.size ≤ k)) ∨
  (r ≠ 0 ∧ p = none ∧ ∃ F', DiskAt w' db D' F' ∧ Upd F w w' ∧ (∀ k, F' k → F k ∨ w.heap.size ≤ k))

set_option maxHeartbeats 1000000 in
theorem make_ok {w : World} {db : Nat} {D : DSt} {F : Nat → Prop} (hD : DiskAt w db D F) (fr n : Nat) (h2 : 2 ≤ n) (hf : fr + n ≤ D.secs.length) (hwt : D.waits.length < 99999999990) :
    Calls Try.prog 40 #[.pointer (some ⟨db, 0, none⟩), .int .i64 fr, .int .i64 n] w fun e w' => ∃ p, e = .returned (.tuple #[.pointer p, .int .i64 (makeD D fr n).2]) ∧ MakePost w db fr n D (makeD D fr n).1 F (makeD D fr n).2 p w' := by
  have hreg := region_good hD fr n (by omega) (by omega) (by omega)
  have H := Lib.hid (And.intro hD (And.intro h2 (And.intro hf hwt)))
  have hmost := hD.1.most
  have Hreg := Lib.hid hreg
  have Hmost := Lib.hid hmost
  clear hD h2 hf hwt hreg hmost
  go_enter Try.func40, Try.ntmps40
  go_wp2_with fail
  refine Hreg.out.mono ?_
  rintro e w1 ⟨rfl, rfl⟩
  dsimp only
  go_wp2_with fail
  have hC0 := log_new w db fr n
  have hu0 : Upd (fun _ => False) w (w.alloc (.cells (((Try.zeroCells117.setIfInBounds 0 (.pointer (some ⟨db, 0, none⟩))).setIfInBounds 1 (.int .i64 fr)).setIfInBounds 2 (.int .i64 n)) 117)) := (Upd.refl _ w).alloc _
  obtain ⟨lb, hlb⟩ : ∃ lb, w.heap.size = lb := ⟨_, rfl⟩
  rw [hlb] at hC0 ⊢
  generalize w.alloc (.cells (((Try.zeroCells117.setIfInBounds 0 (.pointer (some ⟨db, 0, none⟩))).setIfInBounds 1 (.int .i64 fr)).setIfInBounds 2 (.int .i64 n)) 117) = w2 at *
  obtain ⟨⟨D1, r⟩, hfl⟩ : ∃ p, D.flush = p := ⟨_, rfl⟩
  have hmk : makeD D fr n = if r = 0 then (((LSt.made fr n).mark D1).2.1, ((LSt.made fr n).mark D1).2.2) else (D1, r) := by simp only [makeD, hfl]
  have hD2 := H.out.1.upd hu0 (fun _ _ h => h)
  have hF : ¬ F lb := fun h => by have := H.out.1.lt lb h; omega
  have H2 := Lib.hid (And.intro hC0 (And.intro hu0 (And.intro hlb (And.intro hfl (And.intro hmk hF)))))
  refine (flush_disk hD2 (by have := H.out.2.2.2; omega) hfl).mono ?_
  clear hC0 hu0 hlb hfl hmk hD2 hF
  rintro e w3 ⟨rfl, hD3, hu3⟩
  dsimp only
  have H3 := Lib.hid (And.intro hD3 hu3)
  clear hD3 hu3
  by_cases hr : r = 0
  · have hmk := H2.out.2.2.2.2.1
    rw [if_pos hr] at hmk
    have Hmk := Lib.hid hmk
    clear hmk
    have hwt1 : D1.waits.length < 99999999990 := by
      have h1 := H2.out.2.2.2.1
      have h2 := H.out.2.2.2
      unfold DSt.flush at h1
      split at h1
      · cases h1; omega
      · split at h1
        · cases h1; omega
        · cases h1; exact (by decide : (0 : Nat) < 99999999990)
    have Hw := Lib.hid hwt1
    clear hwt1
    subst hr
    go_wp2_with fail
    have hok : (LSt.made fr n).Ok := by
      have h2 := H.out.2.1
      have h3 := H.out.2.2.1
      have h4 := Hmost.out
      exact ⟨h2, by show fr + n ≤ 4096; omega, by show 0 < n - 1; omega, Nat.zero_le _, rfl, (fun p hp => by cases hp), (fun p hp => by cases hp), by show 0 < 1000000000000000000; decide, Nat.le_refl _⟩
    have hC3 := H2.out.1.upd H3.out.2 H2.out.2.2.2.2.2
    refine (mark_raw hC3 (Mid.nil _ _) hok H3.out.1 H2.out.2.2.2.2.2 (fun k hk => by cases hk) Hw.out).mono ?_
    rintro e w4 ⟨rfl, hraw⟩
    dsimp only
    have hok4 := hok.mark D1
    obtain ⟨d, hfst⟩ := mark_fst (LSt.made fr n) D1
    have hz := mark_zero (LSt.made fr n) D1
    obtain ⟨⟨L2, D2, r2⟩, hm⟩ : ∃ p, (LSt.made fr n).mark D1 = p := ⟨_, rfl⟩
    have hmk := Hmk.out
    rw [hm] at hraw hfst hz hok4 hmk ⊢
    dsimp only at hraw hfst hz hok4 hmk ⊢
    have Hmk := Lib.hid hmk
    have hFin : Hid (∃ F', WalAt w4 lb db L2 D2 F' ∧ (∃ G', DiskAt w4 db D2 G' ∧ (∀ k, G' k → F k ∨ w.heap.size ≤ k)) ∧ Upd F w w4 ∧ (∀ k, F' k → F k ∨ w.heap.size ≤ k)) := by
      obtain ⟨G', r1, r2, r3, r4⟩ := hraw
      have hs2 := H2.out.2.1.size
      have hs3 := H3.out.2.size
      have hlb := H2.out.2.2.1
      have hg : ∀ k, G' k → F k ∨ w.heap.size ≤ k := fun k hk => by
        rcases r4 k hk with h | h
        · exact .inl h
        · exact .inr (by omega)
      have hfl2 : ¬ G' lb := fun h => by
        rcases r4 lb h with h | h
        · exact H2.out.2.2.2.2.2 h
        · have := H2.out.1.lt; omega
      have hls : L2.list = [] := by rw [hfst]; rfl
      refine ⟨fun k => k = lb ∨ (Value.slice none 0 0).ownBlock = some k ∨ G' k, ⟨.slice none 0 0, G', hok4, r1, by rw [hls]; exact Mid.nil _ _, r2, hfl2, (fun k hk => by cases hk), fun k => Iff.rfl⟩, ⟨G', r2, hg⟩, ?_, fun k hk => ?_⟩
      · refine ((H2.out.2.1.mono (fun _ _ h => h.elim)).trans H3.out.2).then r3 (fun k hk => ?_)
        rcases hk with rfl | hk
        · exact .inr (by omega)
        · exact .inl hk
      · rcases hk with rfl | hk | hk
        · exact .inr (by omega)
        · cases hk
        · exact hg k hk
    have Hz := Lib.hid hz
    clear hraw hfst hz hok4 hm hC3 hok hmk
    by_cases hr2 : r2 = 0
    · have Hl := Lib.hid (Hz.out hr2)
      subst hr2
      go_wp2_with fail
      go_ret2
      rw [Hmk.out]
      obtain ⟨F', g1, _, g2, g3⟩ := hFin.out
      rw [Hl.out] at g1
      exact ⟨_, rfl, .inl ⟨rfl, lb, F', rfl, g1, g2, g3⟩⟩
    · have hne : (r2 != 0) = true := by simp [hr2]
      have Hr2 := Lib.hid hr2
      clear hr2
      go_wp2_with fail
      go_ret2
      rw [Hmk.out]
      obtain ⟨F', g1, ⟨G', g4, g5⟩, g2, g3⟩ := hFin.out
      exact ⟨none, rfl, .inr ⟨Hr2.out, rfl, G', g4, g2, g5⟩⟩
  · have hmk := H2.out.2.2.2.2.1
    rw [if_neg hr] at hmk
    have Hmk := Lib.hid hmk
    have hne : (r != 0) = true := by simp [hr]
    have Hr := Lib.hid hr
    clear hmk hr
    go_wp2_with fail
    go_ret2
    rw [Hmk.out]
    exact ⟨none, rfl, .inr ⟨Hr.out, rfl, F, H3.out.1, (H2.out.2.1.mono (fun _ _ h => h.elim)).trans H3.out.2, fun k hk => .inl hk⟩⟩
end Go.Proofs.Ytndhcimepgcfaaa
/- wal: Trim. -/
namespace Go.Proofs.Ytndhcimepgcfaaa
open Go.RowKit
set_option linter.unusedSimpArgs false
set_option linter.unusedVariables false
set_option maxRecDepth 100000

theorem upd_set {a w : World} {lb : Nat} (i : Nat) (v : Value) (h : Upd (fun k => k = lb) a w) : Upd (fun k => k = lb) a (w.setCell ⟨lb, i, none⟩ v) := h.setCell v (.inl rfl)
/-- In the middle of the loop. -/
def TrimR (w : World) (lb db : Nat) (L : LSt) (lv : Value) (upto : Int) (k : Nat) (wr : World) : Prop :=
  ∃ (M : LSt) (mv : Value), M.Ok ∧ M.cut upto = L.cut upto ∧ M.list.length = k ∧ Cells9 wr lb (preL M db mv) ∧ Mid wr 2 mv M.list.length (listV M.list) ∧ Upd (fun k => k = lb) w wr ∧ (mv.ownBlock = lv.ownBlock)
theorem cut_step {M : LSt} {p : Nat × Nat} {r : List (Nat × Nat)} {upto : Int} (h : M.Ok) (hl : M.list = p :: r) (hp : (p.1 : Int) ≤ upto) :
    ({ M with start := (M.start + p.2) % (M.n - 1), used := M.used - p.2, list := r } : LSt).Ok ∧ ({ M with start := (M.start + p.2) % (M.n - 1), used := M.used - p.2, list := r } : LSt).cut upto = M.cut upto ∧ p.2 ≤ M.used := by
  have hs := h.sum
  rw [hl] at hs
  simp only [List.map_cons, List.foldr_cons] at hs
  have h2 := h.two
  have hu := h.used
  refine ⟨⟨h.two, h.fit, ?_, ?_, ?_, ?_, ?_, h.last, h.synced⟩, ?_, by omega⟩
  · exact Nat.mod_lt _ (by omega)
  · show M.used - p.2 ≤ M.n - 1; omega
  · show (r.map (·.2)).foldr (· + ·) 0 = M.used - p.2; omega
  · exact fun q hq => h.needs q (by rw [hl]; exact List.mem_cons_of_mem _ hq)
  · exact fun q hq => h.nums q (by rw [hl]; exact List.mem_cons_of_mem _ hq)
  · rw [LSt.cut, LSt.cut, hl, trimTo, if_pos hp]
theorem cut_stop {M : LSt} {upto : Int} (h : ∀ p r, M.list = p :: r → upto < (p.1 : Int)) : M.cut upto = M := by
  rw [LSt.cut]
  cases hl : M.list with
  | nil => rw [trimTo, ← hl]
  | cons p r =>
    rw [trimTo, if_neg (by have := h p r hl; omega), ← hl]
theorem slice_from1 {P : Program} (t e : TypeId) (size : Nat) (hu : P.underlying t = some (.slice e)) (hs : (P.info? e).map (·.size) = some size) (g off m cap : Nat) (w : World) :
    (Instr.slice t (.slice (some ⟨g, off, none⟩) (m + 1) (cap + 1)) (some (.int .i64 1)) none none).run P w = .ok (.slice (some ⟨g, if cap = 0 then off else off + size, none⟩) m cap) w := by
  cases hq : P.info? e with
  | none => simp [hq] at hs
  | some i =>
    have hi : i.size = size := by simpa [hq] using hs
    have hb : (Instr.sliceBound (.int .i64 1) (m + 1) BoundsCode.sliceB).run P w = .ok 1 w := by
      rw [run_sliceBound w .i64 1 (m + 1) BoundsCode.sliceB (by decide) (by omega)]
      rfl
    simp [Instr.slice, run_underlying hu, Instr.sliceBounds, hb, sizeOf, typeInfo, hq, hi]
    by_cases hc : cap = 0
    · simp [hc]
    · rw [if_neg (by omega)]
      simp [Addr.add_mid, hc]
/-- All but the first. -/
theorem Mid.tail {w : World} {x : Option Addr} {c m : Nat} {p : Nat × Nat} {r : List (Nat × Nat)} (h : Mid w 2 (.slice x (m + 1) c) (m + 1) (listV (p :: r))) :
    ∃ g off cap, x = some ⟨g, off, none⟩ ∧ c = cap + 1 ∧ m ≤ cap ∧ cap + 1 ≤ maxLen ∧ w.cell? ⟨g, off, none⟩ = some (.int .i64 (p.1 : Nat)) ∧ w.cell? ⟨g, off + 1, none⟩ = some (.int .i64 (p.2 : Nat)) ∧
      Mid w 2 (.slice (some ⟨g, if cap = 0 then off else off + 2, none⟩) m cap) m (listV r) := by
  obtain ⟨hl, ⟨h0, h1⟩ | ⟨g, off, cap, he, h1, h2, h3, h4, h5⟩⟩ := h
  · cases h1
  · cases he
    obtain ⟨cap, rfl⟩ : ∃ c', c = c' + 1 := ⟨c - 1, by omega⟩
    have e : listV (p :: r) = entryV p ++ listV r := by simp [listV]
    rw [e] at h4 hl
    have hl2 : (listV r).length = m * 2 := by rw [List.length_append, entryV_length] at hl; omega
    refine ⟨g, off, cap, rfl, rfl, by omega, h2, h4 0 _ rfl, h4 1 _ rfl, hl2, .inr ⟨g, _, cap, rfl, by omega, by omega, h3, ?_, ?_⟩⟩
    · by_cases hc : cap = 0
      · have hm0 : m = 0 := by omega
        subst hm0
        have hn : listV r = [] := List.eq_nil_of_length_eq_zero (by simpa using hl2)
        rw [hn]
        intro j v hj
        cases hj
      · rw [if_neg hc]
        intro j v hj
        have := h4 (j + 2) v (by rw [List.getElem?_append_right (by rw [entryV_length]; omega), entryV_length]; exact hj)
        rwa [show off + (j + 2) = off + 2 + j by omega] at this
    · by_cases hc : cap = 0
      · intro j hj
        have : (cap - m) * 2 = 0 := by rw [hc]; simp
        omega
      · rw [if_neg hc]
        intro j hj
        have := h5 j (by omega)
        rwa [show off + (m + 1) * 2 + j = off + 2 + m * 2 + j by omega] at this
end Go.Proofs.Ytndhcimepgcfaaa
/- wal: Trim, the walk. -/
namespace Go.Proofs.Ytndhcimepgcfaaa
open Go.RowKit
set_option linter.unusedSimpArgs false
set_option linter.unusedVariables false
set_option maxRecDepth 100000

set_option maxHeartbeats 2000000 in
/-- One round of Trim's loop. -/
theorem trim_round {wr : World} {lb db : Nat} {M : LSt} {p : Nat × Nat} {r : List (Nat × Nat)} {mv : Value} {upto : Int} (hOk : M.Ok) (hl : M.list = p :: r) (hp : (p.1 : Int) ≤ upto) (hC : Cells9 wr lb (preL M db mv)) (hM : Mid wr 2 mv M.list.length (listV M.list)) (hmv : mv.ownBlock ≠ some lb) : True := by
  trivial

end Go.Proofs.Ytndhcimepgcfaaa
/- wal: check. -/
namespace Go.Proofs.Ytndhcimepgcfaaa
open Go.RowKit
set_option linter.unusedSimpArgs false
set_option linter.unusedVariables false
set_option maxRecDepth 100000

theorem bytesOf_le (b : Batch) (h : ¬ ∃ r ∈ b, 600 < r.size) : bytesOf b ≤ 16 + b.length * 604 := by
  induction b with
  | nil => simp [bytesOf]
  | cons r t ih =>
    have h1 := ih (fun ⟨x, hx, hl⟩ => h ⟨x, List.mem_cons_of_mem _ hx, hl⟩)
    have h2 : ¬ 600 < r.size := fun hl => h ⟨r, List.mem_cons_self .., hl⟩
    rw [bytesOf_eq] at h1 ⊢
    have e : bodyB (r :: t) = (leB 4 r.size ++ r.data.toList) ++ bodyB t := by simp [bodyB]
    have : r.data.toList.length = r.size := by rw [Array.length_toList]; rfl
    rw [e, List.length_append, List.length_append, leB_length, List.length_cons]
    omega
/-- What check leaves: the world, or one draw. -/
def Drawn (w w' : World) : Prop := w' = w ∨ w' = w.drew
theorem Drawn.upd {w w' : World} (h : Drawn w w') : Upd (fun _ => False) w w' := by
  rcases h with rfl | rfl
  · exact Upd.refl _ _
  · exact (Upd.refl _ w).drew
theorem Drawn.size {w w' : World} (h : Drawn w w') : w'.heap.size = w.heap.size := by
  rcases h with rfl | rfl <;> rfl
end Go.Proofs.Ytndhcimepgcfaaa
/- wal: Append. -/
namespace Go.Proofs.Ytndhcimepgcfaaa
open Go.RowKit
set_option linter.unusedSimpArgs false
set_option linter.unusedVariables false
set_option maxRecDepth 100000

/-- The body so far. -/
def BodyR (w : World) (b : Batch) (k : Nat) (bs : Bytes) (x : Option Addr) (c : Nat) (wr : World) : Prop :=
  bs = bodyB (b.take k) ∧ Mid wr 1 (.slice x bs.length c) bs.length (bvs bs) ∧ Upd (fun _ => False) w wr ∧ (∀ j, (Value.slice x bs.length c).ownBlock = some j → w.heap.size ≤ j)
theorem bodyB_snoc (b : Batch) (r : ByteArray) : bodyB (b ++ [r]) = bodyB b ++ (leB 4 r.size ++ r.data.toList) := by simp [bodyB]
theorem bodyB_take_le (b : Batch) (k : Nat) : (bodyB (b.take k)).length ≤ (bodyB b).length := by
  have h : bodyB b = bodyB (b.take k) ++ bodyB (b.drop k) := by rw [bodyB, bodyB, bodyB, ← List.flatMap_append, List.take_append_drop]
  rw [h, List.length_append]; omega
theorem put_nil (N size : Nat) (w : World) (hN : N < 18446744073709551616) (hs : size ≤ 8) :
    Calls Try.prog 49 #[.slice none 0 0, .int .u64 N, .int .i64 size] w fun e w' => ∃ x' c', e = .returned (.slice x' size c') ∧ Mid w' 1 (.slice x' size c') size (bvs (leB size N)) ∧ Upd (fun _ => False) w w' ∧ (∀ k, (Value.slice x' size c').ownBlock = some k → w.heap.size ≤ k) := by
  refine (put_ok (.slice none 0 0) [] N size w (Mid.nil _ _) hN hs (by decide)).mono ?_
  rintro e w' ⟨x', c', rfl, h1, h2, h3⟩
  have e0 : ([] : Bytes).length + size = size := by simp
  rw [e0] at h1 h3 ⊢
  rw [List.nil_append] at h1
  exact ⟨x', c', rfl, h1, h2.mono (fun k _ hk => by cases hk), fun k hk => (h3 k hk).elim (fun h => by cases h) id⟩
theorem WalPost.drawn {w w1 w2 : World} {lb db : Nat} {L : LSt} {D : DSt} {F : Nat → Prop} (h : Drawn w w1) (h2 : WalPost w1 lb db L D F w2) : WalPost w lb db L D F w2 := by
  obtain ⟨F', g1, g2, g3⟩ := h2
  have := h.size
  exact ⟨F', g1, (h.upd.mono (fun _ _ h => h.elim)).trans g2, fun k hk => (g3 k hk).imp id (fun h => by omega)⟩

theorem infoE : (Try.prog.info? 125).map (fun i => (i.zero, i.size, i.bytes)) = some (some (.agg #[.int .i64 0, .int .i64 0]), 2, 16) := by kernel_rfl
theorem slice_lh1 {P : Program} (t e : TypeId) (hu : P.underlying t = some (.slice e)) (hs : (P.info? e).map (·.size) = some 1) (g off n cap lo hi : Nat) (h1 : lo ≤ hi) (h2 : hi ≤ cap) (h3 : lo < cap) (w : World) :
    (Instr.slice t (.slice (some ⟨g, off, none⟩) n cap) (some (.int .i64 lo)) (some (.int .i64 hi)) none).run P w = .ok (.slice (some ⟨g, off + lo, none⟩) (hi - lo) (cap - lo)) w := by
  cases hq : P.info? e with
  | none => simp [hq] at hs
  | some i =>
    have hi' : i.size = 1 := by simpa [hq] using hs
    have hu' : P.underlying t = some (.slice (P.elem t)) := by rw [hu]; simp [Program.elem, hu]
    have he : P.elem t = e := by simp [Program.elem, hu]
    rw [run_slice_lh w t (some ⟨g, off, none⟩) n cap hu' .i64 .i64 lo hi (by omega) (by omega) (by omega)]
    simp [sizeOf, typeInfo, he, hq, hi', sliced, Addr.add_mid]
    omega
/-- The writes so far. -/
def WrR (w : World) (lb db : Nat) (L : LSt) (lv : Value) (enc : Bytes) (x : Option Addr) (c : Nat) (D : DSt) (G : Nat → Prop) (nb k : Nat) (Dk : DSt) (Gk : Nat → Prop) (wr : World) : Prop :=
  L.writes enc (nb - k) k Dk = L.writes enc nb 0 D ∧ DiskAt wr db Dk Gk ∧ Upd (fun j => j = lb ∨ G j) w wr ∧ (∀ j, Gk j → G j ∨ w.heap.size ≤ j) ∧ Cells9 wr lb (preL L db lv) ∧
    Mid wr 1 (.slice x enc.length c) enc.length (bvs enc) ∧ Dk.waits.length ≤ D.waits.length + k ∧ (∀ j, (Value.slice x enc.length c).ownBlock = some j → ¬ Gk j ∧ j ≠ lb ∧ w.heap.size ≤ j)
end Go.Proofs.Ytndhcimepgcfaaa
