/- wal: mark. -/
import Derived.Test.YtocameknhglklaaWal4
import Derived.Test.YtocameknhglklaaWalJ
import Derived.Lib.SlBytesConst
namespace Go.Proofs.Ytocameknhglklaa
open Go.RowKit
set_option linter.unusedSimpArgs false
set_option linter.unusedVariables false
set_option maxRecDepth 100000

def fldsOf (l : List Nat) : Bytes := magicB ++ l.flatMap (leB 8)
theorem fldsOf_length (l : List Nat) : (fldsOf l).length = 12 + 8 * l.length := by
  unfold fldsOf
  rw [List.length_append]
  have : (l.flatMap (leB 8)).length = l.length * 8 := flat_length (leB 8) 8 l (fun x _ => leB_length 8 x)
  rw [this]
  simp [magicB]; omega
theorem fldsOf_five (a b c d e : Nat) : fldsOf [a, b, c, d, e] = fieldsB a b c d e := by simp [fldsOf, fieldsB]

def u64V (l : List Nat) : List Value := l.map fun x => .int .u64 ((x : Nat) : Int)
/-- What mark has laid so far. -/
def MarkR (w : World) (bl : Nat) (fs : List Nat) (k : Nat) (bs : Bytes) (x : Option Addr) (c : Nat) (wr : World) : Prop :=
  bs = fldsOf (fs.take k) ∧ Mid wr 1 (.slice x bs.length c) bs.length (bvs bs) ∧ Upd (fun _ => False) w wr ∧ (∀ j, (Value.slice x bs.length c).ownBlock = some j → w.heap.size ≤ j ∧ j ≠ bl) ∧ wr.heap[bl]? = some (.cells (u64V fs).toArray 100 (0, 0))
theorem fldsOf_snoc (l : List Nat) (x : Nat) : fldsOf (l ++ [x]) = fldsOf l ++ leB 8 x := by simp [fldsOf]

def failE (e : Int) : Int := if e = 0 then 0 else 10
theorem fail_snd (L : LSt) (e : Int) : (L.fail e).2 = failE e := by unfold LSt.fail failE; split <;> rfl
/-- What fail leaves. -/
def FailPost (w : World) (lb db : Nat) (L : LSt) (lv : Value) (w' : World) : Prop := Upd (fun k => k = lb) w w' ∧ Cells9 w' lb (preL L db lv)
theorem preL_fail (L : LSt) (e : Int) (db : Nat) (lv : Value) : (if e = 0 then preL L db lv else (preL L db lv).set 8 (.bool true)) = preL (L.fail e).1 db lv := by unfold LSt.fail; split <;> rfl
theorem fail_log (lb db : Nat) (L : LSt) (lv : Value) (e : Int) (w : World) (h : Cells9 w lb (preL L db lv)) :
    Calls Try.prog 44 #[.pointer (some ⟨lb, 0, none⟩), .int .i64 e] w fun r w' => r = .returned (.int .i64 (failE e)) ∧ FailPost w lb db (L.fail e).1 lv w' := by
  refine (fail_ok lb _ e w h).mono ?_
  rintro r w' ⟨rfl, h1, h2⟩
  rw [preL_fail] at h2
  exact ⟨rfl, h1, h2⟩
theorem write_waits (D : DSt) (i : Int) (data : Bytes) : (D.write i data).1.waits.length ≤ D.waits.length + 1 := by
  unfold DSt.write
  split
  · exact Nat.le_succ _
  · split
    · exact Nat.le_succ _
    · split
      · exact Nat.le_succ _
      · split
        · exact Nat.le_succ _
        · simp
theorem write_zero_or (D : DSt) (i : Int) (data : Bytes) : (D.write i data).2 = 0 ∨ (D.write i data).2 = 1 ∨ (D.write i data).2 = 10 := by
  unfold DSt.write
  split
  · simp
  · split
    · simp
    · split
      · simp
      · split <;> simp

/-- Behind a call that writes the log's own cells and the disk. -/
def RawPost (w : World) (lb db : Nat) (L : LSt) (lv : Value) (D : DSt) (G : Nat → Prop) (w' : World) : Prop :=
  ∃ G', Cells9 w' lb (preL L db lv) ∧ DiskAt w' db D G' ∧ Upd (fun k => k = lb ∨ G k) w w' ∧ (∀ k, G' k → G k ∨ w.heap.size ≤ k)
set_option maxHeartbeats 2000000 in
theorem mark_raw {w : World} {lb db : Nat} {L : LSt} {lv : Value} {D : DSt} {G : Nat → Prop} (h : Cells9 w lb (preL L db lv)) (hm : Mid w 2 lv L.list.length (listV L.list)) (hOk : L.Ok) (hD : DiskAt w db D G) (hG : ¬ G lb)
    (hlv : ∀ k, lv.ownBlock = some k → ¬ G k ∧ k ≠ lb) (hwt : D.waits.length < 99999999990) :
    Calls Try.prog 38 #[.pointer (some ⟨lb, 0, none⟩)] w fun e w' => e = .returned (.int .i64 (L.mark D).2.2) ∧ RawPost w lb db (L.mark D).1 lv (L.mark D).2.1 G w' := by
  obtain ⟨fr, hfr⟩ : ∃ fr, L.fr = fr := ⟨_, rfl⟩
  obtain ⟨n, hn⟩ : ∃ n, L.n = n := ⟨_, rfl⟩
  obtain ⟨st, hst⟩ : ∃ st, L.start = st := ⟨_, rfl⟩
  obtain ⟨sy, hsy⟩ : ∃ sy, L.synced = sy := ⟨_, rfl⟩
  obtain ⟨fi, hfi⟩ : ∃ fi, L.first = fi := ⟨_, rfl⟩
  have hmk : L.mk_ = markB fr n st fi sy := by rw [LSt.mk_, hfr, hn, hst, hfi, hsy]
  have hb : fr ≤ 4096 ∧ n ≤ 4096 ∧ st ≤ 4096 ∧ sy < 1000000000000000000 ∧ fi ≤ 1000000000000000000 := by
    have := hOk.fit; have := hOk.start; have := hOk.synced; have := hOk.last; have := hOk.first_le; omega
  obtain ⟨b1, b2, b3, b4, b5⟩ := hb
  have f1 : IntKind.u64.wrap (fr : Int) = (fr : Int) := by show (fr : Int) % 18446744073709551616 = _; omega
  have f2 : IntKind.u64.wrap (n : Int) = (n : Int) := by show (n : Int) % 18446744073709551616 = _; omega
  have f3 : IntKind.u64.wrap (st : Int) = (st : Int) := by show (st : Int) % 18446744073709551616 = _; omega
  have f4 : IntKind.u64.wrap (fi : Int) = (fi : Int) := by show (fi : Int) % 18446744073709551616 = _; omega
  have f5 : IntKind.u64.wrap (sy : Int) = (sy : Int) := by show (sy : Int) % 18446744073709551616 = _; omega
  have H := Lib.hid (And.intro h (And.intro hm (And.intro hOk hD)))
  have Hb := Lib.hid (And.intro b1 (And.intro b2 (And.intro b3 (And.intro b4 b5))))
  have Hf := Lib.hid (And.intro f1 (And.intro f2 (And.intro f3 (And.intro f4 f5))))
  have Hmk := Lib.hid hmk
  have Hn := Lib.hid (And.intro hfr (And.intro hn (And.intro hst (And.intro hsy hfi))))
  clear h hm hOk hD b1 b2 b3 b4 b5 f1 f2 f3 f4 f5 hmk hfr hn hst hsy hfi
  have kc := fun (w : World) (C : Array Value) (n c : Nat) => Lib.run_convert_bytes_const (P := Try.prog) w 98 5 C n c Try.underlying98 Try.underlying5
  go_enter Try.func38, Try.ntmps38
  go_wp2_with fail
  have hu1 : Upd (fun _ => False) w (w.alloc (.cells (bvs magicB).toArray 5 (12, 13))) := (Upd.refl _ w).alloc _
  have hm1 : Mid (w.alloc (.cells (bvs magicB).toArray 5 (12, 13))) 1 (.slice (some ⟨w.heap.size, 0, none⟩) 12 12) 12 (bvs magicB) :=
    mid_full rfl (by decide) (by simp) (rangeAt_of_row (heap_alloc_new w _) (by simp))
  have hsz : w.heap.size < (w.alloc (.cells (bvs magicB).toArray 5 (12, 13))).heap.size := by simp
  have hbk : ∀ k, (Value.slice (some ⟨w.heap.size, 0, none⟩) 12 12).ownBlock = some k → w.heap.size ≤ k := fun k hk => by cases hk; exact Nat.le_refl _
  change Code.wp _ _ _ _ (w.alloc (.cells (bvs magicB).toArray 5 (12, 13)))
  generalize w.alloc (.cells (bvs magicB).toArray 5 (12, 13)) = w1 at *
  have hC := H.out.1.upd hu1 (fun h => h)
  have hM := H.out.2.1.upd hu1 (fun _ _ h => h)
  obtain ⟨d0, d1, d2, d3, d4, d5, d6, d7, d8⟩ := nine hC
  rw [Hn.out.1] at d1
  rw [Hn.out.2.1] at d2
  rw [Hn.out.2.2.1] at d3
  rw [Hn.out.2.2.2.1] at d7
  clear d0 d4 d5 d6 d8
  have HS : w1.drew.cell? ⟨lb, 1, none⟩ = some (.int .i64 fr) ∧ w1.drew.cell? ⟨lb, 2, none⟩ = some (.int .i64 n) ∧ w1.drew.cell? ⟨lb, 3, none⟩ = some (.int .i64 st) ∧ w1.drew.cell? ⟨lb, 7, none⟩ = some (.int .i64 sy) ∧
    Hid (Cells9 w1.drew lb (preL L db lv) ∧ Mid w1.drew 2 lv L.list.length (listV L.list)) := ⟨d1, d2, d3, d7, ⟨hC, hM⟩⟩
  obtain ⟨f1, f2, f3, f4, f5⟩ := Hf.out
  refine wp_region_planD (fun w' => w'.cell? ⟨lb, 1, none⟩ = some (.int .i64 fr) ∧ w'.cell? ⟨lb, 2, none⟩ = some (.int .i64 n) ∧ w'.cell? ⟨lb, 3, none⟩ = some (.int .i64 st) ∧ w'.cell? ⟨lb, 7, none⟩ = some (.int .i64 sy) ∧
    Hid (Cells9 w' lb (preL L db lv) ∧ Mid w' 2 lv L.list.length (listV L.list))) 26 [(0, true), (1, true), (2, true), (3, true), (4, true), (5, true), (6, true), (7, true), (8, true), (9, true), (10, true), (11, true), (12, true), (13, true), (14, true), (15, true), (16, true), (17, true), (18, true), (19, true), (20, true), (21, true), (22, true), (25, true), (23, false), (24, true)] (by kernel_rfl) (by kernel_rfl) (fun d _ _ _ _ h => by cases d <;> exact h) HS ?_
  iterate 16 (apply planD_held rfl rfl rfl (by simp) HS; (intro w' hS K hK; go_simp; exact hK))
  refine planD_call (.int .i64 fi) rfl rfl (fun w' hS => ⟨20, #[.pointer (some ⟨lb, 0, none⟩)], by go_simp, by have := first_ok hS.2.2.2.2.out.1 hS.2.2.2.2.out.2 H.out.2.2.1; rw [Hn.out.2.2.2.2] at this; exact this⟩) ?_
  simp only [Act.put, List.setIfInBounds_toArray, List.set_cons_zero, List.set_cons_succ]
  iterate 7 (apply planD_held rfl rfl rfl (by simp) HS; (intro w' hS K hK; go_simp; exact hK))
  refine planD_op rfl rfl (fun K hK => ?_)
  go_simp
  obtain ⟨bl, hbl⟩ : ∃ bl, w1.heap.size = bl := ⟨_, rfl⟩
  have hbl1 : w.heap.size < bl := by rw [← hbl]; exact hsz
  have hu2 : Upd (fun _ => False) w1 ((w1.alloc (.cells (u64V [fr, n, st, fi, sy]).toArray 100)).drew) := ((Upd.refl _ w1).alloc _).drew
  have hnew : ((w1.alloc (.cells (u64V [fr, n, st, fi, sy]).toArray 100)).drew).heap[bl]? = some (.cells (u64V [fr, n, st, fi, sy]).toArray 100 (0, 0)) := by
    rw [← hbl]; exact heap_alloc_new w1 _
  rw [hbl]
  have hlb1 : lb < w1.heap.size := hC.lt
  refine hK _ _ ((w1.alloc (.cells (u64V [fr, n, st, fi, sy]).toArray 100)).drew) (fun u h => h) (fun _ => ⟨(hu2.cell (a := ⟨lb, 1, none⟩) hlb1 (fun h => h)).trans d1, (hu2.cell (a := ⟨lb, 2, none⟩) hlb1 (fun h => h)).trans d2, (hu2.cell (a := ⟨lb, 3, none⟩) hlb1 (fun h => h)).trans d3, (hu2.cell (a := ⟨lb, 7, none⟩) hlb1 (fun h => h)).trans d7, ⟨hC.upd hu2 (fun h => h), hM.upd hu2 (fun _ _ h => h)⟩⟩) ?_
  generalize (w1.alloc (.cells (u64V [fr, n, st, fi, sy]).toArray 100)).drew = w2 at *
  have HR0 : Hid (MarkR w bl [fr, n, st, fi, sy] 0 magicB (some ⟨w.heap.size, 0, none⟩) 12 w2) :=
    ⟨by simp [fldsOf], hm1.upd hu2 (fun _ _ h => h), hu1.trans hu2, fun j hj => ⟨hbk j hj, by cases hj; show w.heap.size ≠ bl; omega⟩, hnew⟩
  have HS2 : w2.cell? ⟨lb, 1, none⟩ = some (.int .i64 fr) ∧ w2.cell? ⟨lb, 2, none⟩ = some (.int .i64 n) ∧ w2.cell? ⟨lb, 3, none⟩ = some (.int .i64 st) ∧ w2.cell? ⟨lb, 7, none⟩ = some (.int .i64 sy) ∧
    Hid (Cells9 w2 lb (preL L db lv) ∧ Mid w2 2 lv L.list.length (listV L.list)) := ⟨(hu2.cell (a := ⟨lb, 1, none⟩) hlb1 (fun h => h)).trans d1, (hu2.cell (a := ⟨lb, 2, none⟩) hlb1 (fun h => h)).trans d2, (hu2.cell (a := ⟨lb, 3, none⟩) hlb1 (fun h => h)).trans d3, (hu2.cell (a := ⟨lb, 7, none⟩) hlb1 (fun h => h)).trans d7, ⟨hC.upd hu2 (fun h => h), hM.upd hu2 (fun _ _ h => h)⟩⟩
  clear hu2 hnew hC hM hm1 hu1 d1 d2 d3 d7 hbk hsz hK hbl hlb1 f1 f2 f3 f4 f5 kc
  try (simp only [Act.put, List.setIfInBounds_toArray, List.set_cons_zero, List.set_cons_succ])
  apply planD_held (S := fun w' => w'.cell? ⟨lb, 1, none⟩ = some (.int .i64 fr) ∧ w'.cell? ⟨lb, 2, none⟩ = some (.int .i64 n) ∧ w'.cell? ⟨lb, 3, none⟩ = some (.int .i64 st) ∧ w'.cell? ⟨lb, 7, none⟩ = some (.int .i64 sy) ∧
    Hid (Cells9 w' lb (preL L db lv) ∧ Mid w' 2 lv L.list.length (listV L.list))) rfl rfl rfl (by simp) HS2
  · intro w' hS K hK; go_simp; exact hK
  refine planD_nil ?_
  clear HS2
  go_wp2_with fail
  have hslot : (Value.slice (some ⟨w.heap.size, 0, none⟩) 12 12) = .slice (some ⟨w.heap.size, 0, none⟩) magicB.length 12 := rfl
  go_loopw [3, 34] (fun b i wr => ∃ (k : Nat) (bs : Bytes) (x : Option Addr) (c : Nat), k ≤ 5 ∧ i = .int .i64 k ∧ b = .slice x bs.length c ∧ Hid (MarkR w bl [fr, n, st, fi, sy] k bs x c wr)) (fun _ i _ => 5 - (intOf i).toNat)
  case atStart => exact ⟨0, magicB, some ⟨w.heap.size, 0, none⟩, 12, Nat.zero_le _, rfl, rfl, HR0⟩
  case round =>
    clear HR0 hslot
    obtain ⟨k, bs, x, c, hk, rfl, rfl, HR⟩ := hrel
    by_cases hlt : k < 5
    · have hlt2 : (k : Int) < 5 := by omega
      obtain ⟨y, hy, hy64⟩ : ∃ y : Nat, ([fr, n, st, fi, sy] : List Nat)[k]? = some y ∧ y < 18446744073709551616 := by
        have := Hb.out
        match k, hlt with
        | 0, _ => exact ⟨_, rfl, by omega⟩
        | 1, _ => exact ⟨_, rfl, by omega⟩
        | 2, _ => exact ⟨_, rfl, by omega⟩
        | 3, _ => exact ⟨_, rfl, by omega⟩
        | 4, _ => exact ⟨_, rfl, by omega⟩
      have hcell : wr.cell? ⟨bl, k, none⟩ = some (.int .u64 y) := by
        rw [cell_of_row _ _ _ _ _ _ HR.out.2.2.2.2]
        simp only [List.getElem?_toArray, u64V, List.getElem?_map, hy]
        rfl
      have Hy := Lib.hid (And.intro hy hy64)
      clear hy hy64
      have hlen : bs.length ≤ 100000000000000 := by rw [HR.out.1, fldsOf_length]; simp; omega
      have Hlen := Lib.hid hlen
      clear hlen
      go_wp2_with fail
      refine (put_ok (.slice x bs.length c) bs y 8 _ HR.out.2.1 Hy.out.2 (by decide) Hlen.out).mono ?_
      rintro e w3 ⟨x', c', rfl, hmid, hu, hbk⟩
      dsimp only
      have HR2 : Hid (MarkR w bl [fr, n, st, fi, sy] (k + 1) (bs ++ leB 8 y) x' c' w3) := by
        have h0 := HR.out
        have hlen : (bs ++ leB 8 y).length = bs.length + 8 := by rw [List.length_append, leB_length]
        refine ⟨?_, by rw [hlen]; exact hmid, h0.2.2.1.then hu (fun j hj => .inr (h0.2.2.2.1 j hj).1), fun j hj => ?_, hu.heap h0.2.2.2.2 (fun hj => (h0.2.2.2.1 _ hj).2 rfl)⟩
        · rw [h0.1, List.take_add_one, Hy.out.1]
          exact (fldsOf_snoc _ _).symm
        · rw [hlen] at hj
          rcases hbk j hj with h | h
          · exact h0.2.2.2.1 j h
          · have h3 := lt_of_block h0.2.2.2.2
            have h4 := h0.2.2.1.size
            omega
      have hlen : bs.length + 8 = (bs ++ leB 8 y).length := by rw [List.length_append, leB_length]
      rw [hlen]
      clear hmid hu hbk hcell HR hlen
      go_wp2_with fail
      exact ⟨⟨k + 1, bs ++ leB 8 y, x', c', by omega, by go_num, rfl, HR2⟩, by simp [intOf]; omega⟩
    · obtain rfl : k = 5 := by omega
      clear hlt
      go_wp2_with fail
      have h0 := HR.out
      have hlbw : lb < w.heap.size := H.out.1.lt
      have hfb : bs = fieldsB fr n st fi sy := by rw [h0.1]; exact fldsOf_five _ _ _ _ _
      have hbl52 : bs.length = 52 := by rw [hfb, fieldsB_length]
      have hC := H.out.1.upd h0.2.2.1 (fun h => h)
      refine (sum9 hC (.slice x bs.length c) bs h0.2.1.sees (fun j hj _ => by have := (h0.2.2.2.1 j hj).1; omega)).mono ?_
      rintro e w4 ⟨rfl, hu4, hC4⟩
      dsimp only
      have hm4 := h0.2.1.upd hu4 (fun j hj => by have := (h0.2.2.2.1 j hj).1; omega)
      have hU4 : Upd (fun k => k = lb) w w4 := (h0.2.2.1.mono (fun _ _ h => h.elim)).trans hu4
      obtain ⟨sm, hsm⟩ : ∃ sm, updB 0 bs = sm := ⟨_, rfl⟩
      rw [hsm]
      have f6 : IntKind.u64.wrap (sm.toNat : Int) = (sm.toNat : Int) := by have := sm.isLt; show (sm.toNat : Int) % 18446744073709551616 = _; omega
      have hown : ∀ j, (Value.slice x bs.length c).ownBlock = some j → w.heap.size ≤ j := fun j hj => (h0.2.2.2.1 j hj).1
      have H4 := Lib.hid (And.intro hm4 (And.intro hU4 (And.intro hC4 (And.intro hown (And.intro hfb (And.intro hbl52 (And.intro hsm hlbw)))))))
      clear h0 hC hu4 hC4 hm4 hU4 hown hfb hbl52 hsm hlbw HR
      go_wp2_with fail
      refine (put_ok (.slice x bs.length c) bs sm.toNat 4 _ H4.out.1 (by have := sm.isLt; omega) (by decide) (by have := H4.out.2.2.2.2.2.1; omega)).mono ?_
      rintro e w5 ⟨x', c', rfl, hm5, hu5, hb5⟩
      dsimp only
      obtain ⟨_, hU4, hC4, hown, hfb, hbl52, hsm, hlbw⟩ := H4.out
      have hdata : bs ++ leB 4 sm.toNat = L.mk_ := by rw [Hmk.out, markB, ← hfb, hsm]
      have hlen : bs.length + 4 = L.mk_.length := by rw [← hdata, List.length_append, leB_length]
      rw [hdata, hlen] at hm5
      rw [hlen]
      rw [hlen] at hb5
      have hU5 : Upd (fun k => k = lb) w w5 := hU4.then hu5 (fun j hj => .inr (hown j hj))
      have hC5 := hC4.upd hu5 (fun hj => by have := hown _ hj; omega)
      have hD5 := H.out.2.2.2.upd hU5 (fun k hk e => hG (e ▸ hk))
      have hx5 : ∀ z, x' = some z → 0 < L.mk_.length → ¬ G z.block := fun z hz _ hg => by
        subst hz
        have h1 := hD5.lt _ hg
        have h2 := (H.out.2.2.2).lt _ hg
        rcases hb5 z.block rfl with h | h
        · have := hown _ h; omega
        · have := hU4.size; omega
      obtain ⟨⟨D1, r⟩, hDr⟩ : ∃ p, D.write (L.fr : Nat) L.mk_ = p := ⟨_, rfl⟩
      have hD1w : D1.waits.length < 100000000000 := by have := write_waits D (L.fr : Nat) L.mk_; rw [hDr] at this; dsimp only at this; omega
      have hmark : L.mark D = if r = 0 then ((L.fail D1.flush.2).1, D1.flush.1, (L.fail D1.flush.2).2) else ((L.fail r).1, D1, (L.fail r).2) := by
        simp only [LSt.mark, hDr]
      obtain ⟨d0, d1, d2, d3, d4, d5, d6, d7, d8⟩ := nine hC5
      rw [Hn.out.1] at d1 hDr
      clear d2 d3 d4 d5 d6 d7 d8
      have H5 := Lib.hid (And.intro hm5 (And.intro hU5 (And.intro hC5 (And.intro hD5 (And.intro hx5 (And.intro hDr (And.intro hD1w hmark)))))))
      clear hm5 hU5 hC5 hD5 hx5 hDr hD1w hmark hdata hlen hb5 hu5 H4 hU4 hC4 hown hfb hbl52 hsm hlbw f6
      go_wp2_with fail
      have HS : w5.drew.cell? ⟨lb, 0, none⟩ = some (.pointer (some ⟨db, 0, none⟩)) ∧ w5.drew.cell? ⟨lb, 1, none⟩ = some (.int .i64 fr) := ⟨d0, d1⟩
      refine wp_region_planD (fun w' => w'.cell? ⟨lb, 0, none⟩ = some (.pointer (some ⟨db, 0, none⟩)) ∧ w'.cell? ⟨lb, 1, none⟩ = some (.int .i64 fr)) 11 [(0, true), (1, true), (2, true), (3, true), (4, true), (5, true), (6, true), (7, true), (8, true), (9, false), (10, true)] (by kernel_rfl) (by kernel_rfl) (fun d _ _ _ _ h => by cases d <;> exact h) HS ?_
      iterate 9 (apply planD_held rfl rfl rfl (by simp) HS; (intro w' hS K hK; go_simp; exact hK))
      refine planD_op rfl rfl (fun K hK => ?_)
      go_simp
      have hdr : Upd (fun _ => False) w5 w5.drew := (Upd.refl _ w5).drew
      refine (write_disk (H5.out.2.2.2.1.upd hdr (fun _ _ h => h)) (fr : Nat) x' c' L.mk_ (H5.out.1.upd hdr (fun _ _ h => h)).sees H5.out.2.2.2.2.1 (by omega) H5.out.2.2.2.2.2.1).mono ?_
      rintro e w6 ⟨rfl, G', hD6, hu6, hG6⟩
      dsimp only
      have hu6' : Upd G w5 w6 := (Upd.mono hdr (fun _ _ h => h.elim)).trans hu6
      have hC6 := H5.out.2.2.1.upd hu6' hG
      have hlb6 : ¬ G' lb := fun h => by
        rcases hG6 _ h with h | h
        · exact hG h
        · have h1 := H5.out.2.2.1.lt
          have h2 := hdr.size
          omega
      have hU6 : Upd (fun k => k = lb ∨ G k) w w6 := (H5.out.2.1.mono (fun _ _ h => .inl h)).trans (hu6'.mono (fun _ _ h => .inr h))
      have hG6' : ∀ k, G' k → G k ∨ w.heap.size ≤ k := fun k hk => by
        rcases hG6 k hk with h | h
        · exact .inl h
        · have h1 := H5.out.2.1.size
          have h2 := hdr.size
          exact .inr (by omega)
      have H6 := Lib.hid (And.intro hD6 (And.intro hC6 (And.intro hlb6 (And.intro hU6 hG6'))))
      obtain ⟨e0, e1, e2, e3, e4, e5, e6, e7, e8⟩ := nine hC6
      rw [Hn.out.1] at e1
      have HS6 : w6.cell? ⟨lb, 0, none⟩ = some (.pointer (some ⟨db, 0, none⟩)) ∧ w6.cell? ⟨lb, 1, none⟩ = some (.int .i64 fr) := ⟨e0, e1⟩
      clear d0 d1 HS hdr hD6 hu6 hG6 hu6' hC6 hlb6 hU6 hG6' e1 e2 e3 e4 e5 e6 e7 e8
      refine hK _ _ _ (fun u h => h) (fun _ => HS6) ?_
      clear hK
      try (simp only [Act.put, List.setIfInBounds_toArray, List.set_cons_zero, List.set_cons_succ])
      (apply planD_held rfl rfl rfl (by simp) HS6; (intro w' hS K hK; go_simp; exact hK))
      refine planD_nil ?_
      clear HS6
      by_cases hr0 : r = 0
      · have hmk0 := H5.out.2.2.2.2.2.2.2
        rw [if_pos hr0] at hmk0
        have Hmk0 := Lib.hid hmk0
        clear hmk0
        subst hr0
        go_wp2_with fail
        obtain ⟨⟨D2, r2⟩, hfl⟩ : ∃ p, D1.flush = p := ⟨_, rfl⟩
        refine (flush_disk H6.out.1 H5.out.2.2.2.2.2.2.1 hfl).mono ?_
        rintro e w7 ⟨rfl, hD7, hu7⟩
        dsimp only
        have hC7 := H6.out.2.1.upd hu7 H6.out.2.2.1
        have H7 := Lib.hid (And.intro hC7 (And.intro hD7 (And.intro hu7 hfl)))
        clear hC7 hD7 hu7 hfl e0
        go_wp2_with fail
        refine (fail_log lb db L lv r2 _ H7.out.1).mono ?_
        rintro e w8 ⟨rfl, hu8, hC8⟩
        dsimp only
        have H8 := Lib.hid (And.intro hu8 hC8)
        clear hu8 hC8
        go_wp2_with fail
        go_ret
        have hmk := Hmk0.out
        rw [H7.out.2.2.2] at hmk
        rw [hmk]
        dsimp only
        have h8 := H8.out.2
        refine ⟨by rw [fail_snd]; rfl, G', h8, H7.out.2.1.upd H8.out.1 (fun k hk e => H6.out.2.2.1 (e ▸ hk)), ?_, H6.out.2.2.2.2⟩
        refine (H6.out.2.2.2.1.then H7.out.2.2.1 (fun k hk => ?_)).trans (H8.out.1.mono (fun _ _ h => .inl h))
        rcases H6.out.2.2.2.2 k hk with h | h
        · exact .inl (.inr h)
        · exact .inr h
      · have hne : (r != 0) = true := by simp [hr0]
        have Hr0 := Lib.hid hr0
        clear hr0
        go_wp2_with fail
        refine (fail_log lb db L lv r _ H6.out.2.1).mono ?_
        rintro e w8 ⟨rfl, hu8, hC8⟩
        dsimp only
        have H8 := Lib.hid (And.intro hu8 hC8)
        clear hu8 hC8
        go_wp2_with fail
        go_ret
        have hmk := H5.out.2.2.2.2.2.2.2
        rw [if_neg Hr0.out] at hmk
        rw [hmk]
        dsimp only
        have h8 := H8.out.2
        exact ⟨by rw [fail_snd]; rfl, G', h8, H6.out.1.upd H8.out.1 (fun k hk e => H6.out.2.2.1 (e ▸ hk)), H6.out.2.2.2.1.trans (H8.out.1.mono (fun _ _ h => .inl h)), H6.out.2.2.2.2⟩
end Go.Proofs.Ytocameknhglklaa
