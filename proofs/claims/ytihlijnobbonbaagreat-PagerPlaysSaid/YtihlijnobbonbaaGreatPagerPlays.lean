/- docketlaw04.PagerPlays. -/
import Derived.Test.YtihlijnobbonbaaGreatPa12
import Derived.Deep.DeepCutAuto
import Derived.Deep.CutBlock
namespace Go.Proofs.YtihlijnobbonbaaGreat
open Go Go.RowKit
set_option linter.unusedSimpArgs false
set_option linter.unusedVariables false
set_option maxRecDepth 100000

/-- Between two calls. -/
def PlS (w wr : World) (tb pb db xb rb skip N k : Nat) : Prop :=
  ∃ (cs ct : List Img) (ds l : Img) (sy : Nat), TT w wr tb pb db xb rb skip N cs ct ds l sy (-1) ∧ cs.length ≤ k
theorem PlS.upd0 {w wr : World} {tb pb db xb rb skip N k : Nat} (h : PlS w wr tb pb db xb rb skip N k) : Upd (fun _ => False) w wr := let ⟨_, _, _, _, _, h, _⟩ := h; h.upd0
theorem PlS.quiet {w wr w' : World} {tb pb db xb rb skip N k : Nat} (h : PlS w wr tb pb db xb rb skip N k) (hu : Upd (fun _ => False) wr w') : PlS w w' tb pb db xb rb skip N k :=
  let ⟨a, b, c, d, e, h, h2⟩ := h; ⟨a, b, c, d, e, h.quiet hu, h2⟩
theorem PlS.le {w wr : World} {tb pb db xb rb skip N k m : Nat} (h : PlS w wr tb pb db xb rb skip N k) (hm : k ≤ m) : PlS w wr tb pb db xb rb skip N m :=
  let ⟨a, b, c, d, e, h, h2⟩ := h; ⟨a, b, c, d, e, h, Nat.le_trans h2 hm⟩
/-- Behind a commit or an abort. -/
def PlP (w wr : World) (tb pb db rb skip N k : Nat) : Prop :=
  ∃ (cs ct : List Img) (sy : Nat), PS w wr tb pb db rb skip N cs ct sy (-1) ∧ cs.length ≤ k
def PlB (w wr : World) (tb pb db rb skip N k : Nat) : Prop :=
  ∃ (cs ct : List Img) (sy : Nat), TB w wr tb pb db rb skip N cs ct sy (-1) ∧ cs.length ≤ k
theorem PlB.new {w wr : World} {tb pb db rb skip N k : Nat} (h : PlB w wr tb pb db rb skip N k) : PlS w (wr.alloc (.cells #[.pointer (some ⟨rb, 0, none⟩), .slice none 0 0] 51)) tb pb db wr.heap.size rb skip N k :=
  let ⟨cs, ct, sy, h, h2⟩ := h; ⟨cs, ct, [], [], sy, h.new, h2⟩
theorem PlP.begin {w wr : World} {tb pb db rb skip N k : Nat} (h : PlP w wr tb pb db rb skip N k) : Calls Tryz.prog 13 #[.pointer (some ⟨pb, 0, none⟩)] wr fun e w' => ∃ tb', e = .returned (.tuple #[.pointer (some ⟨tb', 0, none⟩), .int .i64 0]) ∧ PlB w w' tb' pb db rb skip N k := by
  obtain ⟨cs, ct, sy, h1, h2⟩ := h
  refine h1.pp.begin.mono ?_
  rintro e w' ⟨tb', rfl, h⟩
  exact ⟨tb', rfl, cs, ct, sy, h, h2⟩
theorem PlS.abort {w wr : World} {tb pb db xb rb skip N k : Nat} (h : PlS w wr tb pb db xb rb skip N k) : Calls Tryz.prog 17 #[.pointer (some ⟨tb, 0, none⟩)] wr fun e w' => e = .returned (.tuple #[]) ∧ PlP w w' tb pb db rb skip N k := by
  obtain ⟨cs, ct, ds, l, sy, h1, h2⟩ := h
  refine h1.abort.mono ?_
  rintro e w' ⟨rfl, h⟩
  exact ⟨rfl, cs, ct, sy, h, h2⟩
theorem PlS.step {w wr : World} {tb pb db xb rb skip N k : Nat} (h : PlS w wr tb pb db xb rb skip N k) (o : POp) (ho : o.Ok) (hk : k ≤ 5000000000000) :
    Calls Tryz.prog 34 #[.pointer (some ⟨tb, 0, none⟩), .pointer (some ⟨xb, 0, none⟩), .agg #[.int .u8 o.kind, .int .i64 o.b, .string o.data]] wr fun e w' => e = .returned (.bool true) ∧ PlS w w' tb pb db xb rb skip N k := by
  obtain ⟨cs, ct, ds, l, sy, h1, h2⟩ := h
  refine (step4_ok h1 o ho (by omega)).mono ?_
  rintro e w' ⟨rfl, ds', l', h⟩
  exact ⟨rfl, cs, ct, ds', l', sy, h, h2⟩
/-- Commit on the pager's side. -/
def PlC (w wr : World) (tb pb db xb rb skip N k : Nat) (a r : Int) : Prop :=
  ∃ (cs ct : List Img) (ds l : Img) (sy : Nat), CM w tb pb db xb rb skip N cs ct ds l sy (-1) a r wr ∧ cs.length ≤ k ∧ N ≤ 4096 ∧ skip ≤ 4096
theorem PlS.commit {w wr : World} {tb pb db xb rb skip N k : Nat} (h : PlS w wr tb pb db xb rb skip N k) (hN : 1 ≤ N) (hk : k ≤ 5000000000000) : Calls Tryz.prog 16 #[.pointer (some ⟨tb, 0, none⟩)] wr fun e w' => ∃ a r, e = .returned (.tuple #[.int .i64 a, .int .i64 r]) ∧ PlC w w' tb pb db xb rb skip N k a r := by
  obtain ⟨cs, ct, ds, l, sy, h1, h2⟩ := h
  have hm := h1.ok.2.2.2.2.2
  refine (h1.commit hN (by omega)).mono ?_
  rintro e w' ⟨a, r, rfl, h⟩
  exact ⟨a, r, rfl, cs, ct, ds, l, sy, h, h2, by omega, by omega⟩
theorem PlC.commit {w wr : World} {tb pb db xb rb skip N k : Nat} {a r : Int} (h : PlC w wr tb pb db xb rb skip N k a r) (hk : k ≤ 5000000000000) : Calls Tryz.prog 20 #[.pointer (some ⟨xb, 0, none⟩)] wr fun e w' => e = .returned (.tuple #[.int .i64 a, .int .i64 r]) ∧ PlP w w' tb pb db rb skip N (k + 1) := by
  obtain ⟨cs, ct, ds, l, sy, h1, h2, h3, h4⟩ := h
  refine (h1.commit (by omega) h3 h4).mono ?_
  rintro e w' ⟨a', r', rfl, ⟨_, rfl, rfl, cs', ct', sy', f', h, h5, _, _, h6⟩ | ⟨_, _, _, h, _⟩⟩
  · obtain rfl := h6 (by decide)
    exact ⟨rfl, cs', ct', sy', h, by omega⟩
  · omega
/-- Sync, and Synced, Done. -/
def PlY (w wr : World) (tb pb db xb rb skip N k n : Nat) : Prop :=
  ∃ (cs ct : List Img) (ds l : Img), TT w wr tb pb db xb rb skip N cs ct ds l n (-1) ∧ cs.length ≤ k ∧ cs.length = n
theorem PlS.sync {w wr : World} {tb pb db xb rb skip N k : Nat} (h : PlS w wr tb pb db xb rb skip N k) : Calls Tryz.prog 22 #[.pointer (some ⟨pb, 0, none⟩)] wr fun e w' => e = .returned (.int .i64 0) ∧ ∃ n, n ≤ k ∧ PlY w w' tb pb db xb rb skip N k n := by
  obtain ⟨cs, ct, ds, l, sy, h1, h2⟩ := h
  refine h1.sync.mono ?_
  rintro e w' ⟨r, rfl, ⟨rfl, f', h3, h4⟩ | ⟨_, _, h3⟩⟩
  · obtain rfl := h3 (by decide)
    exact ⟨rfl, cs.length, h2, cs, ct, ds, l, h4, h2, rfl⟩
  · omega
theorem PlY.pls {w wr : World} {tb pb db xb rb skip N k n : Nat} (h : PlY w wr tb pb db xb rb skip N k n) : PlS w wr tb pb db xb rb skip N k :=
  let ⟨cs, ct, ds, l, h1, h2, h3⟩ := h; ⟨cs, ct, ds, l, n, h1, h2⟩
theorem PlY.synced {w wr : World} {tb pb db xb rb skip N k n : Nat} (h : PlY w wr tb pb db xb rb skip N k n) : Calls Tryz.prog 24 #[.pointer (some ⟨pb, 0, none⟩)] wr fun e w' => e = .returned (.int .i64 (n : Nat)) ∧ wr = w' := by
  obtain ⟨cs, ct, ds, l, h1, h2, h3⟩ := h
  exact h1.synced
theorem PlY.done {w wr : World} {tb pb db xb rb skip N k n : Nat} (h : PlY w wr tb pb db xb rb skip N k n) : Calls Tryz.prog 14 #[.pointer (some ⟨pb, 0, none⟩)] wr fun e w' => e = .returned (.int .i64 (n : Nat)) ∧ wr = w' := by
  obtain ⟨cs, ct, ds, l, h1, h2, h3⟩ := h
  rw [← h3]
  exact h1.done
def PlZ (w wr : World) (tb pb db rb skip N k n : Nat) : Prop :=
  ∃ (cs ct : List Img), PS w wr tb pb db rb skip N cs ct n (-1) ∧ cs.length ≤ k ∧ cs.length = n
theorem PlP.sync {w wr : World} {tb pb db rb skip N k : Nat} (h : PlP w wr tb pb db rb skip N k) : Calls Tryz.prog 22 #[.pointer (some ⟨pb, 0, none⟩)] wr fun e w' => e = .returned (.int .i64 0) ∧ ∃ n, n ≤ k ∧ PlZ w w' tb pb db rb skip N k n := by
  obtain ⟨cs, ct, sy, h1, h2⟩ := h
  refine (h1.sync (by decide)).mono ?_
  rintro e w' ⟨rfl, h⟩
  exact ⟨rfl, cs.length, h2, cs, ct, h, h2, rfl⟩
theorem PlZ.open {w wr : World} {tb pb db rb skip N k n : Nat} (h : PlZ w wr tb pb db rb skip N k n) (h2s : 2 ≤ skip) (hN : 1 ≤ N) (skI : Int) (hsk : skI = (skip : Nat)) : Calls Tryz.prog 29 #[.pointer (some ⟨db, 0, none⟩), .int .i64 skI] wr fun e w' => ∃ pb', e = .returned (.tuple #[.pointer (some ⟨pb', 0, none⟩), .int .i64 0]) ∧ PlZ w w' tb pb' db rb skip N k n := by
  obtain ⟨cs, ct, h1, h2, rfl⟩ := h
  refine (h1.open (by decide) h2s hN skI hsk).mono ?_
  rintro e w' ⟨pb', rfl, h⟩
  exact ⟨pb', rfl, cs, ct, h, h2, rfl⟩
theorem PlZ.plp {w wr : World} {tb pb db rb skip N k n : Nat} (h : PlZ w wr tb pb db rb skip N k n) : PlP w wr tb pb db rb skip N k :=
  let ⟨cs, ct, h1, h2, h3⟩ := h; ⟨cs, ct, n, h1, h2⟩
theorem PlZ.synced {w wr : World} {tb pb db rb skip N k n : Nat} (h : PlZ w wr tb pb db rb skip N k n) : Calls Tryz.prog 24 #[.pointer (some ⟨pb, 0, none⟩)] wr fun e w' => e = .returned (.int .i64 (n : Nat)) ∧ wr = w' := by
  obtain ⟨cs, ct, h1, h2, h3⟩ := h
  exact h1.pp.synced
theorem PlZ.done {w wr : World} {tb pb db rb skip N k n : Nat} (h : PlZ w wr tb pb db rb skip N k n) : Calls Tryz.prog 14 #[.pointer (some ⟨pb, 0, none⟩)] wr fun e w' => e = .returned (.int .i64 (n : Nat)) ∧ wr = w' := by
  obtain ⟨cs, ct, h1, h2, h3⟩ := h
  rw [← h3]
  exact h1.pp.done
theorem PlP.le {w wr : World} {tb pb db rb skip N k m : Nat} (h : PlP w wr tb pb db rb skip N k) (hm : k ≤ m) : PlP w wr tb pb db rb skip N m :=
  let ⟨a, b, c, h, h2⟩ := h; ⟨a, b, c, h, Nat.le_trans h2 hm⟩
/-- What is looked at behind a commit, an abort or an Open. -/
theorem PlP.look {w wr : World} {tb pb db rb skip N k : Nat} (h : PlP w wr tb pb db rb skip N k) : ∃ (n : Nat) (x : Option Addr) (c : Nat), n ≤ k ∧ wr.cell? ⟨rb, 2, none⟩ = some (.slice x n c) ∧
    Calls Tryz.prog 14 #[.pointer (some ⟨pb, 0, none⟩)] wr (fun e w' => e = .returned (.int .i64 (n : Nat)) ∧ wr = w') ∧ Calls Tryz.prog 26 #[.pointer (some ⟨tb, 0, none⟩)] wr (fun e w' => e = .returned (.int .i64 0) ∧ wr = w') := by
  obtain ⟨cs, ct, sy, h1, h2⟩ := h
  obtain ⟨_, x, c, h3⟩ := h1.pp.cells
  exact ⟨cs.length, x, c, h2, h3, h1.pp.done, h1.dirty⟩
theorem PlP.quiet {w wr w' : World} {tb pb db rb skip N k : Nat} (h : PlP w wr tb pb db rb skip N k) (hu : Upd (fun _ => False) wr w') : PlP w w' tb pb db rb skip N k :=
  let ⟨a, b, c, h, h2⟩ := h; ⟨a, b, c, h.quiet hu, h2⟩
def PlP0 (w wr : World) (pb db rb skip N : Nat) : Prop :=
  ∃ (cs ct : List Img) (sy : Nat), PP w wr pb db rb skip N cs ct sy (-1) ∧ cs.length ≤ 0
theorem PlP0.begin {w wr : World} {pb db rb skip N : Nat} (h : PlP0 w wr pb db rb skip N) : Calls Tryz.prog 13 #[.pointer (some ⟨pb, 0, none⟩)] wr fun e w' => ∃ tb', e = .returned (.tuple #[.pointer (some ⟨tb', 0, none⟩), .int .i64 0]) ∧ PlB w w' tb' pb db rb skip N 0 := by
  obtain ⟨cs, ct, sy, h1, h2⟩ := h
  refine h1.begin.mono ?_
  rintro e w' ⟨tb', rfl, h⟩
  exact ⟨tb', rfl, cs, ct, sy, h, h2⟩
set_option maxHeartbeats 16000000 in
theorem pagerPlays_walk (sectors log : Nat) (hs : sectors ≤ 255) (hl : log ≤ 255) (xa : Option Addr) (xc : Nat) (l : List POp) (w : World) (hW : PopsAt w xa xc l) (hM : l.length ≤ 4600000000000) :
    Calls Tryz.prog 8 #[.int .u8 sectors, .int .u8 log, .slice xa l.length xc] w fun e w' => e = .returned (.bool true) ∧ Below w.heap.size w w' := by
  obtain ⟨M, hmm⟩ : ∃ M, l.length = M := ⟨_, rfl⟩
  rw [hmm] at hM
  have hMI : (M : Int) ≤ 4600000000000 := by omega
  have H := Lib.hid (And.intro hW (And.intro hmm hM))
  rw [hmm]
  have hsz := fun w => size4_ok sectors log hs hl w
  obtain ⟨skip, hsk⟩ : ∃ skip, szL log = skip := ⟨_, rfl⟩
  obtain ⟨N, hN⟩ : ∃ N, szN sectors = N := ⟨_, rfl⟩
  have hskb : 2 ≤ skip ∧ skip ≤ 25 := by unfold szL at hsk; omega
  have hNb : 1 ≤ N ∧ N ≤ 24 := by unfold szN at hN; omega
  rw [hsk, hN] at hsz
  have Hsz := Lib.hid hsz
  have hsI : (sectors : Int) ≤ 255 := by omega
  have hlI : (log : Int) ≤ 255 := by omega
  have hskI : (skip : Int) ≤ 25 := by omega
  have hskI2 : (2 : Int) ≤ (skip : Int) := by omega
  have hNI : (N : Int) ≤ 24 := by omega
  have hNI1 : (1 : Int) ≤ (N : Int) := by omega
  have Hb := Lib.hid (And.intro hskb hNb)
  clear hW hmm hM hs hl hsz hsk hN hskb hNb
  go_enter Tryz.func8, Tryz.ntmps8
  go_wp2_with fail
  refine (fixed_ok w).mono ?_
  rintro e w1 ⟨rfl, hu1⟩
  dsimp only
  have HU1 := Lib.hid hu1
  clear hu1
  go_wp2_with fail
  refine (Hsz.out w1).mono ?_
  rintro e w2 ⟨rfl, hu⟩
  dsimp only
  have HU2 : Hid (Upd (fun _ => False) w w2) := HU1.out.trans hu
  clear hu HU1 Hsz
  go_wp2_with fail
  refine (qnew_ok (skip + N) (by have := Hb.out; omega) (by have := Hb.out; omega) w2 _ (by omega)).mono ?_
  rintro e w3 ⟨db, F, rfl, hD, hu, hF⟩
  dsimp only
  have H3 := Lib.hid (And.intro hD (And.intro (HU2.out.trans hu) (fun q hq => Nat.le_trans HU2.out.size (hF q hq))))
  clear hD hu hF HU2
  go_wp2_with fail
  refine (qmake_ok skip N Hb.out.1.1 Hb.out.2.1 (by have := Hb.out; omega) H3.out.1 skip rfl).mono ?_
  rintro e w4 ⟨pb, K4, rfl, hp, hu, hK⟩
  dsimp only
  have H4 : Hid (Pgr w4 pb db skip N [] 0 (-1) K4 ∧ Upd (fun _ => False) w w4 ∧ ∀ q, K4 q → w.heap.size ≤ q) :=
    ⟨hp, H3.out.2.1.then hu (fun q hq => .inr (H3.out.2.2 q hq)), (fun q hq => by
      rcases hK q hq with e | e
      · exact H3.out.2.2 q e
      · exact Nat.le_trans H3.out.2.1.size e)⟩
  clear hp hu hK H3
  go_wp2_with fail
  have en : (skip : Int) + (N : Int) - (skip : Int) = (N : Int) := by omega
  have es : (skip : Int) - 1 = ((skip - 1 : Nat) : Int) := by have := Hb.out; omega
  simp only [en, es]
  have h5 : PP w (w4.alloc (.cells #[.int .i64 N, .int .i64 ((skip - 1 : Nat) : Int), .slice none 0 0] 48)) pb db w4.heap.size skip N [] [] 0 (-1) := by
    have ha : Upd (fun _ => False) w4 (w4.alloc (.cells #[.int .i64 N, .int .i64 ((skip - 1 : Nat) : Int), .slice none 0 0] 48)) := (Upd.refl _ w4).alloc _
    have hc := CellsA.new w4 48 [.int .i64 N, .int .i64 ((skip - 1 : Nat) : Int), .slice none 0 0]
    have hz : (w4.alloc (.cells #[.int .i64 N, .int .i64 ((skip - 1 : Nat) : Int), .slice none 0 0] 48)).heap.size = w4.heap.size + 1 := by simp
    have hz4 := H4.out.2.1.size
    refine ⟨K4, _, H4.out.1.upd ha (fun _ _ h => h), Rpg.new hc, ⟨H4.out.2.1.trans ha, fun q hq => ⟨H4.out.2.2 q hq, fun e => ?_⟩, fun q hq => by rw [hq]; exact hz4, fun q hq => ?_, fun q hq => by rw [hq, hz]; omega⟩, SameC.nil⟩
    · have := H4.out.1.lt q hq; omega
    · have := H4.out.1.lt q hq; omega
  generalize w4.alloc (.cells #[.int .i64 N, .int .i64 ((skip - 1 : Nat) : Int), .slice none 0 0] 48) = w5 at *
  generalize w4.heap.size = rb at *
  clear en es H4
  have hd5 : Upd (fun _ => False) w5 w5.drew := (Upd.refl _ w5).drew
  have h5d := h5.quiet hd5
  have hbl : Calls Tryz.prog 27 #[.pointer (some ⟨pb, 0, none⟩)] w5.drew fun e w' => e = .returned (.int .i64 (N : Nat)) ∧ w' = w5.drew.drew := by
    obtain ⟨K, J, h1, _⟩ := h5d
    exact qblocks_ok h1
  have HS : w5.drew.cell? ⟨rb, 0, none⟩ = some (.int .i64 N) := h5d.cells.1
  have H5 := Lib.hid (And.intro h5d hbl)
  clear h5 h5d hd5 hbl
  refine wp_region_planD (fun u => u.cell? ⟨rb, 0, none⟩ = some (.int .i64 N)) 15 [(0, true), (1, true), (2, true), (3, true), (4, true), (5, true), (6, true), (7, true), (9, true), (10, true), (11, true), (12, true), (8, false), (13, true), (14, true)] (by kernel_rfl) (by kernel_rfl) (fun d _ _ _ _ h => by cases d <;> exact h) HS ?_
  iterate 12 (first | (apply planD_held rfl rfl rfl (by simp) HS; (intro w' hS K hK; go_simp; exact hK)) | (apply planD_wanted rfl rfl rfl (by simp) HS; (intro w' hS K hK; go_simp; exact hK)))
  refine planD_op rfl rfl (fun K hK => ?_)
  go_simp
  refine H5.out.2.mono ?_
  rintro e w6 ⟨rfl, rfl⟩
  dsimp only
  refine hK _ _ _ (fun u h => h) (fun _ => HS) ?_
  clear hK
  try (simp only [Act.put, List.setIfInBounds_toArray, List.set_cons_zero, List.set_cons_succ])
  iterate 2 (first | (apply planD_held rfl rfl rfl (by simp) HS; (intro w' hS K hK; go_simp; exact hK)) | (apply planD_wanted rfl rfl rfl (by simp) HS; (intro w' hS K hK; go_simp; exact hK)))
  refine planD_nil ?_
  have H6 : Hid (PlP0 w w5.drew.drew pb db rb skip N) := ⟨[], [], 0, H5.out.1.quiet (Upd.refl (fun _ => False) _).drew, Nat.le_refl _⟩
  clear HS H5
  generalize w5.drew.drew = w6 at *
  go_wp2_with fail
  refine H6.out.begin.mono ?_
  rintro e w7 ⟨tb, rfl, h7⟩
  dsimp only
  have H7 : Hid (PlB w w7 tb pb db rb skip N 0) := h7
  clear h7 H6
  go_upto_block 0 with (fail)
  have H8 : Hid (PlS w (w7.alloc (.cells #[.pointer (some ⟨rb, 0, none⟩), .slice none 0 0] 51)) tb pb db w7.heap.size rb skip N 0) := H7.out.new
  generalize w7.alloc (.cells #[.pointer (some ⟨rb, 0, none⟩), .slice none 0 0] 51) = w8 at *
  generalize w7.heap.size = xb at *
  clear H7
  go_wp2_with fail
  go_loopw [10, 11, 13, 14, 15] (fun pv ev tv xv iv wr => ∃ k pb tb xb : Nat, k ≤ M ∧ pv = .pointer (some ⟨pb, 0, none⟩) ∧ ev = .int .i64 0 ∧ tv = .pointer (some ⟨tb, 0, none⟩) ∧ xv = .pointer (some ⟨xb, 0, none⟩) ∧ iv = .int .i64 k ∧ Hid (PlS w wr tb pb db xb rb skip N k)) (fun _ _ _ _ iv _ => M - (intOf iv).toNat)
  case atStart => exact ⟨0, pb, tb, xb, Nat.zero_le _, rfl, rfl, rfl, rfl, rfl, H8⟩
  case round =>
    clear H8
    obtain ⟨k, pb, tb, xb, hk, rfl, rfl, rfl, rfl, rfl, HR⟩ := hrel
    by_cases hlt : k < M
    · have hltI : (k : Int) < (M : Int) := by omega
      have hjl : k < l.length := by rw [H.out.2.1]; exact hlt
      have hkb : k + 1 ≤ 5000000000000 := by omega
      obtain ⟨o, ho⟩ : ∃ o, l[k] = o := ⟨_, rfl⟩
      have hol : o ∈ l := ho ▸ List.getElem_mem _
      obtain ⟨xg, xo, rfl, hr⟩ := pop_at H.out.1.1 k hjl
      rw [ho] at hr
      have hro : wr.rangeAt xg (xo + k * 3) (popV o) := HR.out.upd0.range hr (fun h => h)
      have Hok := Lib.hid (And.intro (H.out.1.2.1 o hol) hkb)
      have hal : Upd (fun _ => False) wr (wr.alloc (.cells #[.int .u8 o.kind, .int .i64 o.b, .string o.data] 36)) := (Upd.refl _ wr).alloc _
      have hcs := CellsA.new wr 36 [.int .u8 o.kind, .int .i64 o.b, .string o.data]
      have HT : Hid (PlS w (wr.alloc (.cells #[.int .u8 o.kind, .int .i64 o.b, .string o.data] 36)) tb pb db xb rb skip N k) := HR.out.quiet hal
      have hc0 := hcs.cell 0
      simp only [List.getElem?_cons_zero, List.getElem?_cons_succ] at hc0
      have hrn : (wr.alloc (.cells #[.int .u8 o.kind, .int .i64 o.b, .string o.data] 36)).rangeAt wr.heap.size 0 [.int .u8 o.kind, .int .i64 o.b, .string o.data] := hcs.range
      rw [popV] at hro
      clear hr hol ho hal hcs HR hkb hjl
      obtain ⟨m, hm⟩ : ∃ m, o.kind % 6 = m := ⟨_, rfl⟩
      have hkI : (o.kind : Int) ≤ 255 := by have := Hok.out.1.kind; omega
      have q0 : (o.kind : Int) % 6 = (m : Int) := by omega
      have q1 : (o.kind : Int).tmod 6 = (m : Int) := by rw [Int.tmod_eq_emod_of_nonneg (by omega)]; exact q0
      have hm6 : m < 6 := by omega
      clear hm
      go_upto_block 2 with (first | ((with_reducible apply wpl_load_mid xg (xo + k * 3) [.int .u8 o.kind, .int .i64 o.b, .string o.data]); exact rfl; exact hro; exact Tryz.underlying36; exact rfl; exact sizePop4; try (simp only [Act.put, List.setIfInBounds_toArray, List.set_cons_zero, List.set_cons_succ])) | ((with_reducible apply wpl_store_new); exact rfl; exact rfl; exact sizePop4; exact rfl; exact rfl; try (simp only [Act.put, List.setIfInBounds_toArray, List.set_cons_zero, List.set_cons_succ])))
      generalize wr.alloc (.cells #[.int .u8 o.kind, .int .i64 o.b, .string o.data] 36) = w9 at *
      generalize wr.heap.size = ob at *
      go_cut [10, 11, 13] (fun pv ev tv wr => ∃ pb tb : Nat, pv = .pointer (some ⟨pb, 0, none⟩) ∧ ev = .int .i64 0 ∧ tv = .pointer (some ⟨tb, 0, none⟩) ∧ Hid (PlP w wr tb pb db rb skip N (k + 1)))
      case first =>
        rcases (by omega : m = 0 ∨ m = 1 ∨ m = 2 ∨ m = 3 ∨ m = 4 ∨ m = 5) with h0 | h1 | h2 | h3 | h4 | h5
        · skip
          obtain rfl : m = 0 := h0
          go_wp2_with (first | ((with_reducible apply wpl_load_mid ob 0 [.int .u8 o.kind, .int .i64 o.b, .string o.data]); exact rfl; exact hrn; exact Tryz.underlying36; exact rfl; exact sizePop4; try (simp only [Act.put, List.setIfInBounds_toArray, List.set_cons_zero, List.set_cons_succ])))
          refine (HT.out.step o Hok.out.1 (by have := Hok.out.2; omega)).mono ?_
          rintro e wa ⟨rfl, ha⟩
          dsimp only
          have HA : Hid (PlS w wa tb pb db xb rb skip N (k + 1)) := ha.le (by omega)
          clear ha HT hrn hc0 hro
          go_wp2_with fail
          exact ⟨⟨k + 1, pb, tb, xb, by omega, rfl, rfl, rfl, rfl, by go_num, HA⟩, by simp [intOf]; omega⟩
        · skip
          obtain rfl : m = 1 := h1
          go_wp2_with (first | ((with_reducible apply wpl_load_mid ob 0 [.int .u8 o.kind, .int .i64 o.b, .string o.data]); exact rfl; exact hrn; exact Tryz.underlying36; exact rfl; exact sizePop4; try (simp only [Act.put, List.setIfInBounds_toArray, List.set_cons_zero, List.set_cons_succ])))
          refine (HT.out.step o Hok.out.1 (by have := Hok.out.2; omega)).mono ?_
          rintro e wa ⟨rfl, ha⟩
          dsimp only
          have HA : Hid (PlS w wa tb pb db xb rb skip N (k + 1)) := ha.le (by omega)
          clear ha HT hrn hc0 hro
          go_wp2_with fail
          exact ⟨⟨k + 1, pb, tb, xb, by omega, rfl, rfl, rfl, rfl, by go_num, HA⟩, by simp [intOf]; omega⟩
        · obtain rfl : m = 2 := h2
          go_wp2_with fail
          refine (HT.out.commit Hb.out.2.1 (by have := Hok.out.2; omega)).mono ?_
          rintro e wa ⟨a, r, rfl, ha⟩
          dsimp only
          have HA : Hid (PlC w wa tb pb db xb rb skip N k a r) := ha
          clear ha HT hrn hc0 hro
          go_wp2_with fail
          refine (HA.out.commit (by have := Hok.out.2; omega)).mono ?_
          rintro e wc ⟨rfl, hc⟩
          dsimp only
          have HC : Hid (PlP w wc tb pb db rb skip N (k + 1)) := hc
          clear hc HA
          go_wp2_with fail
          go_meet
          exact ⟨pb, tb, rfl, rfl, rfl, HC⟩
        · obtain rfl : m = 3 := h3
          go_wp2_with fail
          refine HT.out.abort.mono ?_
          rintro e wa ⟨rfl, ha⟩
          dsimp only
          have HA : Hid (PlP w wa tb pb db rb skip N (k + 1)) := ha.le (by omega)
          clear ha HT hrn hc0 hro
          go_wp2_with fail
          go_meet
          exact ⟨pb, tb, rfl, rfl, rfl, HA⟩
        · obtain rfl : m = 4 := h4
          go_wp2_with fail
          refine HT.out.sync.mono ?_
          rintro e wa ⟨rfl, n, hn, ha⟩
          dsimp only
          have hnI : (n : Int) ≤ 5000000000000 := by have := Hok.out.2; omega
          have HA : Hid (PlY w wa tb pb db xb rb skip N k n) := ha
          clear ha HT hrn hc0 hro
          go_wp2_with fail
          refine HA.out.synced.mono ?_
          rintro e wc ⟨rfl, rfl⟩
          dsimp only
          go_wp2_with fail
          refine HA.out.done.mono ?_
          rintro e wc ⟨rfl, rfl⟩
          dsimp only
          have HC : Hid (PlS w wa tb pb db xb rb skip N (k + 1)) := HA.out.pls.le (by omega)
          clear HA
          go_wp2_with fail
          exact ⟨⟨k + 1, pb, tb, xb, by omega, rfl, rfl, rfl, rfl, by go_num, HC⟩, by simp [intOf]; omega⟩
        · obtain rfl : m = 5 := h5
          go_wp2_with fail
          refine HT.out.abort.mono ?_
          rintro e wa ⟨rfl, ha⟩
          dsimp only
          have HA : Hid (PlP w wa tb pb db rb skip N (k + 1)) := ha.le (by omega)
          clear ha HT hrn hc0 hro
          go_wp2_with fail
          refine HA.out.sync.mono ?_
          rintro e wc ⟨rfl, n, hn, hc⟩
          dsimp only
          have hnI : (n : Int) ≤ 5000000000000 := by have := Hok.out.2; omega
          have HC : Hid (PlZ w wc tb pb db rb skip N (k + 1) n) := hc
          clear hc HA
          go_wp2_with fail
          refine (HC.out.open Hb.out.1.1 Hb.out.2.1 skip rfl).mono ?_
          rintro e wd ⟨pb5, rfl, hd⟩
          dsimp only
          have HD : Hid (PlZ w wd tb pb5 db rb skip N (k + 1) n) := hd
          clear hd HC
          go_wp2_with fail
          refine HD.out.synced.mono ?_
          rintro e we ⟨rfl, rfl⟩
          dsimp only
          go_wp2_with fail
          refine HD.out.done.mono ?_
          rintro e we ⟨rfl, rfl⟩
          dsimp only
          have HE : Hid (PlP w wd tb pb5 db rb skip N (k + 1)) := HD.out.plp
          clear HD
          go_wp2_with fail
          go_meet
          exact ⟨pb5, tb, rfl, rfl, rfl, HE⟩
      case rest =>
        clear HT hrn hc0 hro q0 q1 hm6
        obtain ⟨pb, tb, rfl, rfl, rfl, HC⟩ := hcut
        go_wp2_with fail
        have hcd : PlP w wc.drew tb pb db rb skip N (k + 1) := HC.out.quiet (Upd.refl (fun _ => False) _).drew
        obtain ⟨n, x, c, hn, hcell, hdone, hdirty⟩ := hcd.look
        have hnI : (n : Int) ≤ 5000000000000 := by have := Hok.out.2; omega
        have HL := Lib.hid (And.intro hdone hdirty)
        have HCD := Lib.hid hcd
        have HS : wc.drew.cell? ⟨rb, 2, none⟩ = some (.slice x n c) := hcell
        clear hcell hdone hdirty hcd HC
        refine wp_region_planD (fun u => u.cell? ⟨rb, 2, none⟩ = some (.slice x n c)) 13 [(0, true), (2, true), (3, true), (4, true), (5, true), (6, true), (1, false), (7, true), (8, true), (9, true), (10, false), (11, true), (12, true)] (by kernel_rfl) (by kernel_rfl) (fun d _ _ _ _ h => by cases d <;> exact h) HS ?_
        iterate 6 (first | (apply planD_held rfl rfl rfl (by simp) HS; (intro w' hS K hK; go_simp; exact hK)) | (apply planD_wanted rfl rfl rfl (by simp) HS; (intro w' hS K hK; go_simp; exact hK)))
        refine planD_op rfl rfl (fun K hK => ?_)
        go_simp
        refine HL.out.1.mono ?_
        rintro e wd ⟨rfl, rfl⟩
        dsimp only
        refine hK _ _ _ (fun u h => h) (fun _ => HS) ?_
        clear hK
        try (simp only [Act.put, List.setIfInBounds_toArray, List.set_cons_zero, List.set_cons_succ])
        iterate 3 (first | (apply planD_held rfl rfl rfl (by simp) HS; (intro w' hS K hK; go_simp; exact hK)) | (apply planD_wanted rfl rfl rfl (by simp) HS; (intro w' hS K hK; go_simp; exact hK)))
        refine planD_op rfl rfl (fun K hK => ?_)
        go_simp
        refine HL.out.2.mono ?_
        rintro e wd ⟨rfl, rfl⟩
        dsimp only
        refine hK _ _ _ (fun u h => h) (fun _ => HS) ?_
        clear hK
        try (simp only [Act.put, List.setIfInBounds_toArray, List.set_cons_zero, List.set_cons_succ])
        iterate 2 (first | (apply planD_held rfl rfl rfl (by simp) HS; (intro w' hS K hK; go_simp; exact hK)) | (apply planD_wanted rfl rfl rfl (by simp) HS; (intro w' hS K hK; go_simp; exact hK)))
        refine planD_nil ?_
        clear HS HL
        generalize wc.drew = wd at *
        go_wp2_with fail
        refine HCD.out.begin.mono ?_
        rintro e we ⟨tb7, rfl, h7⟩
        dsimp only
        have H7 : Hid (PlB w we tb7 pb db rb skip N (k + 1)) := h7
        clear h7 HCD
        go_wp2_with fail
        exact ⟨⟨k + 1, pb, tb7, _, by omega, rfl, rfl, rfl, rfl, by go_num, Lib.hid H7.out.new⟩, by simp [intOf]; omega⟩
    · obtain rfl : k = M := by omega
      go_wp2_with fail
      go_ret
      exact ⟨rfl, HR.out.upd0.below0⟩
end Go.Proofs.YtihlijnobbonbaaGreat
