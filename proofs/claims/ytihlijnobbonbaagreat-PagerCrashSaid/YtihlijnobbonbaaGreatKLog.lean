/- Package wal: contracts, second part (load, Open, a log that lives). -/
import Derived.Test.YtihlijnobbonbaaGreatKWal
import Derived.Test.YtihlijnobbonbaaGreatKPlain
import Derived.Deep.CutBlock
set_option linter.unusedSimpArgs false
set_option linter.unusedVariables false
/- wal: load. -/
namespace Go.Proofs.YtihlijnobbonbaaGreat
open Go.RowKit
set_option linter.unusedSimpArgs false
set_option linter.unusedVariables false
set_option maxRecDepth 100000

theorem read_of_vis {D : DSt} {i : Nat} {x : Bytes} (hd : D.dead = false) (h : (done D.secs D.waits)[i]? = some x) : D.read (i : Nat) = (x, 0) := by
  have hi : i < D.secs.length := by
    rcases Nat.lt_or_ge i D.secs.length with h' | h'
    · exact h'
    · rw [List.getElem?_eq_none (by rw [done_length]; exact h')] at h; cases h
  rw [done_lastOf _ _ _ hi] at h
  cases h
  exact DSt.read_eq hd (by omega) (by omega)
theorem slice_fromk {P : Program} (t e : TypeId) (hu : P.underlying t = some (.slice e)) (hs : (P.info? e).map (·.size) = some 1) (g off n cap k : Nat) (h1 : k ≤ n) (h2 : k < cap) (w : World) :
    (Instr.slice t (.slice (some ⟨g, off, none⟩) n cap) (some (.int .i64 k)) none none).run P w = .ok (.slice (some ⟨g, off + k, none⟩) (n - k) (cap - k)) w := by
  cases hq : P.info? e with
  | none => simp [hq] at hs
  | some i =>
    have hi : i.size = 1 := by simpa [hq] using hs
    have hu' : P.underlying t = some (.slice (P.elem t)) := by rw [hu]; simp [Program.elem, hu]
    have he : P.elem t = e := by simp [Program.elem, hu]
    rw [run_slice_l w t (some ⟨g, off, none⟩) n cap hu' .i64 k (by omega) (by omega)]
    simp [sizeOf, typeInfo, he, hq, hi, sliced, Addr.add_mid]
    omega
theorem slice_fromI {P : Program} (t e : TypeId) (hu : P.underlying t = some (.slice e)) (hs : (P.info? e).map (·.size) = some 1) (g off n cap k : Nat) (kI : Int) (n' c' : Nat) (hk : kI = (k : Nat)) (h1 : k ≤ n) (h2 : k < cap) (hn : n - k = n') (hc : cap - k = c') (w : World) :
    (Instr.slice t (.slice (some ⟨g, off, none⟩) n cap) (some (.int .i64 kI)) none none).run P w = .ok (.slice (some ⟨g, off + k, none⟩) n' c') w := by
  subst hk; subst hn; subst hc
  exact slice_fromk t e hu hs g off n cap k h1 h2 w
theorem slice_to {P : Program} (t e : TypeId) (hu : P.underlying t = some (.slice e)) (hs : (P.info? e).map (·.size) = some 1) (g off n cap k : Nat) (h1 : k ≤ cap) (h0 : 0 < cap) (w : World) :
    (Instr.slice t (.slice (some ⟨g, off, none⟩) n cap) none (some (.int .i64 k)) none).run P w = .ok (.slice (some ⟨g, off, none⟩) k cap) w := by
  cases hq : P.info? e with
  | none => simp [hq] at hs
  | some i =>
    have hi : i.size = 1 := by simpa [hq] using hs
    have hu' : P.underlying t = some (.slice (P.elem t)) := by rw [hu]; simp [Program.elem, hu]
    have he : P.elem t = e := by simp [Program.elem, hu]
    rw [run_slice_h w t (some ⟨g, off, none⟩) n cap hu' .i64 k (by omega) (by omega)]
    simp [sizeOf, typeInfo, he, hq, hi, sliced, Addr.add_mid]
/-- A part of what a slice of bytes shows. -/
theorem sees_part {w : World} {g off n cap : Nat} {bs : Bytes} (h : w.rangeAt g off (bvs bs)) (i k c : Nat) (hk : i + k ≤ bs.length) (hm : k ≤ maxLen) : Sees w 1 (.slice (some ⟨g, off + i, none⟩) k c) k (bvs ((bs.drop i).take k)) := by
  have hl : ((bs.drop i).take k).length = k := by rw [List.length_take, List.length_drop]; omega
  refine Sees.at (by rw [bvs_length, hl]; omega) hm (rangeAt.sub h i ?_)
  rw [bvs_length, hl, bvs, bvs, ← List.map_drop, ← List.map_take]
theorem get_part {w : World} {g off n cap : Nat} {bs : Bytes} (h : w.rangeAt g off (bvs bs)) (i k N : Nat) (hi : i + k ≤ bs.length) (hb : bs.length ≤ n) (hk : k ≤ 8) (hN : unB ((bs.drop i).take k) = N) (hm : bs.length ≤ maxLen) (ni : Nat) (hni : bs.length = ni + i) (ci : Nat) :
    Calls Tryz.prog 72 #[.slice (some ⟨g, off + i, none⟩) ni ci, .int .i64 k] w fun e w' => e = .returned (.int .u64 N) ∧ w = w' := by
  have hs : Sees w 1 (.slice (some ⟨g, off + i, none⟩) ni ci) (bs.drop i).length (bvs (bs.drop i)) := by
    have hl : (bs.drop i).length = ni := by rw [List.length_drop]; omega
    rw [hl]
    have h2 := sees_part (n := n) (cap := cap) h i ni ci (by omega) (by omega)
    rwa [List.take_of_length_le (by rw [hl]; exact Nat.le_refl _)] at h2
  have := get_ok (some ⟨g, off + i, none⟩) ni ci (bs.drop i) k w hs hk (by rw [List.length_drop]; omega)
  rw [hN] at this
  exact this
/-- What load leaves. -/
def LoadPost (w : World) (lb : Nat) (pre : List Value) (b : Batch) (x : Option Addr) (c : Nat) (w' : World) : Prop :=
  Mid w' 1 (.slice x b.length c) b.length (strsV b) ∧ (∀ k, (Value.slice x b.length c).ownBlock = some k → w.heap.size ≤ k) ∧ Upd (fun k => k = lb) w w' ∧ Cells9 w' lb pre

/-- The sectors so far. -/
def LdR (w : World) (e : Bytes) (k m : Nat) (x : Option Addr) (c : Nat) (wr : World) : Prop :=
  Mid wr 1 (.slice x m c) m (bvs (catP e k)) ∧ Upd (fun _ => False) w wr ∧ (∀ j, (Value.slice x m c).ownBlock = some j → w.heap.size ≤ j) ∧ m = 512 * k
theorem infoS : (Tryz.prog.info? 9).map (fun i => (i.zero, i.size, i.bytes)) = some (some (.string .empty), 1, 16) := by kernel_rfl
/-- The records so far: j of them are read, the rest lies from o on. -/
def PrR (w : World) (lb : Nat) (pre : List Value) (b : Batch) (g2 j : Nat) (x : Option Addr) (c o M rc : Nat) (wr : World) : Prop :=
  Mid wr 1 (.slice x j c) j (strsV (b.take j)) ∧ wr.rangeAt g2 o (bvs (bodyB (b.drop j))) ∧ M = (bodyB (b.drop j)).length ∧ M ≤ rc ∧ Upd (fun k => k = lb) w wr ∧ (∀ k, (Value.slice x j c).ownBlock = some k → w.heap.size ≤ k ∧ k ≠ g2) ∧ Cells9 wr lb pre ∧ w.heap.size ≤ g2 ∧ g2 < wr.heap.size
/-- A part of bytes, however little is left. -/
theorem slice_lhA {P : Program} (t e : TypeId) (hu : P.underlying t = some (.slice e)) (hs : (P.info? e).map (·.size) = some 1) (g off n cap lo hi : Nat) (lI hI : Int) (n' c' o' : Nat) (hl : lI = (lo : Nat)) (hh : hI = (hi : Nat)) (h1 : lo ≤ hi) (h2 : hi ≤ cap) (hn : hi - lo = n') (hc : cap - lo = c') (ho : (if cap = lo then off else off + lo) = o') (w : World) :
    (Instr.slice t (.slice (some ⟨g, off, none⟩) n cap) (some (.int .i64 lI)) (some (.int .i64 hI)) none).run P w = .ok (.slice (some ⟨g, o', none⟩) n' c') w := by
  subst hl; subst hh; subst hn; subst hc; subst ho
  cases hq : P.info? e with
  | none => simp [hq] at hs
  | some i =>
    have hi' : i.size = 1 := by simpa [hq] using hs
    have hu' : P.underlying t = some (.slice (P.elem t)) := by rw [hu]; simp [Program.elem, hu]
    have he : P.elem t = e := by simp [Program.elem, hu]
    rw [run_slice_lh w t (some ⟨g, off, none⟩) n cap hu' .i64 .i64 lo hi (by omega) (by omega) (by omega)]
    by_cases hc : cap = lo
    · simp [sizeOf, typeInfo, he, hq, hi', sliced, hc]
    · simp [sizeOf, typeInfo, he, hq, hi', sliced, Addr.add_mid, hc]
theorem slice_fromA {P : Program} (t e : TypeId) (hu : P.underlying t = some (.slice e)) (hs : (P.info? e).map (·.size) = some 1) (g off n cap k : Nat) (kI : Int) (n' c' o' : Nat) (hk : kI = (k : Nat)) (h1 : k ≤ n) (hn : n - k = n') (hc : cap - k = c') (ho : (if cap = k then off else off + k) = o') (w : World) :
    (Instr.slice t (.slice (some ⟨g, off, none⟩) n cap) (some (.int .i64 kI)) none none).run P w = .ok (.slice (some ⟨g, o', none⟩) n' c') w := by
  subst hk; subst hn; subst hc; subst ho
  cases hq : P.info? e with
  | none => simp [hq] at hs
  | some i =>
    have hi : i.size = 1 := by simpa [hq] using hs
    have hu' : P.underlying t = some (.slice (P.elem t)) := by rw [hu]; simp [Program.elem, hu]
    have he : P.elem t = e := by simp [Program.elem, hu]
    rw [run_slice_l w t (some ⟨g, off, none⟩) n cap hu' .i64 k (by omega) (by omega)]
    by_cases hc : cap = k
    · simp [sizeOf, typeInfo, he, hq, hi, sliced, hc]
    · simp [sizeOf, typeInfo, he, hq, hi, sliced, Addr.add_mid, hc]
set_option maxHeartbeats 2000000 in
theorem load_ok {w : World} {lb db : Nat} {L : LSt} {lv : Value} {D : DSt} {G : Nat → Prop} (hC : Cells9 w lb (preL L db lv)) (hOk : L.Ok) (hD : DiskAt w db D G) (hd : D.dead = false) (hG : ¬ G lb) (hwt : D.waits.length < 99999999990)
    (a num : Nat) (b : Batch) (ha : a ≤ 1000000) (hnum : num < 1000000000000000000) (hnb : needB b ≤ L.n - 1) (hV : ∀ j, j < needB b → (done D.secs D.waits)[ringAt L.fr L.n (a + j)]? = some (pad (chunk (encB num b) j))) :
    Calls Tryz.prog 73 #[.pointer (some ⟨lb, 0, none⟩), .int .i64 a, .int .i64 num] w fun e w' => ∃ x c, e = .returned (.tuple #[.slice x b.length c, .int .i64 (needB b : Nat), .int .i64 0]) ∧ LoadPost w lb (preL L db lv) b x c w' := by
  obtain ⟨c0, c1, c2, c3, c4, c5, c6, c7, c8⟩ := nine hC
  obtain ⟨n, hn⟩ : ∃ n, L.n = n := ⟨_, rfl⟩
  obtain ⟨e, he⟩ : ∃ e, encB num b = e := ⟨_, rfl⟩
  obtain ⟨nb, hnb'⟩ : ∃ nb, needB b = nb := ⟨_, rfl⟩
  obtain ⟨N, hN⟩ : ∃ N, bytesOf b = N := ⟨_, rfl⟩
  have hel : e.length = N := by rw [← he, encB_length, hN]
  have hnbN : nb = (N + 511) / 512 := by rw [← hnb', needB, hN]
  have hN16 : 16 ≤ N := by rw [← hN, bytesOf_eq]; omega
  have hn2 : 2 ≤ n ∧ n ≤ 4096 := by have := hOk.two; have := hOk.fit; omega
  rw [hn] at c2 hnb
  rw [hnb'] at hnb hV
  rw [he] at hV
  have hN2 : N ≤ (n - 1) * 512 := by omega
  have hv0 := hV 0 (by omega)
  have hrd0 := read_of_vis hd hv0
  rw [Nat.add_zero, ← LSt.ring_eq] at hrd0
  have H := Lib.hid (And.intro hC (And.intro hOk (And.intro hD (And.intro hd (And.intro hG (And.intro hwt (And.intro hV (And.intro hn (And.intro he (And.intro hnb' hN))))))))))
  have Hn := Lib.hid (And.intro hel (And.intro hnbN (And.intro hN16 (And.intro hn2 (And.intro hN2 (And.intro hnb (And.intro hnum ha)))))))
  have Hr := Lib.hid hrd0
  have HS : w.drew.cell? ⟨lb, 0, none⟩ = some (.pointer (some ⟨db, 0, none⟩)) := c0
  rw [hnb']
  clear hC hOk hD hd hG hwt hV hn he hnb' hN hel hnbN hN16 hn2 hN2 hnb hnum ha hv0 hrd0 c0 c1 c3 c4 c5 c6 c7 c8
  go_enter Tryz.func73, Tryz.ntmps73
  go_wp2_with fail
  refine wp_region_planD (fun w' => w'.cell? ⟨lb, 0, none⟩ = some (.pointer (some ⟨db, 0, none⟩))) 13 [(0, true), (1, true), (2, true), (3, true), (4, true), (5, true), (6, false), (7, false), (8, true), (9, true), (10, true), (11, true), (12, true)] (by kernel_rfl) (by kernel_rfl) (fun d _ _ _ _ h => by cases d <;> exact h) HS ?_
  iterate 6 (apply planD_held rfl rfl rfl (by simp) HS; (intro w' hS K hK; go_simp; exact hK))
  refine planD_op rfl rfl (fun K hK => ?_)
  go_simp
  have hdr : Upd (fun _ => False) w w.drew := (Upd.refl _ w).drew
  refine (ring_ok lb L db lv a _ (H.out.1.upd hdr (fun h => h)) H.out.2.1 (by have := Hn.out.2.2.2.2.2.2.2; omega)).mono ?_
  rintro e' w8 ⟨rfl, rfl⟩
  dsimp only
  refine hK _ _ _ (fun u h => h) (fun _ => HS) ?_
  clear hK
  try (simp only [Act.put, List.setIfInBounds_toArray, List.set_cons_zero, List.set_cons_succ])
  refine planD_op rfl rfl (fun K hK => ?_)
  go_simp
  have hdr2 : Upd (fun _ => False) w w.drew.drew := ((Upd.refl _ w).drew).drew
  refine (read_disk (H.out.2.2.1.upd hdr2 (fun _ _ h => h)) (by have := H.out.2.2.2.2.2.1; omega) (L.ring a : Nat) Hr.out).mono ?_
  rintro e' w1 ⟨xa, xc, rfl, hrow, hu1, -, -⟩
  dsimp only
  have hpl := pad_length (chunk_le e 0)
  rw [hpl] at hrow ⊢
  obtain ⟨g, hxa, hgb, hglt, -⟩ := row_some hrow (by decide)
  subst hxa
  have hU1 : Upd (fun _ => False) w w1 := hdr2.trans hu1
  have hm1 := mid_of_row hrow
  have hxc : 512 ≤ xc := by
    obtain ⟨_, ⟨h, _⟩ | ⟨g', o', c', h, h1, _⟩⟩ := hm1
    · cases h
    · cases h; exact h1
  have hr1 : w1.rangeAt g 0 (bvs (pad (chunk e 0))) := row_range hrow (by rw [List.drop_zero, List.take_length])
  have hC1 := H.out.1.upd hU1 (fun h => h)
  obtain ⟨d0, d1, d2, d3, d4, d5, d6, d7, d8⟩ := nine hC1
  have HS1 : w1.cell? ⟨lb, 0, none⟩ = some (.pointer (some ⟨db, 0, none⟩)) := d0
  have H1 := Lib.hid (And.intro hU1 (And.intro hm1 (And.intro hr1 (And.intro hC1 (And.intro hgb (And.intro hpl hxc))))))
  rw [H.out.2.2.2.2.2.2.2.1] at d2
  refine hK _ _ _ (fun u h => h) (fun _ => HS1) ?_
  clear hK HS hdr hdr2 hrow hu1 hU1 hm1 hr1 hC1 hgb hpl hglt d0 d1 d3 d4 d5 d6 d7 d8 c2
  try (simp only [Act.put, List.setIfInBounds_toArray, List.set_cons_zero, List.set_cons_succ])
  iterate 5 (apply planD_held rfl rfl rfl (by simp) HS1; (intro w' hS K hK; go_simp; exact hK))
  refine planD_nil ?_
  clear HS1
  go_wp2_with fail
  have hpl := H1.out.2.2.2.2.2.1
  have hxc := H1.out.2.2.2.2.2.2
  have g1 := get_part (n := 512) (cap := xc) H1.out.2.2.1 0 4 N (by omega) (by omega) (by decide) (by
    have h1 := Hn.out
    rw [chunk0_piece (by decide) (by omega), List.drop_zero, ← H.out.2.2.2.2.2.2.2.2.1, enc_size _ _ (by rw [H.out.2.2.2.2.2.2.2.2.2.2]; omega), H.out.2.2.2.2.2.2.2.2.2.2]) (by rw [hpl]; decide) 512 (by omega) xc
  have g2 := get_part (n := 512) (cap := xc) H1.out.2.2.1 4 8 num (by omega) (by omega) (by decide) (by
    have h1 := Hn.out
    rw [chunk0_piece (by decide) (by omega), ← H.out.2.2.2.2.2.2.2.2.1, enc_num _ _ (by omega)]) (by rw [hpl]; decide) 508 (by omega) (xc - 4)
  have G1 := Lib.hid g1
  have G2 := Lib.hid g2
  obtain ⟨b1, b2, b3, ⟨b4, b4'⟩, b5, b6, b7, b8⟩ := Hn.out
  have f1 : IntKind.i64.wrap (N : Int) = (N : Int) := by rw [IntKind.wrap_i64]; omega
  have f2 : IntKind.u64.wrap (num : Int) = (num : Int) := by show (num : Int) % 18446744073709551616 = _; omega
  have q1 : decide ((N : Int) < 16) = false := by simp; omega
  have q2 : decide (((n : Int) - 1) * 512 < (N : Int)) = false := by simp; omega
  have hNb : (N : Int) ≤ 3000000 := by omega
  have hnb2 : (n : Int) ≤ 4096 := by omega
  have hq : ((N : Int) + 512 - 1) / 512 = (nb : Int) := by omega
  have hsl4 : ∀ w, (Instr.slice 38 (.slice (some ⟨g, 0, none⟩) 512 xc) (some (.int .i64 4)) none none).run Tryz.prog w = .ok (.slice (some ⟨g, 4, none⟩) 508 (xc - 4)) w := fun w => by
    have := slice_fromk (P := Tryz.prog) 38 5 Tryz.underlying38 (by kernel_rfl) g 0 512 xc 4 (by decide) (by omega) w
    simpa using this
  clear g1 g2 b1 b2 b3 b4 b4' b5 b6 b7 b8 hpl hxc
  refine G1.out.mono ?_
  rintro e' w2 ⟨rfl, rfl⟩
  dsimp only
  go_wp2_with fail
  refine G2.out.mono ?_
  rintro e' w2 ⟨rfl, rfl⟩
  dsimp only
  go_wp2_with fail
  rw [hq]
  have HL0 : Hid (LdR w e 1 512 (some ⟨g, 0, none⟩) xc w1) := by
    have hm := H1.out.2.1
    exact ⟨by rw [catP_one]; exact hm, H1.out.1, (fun k hk => by cases hk; exact H1.out.2.2.2.2.1), rfl⟩
  clear G1 G2 hsl4 f1 f2 q1 q2 hq d2
  go_loopw [9, 13] (fun s i wr => ∃ (k m : Nat) (x : Option Addr) (c : Nat), 1 ≤ k ∧ k ≤ nb ∧ i = .int .i64 k ∧ s = .slice x m c ∧ Hid (LdR w e k m x c wr)) (fun _ i _ => nb - (intOf i).toNat)
  case atStart => exact ⟨1, 512, _, xc, Nat.le_refl _, by have := Hn.out; omega, rfl, rfl, HL0⟩
  case round =>
    clear HL0
    obtain ⟨k, m, x, c, hk1, hk, rfl, rfl, HL⟩ := hrel
    have hnbb : (nb : Int) ≤ 4096 := by have := Hn.out; omega
    by_cases hlt : k < nb
    · have hlt2 : (k : Int) < (nb : Int) := by omega
      obtain ⟨ak, hak⟩ : ∃ ak, a + k = ak := ⟨_, rfl⟩
      have hab : a ≤ 1000000 := by have := Hn.out; omega
      have f1 : IntKind.i64.wrap ((a : Int) + (k : Int)) = (ak : Int) := by rw [IntKind.wrap_i64]; omega
      have hrd := read_of_vis H.out.2.2.2.1 (H.out.2.2.2.2.2.2.1 k hlt)
      rw [← LSt.ring_eq, hak] at hrd
      obtain ⟨px, hpx⟩ : ∃ px, pad (chunk e k) = px := ⟨_, rfl⟩
      have hpl := pad_length (chunk_le e k)
      rw [hpx] at hrd hpl
      have hC2 := H.out.1.upd HL.out.2.1 (fun h => h)
      have HS : wr.drew.cell? ⟨lb, 0, none⟩ = some (.pointer (some ⟨db, 0, none⟩)) := (nine hC2).1
      have Hrd := Lib.hid (And.intro hrd (And.intro hC2 (And.intro (show ak ≤ 100000000000 by omega) (And.intro hpx hpl))))
      have hk5 : m ≤ 3000000 := by have := HL.out.2.2.2; omega
      clear hrd hC2 hak hab hpx hpl
      go_wp2_with fail
      refine wp_region_planD (fun w' => w'.cell? ⟨lb, 0, none⟩ = some (.pointer (some ⟨db, 0, none⟩))) 15 [(0, true), (1, true), (2, true), (3, true), (4, true), (5, true), (6, true), (7, true), (8, false), (9, false), (10, true), (11, true), (12, true), (13, true), (14, true)] (by kernel_rfl) (by kernel_rfl) (fun d _ _ _ _ h => by cases d <;> exact h) HS ?_
      iterate 8 (apply planD_held rfl rfl rfl (by simp) HS; (intro w' hS K hK; go_simp; exact hK))
      refine planD_op rfl rfl (fun K hK => ?_)
      go_simp
      have hdr : Upd (fun _ => False) wr wr.drew := (Upd.refl _ wr).drew
      refine (ring_ok lb L db lv ak _ (Hrd.out.2.1.upd hdr (fun h => h)) H.out.2.1 Hrd.out.2.2.1).mono ?_
      rintro e' w8 ⟨rfl, rfl⟩
      dsimp only
      refine hK _ _ _ (fun u h => h) (fun _ => HS) ?_
      clear hK
      try (simp only [Act.put, List.setIfInBounds_toArray, List.set_cons_zero, List.set_cons_succ])
      refine planD_op rfl rfl (fun K hK => ?_)
      go_simp
      have hdr2 : Upd (fun _ => False) wr wr.drew.drew := ((Upd.refl _ wr).drew).drew
      refine (read_disk (H.out.2.2.1.upd (HL.out.2.1.trans hdr2) (fun _ _ h => h)) (by have := H.out.2.2.2.2.2.1; omega) (L.ring ak : Nat) Hrd.out.1).mono ?_
      rintro e' w3 ⟨xa, xc3, rfl, hrow, hu3, -, -⟩
      dsimp only
      have hU3 : Upd (fun _ => False) wr w3 := hdr2.trans hu3
      have hC3 := Hrd.out.2.1.upd hU3 (fun h => h)
      have HS3 : w3.cell? ⟨lb, 0, none⟩ = some (.pointer (some ⟨db, 0, none⟩)) := (nine hC3).1
      have H3 := Lib.hid (And.intro hU3 (And.intro (sees_of_row hrow) (HL.out.1.upd hU3 (fun _ _ h => h))))
      refine hK _ _ _ (fun u h => h) (fun _ => HS3) ?_
      clear hK HS hdr hdr2 hrow hu3 hU3 hC3
      try (simp only [Act.put, List.setIfInBounds_toArray, List.set_cons_zero, List.set_cons_succ])
      iterate 5 (apply planD_held rfl rfl rfl (by simp) HS3; (intro w' hS K hK; go_simp; exact hK))
      refine planD_nil ?_
      clear HS3 f1
      go_wp2_with ((with_reducible apply wpl_append_mid 5 1 1 _ (.slice x m c) m (bvs (catP e k)) px.length (bvs px)))
      · exact Tryz.underlying38
      · exact infoU8
      · rfl
      · rfl
      · exact H3.out.2.2
      · exact H3.out.2.1
      · exact bvs_one _
      · have := Hrd.out.2.2.2.2; unfold maxLen; omega
      · have := Hrd.out.2.2.2.2; omega
      intro x' c' w4 hm4 hu4 hb4
      try (simp only [Act.put, List.setIfInBounds_toArray, List.set_cons_zero, List.set_cons_succ])
      rw [← bvs_append, ← Hrd.out.2.2.2.1, ← catP_succ, Hrd.out.2.2.2.1] at hm4
      obtain ⟨m2, hm2⟩ : ∃ m2, m + px.length = m2 := ⟨_, rfl⟩
      rw [hm2] at hm4 hb4 ⊢
      have HL4 : Hid (LdR w e (k + 1) m2 x' c' w4) := by
        have h0 := HL.out
        refine ⟨hm4, (h0.2.1.trans H3.out.1).then hu4 (fun j hj => .inr (h0.2.2.1 j hj)), fun j hj => ?_, by have := h0.2.2.2; have := Hrd.out.2.2.2.2; omega⟩
        have h1 := h0.2.1.size
        have h2 := H3.out.1.size
        rcases hb4 with h | h
        · exact h0.2.2.1 j (by rw [h] at hj; exact hj)
        · rw [h] at hj; cases hj; omega
      clear hm4 hu4 hb4 HL hm2 hk5
      go_wp2_with fail
      exact ⟨⟨k + 1, m2, x', c', by omega, by omega, by go_num, rfl, HL4⟩, by simp [intOf]; omega⟩
    · obtain rfl : k = nb := by omega
      clear hlt
      obtain ⟨hml, ⟨hs0, hm0⟩ | ⟨g2, o2, c', hs0, hmc, hcm, hg2, hrg, hth⟩⟩ := id HL.out.1
      · have := HL.out.2.2.2; omega
      cases hs0
      have hb := Hn.out
      have hmk := HL.out.2.2.2
      have hNm : N ≤ m := by omega
      have hre : wr.rangeAt g2 o2 (bvs e) := by
        have h := rangeAt.sub hrg 0 (ys := bvs e) (by
          rw [List.drop_zero, bvs_length, bvs, bvs, ← List.map_take, catP_take (by rw [hb.1]; exact hb.2.1)])
        simpa using h
      have hsl := slice_to (P := Tryz.prog) 38 5 Tryz.underlying38 (by kernel_rfl) g2 o2 m c N (by omega) (by omega)
      have hCr := H.out.1.upd HL.out.2.1 (fun h => h)
      have hg2w := HL.out.2.2.1 g2 rfl
      obtain ⟨sm, hsm⟩ : ∃ sm, updB 0 (bodyB b) = sm := ⟨_, rfl⟩
      have f6 : IntKind.u64.wrap (sm.toNat : Int) = (sm.toNat : Int) := by have := sm.isLt; show (sm.toNat : Int) % 18446744073709551616 = _; omega
      obtain ⟨N12, hN12⟩ : ∃ N12, N - 12 = N12 := ⟨_, rfl⟩
      obtain ⟨N16, hN16⟩ : ∃ N16, N - 16 = N16 := ⟨_, rfl⟩
      obtain ⟨c12, hc12⟩ : ∃ c12, c - 12 = c12 := ⟨_, rfl⟩
      obtain ⟨c16, hc16⟩ : ∃ c16, c - 16 = c16 := ⟨_, rfl⟩
      have hsl12 := slice_fromI (P := Tryz.prog) 38 5 Tryz.underlying38 (by kernel_rfl) g2 o2 N c 12 12 N12 c12 rfl (by omega) (by omega) hN12 hc12
      have hsl16 := slice_fromI (P := Tryz.prog) 38 5 Tryz.underlying38 (by kernel_rfl) g2 o2 N c 16 16 N16 c16 rfl (by omega) (by omega) hN16 hc16
      have HE := Lib.hid (And.intro hre (And.intro hCr (And.intro hg2w (And.intro hsm (And.intro hg2 (And.intro hN12 (And.intro hN16 (And.intro hc12 (And.intro hc16 (show N ≤ c by omega))))))))))
      clear hml hmc hcm hg2 hrg hth hb hmk hNm hre hCr hg2w hsm hN12 hN16 hc12 hc16
      go_wp2_with fail
      have HS : Hid (wr.drew.rangeAt g2 o2 (bvs e)) := HE.out.1
      refine wp_region_planD (fun w' => Hid (w'.rangeAt g2 o2 (bvs e))) 11 [(0, true), (1, true), (2, true), (3, true), (4, true), (5, true), (6, true), (7, true), (8, false), (9, true), (10, true)] (by kernel_rfl) (by kernel_rfl) (fun d _ _ _ _ h => by cases d <;> exact h) HS ?_
      iterate 2 (apply planD_held rfl rfl rfl (by simp) HS; (intro w' hS K hK; go_simp; exact hK))
      refine planD_call (.int .u64 sm.toNat) rfl rfl (fun w' hS => ⟨72, #[.slice (some ⟨g2, o2 + 12, none⟩) N12 c12, .int .i64 4], by go_simp, by
        have hb := Hn.out
        have he := HE.out
        exact get_part (n := N) (cap := c) hS.out 12 4 sm.toNat (by omega) (by omega) (by decide) (by rw [← H.out.2.2.2.2.2.2.2.2.1, enc_sum, he.2.2.2.1]) (by unfold maxLen; omega) N12 (by omega) c12⟩) ?_
      try (simp only [Act.put, List.setIfInBounds_toArray, List.set_cons_zero, List.set_cons_succ])
      iterate 5 (apply planD_held rfl rfl rfl (by simp) HS; (intro w' hS K hK; go_simp; exact hK))
      refine planD_op rfl rfl (fun K hK => ?_)
      go_simp
      have hdr : Upd (fun _ => False) wr wr.drew := (Upd.refl _ wr).drew
      have hsb : Sees wr.drew 1 (.slice (some ⟨g2, o2 + 16, none⟩) N16 c16) (bodyB b).length (bvs (bodyB b)) := by
        have hb := Hn.out
        have he := HE.out
        have hbl : (bodyB b).length = N16 := by have h1 := H.out.2.2.2.2.2.2.2.2.2.2; rw [bytesOf_eq] at h1; omega
        have h := sees_part (n := N) (cap := c) (show wr.drew.rangeAt g2 o2 (bvs e) from he.1) 16 N16 c16 (by omega) (by unfold maxLen; omega)
        rw [hbl]
        rwa [← H.out.2.2.2.2.2.2.2.2.1, enc_body, List.take_of_length_le (by rw [hbl]; exact Nat.le_refl _)] at h
      refine (sum9 (HE.out.2.1.upd hdr (fun h => h)) _ (bodyB b) hsb (fun j hj _ => by cases hj; have h1 := HE.out.2.2.1; have h2 := H.out.1.lt; show g2 ≠ lb; omega)).mono ?_
      rintro e' w5 ⟨rfl, hu5, hC5⟩
      dsimp only
      rw [HE.out.2.2.2.1]
      have hre5 : w5.rangeAt g2 o2 (bvs e) := (hdr.range HE.out.1 (fun h => h)) |> fun h => hu5.range h (fun e => by have h1 := HE.out.2.2.1; have h2 := H.out.1.lt; omega)
      have HS5 : Hid (w5.rangeAt g2 o2 (bvs e)) := hre5
      have hU5 : Upd (fun k => k = lb) w w5 := (((HL.out.2.1.trans hdr).mono (fun _ _ h => h.elim))).trans hu5
      have H5 := Lib.hid (And.intro hU5 (And.intro hC5 (And.intro hre5 (show wr.heap.size ≤ w5.heap.size from Nat.le_trans hdr.size hu5.size))))
      refine hK _ _ _ (fun u h => h) (fun _ => HS5) ?_
      clear hK HS hdr hsb hu5 hC5 hre5 hU5
      try (simp only [Act.put, List.setIfInBounds_toArray, List.set_cons_zero, List.set_cons_succ])
      iterate 2 (apply planD_held rfl rfl rfl (by simp) HS5; (intro w' hS K hK; go_simp; exact hK))
      refine planD_nil ?_
      clear HS5 f6
      go_wp2_with fail
      have HP0 : Hid (PrR w lb (preL L db lv) b g2 0 none 0 (o2 + 16) N16 c16 w5) := by
        have hb := Hn.out
        have he := HE.out
        have hbl : (bodyB b).length = N16 := by have h1 := H.out.2.2.2.2.2.2.2.2.2.2; rw [bytesOf_eq] at h1; omega
        refine ⟨Mid.nil _ _, ?_, by rw [List.drop_zero]; exact hbl.symm, by omega, H5.out.1, (fun j hj => by cases hj), H5.out.2.1, he.2.2.1, by have := H5.out.2.2.2; have := he.2.2.2.2.1; omega⟩
        rw [List.drop_zero]
        refine rangeAt.sub H5.out.2.2.1 16 ?_
        rw [bvs_length, hbl, bvs, bvs, ← List.map_drop, ← List.map_take, ← H.out.2.2.2.2.2.2.2.2.1, enc_body, List.take_of_length_le (by rw [hbl]; exact Nat.le_refl _)]
      go_loopg [16, 17] b.length (fun gk bt rs wr => ∃ (j : Nat) (x : Option Addr) (c o M rc : Nat), j + gk = b.length ∧ bt = .slice x j c ∧ rs = .slice (some ⟨g2, o, none⟩) M rc ∧ Hid (PrR w lb (preL L db lv) b g2 j x c o M rc wr))
      case atStart => exact ⟨0, none, 0, _, _, _, by omega, rfl, rfl, HP0⟩
      case round =>
        clear HP0
        obtain ⟨j, x, c2, o, M, rc, hj, rfl, rfl, HP⟩ := hrel
        by_cases hlt : j < b.length
        · obtain ⟨r, hr⟩ : ∃ r, b[j] = r := ⟨_, rfl⟩
          have hdrop : b.drop j = r :: b.drop (j + 1) := by rw [List.drop_eq_getElem_cons hlt, hr]
          obtain ⟨T, hT⟩ : ∃ T, (bodyB (b.drop (j + 1))).length = T := ⟨_, rfl⟩
          obtain ⟨s, hs⟩ : ∃ s, r.size = s := ⟨_, rfl⟩
          have hp := HP.out
          have hM : M = 4 + s + T := by rw [hp.2.2.1, hdrop, body_length, hT, hs]
          have hMb : M ≤ 3000000 := by
            have h1 : (bodyB (b.drop j)).length ≤ (bodyB b).length := by
              have : bodyB b = bodyB (b.take j) ++ bodyB (b.drop j) := by rw [bodyB, bodyB, bodyB, ← List.flatMap_append, List.take_append_drop]
              rw [this, List.length_append]; omega
            have h2 := H.out.2.2.2.2.2.2.2.2.2.2
            rw [bytesOf_eq] at h2
            have := hp.2.2.1
            omega
          have hs600 : (s : Int) ≤ 3000000 := by omega
          have hMI : (M : Int) ≤ 3000000 := by omega
          have hm := hp.2.2.2.1
          obtain ⟨M4, hM4⟩ : ∃ M4, M - 4 = M4 := ⟨_, rfl⟩
          obtain ⟨c4, hc4⟩ : ∃ c4, rc - 4 = c4 := ⟨_, rfl⟩
          obtain ⟨o4, ho4⟩ : ∃ o4, (if rc = 4 then o else o + 4) = o4 := ⟨_, rfl⟩
          obtain ⟨c5, hc5⟩ : ∃ c5, rc - (4 + s) = c5 := ⟨_, rfl⟩
          obtain ⟨o5, ho5⟩ : ∃ o5, (if rc = 4 + s then o else o + (4 + s)) = o5 := ⟨_, rfl⟩
          have hbody : bodyB (b.drop j) = bodyB (r :: b.drop (j + 1)) := by rw [hdrop]
          have hget : Calls Tryz.prog 72 #[.slice (some ⟨g2, o, none⟩) M rc, .int .i64 4] wr fun e w' => e = .returned (.int .u64 s) ∧ wr = w' := by
            have h := get_part (n := M) (cap := rc) hp.2.1 0 4 s (by rw [← hp.2.2.1]; omega) (by rw [← hp.2.2.1]; exact Nat.le_refl _) (by decide) (by rw [List.drop_zero, hbody, body_size _ _ (by omega), hs]) (by rw [← hp.2.2.1]; unfold maxLen; omega) M (by rw [← hp.2.2.1]; rfl) rc
            exact h
          have hse : Sees wr 1 (.slice (some ⟨g2, o4, none⟩) s (rc - 4)) r.data.toList.length (bvs r.data.toList) := by
            have hrl : r.data.toList.length = s := by rw [Array.length_toList]; exact hs
            rw [hrl]
            by_cases h0 : s = 0
            · subst h0
              have : r.data.toList = [] := List.eq_nil_of_length_eq_zero hrl
              rw [this]
              exact Sees.zero _ _ _ _
            · have h := sees_part (n := M) (cap := rc) hp.2.1 4 s (rc - 4) (by rw [← hp.2.2.1]; omega) (by unfold maxLen; omega)
              rw [hbody, ← hs, body_rec, hs] at h
              have : o4 = o + 4 := by rw [← ho4, if_neg (by omega)]
              rw [this]
              exact h
          have hcv := run_bytes_string (P := Tryz.prog) (w := wr) 38 5 9 Tryz.underlying38 Tryz.underlying5 Tryz.underlying9 _ r.data.toList hse
          rw [strV_data, hc4] at hcv
          have f1 : IntKind.i64.wrap (s : Int) = (s : Int) := by rw [IntKind.wrap_i64]; omega
          have q1 : decide ((4 : Int) ≤ (M : Int)) = true := by simp; omega
          have q2 : decide ((M : Int) - 4 < (s : Int)) = false := by simp; omega
          have hslA := slice_lhA (P := Tryz.prog) 38 5 Tryz.underlying38 (by kernel_rfl) g2 o M rc 4 (4 + s) 4 ((4 : Int) + (s : Int)) s c4 o4 rfl (by omega) (by omega) (by omega) (by omega) hc4 ho4
          have hslB := slice_fromA (P := Tryz.prog) 38 5 Tryz.underlying38 (by kernel_rfl) g2 o M rc (4 + s) ((4 : Int) + (s : Int)) T c5 o5 (by omega) (by omega) (by omega) hc5 ho5
          have Hq := Lib.hid (And.intro hr (And.intro hdrop (And.intro hT (And.intro hs (And.intro hM (And.intro hMb (And.intro hm (And.intro ho5 (And.intro hc5 hbody)))))))))
          have Hget := Lib.hid hget
          have hjb : j ≤ 3000000 := by
            have h1 : j ≤ b.length := by omega
            have h2 : ∀ l : Batch, l.length ≤ (bodyB l).length := by
              intro l
              induction l with
              | nil => exact Nat.zero_le _
              | cons y t ih => rw [body_length, List.length_cons]; omega
            have h3 := h2 b
            have h4 := H.out.2.2.2.2.2.2.2.2.2.2
            rw [bytesOf_eq] at h4
            omega
          clear hr hdrop hT hs hM hMb hp hm hM4 hc4 ho4 hc5 ho5 hbody hget hse
          go_wp2_with fail
          refine Hget.out.mono ?_
          rintro e' w7 ⟨rfl, rfl⟩
          dsimp only
          go_wp2_with ((with_reducible apply wpl_append_mid 9 1 16 _ (.slice x j c2) j (strsV (b.take j)) 1 [.string r]))
          · exact Tryz.underlying41
          · exact infoS
          · rfl
          · rfl
          · exact HP.out.1.upd ((Upd.refl (fun _ => False) wr).alloc _) (fun _ _ h => h)
          · exact Sees.at rfl (by decide) (rangeAt_of_row (heap_alloc_new wr (.cells ([.string r] : List Value).toArray 9)) rfl)
          · intro u hu; simp at hu; rw [hu]; rfl
          · unfold maxLen; omega
          · omega
          intro x' c' w9 hm9 hu9 hb9
          try (simp only [Act.put, List.setIfInBounds_toArray, List.set_cons_zero, List.set_cons_succ])
          have hst : strsV (b.take j) ++ [.string r] = strsV (b.take (j + 1)) := by
            rw [List.take_succ_eq_append_getElem hlt, Hq.out.1]; simp [strsV]
          rw [hst] at hm9
          have HP9 : Hid (PrR w lb (preL L db lv) b g2 (j + 1) x' c' o5 T c5 w9) := by
            have h0 := HP.out
            have hq := Hq.out
            have hal : Upd (fun _ => False) wr (wr.alloc (.cells ([.string r] : List Value).toArray 9)) := (Upd.refl _ wr).alloc _
            have hs1 := h0.2.2.2.2.1.size
            have hs2 := hal.size
            have hs3 := hu9.size
            refine ⟨hm9, ?_, by rw [hq.2.2.1], by have := hq.2.2.2.2.1; have := h0.2.2.2.1; have := hq.2.2.2.2.2.2.2.2.1; omega, ((h0.2.2.2.2.1.trans (hal.mono (fun _ _ h => h.elim))).then hu9 (fun k hk => .inr (h0.2.2.2.2.2.1 k hk).1)), fun k hk => ?_, (h0.2.2.2.2.2.2.1.upd hal (fun h => h)).upd hu9 (fun hk => by have h1 := (h0.2.2.2.2.2.1 _ hk).1; have := H.out.1.lt; omega), h0.2.2.2.2.2.2.2.1, by have := h0.2.2.2.2.2.2.2.2; omega⟩
            · have hb2 : bodyB (b.drop (j + 1)) = (bodyB (b.drop j)).drop (4 + s) := by
                rw [hq.2.2.2.2.2.2.2.2.2, ← hq.2.2.2.1, body_rest]
              have hr9 : w9.rangeAt g2 o (bvs (bodyB (b.drop j))) := (hal.range h0.2.1 (fun h => h)) |> fun h => hu9.range h (fun hk => (h0.2.2.2.2.2.1 _ hk).2 rfl)
              by_cases hT0 : T = 0
              · have : bodyB (b.drop (j + 1)) = [] := List.eq_nil_of_length_eq_zero (by rw [hq.2.2.1]; exact hT0)
                rw [this]
                intro i v hi
                cases hi
              · have ho : o5 = o + (4 + s) := by rw [← hq.2.2.2.2.2.2.2.1, if_neg (by have := hq.2.2.2.2.1; have := h0.2.2.2.1; omega)]
                rw [ho]
                refine rangeAt.sub hr9 (4 + s) ?_
                rw [bvs_length, hq.2.2.1, bvs, bvs, ← List.map_drop, ← List.map_take, ← hb2, List.take_of_length_le (by rw [hq.2.2.1]; exact Nat.le_refl _)]
            · rcases hb9 with h | h
              · exact h0.2.2.2.2.2.1 k (by rw [h] at hk; exact hk)
              · rw [h] at hk
                simp at hk
                have := h0.2.2.2.2.2.2.2.2
                exact ⟨by omega, by omega⟩
          clear hm9 hu9 hb9 hst hcv HP hslA
          go_wp2_with fail
          go_roundg (b.length - (j + 1))
          case measure => omega
          case rel => exact ⟨j + 1, x', c', o5, T, c5, by omega, rfl, rfl, HP9⟩
        · obtain rfl : j = b.length := by omega
          have hM0 : M = 0 := by rw [HP.out.2.2.1, List.drop_length]; rfl
          subst hM0
          go_wp2_with fail
          go_ret3
          refine ⟨x, c2, rfl, ?_⟩
          have h0 := HP.out
          have hm := h0.1
          rw [List.take_length] at hm
          exact ⟨hm, fun k hk => (h0.2.2.2.2.2.1 k hk).1, h0.2.2.2.2.1, h0.2.2.2.2.2.2.1⟩
end Go.Proofs.YtihlijnobbonbaaGreat
/- wal: Open, up to its header. -/
namespace Go.Proofs.YtihlijnobbonbaaGreat
open Go.RowKit
set_option linter.unusedSimpArgs false
set_option linter.unusedVariables false
set_option maxRecDepth 100000

theorem open_err (dv : Value) (fr n e : Int) (w : World) (he : (e != 0) = true) (hc : Calls Tryz.prog 59 #[dv, .int .i64 fr, .int .i64 n] w fun r w' => r = .returned (.int .i64 e) ∧ w = w') :
    Calls Tryz.prog 54 #[dv, .int .i64 fr, .int .i64 n] w fun r w' => r = .returned (.tuple #[.pointer none, .slice none 0 0, .int .i64 e]) ∧ w = w' := by
  have Hc := Lib.hid hc
  clear hc
  go_enter Tryz.func54, Tryz.ntmps54
  go_wp2_with fail
  refine Hc.out.mono ?_
  rintro e w1 ⟨rfl, rfl⟩
  dsimp only
  go_wp2_with fail
  go_ret3
  exact ⟨rfl, rfl⟩
theorem open_dead {w : World} {db : Nat} {D : DSt} {F : Nat → Prop} (hD : DiskAt w db D F) (fr n : Nat) (h2 : 2 ≤ n) (hf : fr + n ≤ D.secs.length) (hwt : D.waits.length < 99999999990) (hd : D.dead = true) :
    Calls Tryz.prog 54 #[.pointer (some ⟨db, 0, none⟩), .int .i64 fr, .int .i64 n] w fun r w' => r = .returned (.tuple #[.pointer none, .slice none 0 0, .int .i64 10]) ∧ Upd (fun _ => False) w w' := by
  have hreg := region_good hD fr n (by omega) (by omega) (by omega)
  have hr : D.read (fr : Nat) = ([], 10) := by rw [DSt.read, if_pos hd]
  have H := Lib.hid (And.intro hD (And.intro hwt (And.intro hr hreg)))
  clear hreg hr hD h2 hf hwt hd
  go_enter Tryz.func54, Tryz.ntmps54
  go_wp2_with fail
  refine H.out.2.2.2.mono ?_
  rintro e w1 ⟨rfl, rfl⟩
  dsimp only
  go_wp2_with fail
  refine (read_disk H.out.1 (by have := H.out.2.1; omega) (fr : Nat) H.out.2.2.1).mono ?_
  rintro e w1 ⟨xa, xc, rfl, hrow, hu, -, -⟩
  dsimp only
  have Hu := Lib.hid hu
  clear hrow hu
  go_wp2_with fail
  go_ret3
  exact ⟨rfl, Hu.out.alloc _⟩
theorem field_ok (pb pk g off c : Nat) (m : Bytes) (i : Nat) (iI : Int) (hI : iI = (i : Nat)) (w : World) (hb : w.cell? ⟨pb, 0, none⟩ = some (.slice (some ⟨g, off, none⟩) 512 c)) (hk : w.cell? ⟨pk, 0, none⟩ = some (.int .i64 12)) (hr : w.rangeAt g off (bvs m)) (hm : m.length = 512) (hc : 512 ≤ c) (hi : i ≤ 4) (N : Nat) (hN : fieldOf m i = N) :
    Calls Tryz.prog 71 #[.int .i64 iI, .pointer (some ⟨pb, 0, none⟩), .pointer (some ⟨pk, 0, none⟩)] w fun e w' => e = .returned (.int .u64 N) ∧ w = w' := by
  subst hI
  obtain ⟨n', hn'⟩ : ∃ n', 512 - (12 + 8 * i) = n' := ⟨_, rfl⟩
  obtain ⟨c', hc'⟩ : ∃ c', c - (12 + 8 * i) = c' := ⟨_, rfl⟩
  have hget := get_part (n := 512) (cap := c) hr (12 + 8 * i) 8 N (by omega) (by omega) (by decide) hN (by rw [hm]; decide) n' (by omega) c'
  have hsl := slice_fromI (P := Tryz.prog) 38 5 Tryz.underlying38 (by kernel_rfl) g off 512 c (12 + 8 * i) ((12 : Int) + 8 * (i : Int)) n' c' (by omega) (by omega) (by omega) hn' hc'
  have hib : (i : Int) ≤ 4 := by omega
  have Hg := Lib.hid hget
  clear hget hr hm hc hi hN hn' hc'
  go_enter Tryz.func71, Tryz.ntmps71
  go_wp2_with fail
  refine Hg.out.mono ?_
  rintro e w1 ⟨rfl, rfl⟩
  dsimp only
  go_wp2_with fail
  go_ret
  exact ⟨rfl, rfl⟩

theorem slice_toI {P : Program} (t e : TypeId) (hu : P.underlying t = some (.slice e)) (hs : (P.info? e).map (·.size) = some 1) (g off n cap k : Nat) (kI : Int) (hk : kI = (k : Nat)) (h1 : k ≤ cap) (h0 : 0 < cap) (w : World) :
    (Instr.slice t (.slice (some ⟨g, off, none⟩) n cap) none (some (.int .i64 kI)) none).run P w = .ok (.slice (some ⟨g, off, none⟩) k cap) w := by
  subst hk
  exact slice_to t e hu hs g off n cap k h1 h0 w
/-- Open, behind the read of the log's own sector: where its parts lie. -/
structure Hdr (w : World) (g c pb pk lb : Nat) (m : Bytes) (pre : List Value) (wr : World) : Prop where
  upd : Upd (fun _ => False) w wr
  range : wr.rangeAt g 0 (bvs m)
  len : m.length = 512
  cap : 512 ≤ c
  b : wr.cell? ⟨pb, 0, none⟩ = some (.slice (some ⟨g, 0, none⟩) 512 c)
  k : wr.cell? ⟨pk, 0, none⟩ = some (.int .i64 12)
  log : Cells9 wr lb pre
  new : w.heap.size ≤ lb ∧ w.heap.size ≤ g ∧ g ≠ lb ∧ pb ≠ lb ∧ pk ≠ lb

theorem Hdr.drew {w : World} {g c pb pk lb : Nat} {m : Bytes} {pre : List Value} {wr : World} (h : Hdr w g c pb pk lb m pre wr) : Hdr w g c pb pk lb m pre wr.drew :=
  ⟨h.upd.drew, h.range, h.len, h.cap, h.b, h.k, h.log.upd ((Upd.refl (fun _ => False) wr).drew) (fun h => h), h.new⟩
theorem Hdr.sees12 {w : World} {g c pb pk lb : Nat} {m : Bytes} {pre : List Value} {wr : World} (h : Hdr w g c pb pk lb m pre wr) : Sees wr 1 (.slice (some ⟨g, 0, none⟩) 12 c) (m.take 12).length (bvs (m.take 12)) := by
  have hl : (m.take 12).length = 12 := by rw [List.length_take, h.len]; rfl
  have h1 := sees_part (n := 512) (cap := c) h.range 0 12 c (by rw [h.len]; decide) (by decide)
  rw [List.drop_zero] at h1
  rw [hl]
  exact h1
theorem Hdr.write {w : World} {g c pb pk lb : Nat} {m : Bytes} {pre pre' : List Value} {wr wr' : World} (h : Hdr w g c pb pk lb m pre wr) (hu : Upd (fun k => k = lb) wr wr') (hC : Cells9 wr' lb pre') : Hdr w g c pb pk lb m pre' wr' :=
  ⟨h.upd.then hu (fun k hk => .inr (by rw [hk]; exact h.new.1)), hu.range h.range (fun e => h.new.2.2.1 e), h.len, h.cap, hu.cell_some (a := ⟨pb, 0, none⟩) h.b (fun e => h.new.2.2.2.1 e), hu.cell_some (a := ⟨pk, 0, none⟩) h.k (fun e => h.new.2.2.2.2 e), hC, h.new⟩
theorem hdr_new {w w1 : World} {g c : Nat} {m : Bytes} (hu : Upd (fun _ => False) w w1) (hr : w1.rangeAt g 0 (bvs m)) (hm : m.length = 512) (hc : 512 ≤ c) (hg : w.heap.size ≤ g) (hgl : g < w1.heap.size) (db fr n : Nat) :
    Hdr w g c w1.heap.size (w1.heap.size + 1) (w1.heap.size + 1 + 1) m (preL (LSt.made fr n) db (.slice none 0 0)) (((w1.alloc (.cells #[.slice (some ⟨g, 0, none⟩) 512 c] 38)).alloc (.cells #[.int .i64 12] 3)).alloc (.cells (((Tryz.zeroCells140.setIfInBounds 0 (.pointer (some ⟨db, 0, none⟩))).setIfInBounds 1 (.int .i64 fr)).setIfInBounds 2 (.int .i64 n)) 140)) := by
  have u1 : Upd (fun _ => False) w1 (w1.alloc (.cells #[.slice (some ⟨g, 0, none⟩) 512 c] 38)) := (Upd.refl _ w1).alloc _
  have u2 : Upd (fun _ => False) (w1.alloc (.cells #[.slice (some ⟨g, 0, none⟩) 512 c] 38)) ((w1.alloc (.cells #[.slice (some ⟨g, 0, none⟩) 512 c] 38)).alloc (.cells #[.int .i64 12] 3)) := (Upd.refl _ _).alloc _
  have u3 : Upd (fun _ => False) ((w1.alloc (.cells #[.slice (some ⟨g, 0, none⟩) 512 c] 38)).alloc (.cells #[.int .i64 12] 3)) (((w1.alloc (.cells #[.slice (some ⟨g, 0, none⟩) 512 c] 38)).alloc (.cells #[.int .i64 12] 3)).alloc (.cells (((Tryz.zeroCells140.setIfInBounds 0 (.pointer (some ⟨db, 0, none⟩))).setIfInBounds 1 (.int .i64 fr)).setIfInBounds 2 (.int .i64 n)) 140)) := (Upd.refl _ _).alloc _
  have s1 : (w1.alloc (.cells #[.slice (some ⟨g, 0, none⟩) 512 c] 38)).heap.size = w1.heap.size + 1 := by simp
  have s2 : ((w1.alloc (.cells #[.slice (some ⟨g, 0, none⟩) 512 c] 38)).alloc (.cells #[.int .i64 12] 3)).heap.size = w1.heap.size + 1 + 1 := by simp
  have n1 := heap_alloc_new w1 (.cells #[.slice (some ⟨g, 0, none⟩) 512 c] 38)
  have n2 := heap_alloc_new (w1.alloc (.cells #[.slice (some ⟨g, 0, none⟩) 512 c] 38)) (.cells #[.int .i64 12] 3)
  rw [s1] at n2
  have n3 := log_new ((w1.alloc (.cells #[.slice (some ⟨g, 0, none⟩) 512 c] 38)).alloc (.cells #[.int .i64 12] 3)) db fr n
  rw [s2] at n3
  have hs := hu.size
  refine ⟨((hu.trans u1).trans u2).trans u3, ((u1.trans u2).trans u3).range hr (fun h => h), hm, hc, ?_, ?_, n3, by omega, by omega, by omega, by omega, by omega⟩
  · exact (u2.trans u3).cell_some (a := ⟨w1.heap.size, 0, none⟩) (by rw [cell_of_row _ _ _ _ _ _ n1]; rfl) (fun h => h)
  · exact u3.cell_some (a := ⟨w1.heap.size + 1, 0, none⟩) (by rw [cell_of_row _ _ _ _ _ _ n2]; rfl) (fun h => h)
set_option maxHeartbeats 2000000 in
theorem open_magic {w : World} {db : Nat} {D : DSt} {F : Nat → Prop} (hD : DiskAt w db D F) (fr n : Nat) (h2 : 2 ≤ n) (hf : fr + n ≤ D.secs.length) (hwt : D.waits.length < 99999999990) (hd : D.dead = false) (m : Bytes) (hm : (done D.secs D.waits)[fr]? = some m) (hml : m.length = 512) (hmg : m.take 12 ≠ magicB) :
    Calls Tryz.prog 54 #[.pointer (some ⟨db, 0, none⟩), .int .i64 fr, .int .i64 n] w fun r w' => r = .returned (.tuple #[.pointer none, .slice none 0 0, .int .i64 11]) ∧ Upd (fun _ => False) w w' := by
  have hreg := region_good hD fr n (by omega) (by omega) (by omega)
  have hr := read_of_vis hd hm
  have hmost := hD.1.most
  have H := Lib.hid (And.intro hD (And.intro hwt (And.intro hr (And.intro hreg (And.intro hml (And.intro h2 (And.intro hf hmost)))))))
  have hmf : ∀ (fn : Fn) (first cap : Array Value) (w : World), (Instr.makeFunc fn first cap).run Tryz.prog w = .ok (.func fn first cap) w := fun _ _ _ _ => rfl
  have q0 : ((strV (m.take 12)).toList == [100, 111, 99, 107, 101, 116, 32, 108, 111, 103, 32, 49]) = false := by
    rw [strV_list]
    exact beq_eq_false_iff_ne.2 hmg
  clear hmg
  clear hreg hr hD h2 hf hwt hd hm hml hmost
  go_enter Tryz.func54, Tryz.ntmps54
  go_wp2_with fail
  refine H.out.2.2.2.1.mono ?_
  rintro e w1 ⟨rfl, rfl⟩
  dsimp only
  go_wp2_with fail
  refine (read_disk H.out.1 (by have := H.out.2.1; omega) (fr : Nat) H.out.2.2.1).mono ?_
  rintro e w1 ⟨xa, xc, rfl, hrow, hu, -, -⟩
  dsimp only
  have hml := H.out.2.2.2.2.1
  rw [hml] at hrow ⊢
  obtain ⟨g, hxa, hgb, hglt, -⟩ := row_some hrow (by decide)
  subst hxa
  have hm1 := mid_of_row hrow
  have hxc : 512 ≤ xc := by
    obtain ⟨_, ⟨h, _⟩ | ⟨g', o', c', h, h1, _⟩⟩ := hm1
    · cases h
    · cases h; exact h1
  have hr1 : w1.rangeAt g 0 (bvs m) := row_range hrow (by rw [List.drop_zero, List.take_length])
  have H1 := Lib.hid (And.intro hu (And.intro hr1 (And.intro hxc (And.intro hgb hglt))))
  clear hrow hu hgb hglt hm1 hxc hr1 hml
  go_wp2_with fail
  obtain ⟨w2, hw2⟩ : ∃ w2, ((w1.alloc (.cells #[.slice (some ⟨g, 0, none⟩) 512 xc] 38)).alloc (.cells #[.int .i64 12] 3)).alloc (.cells (((Tryz.zeroCells140.setIfInBounds 0 (.pointer (some ⟨db, 0, none⟩))).setIfInBounds 1 (.int .i64 fr)).setIfInBounds 2 (.int .i64 n)) 140) = w2 := ⟨_, rfl⟩
  have hh := hdr_new H1.out.1 H1.out.2.1 H.out.2.2.2.2.1 H1.out.2.2.1 H1.out.2.2.2.1 H1.out.2.2.2.2 db fr n
  rw [hw2] at hh ⊢
  generalize w1.heap.size + 1 + 1 = lb at *
  generalize w1.heap.size + 1 = pk at *
  generalize w1.heap.size = pb at *
  have hh2 := hh.drew
  have HH := Lib.hid hh2
  have hxc := H1.out.2.2.1
  have hsl12 := slice_toI (P := Tryz.prog) 38 5 Tryz.underlying38 (by kernel_rfl) g 0 512 xc 12 12 rfl (by omega) (by omega)
  have HS : w2.drew.cell? ⟨pb, 0, none⟩ = some (.slice (some ⟨g, 0, none⟩) 512 xc) ∧ w2.drew.cell? ⟨pk, 0, none⟩ = some (.int .i64 12) ∧ Hid (Hdr w g xc pb pk lb m (preL (LSt.made fr n) db (.slice none 0 0)) w2.drew) := ⟨hh2.b, hh2.k, hh2⟩
  clear hh hh2 hw2 hxc hmf
  refine wp_region_planD (fun w' => w'.cell? ⟨pb, 0, none⟩ = some (.slice (some ⟨g, 0, none⟩) 512 xc) ∧ w'.cell? ⟨pk, 0, none⟩ = some (.int .i64 12) ∧ Hid (Hdr w g xc pb pk lb m (preL (LSt.made fr n) db (.slice none 0 0)) w')) 36 [(0, true), (1, true), (2, true), (3, true), (4, true), (5, true), (6, true), (8, true), (9, true), (7, false), (10, true), (11, true), (12, true), (13, true), (15, true), (16, true), (14, false), (17, true), (18, true), (19, true), (20, true), (21, true), (22, true), (23, true), (24, true), (25, true), (26, true), (27, true), (28, true), (29, true), (30, true), (31, true), (32, false), (33, true), (34, true), (35, true)] (by kernel_rfl) (by kernel_rfl) (fun d _ _ _ _ h => by cases d <;> exact h) HS ?_
  iterate 3 (apply planD_held rfl rfl rfl (by simp) HS; (intro w' hS K hK; go_simp; exact hK))
  apply planD_held rfl rfl rfl (by simp) HS
  · intro w' hS K hK
    exact gives_bytes_string 5 (.slice (some ⟨g, 0, none⟩) 12 xc) (m.take 12) Tryz.underlying38 Tryz.underlying5 Tryz.underlying9 rfl (hS.2.2.out.sees12) hK
  simp only [Act.put, List.setIfInBounds_toArray, List.set_cons_zero, List.set_cons_succ]
  iterate 2 (apply planD_held rfl rfl rfl (by simp) HS; (intro w' hS K hK; go_simp; exact hK))
  iterate 3 (refine planD_skipd rfl rfl (by kernel_rfl) ?_; simp only [Act.put, List.setIfInBounds_toArray, List.set_cons_zero, List.set_cons_succ])
  refine planD_not rfl rfl (by kernel_rfl) HS ?_
  try (simp only [Act.put, List.setIfInBounds_toArray, List.set_cons_zero, List.set_cons_succ])
  refine planD_skipd rfl rfl (by kernel_rfl) ?_
  simp only [Act.put, List.setIfInBounds_toArray, List.set_cons_zero, List.set_cons_succ]
  iterate 2 (apply planD_held rfl rfl rfl (by simp) HS; (intro w' hS K hK; go_simp; exact hK))
  iterate 3 (refine planD_skipd rfl rfl (by kernel_rfl) ?_; simp only [Act.put, List.setIfInBounds_toArray, List.set_cons_zero, List.set_cons_succ])
  refine planD_not rfl rfl (by kernel_rfl) HS ?_
  try (simp only [Act.put, List.setIfInBounds_toArray, List.set_cons_zero, List.set_cons_succ])
  refine planD_skipd rfl rfl (by kernel_rfl) ?_
  simp only [Act.put, List.setIfInBounds_toArray, List.set_cons_zero, List.set_cons_succ]
  iterate 2 (apply planD_held rfl rfl rfl (by simp) HS; (intro w' hS K hK; go_simp; exact hK))
  iterate 12 (refine planD_skipd rfl rfl (by kernel_rfl) ?_; simp only [Act.put, List.setIfInBounds_toArray, List.set_cons_zero, List.set_cons_succ])
  refine planD_not rfl rfl (by kernel_rfl) HS ?_
  try (simp only [Act.put, List.setIfInBounds_toArray, List.set_cons_zero, List.set_cons_succ])
  iterate 2 (refine planD_skipd rfl rfl (by kernel_rfl) ?_; simp only [Act.put, List.setIfInBounds_toArray, List.set_cons_zero, List.set_cons_succ])
  (apply planD_held rfl rfl rfl (by simp) HS; (intro w' hS K hK; go_simp; exact hK))
  refine planD_nil ?_
  clear HS
  go_wp2_with fail
  go_ret3
  exact ⟨rfl, HH.out.upd⟩
set_option maxHeartbeats 2000000 in
theorem open_n {w : World} {db : Nat} {D : DSt} {F : Nat → Prop} (hD : DiskAt w db D F) (fr n : Nat) (h2 : 2 ≤ n) (hf : fr + n ≤ D.secs.length) (hwt : D.waits.length < 99999999990) (hd : D.dead = false) (m : Bytes) (hm : (done D.secs D.waits)[fr]? = some m) (hml : m.length = 512) (hmg : m.take 12 = magicB) (h0 : fieldOf m 0 = fr) (n1 : Nat) (h1 : fieldOf m 1 = n1) (hn1 : n1 ≠ n) :
    Calls Tryz.prog 54 #[.pointer (some ⟨db, 0, none⟩), .int .i64 fr, .int .i64 n] w fun r w' => r = .returned (.tuple #[.pointer none, .slice none 0 0, .int .i64 11]) ∧ Upd (fun _ => False) w w' := by
  have hreg := region_good hD fr n (by omega) (by omega) (by omega)
  have hr := read_of_vis hd hm
  have hmost := hD.1.most
  have H := Lib.hid (And.intro hD (And.intro hwt (And.intro hr (And.intro hreg (And.intro hml (And.intro h2 (And.intro hf hmost)))))))
  have hmf : ∀ (fn : Fn) (first cap : Array Value) (w : World), (Instr.makeFunc fn first cap).run Tryz.prog w = .ok (.func fn first cap) w := fun _ _ _ _ => rfl
  have q0 : ((strV (m.take 12)).toList == [100, 111, 99, 107, 101, 116, 32, 108, 111, 103, 32, 49]) = true := by
    rw [strV_list, hmg]
    rfl
  have f1 : IntKind.u64.wrap (fr : Int) = (fr : Int) := by have := hD.1.most; show (fr : Int) % 18446744073709551616 = _; omega
  have f2 : IntKind.u64.wrap (n : Int) = (n : Int) := by have := hD.1.most; show (n : Int) % 18446744073709551616 = _; omega
  have q1 : ((n1 : Int) != (n : Int)) = true := by rw [bne_iff_ne]; omega
  have Hf := Lib.hid (And.intro h0 h1)
  clear hmg h0 h1 hn1
  clear hreg hr hD h2 hf hwt hd hm hml hmost
  go_enter Tryz.func54, Tryz.ntmps54
  go_wp2_with fail
  refine H.out.2.2.2.1.mono ?_
  rintro e w1 ⟨rfl, rfl⟩
  dsimp only
  go_wp2_with fail
  refine (read_disk H.out.1 (by have := H.out.2.1; omega) (fr : Nat) H.out.2.2.1).mono ?_
  rintro e w1 ⟨xa, xc, rfl, hrow, hu, -, -⟩
  dsimp only
  have hml := H.out.2.2.2.2.1
  rw [hml] at hrow ⊢
  obtain ⟨g, hxa, hgb, hglt, -⟩ := row_some hrow (by decide)
  subst hxa
  have hm1 := mid_of_row hrow
  have hxc : 512 ≤ xc := by
    obtain ⟨_, ⟨h, _⟩ | ⟨g', o', c', h, h1, _⟩⟩ := hm1
    · cases h
    · cases h; exact h1
  have hr1 : w1.rangeAt g 0 (bvs m) := row_range hrow (by rw [List.drop_zero, List.take_length])
  have H1 := Lib.hid (And.intro hu (And.intro hr1 (And.intro hxc (And.intro hgb hglt))))
  clear hrow hu hgb hglt hm1 hxc hr1 hml
  go_wp2_with fail
  obtain ⟨w2, hw2⟩ : ∃ w2, ((w1.alloc (.cells #[.slice (some ⟨g, 0, none⟩) 512 xc] 38)).alloc (.cells #[.int .i64 12] 3)).alloc (.cells (((Tryz.zeroCells140.setIfInBounds 0 (.pointer (some ⟨db, 0, none⟩))).setIfInBounds 1 (.int .i64 fr)).setIfInBounds 2 (.int .i64 n)) 140) = w2 := ⟨_, rfl⟩
  have hh := hdr_new H1.out.1 H1.out.2.1 H.out.2.2.2.2.1 H1.out.2.2.1 H1.out.2.2.2.1 H1.out.2.2.2.2 db fr n
  rw [hw2] at hh ⊢
  generalize w1.heap.size + 1 + 1 = lb at *
  generalize w1.heap.size + 1 = pk at *
  generalize w1.heap.size = pb at *
  have hh2 := hh.drew
  have HH := Lib.hid hh2
  have hxc := H1.out.2.2.1
  have hsl12 := slice_toI (P := Tryz.prog) 38 5 Tryz.underlying38 (by kernel_rfl) g 0 512 xc 12 12 rfl (by omega) (by omega)
  have HS : w2.drew.cell? ⟨pb, 0, none⟩ = some (.slice (some ⟨g, 0, none⟩) 512 xc) ∧ w2.drew.cell? ⟨pk, 0, none⟩ = some (.int .i64 12) ∧ Hid (Hdr w g xc pb pk lb m (preL (LSt.made fr n) db (.slice none 0 0)) w2.drew) := ⟨hh2.b, hh2.k, hh2⟩
  clear hh hh2 hw2 hxc hmf
  refine wp_region_planD (fun w' => w'.cell? ⟨pb, 0, none⟩ = some (.slice (some ⟨g, 0, none⟩) 512 xc) ∧ w'.cell? ⟨pk, 0, none⟩ = some (.int .i64 12) ∧ Hid (Hdr w g xc pb pk lb m (preL (LSt.made fr n) db (.slice none 0 0)) w')) 36 [(0, true), (1, true), (2, true), (3, true), (4, true), (5, true), (6, true), (8, true), (9, true), (7, false), (10, true), (11, true), (12, true), (13, true), (15, true), (16, true), (14, false), (17, true), (18, true), (19, true), (20, true), (21, true), (22, true), (23, true), (24, true), (25, true), (26, true), (27, true), (28, true), (29, true), (30, true), (31, true), (32, false), (33, true), (34, true), (35, true)] (by kernel_rfl) (by kernel_rfl) (fun d _ _ _ _ h => by cases d <;> exact h) HS ?_
  iterate 3 (apply planD_held rfl rfl rfl (by simp) HS; (intro w' hS K hK; go_simp; exact hK))
  apply planD_held rfl rfl rfl (by simp) HS
  · intro w' hS K hK
    exact gives_bytes_string 5 (.slice (some ⟨g, 0, none⟩) 12 xc) (m.take 12) Tryz.underlying38 Tryz.underlying5 Tryz.underlying9 rfl (hS.2.2.out.sees12) hK
  simp only [Act.put, List.setIfInBounds_toArray, List.set_cons_zero, List.set_cons_succ]
  iterate 5 (first | (apply planD_held rfl rfl rfl (by simp) HS; (intro w' hS K hK; go_simp; exact hK)) | (apply planD_wanted rfl rfl rfl (by simp) HS; (intro w' hS K hK; go_simp; exact hK)))
  refine planD_op rfl (by kernel_rfl) (fun K hK => ?_)
  go_simp
  refine (field_ok pb pk g 0 xc m 0 0 rfl _ HS.1 HS.2.1 HH.out.range HH.out.len HH.out.cap (by decide) fr Hf.out.1).mono ?_
  rintro e' w3 ⟨rfl, rfl⟩
  dsimp only
  refine hK _ _ _ (fun u h => h) (fun _ => HS) ?_
  clear hK
  try (simp only [Act.put, List.setIfInBounds_toArray, List.set_cons_zero, List.set_cons_succ])
  iterate 6 (first | (apply planD_held rfl rfl rfl (by simp) HS; (intro w' hS K hK; go_simp; exact hK)) | (apply planD_wanted rfl rfl rfl (by simp) HS; (intro w' hS K hK; go_simp; exact hK)))
  refine planD_op rfl (by kernel_rfl) (fun K hK => ?_)
  go_simp
  refine (field_ok pb pk g 0 xc m 1 1 rfl _ HS.1 HS.2.1 HH.out.range HH.out.len HH.out.cap (by decide) n1 Hf.out.2).mono ?_
  rintro e' w3 ⟨rfl, rfl⟩
  dsimp only
  refine hK _ _ _ (fun u h => h) (fun _ => HS) ?_
  clear hK
  try (simp only [Act.put, List.setIfInBounds_toArray, List.set_cons_zero, List.set_cons_succ])
  iterate 3 (first | (apply planD_held rfl rfl rfl (by simp) HS; (intro w' hS K hK; go_simp; exact hK)) | (apply planD_wanted rfl rfl rfl (by simp) HS; (intro w' hS K hK; go_simp; exact hK)))
  iterate 12 (refine planD_skipd rfl rfl (by kernel_rfl) ?_; simp only [Act.put, List.setIfInBounds_toArray, List.set_cons_zero, List.set_cons_succ])
  refine planD_not rfl rfl (by kernel_rfl) HS ?_
  try (simp only [Act.put, List.setIfInBounds_toArray, List.set_cons_zero, List.set_cons_succ])
  iterate 2 (refine planD_skipd rfl rfl (by kernel_rfl) ?_; simp only [Act.put, List.setIfInBounds_toArray, List.set_cons_zero, List.set_cons_succ])
  (apply planD_held rfl rfl rfl (by simp) HS; (intro w' hS K hK; go_simp; exact hK))
  refine planD_nil ?_
  clear HS
  go_wp2_with fail
  go_ret3
  exact ⟨rfl, HH.out.upd⟩
end Go.Proofs.YtihlijnobbonbaaGreat
/- wal: Open of a log. -/
namespace Go.Proofs.YtihlijnobbonbaaGreat
open Go.RowKit
set_option linter.unusedSimpArgs false
set_option linter.unusedVariables false
set_option maxRecDepth 100000

theorem laid_get {S : List Bytes} {fr n : Nat} : ∀ (bs : List Batch) (a num : Nat), laid S fr n a num bs → ∀ (k : Nat) (hk : k < bs.length) (j : Nat), j < needB bs[k] → S[ringAt fr n (a + needsB (bs.take k) + j)]? = some (pad (chunk (encB (num + k) bs[k]) j))
  | b :: r, a, num, h, 0, hk, j, hj => by
    have := h.1 j hj
    simpa [needsB_nil] using this
  | b :: r, a, num, h, k + 1, hk, j, hj => by
    have := laid_get r _ _ h.2 k (by simpa using hk) j hj
    rw [List.take_succ_cons, needsB_cons, ← Nat.add_assoc, show num + (k + 1) = num + 1 + k by omega]
    exact this
theorem needsB_take_succ (bs : List Batch) (k : Nat) (hk : k < bs.length) : needsB (bs.take (k + 1)) = needsB (bs.take k) + needB bs[k] := by
  rw [List.take_succ_eq_append_getElem hk, needsB_append]; simp [needsB]
theorem needsB_take_le (bs : List Batch) (k : Nat) : needsB (bs.take k) ≤ needsB bs := by
  have h : needsB bs = needsB (bs.take k) + needsB (bs.drop k) := by rw [← needsB_append, List.take_append_drop]
  omega
theorem number_take_succ (bs : List Batch) (f k : Nat) (hk : k < bs.length) : number f (bs.take (k + 1)) = number f (bs.take k) ++ [(f + k, needB bs[k])] := by
  rw [List.take_succ_eq_append_getElem hk, number_append, List.length_take, Nat.min_eq_left (by omega)]; rfl
/-- The log while it is opened: k of its batches are told. -/
def LSt.part (fr n st fi sy : Nat) (bs : List Batch) (k : Nat) : LSt := ⟨fr, n, st, needsB (bs.take k), number fi (bs.take k), sy, sy, false⟩
theorem part_ok {S : List Bytes} {fr n st fi sy : Nat} {bs : List Batch} (h : Good S fr n st fi sy bs) (hm : S.length ≤ 4096) (k : Nat) : (LSt.part fr n st fi sy bs k).Ok := by
  have hle := needsB_take_le bs k
  have hf := h.fit
  refine ⟨h.two, by show fr + n ≤ 4096; omega, h.start, ?_, number_sum _ _, fun p hp => (number_mem _ _ p hp).1, fun p hp => ?_, h.big, Nat.le_refl _⟩
  · show needsB (bs.take k) ≤ n - 1
    have := h.need; omega
  · have h1 := (number_mem _ _ p hp).2.2
    have h2 := h.len
    have h3 : (bs.take k).length ≤ bs.length := by rw [List.length_take]; omega
    show p.1 ≤ sy
    omega
theorem infoSS : (Tryz.prog.info? 41).map (fun i => (i.zero, i.size, i.bytes)) = some (some (.slice none 0 0), 1, 24) := by kernel_rfl
/-- Values that show batches. -/
def RowsAt (w : World) (vs : List Value) (bs : List Batch) (A : Nat → Prop) : Prop :=
  vs.length = bs.length ∧ ∀ i (h1 : i < vs.length) (h2 : i < bs.length), Sees w 1 vs[i] bs[i].length (strsV bs[i]) ∧ (∀ k, vs[i].ownBlock = some k → 0 < bs[i].length → A k)
theorem RowsAt.upd {w w' : World} {vs : List Value} {bs : List Batch} {A F : Nat → Prop} (h : RowsAt w vs bs A) (hu : Upd F w w') (hA : ∀ k, A k → ¬ F k) : RowsAt w' vs bs A :=
  ⟨h.1, fun i h1 h2 => ⟨(h.2 i h1 h2).1.upd hu (fun k hk h0 => hA k ((h.2 i h1 h2).2 k hk h0)), (h.2 i h1 h2).2⟩⟩
theorem RowsAt.nil (w : World) (A : Nat → Prop) : RowsAt w [] [] A := ⟨rfl, fun i h1 _ => absurd h1 (Nat.not_lt_zero _)⟩
theorem RowsAt.snoc {w : World} {vs : List Value} {bs : List Batch} {A A' : Nat → Prop} (h : RowsAt w vs bs A) (v : Value) (b : Batch) (hv : Sees w 1 v b.length (strsV b)) (hb : ∀ k, v.ownBlock = some k → 0 < b.length → A' k) (hA : ∀ k, A k → A' k) : RowsAt w (vs ++ [v]) (bs ++ [b]) A' := by
  refine ⟨by simp [h.1], fun i h1 h2 => ?_⟩
  by_cases hi : i < vs.length
  · have hi2 : i < bs.length := by rw [← h.1]; exact hi
    rw [List.getElem_append_left hi, List.getElem_append_left hi2]
    exact ⟨(h.2 i hi hi2).1, fun k hk h0 => hA k ((h.2 i hi hi2).2 k hk h0)⟩
  · have e1 : i = vs.length := by simp at h1; omega
    subst e1
    have e2 : (bs ++ [b])[vs.length] = b := by
      have := h.1
      simp [this]
    rw [List.getElem_append_right (Nat.le_refl _)]
    simp only [Nat.sub_self, List.getElem_singleton, e2]
    exact ⟨hv, hb⟩
/-- In the middle of Open's loop. -/
def OpnR (w : World) (db lb fr n st fi sy : Nat) (bs : List Batch) (k : Nat) (x : Option Addr) (c : Nat) (wr : World) : Prop :=
  ∃ (lv : Value) (vs : List Value) (A : Nat → Prop), Cells9 wr lb (preL (LSt.part fr n st fi sy bs k) db lv) ∧ Mid wr 2 lv k (listV (number fi (bs.take k))) ∧ Mid wr 1 (.slice x k c) k vs ∧ RowsAt wr vs (bs.take k) A ∧
    Upd (fun _ => False) w wr ∧ (∀ j, A j → w.heap.size ≤ j ∧ j < wr.heap.size ∧ j ≠ lb ∧ lv.ownBlock ≠ some j ∧ (Value.slice x k c).ownBlock ≠ some j) ∧ w.heap.size ≤ lb ∧
    (∀ j, lv.ownBlock = some j → w.heap.size ≤ j ∧ j ≠ lb ∧ (Value.slice x k c).ownBlock ≠ some j) ∧ (∀ j, (Value.slice x k c).ownBlock = some j → w.heap.size ≤ j ∧ j ≠ lb)
theorem opR_step {w : World} {db lb fr n st fi sy : Nat} {bs : List Batch} {k : Nat} {x : Option Addr} {c : Nat} {wr : World} {lv : Value} {vs : List Value} {A : Nat → Prop}
    (c1 : Cells9 wr lb (preL (LSt.part fr n st fi sy bs k) db lv)) (m1 : Mid wr 2 lv k (listV (number fi (bs.take k)))) (m2 : Mid wr 1 (.slice x k c) k vs) (r : RowsAt wr vs (bs.take k) A) (u : Upd (fun _ => False) w wr)
    (a : ∀ j, A j → w.heap.size ≤ j ∧ j < wr.heap.size ∧ j ≠ lb ∧ lv.ownBlock ≠ some j ∧ (Value.slice x k c).ownBlock ≠ some j) (l : w.heap.size ≤ lb)
    (b1 : ∀ j, lv.ownBlock = some j → w.heap.size ≤ j ∧ j ≠ lb ∧ (Value.slice x k c).ownBlock ≠ some j) (b2 : ∀ j, (Value.slice x k c).ownBlock = some j → w.heap.size ≤ j ∧ j ≠ lb)
    (hk : k < bs.length) {w1 : World} {xb : Option Addr} {cb : Nat} (l1 : LoadPost wr lb (preL (LSt.part fr n st fi sy bs k) db lv) bs[k] xb cb w1) {o1 o2 : Obj} {W2 W4 : World} {x1 x2 : Option Addr} {c1' c2' s' : Nat}
    (hs' : s' = needsB (bs.take (k + 1)))
    (hm2 : Mid W2 2 (.slice x1 (k + 1) c1') (k + 1) (listV (number fi (bs.take k)) ++ entryV (fi + k, needB bs[k]))) (hu2 : Upd (fun j => lv.ownBlock = some j) (w1.drew.alloc o1) W2)
    (hb2 : (Value.slice x1 (k + 1) c1').ownBlock = lv.ownBlock ∨ (Value.slice x1 (k + 1) c1').ownBlock = some (w1.drew.alloc o1).heap.size)
    (hm4 : Mid W4 1 (.slice x2 (k + 1) c2') (k + 1) (vs ++ [.slice xb bs[k].length cb])) (hu4 : Upd (fun j => (Value.slice x k c).ownBlock = some j) (((W2.setCell ⟨lb, 5, none⟩ (.slice x1 (k + 1) c1')).setCell ⟨lb, 4, none⟩ (.int .i64 s')).alloc o2) W4)
    (hb4 : (Value.slice x2 (k + 1) c2').ownBlock = (Value.slice x k c).ownBlock ∨ (Value.slice x2 (k + 1) c2').ownBlock = some (((W2.setCell ⟨lb, 5, none⟩ (.slice x1 (k + 1) c1')).setCell ⟨lb, 4, none⟩ (.int .i64 s')).alloc o2).heap.size) :
    OpnR w db lb fr n st fi sy bs (k + 1) x2 c2' W4 := by
  obtain ⟨lm, lo, lu, lc⟩ := l1
  have ua : Upd (fun _ => False) w1 (w1.drew.alloc o1) := ((Upd.refl _ w1).drew).alloc _
  have ub : Upd (fun k => k = lb) W2 ((W2.setCell ⟨lb, 5, none⟩ (.slice x1 (k + 1) c1')).setCell ⟨lb, 4, none⟩ (.int .i64 s')) := upd_set 4 _ (upd_set 5 _ (Upd.refl _ W2))
  have uc : Upd (fun _ => False) ((W2.setCell ⟨lb, 5, none⟩ (.slice x1 (k + 1) c1')).setCell ⟨lb, 4, none⟩ (.int .i64 s')) (((W2.setCell ⟨lb, 5, none⟩ (.slice x1 (k + 1) c1')).setCell ⟨lb, 4, none⟩ (.int .i64 s')).alloc o2) := (Upd.refl _ _).alloc _
  have s0 := u.size
  have s1 := lu.size
  have s2 := ua.size
  have s3 := hu2.size
  have s4 := ub.size
  have s5 := uc.size
  have s6 := hu4.size
  have hlvlt := m1.lt
  have hxlt := m2.lt
  have hlblt := c1.lt
  have hx1 : ∀ j, (Value.slice x1 (k + 1) c1').ownBlock = some j → (lv.ownBlock = some j ∨ j = (w1.drew.alloc o1).heap.size) := fun j hj => by
    rcases hb2 with h | h
    · exact .inl (by rw [← h]; exact hj)
    · rw [h] at hj; cases hj; exact .inr rfl
  have hx2 : ∀ j, (Value.slice x2 (k + 1) c2').ownBlock = some j → ((Value.slice x k c).ownBlock = some j ∨ (w1.drew.alloc o1).heap.size ≤ j ∧ W2.heap.size ≤ j) := fun j hj => by
    rcases hb4 with h | h
    · exact .inl (by rw [← h]; exact hj)
    · rw [h] at hj; cases hj; exact .inr ⟨by omega, by omega⟩
  have hx1lt := hm2.lt
  have hlbF : lv.ownBlock ≠ some lb := fun h => (b1 lb h).2.1 rfl
  have hlbX : (Value.slice x k c).ownBlock ≠ some lb := fun h => (b2 lb h).2 rfl
  refine ⟨.slice x1 (k + 1) c1', vs ++ [.slice xb bs[k].length cb], fun j => A j ∨ (Value.slice xb bs[k].length cb).ownBlock = some j, ?_, ?_, hm4, ?_, ?_, ?_, l, ?_, ?_⟩
  · have h1 := ((((lc.upd ua (fun h => h)).upd hu2 hlbF).set 5 (by decide) (.slice x1 (k + 1) c1')).set 4 (by decide) (.int .i64 s'))
    have h2 := (h1.upd uc (fun h => h)).upd hu4 hlbX
    have e : ((preL (LSt.part fr n st fi sy bs k) db lv).set 5 (.slice x1 (k + 1) c1')).set 4 (.int .i64 s') = preL (LSt.part fr n st fi sy bs (k + 1)) db (.slice x1 (k + 1) c1') := by
      rw [hs']; rfl
    rwa [e] at h2
  · have e : listV (number fi (bs.take k)) ++ entryV (fi + k, needB bs[k]) = listV (number fi (bs.take (k + 1))) := by
      rw [number_take_succ bs fi k hk]; simp [listV]
    rw [e] at hm2
    refine ((hm2.upd ub (fun j hj e => ?_)).upd uc (fun _ _ h => h)).upd hu4 (fun j hj h => ?_)
    · rcases hx1 j hj with h | h
      · exact (b1 j h).2.1 e
      · omega
    · rcases hx1 j hj with h' | h'
      · exact (b1 j h').2.2 h
      · have := hxlt j h; omega
  · rw [List.take_succ_eq_append_getElem hk]
    refine RowsAt.snoc (A := A) (r.upd (((((lu.mono (fun j _ h => (.inl h : j = lb ∨ lv.ownBlock = some j ∨ (Value.slice x k c).ownBlock = some j))).trans (ua.mono (fun _ _ h => h.elim))).trans (hu2.mono (fun _ _ h => .inr (.inl h)))).trans (ub.mono (fun _ _ h => .inl h))).trans (uc.mono (fun _ _ h => h.elim)) |>.trans (hu4.mono (fun _ _ h => .inr (.inr h)))) (fun j hj h => ?_)) _ _ ?_ (fun j hj _ => .inr hj) (fun j hj => .inl hj)
    · have h1 := a j hj
      rcases h with h | h | h
      · exact h1.2.2.1 h
      · exact h1.2.2.2.1 h
      · exact h1.2.2.2.2 h
    · refine ((((lm.sees.upd ua (fun _ _ _ h => h)).upd hu2 (fun j hj _ h => ?_)).upd ub (fun j hj _ h => ?_)).upd uc (fun _ _ _ h => h)).upd hu4 (fun j hj _ h => ?_)
      · have := lo j hj; have := hlvlt j h; omega
      · have := lo j hj; omega
      · have := lo j hj; have := hxlt j h; omega
  · refine ((((u.then lu (fun j hj => .inr (by omega))).trans ua).then hu2 (fun j hj => .inr (b1 j hj).1)).then ub (fun j hj => .inr (by omega))).trans uc |>.then hu4 (fun j hj => .inr (b2 j hj).1)
  · intro j hj
    rcases hj with hj | hj
    · have h1 := a j hj
      refine ⟨h1.1, by omega, h1.2.2.1, fun h => ?_, fun h => ?_⟩
      · rcases hx1 j h with h | h
        · exact h1.2.2.2.1 h
        · omega
      · rcases hx2 j h with h | h
        · exact h1.2.2.2.2 h
        · omega
    · have h1 := lo j hj
      have h2 := lm.lt j hj
      refine ⟨by omega, by omega, by omega, fun h => ?_, fun h => ?_⟩
      · rcases hx1 j h with h | h
        · have := hlvlt j h; omega
        · omega
      · rcases hx2 j h with h | h
        · have := hxlt j h; omega
        · omega
  · intro j hj
    refine ⟨?_, ?_, fun h => ?_⟩
    · rcases hx1 j hj with h | h
      · exact (b1 j h).1
      · omega
    · rcases hx1 j hj with h | h
      · exact (b1 j h).2.1
      · omega
    · rcases hx2 j h with h' | h'
      · rcases hx1 j hj with h'' | h''
        · exact (b1 j h'').2.2 h'
        · have := hxlt j h'; omega
      · have := hx1lt j hj; omega
  · intro j hj
    rcases hx2 j hj with h | h
    · exact b2 j h
    · exact ⟨by omega, by omega⟩
/-- What Open leaves. -/
def OpenPost (w : World) (lb db : Nat) (L : LSt) (D : DSt) (F : Nat → Prop) (bs : List Batch) (x : Option Addr) (c : Nat) (w' : World) : Prop :=
  ∃ (F' : Nat → Prop) (vs : List Value) (A : Nat → Prop), WalAt w' lb db L D F' ∧ Upd (fun _ => False) w w' ∧ (∀ k, F' k → F k ∨ w.heap.size ≤ k) ∧ Mid w' 1 (.slice x bs.length c) bs.length vs ∧ RowsAt w' vs bs A ∧
    (∀ k, A k → w.heap.size ≤ k ∧ k < w'.heap.size ∧ ¬ F' k ∧ (Value.slice x bs.length c).ownBlock ≠ some k) ∧ (∀ k, (Value.slice x bs.length c).ownBlock = some k → w.heap.size ≤ k ∧ ¬ F' k)

set_option maxHeartbeats 2000000 in
theorem open_good {w : World} {db : Nat} {D : DSt} {F : Nat → Prop} (hD : DiskAt w db D F) (fr n : Nat) (h2 : 2 ≤ n) (hf : fr + n ≤ D.secs.length) (hwt : D.waits.length < 99999999990) (hd : D.dead = false) (st fi sy : Nat) (bs : List Batch) (m : Bytes) (hm : (done D.secs D.waits)[fr]? = some m) (hml : m.length = 512) (hm2 : m = pad (markB fr n st fi sy)) (hg : Good (done D.secs D.waits) fr n st fi sy bs) :
    Calls Tryz.prog 54 #[.pointer (some ⟨db, 0, none⟩), .int .i64 fr, .int .i64 n] w fun r w' => ∃ lb x c, r = .returned (.tuple #[.pointer (some ⟨lb, 0, none⟩), .slice x bs.length c, .int .i64 0]) ∧ OpenPost w lb db (LSt.opened fr n st fi sy bs) D F bs x c w' := by
  have hreg := region_good hD fr n (by omega) (by omega) (by omega)
  have hr := read_of_vis hd hm
  have hmost := hD.1.most
  have H := Lib.hid (And.intro hD (And.intro hwt (And.intro hr (And.intro hreg (And.intro hml (And.intro h2 (And.intro hf hmost)))))))
  have hmf : ∀ (fn : Fn) (first cap : Array Value) (w : World), (Instr.makeFunc fn first cap).run Tryz.prog w = .ok (.func fn first cap) w := fun _ _ _ _ => rfl
  have hb1 : fr ≤ 4096 ∧ n ≤ 4096 ∧ st ≤ 4096 ∧ sy < 1000000000000000000 ∧ fi ≤ 1000000000000000000 := by
    have := hD.1.most; have := hg.start; have := hg.big; have := hg.len; omega
  have h0 : fieldOf m 0 = fr := by rw [hm2]; exact mark_f0 _ _ _ _ _ (by omega)
  have h1 : fieldOf m 1 = n := by rw [hm2]; exact mark_f1 _ _ _ _ _ (by omega)
  have h2' : fieldOf m 2 = st := by rw [hm2]; exact mark_f2 _ _ _ _ _ (by omega)
  have h3 : fieldOf m 3 = fi := by rw [hm2]; exact mark_f3 _ _ _ _ _ (by omega)
  have h4 : fieldOf m 4 = sy := by rw [hm2]; exact mark_f4 _ _ _ _ _ (by omega)
  have hsum : unB ((m.drop 52).take 4) = (updB 0 (m.take 52)).toNat := by rw [hm2]; exact mark_sum _ _ _ _ _
  have hmg : m.take 12 = magicB := by rw [hm2]; exact mark_magic _ _ _ _ _
  have q0 : ((strV (m.take 12)).toList == [100, 111, 99, 107, 101, 116, 32, 108, 111, 103, 32, 49]) = true := by
    rw [strV_list, hmg]
    rfl
  have f1 : IntKind.u64.wrap (fr : Int) = (fr : Int) := by have := hD.1.most; show (fr : Int) % 18446744073709551616 = _; omega
  have f2 : IntKind.u64.wrap (n : Int) = (n : Int) := by have := hD.1.most; show (n : Int) % 18446744073709551616 = _; omega
  obtain ⟨sm, hsm⟩ : ∃ sm, updB 0 (m.take 52) = sm := ⟨_, rfl⟩
  have f6 : IntKind.u64.wrap (sm.toNat : Int) = (sm.toNat : Int) := by have := sm.isLt; show (sm.toNat : Int) % 18446744073709551616 = _; omega
  have f52 : IntKind.i64.wrap 52 = 52 := by decide
  have Hf := Lib.hid (And.intro h0 (And.intro h1 (And.intro h2' (And.intro h3 (And.intro h4 (And.intro hsum (And.intro hsm (And.intro hg hd))))))))
  have hbn : (fr : Int) ≤ 4096 ∧ (n : Int) ≤ 4096 ∧ (2 : Int) ≤ (n : Int) ∧ (st : Int) ≤ 4096 ∧ (sy : Int) < 1000000000000000000 ∧ (fi : Int) ≤ 1000000000000000000 := by have := hg.two; omega
  obtain ⟨bn1, bn2, bn3, bn4, bn5, bn6⟩ := hbn
  clear h0 h1 h2' h3 h4 hsum hsm hmg hb1 hm2 hg
  clear hreg hr hD h2 hf hwt hd hm hml hmost
  go_enter Tryz.func54, Tryz.ntmps54
  go_wp2_with fail
  refine H.out.2.2.2.1.mono ?_
  rintro e w1 ⟨rfl, rfl⟩
  dsimp only
  go_wp2_with fail
  refine (read_disk H.out.1 (by have := H.out.2.1; omega) (fr : Nat) H.out.2.2.1).mono ?_
  rintro e w1 ⟨xa, xc, rfl, hrow, hu, -, -⟩
  dsimp only
  have hml := H.out.2.2.2.2.1
  rw [hml] at hrow ⊢
  obtain ⟨g, hxa, hgb, hglt, -⟩ := row_some hrow (by decide)
  subst hxa
  have hm1 := mid_of_row hrow
  have hxc : 512 ≤ xc := by
    obtain ⟨_, ⟨h, _⟩ | ⟨g', o', c', h, h1, _⟩⟩ := hm1
    · cases h
    · cases h; exact h1
  have hr1 : w1.rangeAt g 0 (bvs m) := row_range hrow (by rw [List.drop_zero, List.take_length])
  have H1 := Lib.hid (And.intro hu (And.intro hr1 (And.intro hxc (And.intro hgb hglt))))
  clear hrow hu hgb hglt hm1 hxc hr1 hml
  go_wp2_with fail
  obtain ⟨w2, hw2⟩ : ∃ w2, ((w1.alloc (.cells #[.slice (some ⟨g, 0, none⟩) 512 xc] 38)).alloc (.cells #[.int .i64 12] 3)).alloc (.cells (((Tryz.zeroCells140.setIfInBounds 0 (.pointer (some ⟨db, 0, none⟩))).setIfInBounds 1 (.int .i64 fr)).setIfInBounds 2 (.int .i64 n)) 140) = w2 := ⟨_, rfl⟩
  have hh := hdr_new H1.out.1 H1.out.2.1 H.out.2.2.2.2.1 H1.out.2.2.1 H1.out.2.2.2.1 H1.out.2.2.2.2 db fr n
  rw [hw2] at hh ⊢
  generalize w1.heap.size + 1 + 1 = lb at *
  generalize w1.heap.size + 1 = pk at *
  generalize w1.heap.size = pb at *
  have hh2 := hh.drew
  have HH := Lib.hid hh2
  have hxc := H1.out.2.2.1
  have hsl12 := slice_toI (P := Tryz.prog) 38 5 Tryz.underlying38 (by kernel_rfl) g 0 512 xc 12 12 rfl (by omega) (by omega)
  have hsl52 := slice_fromI (P := Tryz.prog) 38 5 Tryz.underlying38 (by kernel_rfl) g 0 512 xc 52 52 460 (xc - 52) rfl (by omega) (by omega) rfl rfl
  have hsl52b := slice_toI (P := Tryz.prog) 38 5 Tryz.underlying38 (by kernel_rfl) g 0 512 xc 52 52 rfl (by omega) (by omega)
  simp only [Nat.zero_add] at hsl52
  have HS : w2.drew.cell? ⟨pb, 0, none⟩ = some (.slice (some ⟨g, 0, none⟩) 512 xc) ∧ w2.drew.cell? ⟨pk, 0, none⟩ = some (.int .i64 12) ∧ Hid (Hdr w g xc pb pk lb m (preL (LSt.made fr n) db (.slice none 0 0)) w2.drew) := ⟨hh2.b, hh2.k, hh2⟩
  clear hh hh2 hw2 hxc hmf
  refine wp_region_planD (fun w' => w'.cell? ⟨pb, 0, none⟩ = some (.slice (some ⟨g, 0, none⟩) 512 xc) ∧ w'.cell? ⟨pk, 0, none⟩ = some (.int .i64 12) ∧ Hid (Hdr w g xc pb pk lb m (preL (LSt.made fr n) db (.slice none 0 0)) w')) 36 [(0, true), (1, true), (2, true), (3, true), (4, true), (5, true), (6, true), (8, true), (9, true), (7, false), (10, true), (11, true), (12, true), (13, true), (15, true), (16, true), (14, false), (17, true), (18, true), (19, true), (20, true), (21, true), (22, true), (23, true), (24, true), (25, true), (26, true), (27, true), (28, true), (29, true), (30, true), (31, true), (32, false), (33, true), (34, true), (35, true)] (by kernel_rfl) (by kernel_rfl) (fun d _ _ _ _ h => by cases d <;> exact h) HS ?_
  iterate 3 (apply planD_held rfl rfl rfl (by simp) HS; (intro w' hS K hK; go_simp; exact hK))
  apply planD_held rfl rfl rfl (by simp) HS
  · intro w' hS K hK
    exact gives_bytes_string 5 (.slice (some ⟨g, 0, none⟩) 12 xc) (m.take 12) Tryz.underlying38 Tryz.underlying5 Tryz.underlying9 rfl (hS.2.2.out.sees12) hK
  simp only [Act.put, List.setIfInBounds_toArray, List.set_cons_zero, List.set_cons_succ]
  iterate 5 (first | (apply planD_held rfl rfl rfl (by simp) HS; (intro w' hS K hK; go_simp; exact hK)) | (apply planD_wanted rfl rfl rfl (by simp) HS; (intro w' hS K hK; go_simp; exact hK)))
  refine planD_op rfl (by kernel_rfl) (fun K hK => ?_)
  go_simp
  refine (field_ok pb pk g 0 xc m 0 0 rfl _ HS.1 HS.2.1 HH.out.range HH.out.len HH.out.cap (by decide) fr Hf.out.1).mono ?_
  rintro e' w3 ⟨rfl, rfl⟩
  dsimp only
  refine hK _ _ _ (fun u h => h) (fun _ => HS) ?_
  clear hK
  try (simp only [Act.put, List.setIfInBounds_toArray, List.set_cons_zero, List.set_cons_succ])
  iterate 6 (first | (apply planD_held rfl rfl rfl (by simp) HS; (intro w' hS K hK; go_simp; exact hK)) | (apply planD_wanted rfl rfl rfl (by simp) HS; (intro w' hS K hK; go_simp; exact hK)))
  refine planD_op rfl (by kernel_rfl) (fun K hK => ?_)
  go_simp
  refine (field_ok pb pk g 0 xc m 1 1 rfl _ HS.1 HS.2.1 HH.out.range HH.out.len HH.out.cap (by decide) n Hf.out.2.1).mono ?_
  rintro e' w3 ⟨rfl, rfl⟩
  dsimp only
  refine hK _ _ _ (fun u h => h) (fun _ => HS) ?_
  clear hK
  try (simp only [Act.put, List.setIfInBounds_toArray, List.set_cons_zero, List.set_cons_succ])
  iterate 7 (first | (apply planD_held rfl rfl rfl (by simp) HS; (intro w' hS K hK; go_simp; exact hK)) | (apply planD_wanted rfl rfl rfl (by simp) HS; (intro w' hS K hK; go_simp; exact hK)))
  refine planD_call (.int .u64 sm.toNat) rfl (by kernel_rfl) (fun w' hS => ⟨72, #[.slice (some ⟨g, 52, none⟩) 460 (xc - 52), .int .i64 4], by go_simp, by
    have h := hS.2.2.out
    have h2 := get_part (n := 512) (cap := xc) h.range 52 4 sm.toNat (by rw [h.len]; decide) (by rw [h.len]; exact Nat.le_refl _) (by decide) (by rw [Hf.out.2.2.2.2.2.1, Hf.out.2.2.2.2.2.2.1]) (by rw [h.len]; decide) 460 (by rw [h.len]) (xc - 52)
    exact h2⟩) ?_
  try (simp only [Act.put, List.setIfInBounds_toArray, List.set_cons_zero, List.set_cons_succ])
  iterate 7 (first | (apply planD_held rfl rfl rfl (by simp) HS; (intro w' hS K hK; go_simp; exact hK)) | (apply planD_wanted rfl rfl rfl (by simp) HS; (intro w' hS K hK; go_simp; exact hK)))
  refine planD_op rfl (by kernel_rfl) (fun K hK => ?_)
  go_simp
  have hs52 : Sees w2.drew 1 (.slice (some ⟨g, 0, none⟩) 52 xc) (m.take 52).length (bvs (m.take 52)) := by
    have hl : (m.take 52).length = 52 := by rw [List.length_take, HH.out.len]; rfl
    have h1 := sees_part (n := 512) (cap := xc) HH.out.range 0 52 xc (by rw [HH.out.len]; decide) (by decide)
    rw [List.drop_zero] at h1
    rw [hl]
    exact h1
  refine (sum9 HH.out.log _ (m.take 52) hs52 (fun j hj _ => by cases hj; exact HH.out.new.2.2.1)).mono ?_
  rintro e' w3 ⟨rfl, hu3, hC3⟩
  dsimp only
  rw [Hf.out.2.2.2.2.2.2.1]
  have hh3 := HH.out.write hu3 hC3
  have HH3 := Lib.hid hh3
  have HS3 : w3.cell? ⟨pb, 0, none⟩ = some (.slice (some ⟨g, 0, none⟩) 512 xc) ∧ w3.cell? ⟨pk, 0, none⟩ = some (.int .i64 12) ∧ Hid (Hdr w g xc pb pk lb m (preL (LSt.made fr n) db (.slice none 0 0)) w3) := ⟨hh3.b, hh3.k, hh3⟩
  refine hK _ _ _ (fun u h => h) (fun _ => HS3) ?_
  clear hK HS hs52 hu3 hC3 hh3
  try (simp only [Act.put, List.setIfInBounds_toArray, List.set_cons_zero, List.set_cons_succ])
  iterate 3 (first | (apply planD_held rfl rfl rfl (by simp) HS3; (intro w' hS K hK; go_simp; exact hK)) | (apply planD_wanted rfl rfl rfl (by simp) HS3; (intro w' hS K hK; go_simp; exact hK)))
  refine planD_nil ?_
  clear HS3 f6 f52 f1 f2 hsl12 hsl52 hsl52b q0
  have f3 : IntKind.i64.wrap (st : Int) = (st : Int) := by rw [IntKind.wrap_i64]; omega
  have f4 : IntKind.i64.wrap (sy : Int) = (sy : Int) := by rw [IntKind.wrap_i64]; omega
  have f5 : IntKind.i64.wrap (fi : Int) = (fi : Int) := by rw [IntKind.wrap_i64]; omega
  obtain ⟨d0, d1, d2, d3, d4, d5, d6, d7, d8⟩ := nine HH3.out.log
  have hfz := HH3.out.log.frozen
  clear d0 d1 d2 d4 d5 d8
  go_wp2_with fail
  refine (field_ok pb pk g 0 xc m 2 2 rfl _ HH3.out.b HH3.out.k HH3.out.range HH3.out.len HH3.out.cap (by decide) st Hf.out.2.2.1).mono ?_
  rintro e' w4 ⟨rfl, rfl⟩
  dsimp only
  go_wp2_with fail
  refine (field_ok pb pk g 0 xc m 4 4 rfl _ HH3.out.b HH3.out.k HH3.out.range HH3.out.len HH3.out.cap (by decide) sy Hf.out.2.2.2.2.1).mono ?_
  rintro e' w4 ⟨rfl, rfl⟩
  dsimp only
  go_wp2_with fail
  have hu4 : Upd (fun k => k = lb) w3 (((w3.setCell ⟨lb, 3, none⟩ (.int .i64 st)).setCell ⟨lb, 7, none⟩ (.int .i64 sy)).setCell ⟨lb, 6, none⟩ (.int .i64 sy)) := upd_set 6 _ (upd_set 7 _ (upd_set 3 _ (Upd.refl _ w3)))
  have hC4 : Cells9 (((w3.setCell ⟨lb, 3, none⟩ (.int .i64 st)).setCell ⟨lb, 7, none⟩ (.int .i64 sy)).setCell ⟨lb, 6, none⟩ (.int .i64 sy)) lb (preL (LSt.part fr n st fi sy bs 0) db (.slice none 0 0)) :=
    ((HH3.out.log.set 3 (by decide) (.int .i64 st)).set 7 (by decide) (.int .i64 sy)).set 6 (by decide) (.int .i64 sy)
  have HH4 := Lib.hid (HH3.out.write hu4 hC4)
  clear hu4 hC4
  generalize ((w3.setCell ⟨lb, 3, none⟩ (.int .i64 st)).setCell ⟨lb, 7, none⟩ (.int .i64 sy)).setCell ⟨lb, 6, none⟩ (.int .i64 sy) = w4 at *
  refine (field_ok pb pk g 0 xc m 3 3 rfl _ HH4.out.b HH4.out.k HH4.out.range HH4.out.len HH4.out.cap (by decide) fi Hf.out.2.2.2.1).mono ?_
  rintro e' w5 ⟨rfl, rfl⟩
  dsimp only
  have hg := Hf.out.2.2.2.2.2.2.2.1
  have hgl := hg.len
  have hgs := hg.start
  have hgp := hg.pos
  have q1 : decide ((st : Int) < 0) = false := by simp; try omega
  have q2 : decide ((n : Int) - 1 ≤ (st : Int)) = false := by simp; omega
  have q3 : decide ((fi : Int) < 1) = false := by simp; omega
  have q4 : decide ((sy : Int) + 1 < (fi : Int)) = false := by simp; omega
  have hbsn : bs.length ≤ needsB bs := by
    have : ∀ l : List Batch, l.length ≤ needsB l := by
      intro l
      induction l with
      | nil => exact Nat.zero_le _
      | cons b r ih => rw [needsB_cons, List.length_cons]; have := needB_pos b; omega
    exact this bs
  have q5 : decide ((n : Int) ≤ (sy : Int) - (fi : Int)) = false := by have := hg.need; simp; omega
  obtain ⟨e0, e1, e2, e3, e4, e5, e6, e7, e8⟩ := nine HH4.out.log
  have d3' : w4.cell? ⟨lb, 3, none⟩ = some (.int .i64 st) := e3
  have d7' : w4.cell? ⟨lb, 7, none⟩ = some (.int .i64 sy) := e7
  clear hg hgl hgs hgp hbsn d3 d6 d7 hfz e0 e1 e2 e3 e4 e5 e6 e7 e8 f3 f4
  go_wp2_with fail
  have HO0 : Hid (OpnR w db lb fr n st fi sy bs 0 none 0 w4) :=
    ⟨.slice none 0 0, [], fun _ => False, HH4.out.log, Mid.nil _ _, Mid.nil _ _, RowsAt.nil _ _, HH4.out.upd, (fun j hj => hj.elim), HH4.out.new.1, (fun j hj => by cases hj), (fun j hj => by cases hj)⟩
  clear q1 q2 q3 q4 q5 d3' d7' f5
  go_loopw [16, 17] (fun al i wr => ∃ (k q : Nat) (x : Option Addr) (c : Nat), k ≤ bs.length ∧ q = fi + k ∧ i = .int .i64 q ∧ al = .slice x k c ∧ Hid (OpnR w db lb fr n st fi sy bs k x c wr)) (fun _ i _ => bs.length + fi - (intOf i).toNat)
  case atStart => exact ⟨0, fi, none, 0, Nat.zero_le _, rfl, rfl, rfl, HO0⟩
  case round =>
    clear HO0
    obtain ⟨k, q, x, c, hk, hq, rfl, rfl, HO⟩ := hrel
    have Hq := Lib.hid hq
    have hg := Hf.out.2.2.2.2.2.2.2.1
    have hgl := hg.len
    have hqb : (q : Int) ≤ 1000000000000005000 := by have := hg.need; omega
    obtain ⟨lv, vs, A, o1, o2, o3, o4, o5, o6, o7, o8, o9⟩ := HO.out
    obtain ⟨d0, d1, d2, d3, d4, d5, d6, d7, d8⟩ := nine o1
    have d3' : wr.cell? ⟨lb, 3, none⟩ = some (.int .i64 st) := d3
    have d7' : wr.cell? ⟨lb, 7, none⟩ = some (.int .i64 sy) := d7
    obtain ⟨s, hs⟩ : ∃ s, needsB (bs.take k) = s := ⟨_, rfl⟩
    have d4' : wr.cell? ⟨lb, 4, none⟩ = some (.int .i64 s) := by rw [← hs]; exact d4
    have hsn : s ≤ 4096 := by have h1 := needsB_take_le bs k; have := hg.need; omega
    have hok := part_ok hg (by rw [done_length]; exact H.out.2.2.2.2.2.2.2) k
    by_cases hlt : k < bs.length
    · obtain ⟨b, hb⟩ : ∃ b, bs[k] = b := ⟨_, rfl⟩
      obtain ⟨nd, hnd⟩ : ∃ nd, needB b = nd := ⟨_, rfl⟩
      have hsn2 : s + nd ≤ n - 1 := by have h1 := needsB_take_succ bs k hlt; have h2 := needsB_take_le bs (k + 1); have := hg.need; rw [hb, hnd, hs] at h1; omega
      obtain ⟨P, hP⟩ : ∃ P, st + s = P := ⟨_, rfl⟩
      obtain ⟨ro, hro⟩ : ∃ ro, n - 1 - s = ro := ⟨_, rfl⟩
      have f1 : IntKind.i64.wrap ((st : Int) + (s : Int)) = (P : Int) := by rw [IntKind.wrap_i64]; omega
      have q1 : (q : Int) ≤ (sy : Int) := by omega
      have q2 : (nd : Int) ≤ (ro : Int) := by omega
      have hdr : Upd (fun _ => False) wr wr.drew := (Upd.refl _ wr).drew
      have hDr := (H.out.1.upd o5 (fun _ _ h => h)).upd hdr (fun _ _ h => h)
      have hload := load_ok (w := wr.drew) (lv := lv) (o1.upd hdr (fun h => h)) hok hDr Hf.out.2.2.2.2.2.2.2.2 (fun h => by have := H.out.1.lt lb h; omega) H.out.2.1 P q b (by omega) (by omega) (by rw [hnd]; show nd ≤ n - 1; omega) (fun j hj => by
        have h := laid_get bs st fi hg.laid k hlt j (by rw [hb]; exact hj)
        rw [hs, hP, ← hq, hb] at h
        exact h)
      rw [hnd] at hload
      have Hload := Lib.hid hload
      have HR := Lib.hid (And.intro hb (And.intro hnd (And.intro hs (And.intro hsn2 (And.intro hP (And.intro hro (And.intro hok hg)))))))
      have HS : wr.drew.cell? ⟨lb, 3, none⟩ = some (.int .i64 st) ∧ wr.drew.cell? ⟨lb, 4, none⟩ = some (.int .i64 s) := ⟨d3', d4'⟩
      have Ho := Lib.hid (And.intro (o1.upd hdr (fun h => h)) (And.intro (o2.upd hdr (fun _ _ h => h)) (And.intro (o3.upd hdr (fun _ _ h => h)) (And.intro (o4.upd hdr (fun _ _ h => h)) (And.intro o5.drew (And.intro o6 (And.intro o7 (And.intro o8 o9))))))))
      have hndb : (nd : Int) ≤ 4096 := by omega
      have hsb : (s : Int) ≤ 4096 := by omega
      clear hq hg hgl o1 o2 o3 o4 o5 o6 o7 o8 o9 d0 d1 d2 d3 d4 d5 d6 d7 d8 hs hsn hok hb hnd hsn2 hP hro hDr hload d3' d4' hdr
      go_wp2_with fail
      clear d7'
      refine wp_region_planD (fun w' => w'.cell? ⟨lb, 3, none⟩ = some (.int .i64 st) ∧ w'.cell? ⟨lb, 4, none⟩ = some (.int .i64 s)) 19 [(0, true), (1, true), (2, true), (3, true), (4, true), (5, true), (6, true), (7, true), (8, true), (9, true), (10, true), (11, false), (12, true), (13, true), (14, true), (15, true), (16, true), (17, true), (18, true)] (by kernel_rfl) (by kernel_rfl) (fun d _ _ _ _ h => by cases d <;> exact h) HS ?_
      iterate 11 (apply planD_held rfl rfl rfl (by simp) HS; (intro w' hS K hK; go_simp; exact hK))
      refine planD_op rfl rfl (fun K hK => ?_)
      go_simp
      refine Hload.out.mono ?_
      rintro e' w6 ⟨xb, cb, rfl, hld⟩
      dsimp only
      have hC6 := hld.2.2.2
      have hroom := room_ok hC6 HR.out.2.2.2.2.2.2.1
      have hroe : (LSt.part fr n st fi sy bs k).n - 1 - (LSt.part fr n st fi sy bs k).used = ro := by rw [← HR.out.2.2.2.2.2.1, ← HR.out.2.2.1]; rfl
      rw [hroe] at hroom
      have Hroom := Lib.hid hroom
      obtain ⟨d0, d1, d2, d3, d4, d5, d6, d7, d8⟩ := nine hC6
      have hsu : (LSt.part fr n st fi sy bs k).used = s := HR.out.2.2.1
      rw [hsu] at d4
      have d3' : w6.cell? ⟨lb, 3, none⟩ = some (.int .i64 st) := d3
      have HS6 : w6.cell? ⟨lb, 3, none⟩ = some (.int .i64 st) ∧ w6.cell? ⟨lb, 4, none⟩ = some (.int .i64 s) := ⟨d3', d4⟩
      obtain ⟨xl, cl, hlvs⟩ := Ho.out.2.1.sees.shape
      have d5' : w6.cell? ⟨lb, 5, none⟩ = some (.slice xl k cl) := by rw [← hlvs]; exact d5
      have d4' := d4
      have hfz6 := hC6.frozen
      have Hld := Lib.hid (And.intro hld hlvs)
      refine hK _ _ _ (fun u h => h) (fun _ => HS6) ?_
      clear hK HS hld hC6 hroom hroe hsu d0 d1 d2 d3 d3' d4 d5 d6 d7 d8 hlvs f1
      try (simp only [Act.put, List.setIfInBounds_toArray, List.set_cons_zero, List.set_cons_succ])
      iterate 7 (apply planD_held rfl rfl rfl (by simp) HS6; (intro w' hS K hK; go_simp; exact hK))
      refine planD_nil ?_
      clear HS6
      go_wp2_with fail
      refine Hroom.out.mono ?_
      rintro e' w7 ⟨rfl, rfl⟩
      dsimp only
      clear Hroom
      have q2b : decide (ro < nd) = false := by simp; omega
      have Hz := Lib.hid (And.intro d4' (And.intro d5' (And.intro hfz6 (And.intro hsb (And.intro hndb (And.intro hqb q2))))))
      clear q1 hndb hsb hqb bn1 bn2 bn3 bn4 bn5 bn6 d4' d5' hfz6 q2
      go_upto_region 26 with fail
      obtain ⟨d4', d5', hfz6, hsb, hndb, hqb, q2⟩ := Hz.out
      clear q2b q2
      have hal := (Upd.refl (fun _ => False) w6.drew).alloc (.cells (entryV (q, nd)).toArray 151)
      go_wp2_with ((with_reducible apply wpl_append_mid 151 2 16 _ (.slice xl k cl) k (listV (number fi (bs.take k))) 1 (entryV (q, nd))))
      · exact Tryz.underlying120
      · exact infoE
      · rfl
      · rfl
      · have h := (Ho.out.2.1.upd Hld.out.1.2.2.1 (fun j hj => (Ho.out.2.2.2.2.2.2.2.1 j hj).2.1))
        rw [Hld.out.2] at h
        exact (h.upd ((Upd.refl (fun _ => False) w6).drew) (fun _ _ h => h)).upd hal (fun _ _ h => h)
      · exact Sees.at rfl (by decide) (rangeAt_of_row (heap_alloc_new w6.drew (.cells (entryV (q, nd)).toArray 151)) rfl)
      · intro u hu
        simp only [entryV, List.mem_cons, List.not_mem_nil, or_false] at hu
        rcases hu with rfl | rfl <;> rfl
      · have := H.out.2.2.2.2.2.2.2; have h2 := HR.out.2.2.2.2.2.2.2.need; have h3 := HR.out.2.2.2.2.2.2.2.fit
        have h4 := sum_ge_length (number fi (bs.take k)) (fun p hp => (number_mem _ _ p hp).1)
        rw [number_sum, number_length, List.length_take] at h4
        have h5 := needsB_take_le bs k
        rw [done_length] at h3
        unfold maxLen; omega
      · have := H.out.2.2.2.2.2.2.2; have h2 := HR.out.2.2.2.2.2.2.2.need; have h3 := HR.out.2.2.2.2.2.2.2.fit
        have h4 := sum_ge_length (number fi (bs.take k)) (fun p hp => (number_mem _ _ p hp).1)
        rw [number_sum, number_length, List.length_take] at h4
        have h5 := needsB_take_le bs k
        rw [done_length] at h3
        omega
      intro x1 c1' W2 hm2 hu2 hb2
      try (simp only [Act.put, List.setIfInBounds_toArray, List.set_cons_zero, List.set_cons_succ])
      have hal0 : Upd (fun _ => False) w6 (w6.drew.alloc (.cells (entryV (q, nd)).toArray 151)) := ((Upd.refl _ w6).drew).alloc _
      have hlbl : lv.ownBlock ≠ some lb := fun h => (Ho.out.2.2.2.2.2.2.2.1 lb h).2.1 rfl
      have hC2 : Cells9 W2 lb (preL (LSt.part fr n st fi sy bs k) db lv) := (Hld.out.1.2.2.2.upd hal0 (fun h => h)).upd hu2 (by rw [← Hld.out.2]; exact hlbl)
      obtain ⟨e0, e1, e2, e3, e4, e5, e6, e7, e8⟩ := nine hC2
      have hsu : (LSt.part fr n st fi sy bs k).used = s := HR.out.2.2.1
      rw [hsu] at e4
      rw [Hld.out.2] at e5
      have hfz2 := hC2.frozen
      obtain ⟨s', hs'⟩ : ∃ s', s + nd = s' := ⟨_, rfl⟩
      have f4 : (s : Int) + (nd : Int) = (s' : Int) := by omega
      have hs'b : (s' : Int) ≤ 8192 := by omega
      have Hm2 := Lib.hid (And.intro hm2 (And.intro hu2 (And.intro hb2 (And.intro hC2 hs'))))
      have hkb : k ≤ 4096 := by
        have := H.out.2.2.2.2.2.2.2; have h2 := HR.out.2.2.2.2.2.2.2.need; have h3 := HR.out.2.2.2.2.2.2.2.fit
        have h4 := sum_ge_length (number fi (bs.take k)) (fun p hp => (number_mem _ _ p hp).1)
        rw [number_sum, number_length, List.length_take] at h4
        have h5 := needsB_take_le bs k
        rw [done_length] at h3
        omega
      have hb' : bs[k] = b := HR.out.1
      have ub : Upd (fun k => k = lb) W2 ((W2.setCell ⟨lb, 5, none⟩ (.slice x1 (k + 1) c1')).setCell ⟨lb, 4, none⟩ (.int .i64 s')) := upd_set 4 _ (upd_set 5 _ (Upd.refl _ W2))
      have hxm : Mid (((W2.setCell ⟨lb, 5, none⟩ (.slice x1 (k + 1) c1')).setCell ⟨lb, 4, none⟩ (.int .i64 s')).alloc (.cells ([.slice xb b.length cb] : List Value).toArray 41)) 1 (.slice x k c) k vs := by
        have h1 := Ho.out.2.2.1.upd Hld.out.1.2.2.1 (fun j hj => (Ho.out.2.2.2.2.2.2.2.2 j hj).2)
        have h2 := (h1.upd hal0 (fun _ _ h => h)).upd hu2 (fun j hj h => by
          rw [← Hld.out.2] at h
          exact (Ho.out.2.2.2.2.2.2.2.1 j h).2.2 hj)
        exact (h2.upd ub (fun j hj => (Ho.out.2.2.2.2.2.2.2.2 j hj).2)).upd ((Upd.refl (fun _ => False) _).alloc _) (fun _ _ h => h)
      have hxs := rangeAt_of_row (heap_alloc_new ((W2.setCell ⟨lb, 5, none⟩ (.slice x1 (k + 1) c1')).setCell ⟨lb, 4, none⟩ (.int .i64 s')) (.cells ([.slice xb b.length cb] : List Value).toArray 41)) (off := 0) (xs := [.slice xb b.length cb]) rfl
      have hsz2 : ((W2.setCell ⟨lb, 5, none⟩ (.slice x1 (k + 1) c1')).setCell ⟨lb, 4, none⟩ (.int .i64 s')).heap.size = W2.heap.size := by simp
      rw [hsz2] at hxs
      have Hxm := Lib.hid (And.intro hxm (And.intro hkb hxs))
      clear hm2 hu2 hb2 hC2 hs' hal hal0 hlbl e0 e1 e2 e3 e6 e7 e8 d4' d5' hfz6 hsb hndb hsu hb' ub hxm hkb hxs hsz2
      go_wp2_with ((with_reducible apply wpl_append_mid 41 1 24 _ (.slice x k c) k vs 1 [.slice xb b.length cb]))
      · exact Tryz.underlying110
      · exact infoSS
      · rfl
      · rfl
      · exact Hxm.out.1
      · exact Sees.at rfl (by decide) Hxm.out.2.2
      · intro u hu; simp at hu; rw [hu]; rfl
      · have := Hxm.out.2.1; unfold maxLen; omega
      · have := Hxm.out.2.1; omega
      intro x2 c2' W4 hm4 hu4 hb4
      try (simp only [Act.put, List.setIfInBounds_toArray, List.set_cons_zero, List.set_cons_succ])
      have hb' : bs[k] = b := HR.out.1
      have hnd' : needB bs[k] = nd := by rw [hb']; exact HR.out.2.1
      have HO2 : Hid (OpnR w db lb fr n st fi sy bs (k + 1) x2 c2' W4) := by
        have ho := Ho.out
        have hl1 := Hld.out.1
        rw [← hb'] at hl1 hm4 hu4 hb4
        have h2 := Hm2.out
        rw [← Hld.out.2] at h2
        have hm2' := h2.1
        have hu2' : Upd (fun j => lv.ownBlock = some j) (w6.drew.alloc (.cells (entryV (q, nd)).toArray 151)) W2 := h2.2.1
        have hb2' : (Value.slice x1 (k + 1) c1').ownBlock = lv.ownBlock ∨ (Value.slice x1 (k + 1) c1').ownBlock = some (w6.drew.alloc (.cells (entryV (q, nd)).toArray 151)).heap.size := by
          rcases h2.2.2.1 with h | h
          · exact .inl h
          · exact .inr h
        have e : (q, nd) = (fi + k, needB bs[k]) := by rw [hnd', ← Hq.out]
        rw [e] at hm2' hu2' hb2'
        exact opR_step (s' := s') (o1 := .cells (entryV (fi + k, needB bs[k])).toArray 151) (o2 := .cells ([.slice xb bs[k].length cb] : List Value).toArray 41) ho.1 ho.2.1 ho.2.2.1 ho.2.2.2.1 ho.2.2.2.2.1 ho.2.2.2.2.2.1 ho.2.2.2.2.2.2.1 ho.2.2.2.2.2.2.2.1 ho.2.2.2.2.2.2.2.2 hlt hl1 (by rw [← h2.2.2.2.2, needsB_take_succ bs k hlt, hnd', HR.out.2.2.1]) hm2' hu2' hb2' hm4 hu4 hb4
      clear hm4 hu4 hb4 hb' hnd' f4 e4 e5 hfz2
      go_wp2_with fail
      exact ⟨⟨k + 1, q + 1, x2, c2', by omega, by have := Hq.out; omega, by go_num, rfl, HO2⟩, by have := Hq.out; simp [intOf]; omega⟩
    · obtain rfl : k = bs.length := by omega
      have q1 : decide (q ≤ sy) = false := by simp; omega
      have hs2 : s = needsB bs := by rw [← hs, List.take_length]
      have HE := Lib.hid (And.intro o1 (And.intro o2 (And.intro o3 (And.intro o4 (And.intro o5 (And.intro o6 (And.intro o7 (And.intro o8 (And.intro o9 hok)))))))))
      clear hq hg hgl o1 o2 o3 o4 o5 o6 o7 o8 o9 hok d0 d1 d2 d3 d4 d5 d6 d7 d8 d3' d4' hs hsn hs2 hlt hqb bn1 bn2 bn3 bn4 bn5 bn6
      go_wp2_with fail
      go_ret3
      refine ⟨lb, x, c, rfl, ?_⟩
      obtain ⟨o1, o2, o3, o4, o5, o6, o7, o8, o9, hok⟩ := HE.out
      rw [List.take_length] at o2 o4
      have hL : LSt.part fr n st fi sy bs bs.length = LSt.opened fr n st fi sy bs := by rw [LSt.part, LSt.opened, List.take_length]
      rw [hL] at o1 hok
      have hDr := H.out.1.upd o5 (fun _ _ h => h)
      have hFlt := H.out.1.lt
      have hl : (LSt.opened fr n st fi sy bs).list.length = bs.length := number_length _ _
      refine ⟨fun j => j = lb ∨ lv.ownBlock = some j ∨ F j, vs, A, ⟨lv, F, hok, o1, by rw [hl]; exact o2, hDr, fun h => by have := hFlt _ h; omega, fun j hj => ⟨fun h => by have := hFlt _ h; have := (o8 j hj).1; omega, (o8 j hj).2.1⟩, fun _ => Iff.rfl⟩, o5, fun j hj => ?_, o3, o4, fun j hj => ?_, fun j hj => ?_⟩
      · rcases hj with rfl | hj | hj
        · exact .inr o7
        · exact .inr (o8 j hj).1
        · exact .inl hj
      · have h1 := o6 j hj
        refine ⟨h1.1, h1.2.1, fun h => ?_, h1.2.2.2.2⟩
        rcases h with h | h | h
        · exact h1.2.2.1 h
        · exact h1.2.2.2.1 h
        · have := hFlt _ h; omega
      · have h1 := o9 j hj
        refine ⟨h1.1, fun h => ?_⟩
        rcases h with h | h | h
        · exact h1.2 h
        · exact (o8 j h).2.2 hj
        · have := hFlt _ h; omega
end Go.Proofs.YtihlijnobbonbaaGreat
/- docketlaw03.fixed and what it leans on. -/
namespace Go.Proofs.YtihlijnobbonbaaGreat
open Go.RowKit
set_option linter.unusedSimpArgs false
set_option linter.unusedVariables false
set_option maxRecDepth 100000

theorem make_inv {D : DSt} {fr n : Nat} (hOk : D.Ok) (h2 : 2 ≤ n) (hf : fr + n ≤ D.secs.length) (hd : D.dead = false) (hfu : D.fuel < 0) :
    (makeD D fr n).2 = 0 ∧ Inv (LSt.made fr n) (makeD D fr n).1 0 [] ∧ (makeD D fr n).1.fuel = D.fuel ∧ (makeD D fr n).1.waits = [] ∧ (makeD D fr n).1.secs.length = D.secs.length := by
  have hfl := DSt.flush_eq (D := D) hd (by omega)
  have hm : makeD D fr n = (((LSt.made fr n).mark D.flush.1).2.1, ((LSt.made fr n).mark D.flush.1).2.2) := by
    rw [makeD, if_pos (by rw [hfl])]
  rw [hm]
  have hb := burnt_neg hfu
  rcases mark_spec (LSt.made fr n) D.flush.1 (by rw [hfl]; exact hd) (by rw [hfl]; show fr < _; rw [done_length]; omega) with ⟨a1, a2, a3, a4, a5, a6⟩ | ⟨a1, a2, a3, a4, a5, a6⟩
  · have e1 : D.flush.1.fuel = D.fuel := by rw [hfl]; exact hb
    have e2 : D.flush.1.waits = [] := by rw [hfl]
    have e3 : D.flush.1.secs.length = D.secs.length := by rw [hfl]; exact done_length _ _
    rw [e2] at a4
    refine ⟨a1, made_inv (S := D.flush.1.secs) h2 (by rw [e3]; exact hf) (by rw [e3]; exact hOk.most) a3 a4 a5, (a6 (by rw [e1]; exact hfu)).trans e1, a5, ?_⟩
    rw [a4, List.length_set]
    exact e3
  · have e1 : D.flush.1.fuel = D.fuel := by rw [hfl]; exact hb
    rw [e1] at a6
    omega
theorem batch_eq (s : ByteArray) (t : ByteArray) : (s.toList == t.toList) = decide (s = t) := by
  have h : s.toList = t.toList ↔ s = t := by
    constructor
    · intro h
      rw [← strV_data s, ← strV_data t]
      have e : ∀ x : ByteArray, x.data.toList = x.toList := fun x => by
        have := strV_list x.data.toList
        rw [strV_data] at this
        exact this.symm
      rw [e, e, h]
    · rintro rfl; rfl
  by_cases hst : s = t
  · subst hst; simp
  · rw [decide_eq_false hst, beq_eq_false_iff_ne]
    exact fun h' => hst (h.1 h')
end Go.Proofs.YtihlijnobbonbaaGreat
/- wal: the calls, with all that was appended kept beside; the disk never dies. -/
namespace Go.Proofs.YtihlijnobbonbaaGreat
open Go.RowKit
set_option linter.unusedSimpArgs false
set_option linter.unusedVariables false
set_option maxRecDepth 100000

theorem writes_waits (L : LSt) (bs : Bytes) : ∀ (k i : Nat) (D : DSt), (L.writes bs k i D).1.waits.length ≤ D.waits.length + k
  | 0, i, D => Nat.le_refl _
  | k + 1, i, D => by
    have h1 := write_waits D (L.ring (L.start + L.used + i) : Nat) (chunk bs i)
    rw [LSt.writes]
    split
    · have h2 := writes_waits L bs k (i + 1) (D.write (L.ring (L.start + L.used + i) : Nat) (chunk bs i)).1
      omega
    · omega
theorem append_waits (L : LSt) (D : DSt) (b : Batch) : (L.append D b).2.1.waits.length ≤ D.waits.length + needB b := by
  unfold LSt.append
  split
  · exact Nat.le_add_right _ _
  · have h := writes_waits L (encB (L.last + 1) b) (needB b) 0 D
    dsimp only
    split <;> exact h
structure Hist (w : World) (lb db : Nat) (L : LSt) (D : DSt) (F : Nat → Prop) (T : Nat) (all : List Batch) : Prop where
  wal : WalAt w lb db L D F
  inv : Inv L D T all
  fuel : D.fuel = -1
theorem Hist.upd {w w' : World} {lb db : Nat} {L : LSt} {D : DSt} {F : Nat → Prop} {T : Nat} {all : List Batch} (h : Hist w lb db L D F T all) {H : Nat → Prop} (hu : Upd H w w') (hf : ∀ k, F k → ¬ H k) : Hist w' lb db L D F T all := ⟨h.wal.upd hu hf, h.inv, h.fuel⟩

theorem make_live {w : World} {db : Nat} {D : DSt} {F : Nat → Prop} (hD : DiskAt w db D F) (fr n : Nat) (h2 : 2 ≤ n) (hf : fr + n ≤ D.secs.length) (hwt : D.waits.length < 99999999990) (hd : D.dead = false) (hfu : D.fuel = -1) (frI nI : Int) (hfI : frI = (fr : Nat)) (hnI : nI = (n : Nat)) :
    Calls Tryz.prog 39 #[.pointer (some ⟨db, 0, none⟩), .int .i64 frI, .int .i64 nI] w fun e w' => ∃ lb F', e = .returned (.tuple #[.pointer (some ⟨lb, 0, none⟩), .int .i64 0]) ∧ Hist w' lb db (LSt.made fr n) (makeD D fr n).1 F' 0 [] ∧ Upd F w w' ∧ (∀ k, F' k → F k ∨ w.heap.size ≤ k) ∧ (makeD D fr n).1.waits = [] ∧ (makeD D fr n).1.secs.length = D.secs.length := by
  subst hfI; subst hnI
  obtain ⟨i1, i2, i3, i4, i5⟩ := make_inv hD.1 h2 hf hd (by omega)
  refine (make_ok hD fr n h2 hf hwt).mono ?_
  rintro e w' ⟨p, rfl, hp⟩
  rw [i1] at hp ⊢
  rcases hp with ⟨_, lb, F', rfl, g1, g2, g3⟩ | ⟨h, _⟩
  · exact ⟨lb, F', rfl, ⟨g1, i2, i3.trans hfu⟩, g2, g3, i4, i5⟩
  · exact absurd rfl h

/-- What an Append leaves. -/
def AppPost (w : World) (lb db : Nat) (L : LSt) (D : DSt) (F : Nat → Prop) (T : Nat) (all : List Batch) (b : Batch) (a r : Int) (w' : World) : Prop :=
  (L.check b ≠ 0 ∧ L.check b ≠ 10 ∧ a = 0 ∧ r = L.check b ∧ ∃ F', Hist w' lb db L D F' T all ∧ Upd F w w' ∧ (∀ k, F' k → F k ∨ w.heap.size ≤ k)) ∨
  (L.check b = 0 ∧ a = ((all.length + 1 : Nat) : Int) ∧ r = 0 ∧ ∃ L' D' F', Hist w' lb db L' D' F' T (all ++ [b]) ∧ Upd F w w' ∧ (∀ k, F' k → F k ∨ w.heap.size ≤ k) ∧ L'.synced = L.synced ∧ L'.fr = L.fr ∧ L'.n = L.n ∧ D'.waits.length ≤ D.waits.length + 4096 ∧ D'.secs.length = D.secs.length)
theorem hist_append {w : World} {lb db : Nat} {L : LSt} {D : DSt} {F : Nat → Prop} {T : Nat} {all : List Batch} (h : Hist w lb db L D F T all) (hwt : D.waits.length < 99999900000) (xa : Option Addr) (xc : Nat) (b : Batch) (hb : Sees w 1 (.slice xa b.length xc) b.length (strsV b))
    (hbF : ∀ x, xa = some x → 0 < b.length → ¬ F x.block) (hl : all.length + 1 < 1000000000000000000) :
    Calls Tryz.prog 48 #[.pointer (some ⟨lb, 0, none⟩), .slice xa b.length xc] w fun e w' => ∃ a r, e = .returned (.tuple #[.int .i64 a, .int .i64 r]) ∧ AppPost w lb db L D F T all b a r w' := by
  have hFlb : F lb := by
    obtain ⟨lv, G, _, _, _, _, _, _, hF⟩ := h.wal
    exact (hF lb).2 (.inl rfl)
  refine (append_ok h.wal hwt xa xc b hb (fun x hx h0 e => hbF x hx h0 (by rw [e]; exact hFlb)) (by rw [h.inv.last]; exact hl)).mono ?_
  rintro e w' ⟨rfl, F', g1, g2, g3⟩
  refine ⟨_, _, rfl, ?_⟩
  rcases append_inv h.inv b (by rw [h.inv.last]; exact hl) with ⟨a1, a2, a3⟩ | ⟨a1, a2, a3, a4, a5, a6, a7, a8⟩ | ⟨a1, a2, a3, a4, a5, a6⟩
  · rw [a2] at g1 ⊢
    exact .inl ⟨a1, a3, rfl, rfl, F', ⟨g1, h.inv, h.fuel⟩, g2, g3⟩
  · rw [a2]
    have hw := append_waits L D b
    have hn : needB b ≤ 4096 := by have := a3.ok.used; rw [a7, a6] at this; have := h.inv.ok.fit; omega
    have hs : (L.append D b).2.1.secs.length = D.secs.length := by
      rcases writes_spec L (encB (L.last + 1) b) h.inv.ok.two (needB b) 0 D h.inv.live h.inv.fit with ⟨b1, b2, b3, b4, b5⟩ | ⟨b1, b2, b3, b4, b5⟩
      · unfold LSt.append
        rw [if_neg (by omega)]
        dsimp only
        rw [if_pos b1, b3]
      · have := h.fuel; omega
    exact .inr ⟨a1, rfl, rfl, _, _, F', ⟨g1, a3, (a8 (by rw [h.fuel]; decide)).trans h.fuel⟩, g2, g3, a4, a5, a6, by omega, hs⟩
  · have := h.fuel; omega
theorem hist_sync {w : World} {lb db : Nat} {L : LSt} {D : DSt} {F : Nat → Prop} {T : Nat} {all : List Batch} (h : Hist w lb db L D F T all) (hwt : D.waits.length < 99999999990) :
    Calls Tryz.prog 52 #[.pointer (some ⟨lb, 0, none⟩)] w fun e w' => ∃ D' F', e = .returned (.int .i64 0) ∧ Hist w' lb db { L with synced := all.length } D' F' T all ∧ Upd F w w' ∧ (∀ k, F' k → F k ∨ w.heap.size ≤ k) ∧ D'.waits = [] := by
  refine (sync_ok h.wal hwt).mono ?_
  rintro e w' ⟨rfl, F', g1, g2, g3⟩
  rcases sync_inv h.inv with ⟨a1, a2, a3, a4, a5⟩ | ⟨a1, a2, a3, a4, a5⟩
  · rw [a1]
    rw [a3] at a2 g1
    exact ⟨_, F', rfl, ⟨g1, a2, (a5 (by rw [h.fuel]; decide)).trans h.fuel⟩, g2, g3, a4⟩
  · have := h.fuel; omega
/-- What a Trim leaves. -/
def TrimPost (w : World) (lb db : Nat) (L : LSt) (D : DSt) (F : Nat → Prop) (T : Nat) (all : List Batch) (u r : Int) (w' : World) : Prop :=
  ((u < 0 ∨ (L.synced : Int) < u) ∧ r = 1 ∧ ∃ F', Hist w' lb db L D F' T all ∧ Upd F w w' ∧ (∀ k, F' k → F k ∨ w.heap.size ≤ k)) ∨
  (0 ≤ u ∧ u ≤ (L.synced : Int) ∧ r = 0 ∧ ∃ L' D' F', Hist w' lb db L' D' F' (max T u.toNat) all ∧ Upd F w w' ∧ (∀ k, F' k → F k ∨ w.heap.size ≤ k) ∧ L'.synced = L.synced ∧ L'.fr = L.fr ∧ L'.n = L.n ∧ D'.waits = [])
theorem hist_trim {w : World} {lb db : Nat} {L : LSt} {D : DSt} {F : Nat → Prop} {T : Nat} {all : List Batch} (h : Hist w lb db L D F T all) (hwt : D.waits.length < 99999999990) (u : Int) (hu : u ≤ 9223372036854775807) :
    Calls Tryz.prog 64 #[.pointer (some ⟨lb, 0, none⟩), .int .i64 u] w fun e w' => ∃ r, e = .returned (.int .i64 r) ∧ TrimPost w lb db L D F T all u r w' := by
  refine (trim_ok h.wal hwt u hu).mono ?_
  rintro e w' ⟨rfl, F', g1, g2, g3⟩
  refine ⟨_, rfl, ?_⟩
  rcases trim_inv h.inv u with ⟨a1, a2⟩ | ⟨a1, a2, a3, a4, a5, a6, a7, a8, a9⟩ | ⟨a1, a2, a3, a4, a5, a6, a7⟩
  · rw [a2] at g1 ⊢
    exact .inl ⟨a1, rfl, F', ⟨g1, h.inv, h.fuel⟩, g2, g3⟩
  · exact .inr ⟨a1, a2, a3, _, _, F', ⟨g1, a4, (a9 (by rw [h.fuel]; decide)).trans h.fuel⟩, g2, g3, a5, a6, a7, a8⟩
  · have := h.fuel; omega
theorem hist_room {w : World} {lb db : Nat} {L : LSt} {D : DSt} {F : Nat → Prop} {T : Nat} {all : List Batch} (h : Hist w lb db L D F T all) (R : Nat) (hR : L.n - 1 - needsB (all.drop T) = R) :
    Calls Tryz.prog 46 #[.pointer (some ⟨lb, 0, none⟩)] w fun e w' => e = .returned (.int .i64 (R : Nat)) ∧ w' = w.drew := by
  obtain ⟨lv, G, h0, h1, h2, _⟩ := h.wal
  have := room_ok h1 h0
  rw [h.inv.used, hR] at this
  exact this
theorem hist_first {w : World} {lb db : Nat} {L : LSt} {D : DSt} {F : Nat → Prop} {T : Nat} {all : List Batch} (h : Hist w lb db L D F T all) :
    Calls Tryz.prog 74 #[.pointer (some ⟨lb, 0, none⟩)] w fun e w' => e = .returned (.int .i64 ((T + 1 : Nat) : Int)) ∧ w = w' := by
  obtain ⟨lv, G, h0, h1, h2, _⟩ := h.wal
  have := first_ok h1 h2 h0
  rw [h.inv.first] at this
  exact this
theorem hist_last {w : World} {lb db : Nat} {L : LSt} {D : DSt} {F : Nat → Prop} {T : Nat} {all : List Batch} (h : Hist w lb db L D F T all) :
    Calls Tryz.prog 40 #[.pointer (some ⟨lb, 0, none⟩)] w fun e w' => e = .returned (.int .i64 (all.length : Nat)) ∧ w = w' := by
  obtain ⟨lv, G, h0, h1, h2, _⟩ := h.wal
  have := last_ok9 h1
  rw [h.inv.last] at this
  exact this
theorem hist_synced {w : World} {lb db : Nat} {L : LSt} {D : DSt} {F : Nat → Prop} {T : Nat} {all : List Batch} (h : Hist w lb db L D F T all) :
    Calls Tryz.prog 51 #[.pointer (some ⟨lb, 0, none⟩)] w fun e w' => e = .returned (.int .i64 (L.synced : Nat)) ∧ w = w' := by
  obtain ⟨lv, G, h0, h1, h2, _⟩ := h.wal
  exact synced_ok9 h1
theorem WalAt.disk {w : World} {lb db : Nat} {L : LSt} {D : DSt} {F : Nat → Prop} (h : WalAt w lb db L D F) : ∃ G, DiskAt w db D G ∧ (∀ k, G k → F k) := by
  obtain ⟨lv, G, h0, h1, h2, h3, h4, h5, h6⟩ := h
  exact ⟨G, h3, fun k hk => (h6 k).2 (.inr (.inr hk))⟩
/-- Open, on a disk that shows a log. -/
theorem open_live {w : World} {db : Nat} {D : DSt} {F : Nat → Prop} (hD : DiskAt w db D F) (fr n T s start : Nat) (all : List Batch) (hwt : D.waits.length < 99999999990) (hd : D.dead = false) (hfu : D.fuel = -1) (hT : T ≤ s) (hs : s ≤ all.length)
    (hg : Good D.secs fr n start (T + 1) s (seg all T s)) (hw : ∀ p ∈ D.waits, p.1 ≠ fr ∧ ∀ i, i < needsB (seg all T s) → p.1 ≠ ringAt fr n (start + i)) (frI nI : Int) (hfI : frI = (fr : Nat)) (hnI : nI = (n : Nat)) :
    Calls Tryz.prog 54 #[.pointer (some ⟨db, 0, none⟩), .int .i64 frI, .int .i64 nI] w fun e w' => ∃ lb x c, e = .returned (.tuple #[.pointer (some ⟨lb, 0, none⟩), .slice x (s - T) c, .int .i64 0]) ∧
      ∃ (F' : Nat → Prop) (vs : List Value) (A : Nat → Prop), Hist w' lb db (LSt.opened fr n start (T + 1) s (seg all T s)) D F' T (all.take s) ∧ Upd (fun _ => False) w w' ∧ (∀ k, F' k → F k ∨ w.heap.size ≤ k) ∧ Mid w' 1 (.slice x (s - T) c) (s - T) vs ∧ RowsAt w' vs (seg all T s) A ∧
        (∀ k, A k → w.heap.size ≤ k ∧ k < w'.heap.size ∧ ¬ F' k ∧ (Value.slice x (s - T) c).ownBlock ≠ some k) ∧ (∀ k, (Value.slice x (s - T) c).ownBlock = some k → w.heap.size ≤ k ∧ ¬ F' k) := by
  subst hfI; subst hnI
  have hg2 := hg.avoid _ hw
  have hinv := opened_inv hd hT hs (by have := hD.1.most; have := hg.fit; omega) hg hw
  have hm := hg2.mark
  refine (open_good hD fr n hg.two hg.fit hwt hd start (T + 1) s (seg all T s) _ hm (pad_length (by rw [markB_length]; decide)) rfl hg2).mono ?_
  rintro e w' ⟨lb, x, c, rfl, F', vs, A, g1, g2, g3, g4, g5, g6, g7⟩
  rw [seg_length hs] at g4 g6 g7 ⊢
  exact ⟨lb, x, c, rfl, F', vs, A, ⟨g1, hinv, hfu⟩, g2, g3, g4, g5, g6, g7⟩
end Go.Proofs.YtihlijnobbonbaaGreat
