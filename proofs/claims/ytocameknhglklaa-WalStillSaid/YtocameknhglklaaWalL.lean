/- wal: load. -/
import Derived.Test.YtocameknhglklaaWalB
import Derived.Test.YtocameknhglklaaWalK
namespace Go.Proofs.Ytocameknhglklaa
open Go.RowKit
set_option linter.unusedSimpArgs false
set_option linter.unusedVariables false
set_option maxRecDepth 100000

theorem read_of_vis {D : DSt} {i : Nat} {x : Bytes} (hd : D.dead = false) (h : (done D.secs D.waits)[i]? = some x) : D.read (i : Nat) = (x, 0) := by
  have hi : i < D.secs.length := by
    rcases Nat.lt_or_ge i D.secs.length with h' | h'
    · exact h'
    · rw [List.getElem?_eq_none (by rw [done_length]; exact h')] at h; cases h
  rw [done_lastOf _ _ _ hi] at h
  cases h
  exact DSt.read_eq hd (by omega) (by omega)
theorem slice_fromk {P : Program} (t e : TypeId) (hu : P.underlying t = some (.slice e)) (hs : (P.info? e).map (·.size) = some 1) (g off n cap k : Nat) (h1 : k ≤ n) (h2 : k < cap) (w : World) :
    (Instr.slice t (.slice (some ⟨g, off, none⟩) n cap) (some (.int .i64 k)) none none).run P w = .ok (.slice (some ⟨g, off + k, none⟩) (n - k) (cap - k)) w := by
  cases hq : P.info? e with
  | none => simp [hq] at hs
  | some i =>
    have hi : i.size = 1 := by simpa [hq] using hs
    have hu' : P.underlying t = some (.slice (P.elem t)) := by rw [hu]; simp [Program.elem, hu]
    have he : P.elem t = e := by simp [Program.elem, hu]
    rw [run_slice_l w t (some ⟨g, off, none⟩) n cap hu' .i64 k (by omega) (by omega)]
    simp [sizeOf, typeInfo, he, hq, hi, sliced, Addr.add_mid]
    omega
theorem slice_fromI {P : Program} (t e : TypeId) (hu : P.underlying t = some (.slice e)) (hs : (P.info? e).map (·.size) = some 1) (g off n cap k : Nat) (kI : Int) (n' c' : Nat) (hk : kI = (k : Nat)) (h1 : k ≤ n) (h2 : k < cap) (hn : n - k = n') (hc : cap - k = c') (w : World) :
    (Instr.slice t (.slice (some ⟨g, off, none⟩) n cap) (some (.int .i64 kI)) none none).run P w = .ok (.slice (some ⟨g, off + k, none⟩) n' c') w := by
  subst hk; subst hn; subst hc
  exact slice_fromk t e hu hs g off n cap k h1 h2 w
theorem slice_to {P : Program} (t e : TypeId) (hu : P.underlying t = some (.slice e)) (hs : (P.info? e).map (·.size) = some 1) (g off n cap k : Nat) (h1 : k ≤ cap) (h0 : 0 < cap) (w : World) :
    (Instr.slice t (.slice (some ⟨g, off, none⟩) n cap) none (some (.int .i64 k)) none).run P w = .ok (.slice (some ⟨g, off, none⟩) k cap) w := by
  cases hq : P.info? e with
  | none => simp [hq] at hs
  | some i =>
    have hi : i.size = 1 := by simpa [hq] using hs
    have hu' : P.underlying t = some (.slice (P.elem t)) := by rw [hu]; simp [Program.elem, hu]
    have he : P.elem t = e := by simp [Program.elem, hu]
    rw [run_slice_h w t (some ⟨g, off, none⟩) n cap hu' .i64 k (by omega) (by omega)]
    simp [sizeOf, typeInfo, he, hq, hi, sliced, Addr.add_mid]
/-- A part of what a slice of bytes shows. -/
theorem sees_part {w : World} {g off n cap : Nat} {bs : Bytes} (h : w.rangeAt g off (bvs bs)) (i k c : Nat) (hk : i + k ≤ bs.length) (hm : k ≤ maxLen) : Sees w 1 (.slice (some ⟨g, off + i, none⟩) k c) k (bvs ((bs.drop i).take k)) := by
  have hl : ((bs.drop i).take k).length = k := by rw [List.length_take, List.length_drop]; omega
  refine Sees.at (by rw [bvs_length, hl]; omega) hm (rangeAt.sub h i ?_)
  rw [bvs_length, hl, bvs, bvs, ← List.map_drop, ← List.map_take]
theorem get_part {w : World} {g off n cap : Nat} {bs : Bytes} (h : w.rangeAt g off (bvs bs)) (i k N : Nat) (hi : i + k ≤ bs.length) (hb : bs.length ≤ n) (hk : k ≤ 8) (hN : unB ((bs.drop i).take k) = N) (hm : bs.length ≤ maxLen) (ni : Nat) (hni : bs.length = ni + i) (ci : Nat) :
    Calls Try.prog 48 #[.slice (some ⟨g, off + i, none⟩) ni ci, .int .i64 k] w fun e w' => e = .returned (.int .u64 N) ∧ w = w' := by
  have hs : Sees w 1 (.slice (some ⟨g, off + i, none⟩) ni ci) (bs.drop i).length (bvs (bs.drop i)) := by
    have hl : (bs.drop i).length = ni := by rw [List.length_drop]; omega
    rw [hl]
    have h2 := sees_part (n := n) (cap := cap) h i ni ci (by omega) (by omega)
    rwa [List.take_of_length_le (by rw [hl]; exact Nat.le_refl _)] at h2
  have := get_ok (some ⟨g, off + i, none⟩) ni ci (bs.drop i) k w hs hk (by rw [List.length_drop]; omega)
  rw [hN] at this
  exact this
/-- What load leaves. -/
def LoadPost (w : World) (lb : Nat) (pre : List Value) (b : Batch) (x : Option Addr) (c : Nat) (w' : World) : Prop :=
  Mid w' 1 (.slice x b.length c) b.length (strsV b) ∧ (∀ k, (Value.slice x b.length c).ownBlock = some k → w.heap.size ≤ k) ∧ Upd (fun k => k = lb) w w' ∧ Cells9 w' lb pre

/-- The sectors so far. -/
def LdR (w : World) (e : Bytes) (k m : Nat) (x : Option Addr) (c : Nat) (wr : World) : Prop :=
  Mid wr 1 (.slice x m c) m (bvs (catP e k)) ∧ Upd (fun _ => False) w wr ∧ (∀ j, (Value.slice x m c).ownBlock = some j → w.heap.size ≤ j) ∧ m = 512 * k
theorem infoS : (Try.prog.info? 9).map (fun i => (i.zero, i.size, i.bytes)) = some (some (.string .empty), 1, 16) := by kernel_rfl
/-- The records so far: j of them are read, the rest lies from o on. -/
def PrR (w : World) (lb : Nat) (pre : List Value) (b : Batch) (g2 j : Nat) (x : Option Addr) (c o M rc : Nat) (wr : World) : Prop :=
  Mid wr 1 (.slice x j c) j (strsV (b.take j)) ∧ wr.rangeAt g2 o (bvs (bodyB (b.drop j))) ∧ M = (bodyB (b.drop j)).length ∧ M ≤ rc ∧ Upd (fun k => k = lb) w wr ∧ (∀ k, (Value.slice x j c).ownBlock = some k → w.heap.size ≤ k ∧ k ≠ g2) ∧ Cells9 wr lb pre ∧ w.heap.size ≤ g2 ∧ g2 < wr.heap.size
/-- A part of bytes, however little is left. -/
theorem slice_lhA {P : Program} (t e : TypeId) (hu : P.underlying t = some (.slice e)) (hs : (P.info? e).map (·.size) = some 1) (g off n cap lo hi : Nat) (lI hI : Int) (n' c' o' : Nat) (hl : lI = (lo : Nat)) (hh : hI = (hi : Nat)) (h1 : lo ≤ hi) (h2 : hi ≤ cap) (hn : hi - lo = n') (hc : cap - lo = c') (ho : (if cap = lo then off else off + lo) = o') (w : World) :
    (Instr.slice t (.slice (some ⟨g, off, none⟩) n cap) (some (.int .i64 lI)) (some (.int .i64 hI)) none).run P w = .ok (.slice (some ⟨g, o', none⟩) n' c') w := by
  subst hl; subst hh; subst hn; subst hc; subst ho
  cases hq : P.info? e with
  | none => simp [hq] at hs
  | some i =>
    have hi' : i.size = 1 := by simpa [hq] using hs
    have hu' : P.underlying t = some (.slice (P.elem t)) := by rw [hu]; simp [Program.elem, hu]
    have he : P.elem t = e := by simp [Program.elem, hu]
    rw [run_slice_lh w t (some ⟨g, off, none⟩) n cap hu' .i64 .i64 lo hi (by omega) (by omega) (by omega)]
    by_cases hc : cap = lo
    · simp [sizeOf, typeInfo, he, hq, hi', sliced, hc]
    · simp [sizeOf, typeInfo, he, hq, hi', sliced, Addr.add_mid, hc]
theorem slice_fromA {P : Program} (t e : TypeId) (hu : P.underlying t = some (.slice e)) (hs : (P.info? e).map (·.size) = some 1) (g off n cap k : Nat) (kI : Int) (n' c' o' : Nat) (hk : kI = (k : Nat)) (h1 : k ≤ n) (hn : n - k = n') (hc : cap - k = c') (ho : (if cap = k then off else off + k) = o') (w : World) :
    (Instr.slice t (.slice (some ⟨g, off, none⟩) n cap) (some (.int .i64 kI)) none none).run P w = .ok (.slice (some ⟨g, o', none⟩) n' c') w := by
  subst hk; subst hn; subst hc; subst ho
  cases hq : P.info? e with
  | none => simp [hq] at hs
  | some i =>
    have hi : i.size = 1 := by simpa [hq] using hs
    have hu' : P.underlying t = some (.slice (P.elem t)) := by rw [hu]; simp [Program.elem, hu]
    have he : P.elem t = e := by simp [Program.elem, hu]
    rw [run_slice_l w t (some ⟨g, off, none⟩) n cap hu' .i64 k (by omega) (by omega)]
    by_cases hc : cap = k
    · simp [sizeOf, typeInfo, he, hq, hi, sliced, hc]
    · simp [sizeOf, typeInfo, he, hq, hi, sliced, Addr.add_mid, hc]
set_option maxHeartbeats 2000000 in
theorem load_ok {w : World} {lb db : Nat} {L : LSt} {lv : Value} {D : DSt} {G : Nat → Prop} (hC : Cells9 w lb (preL L db lv)) (hOk : L.Ok) (hD : DiskAt w db D G) (hd : D.dead = false) (hG : ¬ G lb) (hwt : D.waits.length < 99999999990)
    (a num : Nat) (b : Batch) (ha : a ≤ 1000000) (hnum : num < 1000000000000000000) (hnb : needB b ≤ L.n - 1) (hV : ∀ j, j < needB b → (done D.secs D.waits)[ringAt L.fr L.n (a + j)]? = some (pad (chunk (encB num b) j))) :
    Calls Try.prog 49 #[.pointer (some ⟨lb, 0, none⟩), .int .i64 a, .int .i64 num] w fun e w' => ∃ x c, e = .returned (.tuple #[.slice x b.length c, .int .i64 (needB b : Nat), .int .i64 0]) ∧ LoadPost w lb (preL L db lv) b x c w' := by
  obtain ⟨c0, c1, c2, c3, c4, c5, c6, c7, c8⟩ := nine hC
  obtain ⟨n, hn⟩ : ∃ n, L.n = n := ⟨_, rfl⟩
  obtain ⟨e, he⟩ : ∃ e, encB num b = e := ⟨_, rfl⟩
  obtain ⟨nb, hnb'⟩ : ∃ nb, needB b = nb := ⟨_, rfl⟩
  obtain ⟨N, hN⟩ : ∃ N, bytesOf b = N := ⟨_, rfl⟩
  have hel : e.length = N := by rw [← he, encB_length, hN]
  have hnbN : nb = (N + 511) / 512 := by rw [← hnb', needB, hN]
  have hN16 : 16 ≤ N := by rw [← hN, bytesOf_eq]; omega
  have hn2 : 2 ≤ n ∧ n ≤ 4096 := by have := hOk.two; have := hOk.fit; omega
  rw [hn] at c2 hnb
  rw [hnb'] at hnb hV
  rw [he] at hV
  have hN2 : N ≤ (n - 1) * 512 := by omega
  have hv0 := hV 0 (by omega)
  have hrd0 := read_of_vis hd hv0
  rw [Nat.add_zero, ← LSt.ring_eq] at hrd0
  have H := Lib.hid (And.intro hC (And.intro hOk (And.intro hD (And.intro hd (And.intro hG (And.intro hwt (And.intro hV (And.intro hn (And.intro he (And.intro hnb' hN))))))))))
  have Hn := Lib.hid (And.intro hel (And.intro hnbN (And.intro hN16 (And.intro hn2 (And.intro hN2 (And.intro hnb (And.intro hnum ha)))))))
  have Hr := Lib.hid hrd0
  have HS : w.drew.cell? ⟨lb, 0, none⟩ = some (.pointer (some ⟨db, 0, none⟩)) := c0
  rw [hnb']
  clear hC hOk hD hd hG hwt hV hn he hnb' hN hel hnbN hN16 hn2 hN2 hnb hnum ha hv0 hrd0 c0 c1 c3 c4 c5 c6 c7 c8
  go_enter Try.func49, Try.ntmps49
  go_wp2_with fail
  refine wp_region_planD (fun w' => w'.cell? ⟨lb, 0, none⟩ = some (.pointer (some ⟨db, 0, none⟩))) 13 [(0, true), (1, true), (2, true), (3, true), (4, true), (5, true), (6, false), (7, false), (8, true), (9, true), (10, true), (11, true), (12, true)] (by kernel_rfl) (by kernel_rfl) (fun d _ _ _ _ h => by cases d <;> exact h) HS ?_
  iterate 6 (apply planD_held rfl rfl rfl (by simp) HS; (intro w' hS K hK; go_simp; exact hK))
  refine planD_op rfl rfl (fun K hK => ?_)
  go_simp
  have hdr : Upd (fun _ => False) w w.drew := (Upd.refl _ w).drew
  refine (ring_ok lb L db lv a _ (H.out.1.upd hdr (fun h => h)) H.out.2.1 (by have := Hn.out.2.2.2.2.2.2.2; omega)).mono ?_
  rintro e' w8 ⟨rfl, rfl⟩
  dsimp only
  refine hK _ _ _ (fun u h => h) (fun _ => HS) ?_
  clear hK
  try (simp only [Act.put, List.setIfInBounds_toArray, List.set_cons_zero, List.set_cons_succ])
  refine planD_op rfl rfl (fun K hK => ?_)
  go_simp
  have hdr2 : Upd (fun _ => False) w w.drew.drew := ((Upd.refl _ w).drew).drew
  refine (read_disk (H.out.2.2.1.upd hdr2 (fun _ _ h => h)) (by have := H.out.2.2.2.2.2.1; omega) (L.ring a : Nat) Hr.out).mono ?_
  rintro e' w1 ⟨xa, xc, rfl, hrow, hu1, -, -⟩
  dsimp only
  have hpl := pad_length (chunk_le e 0)
  rw [hpl] at hrow ⊢
  obtain ⟨g, hxa, hgb, hglt, -⟩ := row_some hrow (by decide)
  subst hxa
  have hU1 : Upd (fun _ => False) w w1 := hdr2.trans hu1
  have hm1 := mid_of_row hrow
  have hxc : 512 ≤ xc := by
    obtain ⟨_, ⟨h, _⟩ | ⟨g', o', c', h, h1, _⟩⟩ := hm1
    · cases h
    · cases h; exact h1
  have hr1 : w1.rangeAt g 0 (bvs (pad (chunk e 0))) := row_range hrow (by rw [List.drop_zero, List.take_length])
  have hC1 := H.out.1.upd hU1 (fun h => h)
  obtain ⟨d0, d1, d2, d3, d4, d5, d6, d7, d8⟩ := nine hC1
  have HS1 : w1.cell? ⟨lb, 0, none⟩ = some (.pointer (some ⟨db, 0, none⟩)) := d0
  have H1 := Lib.hid (And.intro hU1 (And.intro hm1 (And.intro hr1 (And.intro hC1 (And.intro hgb (And.intro hpl hxc))))))
  rw [H.out.2.2.2.2.2.2.2.1] at d2
  refine hK _ _ _ (fun u h => h) (fun _ => HS1) ?_
  clear hK HS hdr hdr2 hrow hu1 hU1 hm1 hr1 hC1 hgb hpl hglt d0 d1 d3 d4 d5 d6 d7 d8 c2
  try (simp only [Act.put, List.setIfInBounds_toArray, List.set_cons_zero, List.set_cons_succ])
  iterate 5 (apply planD_held rfl rfl rfl (by simp) HS1; (intro w' hS K hK; go_simp; exact hK))
  refine planD_nil ?_
  clear HS1
  go_wp2_with fail
  have hpl := H1.out.2.2.2.2.2.1
  have hxc := H1.out.2.2.2.2.2.2
  have g1 := get_part (n := 512) (cap := xc) H1.out.2.2.1 0 4 N (by omega) (by omega) (by decide) (by
    have h1 := Hn.out
    rw [chunk0_piece (by decide) (by omega), List.drop_zero, ← H.out.2.2.2.2.2.2.2.2.1, enc_size _ _ (by rw [H.out.2.2.2.2.2.2.2.2.2.2]; omega), H.out.2.2.2.2.2.2.2.2.2.2]) (by rw [hpl]; decide) 512 (by omega) xc
  have g2 := get_part (n := 512) (cap := xc) H1.out.2.2.1 4 8 num (by omega) (by omega) (by decide) (by
    have h1 := Hn.out
    rw [chunk0_piece (by decide) (by omega), ← H.out.2.2.2.2.2.2.2.2.1, enc_num _ _ (by omega)]) (by rw [hpl]; decide) 508 (by omega) (xc - 4)
  have G1 := Lib.hid g1
  have G2 := Lib.hid g2
  obtain ⟨b1, b2, b3, ⟨b4, b4'⟩, b5, b6, b7, b8⟩ := Hn.out
  have f1 : IntKind.i64.wrap (N : Int) = (N : Int) := by rw [IntKind.wrap_i64]; omega
  have f2 : IntKind.u64.wrap (num : Int) = (num : Int) := by show (num : Int) % 18446744073709551616 = _; omega
  have q1 : decide ((N : Int) < 16) = false := by simp; omega
  have q2 : decide (((n : Int) - 1) * 512 < (N : Int)) = false := by simp; omega
  have hNb : (N : Int) ≤ 3000000 := by omega
  have hnb2 : (n : Int) ≤ 4096 := by omega
  have hq : ((N : Int) + 512 - 1) / 512 = (nb : Int) := by omega
  have hsl4 : ∀ w, (Instr.slice 98 (.slice (some ⟨g, 0, none⟩) 512 xc) (some (.int .i64 4)) none none).run Try.prog w = .ok (.slice (some ⟨g, 4, none⟩) 508 (xc - 4)) w := fun w => by
    have := slice_fromk (P := Try.prog) 98 5 Try.underlying98 (by kernel_rfl) g 0 512 xc 4 (by decide) (by omega) w
    simpa using this
  clear g1 g2 b1 b2 b3 b4 b4' b5 b6 b7 b8 hpl hxc
  refine G1.out.mono ?_
  rintro e' w2 ⟨rfl, rfl⟩
  dsimp only
  go_wp2_with fail
  refine G2.out.mono ?_
  rintro e' w2 ⟨rfl, rfl⟩
  dsimp only
  go_wp2_with fail
  rw [hq]
  have HL0 : Hid (LdR w e 1 512 (some ⟨g, 0, none⟩) xc w1) := by
    have hm := H1.out.2.1
    exact ⟨by rw [catP_one]; exact hm, H1.out.1, (fun k hk => by cases hk; exact H1.out.2.2.2.2.1), rfl⟩
  clear G1 G2 hsl4 f1 f2 q1 q2 hq d2
  go_loopw [9, 13] (fun s i wr => ∃ (k m : Nat) (x : Option Addr) (c : Nat), 1 ≤ k ∧ k ≤ nb ∧ i = .int .i64 k ∧ s = .slice x m c ∧ Hid (LdR w e k m x c wr)) (fun _ i _ => nb - (intOf i).toNat)
  case atStart => exact ⟨1, 512, _, xc, Nat.le_refl _, by have := Hn.out; omega, rfl, rfl, HL0⟩
  case round =>
    clear HL0
    obtain ⟨k, m, x, c, hk1, hk, rfl, rfl, HL⟩ := hrel
    have hnbb : (nb : Int) ≤ 4096 := by have := Hn.out; omega
    by_cases hlt : k < nb
    · have hlt2 : (k : Int) < (nb : Int) := by omega
      obtain ⟨ak, hak⟩ : ∃ ak, a + k = ak := ⟨_, rfl⟩
      have hab : a ≤ 1000000 := by have := Hn.out; omega
      have f1 : IntKind.i64.wrap ((a : Int) + (k : Int)) = (ak : Int) := by rw [IntKind.wrap_i64]; omega
      have hrd := read_of_vis H.out.2.2.2.1 (H.out.2.2.2.2.2.2.1 k hlt)
      rw [← LSt.ring_eq, hak] at hrd
      obtain ⟨px, hpx⟩ : ∃ px, pad (chunk e k) = px := ⟨_, rfl⟩
      have hpl := pad_length (chunk_le e k)
      rw [hpx] at hrd hpl
      have hC2 := H.out.1.upd HL.out.2.1 (fun h => h)
      have HS : wr.drew.cell? ⟨lb, 0, none⟩ = some (.pointer (some ⟨db, 0, none⟩)) := (nine hC2).1
      have Hrd := Lib.hid (And.intro hrd (And.intro hC2 (And.intro (show ak ≤ 100000000000 by omega) (And.intro hpx hpl))))
      have hk5 : m ≤ 3000000 := by have := HL.out.2.2.2; omega
      clear hrd hC2 hak hab hpx hpl
      go_wp2_with fail
      refine wp_region_planD (fun w' => w'.cell? ⟨lb, 0, none⟩ = some (.pointer (some ⟨db, 0, none⟩))) 15 [(0, true), (1, true), (2, true), (3, true), (4, true), (5, true), (6, true), (7, true), (8, false), (9, false), (10, true), (11, true), (12, true), (13, true), (14, true)] (by kernel_rfl) (by kernel_rfl) (fun d _ _ _ _ h => by cases d <;> exact h) HS ?_
      iterate 8 (apply planD_held rfl rfl rfl (by simp) HS; (intro w' hS K hK; go_simp; exact hK))
      refine planD_op rfl rfl (fun K hK => ?_)
      go_simp
      have hdr : Upd (fun _ => False) wr wr.drew := (Upd.refl _ wr).drew
      refine (ring_ok lb L db lv ak _ (Hrd.out.2.1.upd hdr (fun h => h)) H.out.2.1 Hrd.out.2.2.1).mono ?_
      rintro e' w8 ⟨rfl, rfl⟩
      dsimp only
      refine hK _ _ _ (fun u h => h) (fun _ => HS) ?_
      clear hK
      try (simp only [Act.put, List.setIfInBounds_toArray, List.set_cons_zero, List.set_cons_succ])
      refine planD_op rfl rfl (fun K hK => ?_)
      go_simp
      have hdr2 : Upd (fun _ => False) wr wr.drew.drew := ((Upd.refl _ wr).drew).drew
      refine (read_disk (H.out.2.2.1.upd (HL.out.2.1.trans hdr2) (fun _ _ h => h)) (by have := H.out.2.2.2.2.2.1; omega) (L.ring ak : Nat) Hrd.out.1).mono ?_
      rintro e' w3 ⟨xa, xc3, rfl, hrow, hu3, -, -⟩
      dsimp only
      have hU3 : Upd (fun _ => False) wr w3 := hdr2.trans hu3
      have hC3 := Hrd.out.2.1.upd hU3 (fun h => h)
      have HS3 : w3.cell? ⟨lb, 0, none⟩ = some (.pointer (some ⟨db, 0, none⟩)) := (nine hC3).1
      have H3 := Lib.hid (And.intro hU3 (And.intro (sees_of_row hrow) (HL.out.1.upd hU3 (fun _ _ h => h))))
      refine hK _ _ _ (fun u h => h) (fun _ => HS3) ?_
      clear hK HS hdr hdr2 hrow hu3 hU3 hC3
      try (simp only [Act.put, List.setIfInBounds_toArray, List.set_cons_zero, List.set_cons_succ])
      iterate 5 (apply planD_held rfl rfl rfl (by simp) HS3; (intro w' hS K hK; go_simp; exact hK))
      refine planD_nil ?_
      clear HS3 f1
      go_wp2_with ((with_reducible apply wpl_append_mid 5 1 1 _ (.slice x m c) m (bvs (catP e k)) px.length (bvs px)))
      · exact Try.underlying98
      · exact infoU8
      · rfl
      · rfl
      · exact H3.out.2.2
      · exact H3.out.2.1
      · exact bvs_one _
      · have := Hrd.out.2.2.2.2; unfold maxLen; omega
      · have := Hrd.out.2.2.2.2; omega
      intro x' c' w4 hm4 hu4 hb4
      try (simp only [Act.put, List.setIfInBounds_toArray, List.set_cons_zero, List.set_cons_succ])
      rw [← bvs_append, ← Hrd.out.2.2.2.1, ← catP_succ, Hrd.out.2.2.2.1] at hm4
      obtain ⟨m2, hm2⟩ : ∃ m2, m + px.length = m2 := ⟨_, rfl⟩
      rw [hm2] at hm4 hb4 ⊢
      have HL4 : Hid (LdR w e (k + 1) m2 x' c' w4) := by
        have h0 := HL.out
        refine ⟨hm4, (h0.2.1.trans H3.out.1).then hu4 (fun j hj => .inr (h0.2.2.1 j hj)), fun j hj => ?_, by have := h0.2.2.2; have := Hrd.out.2.2.2.2; omega⟩
        have h1 := h0.2.1.size
        have h2 := H3.out.1.size
        rcases hb4 with h | h
        · exact h0.2.2.1 j (by rw [h] at hj; exact hj)
        · rw [h] at hj; cases hj; omega
      clear hm4 hu4 hb4 HL hm2 hk5
      go_wp2_with fail
      exact ⟨⟨k + 1, m2, x', c', by omega, by omega, by go_num, rfl, HL4⟩, by simp [intOf]; omega⟩
    · obtain rfl : k = nb := by omega
      clear hlt
      obtain ⟨hml, ⟨hs0, hm0⟩ | ⟨g2, o2, c', hs0, hmc, hcm, hg2, hrg, hth⟩⟩ := id HL.out.1
      · have := HL.out.2.2.2; omega
      cases hs0
      have hb := Hn.out
      have hmk := HL.out.2.2.2
      have hNm : N ≤ m := by omega
      have hre : wr.rangeAt g2 o2 (bvs e) := by
        have h := rangeAt.sub hrg 0 (ys := bvs e) (by
          rw [List.drop_zero, bvs_length, bvs, bvs, ← List.map_take, catP_take (by rw [hb.1]; exact hb.2.1)])
        simpa using h
      have hsl := slice_to (P := Try.prog) 98 5 Try.underlying98 (by kernel_rfl) g2 o2 m c N (by omega) (by omega)
      have hCr := H.out.1.upd HL.out.2.1 (fun h => h)
      have hg2w := HL.out.2.2.1 g2 rfl
      obtain ⟨sm, hsm⟩ : ∃ sm, updB 0 (bodyB b) = sm := ⟨_, rfl⟩
      have f6 : IntKind.u64.wrap (sm.toNat : Int) = (sm.toNat : Int) := by have := sm.isLt; show (sm.toNat : Int) % 18446744073709551616 = _; omega
      obtain ⟨N12, hN12⟩ : ∃ N12, N - 12 = N12 := ⟨_, rfl⟩
      obtain ⟨N16, hN16⟩ : ∃ N16, N - 16 = N16 := ⟨_, rfl⟩
      obtain ⟨c12, hc12⟩ : ∃ c12, c - 12 = c12 := ⟨_, rfl⟩
      obtain ⟨c16, hc16⟩ : ∃ c16, c - 16 = c16 := ⟨_, rfl⟩
      have hsl12 := slice_fromI (P := Try.prog) 98 5 Try.underlying98 (by kernel_rfl) g2 o2 N c 12 12 N12 c12 rfl (by omega) (by omega) hN12 hc12
      have hsl16 := slice_fromI (P := Try.prog) 98 5 Try.underlying98 (by kernel_rfl) g2 o2 N c 16 16 N16 c16 rfl (by omega) (by omega) hN16 hc16
      have HE := Lib.hid (And.intro hre (And.intro hCr (And.intro hg2w (And.intro hsm (And.intro hg2 (And.intro hN12 (And.intro hN16 (And.intro hc12 (And.intro hc16 (show N ≤ c by omega))))))))))
      clear hml hmc hcm hg2 hrg hth hb hmk hNm hre hCr hg2w hsm hN12 hN16 hc12 hc16
      go_wp2_with fail
      have HS : Hid (wr.drew.rangeAt g2 o2 (bvs e)) := HE.out.1
      refine wp_region_planD (fun w' => Hid (w'.rangeAt g2 o2 (bvs e))) 11 [(0, true), (1, true), (2, true), (3, true), (4, true), (5, true), (6, true), (7, true), (8, false), (9, true), (10, true)] (by kernel_rfl) (by kernel_rfl) (fun d _ _ _ _ h => by cases d <;> exact h) HS ?_
      iterate 2 (apply planD_held rfl rfl rfl (by simp) HS; (intro w' hS K hK; go_simp; exact hK))
      refine planD_call (.int .u64 sm.toNat) rfl rfl (fun w' hS => ⟨48, #[.slice (some ⟨g2, o2 + 12, none⟩) N12 c12, .int .i64 4], by go_simp, by
        have hb := Hn.out
        have he := HE.out
        exact get_part (n := N) (cap := c) hS.out 12 4 sm.toNat (by omega) (by omega) (by decide) (by rw [← H.out.2.2.2.2.2.2.2.2.1, enc_sum, he.2.2.2.1]) (by unfold maxLen; omega) N12 (by omega) c12⟩) ?_
      try (simp only [Act.put, List.setIfInBounds_toArray, List.set_cons_zero, List.set_cons_succ])
      iterate 5 (apply planD_held rfl rfl rfl (by simp) HS; (intro w' hS K hK; go_simp; exact hK))
      refine planD_op rfl rfl (fun K hK => ?_)
      go_simp
      have hdr : Upd (fun _ => False) wr wr.drew := (Upd.refl _ wr).drew
      have hsb : Sees wr.drew 1 (.slice (some ⟨g2, o2 + 16, none⟩) N16 c16) (bodyB b).length (bvs (bodyB b)) := by
        have hb := Hn.out
        have he := HE.out
        have hbl : (bodyB b).length = N16 := by have h1 := H.out.2.2.2.2.2.2.2.2.2.2; rw [bytesOf_eq] at h1; omega
        have h := sees_part (n := N) (cap := c) (show wr.drew.rangeAt g2 o2 (bvs e) from he.1) 16 N16 c16 (by omega) (by unfold maxLen; omega)
        rw [hbl]
        rwa [← H.out.2.2.2.2.2.2.2.2.1, enc_body, List.take_of_length_le (by rw [hbl]; exact Nat.le_refl _)] at h
      refine (sum9 (HE.out.2.1.upd hdr (fun h => h)) _ (bodyB b) hsb (fun j hj _ => by cases hj; have h1 := HE.out.2.2.1; have h2 := H.out.1.lt; show g2 ≠ lb; omega)).mono ?_
      rintro e' w5 ⟨rfl, hu5, hC5⟩
      dsimp only
      rw [HE.out.2.2.2.1]
      have hre5 : w5.rangeAt g2 o2 (bvs e) := (hdr.range HE.out.1 (fun h => h)) |> fun h => hu5.range h (fun e => by have h1 := HE.out.2.2.1; have h2 := H.out.1.lt; omega)
      have HS5 : Hid (w5.rangeAt g2 o2 (bvs e)) := hre5
      have hU5 : Upd (fun k => k = lb) w w5 := (((HL.out.2.1.trans hdr).mono (fun _ _ h => h.elim))).trans hu5
      have H5 := Lib.hid (And.intro hU5 (And.intro hC5 (And.intro hre5 (show wr.heap.size ≤ w5.heap.size from Nat.le_trans hdr.size hu5.size))))
      refine hK _ _ _ (fun u h => h) (fun _ => HS5) ?_
      clear hK HS hdr hsb hu5 hC5 hre5 hU5
      try (simp only [Act.put, List.setIfInBounds_toArray, List.set_cons_zero, List.set_cons_succ])
      iterate 2 (apply planD_held rfl rfl rfl (by simp) HS5; (intro w' hS K hK; go_simp; exact hK))
      refine planD_nil ?_
      clear HS5 f6
      go_wp2_with fail
      have HP0 : Hid (PrR w lb (preL L db lv) b g2 0 none 0 (o2 + 16) N16 c16 w5) := by
        have hb := Hn.out
        have he := HE.out
        have hbl : (bodyB b).length = N16 := by have h1 := H.out.2.2.2.2.2.2.2.2.2.2; rw [bytesOf_eq] at h1; omega
        refine ⟨Mid.nil _ _, ?_, by rw [List.drop_zero]; exact hbl.symm, by omega, H5.out.1, (fun j hj => by cases hj), H5.out.2.1, he.2.2.1, by have := H5.out.2.2.2; have := he.2.2.2.2.1; omega⟩
        rw [List.drop_zero]
        refine rangeAt.sub H5.out.2.2.1 16 ?_
        rw [bvs_length, hbl, bvs, bvs, ← List.map_drop, ← List.map_take, ← H.out.2.2.2.2.2.2.2.2.1, enc_body, List.take_of_length_le (by rw [hbl]; exact Nat.le_refl _)]
      go_loopg [16, 17] b.length (fun gk bt rs wr => ∃ (j : Nat) (x : Option Addr) (c o M rc : Nat), j + gk = b.length ∧ bt = .slice x j c ∧ rs = .slice (some ⟨g2, o, none⟩) M rc ∧ Hid (PrR w lb (preL L db lv) b g2 j x c o M rc wr))
      case atStart => exact ⟨0, none, 0, _, _, _, by omega, rfl, rfl, HP0⟩
      case round =>
        clear HP0
        obtain ⟨j, x, c2, o, M, rc, hj, rfl, rfl, HP⟩ := hrel
        by_cases hlt : j < b.length
        · obtain ⟨r, hr⟩ : ∃ r, b[j] = r := ⟨_, rfl⟩
          have hdrop : b.drop j = r :: b.drop (j + 1) := by rw [List.drop_eq_getElem_cons hlt, hr]
          obtain ⟨T, hT⟩ : ∃ T, (bodyB (b.drop (j + 1))).length = T := ⟨_, rfl⟩
          obtain ⟨s, hs⟩ : ∃ s, r.size = s := ⟨_, rfl⟩
          have hp := HP.out
          have hM : M = 4 + s + T := by rw [hp.2.2.1, hdrop, body_length, hT, hs]
          have hMb : M ≤ 3000000 := by
            have h1 : (bodyB (b.drop j)).length ≤ (bodyB b).length := by
              have : bodyB b = bodyB (b.take j) ++ bodyB (b.drop j) := by rw [bodyB, bodyB, bodyB, ← List.flatMap_append, List.take_append_drop]
              rw [this, List.length_append]; omega
            have h2 := H.out.2.2.2.2.2.2.2.2.2.2
            rw [bytesOf_eq] at h2
            have := hp.2.2.1
            omega
          have hs600 : (s : Int) ≤ 3000000 := by omega
          have hMI : (M : Int) ≤ 3000000 := by omega
          have hm := hp.2.2.2.1
          obtain ⟨M4, hM4⟩ : ∃ M4, M - 4 = M4 := ⟨_, rfl⟩
          obtain ⟨c4, hc4⟩ : ∃ c4, rc - 4 = c4 := ⟨_, rfl⟩
          obtain ⟨o4, ho4⟩ : ∃ o4, (if rc = 4 then o else o + 4) = o4 := ⟨_, rfl⟩
          obtain ⟨c5, hc5⟩ : ∃ c5, rc - (4 + s) = c5 := ⟨_, rfl⟩
          obtain ⟨o5, ho5⟩ : ∃ o5, (if rc = 4 + s then o else o + (4 + s)) = o5 := ⟨_, rfl⟩
          have hbody : bodyB (b.drop j) = bodyB (r :: b.drop (j + 1)) := by rw [hdrop]
          have hget : Calls Try.prog 48 #[.slice (some ⟨g2, o, none⟩) M rc, .int .i64 4] wr fun e w' => e = .returned (.int .u64 s) ∧ wr = w' := by
            have h := get_part (n := M) (cap := rc) hp.2.1 0 4 s (by rw [← hp.2.2.1]; omega) (by rw [← hp.2.2.1]; exact Nat.le_refl _) (by decide) (by rw [List.drop_zero, hbody, body_size _ _ (by omega), hs]) (by rw [← hp.2.2.1]; unfold maxLen; omega) M (by rw [← hp.2.2.1]; rfl) rc
            exact h
          have hse : Sees wr 1 (.slice (some ⟨g2, o4, none⟩) s (rc - 4)) r.data.toList.length (bvs r.data.toList) := by
            have hrl : r.data.toList.length = s := by rw [Array.length_toList]; exact hs
            rw [hrl]
            by_cases h0 : s = 0
            · subst h0
              have : r.data.toList = [] := List.eq_nil_of_length_eq_zero hrl
              rw [this]
              exact Sees.zero _ _ _ _
            · have h := sees_part (n := M) (cap := rc) hp.2.1 4 s (rc - 4) (by rw [← hp.2.2.1]; omega) (by unfold maxLen; omega)
              rw [hbody, ← hs, body_rec, hs] at h
              have : o4 = o + 4 := by rw [← ho4, if_neg (by omega)]
              rw [this]
              exact h
          have hcv := run_bytes_string (P := Try.prog) (w := wr) 98 5 9 Try.underlying98 Try.underlying5 Try.underlying9 _ r.data.toList hse
          rw [strV_data, hc4] at hcv
          have f1 : IntKind.i64.wrap (s : Int) = (s : Int) := by rw [IntKind.wrap_i64]; omega
          have q1 : decide ((4 : Int) ≤ (M : Int)) = true := by simp; omega
          have q2 : decide ((M : Int) - 4 < (s : Int)) = false := by simp; omega
          have hslA := slice_lhA (P := Try.prog) 98 5 Try.underlying98 (by kernel_rfl) g2 o M rc 4 (4 + s) 4 ((4 : Int) + (s : Int)) s c4 o4 rfl (by omega) (by omega) (by omega) (by omega) hc4 ho4
          have hslB := slice_fromA (P := Try.prog) 98 5 Try.underlying98 (by kernel_rfl) g2 o M rc (4 + s) ((4 : Int) + (s : Int)) T c5 o5 (by omega) (by omega) (by omega) hc5 ho5
          have Hq := Lib.hid (And.intro hr (And.intro hdrop (And.intro hT (And.intro hs (And.intro hM (And.intro hMb (And.intro hm (And.intro ho5 (And.intro hc5 hbody)))))))))
          have Hget := Lib.hid hget
          have hjb : j ≤ 3000000 := by
            have h1 : j ≤ b.length := by omega
            have h2 : ∀ l : Batch, l.length ≤ (bodyB l).length := by
              intro l
              induction l with
              | nil => exact Nat.zero_le _
              | cons y t ih => rw [body_length, List.length_cons]; omega
            have h3 := h2 b
            have h4 := H.out.2.2.2.2.2.2.2.2.2.2
            rw [bytesOf_eq] at h4
            omega
          clear hr hdrop hT hs hM hMb hp hm hM4 hc4 ho4 hc5 ho5 hbody hget hse
          go_wp2_with fail
          refine Hget.out.mono ?_
          rintro e' w7 ⟨rfl, rfl⟩
          dsimp only
          go_wp2_with ((with_reducible apply wpl_append_mid 9 1 16 _ (.slice x j c2) j (strsV (b.take j)) 1 [.string r]))
          · exact Try.underlying22
          · exact infoS
          · rfl
          · rfl
          · exact HP.out.1.upd ((Upd.refl (fun _ => False) wr).alloc _) (fun _ _ h => h)
          · exact Sees.at rfl (by decide) (rangeAt_of_row (heap_alloc_new wr (.cells ([.string r] : List Value).toArray 9)) rfl)
          · intro u hu; simp at hu; rw [hu]; rfl
          · unfold maxLen; omega
          · omega
          intro x' c' w9 hm9 hu9 hb9
          try (simp only [Act.put, List.setIfInBounds_toArray, List.set_cons_zero, List.set_cons_succ])
          have hst : strsV (b.take j) ++ [.string r] = strsV (b.take (j + 1)) := by
            rw [List.take_succ_eq_append_getElem hlt, Hq.out.1]; simp [strsV]
          rw [hst] at hm9
          have HP9 : Hid (PrR w lb (preL L db lv) b g2 (j + 1) x' c' o5 T c5 w9) := by
            have h0 := HP.out
            have hq := Hq.out
            have hal : Upd (fun _ => False) wr (wr.alloc (.cells ([.string r] : List Value).toArray 9)) := (Upd.refl _ wr).alloc _
            have hs1 := h0.2.2.2.2.1.size
            have hs2 := hal.size
            have hs3 := hu9.size
            refine ⟨hm9, ?_, by rw [hq.2.2.1], by have := hq.2.2.2.2.1; have := h0.2.2.2.1; have := hq.2.2.2.2.2.2.2.2.1; omega, ((h0.2.2.2.2.1.trans (hal.mono (fun _ _ h => h.elim))).then hu9 (fun k hk => .inr (h0.2.2.2.2.2.1 k hk).1)), fun k hk => ?_, (h0.2.2.2.2.2.2.1.upd hal (fun h => h)).upd hu9 (fun hk => by have h1 := (h0.2.2.2.2.2.1 _ hk).1; have := H.out.1.lt; omega), h0.2.2.2.2.2.2.2.1, by have := h0.2.2.2.2.2.2.2.2; omega⟩
            · have hb2 : bodyB (b.drop (j + 1)) = (bodyB (b.drop j)).drop (4 + s) := by
                rw [hq.2.2.2.2.2.2.2.2.2, ← hq.2.2.2.1, body_rest]
              have hr9 : w9.rangeAt g2 o (bvs (bodyB (b.drop j))) := (hal.range h0.2.1 (fun h => h)) |> fun h => hu9.range h (fun hk => (h0.2.2.2.2.2.1 _ hk).2 rfl)
              by_cases hT0 : T = 0
              · have : bodyB (b.drop (j + 1)) = [] := List.eq_nil_of_length_eq_zero (by rw [hq.2.2.1]; exact hT0)
                rw [this]
                intro i v hi
                cases hi
              · have ho : o5 = o + (4 + s) := by rw [← hq.2.2.2.2.2.2.2.1, if_neg (by have := hq.2.2.2.2.1; have := h0.2.2.2.1; omega)]
                rw [ho]
                refine rangeAt.sub hr9 (4 + s) ?_
                rw [bvs_length, hq.2.2.1, bvs, bvs, ← List.map_drop, ← List.map_take, ← hb2, List.take_of_length_le (by rw [hq.2.2.1]; exact Nat.le_refl _)]
            · rcases hb9 with h | h
              · exact h0.2.2.2.2.2.1 k (by rw [h] at hk; exact hk)
              · rw [h] at hk
                simp at hk
                have := h0.2.2.2.2.2.2.2.2
                exact ⟨by omega, by omega⟩
          clear hm9 hu9 hb9 hst hcv HP hslA
          go_wp2_with fail
          go_roundg (b.length - (j + 1))
          case measure => omega
          case rel => exact ⟨j + 1, x', c', o5, T, c5, by omega, rfl, rfl, HP9⟩
        · obtain rfl : j = b.length := by omega
          have hM0 : M = 0 := by rw [HP.out.2.2.1, List.drop_length]; rfl
          subst hM0
          go_wp2_with fail
          go_ret3
          refine ⟨x, c2, rfl, ?_⟩
          have h0 := HP.out
          have hm := h0.1
          rw [List.take_length] at hm
          exact ⟨hm, fun k hk => (h0.2.2.2.2.2.1 k hk).1, h0.2.2.2.2.1, h0.2.2.2.2.2.2.1⟩
end Go.Proofs.Ytocameknhglklaa
