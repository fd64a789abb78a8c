/- docketlaw04.PagerTwice. -/
import Derived.Test.YtihlijnobbonbaaGreatPb2
import Derived.Deep.DeepCutAuto
import Derived.Deep.CutBlock
namespace Go.Proofs.YtihlijnobbonbaaGreat
open Go Go.RowKit
set_option linter.unusedSimpArgs false
set_option linter.unusedVariables false
set_option maxRecDepth 100000

/-- In the first loop. -/
def TwL (w wr : World) (tb pb db k : Nat) : Prop :=
  ∃ (cs : List Img) (ds : Img) (sy : Nat) (K : Nat → Prop), Txr wr tb pb db 30 30 cs ds sy (-1) K ∧ Upd (fun _ => False) w wr ∧ (∀ q, K q → w.heap.size ≤ q) ∧ cs.length ≤ k
/-- In the second. -/
def TwD (w wr : World) (db : Nat) (cs : List Img) (x : Option Addr) (c : Nat) : Prop :=
  ∃ (D : DSt) (G : Nat → Prop) (T st : Nat), DiskAt wr db D G ∧ Opb D 30 30 cs T cs.length st ∧ D.fuel = -1 ∧ Sees wr 1 (.slice x 30 c) 30 (strsV (allB cs 30)) ∧ (∀ q, (Value.slice x 30 c).ownBlock = some q → ¬ G q ∧ q < wr.heap.size) ∧ Upd (fun _ => False) w wr ∧ (∀ q, G q → w.heap.size ≤ q) ∧ (∀ d ∈ cs, EsOk 30 d)
/-- The same, behind Open. -/
def TwQ (w wr : World) (pb db : Nat) (cs : List Img) (x : Option Addr) (c : Nat) (K : Nat → Prop) : Prop :=
  Pgr wr pb db 30 30 cs cs.length (-1) K ∧ Sees wr 1 (.slice x 30 c) 30 (strsV (allB cs 30)) ∧ (∀ q, (Value.slice x 30 c).ownBlock = some q → ¬ K q ∧ q < wr.heap.size) ∧ Upd (fun _ => False) w wr ∧ (∀ q, K q → w.heap.size ≤ q)
theorem TwL.upd0 {w wr : World} {tb pb db k : Nat} (h : TwL w wr tb pb db k) : Upd (fun _ => False) w wr := let ⟨_, _, _, _, _, h, _⟩ := h; h
theorem TwL.put {w wr X : World} {tb pb db k : Nat} (h : TwL w wr tb pb db k) (hX : Upd (fun _ => False) wr X) (b : Int) (hb : -9223372036854775808 ≤ b) (hb2 : b ≤ 9223372036854775807) (xa : Option Addr) (xc : Nat) (dl : Bytes)
    (hs : Sees X 1 (.slice xa dl.length xc) dl.length (bvs dl)) :
    Calls Tryz.prog 15 #[.pointer (some ⟨tb, 0, none⟩), .int .i64 b, .slice xa dl.length xc] X fun e w' => (∃ r, e = .returned (.int .i64 r)) ∧ TwL w w' tb pb db k := by
  obtain ⟨cs, ds, sy, K, h1, h2, h3, h4⟩ := h
  refine (qwrite_ok (h1.upd hX (fun _ _ h => h)) b hb hb2 xa xc dl hs).mono ?_
  rintro e w' (⟨_, rfl, hu⟩ | ⟨_, _, _, rfl, ht, hu⟩)
  · exact ⟨⟨_, rfl⟩, cs, ds, sy, K, (h1.upd hX (fun _ _ h => h)).upd hu (fun _ _ h => h), (h2.trans hX).trans hu, h3, h4⟩
  · exact ⟨⟨_, rfl⟩, cs, _, sy, K, ht, (h2.trans hX).then hu (fun q hq => .inr (h3 q hq)), h3, h4⟩
theorem Sees.own_lt {w : World} {x : Option Addr} {n c : Nat} {xs : List Value} (h : Sees w 1 (.slice x n c) n xs) (hn : 0 < n) (hl : xs.length = n) (q : Nat) (hq : (Value.slice x n c).ownBlock = some q) : q < w.heap.size := by
  obtain ⟨g, o, rfl, hc⟩ := h.one 0 hn (v := xs[0]'(by omega)) (List.getElem?_eq_getElem (by omega))
  cases hq
  exact World.block_lt_of_cell? w _ hc
/-- Commit, and Begin. -/
def TwC (w wr : World) (pb db k : Nat) : Prop :=
  ∃ (cs : List Img) (sy : Nat) (K : Nat → Prop), Pgr wr pb db 30 30 cs sy (-1) K ∧ Upd (fun _ => False) w wr ∧ (∀ q, K q → w.heap.size ≤ q) ∧ cs.length ≤ k
theorem TwL.commit {w wr : World} {tb pb db k : Nat} (hk : k < 1000) (h : TwL w wr tb pb db k) :
    Calls Tryz.prog 16 #[.pointer (some ⟨tb, 0, none⟩)] wr fun e w' => (∃ a r, e = .returned (.tuple #[.int .i64 a, .int .i64 r])) ∧ TwC w w' pb db (k + 1) := by
  obtain ⟨cs, ds, sy, K, h1, h2, h3, h4⟩ := h
  refine (qcommit_ok h1 (by decide) (by omega)).mono ?_
  rintro e w' ⟨a, r, rfl, K', hf, hp⟩
  have hu : Upd (fun _ => False) w w' := h2.then hf.upd (fun q hq => .inr (h3 q hq))
  have ho : ∀ q, K' q → w.heap.size ≤ q := fun q hq => (hf.own q hq).elim (h3 q) (fun e => Nat.le_trans h2.size e)
  refine ⟨⟨a, r, rfl⟩, ?_⟩
  rcases hp with ⟨_, _, _, hp⟩ | ⟨_, _, _, _, hp⟩ | ⟨_, _, _, _, sy', f', _, hf', hp⟩ | ⟨_, _, _, _, _, hp⟩
  · exact ⟨cs, sy, K', hp, hu, ho, by omega⟩
  · exact ⟨cs, sy, K', hp, hu, ho, by omega⟩
  · rw [hf' (by decide)] at hp
    exact ⟨_, sy', K', hp, hu, ho, by simp; omega⟩
  · exact absurd hp (by decide)
theorem TwC.begin {w wr : World} {pb db k : Nat} (h : TwC w wr pb db k) :
    Calls Tryz.prog 13 #[.pointer (some ⟨pb, 0, none⟩)] wr fun e w' => ∃ tb, e = .returned (.tuple #[.pointer (some ⟨tb, 0, none⟩), .int .i64 0]) ∧ TwL w w' tb pb db k := by
  obtain ⟨cs, sy, K, h1, h2, h3, h4⟩ := h
  refine (qbegin_ok h1).mono ?_
  rintro e w' ⟨tb, K', rfl, ht, hf⟩
  exact ⟨tb, rfl, cs, [], sy, K', ht, h2.then hf.upd (fun q hq => .inr (h3 q hq)), fun q hq => (hf.own q hq).elim (h3 q) (fun e => Nat.le_trans h2.size e), h4⟩
/-- Abort. -/
theorem TwL.abort {w wr : World} {tb pb db k : Nat} (h : TwL w wr tb pb db k) :
    Calls Tryz.prog 17 #[.pointer (some ⟨tb, 0, none⟩)] wr fun e w' => e = .returned (.tuple #[]) ∧ TwC w w' pb db k := by
  obtain ⟨cs, ds, sy, K, h1, h2, h3, h4⟩ := h
  refine (qabort_ok h1).mono ?_
  rintro e w' ⟨K', rfl, ht, hf⟩
  exact ⟨rfl, cs, sy, K', ht, h2.then hf.upd (fun q hq => .inr (h3 q hq)), fun q hq => (hf.own q hq).elim (h3 q) (fun e => Nat.le_trans h2.size e), h4⟩
theorem TwL.le {w wr : World} {tb pb db k m : Nat} (h : TwL w wr tb pb db k) (hk : k ≤ m) : TwL w wr tb pb db m :=
  let ⟨cs, ds, sy, K, h1, h2, h3, h4⟩ := h; ⟨cs, ds, sy, K, h1, h2, h3, Nat.le_trans h4 hk⟩
/-- What blocks answers is kept. -/
theorem TwQ.disk {w wr : World} {pb db : Nat} {cs : List Img} {x : Option Addr} {c : Nat} {K : Nat → Prop} (h : TwQ w wr pb db cs x c K) : TwD w wr db cs x c ∧ ∃ (D : DSt) (G : Nat → Prop), DiskAt wr db D G ∧ (∀ q, G q → K q) ∧ SafeP D 30 30 cs cs.length ∧ D.waits.length < 1000000 := by
  obtain ⟨h1, h2, h3, h4, h5⟩ := h
  have hok := h1.ok.1
  obtain ⟨D, G, T, st, d1, d2, d3, d4, d5⟩ := h1.opb
  exact ⟨⟨D, G, T, st, d1, d3, d5, h2, fun q hq => ⟨fun e => (h3 q hq).1 (d2 q e), (h3 q hq).2⟩, h4, fun q hq => h5 q (d2 q hq), hok⟩, D, G, d1, d2, d4, d3.wt⟩
theorem TwD.open {w wr : World} {db : Nat} {cs : List Img} {x : Option Addr} {c : Nat} (h : TwD w wr db cs x c) :
    Calls Tryz.prog 29 #[.pointer (some ⟨db, 0, none⟩), .int .i64 30] wr fun e w' => ∃ pb K, e = .returned (.tuple #[.pointer (some ⟨pb, 0, none⟩), .int .i64 0]) ∧ TwQ w w' pb db cs x c K := by
  obtain ⟨D, G, T, st, h1, h2, h3, h4, h5, h6, h7, h8⟩ := h
  refine (qopen_ok h1 h2 (by decide) (by decide) h8 30 rfl).mono ?_
  rintro e w' (⟨pb, K, f', rfl, hp, hf, hft⟩ | ⟨_, _, _, _, _, _, _, hf⟩)
  · rw [List.take_length, hf (by omega), h3] at hp
    exact ⟨pb, K, rfl, hp, h4.upd hft.upd (fun q hq _ => (h5 q hq).1), fun q hq => ⟨hft.out (h5 q hq).2 (h5 q hq).1, Nat.lt_of_lt_of_le (h5 q hq).2 hft.upd.size⟩, h6.then hft.upd (fun q hq => .inr (h7 q hq)), fun q hq => (hft.own q hq).elim (h7 q) (fun e => Nat.le_trans h6.size e)⟩
  · omega
theorem TwQ.blocks {w wr : World} {pb db : Nat} {cs : List Img} {x : Option Addr} {c : Nat} {K : Nat → Prop} (h : TwQ w wr pb db cs x c K) :
    Calls Tryz.prog 18 #[.pointer (some ⟨pb, 0, none⟩)] wr fun e w' => ∃ (x2 : Option Addr) (c2 : Nat) (K' : Nat → Prop), e = .returned (.tuple #[.slice x2 30 c2, .bool true]) ∧ Sees w' 1 (.slice x2 30 c2) 30 (strsV (allB cs 30)) ∧ TwQ w w' pb db cs x c K' := by
  obtain ⟨h1, h2, h3, h4, h5⟩ := h
  refine (blocks_all h1).mono ?_
  rintro e w' ⟨x2, c2, K', rfl, hs, ho, hp, hf⟩
  exact ⟨x2, c2, K', rfl, hs, hp, h2.upd hf.upd (fun q hq _ => (h3 q hq).1), fun q hq => ⟨hf.out (h3 q hq).2 (h3 q hq).1, Nat.lt_of_lt_of_le (h3 q hq).2 hf.upd.size⟩, h4.then hf.upd (fun q hq => .inr (h5 q hq)), fun q hq => (hf.own q hq).elim (h5 q) (fun e => Nat.le_trans h4.size e)⟩
theorem TwQ.crash {w wr : World} {pb db : Nat} {cs : List Img} {x : Option Addr} {c : Nat} {K : Nat → Prop} (h : TwQ w wr pb db cs x c K) (ka : Option Addr) (kc : Nat) (keep : List Bool) (hk : Sees w 1 (.slice ka keep.length kc) keep.length (boolsV keep))
    (hkl : ∀ x, ka = some x → 0 < keep.length → x.block < w.heap.size) :
    Calls Tryz.prog 32 #[.pointer (some ⟨db, 0, none⟩), .slice ka keep.length kc] wr fun e w' => e = .returned (.tuple #[]) ∧ TwD w w' db cs x c := by
  obtain ⟨_, D, G, d1, d2, d3, d4⟩ := h.disk
  obtain ⟨h1, h2, h3, h4, h5⟩ := h
  refine (crash_disk d1 (by omega) ka kc keep (hk.upd h4 (fun _ _ _ h => h)) (fun x hx h0 hG => by have := hkl x hx h0; have := h5 _ (d2 _ hG); omega)).mono ?_
  rintro e w' ⟨rfl, hd, hu⟩
  obtain ⟨T, s, st, hs, ho⟩ := d3.crash keep
  obtain rfl : s = cs.length := by have := ho.high; omega
  exact ⟨rfl, D.crash keep, G, T, st, hd, ho, rfl, h2.upd hu (fun q hq _ e => (h3 q hq).1 (d2 q e)), fun q hq => ⟨fun e => (h3 q hq).1 (d2 q e), Nat.lt_of_lt_of_le (h3 q hq).2 hu.size⟩, h4.then hu (fun q hq => .inr (h5 q (d2 q hq))), fun q hq => h5 q (d2 q hq), h1.ok.1⟩
set_option maxHeartbeats 8000000 in
theorem pagerTwice_walk (xa : Option Addr) (xc : Nat) (l : List POp) (ka : Option Addr) (kc : Nat) (keep : List Bool) (w : World) (hW : PopsAt w xa xc l) (hke : Sees w 1 (.slice ka keep.length kc) keep.length (boolsV keep))
    (hkl : ∀ x, ka = some x → 0 < keep.length → x.block < w.heap.size) :
    Calls Tryz.prog 7 #[.slice xa l.length xc, .slice ka keep.length kc] w fun e w' => e = .returned (.bool true) ∧ Below w.heap.size w w' := by
  have HK := Lib.hid (And.intro hke hkl)
  clear hke hkl
  obtain ⟨M, hmm⟩ : ∃ M, l.length = M := ⟨_, rfl⟩
  have hsm := hW.1.2.1
  have H := Lib.hid (And.intro hW hmm)
  rw [hmm] at hsm ⊢
  have hmI : (M : Int) ≤ 9223372036854775807 := by simp only [maxLen] at hsm; omega
  obtain ⟨ksz, hks⟩ : ∃ ksz, keep.length = ksz := ⟨_, rfl⟩
  have Hks := Lib.hid hks
  rw [hks] at ⊢
  clear hks
  clear hW hmm hsm
  go_enter Tryz.func7, Tryz.ntmps7
  go_wp2_with fail
  refine (fixed_ok w).mono ?_
  rintro e w1 ⟨rfl, hu1⟩
  dsimp only
  have HU1 := Lib.hid hu1
  clear hu1
  go_wp2_with fail
  refine (qnew_ok 60 (by decide) (by decide) w1 60 rfl).mono ?_
  rintro e w2 ⟨db, F, rfl, hD, hu, hF⟩
  dsimp only
  have H1 := Lib.hid (And.intro hD (And.intro (HU1.out.trans hu) (fun q hq => Nat.le_trans HU1.out.size (hF q hq))))
  clear hD hu hF
  go_wp2_with fail
  refine (qmake_ok 30 30 (by decide) (by decide) (by decide) H1.out.1 30 rfl).mono ?_
  rintro e w3 ⟨pb, K3, rfl, hp, hu, hK⟩
  dsimp only
  have H3 : Hid (TwC w w3 pb db 0) :=
    ⟨[], 0, K3, hp, H1.out.2.1.then hu (fun q hq => .inr (H1.out.2.2 q hq)), (fun q hq => by
      rcases hK q hq with e | e
      · exact H1.out.2.2 q e
      · exact Nat.le_trans H1.out.2.1.size e), Nat.le_refl _⟩
  clear hp hu hK H1
  go_wp2_with fail
  refine H3.out.begin.mono ?_
  rintro e w4 ⟨tb, rfl, h4⟩
  dsimp only
  have H4 : Hid (TwL w w4 tb pb db 0) := h4
  clear h4 H3
  go_upto_block 0 with (fail)
  go_cut [8, 10] (fun tv i wr => ∃ tb, tv = .pointer (some ⟨tb, 0, none⟩) ∧ Hid (TwL w wr tb pb db 80))
  case first =>
    go_wp2_with fail
    go_loopw [8, 10] (fun tv i wr => ∃ (k tb : Nat), k ≤ M ∧ k ≤ 80 ∧ tv = .pointer (some ⟨tb, 0, none⟩) ∧ i = .int .i64 k ∧ Hid (TwL w wr tb pb db k)) (fun _ i _ => M - (intOf i).toNat)
    case atStart => exact ⟨0, tb, Nat.zero_le _, Nat.zero_le _, rfl, rfl, H4⟩
    case round =>
      clear H4
      obtain ⟨k, tb, hk, hk8, rfl, rfl, HP⟩ := hrel
      have hk8I : (k : Int) ≤ 80 := by omega
      by_cases hlt : k < M ∧ k < 80
      · have hkm : (k : Int) < (M : Int) := by omega
        have hk80 : (k : Int) < 80 := by omega
        obtain ⟨o, ho⟩ : ∃ o, l[k]'(by rw [H.out.2]; exact hlt.1) = o := ⟨_, rfl⟩
        have hol : o ∈ l := ho ▸ List.getElem_mem _
        obtain ⟨xb, xo, rfl, hr⟩ := pop_at H.out.1.1 k (by rw [H.out.2]; exact hlt.1)
        rw [ho] at hr
        have hxb := H.out.1.2.2 _ rfl (by rw [H.out.2]; omega)
        have hupd : Upd (fun _ => False) w wr := HP.out.upd0
        have hro : wr.rangeAt xb (xo + k * 3) (popV o) := hupd.range hr (fun h => h)
        have hok := H.out.1.2.1 o hol
        have hc0 : wr.cell? ⟨xb, xo + k * 3, none⟩ = some (.int .u8 o.kind) := hro 0 _ rfl
        have hc1 : wr.cell? ⟨xb, xo + k * 3 + 1, none⟩ = some (.int .i64 o.b) := hro 1 _ rfl
        have hc2 : wr.cell? ⟨xb, xo + k * 3 + 2, none⟩ = some (.string o.data) := hro 2 _ rfl
        have Hok := Lib.hid hok
        have Hr := Lib.hid hr
        clear hr hupd hro hok hol ho hxb
        go_wp2_with fail
        have HS : wr.drew.cell? ⟨xb, xo + k * 3 + 1, none⟩ = some (.int .i64 o.b) ∧ wr.drew.cell? ⟨xb, xo + k * 3 + 2, none⟩ = some (.string o.data) := ⟨hc1, hc2⟩
        refine wp_region_planD (fun u => u.cell? ⟨xb, xo + k * 3 + 1, none⟩ = some (.int .i64 o.b) ∧ u.cell? ⟨xb, xo + k * 3 + 2, none⟩ = some (.string o.data)) 13 [(0, true), (1, true), (2, true), (3, true), (4, true), (5, true), (6, true), (7, true), (8, true), (9, true), (10, true), (11, false), (12, false)] (by kernel_rfl) (by kernel_rfl) (fun d _ _ _ _ h => by cases d <;> exact h) HS ?_
        iterate 11 (first | (apply planD_held rfl rfl rfl (by simp) HS; (intro w' hS K hK; go_simp; exact hK)) | (apply planD_wanted rfl rfl rfl (by simp) HS; (intro w' hS K hK; go_simp; exact hK)))
        refine planD_op rfl rfl (fun K hK => ?_)
        refine wp_string_bytes 5 o.data Tryz.underlying9 Tryz.underlying38 Tryz.underlying5 rfl Hok.out.data (fun c8 X hX hXs hXe => ?_)
        have hX' : Upd (fun _ => False) wr X := (Upd.drew (Upd.refl _ _)).trans hX
        have HS8 : X.cell? ⟨xb, xo + k * 3 + 1, none⟩ = some (.int .i64 o.b) ∧ X.cell? ⟨xb, xo + k * 3 + 2, none⟩ = some (.string o.data) := ⟨hX.cell_some HS.1 (fun h => h), hX.cell_some HS.2 (fun h => h)⟩
        have HX0 : X.cell? ⟨xb, xo + k * 3, none⟩ = some (.int .u8 o.kind) := hX'.cell_some hc0 (fun h => h)
        refine hK _ _ _ (fun u h => h) (fun _ => HS8) ?_
        clear hK
        try (simp only [Act.put, List.setIfInBounds_toArray, List.set_cons_zero, List.set_cons_succ])
        have hsl : o.data.data.toList.length = o.data.size := by rw [Array.length_toList]; rfl
        have hwr := HP.out.put hX' o.b Hok.out.lo Hok.out.hi (some ⟨wr.drew.heap.size, 0, none⟩) c8 o.data.data.toList (by rw [hsl]; exact hXe)
        rw [hsl] at hwr
        have Hwr := Lib.hid hwr
        clear hwr hsl hXe hXs
        refine planD_op rfl rfl (fun K hK => ?_)
        go_simp
        refine Hwr.out.mono ?_
        rintro e w5 ⟨⟨r5, rfl⟩, h5⟩
        dsimp only
        have H5 : Hid (TwL w w5 tb pb db k) := h5
        have hr5 : w5.rangeAt xb (xo + k * 3) (popV o) := H5.out.upd0.range Hr.out (fun h => h)
        have HC5 : w5.cell? ⟨xb, xo + k * 3, none⟩ = some (.int .u8 o.kind) := hr5 0 _ rfl
        have HS5 : w5.cell? ⟨xb, xo + k * 3 + 1, none⟩ = some (.int .i64 o.b) ∧ w5.cell? ⟨xb, xo + k * 3 + 2, none⟩ = some (.string o.data) := ⟨hr5 1 _ rfl, hr5 2 _ rfl⟩
        refine hK _ _ _ (fun u h => h) (fun _ => HS5) ?_
        clear hK h5
        try (simp only [Act.put, List.setIfInBounds_toArray, List.set_cons_zero, List.set_cons_succ])
        refine planD_nil ?_
        obtain ⟨kd, hkd⟩ : ∃ kd, o.kind = kd := ⟨_, rfl⟩
        have hkdb : (kd : Int) ≤ 255 := by have := Hok.out.kind; omega
        rw [hkd] at HC5
        have fk : ((k + 1 : Nat) : Int) = (k : Int) + 1 := by omega
        have H5b : Hid (TwL w w5 tb pb db (k + 1)) := H5.out.le (by omega)
        clear hr5 HS5 HS8 HX0 HS hc0 hc1 hc2 hX hX' Hwr Hr hkd Hok HP
        by_cases h3 : kd % 3 = 0
        · have q0 : (kd : Int) % 3 = 0 := by omega
          have q1 : (kd : Int).tmod 3 = 0 := by rw [Int.tmod_eq_emod_of_nonneg (by omega)]; omega
          clear h3 H5b
          go_wp2_with fail
          refine (H5.out.commit (by omega)).mono ?_
          rintro e w6 ⟨⟨a6, r6, rfl⟩, h6⟩
          dsimp only
          have H6 : Hid (TwC w w6 pb db (k + 1)) := h6
          clear h6 H5 HC5
          go_wp2_with fail
          refine H6.out.begin.mono ?_
          rintro e w7 ⟨tb7, rfl, h7⟩
          dsimp only
          have H7 : Hid (TwL w w7 tb7 pb db (k + 1)) := h7
          clear h7 H6
          go_wp2_with fail
          exact ⟨⟨k + 1, tb7, by omega, by omega, rfl, by go_num, H7⟩, by simp [intOf]; omega⟩
        · have q0 : ((kd : Int) % 3 == 0) = false := by simp; omega
          have q1 : ((kd : Int).tmod 3 == 0) = false := by rw [Int.tmod_eq_emod_of_nonneg (by omega)]; exact q0
          clear h3 H5
          go_wp2_with fail
          exact ⟨⟨k + 1, tb, by omega, by omega, rfl, by go_num, H5b⟩, by simp [intOf]; omega⟩
      · have hcut : Hid (TwL w wr tb pb db 80) := HP.out.le hk8
        clear HP
        rcases (by omega : (M : Int) ≤ (k : Int) ∨ (k : Int) < (M : Int) ∧ (80 : Int) ≤ (k : Int)) with h1 | ⟨h1, h2⟩
        · go_wp2_with fail
          go_meet
          exact ⟨tb, rfl, hcut⟩
        · go_wp2_with fail
          go_meet
          exact ⟨tb, rfl, hcut⟩
  case rest =>
    clear H4
    obtain ⟨tb, rfl, HP⟩ := hcut
    go_wp2_with fail
    refine HP.out.abort.mono ?_
    rintro e w5 ⟨rfl, h5⟩
    dsimp only
    have H5 : Hid (TwC w w5 pb db 80) := h5
    clear h5 HP
    obtain ⟨cs, sy, K, h5⟩ := H5.out
    have H5 := Lib.hid h5
    clear h5
    go_wp2_with fail
    refine (qsync_ok H5.out.1).mono ?_
    rintro e w6 ⟨r6, rfl, K6, hf6, ⟨rfl, f6, g1, g2⟩ | ⟨_, _, g1⟩⟩
    · obtain rfl := g1 (by decide)
      dsimp only
      have H6 : Hid (Pgr w6 pb db 30 30 cs cs.length (-1) K6 ∧ Upd (fun _ => False) w w6 ∧ (∀ q, K6 q → w.heap.size ≤ q)) :=
        ⟨g2, H5.out.2.1.then hf6.upd (fun q hq => .inr (H5.out.2.2.1 q hq)), fun q hq => (hf6.own q hq).elim (H5.out.2.2.1 q) (fun e => Nat.le_trans H5.out.2.1.size e)⟩
      clear hf6 g1 g2 H5
      go_wp2_with fail
      have hdn := qdone_ok H6.out.1
      have hcl : (cs.length : Int) ≤ 1000000000000000000 := by have := H6.out.1.ok.2.1; omega
      obtain ⟨n, hn⟩ : ∃ n, cs.length = n := ⟨_, rfl⟩
      rw [hn] at hdn hcl
      have Hn := Lib.hid hn
      have Hdn := Lib.hid hdn
      clear hn hdn
      refine Hdn.out.mono ?_
      rintro e w7 ⟨rfl, rfl⟩
      dsimp only
      clear Hdn
      go_wp2_with fail
      refine (blocks_all H6.out.1).mono ?_
      rintro e w7 ⟨x, c, K7, rfl, hs, ho, hp, hf⟩
      dsimp only
      have H7 : Hid (TwD w w7 db cs x c) := (TwQ.disk (pb := pb) (K := K7) ⟨hp, hs, fun q hq => ⟨(ho q hq).2, hs.own_lt (by decide) (by rw [strsV_length, allB_length]) q hq⟩, H6.out.2.1.then hf.upd (fun q hq => .inr (H6.out.2.2 q hq)), fun q hq => (hf.own q hq).elim (H6.out.2.2 q) (fun e => Nat.le_trans H6.out.2.1.size e)⟩).1
      clear hs ho hp hf H6
      go_wp2_with fail
      go_loopw [13, 14] (fun okv i wr => ∃ k : Nat, k ≤ 3 ∧ okv = .bool true ∧ i = .int .i64 k ∧ Hid (TwD w wr db cs x c)) (fun _ i _ => 3 - (intOf i).toNat)
      case atStart => exact ⟨0, by omega, rfl, rfl, H7⟩
      case round =>
        clear H7
        obtain ⟨k, hk, rfl, rfl, HP⟩ := hrel
        by_cases hlt : k < 3
        · have hltI : (k : Int) < 3 := by omega
          go_wp2_with fail
          refine HP.out.open.mono ?_
          rintro e w8 ⟨pb8, K8, rfl, hq⟩
          dsimp only
          have H8 : Hid (TwQ w w8 pb8 db cs x c K8) := hq
          clear hq HP
          have hdn := qdone_ok H8.out.1
          rw [Hn.out] at hdn
          have Hdn := Lib.hid hdn
          clear hdn
          go_wp2_with fail
          refine Hdn.out.mono ?_
          rintro e w9 ⟨rfl, rfl⟩
          dsimp only
          clear Hdn
          go_wp2_with fail
          refine H8.out.blocks.mono ?_
          rintro e w9 ⟨x2, c2, K9, rfl, hs, hq⟩
          dsimp only
          have H9 : Hid (TwQ w w9 pb8 db cs x c K9 ∧ Sees w9 1 (.slice x2 30 c2) 30 (strsV (allB cs 30))) := ⟨hq, hs⟩
          clear hq hs H8
          go_wp2_with fail
          go_loopw [18, 19] (fun okv i wr => ∃ b : Nat, b ≤ 30 ∧ okv = .bool true ∧ i = .int .i64 b ∧ Hid (TwQ w wr pb8 db cs x c K9 ∧ Sees wr 1 (.slice x2 30 c2) 30 (strsV (allB cs 30)))) (fun _ i _ => 30 - (intOf i).toNat)
          case atStart => exact ⟨0, by omega, rfl, rfl, H9⟩
          case round =>
            clear H9
            obtain ⟨b, hb, rfl, rfl, HR⟩ := hrel
            by_cases hbl : b < 30
            · have hbI : (b : Int) < 30 := by omega
              obtain ⟨s, hs⟩ : ∃ s, (strsV (allB cs 30))[b]? = some (.string s) := by
                have : b < (allB cs 30).length := by rw [allB_length]; exact hbl
                exact ⟨(allB cs 30)[b], by simp [strsV, this]⟩
              obtain ⟨g1, o1, rfl, hc1⟩ := HR.out.1.2.1.one b hbl hs
              obtain ⟨g2, o2, rfl, hc2⟩ := HR.out.2.one b hbl hs
              clear hs
              go_wp2_with fail
              have HS : wr.drew.cell? ⟨g1, o1 + b, none⟩ = some (.string s) ∧ wr.drew.cell? ⟨g2, o2 + b, none⟩ = some (.string s) := ⟨hc1, hc2⟩
              have HR2 : Hid (TwQ w wr.drew pb8 db cs (some ⟨g1, o1, none⟩) c K9 ∧ Sees wr.drew 1 (.slice (some ⟨g2, o2, none⟩) 30 c2) 30 (strsV (allB cs 30))) := by
                obtain ⟨⟨a1, a2, a3, a4, a5⟩, a6⟩ := HR.out
                have hu := (Upd.refl (fun _ => False) wr).drew
                exact ⟨⟨a1.upd hu (fun _ _ h => h), a2.upd hu (fun _ _ _ h => h), a3, a4.drew, a5⟩, a6.upd hu (fun _ _ _ h => h)⟩
              refine wp_region_planD (fun u => u.cell? ⟨g1, o1 + b, none⟩ = some (.string s) ∧ u.cell? ⟨g2, o2 + b, none⟩ = some (.string s)) 19 [(0, true), (1, true), (2, true), (3, true), (4, true), (5, true), (6, true), (7, true), (8, true), (9, true), (10, true), (11, true), (12, true), (13, true), (14, true), (15, true), (16, true), (17, true), (18, true)] (by kernel_rfl) (by kernel_rfl) (fun d _ _ _ _ h => by cases d <;> exact h) HS ?_
              iterate 19 (first | (apply planD_held rfl rfl rfl (by simp) HS; (intro w' hS K hK; go_simp; exact hK)) | (apply planD_wanted rfl rfl rfl (by simp) HS; (intro w' hS K hK; go_simp; exact hK)))
              refine planD_nil ?_
              clear HS HR hc1 hc2
              go_wp2_with fail
              exact ⟨⟨b + 1, by omega, by simp, by go_num, HR2⟩, by simp [intOf]; omega⟩
            · obtain rfl : b = 30 := by omega
              have H10 := Lib.hid HR.out.1
              clear HR hb hbl
              go_wp2_with fail
              have hcr := H10.out.crash ka kc keep HK.out.1 HK.out.2
              rw [Hks.out] at hcr
              refine hcr.mono ?_
              rintro e w11 ⟨rfl, h11⟩
              dsimp only
              have H11 : Hid (TwD w w11 db cs x c) := h11
              clear h11 hcr H10
              go_wp2_with fail
              exact ⟨⟨k + 1, by omega, rfl, by go_num, H11⟩, by simp [intOf]; omega⟩
        · obtain rfl : k = 3 := by omega
          go_wp2_with fail
          go_ret
          exact ⟨rfl, (let ⟨_, _, _, _, _, _, _, _, _, h, _⟩ := HP.out; h).below0⟩
    · exact absurd g1 (by decide)
end Go.Proofs.YtihlijnobbonbaaGreat
