/- docketlaw04.PagerCrash. -/
import Derived.Test.YtihlijnobbonbaaGreatPc3
namespace Go.Proofs.YtihlijnobbonbaaGreat
open Go Go.RowKit
set_option linter.unusedSimpArgs false
set_option linter.unusedVariables false
set_option maxRecDepth 100000

/-- Between two lives. -/
def CrS (w wr : World) (pb db rb skip N b : Nat) : Prop :=
  ∃ (cs ct : List Img) (sy : Nat), PP (fun _ => False) w wr pb db rb skip N cs ct sy (-1) ∧ cs.length ≤ b
/-- Behind a crash. -/
def CrC (w wr : World) (db rb skip N lo n : Nat) (f : Int) : Prop :=
  ∃ (cs ct : List Img) (l : Nat), LC w wr db rb skip N cs ct l f ∧ lo ≤ l ∧ cs.length ≤ n
/-- A disk that may crash. -/
def CrV (w wr : World) (db rb skip N lo n : Nat) : Prop :=
  ∃ (cs ct : List Img) (l : Nat), LV w wr db rb skip N cs ct l ∧ lo ≤ l ∧ cs.length ≤ n
/-- Opened. -/
def CrO (w wr : World) (pb db rb skip N s : Nat) : Prop :=
  ∃ (cs ct : List Img) (K J : Nat → Prop), Pgr wr pb db skip N cs s (-1) K ∧ Rpg wr rb N (skip - 1) ct J ∧ Sep (fun _ => False) w wr K J ∧ SameC cs (ct.take s) ∧ cs.length = s ∧ s ≤ ct.length
/-- All blocks are looked at. -/
def CrT (w wr : World) (tb pb db xb rb skip N s : Nat) : Prop :=
  ∃ (cs ct : List Img) (ds l : Img) (sy : Nat), TT (fun _ => False) w wr tb pb db xb rb skip N cs ct ds l sy (-1) ∧ cs.length = s
section
variable {w wr w' : World} {tb pb db xb rb skip N lo n s b : Nat} {f : Int}
theorem CrC.upd0 (h : CrC w wr db rb skip N lo n f) : Upd (fun _ => False) w wr := let ⟨_, _, _, h, _⟩ := h; h.upd0
theorem CrV.upd0 (h : CrV w wr db rb skip N lo n) : Upd (fun _ => False) w wr := let ⟨_, _, _, h, _⟩ := h; h.upd0
theorem CrS.upd0 (h : CrS w wr pb db rb skip N b) : Upd (fun _ => False) w wr := let ⟨_, _, _, h, _⟩ := h; h.upd0
theorem CrS.live (h : CrS w wr pb db rb skip N b) (o : LifP) (ho : o.Ok w) (hN : 1 ≤ N) (hb : b ≤ 1000000) :
    Calls Tryz.prog 35 #[.pointer (some ⟨db, 0, none⟩), .pointer (some ⟨pb, 0, none⟩), .pointer (some ⟨rb, 0, none⟩), .agg #[.slice o.sa o.script.length o.sc, .int .u8 o.fuel, .slice o.ka o.keep.length o.kc, .slice o.aa o.again.length o.ac]] wr fun e w' =>
      ∃ lo n : Nat, e = .returned (.tuple #[.int .i64 (n : Nat), .int .i64 (lo : Nat), .bool true]) ∧ CrV w w' db rb skip N lo n ∧ n ≤ b + 62 := by
  obtain ⟨cs, ct, sy, h1, h2⟩ := h
  refine (live_ok h1 o ho hN b h2 hb).mono ?_
  rintro e w' ⟨cs', ct', lo, n, rfl, h3, h4, h5⟩
  exact ⟨lo, n, rfl, ⟨cs', ct', lo, h3, Nat.le_refl _, h4⟩, h5⟩
theorem CrV.crash (h : CrV w wr db rb skip N lo n) (ka : Option Addr) (kc : Nat) (keep : List Bool) (hk : Sees w 1 (.slice ka keep.length kc) keep.length (boolsV keep)) (hkl : ∀ x, ka = some x → 0 < keep.length → x.block < w.heap.size) :
    Calls Tryz.prog 32 #[.pointer (some ⟨db, 0, none⟩), .slice ka keep.length kc] wr fun e w' => e = .returned (.tuple #[]) ∧ CrC w w' db rb skip N lo n (-1) := by
  obtain ⟨cs, ct, l, h1, h2, h3⟩ := h
  refine (h1.crash ka kc keep hk hkl).mono ?_
  rintro e w' ⟨rfl, h⟩
  exact ⟨rfl, cs, ct, l, h, h2, h3⟩
theorem CrC.fuel (h : CrC w wr db rb skip N lo n f) (m : Nat) (hm : m ≤ 255) :
    Calls Tryz.prog 30 #[.pointer (some ⟨db, 0, none⟩), .int .i64 (m : Nat)] wr fun e w' => e = .returned (.tuple #[]) ∧ CrC w w' db rb skip N lo n m := by
  obtain ⟨cs, ct, l, h1, h2, h3⟩ := h
  refine (h1.fuel m hm).mono ?_
  rintro e w' ⟨rfl, h⟩
  exact ⟨rfl, cs, ct, l, h, h2, h3⟩
theorem CrC.open1 (h : CrC w wr db rb skip N lo n f) (h2s : 2 ≤ skip) (hN : 1 ≤ N) (skI : Int) (hsk : skI = (skip : Nat)) :
    Calls Tryz.prog 29 #[.pointer (some ⟨db, 0, none⟩), .int .i64 skI] wr fun e w' => CrV w w' db rb skip N lo n ∧
      ((∃ pb, e = .returned (.tuple #[.pointer (some ⟨pb, 0, none⟩), .int .i64 0])) ∨ (e = .returned (.tuple #[.pointer none, .int .i64 10]) ∧ Calls Tryz.prog 36 #[.pointer (some ⟨db, 0, none⟩)] w' (fun e w'' => e = .returned (.bool true) ∧ w' = w''))) := by
  obtain ⟨cs, ct, l, h1, h2, h3⟩ := h
  refine (h1.open h2s hN skI hsk).mono ?_
  rintro e w' ⟨s, h4, h5, ⟨pb, f', rfl, _, K, J, g1, g2, g3, g4, g5⟩ | ⟨rfl, _, g1, g2⟩⟩
  · have hl : (cs.take s).length = s := by rw [List.length_take]; omega
    exact ⟨⟨cs.take s, ct, s, g1.lv g2 g3 (by rw [hl]; exact g4) (by omega), by omega, by omega⟩, .inl ⟨pb, rfl⟩⟩
  · exact ⟨⟨cs.take s, ct, s, g1, by omega, by rw [List.length_take]; omega⟩, .inr ⟨rfl, g2⟩⟩
theorem CrC.open2 (h : CrC w wr db rb skip N lo n (-1)) (h2s : 2 ≤ skip) (hN : 1 ≤ N) (skI : Int) (hsk : skI = (skip : Nat)) :
    Calls Tryz.prog 29 #[.pointer (some ⟨db, 0, none⟩), .int .i64 skI] wr fun e w' => ∃ pb s, e = .returned (.tuple #[.pointer (some ⟨pb, 0, none⟩), .int .i64 0]) ∧ lo ≤ s ∧ s ≤ n ∧ CrO w w' pb db rb skip N s := by
  obtain ⟨cs, ct, l, h1, h2, h3⟩ := h
  refine (h1.open h2s hN skI hsk).mono ?_
  rintro e w' ⟨s, h4, h5, ⟨pb, f', rfl, hf, K, J, g1, g2, g3, g4, g5⟩ | ⟨_, h, _⟩⟩
  · rw [hf (by decide)] at g1
    exact ⟨pb, s, rfl, by omega, by omega, cs.take s, ct, K, J, g1, g2, g3, g4, by rw [List.length_take]; omega, g5⟩
  · omega
theorem CrO.done (h : CrO w wr pb db rb skip N s) : Calls Tryz.prog 14 #[.pointer (some ⟨pb, 0, none⟩)] wr fun e w' => e = .returned (.int .i64 (s : Nat)) ∧ wr = w' := by
  obtain ⟨cs, ct, K, J, h1, h2, h3, h4, rfl, h6⟩ := h
  exact qdone_ok h1
theorem CrO.synced (h : CrO w wr pb db rb skip N s) : Calls Tryz.prog 24 #[.pointer (some ⟨pb, 0, none⟩)] wr fun e w' => e = .returned (.int .i64 (s : Nat)) ∧ wr = w' := by
  obtain ⟨cs, ct, K, J, h1, h2, h3, h4, h5, h6⟩ := h
  exact qsynced_ok h1
theorem CrO.quiet (h : CrO w wr pb db rb skip N s) (hu : Upd (fun _ => False) wr w') : CrO w w' pb db rb skip N s :=
  let ⟨cs, ct, K, J, h1, h2, h3, h4⟩ := h; ⟨cs, ct, K, J, h1.upd hu (fun _ _ h => h), h2.upd hu (fun _ _ h => h), h3.quiet hu, h4⟩
theorem CrO.cut (h : CrO w wr pb db rb skip N s) : ∃ (x : Option Addr) (m c : Nat), wr.cell? ⟨rb, 2, none⟩ = some (.slice x m c) ∧ s ≤ c ∧ c ≤ maxLen ∧ wr.frozen? ⟨rb, 2, none⟩ = false ∧ CrS w (wr.setCell ⟨rb, 2, none⟩ (.slice x s c)) pb db rb skip N s := by
  obtain ⟨cs, ct, K, J, h1, h2, h3, h4, h5, h6⟩ := h
  obtain ⟨x, c, g1, g2, g3, g4, g5⟩ := h2.cut h6
  have hus : Upd J wr (wr.setCell ⟨rb, 2, none⟩ (.slice x s c)) := (Upd.refl _ wr).setCell _ (.inl g4)
  have g6 := g5 wr (Upd.refl _ _)
  refine ⟨x, ct.length, c, g1, by omega, ?_, g3, cs, ct.take s, s, ⟨K, J, h1.upd hus h3.kj, g6, h3.right ⟨hus, fun q hq => .inl hq⟩ g6.lt, h4⟩, by omega⟩
  obtain ⟨x0, c0, vs, A, k1, _, _⟩ := h2
  have e1 := k1.cells.cell 2
  simp only [List.getElem?_cons_zero, List.getElem?_cons_succ] at e1
  rw [g1] at e1
  simp only [Option.some.injEq, Value.slice.injEq] at e1
  obtain ⟨_, ⟨e, e2⟩ | ⟨g, o, cap, e, _, e3, _⟩⟩ := k1.mid
  · simp only [Value.slice.injEq] at e; omega
  · simp only [Value.slice.injEq] at e; omega
theorem CrS.begin (h : CrS w wr pb db rb skip N b) : Calls Tryz.prog 13 #[.pointer (some ⟨pb, 0, none⟩)] wr fun e w' => ∃ tb, e = .returned (.tuple #[.pointer (some ⟨tb, 0, none⟩), .int .i64 0]) ∧ ∃ s, s ≤ b ∧ CrT w (w'.alloc (.cells #[.pointer (some ⟨rb, 0, none⟩), .slice none 0 0] 51)) tb pb db w'.heap.size rb skip N s := by
  obtain ⟨cs, ct, sy, h1, h2⟩ := h
  refine h1.begin.mono ?_
  rintro e w' ⟨tb, rfl, h⟩
  exact ⟨tb, rfl, cs.length, h2, cs, ct, [], [], sy, h.new, rfl⟩
theorem CrT.step (h : CrT w wr tb pb db xb rb skip N s) (hs : s ≤ 1000000) (b : Nat) (hb : b ≤ 4096) :
    Calls Tryz.prog 34 #[.pointer (some ⟨tb, 0, none⟩), .pointer (some ⟨xb, 0, none⟩), .agg #[.int .u8 1, .int .i64 (b : Nat), .string ⟨#[]⟩]] wr fun e w' => e = .returned (.bool true) ∧ CrT w w' tb pb db xb rb skip N s := by
  obtain ⟨cs, ct, ds, l, sy, h1, h2⟩ := h
  refine (step4_ok h1 ⟨1, b, ⟨#[]⟩⟩ ⟨by show (1 : Nat) ≤ 255; decide, by show (-9223372036854775808 : Int) ≤ (b : Int); omega, by show (b : Int) ≤ 9223372036854775807; omega, Nat.zero_le _⟩ (by omega)).mono ?_
  rintro e w' ⟨rfl, ds', l', h⟩
  exact ⟨rfl, cs, ct, ds', l', sy, h, h2⟩
theorem CrT.cells (h : CrT w wr tb pb db xb rb skip N s) : wr.cell? ⟨rb, 0, none⟩ = some (.int .i64 N) := by
  obtain ⟨cs, ct, ds, l, sy, h1, h2⟩ := h
  exact h1.cells.1
theorem CrT.abort (h : CrT w wr tb pb db xb rb skip N s) : Calls Tryz.prog 17 #[.pointer (some ⟨tb, 0, none⟩)] wr fun e w' => e = .returned (.tuple #[]) ∧ CrS w w' pb db rb skip N s := by
  obtain ⟨cs, ct, ds, l, sy, h1, h2⟩ := h
  refine h1.abort.mono ?_
  rintro e w' ⟨rfl, h⟩
  exact ⟨rfl, cs, ct, sy, h.pp, by omega⟩
theorem CrS.le {m : Nat} (h : CrS w wr pb db rb skip N b) (hm : b ≤ m) : CrS w wr pb db rb skip N m := let ⟨cs, ct, sy, h1, h2⟩ := h; ⟨cs, ct, sy, h1, Nat.le_trans h2 hm⟩
theorem CrC.quiet (h : CrC w wr db rb skip N lo n f) (hu : Upd (fun _ => False) wr w') : CrC w w' db rb skip N lo n f := let ⟨cs, ct, l, h1, h2⟩ := h; ⟨cs, ct, l, h1.quiet hu, h2⟩
end
set_option maxHeartbeats 16000000 in
theorem pagerCrash_walk (sectors log : Nat) (hs : sectors ≤ 255) (hl : log ≤ 255) (xa : Option Addr) (xc : Nat) (l : List LifP) (w : World) (hW : LifesAt w xa xc l) :
    Calls Tryz.prog 9 #[.int .u8 sectors, .int .u8 log, .slice xa l.length xc] w fun e w' => e = .returned (.bool true) ∧ Below w.heap.size w w' := by
  obtain ⟨M, hmm⟩ : ∃ M, l.length = M := ⟨_, rfl⟩
  have hm := hW.1.2.1
  rw [hmm] at hm ⊢
  have hMI : (M : Int) ≤ 9223372036854775807 := by simp only [maxLen] at hm; omega
  have H := Lib.hid (And.intro hW hmm)
  have hsz := fun w => size4_ok sectors log hs hl w
  obtain ⟨skip, hsk⟩ : ∃ skip, szL log = skip := ⟨_, rfl⟩
  obtain ⟨N, hN⟩ : ∃ N, szN sectors = N := ⟨_, rfl⟩
  have hskb : 2 ≤ skip ∧ skip ≤ 25 := by unfold szL at hsk; omega
  have hNb : 1 ≤ N ∧ N ≤ 24 := by unfold szN at hN; omega
  rw [hsk, hN] at hsz
  have Hsz := Lib.hid hsz
  have hsI : (sectors : Int) ≤ 255 := by omega
  have hlI : (log : Int) ≤ 255 := by omega
  have hskI : (skip : Int) ≤ 25 := by omega
  have hskI2 : (2 : Int) ≤ (skip : Int) := by omega
  have hNI : (N : Int) ≤ 24 := by omega
  have hNI1 : (1 : Int) ≤ (N : Int) := by omega
  have Hb := Lib.hid (And.intro hskb hNb)
  clear hW hmm hm hs hl hsz hsk hN hskb hNb
  by_cases h8 : 8 < M
  · have h8I : (8 : Int) < (M : Int) := by omega
    go_enter Tryz.func9, Tryz.ntmps9
    go_wp2_with fail
    refine (fixed_ok w).mono ?_
    rintro e w1 ⟨rfl, hu1⟩
    dsimp only
    have HU1 := Lib.hid hu1
    clear hu1
    go_wp2_with fail
    refine (fixed_ok w1).mono ?_
    rintro e w2 ⟨rfl, hu2⟩
    dsimp only
    have HU2 := Lib.hid (HU1.out.trans hu2)
    clear hu2
    go_wp2_with fail
    go_ret
    exact ⟨rfl, HU2.out.below0⟩
  have h8I : (M : Int) ≤ 8 := by omega
  go_enter Tryz.func9, Tryz.ntmps9
  go_wp2_with fail
  refine (fixed_ok w).mono ?_
  rintro e w1 ⟨rfl, hu1⟩
  dsimp only
  have HU1 := Lib.hid hu1
  clear hu1
  go_wp2_with fail
  refine (Hsz.out w1).mono ?_
  rintro e w2 ⟨rfl, hu⟩
  dsimp only
  have HU2 : Hid (Upd (fun _ => False) w w2) := HU1.out.trans hu
  clear hu HU1 Hsz
  go_wp2_with fail
  refine (qnew_ok (skip + N) (by have := Hb.out; omega) (by have := Hb.out; omega) w2 _ (by omega)).mono ?_
  rintro e w3 ⟨db, F, rfl, hD, hu, hF⟩
  dsimp only
  have H3 := Lib.hid (And.intro hD (And.intro (HU2.out.trans hu) (fun q hq => Nat.le_trans HU2.out.size (hF q hq))))
  clear hD hu hF HU2
  go_wp2_with fail
  refine (qmake_ok skip N Hb.out.1.1 Hb.out.2.1 (by have := Hb.out; omega) H3.out.1 skip rfl).mono ?_
  rintro e w4 ⟨pb, K4, rfl, hp, hu, hK⟩
  dsimp only
  have H4 : Hid (Pgr w4 pb db skip N [] 0 (-1) K4 ∧ Upd (fun _ => False) w w4 ∧ ∀ q, K4 q → w.heap.size ≤ q) :=
    ⟨hp, H3.out.2.1.then hu (fun q hq => .inr (H3.out.2.2 q hq)), (fun q hq => by
      rcases hK q hq with e | e
      · exact H3.out.2.2 q e
      · exact Nat.le_trans H3.out.2.1.size e)⟩
  clear hp hu hK H3
  go_upto_block 0 with (fail)
  have en : (skip : Int) + (N : Int) - (skip : Int) = (N : Int) := by omega
  have es : (skip : Int) - 1 = ((skip - 1 : Nat) : Int) := by have := Hb.out; omega
  have ek : ((skip + N : Nat) : Int) = (skip : Int) + (N : Int) := by omega
  simp only [en, es, ek]
  have h5 : CrS w (w4.alloc (.cells #[.int .i64 N, .int .i64 ((skip - 1 : Nat) : Int), .slice none 0 0] 48)) pb db w4.heap.size skip N 0 := by
    have ha : Upd (fun _ => False) w4 (w4.alloc (.cells #[.int .i64 N, .int .i64 ((skip - 1 : Nat) : Int), .slice none 0 0] 48)) := (Upd.refl _ w4).alloc _
    have hc := CellsA.new w4 48 [.int .i64 N, .int .i64 ((skip - 1 : Nat) : Int), .slice none 0 0]
    have hz : (w4.alloc (.cells #[.int .i64 N, .int .i64 ((skip - 1 : Nat) : Int), .slice none 0 0] 48)).heap.size = w4.heap.size + 1 := by simp
    have hz4 := H4.out.2.1.size
    refine ⟨[], [], 0, ⟨K4, _, H4.out.1.upd ha (fun _ _ h => h), Rpg.new hc, ⟨H4.out.2.1.trans ha, fun q hq => ⟨.inr (H4.out.2.2 q hq), fun e => ?_⟩, fun q hq => .inr (by rw [hq]; exact hz4), fun q hq => ?_, fun q hq => by rw [hq, hz]; omega⟩, SameC.nil⟩, Nat.le_refl _⟩
    · have := H4.out.1.lt q hq; omega
    · have := H4.out.1.lt q hq; omega
  have H5 := Lib.hid h5
  generalize w4.alloc (.cells #[.int .i64 N, .int .i64 ((skip - 1 : Nat) : Int), .slice none 0 0] 48) = w5 at *
  generalize w4.heap.size = rb at *
  clear en es ek H4 h5
  go_wp2_with fail
  go_loopw [10, 13] (fun pv iv wr => ∃ k pb : Nat, k ≤ M ∧ pv = .pointer (some ⟨pb, 0, none⟩) ∧ iv = .int .i64 k ∧ Hid (CrS w wr pb db rb skip N (62 * k))) (fun _ iv _ => M - (intOf iv).toNat)
  case atStart => exact ⟨0, pb, Nat.zero_le _, rfl, rfl, H5⟩
  case round =>
    clear H5
    obtain ⟨k, pb, hk, rfl, rfl, HR⟩ := hrel
    by_cases hlt : k < M
    · have hltI : (k : Int) < (M : Int) := by omega
      have hk8 : k < 8 := by omega
      have hjl : k < l.length := by rw [H.out.2]; exact hlt
      obtain ⟨o, ho⟩ : ∃ o, l[k] = o := ⟨_, rfl⟩
      have hol : o ∈ l := ho ▸ List.getElem_mem _
      obtain ⟨xg, xo, rfl, hr⟩ := lifP_at H.out.1.1 k hjl
      rw [ho] at hr
      have hro : wr.rangeAt xg (xo + k * 4) (lifP o) := HR.out.upd0.range hr (fun h => h)
      have Hok := Lib.hid (And.intro (H.out.1.2.1 o hol) (And.intro hk8 hr))
      rw [lifP] at hro
      clear hr hol ho hjl hk8
      go_wp2_with (first | ((with_reducible apply wpl_load_mid xg (xo + k * 4) [.slice o.sa o.script.length o.sc, .int .u8 o.fuel, .slice o.ka o.keep.length o.kc, .slice o.aa o.again.length o.ac]); exact rfl; exact hro; exact Tryz.underlying77; exact rfl; exact sizeLifP; try (simp only [Act.put, List.setIfInBounds_toArray, List.set_cons_zero, List.set_cons_succ])))
      refine (HR.out.live o Hok.out.1 Hb.out.2.1 (by have := Hok.out.2.1; omega)).mono ?_
      rintro e wa ⟨lo, n, rfl, ha, hn⟩
      dsimp only
      have hnb : n ≤ 100000 := by have := Hok.out.2.1; omega
      have HA : Hid (CrV w wa db rb skip N lo n) := ha
      have Hn := Lib.hid hn
      have hra : wa.rangeAt xg (xo + k * 4) (lifP o) := ha.upd0.range Hok.out.2.2 (fun h => h)
      have hka : wa.cell? ⟨xg, xo + k * 4 + 2, none⟩ = some (.slice o.ka o.keep.length o.kc) := hra 2 _ rfl
      clear ha hn hro HR hra
      go_wp2_with fail
      refine (HA.out.crash o.ka o.kc o.keep Hok.out.1.keep Hok.out.1.klt).mono ?_
      rintro e wc ⟨rfl, hc⟩
      dsimp only
      have HC : Hid (CrC w wc db rb skip N lo n (-1)) := hc
      clear hc HA hka
      go_upto_block 2 with (fail)
      obtain ⟨m, hm⟩ : ∃ m, o.again.length = m := ⟨_, rfl⟩
      have hmm := Hok.out.1.again.2.1
      rw [hm] at hmm
      have hmI : (m : Int) ≤ 9223372036854775807 := by simp only [maxLen] at hmm; omega
      have Hm := Lib.hid hm
      clear hm hmm
      go_cut [] (fun wr => Hid (CrC w wr db rb skip N lo n (-1)))
      case first =>
        go_wp2_with fail
        go_loopw [17] (fun jv wr => ∃ j : Nat, j ≤ m ∧ j ≤ 8 ∧ jv = .int .i64 j ∧ Hid (CrC w wr db rb skip N lo n (-1))) (fun jv _ => m - (intOf jv).toNat)
        case atStart => exact ⟨0, Nat.zero_le _, by decide, rfl, HC⟩
        case round =>
          clear HC
          obtain ⟨j, hj, hj8, rfl, HJ⟩ := hrel
          have hj8I : (j : Int) ≤ 8 := by omega
          have hrj : wr.rangeAt xg (xo + k * 4) (lifP o) := HJ.out.upd0.range Hok.out.2.2 (fun h => h)
          have hca : wr.cell? ⟨xg, xo + k * 4 + 3, none⟩ = some (.slice o.aa m o.ac) := by rw [← Hm.out]; exact hrj 3 _ rfl
          clear hrj
          by_cases hjl : j < m ∧ j < 8
          · have hjm : (j : Int) < (m : Int) := by omega
            have hj88 : (j : Int) < 8 := by omega
            obtain ⟨x, hx⟩ : ∃ x : UInt8, (bvs o.again)[j]? = some (bv x) := ⟨_, bvs_get _ j (by rw [Hm.out]; exact hjl.1)⟩
            obtain ⟨ag, ao, haa, hcx0⟩ := Hok.out.1.again.one j (by rw [Hm.out]; exact hjl.1) hx
            rw [haa] at hca
            have hcx : wr.cell? ⟨ag, ao + j, none⟩ = some (.int .u8 x.toNat) := HJ.out.upd0.cell_some hcx0 (fun h => h)
            have hxb : x.toNat ≤ 255 := by have := x.toNat_lt; omega
            obtain ⟨xn, hxn⟩ : ∃ xn, x.toNat = xn := ⟨_, rfl⟩
            rw [hxn] at hcx hxb
            have hxI : (xn : Int) ≤ 255 := by omega
            clear hx hcx0 haa hxn
            go_wp2_with fail
            refine (HJ.out.fuel xn hxb).mono ?_
            rintro e wd ⟨rfl, hd⟩
            dsimp only
            have HD : Hid (CrC w wd db rb skip N lo n xn) := hd
            clear hd HJ hca hcx
            go_wp2_with fail
            refine (HD.out.open1 Hb.out.1.1 Hb.out.2.1 skip rfl).mono ?_
            rintro e we ⟨hv, ⟨pb2, rfl⟩ | ⟨rfl, hde⟩⟩
            · dsimp only
              have hre : we.rangeAt xg (xo + k * 4) (lifP o) := hv.upd0.range Hok.out.2.2 (fun h => h)
              have hke : we.cell? ⟨xg, xo + k * 4 + 2, none⟩ = some (.slice o.ka o.keep.length o.kc) := hre 2 _ rfl
              have HV : Hid (CrV w we db rb skip N lo n) := hv
              clear hv hre HD
              go_wp2_with fail
              refine (HV.out.crash o.ka o.kc o.keep Hok.out.1.keep Hok.out.1.klt).mono ?_
              rintro e wf ⟨rfl, hf⟩
              dsimp only
              have HF : Hid (CrC w wf db rb skip N lo n (-1)) := hf
              clear hf HV hke
              go_wp2_with fail
              exact ⟨⟨j + 1, by omega, by omega, by go_num, HF⟩, by simp [intOf]; omega⟩
            · dsimp only
              have hre : we.rangeAt xg (xo + k * 4) (lifP o) := hv.upd0.range Hok.out.2.2 (fun h => h)
              have hke : we.cell? ⟨xg, xo + k * 4 + 2, none⟩ = some (.slice o.ka o.keep.length o.kc) := hre 2 _ rfl
              have HV : Hid (CrV w we db rb skip N lo n) := hv
              have Hde := Lib.hid hde
              clear hv hre HD hde
              go_wp2_with fail
              refine Hde.out.mono ?_
              rintro e wf ⟨rfl, rfl⟩
              dsimp only
              clear Hde
              go_wp2_with fail
              refine (HV.out.crash o.ka o.kc o.keep Hok.out.1.keep Hok.out.1.klt).mono ?_
              rintro e wf ⟨rfl, hf⟩
              dsimp only
              have HF : Hid (CrC w wf db rb skip N lo n (-1)) := hf
              clear hf HV hke
              go_wp2_with fail
              exact ⟨⟨j + 1, by omega, by omega, by go_num, HF⟩, by simp [intOf]; omega⟩
          · rcases (by omega : (m : Int) ≤ (j : Int) ∨ (j : Int) < (m : Int) ∧ (8 : Int) ≤ (j : Int)) with h1 | ⟨h1, h2⟩
            · go_wp2_with fail
              go_meet
              exact HJ
            · go_wp2_with fail
              go_meet
              exact HJ
      case rest =>
        clear HC
        have HJ := hcut
        clear hcut
        go_wp2_with fail
        refine (HJ.out.open2 Hb.out.1.1 Hb.out.2.1 skip rfl).mono ?_
        rintro e wd ⟨pb3, s, rfl, hs1, hs2, hd⟩
        dsimp only
        have HD : Hid (CrO w wd pb3 db rb skip N s) := hd
        have hlos : (lo : Int) ≤ (s : Int) := by omega
        have hsn : (s : Int) ≤ (n : Int) := by omega
        have hsb : (s : Int) ≤ 100000 := by omega
        have hbb : Hid (s ≤ 62 * (k + 1) ∧ s ≤ 100000) := by have := Hn.out; exact ⟨by omega, by omega⟩
        clear hd HJ hs1 hs2 Hn
        go_wp2_with fail
        refine HD.out.done.mono ?_
        rintro e we ⟨rfl, rfl⟩
        dsimp only
        go_wp2_with fail
        refine HD.out.done.mono ?_
        rintro e we ⟨rfl, rfl⟩
        dsimp only
        go_wp2_with fail
        refine HD.out.synced.mono ?_
        rintro e we ⟨rfl, rfl⟩
        dsimp only
        go_wp2_with fail
        refine HD.out.done.mono ?_
        rintro e we ⟨rfl, rfl⟩
        dsimp only
        go_wp2_with fail
        have hod : CrO w wd.drew pb3 db rb skip N s := HD.out.quiet (Upd.refl (fun _ => False) _).drew
        obtain ⟨x, cl, c, hx, hsc, hcm, hfz, hset⟩ := hod.cut
        have hscI : (s : Int) ≤ (c : Int) := by omega
        have hcI : (c : Int) ≤ 9223372036854775807 := by simp only [maxLen] at hcm; omega
        have HE := Lib.hid (And.intro hod.done hset)
        have HS : wd.drew.cell? ⟨rb, 2, none⟩ = some (.slice x cl c) := hx
        clear hod hx hset HD
        refine wp_region_planD (fun u => u.cell? ⟨rb, 2, none⟩ = some (.slice x cl c)) 10 [(0, true), (1, true), (2, true), (3, true), (4, true), (5, true), (6, false), (7, true), (8, true), (9, true), (10, false)] (by kernel_rfl) (by kernel_rfl) (fun d _ _ _ _ h => by cases d <;> exact h) HS ?_
        iterate 6 (first | (apply planD_held rfl rfl rfl (by simp) HS; (intro w' hS K hK; go_simp; exact hK)) | (apply planD_wanted rfl rfl rfl (by simp) HS; (intro w' hS K hK; go_simp; exact hK)))
        refine planD_op rfl rfl (fun K hK => ?_)
        go_simp
        refine HE.out.1.mono ?_
        rintro e we ⟨rfl, rfl⟩
        dsimp only
        refine hK _ _ _ (fun u h => h) (fun _ => HS) ?_
        clear hK
        try (simp only [Act.put, List.setIfInBounds_toArray, List.set_cons_zero, List.set_cons_succ])
        iterate 3 (first | (apply planD_held rfl rfl rfl (by simp) HS; (intro w' hS K hK; go_simp; exact hK)) | (apply planD_wanted rfl rfl rfl (by simp) HS; (intro w' hS K hK; go_simp; exact hK)))
        refine planD_op rfl rfl (fun K hK => ?_)
        go_simp
        have H9 : Hid (CrS w (wd.setCell ⟨rb, 2, none⟩ (.slice x s c)).drew pb3 db rb skip N s) := HE.out.2
        refine hK _ _ _ (fun u h => h) (fun h => absurd rfl h) ?_
        clear hK HS hfz HE
        refine planD_nil ?_
        go_wp2_with fail
        generalize (wd.setCell ⟨rb, 2, none⟩ (.slice x s c)).drew = w9 at *
        refine H9.out.begin.mono ?_
        rintro e wf ⟨tb, rfl, s9, hs9, hf⟩
        dsimp only
        go_wp2_with fail
        have HF : Hid (CrT w (wf.alloc (.cells #[.pointer (some ⟨rb, 0, none⟩), .slice none 0 0] 51)) tb pb3 db wf.heap.size rb skip N s9) := hf
        have Hs9 := Lib.hid hs9
        generalize wf.alloc (.cells #[.pointer (some ⟨rb, 0, none⟩), .slice none 0 0] 51) = wg at *
        generalize wf.heap.size = xb at *
        clear hf hs9 H9
        go_loopw [23] (fun bv wr => ∃ b : Nat, b ≤ N ∧ bv = .int .i64 b ∧ Hid (CrT w wr tb pb3 db xb rb skip N s9)) (fun bv _ => N - (intOf bv).toNat)
        case atStart => exact ⟨0, Nat.zero_le _, rfl, HF⟩
        case round =>
          clear HF
          obtain ⟨b, hb, rfl, HT⟩ := hrel
          have hcN := HT.out.cells
          by_cases hbN : b < N
          · have hbI : (b : Int) < (N : Int) := by omega
            go_wp2_with fail
            refine (HT.out.step (by have := Hs9.out; have := hbb.out; omega) b (by have := Hb.out; omega)).mono ?_
            rintro e wh ⟨rfl, hh⟩
            dsimp only
            have HH : Hid (CrT w wh tb pb3 db xb rb skip N s9) := hh
            clear hh HT hcN
            go_wp2_with fail
            exact ⟨⟨b + 1, by omega, by go_num, HH⟩, by simp [intOf]; omega⟩
          · obtain rfl : b = N := by omega
            go_wp2_with fail
            refine HT.out.abort.mono ?_
            rintro e wh ⟨rfl, hh⟩
            dsimp only
            have HH : Hid (CrS w wh pb3 db rb skip b (62 * (k + 1))) := hh.le (by have := Hs9.out; have := hbb.out; omega)
            clear hh HT hcN
            go_wp2_with fail
            exact ⟨⟨k + 1, pb3, by omega, rfl, by go_num, HH⟩, by simp [intOf]; omega⟩
    · obtain rfl : k = M := by omega
      go_wp2_with fail
      go_ret
      exact ⟨rfl, HR.out.upd0.below0⟩
end Go.Proofs.YtihlijnobbonbaaGreat
