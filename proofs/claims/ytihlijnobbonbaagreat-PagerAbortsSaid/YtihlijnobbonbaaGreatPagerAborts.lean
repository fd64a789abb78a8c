/- docketlaw04.PagerAborts. -/
import Derived.Test.YtihlijnobbonbaaGreatPb2
import Derived.Test.YtihlijnobbonbaaGreatRf5
import Derived.Deep.DeepCutAuto
import Derived.Deep.CutBlock
namespace Go.Proofs.YtihlijnobbonbaaGreat
open Go Go.RowKit
set_option linter.unusedSimpArgs false
set_option linter.unusedVariables false
set_option maxRecDepth 100000

def okA (o : POp) : Prop := 0 ≤ o.b ∧ o.b < 40 ∧ o.data.size ≤ 512
instance (o : POp) : Decidable (okA o) := by unfold okA; infer_instance
def dat (o : POp) : Bytes := pad o.data.data.toList
/-- What the writes of a script leave, on both sides. -/
def wS (s : Nat × Img) (o : POp) : Nat × Img := if s.1 < 30 ∧ okA o then (s.1 + 1, putP s.2 o.b (dat o)) else s
def rS (s : Nat × Img) (o : POp) : Nat × Img := if s.1 < 30 ∧ okA o then (s.1 + 1, wrR s.2 o.b (dat o)) else s
def wA (l : List POp) : Nat × Img := l.foldl wS (0, [])
def rA (l : List POp) : Nat × Img := l.foldl rS (0, [])
theorem wA_snoc (l : List POp) (o : POp) : wA (l ++ [o]) = wS (wA l) o := by simp [wA]
theorem rA_snoc (l : List POp) (o : POp) : rA (l ++ [o]) = rS (rA l) o := by simp [rA]
theorem wA_succ (l : List POp) (k : Nat) (h : k < l.length) : wA (l.take (k + 1)) = wS (wA (l.take k)) l[k] := by rw [List.take_succ_eq_append_getElem h, wA_snoc]
theorem rA_succ (l : List POp) (k : Nat) (h : k < l.length) : rA (l.take (k + 1)) = rS (rA (l.take k)) l[k] := by rw [List.take_succ_eq_append_getElem h, rA_snoc]
theorem dat_len {o : POp} (h : okA o) : (dat o).length = 512 := pad_length (by rw [Array.length_toList]; exact h.2.2)
theorem both_from : ∀ (l : List POp) (s t : Nat × Img), s.1 = t.1 → SameI s.2 t.2 → EsOk 40 s.2 → EsOk 40 t.2 → s.1 ≤ 30 →
    (l.foldl wS s).1 = (l.foldl rS t).1 ∧ SameI (l.foldl wS s).2 (l.foldl rS t).2 ∧ EsOk 40 (l.foldl wS s).2 ∧ EsOk 40 (l.foldl rS t).2 ∧ (l.foldl wS s).1 ≤ 30
  | [], s, t, h1, h2, h3, h4, h5 => ⟨h1, h2, h3, h4, h5⟩
  | o :: r, s, t, h1, h2, h3, h4, h5 => by
    rw [List.foldl_cons, List.foldl_cons]
    by_cases h : s.1 < 30 ∧ okA o
    · have e1 : wS s o = (s.1 + 1, putP s.2 o.b (dat o)) := if_pos h
      have e2 : rS t o = (t.1 + 1, wrR t.2 o.b (dat o)) := if_pos (by rw [← h1]; exact h)
      rw [e1, e2]
      refine both_from r _ _ (by simp [h1]) (fun j => ?_) (h3.put h.2.1 h.2.2.1 (dat_len h.2)) (h4.wrR h.2.1 h.2.2.1 (dat_len h.2)) (by simp; omega)
      simp only [lookB_putP, look_wrR, h2 j]
    · have e1 : wS s o = s := if_neg h
      have e2 : rS t o = t := if_neg (by rw [← h1]; exact h)
      rw [e1, e2]
      exact both_from r s t h1 h2 h3 h4 h5
theorem both (l : List POp) : (wA l).1 = (rA l).1 ∧ SameI (wA l).2 (rA l).2 ∧ EsOk 40 (wA l).2 ∧ EsOk 40 (rA l).2 ∧ (wA l).1 ≤ 30 :=
  both_from l (0, []) (0, []) rfl (fun _ => rfl) (EsOk.nil 40) (EsOk.nil 40) (by decide)
theorem rS_full : ∀ (l : List POp) (t : Nat × Img), 30 ≤ t.1 → l.foldl rS t = t
  | [], _, _ => rfl
  | o :: r, t, h => by
    rw [List.foldl_cons, show rS t o = t from if_neg (fun e => by omega)]
    exact rS_full r t h
theorem rA_full (l : List POp) (k : Nat) (h : 30 ≤ (rA (l.take k)).1) : rA (l.take k) = rA l := by
  have e : rA l = (l.drop k).foldl rS (rA (l.take k)) := by rw [rA, rA, ← List.foldl_append, List.take_append_drop]
  rw [e, rS_full _ _ h]
theorem putP_le (k : Int) (x : Bytes) : ∀ es : Img, (putP es k x).length ≤ es.length + 1
  | [] => by simp [putP]
  | q :: r => by
    have := putP_le k x r
    rw [putP]
    split <;> simp <;> omega
theorem cnt_le_len : ∀ (l : List POp) (s : Nat × Img), s.2.length ≤ s.1 → (l.foldl wS s).2.length ≤ (l.foldl wS s).1
  | [], _, h => h
  | o :: r, s, h => by
    rw [List.foldl_cons]
    refine cnt_le_len r _ ?_
    unfold wS
    split
    · have := putP_le o.b (dat o) s.2
      simp only; omega
    · exact h
theorem wA_len (l : List POp) : (wA l).2.length ≤ 30 := Nat.le_trans (cnt_le_len l (0, []) (Nat.le_refl _)) (both l).2.2.2.2
/-- The commits that a script leaves. -/
def oneC (ds : Img) : List Img := if ds.length = 0 then [] else [ds]
theorem oneC_len (ds : Img) : (oneC ds).length ≤ 1 := by unfold oneC; split <;> simp
theorem oneC_same {a b : Img} (h : SameI a b) (ha : EsOk 40 a) (hb : EsOk 40 b) (j : Int) : atC (oneC a) j = atC ((oneC b).take 1) j := by
  have hl := h.len ha hb
  unfold oneC
  by_cases h0 : a.length = 0
  · rw [if_pos h0, if_pos (by omega)]; rfl
  · rw [if_neg h0, if_neg (by omega)]
    show atC [a] j = atC [b] j
    rw [atC, atC, lastC_one, lastC_one, h j]
theorem notLong {ds : Img} (h : EsOk 40 ds) (hl : ds.length ≤ 30) : ¬ TooLong 40 ds := by
  rw [long_same h, RLong]; omega
/-- The pager's transaction. -/
def AbT (w wr : World) (tb pb db : Nat) (cs : List Img) (ds : Img) : Prop :=
  ∃ (sy : Nat) (K : Nat → Prop), Txr wr tb pb db 40 40 cs ds sy (-1) K ∧ Upd (fun _ => False) w wr ∧ (∀ q, K q → w.heap.size ≤ q)
/-- The pager. -/
def AbP (w wr : World) (pb db : Nat) (cs : List Img) : Prop :=
  ∃ (sy : Nat) (K : Nat → Prop), Pgr wr pb db 40 40 cs sy (-1) K ∧ Upd (fun _ => False) w wr ∧ (∀ q, K q → w.heap.size ≤ q)
section
variable {w wr : World} {tb pb db : Nat} {cs : List Img} {ds : Img}
theorem AbT.upd0 (h : AbT w wr tb pb db cs ds) : Upd (fun _ => False) w wr := let ⟨_, _, _, h, _⟩ := h; h
theorem AbP.upd0 (h : AbP w wr pb db cs) : Upd (fun _ => False) w wr := let ⟨_, _, _, h, _⟩ := h; h
theorem AbT.step {X : World} (h : AbT w wr tb pb db cs ds) (hX : Upd (fun _ => False) wr X) : AbT w X tb pb db cs ds :=
  let ⟨sy, K, h1, h2, h3⟩ := h; ⟨sy, K, h1.upd hX (fun _ _ h => h), h2.trans hX, h3⟩
theorem AbT.put {X : World} (h : AbT w wr tb pb db cs ds) (hX : Upd (fun _ => False) wr X) (o : POp) (ho : o.Ok) (xa : Option Addr) (xc : Nat) (hs : Sees X 1 (.slice xa o.data.size xc) o.data.size (bvs o.data.data.toList)) :
    Calls Tryz.prog 15 #[.pointer (some ⟨tb, 0, none⟩), .int .i64 o.b, .slice xa o.data.size xc] X fun e w' => ∃ r : Int, e = .returned (.int .i64 r) ∧ ((okA o ∧ r = 0 ∧ AbT w w' tb pb db cs (putP ds o.b (dat o))) ∨ (¬ okA o ∧ r = 1 ∧ AbT w w' tb pb db cs ds)) := by
  obtain ⟨sy, K, h1, h2, h3⟩ := h
  have hsl : o.data.data.toList.length = o.data.size := by rw [Array.length_toList]; rfl
  have := qwrite_ok (h1.upd hX (fun _ _ h => h)) o.b ho.lo ho.hi xa xc o.data.data.toList (by rw [hsl]; exact hs)
  rw [hsl] at this
  refine this.mono ?_
  rintro e w' (⟨hb, rfl, hu⟩ | ⟨hb1, hb2, hb3, rfl, ht, hu⟩)
  · exact ⟨1, rfl, .inr ⟨fun e => by obtain ⟨e1, e2, e3⟩ := e; omega, rfl, sy, K, (h1.upd hX (fun _ _ h => h)).upd hu (fun _ _ h => h), (h2.trans hX).trans hu, h3⟩⟩
  · exact ⟨0, rfl, .inl ⟨⟨hb1, hb2, hb3⟩, rfl, sy, K, ht, (h2.trans hX).then hu (fun q hq => .inr (h3 q hq)), h3⟩⟩
theorem AbT.commit (h : AbT w wr tb pb db [] ds) (hl : ds.length ≤ 30) :
    Calls Tryz.prog 16 #[.pointer (some ⟨tb, 0, none⟩)] wr fun e w' => (∃ a r, e = .returned (.tuple #[.int .i64 a, .int .i64 r])) ∧ AbP w w' pb db (oneC ds) := by
  obtain ⟨sy, K, h1, h2, h3⟩ := h
  have hok := h1.ok.1
  refine (qcommit_ok h1 (by decide) (by decide)).mono ?_
  rintro e w' ⟨a, r, rfl, K', hf, hp⟩
  have hu : Upd (fun _ => False) w w' := h2.then hf.upd (fun q hq => .inr (h3 q hq))
  have ho : ∀ q, K' q → w.heap.size ≤ q := fun q hq => (hf.own q hq).elim (h3 q) (fun e => Nat.le_trans h2.size e)
  refine ⟨⟨a, r, rfl⟩, ?_⟩
  unfold oneC
  rcases hp with ⟨h0, _, _, hp⟩ | ⟨_, h0, _, _, _⟩ | ⟨h0, _, _, _, sy', f', _, hf', hp⟩ | ⟨_, _, _, _, _, hp⟩
  · rw [if_pos h0]
    exact ⟨sy, K', hp, hu, ho⟩
  · exact absurd h0 (notLong hok hl)
  · rw [if_neg h0]
    rw [hf' (by decide)] at hp
    exact ⟨sy', K', hp, hu, ho⟩
  · exact absurd hp (by decide)
theorem AbP.begin (h : AbP w wr pb db cs) :
    Calls Tryz.prog 13 #[.pointer (some ⟨pb, 0, none⟩)] wr fun e w' => ∃ tb, e = .returned (.tuple #[.pointer (some ⟨tb, 0, none⟩), .int .i64 0]) ∧ AbT w w' tb pb db cs [] := by
  obtain ⟨sy, K, h1, h2, h3⟩ := h
  refine (qbegin_ok h1).mono ?_
  rintro e w' ⟨tb, K', rfl, ht, hf⟩
  exact ⟨tb, rfl, sy, K', ht, h2.then hf.upd (fun q hq => .inr (h3 q hq)), fun q hq => (hf.own q hq).elim (h3 q) (fun e => Nat.le_trans h2.size e)⟩
theorem AbT.abort (h : AbT w wr tb pb db cs ds) :
    Calls Tryz.prog 17 #[.pointer (some ⟨tb, 0, none⟩)] wr fun e w' => e = .returned (.tuple #[]) ∧ AbP w w' pb db cs := by
  obtain ⟨sy, K, h1, h2, h3⟩ := h
  refine (qabort_ok h1).mono ?_
  rintro e w' ⟨K', rfl, ht, hf⟩
  exact ⟨rfl, sy, K', ht, h2.then hf.upd (fun q hq => .inr (h3 q hq)), fun q hq => (hf.own q hq).elim (h3 q) (fun e => Nat.le_trans h2.size e)⟩
theorem AbT.done (h : AbT w wr tb pb db cs ds) : Calls Tryz.prog 14 #[.pointer (some ⟨pb, 0, none⟩)] wr fun e w' => e = .returned (.int .i64 (cs.length : Nat)) ∧ wr = w' := by
  obtain ⟨sy, K, h1, h2, h3⟩ := h
  exact qdone_tx h1
theorem AbP.done (h : AbP w wr pb db cs) : Calls Tryz.prog 14 #[.pointer (some ⟨pb, 0, none⟩)] wr fun e w' => e = .returned (.int .i64 (cs.length : Nat)) ∧ wr = w' := by
  obtain ⟨sy, K, h1, h2, h3⟩ := h
  exact qdone_ok h1
theorem AbP.all (h : AbP w wr pb db cs) : Calls Tryz.prog 18 #[.pointer (some ⟨pb, 0, none⟩)] wr fun e w' => ∃ (x : Option Addr) (c : Nat), e = .returned (.tuple #[.slice x 40 c, .bool true]) ∧ Sees w' 1 (.slice x 40 c) 40 (strsV (allB cs 40)) ∧ Upd (fun _ => False) w w' := by
  obtain ⟨sy, K, h1, h2, h3⟩ := h
  refine (blocks_all h1).mono ?_
  rintro e w' ⟨x, c, K', rfl, hs, ho, hp, hf⟩
  exact ⟨x, c, rfl, hs, h2.then hf.upd (fun q hq => .inr (h3 q hq))⟩
end
/-- The answer's. -/
def AbR (w wr : World) (xb rb : Nat) (cs : List Img) (l : Img) : Prop :=
  ∃ (K : Nat → Prop), Rtx wr xb rb 40 39 cs l K ∧ Upd (fun _ => False) w wr ∧ (∀ q, K q → w.heap.size ≤ q)
section
variable {w wr : World} {xb rb : Nat} {cs : List Img} {l : Img}
theorem AbR.upd0 (h : AbR w wr xb rb cs l) : Upd (fun _ => False) w wr := let ⟨_, _, h, _⟩ := h; h
theorem AbR.put (h : AbR w wr xb rb cs l) (o : POp) (ho : o.Ok) :
    Calls Tryz.prog 19 #[.pointer (some ⟨xb, 0, none⟩), .int .i64 o.b, .string o.data] wr fun e w' => ∃ r : Int, e = .returned (.int .i64 r) ∧ ((okA o ∧ r = 0 ∧ AbR w w' xb rb cs (wrR l o.b (dat o))) ∨ (¬ okA o ∧ r = 1 ∧ AbR w w' xb rb cs l)) := by
  obtain ⟨K, h1, h2, h3⟩ := h
  refine (rqwrite_ok h1 (by decide) o.b o.data ho.data).mono ?_
  rintro e w' ⟨r, rfl, ⟨hb, rfl, rfl⟩ | ⟨hb1, hb2, hb3, rfl, K', ht, hf⟩⟩
  · exact ⟨1, rfl, .inr ⟨fun e => by obtain ⟨e1, e2, e3⟩ := e; omega, rfl, K, h1, h2, h3⟩⟩
  · exact ⟨0, rfl, .inl ⟨⟨hb1, hb2, hb3⟩, rfl, K', ht, h2.then hf.upd (fun q hq => .inr (h3 q hq)), fun q hq => (hf.own q hq).elim (h3 q) (fun e => Nat.le_trans h2.size e)⟩⟩
/-- Behind Commit. -/
def AbQ (w wr : World) (xb rb : Nat) (cs : List Img) : Prop :=
  ∃ (K : Nat → Prop), Rpg wr rb 40 39 cs K ∧ Upd (fun _ => False) w wr ∧ wr.cell? ⟨xb, 0, none⟩ = some (.pointer (some ⟨rb, 0, none⟩))
theorem AbR.commit (h : AbR w wr xb rb [] l) (hl : l.length ≤ 30) :
    Calls Tryz.prog 20 #[.pointer (some ⟨xb, 0, none⟩)] wr fun e w' => (∃ a r, e = .returned (.tuple #[.int .i64 a, .int .i64 r])) ∧ AbQ w w' xb rb (oneC l) := by
  obtain ⟨K, h1, h2, h3⟩ := h
  refine (rqcommit_ok h1 (by decide) (by decide) (by decide)).mono ?_
  rintro e w' ⟨a, r, rfl, K', hf, hc, hp⟩
  have hu : Upd (fun _ => False) w w' := h2.then hf.upd (fun q hq => .inr (h3 q hq))
  refine ⟨⟨a, r, rfl⟩, K', ?_, hu, hc⟩
  unfold oneC
  rcases hp with ⟨h0, _, _, hp⟩ | ⟨_, h0, _, _, _⟩ | ⟨h0, _, _, _, hp⟩
  · rw [if_pos h0]; exact hp
  · rcases h0 with h0 | h0 <;> omega
  · rw [if_neg h0]; exact hp
theorem AbQ.at (h : AbQ w wr xb rb cs) (b : Int) : Calls Tryz.prog 21 #[.pointer (some ⟨rb, 0, none⟩), .int .i64 b, .int .i64 1] wr fun e w' => e = .returned (.string (strV (atC (cs.take 1) b))) ∧ AbQ w w' xb rb cs := by
  obtain ⟨K, h1, h2, h3⟩ := h
  refine (rqat_ok h1 b 1 (by decide) 1 rfl).mono ?_
  rintro e w' ⟨rfl, hu⟩
  exact ⟨rfl, K, h1.upd hu (fun _ _ h => h), h2.trans hu, hu.cell_some h3 (fun h => h)⟩
end
theorem rA_len (l : List POp) : (rA l).2.length ≤ 30 := by
  have h := both l
  rw [← h.2.1.len h.2.2.1 h.2.2.2.1]
  exact wA_len l
theorem sizePop : (Tryz.prog.info? 36).map (·.size) = some 3 := by kernel_rfl
set_option maxHeartbeats 16000000 in
theorem pagerAborts_walk (xa : Option Addr) (ac : Nat) (la : List POp) (xb : Option Addr) (bc : Nat) (lb : List POp) (w : World) (hA : PopsAt w xa ac la) (hB : PopsAt w xb bc lb) :
    Calls Tryz.prog 3 #[.slice xa la.length ac, .slice xb lb.length bc] w fun e w' => e = .returned (.bool true) ∧ Below w.heap.size w w' := by
  obtain ⟨MA, hma⟩ : ∃ M, la.length = M := ⟨_, rfl⟩
  obtain ⟨MB, hmb⟩ : ∃ M, lb.length = M := ⟨_, rfl⟩
  have HA := Lib.hid (And.intro hA hma)
  have HB := Lib.hid (And.intro hB hmb)
  have hsa := hA.1.2.1
  have hsb := hB.1.2.1
  rw [hma] at hsa ⊢
  rw [hmb] at hsb ⊢
  have hmaI : (MA : Int) ≤ 9223372036854775807 := by simp only [maxLen] at hsa; omega
  have hmbI : (MB : Int) ≤ 9223372036854775807 := by simp only [maxLen] at hsb; omega
  clear hA hB hma hmb hsa hsb
  go_enter Tryz.func3, Tryz.ntmps3
  go_wp2_with fail
  refine (fixed_ok w).mono ?_
  rintro e w1 ⟨rfl, hu1⟩
  dsimp only
  have HU1 := Lib.hid hu1
  clear hu1
  go_wp2_with fail
  refine (qnew_ok 80 (by decide) (by decide) w1 80 rfl).mono ?_
  rintro e w2 ⟨db, F, rfl, hD, hu, hF⟩
  dsimp only
  have H1 := Lib.hid (And.intro hD (And.intro (HU1.out.trans hu) (fun q hq => Nat.le_trans HU1.out.size (hF q hq))))
  clear hD hu hF
  go_wp2_with fail
  refine (qmake_ok 40 40 (by decide) (by decide) (by decide) H1.out.1 40 rfl).mono ?_
  rintro e w3 ⟨pb, K3, rfl, hp, hu, hK⟩
  dsimp only
  have H3 : Hid (AbP w w3 pb db []) :=
    ⟨0, K3, hp, H1.out.2.1.then hu (fun q hq => .inr (H1.out.2.2 q hq)), fun q hq => by
      rcases hK q hq with e | e
      · exact H1.out.2.2 q e
      · exact Nat.le_trans H1.out.2.1.size e⟩
  clear hp hu hK H1 HU1
  go_wp2_with fail
  go_loopw [7] (fun i wr => ∃ k : Nat, k ≤ 2 ∧ i = .int .i64 k ∧ Hid (AbP w wr pb db (if k = 0 then [] else oneC (wA la).2))) (fun i _ => 2 - (intOf i).toNat)
  case atStart => exact ⟨0, by decide, rfl, H3⟩
  case round =>
    clear H3
    obtain ⟨k, hk, rfl, HP⟩ := hrel
    by_cases hlt : k < 2
    · have hltI : (k : Int) < 2 := by omega
      obtain ⟨xm, mc, lm, hlm, hvm⟩ : ∃ (xm : Option Addr) (mc : Nat) (lm : List POp), PopsAt w xm mc lm ∧ ([Value.slice xa MA ac, .slice xb MB bc] : List Value)[k]? = some (.slice xm lm.length mc) ∧ (k = 0 → lm = la) := by
        rcases (by omega : k = 0 ∨ k = 1) with rfl | rfl
        · exact ⟨xa, ac, la, HA.out.1, by rw [HA.out.2]; rfl, fun _ => rfl⟩
        · exact ⟨xb, bc, lb, HB.out.1, by rw [HB.out.2]; rfl, fun h => by cases h⟩
      obtain ⟨hvm, hlm0⟩ := hvm
      obtain ⟨M, hm⟩ : ∃ M, lm.length = M := ⟨_, rfl⟩
      have hsm := hlm.1.2.1
      rw [hm] at hsm hvm
      have hmI : (M : Int) ≤ 9223372036854775807 := by simp only [maxLen] at hsm; omega
      obtain ⟨cs, hcs⟩ : ∃ cs, (if k = 0 then [] else oneC (wA la).2) = cs := ⟨_, rfl⟩
      rw [hcs] at HP
      have hcl : cs.length ≤ 1 := by rw [← hcs]; split; exact Nat.zero_le _; exact oneC_len _
      obtain ⟨cn, hcn⟩ : ∃ cn, cs.length = cn := ⟨_, rfl⟩
      have hcnI : (cn : Int) ≤ 1 := by omega
      have HM := Lib.hid (And.intro hlm (And.intro hm (And.intro hlm0 (And.intro hcs hcn))))
      clear hlm hm hlm0 hsm hcs hcl hcn
      go_wp2_with fail
      refine HP.out.begin.mono ?_
      rintro e w4 ⟨tb, rfl, h4⟩
      dsimp only
      have H4 : Hid (AbT w w4 tb pb db cs (wA (lm.take 0)).2) := h4
      clear h4 HP
      go_wp2_with fail
      have hdn := AbT.done (pb := pb) H4.out
      rw [HM.out.2.2.2.2] at hdn
      have Hdn := Lib.hid hdn
      clear hdn
      refine Hdn.out.mono ?_
      rintro e w5 ⟨rfl, rfl⟩
      dsimp only
      clear Hdn
      have hcl4 : (w4.alloc (.cells #[.slice xa MA ac, .slice xb MB bc] 22)).cell? ⟨w4.heap.size, k, none⟩ = some (.slice xm M mc) := by
        rw [cell_of_row _ _ _ _ _ _ (heap_alloc_new w4 _), ← hvm]; simp
      go_wp2_with fail
      have hal4 : Upd (fun _ => False) w4 (w4.alloc (.cells #[.slice xa MA ac, .slice xb MB bc] 22)) := (Upd.refl _ w4).alloc _
      have H5 : Hid ((wA (lm.take 0)).1 = 0 ∧ AbT w (w4.alloc (.cells #[.slice xa MA ac, .slice xb MB bc] 22)) tb pb db cs (wA (lm.take 0)).2) := ⟨rfl, H4.out.step hal4⟩
      generalize w4.alloc (.cells #[.slice xa MA ac, .slice xb MB bc] 22) = w5 at *
      generalize w4.heap.size = gb at *
      clear hal4 H4
      go_loopw [11, 47] (fun nv iv wr => ∃ j n : Nat, j ≤ M ∧ nv = .int .i64 n ∧ iv = .int .i64 j ∧ Hid ((wA (lm.take j)).1 = n ∧ AbT w wr tb pb db cs (wA (lm.take j)).2)) (fun _ iv _ => M - (intOf iv).toNat)
      case atStart => exact ⟨0, 0, by omega, rfl, rfl, H5⟩
      case round =>
        clear H5 hcl4
        obtain ⟨j, n, hj, rfl, rfl, HR⟩ := hrel
        have hn30 : n ≤ 30 := by have := (both (lm.take j)).2.2.2.2; rw [HR.out.1] at this; exact this
        have hn30I : (n : Int) ≤ 30 := by omega
        by_cases hlj : j < M
        · have hljI : (j : Int) < (M : Int) := by omega
          have hjl : j < lm.length := by rw [HM.out.2.1]; exact hlj
          obtain ⟨o, ho⟩ : ∃ o, lm[j] = o := ⟨_, rfl⟩
          have hol : o ∈ lm := ho ▸ List.getElem_mem _
          obtain ⟨xg, xo, rfl, hr⟩ := pop_at HM.out.1.1 j hjl
          rw [ho] at hr
          have hro : wr.rangeAt xg (xo + j * 3) (popV o) := HR.out.2.upd0.range hr (fun h => h)
          have hok := HM.out.1.2.1 o hol
          have hst := wA_succ lm j hjl
          rw [ho] at hst
          have hal : Upd (fun _ => False) wr (wr.alloc (.cells #[.int .u8 o.kind, .int .i64 o.b, .string o.data] 36)) := (Upd.refl _ wr).alloc _
          have hcs := CellsA.new wr 36 [.int .u8 o.kind, .int .i64 o.b, .string o.data]
          have HT : Hid ((wA (lm.take j)).1 = n ∧ AbT w (wr.alloc (.cells #[.int .u8 o.kind, .int .i64 o.b, .string o.data] 36)) tb pb db cs (wA (lm.take j)).2) := ⟨HR.out.1, HR.out.2.step hal⟩
          have Hok := Lib.hid (And.intro hok hst)
          have hc1 := hcs.cell 1
          have hc2 := hcs.cell 2
          simp only [List.getElem?_cons_zero, List.getElem?_cons_succ] at hc1 hc2
          rw [popV] at hro
          clear hr hok hol ho hst hal hcs HR
          by_cases h30 : n < 30
          · have h30I : (n : Int) < 30 := by omega
            go_wp2_with (first | ((with_reducible apply wpl_load_mid xg (xo + j * 3) [.int .u8 o.kind, .int .i64 o.b, .string o.data]); exact rfl; exact hro; exact Tryz.underlying36; exact rfl; exact sizePop; try (simp only [Act.put, List.setIfInBounds_toArray, List.set_cons_zero, List.set_cons_succ])) | ((with_reducible apply wpl_store_new); exact rfl; exact rfl; exact sizePop; exact rfl; exact rfl; try (simp only [Act.put, List.setIfInBounds_toArray, List.set_cons_zero, List.set_cons_succ])) | ((with_reducible apply wpl_string_bytesG 5 o.data); exact Tryz.underlying9; exact Tryz.underlying38; exact Tryz.underlying5; exact rfl; exact Hok.out.1.data; exact rfl))
            intro c8 X hX hXs hXe
            try (simp only [Act.put, List.setIfInBounds_toArray, List.set_cons_zero, List.set_cons_succ])
            have hsz : (wr.alloc (.cells #[.int .u8 o.kind, .int .i64 o.b, .string o.data] 36)).heap.size = wr.heap.size + 1 := by simp
            rw [hsz] at hXe
            try rw [hsz]
            generalize wr.heap.size + 1 = gx at *
            have Hw := Lib.hid (HT.out.2.put hX o Hok.out.1 (some ⟨gx, 0, none⟩) c8 hXe)
            clear hXe hXs hsz
            go_wp2_with fail
            refine Hw.out.mono ?_
            rintro e w7 ⟨r7, rfl, ⟨h1, rfl, h3⟩ | ⟨h1, rfl, h3⟩⟩
            · dsimp only
              have H7 : Hid ((wA (lm.take (j + 1))).1 = n + 1 ∧ AbT w w7 tb pb db cs (wA (lm.take (j + 1))).2) := by
                rw [Hok.out.2, wS, if_pos ⟨by rw [HT.out.1]; exact h30, h1⟩]
                exact ⟨by rw [HT.out.1], h3⟩
              clear h1 h3 Hw HT hro hX
              go_wp2_with fail
              exact ⟨⟨j + 1, n + 1, by omega, by go_num, by go_num, H7⟩, by simp [intOf]; omega⟩
            · dsimp only
              have H7 : Hid ((wA (lm.take (j + 1))).1 = n ∧ AbT w w7 tb pb db cs (wA (lm.take (j + 1))).2) := by
                rw [Hok.out.2, wS, if_neg (fun e => h1 e.2)]
                exact ⟨HT.out.1, h3⟩
              clear h1 h3 Hw HT hro hX
              go_wp2_with fail
              exact ⟨⟨j + 1, n, by omega, rfl, by go_num, H7⟩, by simp [intOf]; omega⟩
          · have h30I : decide ((n : Int) < 30) = false := by simp; omega
            have h30N : decide (n < 30) = false := by simp; omega
            have H7 : Hid ((wA (lm.take (j + 1))).1 = n ∧ AbT w (wr.alloc (.cells #[.int .u8 o.kind, .int .i64 o.b, .string o.data] 36)) tb pb db cs (wA (lm.take (j + 1))).2) := by
              rw [Hok.out.2, wS, if_neg (fun e => h30 (by rw [← HT.out.1]; exact e.1))]
              exact HT.out
            clear h30 HT
            go_wp2_with (first | ((with_reducible apply wpl_load_mid xg (xo + j * 3) [.int .u8 o.kind, .int .i64 o.b, .string o.data]); exact rfl; exact hro; exact Tryz.underlying36; exact rfl; exact sizePop; try (simp only [Act.put, List.setIfInBounds_toArray, List.set_cons_zero, List.set_cons_succ])) | ((with_reducible apply wpl_store_new); exact rfl; exact rfl; exact sizePop; exact rfl; exact rfl; try (simp only [Act.put, List.setIfInBounds_toArray, List.set_cons_zero, List.set_cons_succ])))
            exact ⟨⟨j + 1, n, by omega, rfl, by go_num, H7⟩, by simp [intOf]; omega⟩
        · obtain rfl : j = M := by omega
          have HR2 : Hid (AbT w wr tb pb db cs (wA lm).2) := by
            have := HR.out.2
            rwa [List.take_of_length_le (by rw [HM.out.2.1]; exact Nat.le_refl _)] at this
          clear HR
          rcases (by omega : k = 0 ∨ k = 1) with rfl | rfl
          · have hcs0 : [] = cs := HM.out.2.2.2.1
            subst hcs0
            go_wp2_with fail
            refine (HR2.out.commit (wA_len lm)).mono ?_
            rintro e w8 ⟨⟨a8, r8, rfl⟩, h8⟩
            dsimp only
            have H8 : Hid (AbP w w8 pb db (if 1 = 0 then [] else oneC (wA la).2)) := by
              rw [HM.out.2.2.1 trivial] at h8
              exact h8
            clear h8 HR2
            go_wp2_with fail
            exact ⟨⟨1, by omega, rfl, H8⟩, by simp [intOf]⟩
          · have hcs1 : oneC (wA la).2 = cs := HM.out.2.2.2.1
            go_wp2_with fail
            refine HR2.out.abort.mono ?_
            rintro e w8 ⟨rfl, h8⟩
            dsimp only
            have H8 : Hid (AbP w w8 pb db (if 2 = 0 then [] else oneC (wA la).2)) := by
              rw [hcs1.symm] at h8
              exact h8
            have hdn := AbP.done h8
            rw [HM.out.2.2.2.2] at hdn
            have Hdn := Lib.hid hdn
            clear h8 HR2 hdn hcs1
            go_wp2_with fail
            refine Hdn.out.mono ?_
            rintro e w9 ⟨rfl, rfl⟩
            dsimp only
            clear Hdn
            go_wp2_with fail
            exact ⟨⟨2, by omega, rfl, H8⟩, by simp [intOf]⟩
    · obtain rfl : k = 2 := by omega
      rw [show ((2 : Nat) : Int) = 2 from rfl]
      have hp2 : AbP w wr pb db (oneC (wA la).2) := HP.out
      obtain ⟨cs, hcs⟩ : ∃ cs, oneC (wA la).2 = cs := ⟨_, rfl⟩
      rw [hcs] at hp2
      have Hp2 := Lib.hid hp2
      have hsame : ∀ b : Int, atC ((oneC (rA la).2).take 1) b = atC cs b := fun b => by
        have h := both la
        rw [← hcs, oneC_same h.2.1 h.2.2.1 h.2.2.2.1 b]
      have Hsame := Lib.hid hsame
      clear HP hp2 hcs hsame
      go_wp2_with fail
      refine Hp2.out.all.mono ?_
      rintro e w9 ⟨x, c, rfl, hs, hu⟩
      dsimp only
      have H9 : Hid (Sees w9 1 (.slice x 40 c) 40 (strsV (allB cs 40)) ∧ Upd (fun _ => False) w w9) := ⟨hs, hu⟩
      clear hs hu Hp2
      go_upto_block 4 with (fail)
      have hR0 : AbR w9 ((w9.alloc (.cells #[.int .i64 40, .int .i64 39, .slice none 0 0] 48)).alloc (.cells #[.pointer (some ⟨w9.heap.size, 0, none⟩), .slice none 0 0] 51)) (w9.heap.size + 1) w9.heap.size [] (rA (la.take 0)).2 := by
        have ha : Upd (fun _ => False) w9 (w9.alloc (.cells #[.int .i64 40, .int .i64 39, .slice none 0 0] 48)) := (Upd.refl _ w9).alloc _
        have hb : Upd (fun _ => False) (w9.alloc (.cells #[.int .i64 40, .int .i64 39, .slice none 0 0] 48)) ((w9.alloc (.cells #[.int .i64 40, .int .i64 39, .slice none 0 0] 48)).alloc (.cells #[.pointer (some ⟨w9.heap.size, 0, none⟩), .slice none 0 0] 51)) := (Upd.refl _ _).alloc _
        have h1 : CellsA (w9.alloc (.cells #[.int .i64 40, .int .i64 39, .slice none 0 0] 48)) w9.heap.size 48 [.int .i64 (40 : Nat), .int .i64 (39 : Nat), .slice none 0 0] := CellsA.new w9 _ _
        have h2 := CellsA.new (w9.alloc (.cells #[.int .i64 40, .int .i64 39, .slice none 0 0] 48)) 51 [.pointer (some ⟨w9.heap.size, 0, none⟩), .slice none 0 0]
        have hsz : (w9.alloc (.cells #[.int .i64 40, .int .i64 39, .slice none 0 0] 48)).heap.size = w9.heap.size + 1 := by simp
        rw [hsz] at h2
        refine ⟨_, ((Rpg.new h1).upd hb (fun _ _ h => h)).tx h2 (by omega), ha.trans hb, fun q hq => ?_⟩
        rcases hq with e | e <;> omega
      have HR0 : Hid (AbR w9 ((w9.alloc (.cells #[.int .i64 40, .int .i64 39, .slice none 0 0] 48)).alloc (.cells #[.pointer (some ⟨w9.heap.size, 0, none⟩), .slice none 0 0] 51)) (w9.heap.size + 1) w9.heap.size [] (rA (la.take 0)).2) := hR0
      clear hR0
      generalize (w9.alloc (.cells #[.int .i64 40, .int .i64 39, .slice none 0 0] 48)).alloc (.cells #[.pointer (some ⟨w9.heap.size, 0, none⟩), .slice none 0 0] 51) = w10 at *
      generalize w9.heap.size + 1 = xk at *
      generalize w9.heap.size = rk at *
      go_cut [17, 18] (fun iv nv wr => Hid (AbR w9 wr xk rk [] (rA la).2))
      case first =>
        go_wp2_with fail
        go_loopw [17, 18] (fun iv nv wr => ∃ j n : Nat, j ≤ MA ∧ iv = .int .i64 j ∧ nv = .int .i64 n ∧ Hid ((rA (la.take j)).1 = n ∧ AbR w9 wr xk rk [] (rA (la.take j)).2)) (fun iv _ _ => MA - (intOf iv).toNat)
        case atStart => exact ⟨0, 0, by omega, rfl, rfl, rfl, HR0.out⟩
        case round =>
          clear HR0
          obtain ⟨j, n, hj, rfl, rfl, HR⟩ := hrel
          have hn30 : n ≤ 30 := by have h := both (la.take j); have h2 := h.2.2.2.2; rw [h.1, HR.out.1] at h2; exact h2
          have hn30I : (n : Int) ≤ 30 := by omega
          by_cases hlj : j < MA ∧ n < 30
          · have hljI : (j : Int) < (MA : Int) := by omega
            have hnI : (n : Int) < 30 := by omega
            have hn30' := hlj.2
            have hjl : j < la.length := by rw [HA.out.2]; exact hlj.1
            obtain ⟨o, ho⟩ : ∃ o, la[j] = o := ⟨_, rfl⟩
            have hol : o ∈ la := ho ▸ List.getElem_mem _
            obtain ⟨xg, xo, rfl, hr⟩ := pop_at HA.out.1.1 j hjl
            rw [ho] at hr
            have hro : wr.rangeAt xg (xo + j * 3) (popV o) := (H9.out.2.trans HR.out.2.upd0).range hr (fun h => h)
            have Hr9 : Hid (w9.rangeAt xg (xo + j * 3) (popV o)) := H9.out.2.range hr (fun h => h)
            have hok := HA.out.1.2.1 o hol
            have hst := rA_succ la j hjl
            rw [ho] at hst
            have Hok := Lib.hid (And.intro hok hst)
            have hc1 : wr.cell? ⟨xg, xo + j * 3 + 1, none⟩ = some (.int .i64 o.b) := hro 1 _ rfl
            have hc2 : wr.cell? ⟨xg, xo + j * 3 + 2, none⟩ = some (.string o.data) := hro 2 _ rfl
            clear hr hok hol ho hst hro
            go_wp2_with fail
            have HS : wr.drew.cell? ⟨xg, xo + j * 3 + 1, none⟩ = some (.int .i64 o.b) ∧ wr.drew.cell? ⟨xg, xo + j * 3 + 2, none⟩ = some (.string o.data) := ⟨hc1, hc2⟩
            refine wp_region_planD (fun u => u.cell? ⟨xg, xo + j * 3 + 1, none⟩ = some (.int .i64 o.b) ∧ u.cell? ⟨xg, xo + j * 3 + 2, none⟩ = some (.string o.data)) 13 [(0, true), (1, true), (2, true), (3, true), (4, true), (5, true), (6, true), (7, true), (8, true), (9, true), (10, true), (11, false), (12, true)] (by kernel_rfl) (by kernel_rfl) (fun d _ _ _ _ h => by cases d <;> exact h) HS ?_
            iterate 11 (first | (apply planD_held rfl rfl rfl (by simp) HS; (intro w' hS K hK; go_simp; exact hK)) | (apply planD_wanted rfl rfl rfl (by simp) HS; (intro w' hS K hK; go_simp; exact hK)))
            have hd : AbR w9 wr.drew xk rk [] (rA (la.take j)).2 := by
              obtain ⟨K, g1, g2, g3⟩ := HR.out.2
              exact ⟨K, g1.upd (Upd.refl (fun _ => False) wr).drew (fun _ _ h => h), g2.drew, g3⟩
            have Hw := Lib.hid (hd.put o Hok.out.1)
            have Hro : Hid (∀ w', AbR w9 w' xk rk [] (rA (la.take j)).2 ∨ AbR w9 w' xk rk [] (wrR (rA (la.take j)).2 o.b (dat o)) → w'.cell? ⟨xg, xo + j * 3 + 1, none⟩ = some (.int .i64 o.b) ∧ w'.cell? ⟨xg, xo + j * 3 + 2, none⟩ = some (.string o.data)) := by
              intro w' hw'
              have hu : Upd (fun _ => False) w9 w' := hw'.elim (fun h => h.upd0) (fun h => h.upd0)
              have h9 := Hr9.out
              have h := hu.range h9 (fun h => h)
              exact ⟨h 1 _ rfl, h 2 _ rfl⟩
            clear hd
            refine planD_op rfl rfl (fun K hK => ?_)
            go_simp
            refine Hw.out.mono ?_
            rintro e w7 ⟨r7, rfl, ⟨h1, rfl, h3⟩ | ⟨h1, rfl, h3⟩⟩
            · dsimp only
              have HS7 := Hro.out w7 (.inr h3)
              have H7 : Hid ((rA (la.take (j + 1))).1 = n + 1 ∧ AbR w9 w7 xk rk [] (rA (la.take (j + 1))).2) := by
                rw [Hok.out.2, rS, if_pos ⟨by rw [HR.out.1]; exact hn30', h1⟩]
                exact ⟨by rw [HR.out.1], h3⟩
              refine hK _ _ _ (fun u h => h) (fun _ => HS7) ?_
              clear hK h1 h3 Hw HR HS hc1 hc2 Hro
              try (simp only [Act.put, List.setIfInBounds_toArray, List.set_cons_zero, List.set_cons_succ])
              iterate 1 (first | (apply planD_held rfl rfl rfl (by simp) HS7; (intro w' hS K hK; go_simp; exact hK)) | (apply planD_wanted rfl rfl rfl (by simp) HS7; (intro w' hS K hK; go_simp; exact hK)))
              refine planD_nil ?_
              clear HS7
              go_wp2_with fail
              exact ⟨⟨j + 1, n + 1, by omega, by go_num, by go_num, H7⟩, by simp [intOf]; omega⟩
            · dsimp only
              have HS7 := Hro.out w7 (.inl h3)
              have H7 : Hid ((rA (la.take (j + 1))).1 = n ∧ AbR w9 w7 xk rk [] (rA (la.take (j + 1))).2) := by
                rw [Hok.out.2, rS, if_neg (fun e => h1 e.2)]
                exact ⟨HR.out.1, h3⟩
              refine hK _ _ _ (fun u h => h) (fun _ => HS7) ?_
              clear hK h1 h3 Hw HR HS hc1 hc2 Hro
              try (simp only [Act.put, List.setIfInBounds_toArray, List.set_cons_zero, List.set_cons_succ])
              iterate 1 (first | (apply planD_held rfl rfl rfl (by simp) HS7; (intro w' hS K hK; go_simp; exact hK)) | (apply planD_wanted rfl rfl rfl (by simp) HS7; (intro w' hS K hK; go_simp; exact hK)))
              refine planD_nil ?_
              clear HS7
              go_wp2_with fail
              exact ⟨⟨j + 1, n, by omega, by go_num, rfl, H7⟩, by simp [intOf]; omega⟩
          · have hcut : Hid (AbR w9 wr xk rk [] (rA la).2) := by
              by_cases hf : 30 ≤ n
              · rw [← rA_full la j (by rw [HR.out.1]; exact hf)]
                exact HR.out.2
              · have := HR.out.2
                rwa [List.take_of_length_le (by rw [HA.out.2]; omega)] at this
            clear HR
            rcases (by omega : (MA : Int) ≤ (j : Int) ∨ (j : Int) < (MA : Int) ∧ (30 : Int) ≤ (n : Int)) with h1 | ⟨h1, h2⟩
            · go_wp2_with fail
              go_meet
              exact hcut
            · go_wp2_with fail
              go_meet
              exact hcut
      case rest =>
        clear HR0
        have HC := hcut
        clear hcut
        go_wp2_with fail
        refine (HC.out.commit (rA_len la)).mono ?_
        rintro e w11 ⟨⟨a11, r11, rfl⟩, h11⟩
        dsimp only
        have H11 : Hid (AbQ w9 w11 xk rk (oneC (rA la).2)) := h11
        clear h11 HC
        go_wp2_with fail
        go_loopw [19] (fun iv wr => ∃ b : Nat, b ≤ 40 ∧ iv = .int .i64 b ∧ Hid (AbQ w9 wr xk rk (oneC (rA la).2))) (fun iv _ => 40 - (intOf iv).toNat)
        case atStart => exact ⟨0, by omega, rfl, H11⟩
        case round =>
          clear H11
          obtain ⟨b, hb, rfl, HR⟩ := hrel
          by_cases hbl : b < 40
          · have hbI : (b : Int) < 40 := by omega
            have hat := HR.out.at (b : Int)
            rw [Hsame.out] at hat
            obtain ⟨s, hs⟩ : ∃ s, strV (atC cs (b : Int)) = s := ⟨_, rfl⟩
            rw [hs] at hat
            have hsv : (strsV (allB cs 40))[b]? = some (.string s) := by
              rw [← hs]
              simp [strsV, allB, hbl]
            obtain ⟨_, _, hud, hxc⟩ := HR.out
            obtain ⟨g1, o1, rfl, hc1⟩ := (H9.out.1.upd hud (fun _ _ _ h => h)).one b hbl hsv
            clear hsv
            go_wp2_with fail
            have HS : wr.drew.cell? ⟨g1, o1 + b, none⟩ = some (.string s) ∧ wr.drew.cell? ⟨xk, 0, none⟩ = some (.pointer (some ⟨rk, 0, none⟩)) := ⟨hc1, hxc⟩
            have hat2 : Calls Tryz.prog 21 #[.pointer (some ⟨rk, 0, none⟩), .int .i64 (b : Int), .int .i64 1] wr.drew fun e w' => e = .returned (.string s) ∧ AbQ w9 w' xk rk (oneC (rA la).2) := by
              obtain ⟨K, g1, g2, g3⟩ := HR.out
              have hu := (Upd.refl (fun _ => False) wr).drew
              have h := AbQ.at (w := w9) (xb := xk) ⟨K, g1.upd hu (fun _ _ h => h), g2.drew, g3⟩ (b : Int)
              rwa [Hsame.out, hs] at h
            have Hat := Lib.hid hat2
            have Hc9 : Hid (∃ c9, w9.cell? ⟨g1, o1 + b, none⟩ = some c9 ∧ c9 = .string s) := by
              have hsv : (strsV (allB cs 40))[b]? = some (.string s) := by
                rw [← hs]
                simp [strsV, allB, hbl]
              obtain ⟨g, o, he, hc⟩ := H9.out.1.one b hbl hsv
              cases he
              exact ⟨_, hc, rfl⟩
            clear hat hat2 hs
            refine wp_region_planD (fun u => u.cell? ⟨g1, o1 + b, none⟩ = some (.string s) ∧ u.cell? ⟨xk, 0, none⟩ = some (.pointer (some ⟨rk, 0, none⟩))) 11 [(0, true), (1, true), (2, true), (3, true), (4, true), (5, true), (6, true), (7, true), (8, true), (9, false), (10, true)] (by kernel_rfl) (by kernel_rfl) (fun d _ _ _ _ h => by cases d <;> exact h) HS ?_
            iterate 9 (first | (apply planD_held rfl rfl rfl (by simp) HS; (intro w' hS K hK; go_simp; exact hK)) | (apply planD_wanted rfl rfl rfl (by simp) HS; (intro w' hS K hK; go_simp; exact hK)))
            refine planD_op rfl rfl (fun K hK => ?_)
            go_simp
            refine Hat.out.mono ?_
            rintro e w12 ⟨rfl, h12⟩
            dsimp only
            have H12 : Hid (AbQ w9 w12 xk rk (oneC (rA la).2)) := h12
            have HS2 : w12.cell? ⟨g1, o1 + b, none⟩ = some (.string s) ∧ w12.cell? ⟨xk, 0, none⟩ = some (.pointer (some ⟨rk, 0, none⟩)) := by
              obtain ⟨K, g1, g2, g3⟩ := h12
              obtain ⟨c9, hc9, rfl⟩ := Hc9.out
              exact ⟨g2.cell_some hc9 (fun h => h), g3⟩
            refine hK _ _ _ (fun u h => h) (fun _ => HS2) ?_
            clear hK h12 HS HR hud hxc hc1
            try (simp only [Act.put, List.setIfInBounds_toArray, List.set_cons_zero, List.set_cons_succ])
            iterate 1 (first | (apply planD_held rfl rfl rfl (by simp) HS2; (intro w' hS K hK; go_simp; exact hK)) | (apply planD_wanted rfl rfl rfl (by simp) HS2; (intro w' hS K hK; go_simp; exact hK)))
            refine planD_nil ?_
            clear HS2 Hat
            go_wp2_with fail
            exact ⟨⟨b + 1, by omega, by go_num, H12⟩, by simp [intOf]; omega⟩
          · obtain rfl : b = 40 := by omega
            obtain ⟨_, _, hud, _⟩ := HR.out
            go_wp2_with fail
            go_ret
            exact ⟨rfl, (H9.out.2.trans hud).below0⟩
end Go.Proofs.YtihlijnobbonbaaGreat
