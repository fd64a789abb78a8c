/- WholeGuard: the walk. -/
import Derived.Test.YtbhmeagliebfdaaDoorGc10
namespace Go.Proofs.YtbhmeagliebfdaaDoor
open Go Go.RowKit
set_option linter.unusedSimpArgs false
set_option linter.unusedVariables false
set_option maxRecDepth 100000
/-- What the law is handed. -/
structure DIn (w : World) (rs : List LkR) (x : Option Addr) (n c : Nat) (p : List By) (y : Option Addr) (m d : Nat) : Prop where
  locks : LocksAt w x n c rs
  path : Sees w 1 (.slice y m d) m (strsV p)
  glob : Glob w
  big : 3 ≤ w.heap.size
  small : ∀ r ∈ rs, r.l.tok.length ≤ maxLen ∧ (∀ s ∈ r.l.path, s.length ≤ maxLen) ∧ r.l.owner.length ≤ maxLen
theorem DIn.upd {w w' : World} {rs : List LkR} {x : Option Addr} {n c : Nat} {p : List By} {y : Option Addr} {m d : Nat} (h : DIn w rs x n c p y m d) (hu : Upd (fun _ => False) w w') : DIn w' rs x n c p y m d :=
  ⟨h.locks.upd hu, Sees.upd hu h.path (fun _ _ _ h => h), h.glob.upd hu, Nat.le_trans h.big hu.size, h.small⟩
theorem bs_app (a b : By) : bs a ++ bs b = bs (a ++ b) := by
  apply ByteArray.ext
  simp [bs, ByteArray.data_append]
theorem head_snoc (ls : List Lk) (l : Lk) : headP (ls ++ [l]) = headP ls ++ oneH l := by simp [headP]
theorem str_one (S : By) (l : Lk) : bs S ++ ((((⟨#[60]⟩ : ByteArray) ++ bs (textP l.path)) ++ ⟨#[62, 32, 40, 60]⟩ ++ bs l.tok) ++ ⟨#[62, 41, 32]⟩) = bs (S ++ oneH l) := by
  have e1 : (⟨#[60]⟩ : ByteArray) = bs [60] := rfl
  have e2 : (⟨#[62, 32, 40, 60]⟩ : ByteArray) = bs [62, 32, 40, 60] := rfl
  have e3 : (⟨#[62, 41, 32]⟩ : ByteArray) = bs [62, 41, 32] := rfl
  rw [e1, e2, e3, bs_app, bs_app, bs_app, bs_app, bs_app]
  congr 2
  simp [oneH]
theorem good_len {l : Lk} (h : goodP l = true) : (oneH l).length ≤ 2500 := by
  obtain ⟨h1, h2⟩ := good_parts h
  have ht := (tok_fine h1).2.1
  have hp := pathP_mem h2
  have hx : (textP l.path).length ≤ 2400 := by
    unfold textP
    rw [if_pos h2]
    split
    · decide
    · have := flat_seg_len l.path (fun s hs => (hp.2 s hs).2)
      omega
  unfold oneH
  simp only [List.length_cons, List.length_append, List.length_nil]
  omega
theorem head_len : ∀ (ls : List Lk), (∀ l ∈ ls, goodP l = true) → (headP ls).length ≤ 2500 * ls.length
  | [], _ => by simp [headP]
  | l :: ls, h => by
    have h1 := good_len (h l (List.mem_cons_self ..))
    have h2 := head_len ls (fun k hk => h k (List.mem_cons_of_mem _ hk))
    rw [headP, List.flatMap_cons, List.length_append, List.length_cons]
    unfold headP at h2
    omega
/-- Facts as they are gathered. -/
def FMR (w : World) (fx : Option Addr) (fn fc : Nat) (frs : List FctR) (wr : World) : Prop :=
  Mid wr 3 (.slice fx fn fc) fn (frs.flatMap fctV) ∧ Whole wr 3 (.slice fx fn fc) ∧ (∀ q, (Value.slice fx fn fc).ownBlock = some q → w.heap.size ≤ q) ∧ Upd (fun _ => False) w wr ∧ frs.length = fn ∧
    ∀ fr ∈ frs, Sees w 1 (.slice fr.xp fr.f.path.length fr.cp) fr.f.path.length (strsV fr.f.path) ∧ Sees wr 1 (.slice fr.xt fr.f.toks.length fr.ct) fr.f.toks.length (strsV fr.f.toks) ∧
      ∀ q, (Value.slice fr.xt fr.f.toks.length fr.ct).ownBlock = some q → 0 < fr.f.toks.length → (Value.slice fx fn fc).ownBlock ≠ some q
theorem FMR.upd {w wr w' : World} {fx : Option Addr} {fn fc : Nat} {frs : List FctR} (h : FMR w fx fn fc frs wr) (hu : Upd (fun _ => False) wr w') : FMR w fx fn fc frs w' :=
  ⟨h.1.upd hu (fun _ _ h => h), h.2.1.upd hu (fun _ _ h => h) h.1.lt, h.2.2.1, h.2.2.2.1.trans hu, h.2.2.2.2.1, fun fr hf => ⟨(h.2.2.2.2.2 fr hf).1, Sees.upd hu (h.2.2.2.2.2 fr hf).2.1 (fun _ _ _ h => h), (h.2.2.2.2.2 fr hf).2.2⟩⟩
theorem FMR.upd' {F : Nat → Prop} {w wr w' : World} {fx : Option Addr} {fn fc : Nat} {frs : List FctR} (h : FMR w fx fn fc frs wr) (hu : Upd F wr w') (hF : ∀ q, F q → wr.heap.size ≤ q) : FMR w fx fn fc frs w' := by
  have hn : ∀ q, (Value.slice fx fn fc).ownBlock = some q → ¬ F q := fun q hq e => by have := h.1.lt q hq; have := hF q e; omega
  refine ⟨h.1.upd hu hn, h.2.1.upd hu hn h.1.lt, h.2.2.1, h.2.2.2.1.then hu (fun q hq => .inr (Nat.le_trans h.2.2.2.1.size (hF q hq))), h.2.2.2.2.1, fun fr hf => ⟨(h.2.2.2.2.2 fr hf).1, Sees.upd hu (h.2.2.2.2.2 fr hf).2.1 (fun q hq h0 e => ?_), (h.2.2.2.2.2 fr hf).2.2⟩⟩
  obtain ⟨q2, hq2, hl⟩ := sees_own (h.2.2.2.2.2 fr hf).2.1 (by decide) h0
  rw [hq] at hq2
  cases hq2
  have := hF q e
  omega
theorem infoFct : (Tryd.prog.info? 31).map (fun i => (i.zero, i.size, i.bytes)) = some (some (.agg #[.slice none 0 0, .string .empty, .slice none 0 0]), 3, 64) := by kernel_rfl
theorem FMR.facts {w wr : World} {fx : Option Addr} {fn fc : Nat} {frs : List FctR} (h : FMR w fx fn fc frs wr) : FactsAt wr fx fn fc frs :=
  ⟨h.1.sees, fun fr hf => ⟨Sees.upd h.2.2.2.1 (h.2.2.2.2.2 fr hf).1 (fun _ _ _ h => h), (h.2.2.2.2.2 fr hf).2.1⟩⟩
/-- One more. -/
theorem FMR.snoc {w wr w' : World} {fx fx' : Option Addr} {fn fc fc' : Nat} {frs : List FctR} {fr : FctR} (h : FMR w fx fn fc frs wr) (hm : Mid w' 3 (.slice fx' (fn + 1) fc') (fn + 1) (frs.flatMap fctV ++ fctV fr)) (hw : Whole w' 3 (.slice fx' (fn + 1) fc'))
    (hb : (Value.slice fx' (fn + 1) fc').ownBlock = (Value.slice fx fn fc).ownBlock ∨ ∃ q, (Value.slice fx' (fn + 1) fc').ownBlock = some q ∧ wr.heap.size ≤ q) (hu : Upd (fun q => (Value.slice fx fn fc).ownBlock = some q) wr w')
    (h1 : Sees w 1 (.slice fr.xp fr.f.path.length fr.cp) fr.f.path.length (strsV fr.f.path)) (h2 : Sees wr 1 (.slice fr.xt fr.f.toks.length fr.ct) fr.f.toks.length (strsV fr.f.toks))
    (h3 : ∀ q, (Value.slice fr.xt fr.f.toks.length fr.ct).ownBlock = some q → 0 < fr.f.toks.length → (Value.slice fx fn fc).ownBlock ≠ some q) : FMR w fx' (fn + 1) fc' (frs ++ [fr]) w' := by
  have hz := h.2.2.2.1.size
  have key : ∀ k : FctR, Sees wr 1 (.slice k.xt k.f.toks.length k.ct) k.f.toks.length (strsV k.f.toks) → (∀ q, (Value.slice k.xt k.f.toks.length k.ct).ownBlock = some q → 0 < k.f.toks.length → (Value.slice fx fn fc).ownBlock ≠ some q) →
      Sees w' 1 (.slice k.xt k.f.toks.length k.ct) k.f.toks.length (strsV k.f.toks) ∧ ∀ q, (Value.slice k.xt k.f.toks.length k.ct).ownBlock = some q → 0 < k.f.toks.length → (Value.slice fx' (fn + 1) fc').ownBlock ≠ some q := fun k hs hn => by
    refine ⟨Sees.upd hu hs (fun q hq h0 e => hn q hq h0 e), fun q hq h0 e => ?_⟩
    rcases hb with hb | ⟨q2, hb, hge⟩
    · exact hn q hq h0 (hb ▸ e)
    · obtain ⟨q3, hq3, hl3⟩ := sees_own hs (by decide) h0
      rw [hq] at hq3
      cases hq3
      rw [e] at hb
      cases hb
      omega
  refine ⟨by rw [List.flatMap_append, List.flatMap_cons, List.flatMap_nil, List.append_nil]; exact hm, hw, fun q hq => ?_, h.2.2.2.1.then hu (fun q hq => .inr (h.2.2.1 q hq)), by rw [List.length_append, h.2.2.2.2.1]; rfl, fun k hk => ?_⟩
  · rcases hb with hb | ⟨q2, hb, hge⟩
    · exact h.2.2.1 q (hb ▸ hq)
    · rw [hq] at hb
      cases hb
      omega
  · rcases List.mem_append.1 hk with hk | hk
    · exact ⟨(h.2.2.2.2.2 k hk).1, key k (h.2.2.2.2.2 k hk).2.1 (h.2.2.2.2.2 k hk).2.2⟩
    · rw [List.mem_singleton] at hk
      subst hk
      exact ⟨h1, key k h2 h3⟩
/-- A fact's tokens as they are gathered. -/
def TkR (wr : World) (fb : Nat) (px : Option Addr) (pm pd : Nat) (tx : Option Addr) (tn tc : Nat) (toks : List By) (wq : World) : Prop :=
  CellsA wq fb 31 [.slice px pm pd, .string ⟨#[]⟩, .slice tx tn tc] ∧ Mid wq 1 (.slice tx tn tc) tn (strsV toks) ∧ Whole wq 1 (.slice tx tn tc) ∧ (∀ q, (Value.slice tx tn tc).ownBlock = some q → wr.heap.size ≤ q ∧ fb < q) ∧ Upd (fun q => q = fb) wr wq ∧ toks.length = tn
theorem TkR.upd {wr wq w' : World} {fb : Nat} {px : Option Addr} {pm pd : Nat} {tx : Option Addr} {tn tc : Nat} {toks : List By} (h : TkR wr fb px pm pd tx tn tc toks wq) (hu : Upd (fun _ => False) wq w') : TkR wr fb px pm pd tx tn tc toks w' :=
  ⟨h.1.upd hu (fun h => h), h.2.1.upd hu (fun _ _ h => h), h.2.2.1.upd hu (fun _ _ h => h) h.2.1.lt, h.2.2.2.1, h.2.2.2.2.1.trans (hu.mono (fun _ _ h => h.elim)), h.2.2.2.2.2⟩
theorem factsP_len (ls : List Lk) (p : List By) : (factsP ls p).length = ls.length + 1 := by simp [factsP]
theorem factsP_at (ls : List Lk) (p : List By) (i : Nat) (hi : i < (factsP ls p).length) : (factsP ls p)[i] = factOf ls (if h : i < ls.length then ls[i].path else p) := by
  unfold factsP at hi ⊢
  by_cases h : i < ls.length
  · rw [List.getElem_append_left (by simpa using h), List.getElem_map, dif_pos h]
  · rw [List.getElem_append_right (by simpa using h), dif_neg h]
    simp
set_option maxHeartbeats 16000000 in
theorem guard_ok {w : World} {rs : List LkR} {x : Option Addr} {n c : Nat} {p : List By} {y : Option Addr} {m d : Nat} (h : DIn w rs x n c p y m d) (hd : By) (hhd : hd.length ≤ 100000000) :
    Calls Tryd.prog 3 #[.slice x n c, .slice y m d, .string (bs hd)] w fun e w' => e = .returned (.bool true) ∧ Upd (fun _ => False) w w' := by
  have hfr := frees_ok h.glob h.big
  have hlen := h.locks.len
  have hnI : (n : Int) ≤ 9223372036854775807 := by have := h.locks.1.2.1; unfold maxLen at this; omega
  obtain ⟨HD, hHD⟩ : ∃ HD, bs hd = HD := ⟨_, rfl⟩
  rw [hHD]
  have H := Lib.hid (And.intro hfr (And.intro h (And.intro hlen (And.intro hhd hHD))))
  clear hfr h hlen hhd hHD
  by_cases h60 : 60 < n
  · have h60I : (60 : Int) < (n : Int) := by omega
    go_enter Tryd.func3, Tryd.ntmps3
    go_wp2_with fail
    refine H.out.1.mono ?_
    rintro e w1 ⟨rfl, hu1⟩
    dsimp only
    have HU := Lib.hid hu1
    go_wp2_with fail
    refine (frees_ok (H.out.2.1.glob.upd hu1) (Nat.le_trans H.out.2.1.big hu1.size)).mono ?_
    rintro e w2 ⟨rfl, hu2⟩
    dsimp only
    have HU2 := Lib.hid (hu1.trans hu2)
    clear hu1 hu2 HU
    go_wp2_with fail
    go_ret
    exact ⟨rfl, HU2.out⟩
  have h60I : ¬ ((60 : Int) < (n : Int)) := by omega
  go_enter Tryd.func3, Tryd.ntmps3
  go_wp2_with fail
  refine H.out.1.mono ?_
  rintro e w1 ⟨rfl, hu1⟩
  dsimp only
  have H1 := Lib.hid (And.intro hu1 (H.out.2.1.upd hu1))
  clear hu1
  go_upto_block 0 with (fail)
  go_cut [8, 9] (fun sv iv w' => sv = .string (bs (headP (rs.map (·.l)))) ∧ Hid (Upd (fun _ => False) w w' ∧ ∀ r ∈ rs, goodP r.l = true))
  case first =>
    go_wp2_with fail
    go_loopw [8, 9] (fun sv iv wr => ∃ (i : Nat) (S : By), i ≤ n ∧ sv = .string (bs S) ∧ iv = .int .i64 i ∧ Hid (Upd (fun _ => False) w1 wr ∧ S = headP ((rs.take i).map (·.l)) ∧ ∀ r ∈ rs.take i, goodP r.l = true)) (fun _ iv _ => n - (intOf iv).toNat)
    case atStart => exact ⟨0, [], Nat.zero_le _, rfl, rfl, Lib.hid ⟨Upd.refl _ _, rfl, (fun r hr => by cases hr)⟩⟩
    case round =>
      obtain ⟨i, S, hi, rfl, rfl, HR⟩ := hrel
      by_cases hlt : i < n
      · have hltI : (i : Int) < (n : Int) := by omega
        have hil : i < rs.length := by rw [H.out.2.2.1]; exact hlt
        have hD := H1.out.2.upd HR.out.1
        obtain ⟨g, o, rfl, hrg, hsp⟩ := hD.locks.at i hil
        have htk : rs.take (i + 1) = rs.take i ++ [rs[i]] := List.take_succ_eq_append_getElem hil
        have hmem : rs[i] ∈ rs := List.getElem_mem hil
        obtain ⟨r, hr⟩ : ∃ r, rs[i] = r := ⟨_, rfl⟩
        rw [hr] at hrg hsp htk hmem
        have hsm := hD.small r hmem
        have hlg := lgood_ok r hsm.1 hsm.2.1 hsm.2.2 hD.glob hsp
        obtain ⟨B, hB⟩ : ∃ B, goodP r.l = B := ⟨_, rfl⟩
        rw [hB] at hlg
        have H2 := Lib.hid (And.intro hlg (And.intro htk (And.intro hsp (And.intro hD.glob (And.intro hB HR.out)))))
        have hrg0 : Hid (wr.rangeAt g (o + i * 6) (lkV r)) := Lib.hid hrg
        clear hlg htk hsp hmem hsm hr hD hB HR
        simp only [lkV] at hrg H2
        go_wp2_with ((with_reducible apply wpl_load_mid g (o + i * 6) [.string (bs r.l.tok), .slice r.xp r.l.path.length r.cp, .bool r.l.deep, .bool r.l.excl, .string (bs r.l.owner), .int .i64 r.l.til]); exact rfl; exact hrg; exact Tryd.underlying28; exact rfl; exact sizeLk; try (simp only [Act.put, List.setIfInBounds_toArray, List.set_cons_zero, List.set_cons_succ]))
        refine H2.out.1.mono ?_
        rintro e w2 ⟨rfl, hu2⟩
        dsimp only
        cases B
        · have HU : Hid (Upd (fun _ => False) w w2) := Lib.hid ((H1.out.1.trans H2.out.2.2.2.2.2.1).trans hu2)
          clear H2 hu2 hrg hrg0
          go_wp2_with fail
          go_ret
          exact ⟨rfl, HU.out⟩
        · have hpg := (good_parts H2.out.2.2.2.2.1).2
          have htx := text_ok (Sees.upd (F := fun _ => False) hu2.drew H2.out.2.2.1 (fun _ _ _ h => h)) hpg (H2.out.2.2.2.1.upd hu2.drew)
          have HS : w2.drew.cell? ⟨g, o + i * 6 + 1, none⟩ = some (.slice r.xp r.l.path.length r.cp) ∧ w2.drew.cell? ⟨g, o + i * 6, none⟩ = some (.string (bs r.l.tok)) := ⟨(hu2.range hrg0.out (fun h => h)) 1 _ rfl, (hu2.range hrg0.out (fun h => h)) 0 _ rfl⟩
          have hso := str_one S r.l
          have hsz1 : (bs r.l.tok).size ≤ 2500 := by
            rw [bs_size]
            have := (tok_fine (good_parts H2.out.2.2.2.2.1).1).2.1
            omega
          have hsz2 : (bs S).size ≤ 150000 := by
            rw [bs_size, H2.out.2.2.2.2.2.2.1]
            have h1 := head_len ((rs.take i).map (·.l)) (fun l hl => by
              obtain ⟨k, hk, rfl⟩ := List.mem_map.1 hl
              exact H2.out.2.2.2.2.2.2.2 k hk)
            rw [List.length_map, List.length_take] at h1
            have : min i rs.length ≤ 60 := by omega
            omega
          have H3 := Lib.hid (And.intro htx (And.intro hso (And.intro hu2 (And.intro H2.out.2.1 (And.intro H2.out.2.2.1 (And.intro H2.out.2.2.2.1 (And.intro H2.out.2.2.2.2.1 (And.intro H2.out.2.2.2.2.2.1 (And.intro H2.out.2.2.2.2.2.2 (And.intro hsz2 hsz1))))))))))
          clear htx hso hu2 H2 hrg hrg0 hpg hsz1 hsz2
          generalize bs S = SB at H3 ⊢
          generalize bs r.l.tok = TB at H3 HS ⊢
          go_wp2_with fail
          refine wp_region_planD (fun u => u.cell? ⟨g, o + i * 6 + 1, none⟩ = some (.slice r.xp r.l.path.length r.cp) ∧ u.cell? ⟨g, o + i * 6, none⟩ = some (.string TB)) 18 [(0, true), (1, true), (2, true), (3, true), (4, true), (5, true), (9, true), (10, true), (11, true), (12, true), (13, true), (6, false), (7, true), (8, true), (14, true), (15, true), (16, true), (17, true)] (by kernel_rfl) (by kernel_rfl) (fun d _ _ _ _ h => by cases d <;> exact h) HS ?_
          iterate 11 (first | (apply planD_held rfl rfl rfl (by simp) HS; (intro w' hS K hK; go_simp; exact hK)) | (apply planD_wanted rfl rfl rfl (by simp) HS; (intro w' hS K hK; go_simp; exact hK)))
          refine planD_op rfl rfl (fun KK hK => ?_)
          go_simp
          refine H3.out.1.mono ?_
          rintro e w3 ⟨rfl, hu3⟩
          dsimp only
          have HS3 : w3.cell? ⟨g, o + i * 6 + 1, none⟩ = some (.slice r.xp r.l.path.length r.cp) ∧ w3.cell? ⟨g, o + i * 6, none⟩ = some (.string TB) := ⟨hu3.cell_some HS.1 (fun h => h), hu3.cell_some HS.2 (fun h => h)⟩
          refine hK _ _ _ (fun u h => h) (fun _ => HS3) ?_
          have HU : Hid (Upd (fun _ => False) w1 w3) := Lib.hid ((H3.out.2.2.2.2.2.2.2.1.trans H3.out.2.2.1.drew).trans hu3)
          clear hK HS hu3
          try (simp only [Act.put, List.setIfInBounds_toArray, List.set_cons_zero, List.set_cons_succ])
          have z1 : (bs (textP r.l.path)).size ≤ 2500 := by
            rw [bs_size]
            have := good_len H3.out.2.2.2.2.2.2.1
            unfold oneH at this
            simp only [List.length_cons, List.length_append] at this
            omega
          have z2 := H3.out.2.2.2.2.2.2.2.2.2.2
          have z3 := H3.out.2.2.2.2.2.2.2.2.2.1
          generalize bs (textP r.l.path) = XB at H3 z1 ⊢
          have q1 : ¬ 9223372036854775807 < 1 + XB.size := by omega
          have q2 : ¬ 9223372036854775807 < 1 + XB.size + 4 := by omega
          have q3 : ¬ 9223372036854775807 < 1 + XB.size + 4 + TB.size := by omega
          have q4 : ¬ 9223372036854775807 < 1 + XB.size + 4 + TB.size + 3 := by omega
          have q5 : ¬ 9223372036854775807 < SB.size + (1 + XB.size + 4 + TB.size + 3) := by omega
          clear z1 z2 z3
          iterate 6 (first | (apply planD_held rfl rfl rfl (by simp) HS3; (intro w' hS K hK; go_simp; exact hK)) | (apply planD_wanted rfl rfl rfl (by simp) HS3; (intro w' hS K hK; go_simp; exact hK)))
          refine planD_nil ?_
          have HJ : Hid (Upd (fun _ => False) w1 w3 ∧ S ++ oneH r.l = headP ((rs.take (i + 1)).map (·.l)) ∧ ∀ k ∈ rs.take (i + 1), goodP k.l = true) := Lib.hid ⟨HU.out, by
            rw [H3.out.2.2.2.1, List.map_append, List.map_cons, List.map_nil, head_snoc, ← H3.out.2.2.2.2.2.2.2.2.1.1], fun k hk => by
            rw [H3.out.2.2.2.1] at hk
            rcases List.mem_append.1 hk with hk | hk
            · exact H3.out.2.2.2.2.2.2.2.2.1.2 k hk
            · rw [List.mem_singleton] at hk
              subst hk
              exact H3.out.2.2.2.2.2.2.1⟩
          rw [H3.out.2.1]
          clear H3 HU HS3 q1 q2 q3 q4 q5
          go_wp2_with fail
          exact ⟨⟨i + 1, S ++ oneH r.l, by omega, rfl, by go_num, HJ⟩, by simp [intOf] <;> omega⟩
      · obtain rfl : i = n := by omega
        have hs := HR.out
        rw [List.take_of_length_le (by rw [H.out.2.2.1]; exact Nat.le_refl _)] at hs
        have hse : S = headP (rs.map (·.l)) := hs.2.1
        have HF := Lib.hid (And.intro (H1.out.1.trans hs.1) hs.2.2)
        clear hs HR
        subst hse
        go_wp2_with fail
        go_meet
        exact ⟨rfl, HF⟩
  case rest =>
    obtain ⟨wb, rfl⟩ : ∃ u, u = wc := ⟨_, rfl⟩
    obtain ⟨rfl, HC⟩ := hcut
    have hD := H.out.2.1.upd HC.out.1
    have H2 := Lib.hid (And.intro HC.out.1 (And.intro HC.out.2 (And.intro hD H.out.2.2)))
    clear H1 HC hD
    generalize hsb : bs (headP (rs.map (·.l))) = SB
    have Hsb := Lib.hid hsb
    clear hsb
    go_upto_block 2 with (fail)
    go_cut [7, 10] (fun fv iv w' => ∃ (fx : Option Addr) (fn fc : Nat), fv = .slice fx fn fc ∧ Hid (∃ frs, FactsAt w' fx fn fc frs ∧ frs.map (·.f) = factsP (rs.map (·.l)) p ∧ Upd (fun _ => False) w w'))
    case first =>
      go_wp2_with fail
      have hw0 := H2.out.2.2.1
      go_loopw [7, 10] (fun fv iv wr => ∃ (i : Nat) (fx : Option Addr) (fn fc : Nat), i ≤ n + 1 ∧ fv = .slice fx fn fc ∧ iv = .int .i64 i ∧ fn = i ∧ Hid (∃ frs, FMR wb fx fn fc frs wr ∧ frs.map (·.f) = (factsP (rs.map (·.l)) p).take i)) (fun _ iv _ => n + 1 - (intOf iv).toNat)
      case atStart => exact ⟨0, none, 0, 0, Nat.zero_le _, rfl, rfl, rfl, Lib.hid ⟨[], ⟨Mid.nil _ _, Whole.nil _ _, (fun q hq => by cases hq), Upd.refl _ _, rfl, (fun fr hf => by cases hf)⟩, by simp⟩⟩
      case round =>
        clear hw0
        obtain ⟨i, fx, fn, fc, hi, rfl, rfl, rfl, HR⟩ := hrel
        by_cases hle : fn ≤ n
        · have hleI : (fn : Int) ≤ (n : Int) := by omega
          have hfnI : (fn : Int) ≤ 60 := by omega
          have hcs := CellsA.new wr 31 [.slice y m d, .string ⟨#[]⟩, .slice none 0 0]
          have hal : Upd (fun _ => False) wr (wr.alloc (.cells #[.slice y m d, .string ⟨#[]⟩, .slice none 0 0] 31)) := (Upd.refl _ wr).alloc _
          have HA := Lib.hid (And.intro hcs hal)
          clear hcs hal
          obtain ⟨fb, hfb⟩ : ∃ fb, wr.heap.size = fb := ⟨_, rfl⟩
          go_upto_if 68 with ((with_reducible apply wpl_store_new); exact rfl; exact rfl; exact sizeFct; exact rfl; exact rfl; try (simp only [Act.put, List.setIfInBounds_toArray, List.set_cons_zero, List.set_cons_succ]))
          go_cut [] (fun w' => Hid (∃ (px : Option Addr) (pm pd : Nat) (fp : List By), CellsA w' wr.heap.size 31 [.slice px pm pd, .string ⟨#[]⟩, .slice none 0 0] ∧ Sees wb 1 (.slice px pm pd) pm (strsV fp) ∧ (∃ hi, (factsP (rs.map (·.l)) p)[fn]'hi = factOf (rs.map (·.l)) fp) ∧ Upd (fun _ => False) wr w'))
          case first =>
            by_cases hlt : fn < n
            · have hltI : (fn : Int) < (n : Int) := by omega
              have hil : fn < rs.length := by have := H2.out.2.2.2.1; omega
              have hD0 := H2.out.2.2.1
              obtain ⟨frs, hF, -⟩ := HR.out
              have hD := hD0.upd (hF.2.2.2.1.trans HA.out.2)
              obtain ⟨g, o, rfl, hrg, -⟩ := hD.locks.at fn hil
              have hsp0 := hD0.locks.2 _ (List.getElem_mem hil)
              have hat : ∃ hi, (factsP (rs.map (·.l)) p)[fn]'hi = factOf (rs.map (·.l)) rs[fn].l.path := ⟨by rw [factsP_len, List.length_map]; omega, by
                rw [factsP_at, dif_pos (by rw [List.length_map]; exact hil), List.getElem_map]⟩
              obtain ⟨r, hr⟩ : ∃ r, rs[fn] = r := ⟨_, rfl⟩
              rw [hr] at hrg hsp0 hat
              have hcp : (wr.alloc (.cells #[.slice y m d, .string ⟨#[]⟩, .slice none 0 0] 31)).cell? ⟨g, o + fn * 6 + 1, none⟩ = some (.slice r.xp r.l.path.length r.cp) := hrg 1 _ rfl
              have hf0 := HA.out.1.cell 0
              have hz0 := HA.out.1.frozen 0
              simp only [List.getElem?_cons_zero] at hf0
              have hres : Hid (∃ (px : Option Addr) (pm pd : Nat) (fp : List By), CellsA (wr.alloc (.cells #[.slice r.xp r.l.path.length r.cp, .string ⟨#[]⟩, .slice none 0 0] 31)) wr.heap.size 31 [.slice px pm pd, .string ⟨#[]⟩, .slice none 0 0] ∧ Sees wb 1 (.slice px pm pd) pm (strsV fp) ∧ (∃ hi, (factsP (rs.map (·.l)) p)[fn]'hi = factOf (rs.map (·.l)) fp) ∧ Upd (fun _ => False) wr (wr.alloc (.cells #[.slice r.xp r.l.path.length r.cp, .string ⟨#[]⟩, .slice none 0 0] 31))) := Lib.hid ⟨r.xp, r.l.path.length, r.cp, r.l.path, CellsA.new wr 31 [.slice r.xp r.l.path.length r.cp, .string ⟨#[]⟩, .slice none 0 0], hsp0, hat, (Upd.refl _ wr).alloc _⟩
              clear hil hD0 hF hD hrg hsp0 hat hr HA HR
              go_wp2_with fail
              go_meet
              first
              | exact hres
              | (rw [hfb] at hres ⊢; exact hres)
              | (rw [← hfb]; exact hres)
            · have hltI : ¬ ((fn : Int) < (n : Int)) := by omega
              have hres : Hid (∃ (px : Option Addr) (pm pd : Nat) (fp : List By), CellsA (wr.alloc (.cells #[.slice y m d, .string ⟨#[]⟩, .slice none 0 0] 31)) wr.heap.size 31 [.slice px pm pd, .string ⟨#[]⟩, .slice none 0 0] ∧ Sees wb 1 (.slice px pm pd) pm (strsV fp) ∧ (∃ hi, (factsP (rs.map (·.l)) p)[fn]'hi = factOf (rs.map (·.l)) fp) ∧ Upd (fun _ => False) wr (wr.alloc (.cells #[.slice y m d, .string ⟨#[]⟩, .slice none 0 0] 31))) := Lib.hid ⟨y, m, d, p, HA.out.1, H2.out.2.2.1.path, ⟨by rw [factsP_len, List.length_map]; have := H2.out.2.2.2.1; omega, by
                rw [factsP_at, dif_neg (by rw [List.length_map]; have := H2.out.2.2.2.1; omega)]⟩, HA.out.2⟩
              go_wp2_with fail
              go_meet
              exact hres
          case rest =>
            obtain ⟨wd, rfl⟩ : ∃ u, u = wc := ⟨_, rfl⟩
            obtain ⟨we, rfl⟩ : ∃ u, u = wr := ⟨_, rfl⟩
            obtain ⟨px, pm, pd, fp, hcs, hsp, hat, hu⟩ := hcut.out
            have hpm := sees_len hsp
            subst hpm
            have hlt := hcs.lt
            have hbf : wb.heap.size ≤ we.heap.size := by
              obtain ⟨frs, h1, h2⟩ := HR.out
              exact h1.2.2.2.1.size
            rw [hfb] at hcs hlt hbf
            have HT0 : Hid (∃ toks, TkR wd fb px fp.length pd none 0 0 toks wd ∧ toks = (((rs.map (·.l)).take 0).filter fun l => coversP l fp).map (·.tok)) := Lib.hid ⟨[], ⟨hcs, Mid.nil _ _, Whole.nil _ _, (fun q hq => by cases hq), Upd.refl _ _, rfl⟩, by simp⟩
            have H3 := Lib.hid (And.intro hsp (And.intro hat (And.intro hlt (And.intro hbf (And.intro hu (And.intro hfb HR.out))))))
            clear hbf hcs hsp hat hlt hu hcut HR hfb HA
            go_wp2_with fail
            go_loopw [12] (fun kv wq => ∃ (k : Nat) (tx : Option Addr) (tn tc : Nat), k ≤ n ∧ tn ≤ k ∧ kv = .int .i64 k ∧ Hid (∃ toks, TkR wd fb px fp.length pd tx tn tc toks wq ∧ toks = (((rs.map (·.l)).take k).filter fun l => coversP l fp).map (·.tok))) (fun kv _ => n - (intOf kv).toNat)
            case atStart => exact ⟨0, none, 0, 0, Nat.zero_le _, Nat.le_refl _, rfl, HT0⟩
            case round =>
              clear HT0
              obtain ⟨k, tx, tn, tc, hk, htn, rfl, HT⟩ := hrel
              by_cases hkn : k < n
              · have hkI : (k : Int) < (n : Int) := by omega
                have hkl : k < rs.length := by have := H2.out.2.2.2.1; omega
                obtain ⟨toks, hT, htk⟩ := HT.out
                obtain ⟨frs, hF, _⟩ := H3.out.2.2.2.2.2.2
                have hD0 := H2.out.2.2.1
                have hub : Upd (fun _ => False) wb wr := (hF.2.2.2.1.trans H3.out.2.2.2.2.1).then hT.2.2.2.2.1 (fun q hq => .inr (by have := H3.out.2.2.2.1; omega))
                obtain ⟨g, o, rfl, hrg, hsl⟩ := ((hD0.upd hub).locks).at k hkl
                have hgl : g < fb := by
                  obtain ⟨g', o', e, hrg', _⟩ := hD0.locks.at k hkl
                  cases e
                  exact Nat.lt_of_lt_of_le (World.block_lt_of_cell? wb ⟨g, o + k * 6 + 0, none⟩ (hrg' 0 _ rfl)) H3.out.2.2.2.1
                have hfl : (((rs.map (·.l)).take (k + 1)).filter fun l => coversP l fp) = (((rs.map (·.l)).take k).filter fun l => coversP l fp) ++ (if coversP rs[k].l fp = true then [rs[k].l] else []) := by
                  rw [List.take_succ_eq_append_getElem (by rw [List.length_map]; exact hkl), List.filter_append, List.getElem_map]
                  congr 1
                  by_cases hc : coversP rs[k].l fp = true <;> simp [hc]
                obtain ⟨r, hr⟩ : ∃ r, rs[k] = r := ⟨_, rfl⟩
                rw [hr] at hrg hsl hfl
                have hcv := covers_ok (w := wr.drew) r (Sees.upd hub.drew H3.out.1 (fun _ _ _ h => h)) (Sees.upd ((Upd.refl (fun _ => False) wr).drew) hsl (fun _ _ _ h => h))
                obtain ⟨B, hB⟩ : ∃ B, coversP r.l fp = B := ⟨_, rfl⟩
                rw [hB] at hcv hfl
                have hf0 := hT.1.cell 0
                simp only [List.getElem?_cons_zero] at hf0
                have H4 := Lib.hid (And.intro hcv (And.intro hT (And.intro htk hfl)))
                have Hrg := Lib.hid hrg
                simp only [lkV] at hrg H4
                have HS : wr.drew.rangeAt g (o + k * 6) [.string (bs r.l.tok), .slice r.xp r.l.path.length r.cp, .bool r.l.deep, .bool r.l.excl, .string (bs r.l.owner), .int .i64 r.l.til] ∧ wr.drew.cell? ⟨fb, 0, none⟩ = some (.slice px fp.length pd) := ⟨hrg, hf0⟩
                clear hcv hT htk hfl hD0 hF hub hsl hr hB hrg hf0 hkl HT
                go_wp2_with fail
                refine wp_region_planD (fun u => u.rangeAt g (o + k * 6) [.string (bs r.l.tok), .slice r.xp r.l.path.length r.cp, .bool r.l.deep, .bool r.l.excl, .string (bs r.l.owner), .int .i64 r.l.til] ∧ u.cell? ⟨fb, 0, none⟩ = some (.slice px fp.length pd)) 6 [(0, true), (1, true), (2, true), (3, true), (4, true), (5, true), (6, false)] (by kernel_rfl) (by kernel_rfl) (fun d _ _ _ _ h => by cases d <;> exact h) HS ?_
                iterate 3 (first | (apply planD_held rfl rfl rfl (by simp) HS; (intro w' hS K hK; go_simp; exact hK)) | (apply planD_wanted rfl rfl rfl (by simp) HS; (intro w' hS K hK; go_simp; exact hK)))
                apply planD_held rfl rfl rfl (by simp) HS
                · intro w' hS K hK
                  exact gives_load_mid g (o + k * 6) rfl [.string (bs r.l.tok), .slice r.xp r.l.path.length r.cp, .bool r.l.deep, .bool r.l.excl, .string (bs r.l.owner), .int .i64 r.l.til] _ hS.1 Tryd.underlying28 rfl sizeLk hK
                try (simp only [Act.put, List.setIfInBounds_toArray, List.set_cons_zero, List.set_cons_succ])
                iterate 2 (first | (apply planD_held rfl rfl rfl (by simp) HS; (intro w' hS K hK; go_simp; exact hK)) | (apply planD_wanted rfl rfl rfl (by simp) HS; (intro w' hS K hK; go_simp; exact hK)))
                refine planD_op rfl rfl (fun KK hK => ?_)
                go_simp
                refine H4.out.1.mono ?_
                rintro e w3 ⟨rfl, hu3⟩
                dsimp only
                refine hK _ _ _ (fun u h => h) (fun h => absurd rfl h) ?_
                clear hK HS
                try (simp only [Act.put, List.setIfInBounds_toArray, List.set_cons_zero, List.set_cons_succ])
                refine planD_nil ?_
                have H5 := Lib.hid (And.intro ((H4.out.2.1.upd (Upd.refl (fun _ => False) wr).drew).upd hu3) (And.intro H4.out.2.2.1 (And.intro H4.out.2.2.2 ((hu3.range (F := fun _ => False) Hrg.out (fun h => h))))))
                clear H4 hu3 Hrg
                cases B
                · have HJ : Hid (∃ toks, TkR wd fb px fp.length pd tx tn tc toks w3 ∧ toks = (((rs.map (·.l)).take (k + 1)).filter fun l => coversP l fp).map (·.tok)) := Lib.hid ⟨toks, H5.out.1, by
                    rw [H5.out.2.2.1, if_neg (by decide), List.append_nil]; exact H5.out.2.1⟩
                  clear H5
                  go_wp2_with fail
                  exact ⟨⟨k + 1, tx, tn, tc, by omega, by omega, by go_num, HJ⟩, by simp [intOf] <;> omega⟩
                · have hg0 : w3.cell? ⟨g, o + k * 6, none⟩ = some (.string (bs r.l.tok)) := H5.out.2.2.2 0 _ rfl
                  have hf2 := H5.out.1.1.cell 2
                  simp only [List.getElem?_cons_zero, List.getElem?_cons_succ] at hf2
                  obtain ⟨T, hT⟩ : ∃ T, bs r.l.tok = T := ⟨_, rfl⟩
                  rw [hT] at hg0
                  have HT := Lib.hid hT
                  have HS : w3.drew.cell? ⟨fb, 2, none⟩ = some (.slice tx tn tc) ∧ w3.drew.cell? ⟨g, o + k * 6, none⟩ = some (.string T) := ⟨hf2, hg0⟩
                  clear hT hg0 hf2
                  go_wp2_with fail
                  refine wp_region_planD (fun u => u.cell? ⟨fb, 2, none⟩ = some (.slice tx tn tc) ∧ u.cell? ⟨g, o + k * 6, none⟩ = some (.string T)) 10 [(0, true), (1, true), (2, true), (3, true), (4, true), (5, true), (6, true), (7, false), (8, false), (9, true), (10, false)] (by kernel_rfl) (by kernel_rfl) (fun d _ _ _ _ h => by cases d <;> exact h) HS ?_
                  iterate 7 (first | (apply planD_held rfl rfl rfl (by simp) HS; (intro w' hS K hK; go_simp; exact hK)) | (apply planD_wanted rfl rfl rfl (by simp) HS; (intro w' hS K hK; go_simp; exact hK)))
                  refine planD_op rfl rfl (fun KK hK => ?_)
                  go_simp
                  have ha4 : Upd (fun _ => False) w3 ((w3.alloc (.cells #[.string T] 9)).drew) := ((Upd.refl _ w3).alloc _).drew
                  have HS2 : ((w3.alloc (.cells #[.string T] 9)).drew).cell? ⟨fb, 2, none⟩ = some (.slice tx tn tc) ∧ ((w3.alloc (.cells #[.string T] 9)).drew).cell? ⟨g, o + k * 6, none⟩ = some (.string T) := ⟨ha4.cell_some HS.1 (fun h => h), ha4.cell_some HS.2 (fun h => h)⟩
                  have H6 := Lib.hid (And.intro (H5.out.1.upd ha4) (And.intro H5.out.2.1 H5.out.2.2.1))
                  have hnew : Sees ((w3.alloc (.cells #[.string T] 9)).drew) 1 (.slice (some ⟨w3.heap.size, 0, none⟩) 1 1) 1 [.string T] := Sees.at rfl (by decide) (rangeAt_of_row (show ((w3.alloc (.cells #[.string T] 9)).drew).heap[w3.heap.size]? = some (.cells ([.string T] : List Value).toArray 9 (0, 0)) from heap_alloc_new w3 _) rfl)
                  have hbs : ((w3.alloc (.cells #[.string T] 9)).drew).heap.size = w3.heap.size + 1 := by
                    show (w3.alloc (.cells #[.string T] 9)).heap.size = _
                    simp
                  have hw3 : fb < w3.heap.size := H5.out.1.1.lt
                  generalize ((w3.alloc (.cells #[.string T] 9)).drew) = w4 at HS2 H6 hnew hbs ⊢
                  refine hK _ _ _ (fun u h => h) (fun _ => HS2) ?_
                  clear hK HS ha4 H5
                  try (simp only [Act.put, List.setIfInBounds_toArray, List.set_cons_zero, List.set_cons_succ])
                  refine planD_op rfl rfl (fun KK hK => ?_)
                  refine wp_append_whole 9 1 16 (.string .empty) (.slice tx tn tc) tn (strsV toks) 1 [.string T] Tryd.underlying23 infoStr rfl rfl H6.out.1.2.1 H6.out.1.2.2.1 hnew ?_ ?_ ?_ ?_
                  · intro u hu
                    rw [List.mem_singleton] at hu
                    subst hu
                    rfl
                  · unfold maxLen; omega
                  · omega
                  intro x' c' w5 hm5 hu5 hb5 hW5
                  have hne5 : ¬ (Value.slice tx tn tc).ownBlock = some fb := fun e => by
                    have := (H6.out.1.2.2.2.1 fb e).2
                    omega
                  have hcs5 := H6.out.1.1.upd hu5 hne5
                  have hc2 := hcs5.cell 2
                  have hz2 := hcs5.frozen 2
                  simp only [List.getElem?_cons_zero, List.getElem?_cons_succ] at hc2
                  have HS5 : w5.cell? ⟨fb, 2, none⟩ = some (.slice tx tn tc) ∧ w5.cell? ⟨g, o + k * 6, none⟩ = some (.string T) := ⟨hc2, hu5.cell_some HS2.2 (fun e => by
                    have := (H6.out.1.2.2.2.1 g e).2
                    omega)⟩
                  refine hK _ _ _ (fun u h => h) (fun _ => HS5) ?_
                  have H7 := Lib.hid (And.intro hcs5 (And.intro hm5 (And.intro hW5 (And.intro hb5 (And.intro hu5 H6.out)))))
                  clear hK hm5 hu5 hb5 hW5 H6 HS2 hcs5 hnew hne5
                  try (simp only [Act.put, List.setIfInBounds_toArray, List.set_cons_zero, List.set_cons_succ])
                  iterate 1 (first | (apply planD_held rfl rfl rfl (by simp) HS5; (intro w' hS K hK; go_simp; exact hK)) | (apply planD_wanted rfl rfl rfl (by simp) HS5; (intro w' hS K hK; go_simp; exact hK)))
                  refine planD_op rfl rfl (fun KK hK => ?_)
                  go_simp
                  refine hK _ _ _ (fun u h => h) (fun h => absurd rfl h) ?_
                  clear hK HS5 hc2 hz2
                  try (simp only [Act.put, List.setIfInBounds_toArray, List.set_cons_zero, List.set_cons_succ])
                  refine planD_nil ?_
                  have HJ : Hid (∃ toks, TkR wd fb px fp.length pd x' (tn + 1) c' toks (w5.setCell ⟨fb, 2, none⟩ (.slice x' (tn + 1) c')) ∧ toks = (((rs.map (·.l)).take (k + 1)).filter fun l => coversP l fp).map (·.tok)) := Lib.hid (by
                    obtain ⟨k1, k2, k3, k4, k5, ⟨j1, j2, j3, j4, j5, j6⟩, k6, k7⟩ := H7.out
                    have hz45 := j5.size
                    have hown : ∀ q, (Value.slice x' (tn + 1) c').ownBlock = some q → wd.heap.size ≤ q ∧ fb < q := fun q hq => by
                      rcases k4 with e | e
                      · exact j4 q (e ▸ hq)
                      · rw [hq] at e
                        simp only [Option.some.injEq] at e
                        omega
                    have hst := k1.set 2 (.slice x' (tn + 1) c')
                    simp only [List.set_cons_zero, List.set_cons_succ] at hst
                    have hux : Upd (fun q => q = fb) w5 (w5.setCell ⟨fb, 2, none⟩ (.slice x' (tn + 1) c')) := (Upd.refl _ w5).setCell _ (.inl rfl)
                    have hnf : ∀ q, (Value.slice x' (tn + 1) c').ownBlock = some q → ¬ q = fb := fun q hq e => by have := (hown q hq).2; omega
                    refine ⟨toks ++ [r.l.tok], ⟨hst, ?_, k3.upd hux hnf k2.lt, hown, ?_, by rw [List.length_append, j6]; rfl⟩, by rw [k7, if_pos (by trivial), List.map_append, ← k6]; rfl⟩
                    · rw [strsV_append, show strsV [r.l.tok] = [.string T] by rw [← HT.out]; rfl]
                      exact k2.upd hux hnf
                    · exact (j5.then k5 (fun q hq => .inr (j4 q hq).1)).setCell _ (.inl rfl))
                  clear H7 HT hbs hw3
                  go_wp2_with fail
                  exact ⟨⟨k + 1, x', tn + 1, c', by omega, by omega, by go_num, HJ⟩, by simp [intOf] <;> omega⟩
              · obtain rfl : k = n := by omega
                obtain ⟨toks, hT, htk⟩ := HT.out
                rw [List.take_of_length_le (by rw [List.length_map, H2.out.2.2.2.1]; exact Nat.le_refl _)] at htk
                obtain ⟨frs, hF, hmp⟩ := H3.out.2.2.2.2.2.2
                have hufb : Upd (fun q => q = fb) we wr := (H3.out.2.2.2.2.1.mono (fun _ _ h => h.elim)).trans hT.2.2.2.2.1
                have hFr := hF.upd' hufb (fun q hq => by have := H3.out.2.2.2.2.2.1; omega)
                have htl := hT.2.2.2.2.2
                subst htl
                have hrn := hT.1.range
                have hfx : ∀ q, (Value.slice fx fn fc).ownBlock = some q → q < we.heap.size := hF.1.lt
                have H8 := Lib.hid (And.intro hT (And.intro htk (And.intro hFr (And.intro hmp (And.intro hfx (And.intro H3.out.1 (And.intro H3.out.2.1 H3.out.2.2.2.2.2.1)))))))
                clear hT htk hFr hmp hfx hF hufb HT H3
                go_wp2_with (first | ((with_reducible apply wpl_load_mid fb 0 [.slice px fp.length pd, .string ⟨#[]⟩, .slice tx toks.length tc]); exact rfl; exact hrn; exact Tryd.underlying31; exact rfl; exact sizeFct; try (simp only [Act.put, List.setIfInBounds_toArray, List.set_cons_zero, List.set_cons_succ])) | (at_builtin; refine wpl_append_whole 31 3 64 (.agg #[.slice none 0 0, .string .empty, .slice none 0 0]) (.slice fx fn fc) fn (frs.flatMap fctV) 1 [.slice px fp.length pd, .string ⟨#[]⟩, .slice tx toks.length tc] ?c1 ?c2 ?c3 ?c4 ?c5 ?c6 ?c7 ?c8 ?c9 ?c10 ?_))
                try case c1 => exact Tryd.underlying25
                try case c2 =>
                  first
                  | exact infoFct
                  | (obtain ⟨a, ha, hz, h1, h2⟩ := info_parts infoFct
                     exact ⟨a, ha, hz, h1, h2⟩)
                try case c3 => rfl
                try case c4 => rfl
                case c5 => exact (H8.out.2.2.1.upd ((Upd.refl (fun _ => False) wr).alloc _)).1
                case c6 => exact (H8.out.2.2.1.upd ((Upd.refl (fun _ => False) wr).alloc _)).2.1
                case c7 => exact Sees.at rfl (by decide) (CellsA.new wr 31 [.slice px fp.length pd, .string ⟨#[]⟩, .slice tx toks.length tc]).range
                try case c8 =>
                  first
                  | (refine ⟨?_, ?_, ?_⟩ <;> rfl)
                  | (refine ⟨?_, ?_⟩ <;> rfl)
                  | (intro u hu
                     simp only [List.mem_cons, List.not_mem_nil, or_false] at hu
                     rcases hu with rfl | rfl | rfl <;> rfl)
                try case c9 => unfold maxLen; omega
                try case c10 => omega
                intro x' c' w5 hm5 hu5 hb5 hW5
                try (simp only [Act.put, List.setIfInBounds_toArray, List.set_cons_zero, List.set_cons_succ])
                have HJ : Hid (∃ frs, FMR wb x' (fn + 1) c' frs w5 ∧ frs.map (·.f) = (factsP (rs.map (·.l)) p).take (fn + 1)) := Lib.hid (by
                  obtain ⟨h1, h2, h3, h4, h5, h6, ⟨h7, h8⟩, h9⟩ := H8.out
                  have hfr := h3.upd ((Upd.refl (fun _ => False) wr).alloc (.cells #[.slice px fp.length pd, .string ⟨#[]⟩, .slice tx toks.length tc] 31))
                  refine ⟨frs ++ [⟨⟨fp, [], toks⟩, px, pd, tx, tc⟩], hfr.snoc (fr := ⟨⟨fp, [], toks⟩, px, pd, tx, tc⟩) hm5 hW5 ?_ hu5 h6 (Sees.upd ((Upd.refl (fun _ => False) wr).alloc _) h1.2.1.sees (fun _ _ _ h => h)) ?_, ?_⟩
                  · rcases hb5 with e | e
                    · exact .inl e
                    · exact .inr ⟨_, e, by simp⟩
                  · intro q hq h0 e
                    have := (h1.2.2.2.1 q hq).2
                    have := h5 q e
                    omega
                  · rw [List.map_append, h4, List.take_succ_eq_append_getElem h7, h8, List.map_cons, List.map_nil, factOf, ← h2])
                clear H8 hrn hu5 hm5 hb5 hW5
                go_wp2_with fail
                exact ⟨⟨fn + 1, x', fn + 1, c', by omega, by simp, by go_num, rfl, HJ⟩, by simp [intOf] <;> omega⟩
        · obtain rfl : fn = n + 1 := by omega
          have hleI : ¬ (((n + 1 : Nat) : Int) ≤ (n : Int)) := by omega
          have HF : Hid (∃ frs, FactsAt wr fx (n + 1) fc frs ∧ frs.map (·.f) = factsP (rs.map (·.l)) p ∧ Upd (fun _ => False) w wr) := Lib.hid (by
            obtain ⟨frs, h1, h2⟩ := HR.out
            exact ⟨frs, h1.facts, by rw [h2, List.take_of_length_le]; rw [factsP_len, List.length_map]; have := H2.out.2.2.2.1; omega, H2.out.1.trans h1.2.2.2.1⟩)
          clear HR
          go_wp2_with fail
          go_meet
          exact ⟨fx, n + 1, fc, rfl, HF⟩
    case rest =>
      obtain ⟨wf, rfl⟩ : ∃ u, u = wc := ⟨_, rfl⟩
      obtain ⟨fx, fn, fc, rfl, HF⟩ := hcut
      have hgood := H2.out.2.1
      have hgl : ∀ l ∈ rs.map (·.l), goodP l = true := fun l hl => by
        obtain ⟨r, hr, rfl⟩ := List.mem_map.1 hl
        exact hgood r hr
      have hsl : (headP (rs.map (·.l))).length ≤ 150000 := by
        have h1 := head_len _ hgl
        rw [List.length_map, H2.out.2.2.2.1] at h1
        omega
      obtain ⟨frs, hfa, hfm, huf⟩ := HF.out
      have hDf := H.out.2.1.upd huf
      have hin : HIn wf p frs y m d fx fn fc := ⟨hDf.path, hfa, by
        rw [hfm]
        intro f hf
        unfold factsP at hf
        rcases List.mem_append.1 hf with hf | hf
        · obtain ⟨l, _, rfl⟩ := List.mem_map.1 hf
          rfl
        · rw [List.mem_singleton] at hf
          subst hf
          rfl, hDf.glob⟩
      have hpc := parse_cond (headP (rs.map (·.l))) (by omega) hDf.glob hDf.big
      rw [Hsb.out] at hpc
      have H3 := Lib.hid (And.intro hpc (And.intro hin (And.intro hfm (And.intro hDf (And.intro huf (And.intro hgl (And.intro hsl H2.out.2.2.2)))))))
      clear hpc hin hfm hDf huf hgl hsl hgood hfa HF H2 Hsb
      go_wp2_with fail
      refine H3.out.1.mono ?_
      rintro e w3 ⟨gx, gn, gc, grs, er, rfl, hu3, hcase⟩
      dsimp only
      have H4 := Lib.hid (And.intro hu3 (And.intro hcase H3.out.2))
      clear hu3 hcase H3
      go_upto_region 24 with (fail)
      go_cut [130] (fun v w' => v = .bool false ∧ Hid (Upd (fun _ => False) w3 w'))
      case first =>
        by_cases hn0 : n = 0
        · have hnI0 : ¬ ((0 : Int) < (n : Int)) := by omega
          have HX0 : Hid (Upd (fun _ => False) w3 w3) := Lib.hid (Upd.refl _ _)
          clear hn0
          go_wp2_with fail
          go_meet
          exact ⟨rfl, HX0⟩
        · have hnI0 : (0 : Int) < (n : Int) := by omega
          obtain ⟨hu3, hcase, hin, hfm, hDf, huf, hgl, hsl, hlen, hhd, hHD⟩ := H4.out
          have hne : rs.map (·.l) ≠ [] := fun e => hn0 (by have := congrArg List.length e; rw [List.length_map] at this; rw [← hlen]; simpa using this)
          rcases hcase with ⟨rfl, hc, hgr⟩ | ⟨_, hc⟩
          · rw [cond_mk _ hgl hne] at hc
            have hc := Option.some.inj hc
            have hbd := cond_bound (cond_mk _ hgl hne)
            have htag : ∀ r ∈ grs, r.g.tag.length ≤ 100000000 := fun r hr => by
              have : r.g ∈ grs.map (·.g) := List.mem_map.2 ⟨r, hr, rfl⟩
              rw [← hc] at this
              have := hbd.1 _ this
              omega
            have hnc : nConds grs ≤ 1000000000 := by rw [nConds_eq, ← hc]; have := hbd.2; omega
            have hho := Holds_ok hgr htag (hin.upd hu3)
            rw [← hc, hfm, held_mk p hgl hne] at hho
            have H5 := Lib.hid (And.intro hho (And.intro hgr (And.intro htag (And.intro hnc hc))))
            clear hho hgr htag hnc hc hbd hne hn0 hu3 hin hfm hDf huf hgl hsl hlen hhd hHD
            go_wp2_with fail
            refine H5.out.1.mono ?_
            rintro e w4 ⟨rfl, hu4⟩
            dsimp only
            obtain ⟨hu3, hcase, hin, hfm, hDf, huf, hgl, hsl, hlen, hhd, hHD⟩ := H4.out
            have hsb := subm_ok (H5.out.2.1.upd hu4) H5.out.2.2.1 H5.out.2.2.2.1 ((hin.upd hu3).upd hu4)
            rw [← H5.out.2.2.2.2, hfm] at hsb
            have H6 := Lib.hid (And.intro hsb hu4)
            clear hsb hu4 hu3 hcase hin hfm hDf huf hgl hsl hlen hhd hHD
            go_wp2_with fail
            refine H6.out.1.mono ?_
            rintro e w5 ⟨ox, on, oc, rfl, hse, hu5⟩
            dsimp only
            obtain ⟨hu3, hcase, hin, hfm, hDf, huf, hgl, hsl, hlen, hhd, hHD⟩ := H4.out
            have hD5 := hDf.upd (hu3.trans (H6.out.2.trans hu5))
            have hfr := free_ok hD5.locks hD5.path hse
            rw [free_mk p hgl] at hfr
            have H7 := Lib.hid (And.intro hfr (H6.out.2.trans hu5))
            clear hfr hse hu5 hD5 hu3 hcase hin hfm hDf huf hgl hsl hlen hhd hHD H5 H6
            go_wp2_with fail
            refine H7.out.1.mono ?_
            rintro e w6 ⟨rfl, hu6⟩
            dsimp only
            have HU := Lib.hid (H7.out.2.trans hu6)
            clear hu6 H7
            go_wp2_with fail
            go_meet
            exact ⟨rfl, HU⟩
          · rw [cond_mk _ hgl hne] at hc
            cases hc
      case rest =>
        obtain ⟨wg, rfl⟩ : ∃ u, u = wc := ⟨_, rfl⟩
        obtain ⟨rfl, HG⟩ := hcut
        obtain ⟨hu3, hcase, hin, hfm, hDf, huf, hgl, hsl, hlen, hhd, hHD⟩ := H4.out
        have hug := hu3.trans HG.out
        have hpc := parse_cond hd (by omega) (hDf.upd hug).glob (hDf.upd hug).big
        rw [hHD] at hpc
        have H5 := Lib.hid (And.intro hpc (And.intro (hin.upd hug) (And.intro (hDf.upd hug) (And.intro (huf.trans hug) (And.intro hlen hhd)))))
        clear hpc hug hu3 hcase hin hfm hDf huf hgl hsl hlen hhd hHD H4 HG
        go_wp2_with fail
        refine H5.out.1.mono ?_
        rintro e w7 ⟨gx7, gn7, gc7, hrs, er2, rfl, hu7, hcase⟩
        dsimp only
        rcases hcase with ⟨rfl, hcn, hgr⟩ | ⟨rfl, hcn⟩
        · have hD7 := H5.out.2.2.1.upd hu7
          have hfr := free_ok (toks := []) hD7.locks hD7.path (Sees.zero _ _ none 0)
          obtain ⟨f0, hf0⟩ : ∃ f, freeP (rs.map (·.l)) p [] = f := ⟨_, rfl⟩
          rw [hf0] at hfr
          have hbd := cond_bound hcn
          have htag : ∀ r ∈ hrs, r.g.tag.length ≤ 100000000 := fun r hr => by
            have := hbd.1 _ (List.mem_map.2 ⟨r, hr, rfl⟩ : r.g ∈ hrs.map (·.g))
            have := H5.out.2.2.2.2.2
            omega
          have hnc : nConds hrs ≤ 1000000000 := by rw [nConds_eq]; have := hbd.2; have := H5.out.2.2.2.2.2; omega
          have hg7 := hgr.len
          have hgI7 : (gn7 : Int) ≤ 9223372036854775807 := by have := hgr.1.2.1; unfold maxLen at this; omega
          have H6 := Lib.hid (And.intro hfr (And.intro hgr (And.intro htag (And.intro hnc (And.intro hD7 (And.intro hf0 (And.intro hg7 hu7)))))))
          clear hfr hgr htag hnc hD7 hf0 hg7 hbd hcn hu7
          go_wp2_with fail
          refine H6.out.1.mono ?_
          rintro e w8 ⟨rfl, hu8⟩
          dsimp only
          cases f0
          · have hsb := subm_ok (H6.out.2.1.upd hu8) H6.out.2.2.1 H6.out.2.2.2.1 ((H5.out.2.1.upd H6.out.2.2.2.2.2.2.2).upd hu8)
            have H7 := Lib.hid (And.intro hsb hu8)
            clear hsb hu8
            go_wp2_with fail
            refine H7.out.1.mono ?_
            rintro e w9 ⟨ox, on, oc, rfl, hse, hu9⟩
            dsimp only
            have hD9 := H6.out.2.2.2.2.1.upd (H7.out.2.trans hu9)
            have hfr := free_ok hD9.locks hD9.path hse
            obtain ⟨fv, hfv⟩ : ∃ f, freeP (rs.map (·.l)) p (submP (hrs.map (·.g)) p (frs.map (·.f))) = f := ⟨_, rfl⟩
            have hnm : (∀ l ∈ rs.map (·.l), coversP l p = true → ∀ g ∈ hrs.map (·.g), ∀ c ∈ g.conds, ¬ (c.tok = l.tok ∧ c.not = false)) → fv = false := fun h => by
              rw [← hfv]
              exact free_named H6.out.2.2.2.2.2.1 h
            rw [hfv] at hfr
            have H8 := Lib.hid (And.intro hfr (And.intro hnm (And.intro hD9 (And.intro (H6.out.2.1.upd (H7.out.2.trans hu9)) (H5.out.2.2.2.1.trans (H6.out.2.2.2.2.2.2.2.trans (H7.out.2.trans hu9)))))))
            have H9 := Lib.hid (And.intro H5.out.2.2.2.2.1 H6.out.2.2.2.2.2.2.1)
            clear hfr hnm hD9 hse hu9 hfv H5 H6 H7
            go_wp2_with fail
            refine H8.out.1.mono ?_
            rintro e wh ⟨rfl, huh⟩
            dsimp only
            have HH := Lib.hid (And.intro (H8.out.2.2.1.upd huh) (And.intro (H8.out.2.2.2.1.upd huh) (And.intro (H8.out.2.2.2.2.trans huh) (And.intro H8.out.2.1 H9.out))))
            clear huh H8 H9
            go_wp2_with fail
            go_loopw [17] (fun iv wr => ∃ (i : Nat), i ≤ n ∧ iv = .int .i64 i ∧ Hid (Upd (fun _ => False) wh wr ∧ ∀ a (ha : a < rs.length), a < i → coversP rs[a].l p = true → ∀ g ∈ hrs, ∀ c ∈ g.g.conds, ¬ (c.tok = rs[a].l.tok ∧ c.not = false))) (fun iv _ => n - (intOf iv).toNat)
            case atStart => exact ⟨0, Nat.zero_le _, rfl, Lib.hid ⟨Upd.refl _ _, fun a _ h => absurd h (Nat.not_lt_zero _)⟩⟩
            case round =>
              obtain ⟨i, hi, rfl, HR⟩ := hrel
              by_cases hlt : i < n
              · have hltI : (i : Int) < (n : Int) := by omega
                have hil : i < rs.length := by rw [HH.out.2.2.2.2.1]; exact hlt
                obtain ⟨gl, ol, rfl, hrgl, hspl⟩ := HH.out.1.locks.at i hil
                obtain ⟨r, hr⟩ : ∃ r, rs[i] = r := ⟨_, rfl⟩
                rw [hr] at hrgl hspl
                have hr2 : ∃ h : i < rs.length, rs[i]'h = r := ⟨hil, hr⟩
                have HL := Lib.hid (And.intro hrgl (And.intro hspl (And.intro hr2 (And.intro hlt HR.out))))
                clear hrgl hspl hr hr2 hil HR
                go_wp2_with fail
                go_loopw [18] (fun kv wr => ∃ (k : Nat), k ≤ gn7 ∧ kv = .int .i64 k ∧ Hid (Upd (fun _ => False) wh wr ∧ ∀ b (hb : b < hrs.length), b < k → ∀ c ∈ hrs[b].g.conds, ¬ (c.tok = r.l.tok ∧ c.not = false))) (fun kv _ => gn7 - (intOf kv).toNat)
                case atStart => exact ⟨0, Nat.zero_le _, rfl, Lib.hid ⟨HL.out.2.2.2.2.1, fun b _ h => absurd h (Nat.not_lt_zero _)⟩⟩
                case round =>
                  obtain ⟨k, hk, rfl, HK⟩ := hrel
                  by_cases hkn : k < gn7
                  · have hkI : (k : Int) < (gn7 : Int) := by omega
                    have hcv := covers_ok r (Sees.upd HK.out.1 HH.out.1.path (fun _ _ _ h => h)) (Sees.upd HK.out.1 HL.out.2.1 (fun _ _ _ h => h))
                    obtain ⟨B, hB⟩ : ∃ B, coversP r.l p = B := ⟨_, rfl⟩
                    rw [hB] at hcv
                    have hrg := HK.out.1.range HL.out.1 (fun h => h)
                    have H1 := Lib.hid (And.intro hcv hB)
                    clear hcv hB
                    simp only [lkV] at hrg H1
                    have e0 : wr.cell? ⟨gl, ol + i * 6, none⟩ = some (.string (bs r.l.tok)) := hrg 0 _ rfl
                    have e1 : wr.cell? ⟨gl, ol + i * 6 + 1, none⟩ = some (.slice r.xp r.l.path.length r.cp) := hrg 1 _ rfl
                    have e2 : wr.cell? ⟨gl, ol + i * 6 + 2, none⟩ = some (.bool r.l.deep) := hrg 2 _ rfl
                    have e3 : wr.cell? ⟨gl, ol + i * 6 + 3, none⟩ = some (.bool r.l.excl) := hrg 3 _ rfl
                    have e4 : wr.cell? ⟨gl, ol + i * 6 + 4, none⟩ = some (.string (bs r.l.owner)) := hrg 4 _ rfl
                    have e5 : wr.cell? ⟨gl, ol + i * 6 + 5, none⟩ = some (.int .i64 r.l.til) := hrg 5 _ rfl
                    clear hrg
                    go_wp2_with fail
                    refine H1.out.1.mono ?_
                    rintro e wk ⟨rfl, huk⟩
                    dsimp only
                    have huk2 := HK.out.1.trans huk
                    clear e0 e1 e2 e3 e4 e5
                    cases B
                    · have HJ : Hid (Upd (fun _ => False) wh wk ∧ ∀ a (ha : a < rs.length), a < i + 1 → coversP rs[a].l p = true → ∀ g ∈ hrs, ∀ c ∈ g.g.conds, ¬ (c.tok = rs[a].l.tok ∧ c.not = false)) := Lib.hid ⟨huk2, fun a ha hai hc => by
                        rcases Nat.lt_or_ge a i with h | h
                        · exact HL.out.2.2.2.2.2 a ha h hc
                        · obtain rfl : a = i := by omega
                          obtain ⟨_, hr2⟩ := HL.out.2.2.1
                          rw [hr2, H1.out.2] at hc
                          cases hc⟩
                      clear H1 HK HL huk huk2
                      go_wp2_with fail
                      exact ⟨⟨i + 1, by omega, by go_num, HJ⟩, by simp [intOf] <;> omega⟩
                    · have hkl : k < hrs.length := by have := HH.out.2.2.2.2.2; omega
                      obtain ⟨g7, o7, rfl, hrg7, hgk⟩ := (HH.out.2.1).at k hkl
                      obtain ⟨⟨gg, cx, cn, cc⟩, hgr⟩ : ∃ r, hrs[k] = r := ⟨_, rfl⟩
                      rw [hgr] at hrg7 hgk
                      have hcl := hgk.len
                      dsimp only at hcl
                      have hcI : (cn : Int) ≤ 9223372036854775807 := by have := hgk.2.1; unfold maxLen at this; dsimp only at this; omega
                      have hgr2 : ∃ h : k < hrs.length, hrs[k]'h = ⟨gg, cx, cn, cc⟩ := ⟨hkl, hgr⟩
                      have H2 := Lib.hid (And.intro hrg7 (And.intro hgk (And.intro hcl (And.intro hgr2 (And.intro HK.out.2 H1.out.2)))))
                      have e7 : wk.cell? ⟨g7, o7 + k * 3 + 2, none⟩ = some (.slice cx cn cc) := (huk2.range hrg7 (fun h => h)) 2 _ rfl
                      have HQ0 : Hid (Upd (fun _ => False) wh wk) := Lib.hid huk2
                      clear hrg7 hgk hcl hgr hgr2 hkl H1 HK huk huk2
                      go_wp2_with fail
                      clear e7
                      go_loopw [19] (fun jv wr => ∃ (j : Nat), j ≤ cn ∧ jv = .int .i64 j ∧ Hid (Upd (fun _ => False) wh wr ∧ ∀ b (hb : b < gg.conds.length), b < j → ¬ (gg.conds[b].tok = r.l.tok ∧ gg.conds[b].not = false))) (fun jv _ => cn - (intOf jv).toNat)
                      case atStart => exact ⟨0, Nat.zero_le _, rfl, Lib.hid ⟨HQ0.out, fun b _ h => absurd h (Nat.not_lt_zero _)⟩⟩
                      case round =>
                        clear HQ0
                        obtain ⟨j, hj, rfl, HQ⟩ := hrel
                        have e7 : wr.cell? ⟨g7, o7 + k * 3 + 2, none⟩ = some (.slice cx cn cc) := (HQ.out.1.range H2.out.1 (fun h => h)) 2 _ rfl
                        by_cases hjn : j < cn
                        · have hjI : (j : Int) < (cn : Int) := by omega
                          have hjl : j < gg.conds.length := by rw [H2.out.2.2.1]; exact hjn
                          obtain ⟨g8, o8, hx8, hrg8⟩ := GrOk.at (H2.out.2.1.upd HQ.out.1) j hjl
                          dsimp only at hx8 hrg8
                          subst hx8
                          obtain ⟨⟨nt, tok, et⟩, hc⟩ : ∃ c, gg.conds[j] = c := ⟨_, rfl⟩
                          rw [hc] at hrg8
                          simp only [cndV] at hrg8
                          have hc2 : ∃ h : j < gg.conds.length, gg.conds[j]'h = ⟨nt, tok, et⟩ := ⟨hjl, hc⟩
                          have hl0 : wr.cell? ⟨gl, ol + i * 6, none⟩ = some (.string (bs r.l.tok)) := (HQ.out.1.range HL.out.1 (fun h => h)) 0 _ rfl
                          have q0 : wr.cell? ⟨g8, o8 + j * 3, none⟩ = some (.bool nt) := hrg8 0 _ rfl
                          have q1 : wr.cell? ⟨g8, o8 + j * 3 + 1, none⟩ = some (.string (bs tok)) := hrg8 1 _ rfl
                          have hst : (bs tok).toList = (bs r.l.tok).toList ↔ tok = r.l.tok := by rw [bs_toList, bs_toList]
                          have hst2 : bs tok = bs r.l.tok ↔ tok = r.l.tok := bs_eq_iff _ _
                          have Hc2 := Lib.hid (And.intro hc2 (And.intro hst hst2))
                          obtain ⟨S, hS⟩ : ∃ S, bs tok = S := ⟨_, rfl⟩
                          obtain ⟨TT, hTT⟩ : ∃ T, bs r.l.tok = T := ⟨_, rfl⟩
                          rw [hS, hTT] at Hc2
                          rw [hS] at q1
                          rw [hTT] at hl0
                          clear hc hc2 hst hst2 hrg8 hjl hS hTT
                          have hnx : ¬ (tok = r.l.tok ∧ nt = false) → ∀ b (hb : b < gg.conds.length), b < j + 1 → ¬ (gg.conds[b].tok = r.l.tok ∧ gg.conds[b].not = false) := fun hno b hb hbj => by
                            rcases Nat.lt_or_ge b j with h | h
                            · exact HQ.out.2 b hb h
                            · obtain rfl : b = j := by omega
                              obtain ⟨_, h2⟩ := Hc2.out.1
                              rw [h2]
                              exact hno
                          by_cases he : S = TT
                          · cases nt
                            · have HU := Lib.hid (HH.out.2.2.1.trans HQ.out.1).drew
                              have HS : wr.drew.cell? ⟨g7, o7 + k * 3 + 2, none⟩ = some (.slice (some ⟨g8, o8, none⟩) cn cc) ∧ wr.drew.cell? ⟨g8, o8 + j * 3, none⟩ = some (.bool false) ∧ wr.drew.cell? ⟨g8, o8 + j * 3 + 1, none⟩ = some (.string S) ∧ wr.drew.cell? ⟨gl, ol + i * 6, none⟩ = some (.string S) := ⟨e7, q0, q1, by rw [he]; exact hl0⟩
                              subst he
                              clear hnx Hc2 HQ q0 q1 hl0
                              go_wp2_with fail
                              refine wp_region_planD (fun u => u.cell? ⟨g7, o7 + k * 3 + 2, none⟩ = some (.slice (some ⟨g8, o8, none⟩) cn cc) ∧ u.cell? ⟨g8, o8 + j * 3, none⟩ = some (.bool false) ∧ u.cell? ⟨g8, o8 + j * 3 + 1, none⟩ = some (.string S) ∧ u.cell? ⟨gl, ol + i * 6, none⟩ = some (.string S)) 27 [(0, true), (1, true), (2, true), (3, true), (4, true), (5, true), (6, true), (7, true), (8, true), (9, true), (10, true), (11, true), (12, true), (13, true), (14, true), (15, true), (16, true), (17, true), (18, true), (19, true), (20, true), (21, true), (22, true), (23, true), (24, true), (25, true), (26, true)] (by kernel_rfl) (by kernel_rfl) (fun d _ _ _ _ h => by cases d <;> exact h) HS ?_
                              iterate 27 (first | (apply planD_held rfl rfl rfl (by simp) HS; (intro w' hS K hK; go_simp; exact hK)) | (apply planD_wanted rfl rfl rfl (by simp) HS; (intro w' hS K hK; go_simp; exact hK)))
                              refine planD_nil ?_
                              clear HS
                              go_wp2_with fail
                              go_ret
                              exact ⟨rfl, HU.out⟩
                            · have HJ : Hid (Upd (fun _ => False) wh wr.drew ∧ ∀ b (hb : b < gg.conds.length), b < j + 1 → ¬ (gg.conds[b].tok = r.l.tok ∧ gg.conds[b].not = false)) := Lib.hid ⟨HQ.out.1.drew, hnx (fun h => by cases h.2)⟩
                              have HS : wr.drew.cell? ⟨g7, o7 + k * 3 + 2, none⟩ = some (.slice (some ⟨g8, o8, none⟩) cn cc) ∧ wr.drew.cell? ⟨g8, o8 + j * 3, none⟩ = some (.bool true) ∧ wr.drew.cell? ⟨g8, o8 + j * 3 + 1, none⟩ = some (.string S) ∧ wr.drew.cell? ⟨gl, ol + i * 6, none⟩ = some (.string S) := ⟨e7, q0, q1, by rw [he]; exact hl0⟩
                              subst he
                              clear hnx Hc2 HQ q0 q1 hl0
                              go_wp2_with fail
                              refine wp_region_planD (fun u => u.cell? ⟨g7, o7 + k * 3 + 2, none⟩ = some (.slice (some ⟨g8, o8, none⟩) cn cc) ∧ u.cell? ⟨g8, o8 + j * 3, none⟩ = some (.bool true) ∧ u.cell? ⟨g8, o8 + j * 3 + 1, none⟩ = some (.string S) ∧ u.cell? ⟨gl, ol + i * 6, none⟩ = some (.string S)) 27 [(0, true), (1, true), (2, true), (3, true), (4, true), (5, true), (6, true), (7, true), (8, true), (9, true), (10, true), (11, true), (12, true), (13, true), (14, true), (15, true), (16, true), (17, true), (18, true), (19, true), (20, true), (21, true), (22, true), (23, true), (24, true), (25, true), (26, true)] (by kernel_rfl) (by kernel_rfl) (fun d _ _ _ _ h => by cases d <;> exact h) HS ?_
                              iterate 27 (first | (apply planD_held rfl rfl rfl (by simp) HS; (intro w' hS K hK; go_simp; exact hK)) | (apply planD_wanted rfl rfl rfl (by simp) HS; (intro w' hS K hK; go_simp; exact hK)))
                              refine planD_nil ?_
                              clear HS
                              go_wp2_with fail
                              exact ⟨⟨j + 1, by omega, by go_num, HJ⟩, by simp [intOf] <;> omega⟩
                          · have hde : (S.toList == TT.toList) = false := beq_eq_false_iff_ne.2 (fun e => he (Hc2.out.2.2.2 (Hc2.out.2.1.1 e)))
                            have HJ : Hid (Upd (fun _ => False) wh wr.drew ∧ ∀ b (hb : b < gg.conds.length), b < j + 1 → ¬ (gg.conds[b].tok = r.l.tok ∧ gg.conds[b].not = false)) := Lib.hid ⟨HQ.out.1.drew, hnx (fun h => he (Hc2.out.2.2.2 h.1))⟩
                            have HS : wr.drew.cell? ⟨g7, o7 + k * 3 + 2, none⟩ = some (.slice (some ⟨g8, o8, none⟩) cn cc) ∧ wr.drew.cell? ⟨g8, o8 + j * 3, none⟩ = some (.bool nt) ∧ wr.drew.cell? ⟨g8, o8 + j * 3 + 1, none⟩ = some (.string S) ∧ wr.drew.cell? ⟨gl, ol + i * 6, none⟩ = some (.string TT) := ⟨e7, q0, q1, hl0⟩
                            clear hnx Hc2 HQ q0 q1 hl0 he
                            go_wp2_with fail
                            refine wp_region_planD (fun u => u.cell? ⟨g7, o7 + k * 3 + 2, none⟩ = some (.slice (some ⟨g8, o8, none⟩) cn cc) ∧ u.cell? ⟨g8, o8 + j * 3, none⟩ = some (.bool nt) ∧ u.cell? ⟨g8, o8 + j * 3 + 1, none⟩ = some (.string S) ∧ u.cell? ⟨gl, ol + i * 6, none⟩ = some (.string TT)) 27 [(0, true), (1, true), (2, true), (3, true), (4, true), (5, true), (6, true), (7, true), (8, true), (9, true), (10, true), (11, true), (12, true), (13, true), (14, true), (15, true), (16, true), (17, true), (18, true), (19, true), (20, true), (21, true), (22, true), (23, true), (24, true), (25, true), (26, true)] (by kernel_rfl) (by kernel_rfl) (fun d _ _ _ _ h => by cases d <;> exact h) HS ?_
                            iterate 16 (first | (apply planD_held rfl rfl rfl (by simp) HS; (intro w' hS K hK; go_simp; exact hK)) | (apply planD_wanted rfl rfl rfl (by simp) HS; (intro w' hS K hK; go_simp; exact hK)))
                            iterate 10 (refine planD_skipd rfl rfl rfl ?_; try (simp only [Act.put, List.setIfInBounds_toArray, List.set_cons_zero, List.set_cons_succ]))
                            iterate 1 (first | (apply planD_held rfl rfl rfl (by simp) HS; (intro w' hS K hK; go_simp; exact hK)) | (apply planD_wanted rfl rfl rfl (by simp) HS; (intro w' hS K hK; go_simp; exact hK)))
                            refine planD_nil ?_
                            clear HS
                            go_wp2_with fail
                            exact ⟨⟨j + 1, by omega, by go_num, HJ⟩, by simp [intOf] <;> omega⟩
                        · obtain rfl : j = cn := by omega
                          have HJ : Hid (Upd (fun _ => False) wh wr ∧ ∀ b (hb : b < hrs.length), b < k + 1 → ∀ c ∈ hrs[b].g.conds, ¬ (c.tok = r.l.tok ∧ c.not = false)) := Lib.hid ⟨HQ.out.1, fun b hb hbk c hc => by
                            rcases Nat.lt_or_ge b k with h | h
                            · exact H2.out.2.2.2.2.1 b hb h c hc
                            · obtain rfl : b = k := by omega
                              obtain ⟨_, h2⟩ := H2.out.2.2.2.1
                              rw [h2] at hc
                              obtain ⟨a, ha, rfl⟩ := List.getElem_of_mem hc
                              exact HQ.out.2 a ha (by have := H2.out.2.2.1; dsimp only at ha; omega)⟩
                          clear HQ H2
                          go_wp2_with fail
                          exact ⟨⟨k + 1, by omega, by go_num, HJ⟩, by simp [intOf] <;> omega⟩
                  · obtain rfl : k = gn7 := by omega
                    have hkI : ¬ ((k : Int) < (k : Int)) := by omega
                    have HJ : Hid (Upd (fun _ => False) wh wr ∧ ∀ a (ha : a < rs.length), a < i + 1 → coversP rs[a].l p = true → ∀ g ∈ hrs, ∀ c ∈ g.g.conds, ¬ (c.tok = rs[a].l.tok ∧ c.not = false)) := Lib.hid ⟨HK.out.1, fun a ha hai hc g hg c hcc => by
                      rcases Nat.lt_or_ge a i with h | h
                      · exact HL.out.2.2.2.2.2 a ha h hc g hg c hcc
                      · obtain rfl : a = i := by omega
                        obtain ⟨_, hr2⟩ := HL.out.2.2.1
                        rw [hr2]
                        obtain ⟨b, hb, rfl⟩ := List.getElem_of_mem hg
                        exact HK.out.2 b hb (by have := HH.out.2.2.2.2.2; omega) c hcc⟩
                    clear HK HL
                    go_wp2_with fail
                    exact ⟨⟨i + 1, by omega, by go_num, HJ⟩, by simp [intOf] <;> omega⟩
              · obtain rfl : i = n := by omega
                have hfv : Hid (fv = false) := Lib.hid (HH.out.2.2.2.1 (fun l hl hc g hg c hcc => by
                  obtain ⟨r, hr, rfl⟩ := List.mem_map.1 hl
                  obtain ⟨a, ha, rfl⟩ := List.getElem_of_mem hr
                  obtain ⟨g2, hg2, rfl⟩ := List.mem_map.1 hg
                  exact HR.out.2 a ha (by have := HH.out.2.2.2.2.1; omega) hc g2 hg2 c hcc))
                have HU := Lib.hid (HH.out.2.2.1.trans HR.out.1)
                clear HR
                go_wp2_with fail
                go_ret
                exact ⟨by rw [hfv.out]; rfl, HU.out⟩
          · have HU := Lib.hid (H5.out.2.2.2.1.trans (H6.out.2.2.2.2.2.2.2.trans hu8))
            clear H5 H6 hu8
            go_wp2_with fail
            go_ret
            exact ⟨rfl, HU.out⟩
        · have HU := Lib.hid (H5.out.2.2.2.1.trans hu7)
          clear H5 hu7 hcn
          go_wp2_with fail
          go_ret
          exact ⟨rfl, HU.out⟩
end Go.Proofs.YtbhmeagliebfdaaDoor

