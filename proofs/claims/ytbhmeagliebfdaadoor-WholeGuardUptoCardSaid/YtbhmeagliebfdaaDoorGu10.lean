/- uri: Text. -/
import Derived.Test.YtbhmeagliebfdaaDoorGu9
namespace Go.Proofs.YtbhmeagliebfdaaDoor
open Go Go.RowKit
set_option linter.unusedSimpArgs false
set_option linter.unusedVariables false
set_option maxRecDepth 100000
theorem encP_len (c : UInt8) : 1 ≤ (encP c).length ∧ (encP c).length ≤ 3 := by
  unfold encP; split <;> simp
theorem flat_enc_len : ∀ (s : By), (s.flatMap encP).length ≤ 3 * s.length
  | [] => by simp
  | c :: r => by
    have h1 := (encP_len c).2
    have h2 := flat_enc_len r
    rw [List.flatMap_cons, List.length_append, List.length_cons]; omega
theorem segE_len (s : By) : (segE s).length ≤ 3 * s.length + 1 := by
  have := flat_enc_len s
  unfold segE; rw [List.length_cons]; omega
theorem flat_seg_len : ∀ (p : List By), (∀ s ∈ p, s.length ≤ 64) → (p.flatMap segE).length ≤ 200 * p.length
  | [], _ => by simp
  | s :: r, h => by
    have h1 := segE_len s
    have h2 := h s (List.mem_cons_self ..)
    have h3 := flat_seg_len r (fun x hx => h x (List.mem_cons_of_mem _ hx))
    rw [List.flatMap_cons, List.length_append, List.length_cons]; omega
theorem pathP_mem {p : List By} (h : pathP p = true) : p.length ≤ 12 ∧ ∀ s ∈ p, segP s = true ∧ s.length ≤ 64 := by
  unfold pathP at h
  rw [Bool.and_eq_true, List.all_eq_true, decide_eq_true_eq] at h
  refine ⟨h.2, fun s hs => ⟨h.1 s hs, ?_⟩⟩
  have := h.1 s hs
  simp [segP] at this
  omega
def digsB : ByteArray := ⟨#[48, 49, 50, 51, 52, 53, 54, 55, 56, 57, 65, 66, 67, 68, 69, 70]⟩
theorem digs_at (h : Nat) (hh : h < 16) : digsB.extract h (h + 1) = bs [hexP h] := by
  have e : digsB = bs [48, 49, 50, 51, 52, 53, 54, 55, 56, 57, 65, 66, 67, 68, 69, 70] := rfl
  rw [e, bs_extract2, show h + 1 - h = 1 by omega]
  congr 1
  match h, hh with
  | 0, _ => rfl
  | 1, _ => rfl
  | 2, _ => rfl
  | 3, _ => rfl
  | 4, _ => rfl
  | 5, _ => rfl
  | 6, _ => rfl
  | 7, _ => rfl
  | 8, _ => rfl
  | 9, _ => rfl
  | 10, _ => rfl
  | 11, _ => rfl
  | 12, _ => rfl
  | 13, _ => rfl
  | 14, _ => rfl
  | 15, _ => rfl
  | h + 16, hh => omega
set_option maxRecDepth 100000 in
theorem and15 : ∀ X : Fin 256, bits .and .u8 ((X.val : Nat) : Int) 15 = ((X.val % 16 : Nat) : Int) := by decide
theorem hex_str (h l : Nat) (hh : h < 16) (hl : l < 16) : (⟨#[37]⟩ : ByteArray) ++ digsB.extract h (h + 1) ++ digsB.extract l (l + 1) = bs [37, hexP h, hexP l] := by
  rw [digs_at h hh, digs_at l hl]
  rfl
/-- In the middle of Text. -/
def TxtR (w : World) (b : Nat) (acc : By) (wr : World) : Prop := ∃ v : Value, BldAt wr w.heap.size b v acc ∧ Upd (fun _ => False) w wr
theorem TxtR.byte {w wr : World} {b : Nat} {acc : By} (h : TxtR w b acc wr) (hb : w.heap.size ≤ b) (c : UInt8) (hl : acc.length ≤ 100000) :
    Calls Tryd.prog 13 #[.pointer (some ⟨b, 0, none⟩), .int .u8 (c.toNat : Nat)] wr fun e w' => e = .returned .nilIface ∧ TxtR w b (acc ++ [c]) w' := by
  obtain ⟨v, h1, h2⟩ := h
  refine (wbyte_ok h1 h2.size hb c (by omega)).mono ?_
  rintro e w' ⟨rfl, v', h3, h4⟩
  exact ⟨rfl, v', h3, h2.then h4 (fun q hq => .inr hq)⟩
theorem TxtR.str {w wr : World} {b : Nat} {acc : By} (h : TxtR w b acc wr) (hb : w.heap.size ≤ b) (t : By) (ht : 0 < t.length) (ht2 : t.length ≤ 10) (hl : acc.length ≤ 100000) :
    Calls Tryd.prog 15 #[.pointer (some ⟨b, 0, none⟩), .string (bs t)] wr fun e w' => (∃ n : Nat, e = .returned (.tuple #[.int .i64 n, .nilIface])) ∧ TxtR w b (acc ++ t) w' := by
  obtain ⟨v, h1, h2⟩ := h
  have hs := bs_size t
  refine (wstr_ok h1 h2.size hb (bs t) (by omega) (by omega)).mono ?_
  rintro e w' ⟨rfl, v', h3, h4⟩
  rw [bs_data] at h3
  exact ⟨⟨_, rfl⟩, v', h3, h2.then h4 (fun q hq => .inr hq)⟩
set_option maxHeartbeats 2000000 in
theorem text_ok {w : World} {x : Option Addr} {n c : Nat} {p : List By} (h : Sees w 1 (.slice x n c) n (strsV p)) (hp : pathP p = true) (hG : Glob w) :
    Calls Tryd.prog 6 #[.slice x n c] w fun e w' => e = .returned (.string (bs (textP p))) ∧ Upd (fun _ => False) w w' := by
  have hl := sees_len h
  have hpm := pathP_mem hp
  have hgd := good_ok h (fun s hs => Nat.le_trans (hpm.2 s hs).2 (by decide)) hG
  rw [hp] at hgd
  have hn12 : n ≤ 12 := by omega
  have hnI : (n : Int) ≤ 12 := by omega
  have H := Lib.hid (And.intro h (And.intro hgd (And.intro hl hpm)))
  clear h hgd hl hpm hG
  by_cases h0 : n = 0
  · subst h0
    have ht : textP p = [47] := by
      have : p = [] := List.eq_nil_of_length_eq_zero H.out.2.2.1
      rw [this]; rfl
    rw [ht]
    go_enter Tryd.func6, Tryd.ntmps6
    go_wp2_with fail
    refine H.out.2.1.mono ?_
    rintro e w1 ⟨rfl, hu⟩
    dsimp only
    go_wp2_with fail
    go_ret
    exact ⟨rfl, hu⟩
  have hnz : ((n : Int) == 0) = false := beq_eq_false_iff_ne.2 (by omega)
  have ht : textP p = p.flatMap segE := by
    rw [textP, hp, if_pos rfl, if_neg (fun e => h0 (by rw [← H.out.2.2.1, e]; rfl))]
  rw [ht]
  clear ht hp h0
  go_enter Tryd.func6, Tryd.ntmps6
  go_wp2_with fail
  refine H.out.2.1.mono ?_
  rintro e w1 ⟨rfl, hu⟩
  dsimp only
  have HU := Lib.hid hu
  clear hu
  go_wp2_with fail
  have HR0 : Hid (TxtR w1 w1.heap.size [] (w1.alloc (.cells #[.pointer none, .slice none 0 0] 50))) := Lib.hid ⟨_, BldAt.new w1, (Upd.refl _ w1).alloc _⟩
  obtain ⟨b, hb⟩ : ∃ b, w1.heap.size = b := ⟨_, rfl⟩
  have Hb : Hid (w1.heap.size ≤ b) := Lib.hid (by omega)
  rw [hb] at HR0 ⊢
  clear hb
  generalize w1.alloc (.cells #[.pointer none, .slice none 0 0] 50) = w2 at HR0 ⊢
  go_loopw [15] (fun iv wr => ∃ (i : Nat), i ≤ n ∧ iv = .int .i64 i ∧ Hid (TxtR w1 b ((p.take i).flatMap segE) wr)) (fun iv _ => n - (intOf iv).toNat)
  case atStart => exact ⟨0, Nat.zero_le _, rfl, HR0⟩
  case round =>
    obtain ⟨i, hi, rfl, HR⟩ := hrel
    clear HR0
    have hu1 : Upd (fun _ => False) w1 wr := let ⟨_, _, h⟩ := HR.out; h
    by_cases hlt : i < n
    · have hltI : (i : Int) < (n : Int) := by omega
      have hil : i < p.length := by rw [H.out.2.2.1]; exact hlt
      obtain ⟨g, o, rfl, c1⟩ := sees_one (Sees.upd (HU.out.trans hu1) H.out.1 (fun _ _ _ h => h)) i hlt (strsV_at p i hil)
      have hts : (p.take (i + 1)).flatMap segE = (p.take i).flatMap segE ++ segE p[i] := by
        rw [List.take_succ_eq_append_getElem hil, List.flatMap_append]; simp
      have hsl := (H.out.2.2.2.2 _ (List.getElem_mem hil)).2
      have hal : ((p.take i).flatMap segE).length ≤ 2400 := by
        have h1 := flat_seg_len (p.take i) (fun s hs => (H.out.2.2.2.2 s (List.mem_of_mem_take hs)).2)
        rw [List.length_take] at h1
        omega
      obtain ⟨s, hs⟩ : ∃ s, p[i] = s := ⟨_, rfl⟩
      rw [hs] at c1 hts hsl
      obtain ⟨acc, hacc⟩ : ∃ acc, (p.take i).flatMap segE = acc := ⟨_, rfl⟩
      rw [hacc] at HR hts hal
      obtain ⟨S, hS⟩ : ∃ S, bs s = S := ⟨_, rfl⟩
      have hsz := bs_size s
      rw [hS] at c1 hsz
      obtain ⟨m, hm⟩ : ∃ m, S.size = m := ⟨_, rfl⟩
      have hmI : (m : Int) ≤ 64 := by omega
      have hwb := HR.out.byte Hb.out 47 (by omega)
      have HS := Lib.hid (And.intro hwb (And.intro hts (And.intro hal (And.intro hS hsz))))
      clear hwb hts hal hS hsz hs hacc hil hu1 hsl
      go_wp2_with fail
      refine HS.out.1.mono ?_
      rintro e w3 ⟨rfl, h3⟩
      dsimp only
      have HJ0 : Hid (TxtR w1 b (acc ++ (47 :: (s.take 0).flatMap encP)) w3) := Lib.hid h3
      clear h3 HR c1
      go_wp2_with fail
      go_loopw [22] (fun jv wr2 => ∃ (j : Nat), j ≤ m ∧ jv = .int .i64 j ∧ Hid (TxtR w1 b (acc ++ (47 :: (s.take j).flatMap encP)) wr2)) (fun jv _ => m - (intOf jv).toNat)
      case atStart => exact ⟨0, Nat.zero_le _, rfl, HJ0⟩
      case round =>
        obtain ⟨j, hj, rfl, HJ⟩ := hrel
        clear HJ0
        by_cases hjm : j < m
        · have hjI : (j : Int) < (m : Int) := by omega
          have hjl : j < s.length := by have := HS.out.2.2.2.2; omega
          have hjS : j < S.size := by rw [hm]; exact hjm
          obtain ⟨x, hx⟩ : ∃ x, S[j]'hjS = x := ⟨_, rfl⟩
          have hsx : s[j] = x := by rw [← hx, get_bs HS.out.2.2.2.1 j hjS hjl]
          have htk : (s.take (j + 1)).flatMap encP = (s.take j).flatMap encP ++ encP x := by
            rw [List.take_succ_eq_append_getElem hjl, hsx, List.flatMap_append]; simp
          have hfl := flat_enc_len (s.take j)
          rw [List.length_take] at hfl
          obtain ⟨a2, ha2⟩ : ∃ a2, acc ++ (47 :: (s.take j).flatMap encP) = a2 := ⟨_, rfl⟩
          have hal2 : a2.length ≤ 3000 := by
            rw [← ha2, List.length_append, List.length_cons]
            have := HS.out.2.2.1
            omega
          have hnx : acc ++ (47 :: (s.take (j + 1)).flatMap encP) = a2 ++ encP x := by rw [htk, ← ha2]; simp
          rw [ha2] at HJ
          have hxI : ((S[j]'hjS).toNat : Int) = (x.toNat : Int) := by rw [hx]
          have HX := Lib.hid (And.intro hnx hal2)
          clear htk hfl ha2 hal2 hnx hsx hjl hx
          cases hbx : bareP x
          · have hbo := bare_ok x wr
            rw [hbx] at hbo
            have hx256 : x.toNat < 256 := x.toNat_lt
            have hen : encP x = [37, hexP (x.toNat / 16), hexP (x.toNat % 16)] := by rw [encP, hbx]; rfl
            have q1 := and15 ⟨x.toNat, hx256⟩
            obtain ⟨hi', hhi⟩ : ∃ hi', x.toNat / 16 = hi' := ⟨_, rfl⟩
            obtain ⟨lo, hlo⟩ : ∃ lo, x.toNat % 16 = lo := ⟨_, rfl⟩
            have hh16 : hi' < 16 := by omega
            have hl16 : lo < 16 := by omega
            have q2 : (x.toNat : Int) / 16 = (hi' : Int) := by omega
            rw [hhi, hlo] at hen
            simp only [hlo] at q1
            have q3 : IntKind.u8.wrap ((hi' : Int) + 1) = (hi' : Int) + 1 := by rw [IntKind.wrap_u8]; omega
            have q4 : IntKind.u8.wrap ((lo : Int) + 1) = (lo : Int) + 1 := by rw [IntKind.wrap_u8]; omega
            have q5 : (hi' : Int) + 1 ≤ 16 := by omega
            have q6 : (lo : Int) + 1 ≤ 16 := by omega
            have q7 : (hi' : Int) ≤ (hi' : Int) + 1 := by omega
            have q8 : (lo : Int) ≤ (lo : Int) + 1 := by omega
            have hE := hex_str hi' lo hh16 hl16
            have q9 : (⟨#[48, 49, 50, 51, 52, 53, 54, 55, 56, 57, 65, 66, 67, 68, 69, 70]⟩ : ByteArray).extract hi' (hi' + 1) = bs [hexP hi'] := digs_at hi' hh16
            have q10 : (⟨#[48, 49, 50, 51, 52, 53, 54, 55, 56, 57, 65, 66, 67, 68, 69, 70]⟩ : ByteArray).extract lo (lo + 1) = bs [hexP lo] := digs_at lo hl16
            rw [digs_at hi' hh16, digs_at lo hl16] at hE
            obtain ⟨E1, hE1⟩ : ∃ E1, bs [hexP hi'] = E1 := ⟨_, rfl⟩
            obtain ⟨E2, hE2⟩ : ∃ E2, bs [hexP lo] = E2 := ⟨_, rfl⟩
            have z1 : E1.size = 1 := by rw [← hE1, bs_size]; rfl
            have z2 : E2.size = 1 := by rw [← hE2, bs_size]; rfl
            rw [hE1] at q9 hE
            rw [hE2] at q10 hE
            have z3 : ((⟨#[37]⟩ : ByteArray) ++ E1).size = 2 := by rw [ByteArray.size_append, z1]; rfl
            have HE := Lib.hid (And.intro hen hE)
            clear hen hhi hlo hE hE1 hE2
            have HB := Lib.hid hbo
            clear hbo hbx
            go_wp2_with fail
            refine HB.out.mono ?_
            rintro e w4 ⟨rfl, rfl⟩
            dsimp only
            go_wp2_with fail
            have HS : True := trivial
            refine wp_region_planD (fun _ => True) 22 [(0, true), (1, true), (2, true), (3, true), (4, true), (5, true), (6, true), (7, true), (8, true), (9, true), (10, true), (11, true), (12, true), (13, true), (14, true), (15, true), (16, true), (17, true), (18, true), (19, true), (20, true), (21, true), (22, false)] (by kernel_rfl) (by kernel_rfl) (fun d _ _ _ _ h => by cases d <;> exact h) HS ?_
            iterate 22 (first | (apply planD_held rfl rfl rfl (by simp) HS; (intro w' hS K hK; go_simp; exact hK)) | (apply planD_wanted rfl rfl rfl (by simp) HS; (intro w' hS K hK; go_simp; exact hK)))
            refine planD_op rfl rfl (fun K hK => ?_)
            go_simp
            rw [HE.out.2]
            have hws := TxtR.str (wr := w4.drew) (show TxtR w1 b a2 w4.drew from (let ⟨v, h1, h2⟩ := HJ.out; ⟨v, h1.upd (Upd.refl (fun _ => False) w4).drew (fun h => h) (fun _ _ h => h), h2.drew⟩)) Hb.out [37, hexP hi', hexP lo] (by simp) (by simp) (by have := HX.out.2; omega)
            refine hws.mono ?_
            rintro e w5 ⟨⟨nn, rfl⟩, h5⟩
            dsimp only
            refine hK _ _ _ (fun u h => h) (fun h => absurd rfl h) ?_
            clear hK hws
            try (simp only [Act.put, List.setIfInBounds_toArray, List.set_cons_zero, List.set_cons_succ])
            refine planD_nil ?_
            have HK : Hid (TxtR w1 b (acc ++ (47 :: (s.take (j + 1)).flatMap encP)) w5) := Lib.hid (by rw [HX.out.1, HE.out.1]; exact h5)
            clear HE h5 HJ HX HB HS q1 q2 q3 q4 q5 q6 q7 q8 q9 q10 z1 z2 z3
            go_wp2_with fail
            exact ⟨⟨j + 1, by omega, by go_num, HK⟩, by simp [intOf] <;> omega⟩
          · have hbo := bare_ok x wr
            rw [hbx] at hbo
            have hen : encP x = [x] := by rw [encP, hbx]; rfl
            have HB := Lib.hid (And.intro hbo (And.intro (HJ.out.byte Hb.out x (by have := HX.out.2; omega)) hen))
            clear hbo hen hbx
            go_wp2_with fail
            refine HB.out.1.mono ?_
            rintro e w4 ⟨rfl, rfl⟩
            dsimp only
            go_wp2_with fail
            refine HB.out.2.1.mono ?_
            rintro e w4 ⟨rfl, h4⟩
            dsimp only
            have HK : Hid (TxtR w1 b (acc ++ (47 :: (s.take (j + 1)).flatMap encP)) w4) := Lib.hid (by rw [HX.out.1, HB.out.2.2]; exact h4)
            clear HB h4 HJ HX
            go_wp2_with fail
            exact ⟨⟨j + 1, by omega, by go_num, HK⟩, by simp [intOf] <;> omega⟩
        · obtain rfl : j = m := by omega
          have HE : Hid (TxtR w1 b ((p.take (i + 1)).flatMap segE) wr) := Lib.hid (by
            rw [HS.out.2.1]
            have h := HJ.out
            rw [List.take_of_length_le (by have := HS.out.2.2.2.2; omega)] at h
            exact h)
          clear HJ HS
          go_wp2_with fail
          exact ⟨⟨i + 1, by omega, by go_num, HE⟩, by simp [intOf] <;> omega⟩
    · obtain rfl : i = n := by omega
      have h1 := HR.out
      rw [List.take_of_length_le (by rw [H.out.2.2.1]; exact Nat.le_refl _)] at h1
      obtain ⟨v, h2, h3⟩ := h1
      have hal : (p.flatMap segE).length ≤ 2400 := by
        have h1 := flat_seg_len p (fun s hs => (H.out.2.2.2.2 s hs).2)
        have := H.out.2.2.1
        omega
      have HF := Lib.hid (And.intro (bstring_ok h2 (by omega)) (And.intro h3 h2.own))
      clear h2 h3 HR hu1
      go_wp2_with fail
      refine HF.out.1.mono ?_
      rintro e w4 ⟨rfl, hu⟩
      dsimp only
      go_wp2_with fail
      go_ret
      exact ⟨rfl, HU.out.trans (HF.out.2.1.then hu (fun q hq => .inr (HF.out.2.2 q hq).1))⟩
end Go.Proofs.YtbhmeagliebfdaaDoor
