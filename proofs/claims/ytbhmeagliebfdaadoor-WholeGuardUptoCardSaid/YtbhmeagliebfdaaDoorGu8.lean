/- uri: decode. -/
import Derived.Test.YtbhmeagliebfdaaDoorGu7
namespace Go.Proofs.YtbhmeagliebfdaaDoor
open Go Go.RowKit
set_option linter.unusedSimpArgs false
set_option linter.unusedVariables false
set_option maxRecDepth 100000
theorem digP_le (c : UInt8) : -1 ≤ digP c ∧ digP c ≤ 15 := by
  unfold digP
  split
  · omega
  · split
    · omega
    · split <;> omega
theorem or_natB (a c : Nat) (ha : a < 4294967296) (hc : c < 4294967296) : bits BinOp.or IntKind.i64 (a : Int) (c : Int) = ((a ||| c : Nat) : Int) := by
  have h : (BitVec.ofInt 64 (a : Int) ||| BitVec.ofInt 64 (c : Int)).toNat = a ||| c := by
    rw [BitVec.ofInt_natCast, BitVec.ofInt_natCast, BitVec.toNat_or, BitVec.toNat_ofNat, BitVec.toNat_ofNat, Nat.mod_eq_of_lt (by omega), Nat.mod_eq_of_lt (by omega)]
  have hl : a ||| c < 4294967296 := Nat.or_lt_two_pow (n := 32) ha hc
  show IntKind.i64.wrap (((BitVec.ofInt 64 (a : Int) ||| BitVec.ofInt 64 (c : Int)).toNat : Nat) : Int) = _
  rw [h, IntKind.wrap_i64]
  omega
set_option maxRecDepth 100000 in
theorem or_nib : ∀ a : Fin 16, ∀ c : Fin 16, ((a.val * 16) ||| c.val) = 16 * a.val + c.val := by decide
theorem or_hex (a c : Nat) (ha : a < 16) (hc : c < 16) : bits BinOp.or IntKind.i64 ((a : Int) * 16) (c : Int) = ((16 * a + c : Nat) : Int) := by
  have h1 := or_natB (a * 16) c (by omega) (by omega)
  rw [or_nib ⟨a, ha⟩ ⟨c, hc⟩] at h1
  simpa using h1
/-- In the middle of decode: what is left gives the rest. -/
def DecR (w : World) (s : By) (b i : Nat) (wr : World) : Prop :=
  ∃ (v : Value) (acc : By), i ≤ s.length ∧ BldAt wr w.heap.size b v acc ∧ Upd (fun _ => False) w wr ∧ acc.length ≤ i ∧ decP s = (decP (s.drop i)).map (acc ++ ·)
theorem DecR.upd {w wr : World} {s : By} {b i : Nat} (h : DecR w s b i wr) : Upd (fun _ => False) w wr := let ⟨_, _, _, _, h, _⟩ := h; h
set_option maxHeartbeats 1000000 in
theorem decode_ok {w : World} (s : By) (hs : s.length ≤ 1000000000) (hG : Glob w) : Calls Tryd.prog 53 #[.string (bs s)] w fun e w' => TwoOk (decodeP s) e ∧ Upd (fun _ => False) w w' := by
  obtain ⟨S, hS⟩ : ∃ S, bs s = S := ⟨_, rfl⟩
  have hsz := bs_size s
  rw [hS] at hsz ⊢
  obtain ⟨n, hn⟩ : ∃ n, S.size = n := ⟨_, rfl⟩
  have hnI : (n : Int) ≤ 1000000000 := by omega
  have H := Lib.hid (And.intro hS (And.intro hsz (And.intro hs hG)))
  clear hS hsz hs hG
  go_enter Tryd.func53, Tryd.ntmps53
  go_wp2_with fail
  have HR0 : Hid (DecR w s w.heap.size 0 (w.alloc (.cells #[.pointer none, .slice none 0 0] 50))) := Lib.hid ⟨_, [], Nat.zero_le _, BldAt.new w, (Upd.refl _ w).alloc _, Nat.le_refl _, by simp⟩
  obtain ⟨b, hb⟩ : ∃ b, w.heap.size = b := ⟨_, rfl⟩
  have Hb := Lib.hid hb
  rw [hb] at HR0 ⊢
  clear hb
  generalize w.alloc (.cells #[.pointer none, .slice none 0 0] 50) = w1 at HR0 ⊢
  go_loopw [5] (fun iv wr => ∃ (i : Nat), i ≤ n ∧ iv = .int .i64 i ∧ Hid (DecR w s b i wr)) (fun iv _ => n - (intOf iv).toNat)
  case atStart => exact ⟨0, Nat.zero_le _, rfl, HR0⟩
  case round =>
    obtain ⟨i, hi, rfl, HR⟩ := hrel
    clear HR0
    by_cases hlt : i < n
    · have hltI : (i : Int) < (n : Int) := by omega
      have hil : i < s.length := by have := H.out.2.1; omega
      have hiS : i < S.size := by rw [hn]; exact hlt
      obtain ⟨x, hx⟩ : ∃ x, S[i]'hiS = x := ⟨_, rfl⟩
      have hsx : s[i] = x := by rw [← hx, get_bs H.out.1 i hiS hil]
      have hdr : s.drop i = x :: s.drop (i + 1) := by rw [← hsx]; exact List.drop_eq_getElem_cons hil
      obtain ⟨z, hz⟩ : ∃ z : Int, ((S[i]'hiS).toNat : Int) = z := ⟨_, rfl⟩
      have hxz : (x.toNat : Int) = z := by rw [← hx]; exact hz
      have h37 : x = 37 ↔ z = 37 := by
        rw [← hxz]
        constructor
        · intro e; rw [e]; rfl
        · intro e; exact UInt8.toNat_inj.1 (by show x.toNat = 37; omega)
      by_cases hp : z = 37
      · have hp' : (z == 37) = true := beq_iff_eq.2 hp
        have hx37 := h37.2 hp
        rw [hx37] at hdr
        by_cases h2l : i + 2 < n
        · have h1i : i + 1 < s.length := by have := H.out.2.1; omega
          have h2i : i + 2 < s.length := by have := H.out.2.1; omega
          have h1S : i + 1 < S.size := by omega
          have h2S : i + 2 < S.size := by omega
          obtain ⟨a, ha⟩ : ∃ a, S[i + 1]'h1S = a := ⟨_, rfl⟩
          obtain ⟨c, hc⟩ : ∃ c, S[i + 2]'h2S = c := ⟨_, rfl⟩
          have hsa : s[i + 1] = a := by rw [← ha, get_bs H.out.1 (i + 1) h1S h1i]
          have hsc : s[i + 2] = c := by rw [← hc, get_bs H.out.1 (i + 2) h2S h2i]
          have hdr2 : s.drop i = 37 :: a :: c :: s.drop (i + 3) := by
            rw [hdr, List.drop_eq_getElem_cons h1i, hsa, List.drop_eq_getElem_cons h2i, hsc]
          have hdc := decP_pct a c (s.drop (i + 3))
          rw [← hdr2] at hdc
          have hda := digit_ok a
          have hdcc := digit_ok c
          have hra := digP_le a
          have hrc := digP_le c
          obtain ⟨da, hda'⟩ : ∃ da, digP a = da := ⟨_, rfl⟩
          obtain ⟨dc, hdc'⟩ : ∃ dc, digP c = dc := ⟨_, rfl⟩
          rw [hda'] at hda hdc hra
          rw [hdc'] at hdcc hdc hrc
          have haI : ((S[i + 1]'h1S).toNat : Int) = (a.toNat : Int) := by rw [ha]
          have hcI : ((S[i + 2]'h2S).toNat : Int) = (c.toNat : Int) := by rw [hc]
          have hcI2 : ((S[((i : Int) + 2).toNat]'(by omega)).toNat : Int) = (c.toNat : Int) := by
            have ht : ((i : Int) + 2).toNat = i + 2 := by omega
            simp only [ht]
            exact hcI
          have h2I : ¬ ((n : Int) ≤ (i : Int) + 2) := by omega
          have HD := Lib.hid (And.intro hda (And.intro hdcc hdc))
          clear hda hdcc hdc hdr2 hdr hsa hsc ha hc hda' hdc' hsx hx hxz h37 hil hx37 h1i h2i
          have HU := Lib.hid HR.out.upd
          by_cases hn1 : da < 0
          · have hnn : Hid (decodeP s = none) := Lib.hid (by
              obtain ⟨v, acc, _, _, _, _, h5⟩ := HR.out
              rw [decodeP, h5, HD.out.2.2, if_pos (.inl hn1)]; rfl)
            go_wp2_with fail
            refine (HD.out.1 wr).mono ?_
            rintro e w3 ⟨rfl, rfl⟩
            dsimp only
            go_wp2_with fail
            go_ret2
            exact ⟨⟨[], false, rfl, .inr ⟨rfl, hnn.out⟩⟩, HU.out⟩
          by_cases hn2 : dc < 0
          · have hnn : Hid (decodeP s = none) := Lib.hid (by
              obtain ⟨v, acc, _, _, _, _, h5⟩ := HR.out
              rw [decodeP, h5, HD.out.2.2, if_pos (.inr hn2)]; rfl)
            go_wp2_with fail
            refine (HD.out.1 wr).mono ?_
            rintro e w3 ⟨rfl, rfl⟩
            dsimp only
            go_wp2_with fail
            refine (HD.out.2.1 _).mono ?_
            rintro e w3 ⟨rfl, rfl⟩
            dsimp only
            go_wp2_with fail
            go_ret2
            exact ⟨⟨[], false, rfl, .inr ⟨rfl, hnn.out⟩⟩, HU.out⟩
          obtain ⟨ea, rfl⟩ : ∃ ea : Nat, da = (ea : Int) := ⟨da.toNat, by omega⟩
          obtain ⟨ec, rfl⟩ : ∃ ec : Nat, dc = (ec : Int) := ⟨dc.toNat, by omega⟩
          have hdc2 : decP (s.drop i) = (decP (s.drop (i + 3))).map (UInt8.ofNat (16 * ea + ec) :: ·) := by
            rw [HD.out.2.2, if_neg (by omega)]; rfl
          have HD2 := Lib.hid hdc2
          clear hdc2 hn1 hn2
          go_wp2_with fail
          refine (HD.out.1 wr).mono ?_
          rintro e w3 ⟨rfl, rfl⟩
          dsimp only
          go_wp2_with fail
          refine (HD.out.2.1 _).mono ?_
          rintro e w3 ⟨rfl, rfl⟩
          dsimp only
          go_wp2_with fail
          have HS : True := trivial
          have q2 : IntKind.i64.wrap ((ea : Int) * 16) = (ea : Int) * 16 := by rw [IntKind.wrap_i64]; omega
          have q3 := or_hex ea ec (by omega) (by omega)
          obtain ⟨y, hy⟩ : ∃ y, 16 * ea + ec = y := ⟨_, rfl⟩
          have hy256 : y < 256 := by omega
          rw [hy] at q3
          have q4 : IntKind.u8.wrap (y : Int) = (y : Int) := by rw [IntKind.wrap_u8]; omega
          have hwi1 : IntKind.i64.wrap ((i : Int) + 1) = (i : Int) + 1 := by rw [IntKind.wrap_i64]; omega
          have hwi2 : IntKind.i64.wrap ((i : Int) + 2) = (i : Int) + 2 := by rw [IntKind.wrap_i64]; omega
          have hlz1 : 0 ≤ (i : Int) + 1 := by omega
          have hlz2 : 0 ≤ (i : Int) + 2 := by omega
          have hli1 : (i : Int) + 1 < (n : Int) := by omega
          have hli2 : (i : Int) + 2 < (n : Int) := by omega
          refine wp_region_planD (fun _ => True) 14 [(0, true), (1, true), (2, true), (3, true), (6, true), (7, true), (8, true), (9, true), (4, false), (5, true), (10, false), (11, true), (12, true), (13, true)] (by kernel_rfl) (by kernel_rfl) (fun d _ _ _ _ h => by cases d <;> exact h) HS ?_
          iterate 8 (first | (apply planD_held rfl rfl rfl (by simp) HS; (intro w' hS K hK; go_simp; exact hK)) | (apply planD_wanted rfl rfl rfl (by simp) HS; (intro w' hS K hK; go_simp; exact hK)))
          refine planD_op rfl rfl (fun K hK => ?_)
          go_simp
          refine (HD.out.1 _).mono ?_
          rintro e w3 ⟨rfl, rfl⟩
          dsimp only
          refine hK _ _ _ (fun u h => h) (fun _ => trivial) ?_
          clear hK
          try (simp only [Act.put, List.setIfInBounds_toArray, List.set_cons_zero, List.set_cons_succ])
          iterate 1 (first | (apply planD_held rfl rfl rfl (by simp) HS; (intro w' hS K hK; go_simp; exact hK)) | (apply planD_wanted rfl rfl rfl (by simp) HS; (intro w' hS K hK; go_simp; exact hK)))
          refine planD_op rfl rfl (fun K hK => ?_)
          go_simp
          refine (HD.out.2.1 _).mono ?_
          rintro e w3 ⟨rfl, rfl⟩
          dsimp only
          refine hK _ _ _ (fun u h => h) (fun _ => trivial) ?_
          clear hK
          try (simp only [Act.put, List.setIfInBounds_toArray, List.set_cons_zero, List.set_cons_succ])
          iterate 3 (first | (apply planD_held rfl rfl rfl (by simp) HS; (intro w' hS K hK; go_simp; exact hK)) | (apply planD_wanted rfl rfl rfl (by simp) HS; (intro w' hS K hK; go_simp; exact hK)))
          refine planD_nil ?_
          obtain ⟨v, acc, h1, h2, h3, h4, h5⟩ := HR.out
          have hud : Upd (fun _ => False) w3 w3.drew.drew.drew := (Upd.refl _ w3).drew.drew.drew
          have hyc : (UInt8.ofNat y).toNat = y := by simp [Nat.mod_eq_of_lt hy256]
          have hz3 := h3.size
          have HW : Hid (∀ wX, Upd (fun _ => False) w3 wX → (Calls Tryd.prog 13 #[.pointer (some ⟨b, 0, none⟩), .int .u8 (y : Nat)] wX fun e w' => e = .returned .nilIface ∧ ∃ v', BldAt w' w.heap.size b v' (acc ++ [UInt8.ofNat y]) ∧ Upd (fun q => w.heap.size ≤ q) wX w') ∧ Upd (fun _ => False) w wX) := Lib.hid fun wX hu => by
            have hwb := wbyte_ok (h2.upd hu (fun h => h) (fun _ _ h => h)) (by have := hu.size; omega) (by rw [← Hb.out]; exact Nat.le_refl _) (UInt8.ofNat y) (by have := H.out.2.2.1; have := H.out.2.1; omega)
            rw [hyc] at hwb
            exact ⟨hwb, h3.trans hu⟩
          have HQ : Hid (acc.length ≤ i ∧ decP s = (decP (s.drop (i + 3))).map ((acc ++ [UInt8.ofNat y]) ++ ·)) := Lib.hid ⟨h4, by rw [h5, HD2.out, hy, Option.map_map]; congr 1; funext t; simp⟩
          clear h1 h2 h3 h4 h5 hz3 hyc hud HR HD HD2 HS q2 q3 hwi1 hwi2 hlz1 hlz2 hli1 hli2 haI hcI hcI2 hy
          have HV := Lib.hid (HW.out w3.drew (Upd.refl _ w3).drew)
          clear HW
          generalize w3.drew = w4 at HV ⊢
          go_wp2_with fail
          refine HV.out.1.mono ?_
          rintro e w5 ⟨rfl, v', hb', hu⟩
          dsimp only
          have HJ : Hid (DecR w s b (i + 3) w5) := Lib.hid ⟨v', acc ++ [UInt8.ofNat y], by have := H.out.2.1; omega, hb', HV.out.2.then hu (fun q hq => .inr hq), by rw [List.length_append]; have := HQ.out.1; simp; omega, HQ.out.2⟩
          clear HV HQ hb' hu
          go_wp2_with fail
          exact ⟨⟨i + 3, by omega, by go_num, HJ⟩, by simp [intOf] <;> omega⟩
        · have hno : decP (s.drop i) = none := by rw [hdr]; exact decP_short _ (by rw [List.length_drop]; have := H.out.2.1; omega)
          have hnn : Hid (decodeP s = none) := Lib.hid (by
            obtain ⟨v, acc, _, _, _, _, h5⟩ := HR.out
            rw [decodeP, h5, hno]; rfl)
          have h2I : (n : Int) ≤ (i : Int) + 2 := by omega
          have HU := Lib.hid HR.out.upd
          clear hno hdr hsx hx hxz h37 hil hp HR hx37 h2l
          go_wp2_with fail
          go_ret2
          exact ⟨⟨[], false, rfl, .inr ⟨rfl, hnn.out⟩⟩, HU.out⟩
      · have hp' : (z == 37) = false := beq_eq_false_iff_ne.2 hp
        have hnx : x ≠ 37 := fun e => hp (h37.1 e)
        have hdc : decP (s.drop i) = (decP (s.drop (i + 1))).map (x :: ·) := by rw [hdr]; exact decP_other x _ hnx
        obtain ⟨v, acc, _, h2, h3, h4, h5⟩ := HR.out
        have hwb := wbyte_ok h2 (by have := h3.size; omega) (by rw [← Hb.out]; exact Nat.le_refl _) x (by have := H.out.2.2.1; omega)
        rw [hxz] at hwb
        have HW := Lib.hid (And.intro hwb (And.intro h3 (And.intro h4 (show decP s = (decP (s.drop (i + 1))).map ((acc ++ [x]) ++ ·) by rw [h5, hdc, Option.map_map]; congr 1; funext t; simp))))
        clear hwb h2 h3 h4 h5 hdc hdr hsx hx hxz h37 hil hnx hp HR
        go_wp2_with fail
        refine HW.out.1.mono ?_
        rintro e w3 ⟨rfl, v', hb', hu⟩
        dsimp only
        have HJ : Hid (DecR w s b (i + 1) w3) := Lib.hid ⟨v', acc ++ [x], by have := H.out.2.1; omega, hb', HW.out.2.1.then hu (fun q hq => .inr hq), by rw [List.length_append]; have := HW.out.2.2.1; simp; omega, HW.out.2.2.2⟩
        clear HW hb' hu
        go_wp2_with fail
        exact ⟨⟨i + 1, by omega, by go_num, HJ⟩, by simp [intOf] <;> omega⟩
    · obtain rfl : i = n := by omega
      obtain ⟨v, acc, h1, h2, h3, h4, h5⟩ := HR.out
      have hds : s.drop i = [] := List.drop_eq_nil_of_le (by have := H.out.2.1; omega)
      rw [hds, show decP [] = some [] from rfl] at h5
      simp only [Option.map_some, List.append_nil] at h5
      have hst := bstring_ok h2 (by have := H.out.2.2.1; have := H.out.2.1; omega)
      have hdp : decodeP s = if saneP acc = true then some acc else none := by rw [decodeP, h5]
      have hal : acc.length ≤ 1000000000 := by have := H.out.2.2.1; have := H.out.2.1; omega
      have HW := Lib.hid (And.intro hst (And.intro h3 (And.intro hdp (And.intro hal h2.own))))
      clear hst h2 h3 h4 h5 hds hdp h1 HR hal
      go_wp2_with fail
      refine HW.out.1.mono ?_
      rintro e w3 ⟨rfl, hu⟩
      dsimp only
      have hu3 : Upd (fun _ => False) w w3 := HW.out.2.1.then hu (fun q hq => .inr (HW.out.2.2.2.2 q hq).1)
      have hv := valid_ok acc (by have := HW.out.2.2.2.1; omega) (H.out.2.2.2.upd hu3)
      have HV := Lib.hid (And.intro hv hu3)
      clear hv hu3 hu
      cases hvd : Lib.validD acc
      · rw [hvd] at HV
        have hres : Hid (decodeP s = none) := Lib.hid (by rw [HW.out.2.2.1, saneP, hvd]; rfl)
        clear hvd
        go_wp2_with fail
        refine HV.out.1.mono ?_
        rintro e w4 ⟨rfl, hu⟩
        dsimp only
        go_wp2_with fail
        go_ret2
        exact ⟨⟨acc, false, rfl, .inr ⟨rfl, hres.out⟩⟩, HV.out.2.trans hu⟩
      · rw [hvd] at HV
        have hsl : saneP acc = !slP acc := by rw [saneP, hvd]; rfl
        have Hsl := Lib.hid hsl
        clear hvd hsl
        go_wp2_with fail
        refine HV.out.1.mono ?_
        rintro e w4 ⟨rfl, hu⟩
        dsimp only
        have HU := Lib.hid (HV.out.2.trans hu)
        clear hu
        go_wp2_with fail
        refine (cany_sl acc (by have := HW.out.2.2.2.1; omega) w4).mono ?_
        rintro e w5 ⟨rfl, hu⟩
        dsimp only
        have HU2 := Lib.hid (HU.out.trans hu)
        clear hu
        go_wp2_with fail
        go_ret2
        refine ⟨⟨acc, !slP acc, rfl, ?_⟩, HU2.out⟩
        rw [HW.out.2.2.1, Hsl.out]
        cases slP acc
        · exact .inl ⟨rfl, rfl⟩
        · exact .inr ⟨rfl, rfl⟩
end Go.Proofs.YtbhmeagliebfdaaDoor
