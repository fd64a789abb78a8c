/- BlobParts: the walk. -/
import Derived.Test.YtmefbbmjamdnjaaBb8
namespace Go.Proofs.Ytmefbbmjamdnjaa
open Go Go.RowKit
set_option linter.unusedSimpArgs false
set_option linter.unusedVariables false
set_option maxRecDepth 100000

theorem piece_more (t : Bytes) (k c : Nat) : t.take k ++ (t.drop k).take c = t.take (k + c) := by
  rw [List.take_add]
theorem strV_data2 (s : ByteArray) : strV s.data.toList = s := by cases s; simp [strV]
/-- While the parts are read. -/
def PtR (w wr : World) (text : Bytes) (k : Nat) (y : Option Addr) (d : Nat) : Prop :=
  Mid wr 1 (.slice y k d) k (bvs (text.take k)) ∧ k ≤ text.length ∧ (∀ q, (Value.slice y k d).ownBlock = some q → w.heap.size ≤ q) ∧ Upd (fun _ => False) w wr
set_option maxHeartbeats 8000000 in
theorem blobParts_walk (s : ByteArray) (hs : s.size ≤ maxLen) (more : Nat) (hmore : more ≤ 65535) (xa : Option Addr) (xc : Nat) (us : List Nat) (hul : us.length ≤ 140737488355328) (hus : ∀ u ∈ us, u ≤ 65535) (W : World) (hsee : Sees W 1 (.slice xa us.length xc) us.length (us.map fun (u : Nat) => Value.int .u16 (u : Nat))) :
    Calls Try.prog 3 #[.string s, .int .u16 (more : Nat), .slice xa us.length xc] W fun e w' => e = .returned (.bool true) ∧ Below W.heap.size W w' := by
  obtain ⟨ln, hln⟩ : ∃ ln, us.length = ln := ⟨_, rfl⟩
  have HU := Lib.hid (And.intro hus (And.intro hsee hln))
  rw [hln] at hul ⊢
  have hmI : (more : Int) ≤ 65535 := by omega
  have hmw : IntKind.i64.wrap (more : Int) = (more : Int) := by rw [IntKind.wrap_i64]; omega
  have hlI : (ln : Int) ≤ 140737488355328 := by omega
  have Hs := Lib.hid hs
  clear hus hsee hln hs
  go_enter Try.func3, Try.ntmps3
  go_wp2_with fail
  refine (fixed_ok W).mono ?_
  rintro e w1 ⟨rfl, hu1⟩
  dsimp only
  have H1 := Lib.hid hu1
  clear hu1
  go_wp2_with fail
  refine (text_ok s Hs.out more hmore w1).mono ?_
  rintro e w2 ⟨t, rfl, hu2⟩
  dsimp only
  have H2 := Lib.hid (H1.out.trans hu2)
  clear hu2 H1 Hs
  by_cases hbig : 49152 < t.size
  · have hbI : (49152 : Int) < (t.size : Int) := by omega
    go_wp2_with fail
    go_ret
    exact ⟨rfl, H2.out.below0⟩
  · have hbI : (t.size : Int) ≤ 49152 := by omega
    go_wp2_with fail
    refine (newmem_ok 200 (by decide) w2 200 rfl).mono ?_
    rintro e w3 ⟨mb, K, rfl, hM, hu, hK⟩
    dsimp only
    have H3 := Lib.hid (And.intro hM (And.intro hu hK))
    clear hM hu hK
    go_wp2_with fail
    refine (write_any H3.out.1 t (by omega) (by decide)).mono ?_
    rintro e w4 ⟨head, rs, ef, K2, rfl, hM, hK, hu, hb⟩
    dsimp only
    have H4 := Lib.hid (And.intro hM (And.intro hb (((H2.out.trans H3.out.2.1).then hu (fun q hq => .inr (Nat.le_trans H2.out.size (H3.out.2.2 q hq)))))))
    clear hM hK hu hb H3 H2
    have HQ : Hid (PtR w4 w4 t.data.toList 0 none 0) := ⟨Mid.nil _ _, Nat.zero_le _, (fun q hq => by cases hq), Upd.refl _ _⟩
    go_wp2_with fail
    go_loopw [11, 12] (fun v iv wr => ∃ (i k d : Nat) (y : Option Addr), i ≤ ln + 1 ∧ iv = .int .i64 i ∧ v = .slice y k d ∧ Hid (PtR w4 wr t.data.toList k y d) ∧ (i = ln + 1 → k = t.data.toList.length)) (fun _ iv _ => (ln + 1) - (intOf iv).toNat)
    case atStart => exact ⟨0, 0, 0, none, Nat.zero_le _, rfl, rfl, HQ, fun h => by omega⟩
    case round =>
      clear HQ
      obtain ⟨i, k, d, y, hi, rfl, rfl, HR, hend⟩ := hrel
      by_cases hlt : i < ln
      · obtain ⟨u, hu⟩ : ∃ u, us[i]'(by rw [HU.out.2.2]; exact hlt) = u := ⟨_, rfl⟩
        have huB := HU.out.1 u (hu ▸ List.getElem_mem _)
        obtain ⟨g, o, rfl, hcu⟩ : ∃ g o, xa = some ⟨g, o, none⟩ ∧ wr.cell? ⟨g, o + i, none⟩ = some (.int .u16 u) := by
          obtain ⟨_, _, x', c', e, hc⟩ := HU.out.2.1
          cases e
          obtain ⟨b, off, rfl, hr⟩ := hc (by rw [HU.out.2.2]; omega)
          refine ⟨b, off, rfl, (H4.out.2.2.trans HR.out.2.2.2).cell_some (hr i _ ?_) (fun h => h)⟩
          rw [List.getElem?_map, List.getElem?_eq_getElem (by rw [HU.out.2.2]; exact hlt), hu]
          rfl
        have hltI : (i : Int) < (ln : Int) := by omega
        have hleI : (i : Int) ≤ (ln : Int) := by omega
        have huI : (u : Int) ≤ 65535 := by omega
        have huw : IntKind.i64.wrap (u : Int) = (u : Int) := by rw [IntKind.wrap_i64]; omega
        have HK := Lib.hid hlt
        clear hu huB hend
        have hkl := HR.out.2.1
        obtain ⟨pl, hpl⟩ : ∃ pl, min u (t.data.toList.length - k) = pl := ⟨_, rfl⟩
        have htl : t.data.toList.length = t.size := Array.length_toList
        have hra := readat_ok (H4.out.1.upd HR.out.2.2.2 (fun _ _ h => h)) H4.out.2.1 k u (by omega) (by omega)
        have hpz : (ByteArray.mk ((t.data.toList.drop k).take u).toArray).size = pl := by
          show ((t.data.toList.drop k).take u).toArray.size = pl
          rw [List.size_toArray, List.length_take, List.length_drop]; exact hpl
        have hpd : (ByteArray.mk ((t.data.toList.drop k).take u).toArray).data.toList = (t.data.toList.drop k).take u := rfl
        generalize (ByteArray.mk ((t.data.toList.drop k).take u).toArray) = pS at *
        have hst : bvs (t.data.toList.take k) ++ bvs pS.data.toList = bvs (t.data.toList.take (k + pl)) := by
          rw [hpd, ← bvs_append, piece_more, ← hpl]
          congr 1
          rcases Nat.le_total u (t.data.toList.length - k) with h | h
          · rw [Nat.min_eq_left h]
          · rw [Nat.min_eq_right h, List.take_of_length_le (by omega), List.take_of_length_le (by omega)]
        have hplc : pl ≤ u := by omega
        have hkp : k + pl ≤ t.data.toList.length := by omega
        have g1 : ¬ u < pl := by omega
        have g2 : decide ((u : Int) < (pl : Int)) = false := by simp; omega
        have g3 : (k : Int) + (pl : Int) ≤ 49152 := by omega
        have g4 : (k : Int) ≤ 49152 := by omega
        have HA := Lib.hid (And.intro hra (And.intro hst (And.intro hkp (And.intro hpz HK))))
        have hpz2 : pS.size = pl := hpz
        clear hra hst hpd hpl htl hkl hkp hplc hpz HK
        go_wp2_with fail
        refine HA.out.1.mono ?_
        rintro e w5 ⟨rfl, hu5⟩
        dsimp only
        have hM5 : Mid w5 1 (.slice y k d) k (bvs (t.data.toList.take k)) := HR.out.1.upd hu5 (fun _ _ h => h)
        have H5 := Lib.hid (And.intro hu5 hM5)
        clear hu5 hM5
        go_wp2_with ((with_reducible apply wpl_append_mid_str 5 (.slice y k d) k (bvs (t.data.toList.take k)) pS))
        · exact Try.underlying31
        · exact Try.underlying9
        · exact infoU8b
        · rfl
        · rfl
        · exact H5.out.2
        · rw [hpz2]; omega
        intro y' d' w6 hm6 hu6 hb6
        try (simp only [Act.put, List.setIfInBounds_toArray, List.set_cons_zero, List.set_cons_succ])
        rw [hpz2] at hm6 hb6 ⊢
        rw [HA.out.2.1] at hm6
        have HJ : Hid (PtR w4 w6 t.data.toList (k + pl) y' d') := by
          obtain ⟨r1, r2, r3, r4⟩ := HR.out
          have hz := r4.size
          have hz5 := H5.out.1.size
          refine ⟨hm6, HA.out.2.2.1, fun q hq => ?_, (r4.trans H5.out.1).then hu6 (fun q hq => .inr (r3 q hq))⟩
          rcases hb6 with e | e
          · rw [e] at hq; exact r3 q hq
          · rw [e] at hq; cases hq; omega
        have hex := HA.out.2.2.2.2
        clear hm6 hu6 hb6 HA H5 HR g1 g2 g3 g4 hpz2
        go_wp2_with fail
        exact ⟨⟨i + 1, k + pl, d', y', by omega, by go_num, rfl, HJ, (fun h => by have := hex.out; omega)⟩, by simp [intOf] <;> omega⟩
      · by_cases hle : i = ln
        · subst hle
          have hlf : ¬ i < i := Nat.lt_irrefl _
          have HK := Lib.hid hend
          clear hend hlt
          have hkl := HR.out.2.1
          obtain ⟨pl, hpl⟩ : ∃ pl, min 1099511627776 (t.data.toList.length - k) = pl := ⟨_, rfl⟩
          have htl : t.data.toList.length = t.size := Array.length_toList
          have hra := readat_ok (H4.out.1.upd HR.out.2.2.2 (fun _ _ h => h)) H4.out.2.1 k 1099511627776 (by omega) (by omega)
          have hpz : (ByteArray.mk ((t.data.toList.drop k).take 1099511627776).toArray).size = pl := by
            show ((t.data.toList.drop k).take 1099511627776).toArray.size = pl
            rw [List.size_toArray, List.length_take, List.length_drop]; exact hpl
          have hpd : (ByteArray.mk ((t.data.toList.drop k).take 1099511627776).toArray).data.toList = (t.data.toList.drop k).take 1099511627776 := rfl
          generalize (ByteArray.mk ((t.data.toList.drop k).take 1099511627776).toArray) = pS at *
          have hst : bvs (t.data.toList.take k) ++ bvs pS.data.toList = bvs (t.data.toList.take (k + pl)) := by
            rw [hpd, ← bvs_append, piece_more, ← hpl]
            congr 1
            rcases Nat.le_total 1099511627776 (t.data.toList.length - k) with h | h
            · rw [Nat.min_eq_left h]
            · rw [Nat.min_eq_right h, List.take_of_length_le (by omega), List.take_of_length_le (by omega)]
          have hplc : pl ≤ 1099511627776 := by omega
          have hkp : k + pl ≤ t.data.toList.length := by omega
          have g1 : ¬ 1099511627776 < pl := by omega
          have g2 : decide ((1099511627776 : Int) < (pl : Int)) = false := by simp; omega
          have g3 : (k : Int) + (pl : Int) ≤ 49152 := by omega
          have g4 : (k : Int) ≤ 49152 := by omega
          have hall : k + pl = t.data.toList.length := by omega
          have HK := Lib.hid hall
          clear hall
          have HA := Lib.hid (And.intro hra (And.intro hst (And.intro hkp (And.intro hpz HK))))
          have hpz2 : pS.size = pl := hpz
          clear hra hst hpd hpl htl hkl hkp hplc hpz HK
          go_wp2_with fail
          refine HA.out.1.mono ?_
          rintro e w5 ⟨rfl, hu5⟩
          dsimp only
          have hM5 : Mid w5 1 (.slice y k d) k (bvs (t.data.toList.take k)) := HR.out.1.upd hu5 (fun _ _ h => h)
          have H5 := Lib.hid (And.intro hu5 hM5)
          clear hu5 hM5
          go_wp2_with ((with_reducible apply wpl_append_mid_str 5 (.slice y k d) k (bvs (t.data.toList.take k)) pS))
          · exact Try.underlying31
          · exact Try.underlying9
          · exact infoU8b
          · rfl
          · rfl
          · exact H5.out.2
          · rw [hpz2]; omega
          intro y' d' w6 hm6 hu6 hb6
          try (simp only [Act.put, List.setIfInBounds_toArray, List.set_cons_zero, List.set_cons_succ])
          rw [hpz2] at hm6 hb6 ⊢
          rw [HA.out.2.1] at hm6
          have HJ : Hid (PtR w4 w6 t.data.toList (k + pl) y' d') := by
            obtain ⟨r1, r2, r3, r4⟩ := HR.out
            have hz := r4.size
            have hz5 := H5.out.1.size
            refine ⟨hm6, HA.out.2.2.1, fun q hq => ?_, (r4.trans H5.out.1).then hu6 (fun q hq => .inr (r3 q hq))⟩
            rcases hb6 with e | e
            · rw [e] at hq; exact r3 q hq
            · rw [e] at hq; cases hq; omega
          have hex := HA.out.2.2.2.2
          clear hm6 hu6 hb6 HA H5 HR g1 g2 g3 g4 hpz2
          go_wp2_with fail
          exact ⟨⟨i + 1, k + pl, d', y', by omega, by go_num, rfl, HJ, (fun _ => hex.out)⟩, by simp [intOf] <;> omega⟩
        · obtain rfl : i = ln + 1 := by omega
          have hk := hend rfl
          have hcv := run_bytes_string (P := Try.prog) (w := wr) 31 5 9 Try.underlying31 Try.underlying5 Try.underlying9 (.slice y k d) t.data.toList (by
            have := HR.out.1.sees
            rw [hk] at this ⊢
            rwa [List.take_length] at this)
          rw [strV_data2] at hcv
          have Hf := Lib.hid (H4.out.2.2.trans HR.out.2.2.2)
          clear HR hk hend hlt hle
          go_wp2_with fail
          go_ret
          exact ⟨rfl, Hf.out.below0⟩
end Go.Proofs.Ytmefbbmjamdnjaa
