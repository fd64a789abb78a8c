/- Package blob: Read, Size; Write of nothing; docketlaw07.text, fixed. -/
import Derived.Test.YtmefbbmjamdnjaaBb7
namespace Go.Proofs.Ytmefbbmjamdnjaa
open Go Go.RowKit
set_option linter.unusedSimpArgs false
set_option linter.unusedVariables false
set_option maxRecDepth 100000

section
variable {w : World} {mb most : Nat} {es : Img} {K : Nat → Prop}
theorem read_ok (h : MemAt w mb most es K) {head : Nat} {text : Bytes} {rs : List Run} (hb : BlobAt es head text rs) :
    Calls Try.prog 18 #[.iface 26 (.pointer (some ⟨mb, 0, none⟩)), .int .i64 (head : Nat)] w fun e w' => e = .returned (.tuple #[.string ⟨text.toArray⟩, .int .i64 0]) ∧ Upd (fun _ => False) w w' := by
  have hr := readat_ok h hb 0 49152 (by decide) (by decide)
  rw [List.drop_zero, List.take_of_length_le hb.small] at hr
  have Hr := Lib.hid hr
  clear hr h hb
  go_enter Try.func18, Try.ntmps18
  go_wp2_with fail
  refine Hr.out.mono ?_
  rintro e w1 ⟨rfl, hu⟩
  dsimp only
  have Hu := Lib.hid hu
  clear hu
  go_wp2_with fail
  go_ret2
  exact ⟨rfl, Hu.out⟩
theorem size_ok7 (h : MemAt w mb most es K) {head : Nat} {text : Bytes} {rs : List Run} (hb : BlobAt es head text rs) :
    Calls Try.prog 19 #[.iface 26 (.pointer (some ⟨mb, 0, none⟩)), .int .i64 (head : Nat)] w fun e w' => e = .returned (.tuple #[.int .i64 (text.length : Nat), .int .i64 0]) ∧ Upd (fun _ => False) w w' := by
  have Hl := Lib.hid (load_any h hb)
  clear h hb
  go_enter Try.func19, Try.ntmps19
  go_wp2_with fail
  refine Hl.out.mono ?_
  rintro e w1 ⟨lb, x, c, rfl, hL, hu1, ho1⟩
  dsimp only
  have c0 := hL.cells.cell 0
  simp only [List.getElem?_cons_zero, List.getElem?_cons_succ] at c0
  have Hu := Lib.hid hu1
  clear hL hu1 ho1
  go_wp2_with fail
  go_ret2
  exact ⟨rfl, Hu.out⟩
theorem write_nil (s : ByteArray) (h0 : s.size = 0) : Calls Try.prog 9 #[.iface 26 (.pointer (some ⟨mb, 0, none⟩)), .string s] w fun e w' => e = .returned (.tuple #[.int .i64 0, .int .i64 0]) ∧ Upd (fun _ => False) w w' := by
  have hs : s = ⟨#[]⟩ := by
    cases s with
    | mk d => exact congrArg ByteArray.mk (Array.eq_empty_of_size_eq_zero h0)
  subst hs
  clear h0
  go_enter Try.func9, Try.ntmps9
  go_wp2_with fail
  go_ret2
  exact ⟨rfl, (Upd.refl _ w).alloc _⟩
set_option maxHeartbeats 2000000 in
theorem fixed_ok (w : World) : Calls Try.prog 6 #[] w fun e w' => e = .returned (.bool true) ∧ Upd (fun _ => False) w w' := by
  have Hn := Lib.hid (newmem_ok 9 (by decide) w 9 rfl)
  go_enter Try.func6, Try.ntmps6
  go_wp2_with fail
  refine Hn.out.mono ?_
  rintro e w1 ⟨mb, K, rfl, hM, hu, hK⟩
  dsimp only
  have H1 := Lib.hid (And.intro hM (And.intro hu hK))
  clear hM hu hK
  go_wp2_with fail
  refine (write_ok H1.out.1 ⟨#[97, 98, 99]⟩ (by decide) (by decide) (by decide)).mono ?_
  rintro e w2 ⟨head, rs, ef, K2, rfl, hM, hK, hu, hw⟩
  dsimp only
  have hb := hw.blob
  have htx : (ByteArray.mk #[97, 98, 99]).data.toList = ([97, 98, 99] : Bytes) := rfl
  rw [htx] at hb
  have H2 := Lib.hid (And.intro hM (And.intro hK (And.intro hu (And.intro hw hb))))
  have hh1 : (1 : Int) ≤ (head : Int) := by
    have := (hw.fresh head (List.mem_cons_self ..)).1
    omega
  have hhp : 0 < head := by omega
  clear hM hK hu hw hb htx
  go_wp2_with fail
  refine (read_ok H2.out.1 H2.out.2.2.2.2).mono ?_
  rintro e w3 ⟨rfl, hu3⟩
  dsimp only
  have H3 := Lib.hid (And.intro (H2.out.1.upd hu3 (fun _ _ h => h)) hu3)
  clear hu3
  go_wp2_with fail
  refine (readat_ok H3.out.1 H2.out.2.2.2.2 1 9 (by decide) (by decide)).mono ?_
  rintro e w4 ⟨rfl, hu4⟩
  dsimp only
  have H4 := Lib.hid (And.intro (H3.out.1.upd hu4 (fun _ _ h => h)) hu4)
  clear hu4
  go_wp2_with fail
  refine (size_ok7 H4.out.1 H2.out.2.2.2.2).mono ?_
  rintro e w5 ⟨rfl, hu5⟩
  dsimp only
  have H5 := Lib.hid (And.intro (H4.out.1.upd hu5 (fun _ _ h => h)) hu5)
  clear hu5
  have hlen : ef.length = 2 := H2.out.2.2.2.1.len
  have hus := used_ok H5.out.1
  rw [hlen] at hus
  have Hus := Lib.hid hus
  clear hus hlen
  go_wp2_with fail
  refine Hus.out.mono ?_
  rintro e w6 ⟨rfl, rfl⟩
  dsimp only
  go_wp2_with fail
  go_ret
  refine ⟨rfl, ?_⟩
  exact (((H1.out.2.1.then H2.out.2.2.1 (fun q hq => .inr (H1.out.2.2 q hq))).trans H3.out.2).trans H4.out.2).trans H5.out.2
/-- text: some text. -/
def TxtR (w wr : World) (n : Nat) (y : Option Addr) (d : Nat) : Prop :=
  (∃ bs, Mid wr 1 (.slice y n d) n (bvs bs)) ∧ (∀ q, (Value.slice y n d).ownBlock = some q → w.heap.size ≤ q) ∧ Upd (fun _ => False) w wr
theorem mid_bytes (w : World) (e : TypeId) (s : ByteArray) (hm : s.size ≤ maxLen) : Mid (Lib.bytesWorld w e s) 1 (.slice (some ⟨w.heap.size, 0, none⟩) s.size (grownCap w s.size 0 e)) s.size (bvs s.data.toList) := by
  have hl : s.data.toList.length = s.size := Array.length_toList
  have hge := grownCap_ge w s.size 0 e
  have hsz : (Lib.bytesCells w e s).size = grownCap w s.size 0 e := by
    simp only [Lib.bytesCells, Array.size_append, Array.size_map, Array.size_replicate]
    have : s.data.size = s.size := rfl
    omega
  refine ⟨by rw [bvs_length, hl, Nat.mul_one], .inr ⟨_, _, _, rfl, hge, grownCap_le_maxLen w s.size 0 e hm, by rw [Lib.bytesWorld_size]; omega, fun j v hj => ?_, fun j hj => ⟨?_, ?_⟩⟩⟩
  · have hjl : j < s.size := by
      rcases Nat.lt_or_ge j s.size with h | h
      · exact h
      · rw [List.getElem?_eq_none (by rw [bvs_length, hl]; exact h)] at hj; cases hj
    rw [Nat.zero_add, Lib.bytesWorld_cell w e s j hjl]
    rw [bvs_get _ j (by rw [hl]; exact hjl)] at hj
    cases hj
    have hjd : j < s.data.size := hjl
    simp [bv, List.getD, Array.getElem?_eq_getElem hjd]
  · rw [World.cell?, Lib.bytesWorld_at_new]
    simp only [Nat.mul_one, Nat.zero_add] at hj ⊢
    rw [Array.getElem?_eq_getElem (by omega)]
    rfl
  · rw [World.frozen?, Lib.bytesWorld_at_new]
    simp only [Nat.mul_one, Nat.zero_add] at hj ⊢
    rw [decide_eq_false (by omega)]
    rfl
set_option maxHeartbeats 4000000 in
theorem text_ok (s : ByteArray) (hs : s.size ≤ maxLen) (n : Nat) (hn : n ≤ 65535) (w : World) :
    Calls Try.prog 7 #[.string s, .int .i64 (n : Nat)] w fun e w' => ∃ t : ByteArray, e = .returned (.string t) ∧ Upd (fun _ => False) w w' := by
  have hcv := Lib.run_convert_string_bytes (P := Try.prog) w 9 31 5 s Try.underlying9 Try.underlying31 Try.underlying5
  have hmd := mid_bytes w 5 s hs
  have hub : Upd (fun _ => False) w (Lib.bytesWorld w 5 s) := ⟨rfl, rfl, rfl, by rw [Lib.bytesWorld_size]; omega, fun k hk _ => Lib.bytesWorld_at_old w _ s k hk⟩
  have HQ : Hid (∃ bs y d, (Value.slice (some ⟨w.heap.size, 0, none⟩) s.size (grownCap w s.size 0 5)) = Value.slice y s.size d ∧ Mid (Lib.bytesWorld w 5 s) 1 (.slice y s.size d) s.size (bvs bs) ∧ (∀ q, (Value.slice y s.size d).ownBlock = some q → w.heap.size ≤ q) ∧ Upd (fun _ => False) w (Lib.bytesWorld w 5 s)) :=
    ⟨_, _, _, rfl, hmd, (fun q hq => by cases hq; exact Nat.le_refl _), hub⟩
  obtain ⟨sz, hsz⟩ : ∃ sz, s.size = sz := ⟨_, rfl⟩
  rw [hsz] at hcv HQ
  have hnI : (n : Int) ≤ 65535 := by omega
  clear hmd hub hs
  go_enter Try.func7, Try.ntmps7
  go_wp2_with fail
  clear hcv
  generalize Lib.bytesWorld w 5 s = w1 at *
  have HQ2 : Hid (∃ bs y d, (Value.slice (some ⟨w.heap.size, 0, none⟩) sz (grownCap w sz 0 5)) = Value.slice y sz d ∧ Mid w1 1 (.slice y sz d) sz (bvs bs) ∧ (∀ q, (Value.slice y sz d).ownBlock = some q → w.heap.size ≤ q) ∧ Upd (fun _ => False) w w1) := HQ.out
  clear HQ
  generalize (Value.slice (some ⟨w.heap.size, 0, none⟩) sz (grownCap w sz 0 5)) = v0 at *
  go_loopw [5, 6] (fun v iv wr => ∃ (i len d : Nat) (y : Option Addr), i ≤ n ∧ iv = .int .i64 i ∧ v = .slice y len d ∧ Hid (∃ bs, Mid wr 1 (.slice y len d) len (bvs bs) ∧ (∀ q, (Value.slice y len d).ownBlock = some q → w.heap.size ≤ q) ∧ Upd (fun _ => False) w wr)) (fun _ iv _ => n - (intOf iv).toNat)
  case atStart =>
    obtain ⟨bs, y, d, e, h1, h2, h3⟩ := HQ2.out
    exact ⟨0, sz, d, y, Nat.zero_le _, rfl, e, ⟨bs, h1, h2, h3⟩⟩
  case round =>
    clear HQ2
    obtain ⟨i, len, d, y, hi, rfl, rfl, HR⟩ := hrel
    by_cases c1 : i < n
    · have d1 : decide ((i : Int) < (n : Int)) = true := by simp; omega
      by_cases c2 : i < 60000
      · have d2 : decide ((i : Int) < 60000) = true := by simp; omega
        by_cases c3 : len < 60000
        · have d3 : decide ((len : Int) < 60000) = true := by simp; omega
          have e3 : (len : Int) < 60000 := by omega
          have e2 : (i : Int) < 60000 := by omega
          have e1 : (i : Int) < (n : Int) := by omega
          obtain ⟨r, hr⟩ : ∃ r, i % 251 = r := ⟨_, rfl⟩
          have q1 : ((i : Int).tmod 251) = (r : Int) := by rw [Int.tmod_eq_emod_of_nonneg (by omega)]; omega
          have q2 : IntKind.u8.wrap (r : Int) = (r : Int) := by rw [IntKind.wrap_u8]; omega
          obtain ⟨bs, hm, ho, hu⟩ := HR.out
          have H9 := Lib.hid (And.intro hm (And.intro ho (And.intro hu (by omega : r < 256))))
          clear hr hm ho hu HR
          go_wp2_with ((with_reducible apply wpl_append_mid 5 1 1 _ (.slice y len d) len (bvs bs) 1 [.int .u8 (r : Nat)]))
          · exact Try.underlying31
          · exact infoU8b
          · rfl
          · rfl
          · exact H9.out.1.upd ((Upd.refl (fun _ => False) wr).alloc _) (fun _ _ h => h)
          · exact Sees.at rfl (by decide) (rangeAt_of_row (heap_alloc_new wr (.cells ([.int .u8 (r : Nat)] : List Value).toArray 5)) rfl)
          · intro u hu; simp at hu; rw [hu]; rfl
          · unfold maxLen; omega
          · omega
          intro y' d' w4 hm4 hu4 hb4
          try (simp only [Act.put, List.setIfInBounds_toArray, List.set_cons_zero, List.set_cons_succ])
          have hst : bvs bs ++ [.int .u8 (r : Nat)] = bvs (bs ++ [UInt8.ofNat (r % 256)]) := by
            rw [bvs_append]
            show _ = _ ++ [bv _]
            rw [bv_ofNat, Nat.mod_eq_of_lt H9.out.2.2.2]
          rw [hst] at hm4
          have HJ : Hid (∃ bs, Mid w4 1 (.slice y' (len + 1) d') (len + 1) (bvs bs) ∧ (∀ q, (Value.slice y' (len + 1) d').ownBlock = some q → w.heap.size ≤ q) ∧ Upd (fun _ => False) w w4) := by
            obtain ⟨r1, r2, r3, r4⟩ := H9.out
            have hz := r3.size
            have ha : Upd (fun _ => False) wr (wr.alloc (.cells #[.int .u8 (r : Nat)] 5)) := (Upd.refl _ wr).alloc _
            have hz2 := ha.size
            refine ⟨_, hm4, fun q hq => ?_, (r3.trans ha).then hu4 (fun q hq => .inr (r2 q hq))⟩
            rcases hb4 with e | e
            · rw [e] at hq; exact r2 q hq
            · rw [e] at hq; cases hq; omega
          clear hm4 hu4 hb4 hst H9
          go_wp2_with fail
          exact ⟨⟨i + 1, len + 1, d', y', by omega, by go_num, rfl, HJ⟩, by simp [intOf]; omega⟩
        · have d3 : decide ((len : Int) < 60000) = false := by simp; omega
          obtain ⟨bs, hm, ho, hu⟩ := HR.out
          have hlb : bs.length = len := by have := hm.1; rw [bvs_length] at this; omega
          have hcv := run_bytes_string (P := Try.prog) (w := wr) 31 5 9 Try.underlying31 Try.underlying5 Try.underlying9 (.slice y len d) bs (by rw [hlb]; exact hm.sees)
          have Hu := Lib.hid hu
          clear hm ho hu HR hlb
          go_wp2_with fail
          go_ret
          exact ⟨_, rfl, Hu.out⟩
      · have d2 : decide ((i : Int) < 60000) = false := by simp; omega
        obtain ⟨bs, hm, ho, hu⟩ := HR.out
        have hlb : bs.length = len := by have := hm.1; rw [bvs_length] at this; omega
        have hcv := run_bytes_string (P := Try.prog) (w := wr) 31 5 9 Try.underlying31 Try.underlying5 Try.underlying9 (.slice y len d) bs (by rw [hlb]; exact hm.sees)
        have Hu := Lib.hid hu
        clear hm ho hu HR hlb
        go_wp2_with fail
        go_ret
        exact ⟨_, rfl, Hu.out⟩
    · have d1 : decide ((i : Int) < (n : Int)) = false := by simp; omega
      obtain ⟨bs, hm, ho, hu⟩ := HR.out
      have hlb : bs.length = len := by have := hm.1; rw [bvs_length] at this; omega
      have hcv := run_bytes_string (P := Try.prog) (w := wr) 31 5 9 Try.underlying31 Try.underlying5 Try.underlying9 (.slice y len d) bs (by rw [hlb]; exact hm.sees)
      have Hu := Lib.hid hu
      clear hm ho hu HR hlb
      go_wp2_with fail
      go_ret
      exact ⟨_, rfl, Hu.out⟩
theorem write_any {w : World} {mb most : Nat} {es : Img} {K : Nat → Prop} (h : MemAt w mb most es K) (s : ByteArray) (h2 : s.size ≤ 49152) (hroom : es.length + 97 ≤ most) :
    Calls Try.prog 9 #[.iface 26 (.pointer (some ⟨mb, 0, none⟩)), .string s] w fun e w' => ∃ (head : Nat) (rs : List Run) (ef : Img) (K' : Nat → Prop), e = .returned (.tuple #[.int .i64 (head : Nat), .int .i64 0]) ∧
      MemAt w' mb most ef K' ∧ (∀ q, K' q → K q ∨ w.heap.size ≤ q) ∧ Upd K w w' ∧ BlobAt ef head s.data.toList rs := by
  rcases Nat.eq_zero_or_pos s.size with h0 | h0
  · refine (write_nil s h0).mono ?_
    rintro e w' ⟨rfl, hu⟩
    have ht : s.data.toList = [] := List.eq_nil_of_length_eq_zero ((Array.length_toList).trans h0)
    refine ⟨0, [], es, K, rfl, h.upd hu (fun _ _ h => h), (fun q hq => .inl hq), hu.mono (fun _ _ h => h.elim), ⟨.inl ⟨rfl, ht, rfl⟩, by decide, fun i hi => by cases hi⟩⟩
  · refine (write_ok h s h0 h2 (by omega)).mono ?_
    rintro e w' ⟨head, rs, ef, K', rfl, h1, h3, h4, h5⟩
    exact ⟨head, rs, ef, K', rfl, h1, h3, h4, h5.blob⟩
end
end Go.Proofs.Ytmefbbmjamdnjaa
