/- For BlobPlays: text for any number; Write where there is no room. -/
import Derived.Test.YtmefbbmjamdnjaaBb10
namespace Go.Proofs.Ytmefbbmjamdnjaa
open Go Go.RowKit
set_option linter.unusedSimpArgs false
set_option linter.unusedVariables false
set_option maxRecDepth 100000

set_option maxHeartbeats 4000000 in
theorem text_okI (s : ByteArray) (hs : s.size ≤ maxLen) (n : Int) (w : World) :
    Calls Try.prog 7 #[.string s, .int .i64 n] w fun e w' => ∃ t : ByteArray, e = .returned (.string t) ∧ Upd (fun _ => False) w w' := by
  have hcv := Lib.run_convert_string_bytes (P := Try.prog) w 9 31 5 s Try.underlying9 Try.underlying31 Try.underlying5
  have hmd := mid_bytes w 5 s hs
  have hub : Upd (fun _ => False) w (Lib.bytesWorld w 5 s) := ⟨rfl, rfl, rfl, by rw [Lib.bytesWorld_size]; omega, fun k hk _ => Lib.bytesWorld_at_old w _ s k hk⟩
  have HQ : Hid (∃ bs y d, (Value.slice (some ⟨w.heap.size, 0, none⟩) s.size (grownCap w s.size 0 5)) = Value.slice y s.size d ∧ Mid (Lib.bytesWorld w 5 s) 1 (.slice y s.size d) s.size (bvs bs) ∧ (∀ q, (Value.slice y s.size d).ownBlock = some q → w.heap.size ≤ q) ∧ Upd (fun _ => False) w (Lib.bytesWorld w 5 s)) :=
    ⟨_, _, _, rfl, hmd, (fun q hq => by cases hq; exact Nat.le_refl _), hub⟩
  obtain ⟨sz, hsz⟩ : ∃ sz, s.size = sz := ⟨_, rfl⟩
  rw [hsz] at hcv HQ
  clear hmd hub hs
  go_enter Try.func7, Try.ntmps7
  go_wp2_with fail
  clear hcv
  generalize Lib.bytesWorld w 5 s = w1 at *
  have HQ2 : Hid (∃ bs y d, (Value.slice (some ⟨w.heap.size, 0, none⟩) sz (grownCap w sz 0 5)) = Value.slice y sz d ∧ Mid w1 1 (.slice y sz d) sz (bvs bs) ∧ (∀ q, (Value.slice y sz d).ownBlock = some q → w.heap.size ≤ q) ∧ Upd (fun _ => False) w w1) := HQ.out
  clear HQ
  generalize (Value.slice (some ⟨w.heap.size, 0, none⟩) sz (grownCap w sz 0 5)) = v0 at *
  go_loopw [5, 6] (fun v iv wr => ∃ (i len d : Nat) (y : Option Addr), i ≤ 60000 ∧ iv = .int .i64 i ∧ v = .slice y len d ∧ Hid (∃ bs, Mid wr 1 (.slice y len d) len (bvs bs) ∧ (∀ q, (Value.slice y len d).ownBlock = some q → w.heap.size ≤ q) ∧ Upd (fun _ => False) w wr)) (fun _ iv _ => 60001 - (intOf iv).toNat)
  case atStart =>
    obtain ⟨bs, y, d, e, h1, h2, h3⟩ := HQ2.out
    exact ⟨0, sz, d, y, Nat.zero_le _, rfl, e, ⟨bs, h1, h2, h3⟩⟩
  case round =>
    clear HQ2
    obtain ⟨i, len, d, y, hi, rfl, rfl, HR⟩ := hrel
    by_cases c1 : (i : Int) < n
    · have d1 : decide ((i : Int) < n) = true := by simp; omega
      by_cases c2 : i < 60000
      · have d2 : decide ((i : Int) < 60000) = true := by simp; omega
        by_cases c3 : len < 60000
        · have d3 : decide ((len : Int) < 60000) = true := by simp; omega
          have e3 : (len : Int) < 60000 := by omega
          have e2 : (i : Int) < 60000 := by omega
          have e1 : (i : Int) < n := c1
          obtain ⟨r, hr⟩ : ∃ r, i % 251 = r := ⟨_, rfl⟩
          have q1 : ((i : Int).tmod 251) = (r : Int) := by rw [Int.tmod_eq_emod_of_nonneg (by omega)]; omega
          have q2 : IntKind.u8.wrap (r : Int) = (r : Int) := by rw [IntKind.wrap_u8]; omega
          obtain ⟨bs, hm, ho, hu⟩ := HR.out
          have H9 := Lib.hid (And.intro hm (And.intro ho (And.intro hu (by omega : r < 256))))
          clear hr hm ho hu HR
          go_wp2_with ((with_reducible apply wpl_append_mid 5 1 1 _ (.slice y len d) len (bvs bs) 1 [.int .u8 (r : Nat)]))
          · exact Try.underlying31
          · exact infoU8b
          · rfl
          · rfl
          · exact H9.out.1.upd ((Upd.refl (fun _ => False) wr).alloc _) (fun _ _ h => h)
          · exact Sees.at rfl (by decide) (rangeAt_of_row (heap_alloc_new wr (.cells ([.int .u8 (r : Nat)] : List Value).toArray 5)) rfl)
          · intro u hu; simp at hu; rw [hu]; rfl
          · unfold maxLen; omega
          · omega
          intro y' d' w4 hm4 hu4 hb4
          try (simp only [Act.put, List.setIfInBounds_toArray, List.set_cons_zero, List.set_cons_succ])
          have hst : bvs bs ++ [.int .u8 (r : Nat)] = bvs (bs ++ [UInt8.ofNat (r % 256)]) := by
            rw [bvs_append]
            show _ = _ ++ [bv _]
            rw [bv_ofNat, Nat.mod_eq_of_lt H9.out.2.2.2]
          rw [hst] at hm4
          have HJ : Hid (∃ bs, Mid w4 1 (.slice y' (len + 1) d') (len + 1) (bvs bs) ∧ (∀ q, (Value.slice y' (len + 1) d').ownBlock = some q → w.heap.size ≤ q) ∧ Upd (fun _ => False) w w4) := by
            obtain ⟨r1, r2, r3, r4⟩ := H9.out
            have hz := r3.size
            have ha : Upd (fun _ => False) wr (wr.alloc (.cells #[.int .u8 (r : Nat)] 5)) := (Upd.refl _ wr).alloc _
            have hz2 := ha.size
            refine ⟨_, hm4, fun q hq => ?_, (r3.trans ha).then hu4 (fun q hq => .inr (r2 q hq))⟩
            rcases hb4 with e | e
            · rw [e] at hq; exact r2 q hq
            · rw [e] at hq; cases hq; omega
          clear hm4 hu4 hb4 hst H9
          go_wp2_with fail
          exact ⟨⟨i + 1, len + 1, d', y', by omega, by go_num, rfl, HJ⟩, by simp [intOf]; omega⟩
        · have d3 : decide ((len : Int) < 60000) = false := by simp; omega
          obtain ⟨bs, hm, ho, hu⟩ := HR.out
          have hlb : bs.length = len := by have := hm.1; rw [bvs_length] at this; omega
          have hcv := run_bytes_string (P := Try.prog) (w := wr) 31 5 9 Try.underlying31 Try.underlying5 Try.underlying9 (.slice y len d) bs (by rw [hlb]; exact hm.sees)
          have Hu := Lib.hid hu
          clear hm ho hu HR hlb
          go_wp2_with fail
          go_ret
          exact ⟨_, rfl, Hu.out⟩
      · have d2 : decide ((i : Int) < 60000) = false := by simp; omega
        obtain ⟨bs, hm, ho, hu⟩ := HR.out
        have hlb : bs.length = len := by have := hm.1; rw [bvs_length] at this; omega
        have hcv := run_bytes_string (P := Try.prog) (w := wr) 31 5 9 Try.underlying31 Try.underlying5 Try.underlying9 (.slice y len d) bs (by rw [hlb]; exact hm.sees)
        have Hu := Lib.hid hu
        clear hm ho hu HR hlb
        go_wp2_with fail
        go_ret
        exact ⟨_, rfl, Hu.out⟩
    · have d1 : decide ((i : Int) < n) = false := by simp; omega
      obtain ⟨bs, hm, ho, hu⟩ := HR.out
      have hlb : bs.length = len := by have := hm.1; rw [bvs_length] at this; omega
      have hcv := run_bytes_string (P := Try.prog) (w := wr) 31 5 9 Try.underlying31 Try.underlying5 Try.underlying9 (.slice y len d) bs (by rw [hlb]; exact hm.sees)
      have Hu := Lib.hid hu
      clear hm ho hu HR hlb
      go_wp2_with fail
      go_ret
      first | exact ⟨_, rfl, Hu.out⟩ | exact ⟨⟨_, rfl⟩, Hu.out⟩
section
variable {w : World} {mb most : Nat} {es : Img} {K : Nat → Prop}
theorem wrlong_ok (s : ByteArray) (h : 49152 < s.size) : Calls Try.prog 9 #[.iface 26 (.pointer (some ⟨mb, 0, none⟩)), .string s] w fun e w' => e = .returned (.tuple #[.int .i64 0, .int .i64 5]) ∧ Upd (fun _ => False) w w' := by
  have hI : (49152 : Int) < (s.size : Int) := by omega
  go_enter Try.func9, Try.ntmps9
  go_wp2_with fail
  go_ret2
  exact ⟨rfl, (Upd.refl _ w).alloc _⟩
theorem readat_neg (head : Nat) (hh : head ≤ 4096) (f n : Int) (hneg : f < 0 ∨ n < 0) :
    Calls Try.prog 10 #[.iface 26 (.pointer (some ⟨mb, 0, none⟩)), .int .i64 (head : Nat), .int .i64 f, .int .i64 n] w fun e w' => e = .returned (.tuple #[.string ⟨#[]⟩, .int .i64 1]) ∧ w = w' := by
  have n1 : decide ((head : Int) < 0) = false := by simp
  by_cases h1 : f < 0
  · have n2 : decide (f < 0) = true := by simp; omega
    clear hneg
    go_enter Try.func10, Try.ntmps10
    go_wp2_with fail
    go_ret2
    exact ⟨rfl, rfl⟩
  · have n2 : decide (f < 0) = false := by simp; omega
    have h2 : n < 0 := by omega
    have n3 : decide (n < 0) = true := by simp; omega
    clear hneg
    go_enter Try.func10, Try.ntmps10
    go_wp2_with fail
    go_ret2
    exact ⟨rfl, rfl⟩
/-- Blocks given back, one by one. -/
def FreN (es : Img) (ts : List Nat) (es' : Img) : Prop :=
  (∀ t ∈ ts, lookB es' (t : Nat) = none) ∧ (∀ k : Int, (∀ t ∈ ts, k ≠ ((t : Nat) : Int)) → lookB es' k = lookB es k) ∧ es'.length + ts.length = es.length
theorem freN_step {es es' : Img} {ts : List Nat} {t : Nat} (h : FreN es ts es') (hn : (keysB es').Nodup) (ht : t ∉ ts) (hl : lookB es (t : Nat) ≠ none) : lookB es' (t : Nat) ≠ none ∧ FreN es (ts ++ [t]) (delP es' (t : Nat)) := by
  obtain ⟨h1, h2, h3⟩ := h
  have hp : lookB es' (t : Nat) ≠ none := by rw [h2 _ (fun u hu e => ht (by rw [show t = u by omega]; exact hu))]; exact hl
  refine ⟨hp, fun y hy => ?_, fun k hk => ?_, ?_⟩
  · rw [lookB_delP _ _ _ hn]
    rcases List.mem_append.1 hy with e | e
    · split
      · rfl
      · exact h1 y e
    · rw [List.mem_singleton] at e
      rw [e, if_pos rfl]
  · rw [lookB_delP _ _ _ hn, if_neg (hk t (by simp)), h2 k (fun u hu => hk u (List.mem_append_left _ hu))]
  · have := delP_len (t : Nat) es' hp
    rw [List.length_append, List.length_singleton]; omega
set_option maxHeartbeats 4000000 in
theorem back_ok {tb sb n d er : Nat} {y : Option Addr} {ts : List Nat} (hM : MemAt w mb most es K) (h1 : CellsA w tb 58 [.slice y n d]) (h2 : CellsA w sb 57 [.iface 26 (.pointer (some ⟨mb, 0, none⟩))]) (h3 : Mid w 1 (.slice y n d) n (intsV ts)) (h4 : ∀ q, (Value.slice y n d).ownBlock = some q → ¬ K q) (h5 : ¬ K tb) (h6 : ¬ K sb) (h7 : ts.Nodup) (h8 : ∀ t ∈ ts, lookB es (t : Nat) ≠ none) (hn : n ≤ 5000) :
    Calls Try.prog 20 #[.int .i64 (er : Nat), .pointer (some ⟨tb, 0, none⟩), .pointer (some ⟨sb, 0, none⟩)] w fun e w' => e = .returned (.tuple #[.int .i64 0, .int .i64 (er : Nat)]) ∧ ∃ es', MemAt w' mb most es' K ∧ Upd K w w' ∧ FreN es ts es' := by
  have hln : ts.length = n := by have := h3.1; rw [intsV_length] at this; omega
  have hnI : (n : Int) ≤ 5000 := by omega
  have c1 := h1.cell 0
  simp only [List.getElem?_cons_zero] at c1
  have hmf := meth_free mb
  have HQ : Hid (∃ es', MemAt w mb most es' K ∧ Upd K w w ∧ FreN es (ts.take 0) es') := ⟨es, hM, Upd.refl _ _, (fun t ht => by cases ht), (fun _ _ => rfl), rfl⟩
  have H := Lib.hid (And.intro h2 (And.intro h3 (And.intro h4 (And.intro h6 (And.intro h7 (And.intro h8 hln))))))
  clear hM h1 h2 h3 h4 h5 h6 h7 h8 hln
  go_enter Try.func20, Try.ntmps20
  go_wp2_with fail
  go_loopw [10] (fun iv wr => ∃ (i : Nat), i ≤ n ∧ iv = .int .i64 i ∧ Hid (∃ es', MemAt wr mb most es' K ∧ Upd K w wr ∧ FreN es (ts.take i) es')) (fun iv _ => n - (intOf iv).toNat)
  case atStart => exact ⟨0, Nat.zero_le _, rfl, HQ⟩
  case round =>
    clear HQ
    obtain ⟨i, hi, rfl, HR⟩ := hrel
    obtain ⟨es', HR⟩ := HR.out
    have HR := Lib.hid HR
    by_cases hlt : i < n
    · have hltI : (i : Int) < (n : Int) := by omega
      have hil : i < ts.length := by rw [H.out.2.2.2.2.2.2]; exact hlt
      obtain ⟨t, ht⟩ : ∃ t, ts[i] = t := ⟨_, rfl⟩
      have htt : t ∉ ts.take i := fun hm => by
        have h2 := H.out.2.2.2.2.1
        rw [← List.take_append_drop i ts, List.nodup_append] at h2
        refine h2.2.2 t hm t ?_ rfl
        rw [List.drop_eq_getElem_cons hil, ht]
        exact List.mem_cons_self ..
      have hst := freN_step HR.out.2.2 HR.out.1.ok.1 htt (H.out.2.2.2.2.2.1 t (ht ▸ List.getElem_mem hil))
      have hmf2 := mfree_ok HR.out.1 (t : Nat) hst.1
      have hcs : wr.cell? ⟨sb, 0, none⟩ = some (.iface 26 (.pointer (some ⟨mb, 0, none⟩))) := HR.out.2.1.cell_some (H.out.1.cell 0) H.out.2.2.2.1
      have hm3 := H.out.2.1.upd HR.out.2.1 (fun q hq hk => H.out.2.2.1 q hq hk)
      obtain ⟨g, o, rfl, hct⟩ : ∃ g o, y = some ⟨g, o, none⟩ ∧ wr.cell? ⟨g, o + i, none⟩ = some (.int .i64 t) := by
        obtain ⟨_, ⟨e, e2⟩ | ⟨g, o, cap, e, _, _, _, hr, _⟩⟩ := hm3
        · omega
        · cases e
          refine ⟨g, o, rfl, hr i _ ?_⟩
          rw [intsV, List.getElem?_map, List.getElem?_eq_getElem hil, ht]; rfl
      have hte : ts.take (i + 1) = ts.take i ++ [t] := by rw [List.take_succ_eq_append_getElem hil, ht]
      have H2 := Lib.hid (And.intro hmf2 (And.intro hst.2 hte))
      clear hmf2 hst hm3 htt ht hte
      go_wp2_with fail
      refine H2.out.1.mono ?_
      rintro e w4 ⟨rfl, hM4, hu4⟩
      dsimp only
      have HJ : Hid (∃ es', MemAt w4 mb most es' K ∧ Upd K w w4 ∧ FreN es (ts.take (i + 1)) es') := by
        rw [H2.out.2.2]; exact ⟨_, hM4, HR.out.2.1.trans hu4, H2.out.2.1⟩
      clear hM4 hu4 H2 HR hct hcs
      go_wp2_with fail
      exact ⟨⟨i + 1, by omega, by go_num, HJ⟩, by simp [intOf] <;> omega⟩
    · obtain rfl : i = n := by omega
      have hfin := HR.out.2.2
      rw [List.take_of_length_le (by rw [H.out.2.2.2.2.2.2]; exact Nat.le_refl _)] at hfin
      have Hf := Lib.hid (And.intro HR.out.1 (And.intro HR.out.2.1 hfin))
      clear HR hfin
      go_wp2_with fail
      go_ret2
      exact ⟨rfl, es', Hf.out⟩
end
end Go.Proofs.Ytmefbbmjamdnjaa
