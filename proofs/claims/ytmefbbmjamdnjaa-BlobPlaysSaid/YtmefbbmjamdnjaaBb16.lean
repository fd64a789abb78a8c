/- docketlaw07: put. -/
import Derived.Test.YtmefbbmjamdnjaaBb15
namespace Go.Proofs.Ytmefbbmjamdnjaa
open Go Go.RowKit
set_option linter.unusedSimpArgs false
set_option linter.unusedVariables false
set_option maxRecDepth 100000

def heldV (b : Bl) : List Value := [.int .i64 (b.head : Nat), .string b.s]
def heldsV (l : List Bl) : List Value := l.flatMap heldV
theorem heldsV_length (l : List Bl) : (heldsV l).length = l.length * 2 := flat_length heldV 2 l (fun _ _ => rfl)
theorem heldsV_append (a b : List Bl) : heldsV (a ++ b) = heldsV a ++ heldsV b := by simp [heldsV]
theorem infoHeld : (Try.prog.info? 43).map (fun i => (i.zero, i.size, i.bytes)) = some (some (.agg #[.int .i64 0, .string .empty]), 2, 24) := by kernel_rfl
theorem sizeHeld : (Try.prog.info? 43).map (·.size) = some 2 := by kernel_rfl
/-- The cells of a blob that is held. -/
theorem held_cell {w : World} {y : Option Addr} {n d : Nat} {all : List Bl} (h : Mid w 2 (.slice y n d) n (heldsV all)) (i : Nat) (hi : i < all.length) :
    ∃ g o, y = some ⟨g, o, none⟩ ∧ w.cell? ⟨g, o + i * 2, none⟩ = some (.int .i64 (all[i].head : Nat)) ∧ w.cell? ⟨g, o + i * 2 + 1, none⟩ = some (.string all[i].s) := by
  obtain ⟨h0, ⟨e, e2⟩ | ⟨g, o, cap, e, _, _, _, hr, _⟩⟩ := h
  · rw [heldsV_length] at h0; omega
  · cases e
    refine ⟨g, o, rfl, ?_, ?_⟩
    · exact hr (i * 2) _ (by rw [heldsV, show i * 2 = i * 2 + 0 by rfl, flat_cell heldV 2 all (fun _ _ => rfl) i 0 hi (by decide)]; rfl)
    · have := hr (i * 2 + 1) (.string all[i].s) (by rw [heldsV, flat_cell heldV 2 all (fun _ _ => rfl) i 1 hi (by decide)]; rfl)
      exact this
theorem held_len {w : World} {y : Option Addr} {n d : Nat} {all : List Bl} (h : Mid w 2 (.slice y n d) n (heldsV all)) : all.length = n := by
  have := h.1
  rw [heldsV_length] at this; omega
/-- What put leaves. -/
def PutR (w : World) (mb most : Nat) (K : Nat → Prop) (y : Option Addr) (n d : Nat) (e : Ending) (w' : World) : Prop :=
  ∃ (all' : List Bl) (y' : Option Addr) (n' d' : Nat) (ef : Img) (K' : Nat → Prop), e = .returned (.tuple #[.slice y' n' d', .bool true]) ∧ Mid w' 2 (.slice y' n' d') n' (heldsV all') ∧ MemAt w' mb most ef K' ∧ AllOk ef all' ∧
    (∀ q, K' q → K q ∨ w.heap.size ≤ q) ∧ (∀ q, (Value.slice y' n' d').ownBlock = some q → ((Value.slice y n d).ownBlock = some q ∨ w.heap.size ≤ q) ∧ ¬ K' q) ∧ Upd (fun q => K q ∨ (Value.slice y n d).ownBlock = some q) w w' ∧ n' ≤ n + 1
theorem take_sum_le (l : List Nat) (i : Nat) : (l.take i).sum ≤ l.sum := by
  conv => rhs; rw [← List.take_append_drop i l, List.sum_append]
  omega
section
variable {w : World} {mb most : Nat} {es : Img} {K : Nat → Prop}
set_option maxHeartbeats 16000000 in
theorem put_write (h : MemAt w mb most es K) {all : List Bl} (ha : AllOk es all) {y : Option Addr} {n d : Nat} (hm : Mid w 2 (.slice y n d) n (heldsV all)) (ho : ∀ q, (Value.slice y n d).ownBlock = some q → ¬ K q) (hn : n ≤ 100) (s : ByteArray) :
    Calls Try.prog 11 #[.pointer (some ⟨mb, 0, none⟩), .int .i64 (most : Nat), .slice y n d, .string s, .int .i64 (-1)] w fun e w' => PutR w mb most K y n d e w' := by
  have hlen := held_len hm
  have hnI : (n : Int) ≤ 100 := by omega
  have hmost := h.ok.2.2
  have hmI : (most : Int) ≤ 4096 := by omega
  have Hw := Lib.hid (write_out h s)
  have H := Lib.hid (And.intro h (And.intro ha (And.intro hm (And.intro ho hlen))))
  clear h ha hm ho hlen hmost
  go_enter Try.func11, Try.ntmps11
  go_wp2_with fail
  refine Hw.out.mono ?_
  rintro e w1 ⟨x, yy, rfl, hW⟩
  dsimp only
  obtain ⟨ef, K', hM1, hK1, hu1, hcs⟩ := hW
  have hm1 : Mid w1 2 (.slice y n d) n (heldsV all) := H.out.2.2.1.upd hu1 (fun q hq hk => H.out.2.2.2.1 q hq hk)
  have hused : (all.map Bl.need).sum = es.length := H.out.2.1.len.symm
  have Hc := Lib.hid (And.intro hM1 (And.intro hK1 (And.intro hu1 (And.intro hm1 hused))))
  have Hcs := Lib.hid hcs
  clear hM1 hK1 hu1 hm1 hused hcs
  go_wp2_with fail
  go_loopw [18, 19] (fun uv iv wr => ∃ (i u : Nat), i ≤ n ∧ iv = .int .i64 i ∧ uv = .int .i64 u ∧ Hid (wr = w1 ∧ u = ((all.take i).map Bl.need).sum)) (fun _ iv _ => n - (intOf iv).toNat)
  case atStart => exact ⟨0, 0, Nat.zero_le _, rfl, rfl, Lib.hid ⟨rfl, rfl⟩⟩
  case round =>
    obtain ⟨i, u, hi, rfl, rfl, HR⟩ := hrel
    obtain ⟨hwr, hus⟩ := HR.out
    clear HR
    subst hwr
    have HR := Lib.hid hus
    clear hus
    have hub : u ≤ 4096 := by
      have h1 := HR.out
      have h2 := take_sum_le (all.map Bl.need) i
      rw [← List.map_take, Hc.out.2.2.2.2] at h2
      have := H.out.1.ok
      omega
    have hubI : (u : Int) ≤ 4096 := by omega
    by_cases hlt : i < n
    · have hltI : (i : Int) < (n : Int) := by omega
      have hil : i < all.length := by rw [H.out.2.2.2.2]; exact hlt
      obtain ⟨g, o, rfl, c1, c2⟩ := held_cell Hc.out.2.2.2.1 i hil
      obtain ⟨b, hb⟩ : ∃ b, all[i] = b := ⟨_, rfl⟩
      rw [hb] at c1 c2
      have hsm : b.s.size ≤ 1000000 := by
        have := (H.out.2.1.ok b (hb ▸ List.getElem_mem hil)).1.small
        have e : b.s.data.toList.length = b.s.size := Array.length_toList
        omega
      have hnd := needs_ok b.s hsm wr
      have hst : ((all.take (i + 1)).map Bl.need).sum = ((all.take i).map Bl.need).sum + needN b.s.data.toList := by
        rw [List.take_succ_eq_append_getElem hil, List.map_append, List.sum_append, hb]; simp [Bl.need]
      obtain ⟨z, hz⟩ : ∃ z, needN b.s.data.toList = z := ⟨_, rfl⟩
      rw [hz] at hnd hst
      have hzI : (z : Int) ≤ 2000 := by
        have h2 := take_sum_le (all.map Bl.need) (i + 1)
        rw [← List.map_take, hst, Hc.out.2.2.2.2] at h2
        have h3 := H.out.1.ok
        have h4 : z ≤ 97 := by
          have := (H.out.2.1.ok b (hb ▸ List.getElem_mem hil)).1.small
          rw [← hz, needN]; split <;> omega
        omega
      have H2 := Lib.hid (And.intro hnd hst)
      clear hnd hst hz hsm hb hub
      go_wp2_with fail
      refine H2.out.1.mono ?_
      rintro e w4 ⟨rfl, rfl⟩
      dsimp only
      have HJ : Hid (wr = wr ∧ u + z = ((all.take (i + 1)).map Bl.need).sum) := by
        rw [H2.out.2, ← HR.out]; exact Lib.hid ⟨rfl, rfl⟩
      clear H2 HR c1 c2
      go_wp2_with fail
      exact ⟨⟨i + 1, u + z, by omega, by go_num, by go_num, Lib.hid ⟨trivial, HJ.out.2⟩⟩, by simp [intOf] <;> omega⟩
    · obtain rfl : i = n := by omega
      obtain rfl : u = es.length := by
        rw [HR.out, List.take_of_length_le (by rw [H.out.2.2.2.2]; exact Nat.le_refl _)]; exact Hc.out.2.2.2.2
      clear HR
      have hus := used_ok Hc.out.1
      rcases Hcs.out with ⟨hbig, rfl, rfl, hsame, hlen⟩ | ⟨hsm, hful, rfl, rfl, hsame, hlen⟩ | ⟨hsm, hrm, rfl, rs, hadd⟩
      · rw [hlen] at hus
        have hbI : (49152 : Int) < (s.size : Int) := by omega
        have Hr := Lib.hid (And.intro hus (H.out.2.1.same hsame hlen))
        clear hus hsame hlen Hcs
        go_wp2_with fail
        refine Hr.out.1.mono ?_
        rintro e w4 ⟨rfl, rfl⟩
        dsimp only
        go_wp2_with fail
        go_ret2
        refine ⟨all, y, i, d, ef, K', rfl, Hc.out.2.2.2.1, Hc.out.1, Hr.out.2, Hc.out.2.1, fun q hq => ⟨.inl hq, fun hk => ?_⟩, Hc.out.2.2.1.mono (fun q _ h => .inl h), by omega⟩
        rcases Hc.out.2.1 q hk with e | e
        · exact H.out.2.2.2.1 q hq e
        · have := H.out.2.2.1.lt q hq; omega
      · rw [hlen] at hus
        have hbI : (s.size : Int) ≤ 49152 := by omega
        obtain ⟨z, hz⟩ : ∃ z, needN s.data.toList = z := ⟨_, rfl⟩
        have htl : s.data.toList.length = s.size := Array.length_toList
        have hz97 : z ≤ 97 := by rw [← hz, needN]; split <;> omega
        have hnd := needs_ok s (by omega) wr
        rw [hz] at hnd hful
        have hzI : (z : Int) ≤ 97 := by omega
        have hfI : (most : Int) < (es.length : Int) + (z : Int) := by omega
        have Hr := Lib.hid (And.intro hus (And.intro (H.out.2.1.same hsame hlen) hnd))
        clear hus hsame hlen Hcs hnd hz htl hful
        go_wp2_with fail
        refine Hr.out.2.2.mono ?_
        rintro e w4 ⟨rfl, rfl⟩
        dsimp only
        go_wp2_with fail
        refine Hr.out.1.mono ?_
        rintro e w4 ⟨rfl, rfl⟩
        dsimp only
        go_wp2_with fail
        go_ret2
        refine ⟨all, y, i, d, ef, K', rfl, Hc.out.2.2.2.1, Hc.out.1, Hr.out.2.1, Hc.out.2.1, fun q hq => ⟨.inl hq, fun hk => ?_⟩, Hc.out.2.2.1.mono (fun q _ h => .inl h), by omega⟩
        rcases Hc.out.2.1 q hk with e | e
        · exact H.out.2.2.2.1 q hq e
        · have := H.out.2.2.1.lt q hq; omega
      · have hlf := hadd.len
        obtain ⟨z, hz⟩ : ∃ z, needN s.data.toList = z := ⟨_, rfl⟩
        have htl : s.data.toList.length = s.size := Array.length_toList
        have hz97 : z ≤ 97 := by rw [← hz, needN]; split <;> omega
        have hnd : ∀ w, Calls Try.prog 17 #[.string s] w fun e w' => e = .returned (.int .i64 (needN s.data.toList : Nat)) ∧ w = w' := fun w => needs_ok s (by omega) w
        rw [hz] at hnd hrm hlf
        have hzI : (z : Int) ≤ 97 := by omega
        have hbI : (s.size : Int) ≤ 49152 := by omega
        have hfI : (es.length : Int) + (z : Int) ≤ (most : Int) := by omega
        have hx : (s = ⟨#[]⟩ ∧ x = 0) ∨ (s ≠ ⟨#[]⟩ ∧ 1 ≤ x) := by
          rcases hadd.blob.top with ⟨e1, e2, _⟩ | hh
          · refine .inl ⟨?_, e1⟩
            cases s with
            | mk d => exact congrArg ByteArray.mk (Array.toList_eq_nil_iff.1 e2)
          · refine .inr ⟨fun e => ?_, hh.one⟩
            have h0 : s.data.toList.length = 0 := by rw [e]; rfl
            have := hh.lo
            omega
        have Hr := Lib.hid (And.intro (H.out.2.1.add hadd) (And.intro hnd (And.intro hx hlf)))
        clear hus Hcs hnd hz htl hx hadd hrm hlf
        go_wp2_with fail
        refine (Hr.out.2.1 _).mono ?_
        rintro e w4 ⟨rfl, rfl⟩
        dsimp only
        go_wp2_with ((with_reducible apply wpl_append_mid 43 2 24 _ (.slice y i d) i (heldsV all) 1 [.int .i64 (x : Nat), .string s]))
        · exact Try.underlying36
        · exact infoHeld
        · rfl
        · rfl
        · exact Hc.out.2.2.2.1.upd ((Upd.refl (fun _ => False) _).alloc _) (fun _ _ h => h)
        · exact Sees.at rfl (by decide) (rangeAt_of_row (heap_alloc_new _ (.cells ([.int .i64 (x : Nat), .string s] : List Value).toArray 43)) rfl)
        · intro u hu; simp at hu; rcases hu with rfl | rfl <;> rfl
        · unfold maxLen; omega
        · omega
        intro x' c' w4 hm4 hu4 hb4
        try (simp only [Act.put, List.setIfInBounds_toArray, List.set_cons_zero, List.set_cons_succ])
        have hu14 : Upd (fun k => (Value.slice y i d).ownBlock = some k) wr w4 := ((Upd.refl (fun _ => False) wr).alloc _ |>.mono (fun _ _ h => h.elim)).trans hu4
        have hM4 := Hc.out.1.upd hu14 (fun q hk e => by
          rcases Hc.out.2.1 q hk with h | h
          · exact H.out.2.2.2.1 q e h
          · have := H.out.2.2.1.lt q e; omega)
        have hus := used_ok hM4
        rw [Hr.out.2.2.2] at hus
        have hb5 : (Value.slice x' (i + 1) c').ownBlock = (Value.slice y i d).ownBlock ∨ ∃ q, wr.heap.size ≤ q ∧ (Value.slice x' (i + 1) c').ownBlock = some q := by
          rcases hb4 with e | e
          · exact .inl e
          · exact .inr ⟨_, by rw [World.size_alloc]; omega, e⟩
        have Hf := Lib.hid (And.intro hus (And.intro hM4 (And.intro hm4 (And.intro hu14 hb5))))
        clear hus hM4 hm4 hu14 hb4 hb5 hu4
        have hfin : PutR w mb most K y i d (.returned (.tuple #[.slice x' (i + 1) c', .bool true])) w4 := by
          refine ⟨all ++ [⟨x, s, rs⟩], x', i + 1, c', ef, K', rfl, ?_, Hf.out.2.1, Hr.out.1, Hc.out.2.1, fun q hq => ?_, (Hc.out.2.2.1.mono (fun q _ h => .inl h)).trans (Hf.out.2.2.2.1.mono (fun q _ h => .inr h)), by omega⟩
          · rw [heldsV_append]; exact Hf.out.2.2.1
          · have hz1 := Hc.out.2.2.1.size
            have hl := Hc.out.1.lt
            rcases Hf.out.2.2.2.2 with e | ⟨q', hq', e⟩
            · rw [e] at hq
              refine ⟨.inl hq, fun hk => ?_⟩
              rcases Hc.out.2.1 q hk with h | h
              · exact H.out.2.2.2.1 q hq h
              · have := H.out.2.2.1.lt q hq; omega
            · have e2 : q = q' := Option.some.inj (hq.symm.trans e)
              exact ⟨.inr (by omega), fun hk => by have := hl q hk; omega⟩
        have Hfin := Lib.hid hfin
        clear hfin
        rcases Hr.out.2.2.1 with ⟨rfl, rfl⟩ | ⟨hs, hx1⟩
        · go_wp2_with fail
          refine Hf.out.1.mono ?_
          rintro e w5 ⟨rfl, rfl⟩
          dsimp only
          go_wp2_with fail
          refine (Hr.out.2.1 _).mono ?_
          rintro e w5 ⟨rfl, rfl⟩
          dsimp only
          go_wp2_with fail
          go_ret2
          exact Hfin.out
        · have hd1 : ((x : Int) == 0) = false := beq_eq_false_iff_ne.2 (by omega)
          have hd2 : s.toList.isEmpty = false := by
            rw [Lib.toList_data]
            cases h : s.data.toList with
            | nil =>
              refine absurd ?_ hs
              cases s with
              | mk d => exact congrArg ByteArray.mk (Array.toList_eq_nil_iff.1 h)
            | cons _ _ => rfl
          go_wp2_with fail
          refine Hf.out.1.mono ?_
          rintro e w5 ⟨rfl, rfl⟩
          dsimp only
          go_wp2_with fail
          refine (Hr.out.2.1 _).mono ?_
          rintro e w5 ⟨rfl, rfl⟩
          dsimp only
          go_wp2_with fail
          go_ret2
          exact Hfin.out
end
end Go.Proofs.Ytmefbbmjamdnjaa
