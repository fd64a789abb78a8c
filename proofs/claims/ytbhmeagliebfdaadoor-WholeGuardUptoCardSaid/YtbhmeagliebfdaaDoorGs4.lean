/- strings.Builder: copyCheck, WriteByte, WriteString, String; what a builder of the call's own holds. -/
import Derived.Test.YtbhmeagliebfdaaDoorGs3
namespace Go.Proofs.YtbhmeagliebfdaaDoor
open Go Go.RowKit
set_option linter.unusedSimpArgs false
set_option linter.unusedVariables false
set_option maxRecDepth 100000
/-- A builder at b: its buffer v, its bytes bs. -/
def BldAt (w : World) (B b : Nat) (v : Value) (bs : By) : Prop :=
  ∃ p, (p = .pointer none ∨ p = .pointer (some ⟨b, 0, none⟩)) ∧ CellsA w b 50 [p, v] ∧ w.ownsRow B 5 1 v bs.length (bvs bs) ∧ (bs = [] → v = .slice none 0 0)
theorem BldAt.upd {F : Nat → Prop} {w w' : World} {B b : Nat} {v : Value} {bs : By} (h : BldAt w B b v bs) (hu : Upd F w w') (hb : ¬ F b) (hv : ∀ q, v.ownBlock = some q → ¬ F q) : BldAt w' B b v bs := by
  obtain ⟨p, h1, h2, h3, h4⟩ := h
  exact ⟨p, h1, h2.upd hu hb, hu.row h3 hv, h4⟩
theorem BldAt.new (w : World) : BldAt (w.alloc (.cells #[.pointer none, .slice none 0 0] 50)) w.heap.size w.heap.size (.slice none 0 0) [] :=
  ⟨_, .inl rfl, CellsA.new w _ [_, _], World.ownsRow_nil _ _ _ _, fun _ => rfl⟩
theorem BldAt.ne {w : World} {B b : Nat} {v : Value} {bs : By} (h : BldAt w B b v bs) : v.ownBlock ≠ some b := by
  obtain ⟨p, _, h2, h3, _⟩ := h
  exact Lib.ownBlock_ne h3 h2 (by decide)
theorem BldAt.lt {w : World} {B b : Nat} {v : Value} {bs : By} (h : BldAt w B b v bs) : b < w.heap.size := by
  obtain ⟨p, _, h2, h3, _⟩ := h
  exact h2.lt
theorem BldAt.own {w : World} {B b : Nat} {v : Value} {bs : By} (h : BldAt w B b v bs) : ∀ q, v.ownBlock = some q → B ≤ q ∧ q < w.heap.size := by
  obtain ⟨p, _, h2, h3, _⟩ := h
  exact fun q hq => h3.lt q hq
theorem sizeBld : (Tryd.prog.info? 50).map (·.size) = some 2 := by kernel_rfl
theorem liesBld : liesAt Tryd.prog Tryd.prog.depth 50 (2 / Tryd.prog.cellsOf 50) 0 50 1 = true := by kernel_rfl
theorem cellsByte : Tryd.prog.cellsOf 5 = 1 := by kernel_rfl
theorem check_used (b : Nat) (w : World) (h0 : w.cell? ⟨b, 0, none⟩ = some (.pointer (some ⟨b, 0, none⟩))) :
    Calls Tryd.prog 28 #[.pointer (some ⟨b, 0, none⟩)] w fun e w' => e = .returned (.tuple #[]) ∧ w' = w := by
  obtain ⟨j, hj, _⟩ := Option.map_eq_some_iff.1 sizeBld
  have hq := Lib.run_neq_ptr_same w ⟨b, 0, none⟩ Tryd.underlying47 hj
  clear hj
  go_enter Tryd.func28, Tryd.ntmps28
  go_wp2
  go_end0
  exact ⟨rfl, rfl⟩
theorem check_fresh (b : Nat) (w : World) (h0 : w.cell? ⟨b, 0, none⟩ = some (.pointer none)) (hsh : w.shape? b = some (50, 2)) (hfz : w.frozen? ⟨b, 0, none⟩ = false) :
    Calls Tryd.prog 28 #[.pointer (some ⟨b, 0, none⟩)] w fun e w' => e = .returned (.tuple #[]) ∧ w' = w.setCell ⟨b, 0, none⟩ (.pointer (some ⟨b, 0, none⟩)) := by
  obtain ⟨j, hj, hjs⟩ := Option.map_eq_some_iff.1 sizeBld
  have h1 := Lib.run_to_unsafe w ⟨b, 0, none⟩ Tryd.underlying47 Tryd.underlying86 hj (by rw [hjs]; decide) hsh (Nat.zero_lt_succ 1)
  have h2 := Lib.run_from_unsafe w ⟨b, 0, none⟩ Tryd.underlying86 Tryd.underlying47 hj hsh liesBld
  clear hj hjs
  go_enter Tryd.func28, Tryd.ntmps28
  go_wp2
  rw [run_callFunc_extern Tryd.func40 (by kernel_rfl) (by kernel_rfl) (by kernel_rfl) (e := Extern.AbiNoEscape.same) (by kernel_rfl)]
  rw [Lib.run_noEscape]
  simp only [Result.andThen]
  rw [Oper.upon_value]
  go_wp2
  go_end0
  exact ⟨rfl, rfl⟩
theorem copyCheck_ok {w : World} {B b : Nat} {v : Value} {bs : By} (h : BldAt w B b v bs) :
    Calls Tryd.prog 28 #[.pointer (some ⟨b, 0, none⟩)] w fun e w' => e = .returned (.tuple #[]) ∧ CellsA w' b 50 [.pointer (some ⟨b, 0, none⟩), v] ∧ w'.ownsRow B 5 1 v bs.length (bvs bs) ∧ Upd (fun q => q = b) w w' := by
  have hne := h.ne
  obtain ⟨p, rfl | rfl, h2, h3, _⟩ := h
  · refine (check_fresh b w (h2.cell 0) (by rw [World.shape?, show w.heap[b]? = _ from h2]; rfl) (h2.frozen 0)).mono ?_
    rintro e w' ⟨rfl, rfl⟩
    have hu : Upd (fun q => q = b) w (w.setCell ⟨b, 0, none⟩ (.pointer (some ⟨b, 0, none⟩))) := (Upd.refl _ w).setCell _ (.inl rfl)
    exact ⟨rfl, h2.set 0 _, hu.row h3 (fun q hq e => hne (by rw [hq, e])), hu⟩
  · refine (check_used b w (h2.cell 0)).mono ?_
    rintro e w' ⟨rfl, rfl⟩
    exact ⟨rfl, h2, h3, Upd.refl _ _⟩
theorem infoU8b : (Tryd.prog.info? 5).map (fun i => (i.zero, i.size, i.bytes)) = some (some (.int .u8 0), 1, 1) := by kernel_rfl
set_option maxHeartbeats 2000000 in
theorem wbyte_ok {w : World} {B b : Nat} {v : Value} {ts : By} (h : BldAt w B b v ts) (hB : B ≤ w.heap.size) (hbB : B ≤ b) (c : UInt8) (hlen : ts.length + 1 ≤ 1000000000000) :
    Calls Tryd.prog 13 #[.pointer (some ⟨b, 0, none⟩), .int .u8 (c.toNat : Nat)] w fun e w' => e = .returned .nilIface ∧ ∃ v', BldAt w' B b v' (ts ++ [c]) ∧ Upd (fun q => B ≤ q) w w' := by
  have hne := h.ne
  have hown := h.own
  have hcc := copyCheck_ok h
  have H := Lib.hid (And.intro hcc (And.intro hne (And.intro hown hB)))
  clear hcc h hne hown hB
  go_enter Tryd.func13, Tryd.ntmps13
  go_wp2_with fail
  refine H.out.1.mono ?_
  rintro e w1 ⟨rfl, h1, h2, h3⟩
  dsimp only
  have c1 := h1.cell 1
  simp only [List.getElem?_cons_zero, List.getElem?_cons_succ] at c1
  have H1 := Lib.hid (And.intro h1 (And.intro h2 h3))
  have hsz := h3.size
  clear h1 h2 h3
  go_wp2_with ((with_reducible apply wpl_append_sees B 5 1 1 (.int .u8 0) v ts.length (bvs ts) 1 (bvs [c])))
  · exact Tryd.underlying48
  · exact infoU8b
  · rfl
  · decide
  · rfl
  · exact ((Upd.refl (fun _ => False) w1).alloc _).row H1.out.2.1 (fun _ _ h => h)
  · exact Sees.at rfl (by decide) (rangeAt_of_row (heap_alloc_new w1 (.cells (bvs [c]).toArray 5)) rfl)
  · exact bvs_one [c]
  · unfold maxLen; omega
  · omega
  · rw [World.size_alloc]; have := H.out.2.2.2; omega
  intro x' c' w2 hr2 hg2 hb2
  try (simp only [Act.put, List.setIfInBounds_toArray, List.set_cons_zero, List.set_cons_succ])
  have hu2 : Upd (fun q => v.ownBlock = some q) w1 w2 := (((Upd.refl (fun _ => False) w1).alloc _).mono (fun _ _ h => h.elim)).grown hg2 (fun q hq => .inl hq)
  have hc2 := H1.out.1.upd hu2 (fun e => H.out.2.1 e)
  have d1 := hc2.cell 1
  have f1 := hc2.frozen 1
  simp only [List.getElem?_cons_zero, List.getElem?_cons_succ] at d1
  have hfin : BldAt (w2.setCell ⟨b, 1, none⟩ (.slice x' (ts.length + 1) c')) B b (.slice x' (ts.length + 1) c') (ts ++ [c]) ∧ Upd (fun q => B ≤ q) w (w2.setCell ⟨b, 1, none⟩ (.slice x' (ts.length + 1) c')) := by
    have hus : Upd (fun q => q = b) w2 (w2.setCell ⟨b, 1, none⟩ (.slice x' (ts.length + 1) c')) := (Upd.refl _ w2).setCell _ (.inl rfl)
    have hl : (ts ++ [c]).length = ts.length + 1 := by simp
    have hne2 : (Value.slice x' (ts.length + 1) c').ownBlock ≠ some b := Lib.ownBlock_ne hr2 hc2 (by decide)
    refine ⟨⟨_, .inr rfl, hc2.set 1 _, ?_, fun e => by simp at e⟩, ((H1.out.2.2.mono (fun q _ e => by rw [e]; exact hbB)).trans (hu2.mono (fun q _ e => (H.out.2.2.1 q e).1))).trans (hus.mono (fun q _ e => by rw [e]; exact hbB))⟩
    rw [hl, bvs_append]
    exact hus.row hr2 (fun q hq e => hne2 (by rw [hq, e]))
  have Hf := Lib.hid hfin
  clear hfin hc2 hu2 hr2 hg2 hb2
  go_wp2_with fail
  go_ret
  exact ⟨rfl, _, Hf.out⟩
set_option maxHeartbeats 2000000 in
theorem wstr_ok {w : World} {B b : Nat} {v : Value} {ts : By} (h : BldAt w B b v ts) (hB : B ≤ w.heap.size) (hbB : B ≤ b) (s : ByteArray) (h0 : 0 < s.size) (hlen : ts.length + s.size ≤ 1000000000000) :
    Calls Tryd.prog 15 #[.pointer (some ⟨b, 0, none⟩), .string s] w fun e w' => e = .returned (.tuple #[.int .i64 (s.size : Nat), .nilIface]) ∧ ∃ v', BldAt w' B b v' (ts ++ s.data.toList) ∧ Upd (fun q => B ≤ q) w w' := by
  have hne := h.ne
  have hown := h.own
  have hcc := copyCheck_ok h
  have H := Lib.hid (And.intro hcc (And.intro hne (And.intro hown hB)))
  clear hcc h hne hown hB
  obtain ⟨i, hi, hz0, hz1, hz2⟩ := info_parts infoU8b
  go_enter Tryd.func15, Tryd.ntmps15
  go_wp2_with fail
  refine H.out.1.mono ?_
  rintro e w1 ⟨rfl, h1, h2, h3⟩
  dsimp only
  have c1 := h1.cell 1
  simp only [List.getElem?_cons_zero, List.getElem?_cons_succ] at c1
  have H1 := Lib.hid (And.intro h1 (And.intro h2 h3))
  have hsz := h3.size
  clear h1 h2 h3
  go_wp2_with (at_builtin; refine Lib.wpList_append_own_string _ rfl _ _ 48 9 rfl B 5 i Tryd.underlying48 Tryd.underlying9 hi hz0 hz1 hz2 v ts.length (bvs ts) rfl H1.out.2.1 s rfl ?c3 ?c4 ?c5 ?_)
  case c3 => unfold maxLen; omega
  case c4 => omega
  case c5 => have := H.out.2.2.2; omega
  intro v' w2 hr2 hg2 _
  obtain ⟨x', c', rfl⟩ := (sees_of_row hr2).2.2 |> fun ⟨x', c', e, _⟩ => (⟨x', c', e⟩ : ∃ x' c', v' = Value.slice x' (ts.length + s.size) c')
  try (simp only [Act.put, List.setIfInBounds_toArray, List.set_cons_zero, List.set_cons_succ])
  have hu2 : Upd (fun q => v.ownBlock = some q) w1 w2 := (Upd.refl _ w1).grown hg2 (fun q hq => .inl hq)
  have hc2 := H1.out.1.upd hu2 (fun e => H.out.2.1 e)
  have d1 := hc2.cell 1
  have f1 := hc2.frozen 1
  simp only [List.getElem?_cons_zero, List.getElem?_cons_succ] at d1
  have hfin : BldAt (w2.setCell ⟨b, 1, none⟩ (.slice x' (ts.length + s.size) c')) B b (.slice x' (ts.length + s.size) c') (ts ++ s.data.toList) ∧ Upd (fun q => B ≤ q) w (w2.setCell ⟨b, 1, none⟩ (.slice x' (ts.length + s.size) c')) := by
    have hus : Upd (fun q => q = b) w2 (w2.setCell ⟨b, 1, none⟩ (.slice x' (ts.length + s.size) c')) := (Upd.refl _ w2).setCell _ (.inl rfl)
    have hl : (ts ++ s.data.toList).length = ts.length + s.size := by rw [List.length_append, Lib.size_eq]
    have hne2 : (Value.slice x' (ts.length + s.size) c').ownBlock ≠ some b := Lib.ownBlock_ne hr2 hc2 (by decide)
    refine ⟨⟨_, .inr rfl, hc2.set 1 _, ?_, fun e => ?_⟩, ((H1.out.2.2.mono (fun q _ e => by rw [e]; exact hbB)).trans (hu2.mono (fun q _ e => (H.out.2.2.1 q e).1))).trans (hus.mono (fun q _ e => by rw [e]; exact hbB))⟩
    · rw [hl, bvs_append]
      exact hus.row hr2 (fun q hq e => hne2 (by rw [hq, e]))
    · have := congrArg List.length e
      rw [hl, List.length_nil] at this
      omega
  have Hf := Lib.hid hfin
  clear hfin hc2 hu2 hr2 hg2
  go_wp2_with fail
  go_ret2
  exact ⟨rfl, _, Hf.out⟩
theorem Upd.freeze {F : Nat → Prop} {a w : World} (h : Upd F a w) {p : Addr} (n : Nat) (hp : F p.block ∨ a.heap.size ≤ p.block) : Upd F a (w.freeze p n) := by
  refine h.then (G := fun q => q = p.block) ?_ (fun q hq => by rw [hq]; exact hp)
  unfold World.freeze
  split
  · exact Upd.refl _ w
  · exact ⟨rfl, rfl, rfl, by simp, fun k _ hk => by
      simp only [Array.getElem?_modify]
      rw [if_neg (fun e => hk e.symm)]⟩
set_option maxHeartbeats 2000000 in
theorem bstring_ok {w : World} {B b : Nat} {v : Value} {bs : By} (h : BldAt w B b v bs) (hlen : bs.length ≤ 1000000000000) :
    Calls Tryd.prog 16 #[.pointer (some ⟨b, 0, none⟩)] w fun e w' => e = .returned (.string ⟨bs.toArray⟩) ∧ Upd (fun q => v.ownBlock = some q) w w' := by
  obtain ⟨p, _, h2, h3, h4⟩ := h
  have c1 : w.drew.cell? ⟨b, 1, none⟩ = some v := h2.cell 1
  by_cases h0 : bs = []
  · have hv := h4 h0
    subst hv h0
    have hSD : ∀ W : World, (Builtin.unsafeSliceData_ #[48] 74 #[.slice none 0 0]).run Tryd.prog W = .ok (.pointer none) W := fun W => Lib.run_unsafeSliceData_nil W _ _ _ _
    have hUS : ∀ W : World, (Builtin.unsafeString_ #[74, 3] 9 #[.pointer none, .int .i64 0]).run Tryd.prog W = .ok (.string .empty) W := fun W => Lib.run_unsafeString_none W _ _ _ _
    clear h2 h3 h4
    go_enter Tryd.func16, Tryd.ntmps16
    go_wp2
    go_region
    all_goals (go_wp2; go_ret; exact ⟨rfl, (Upd.refl _ w).drew⟩)
  · have hl0 : bs.length ≠ 0 := fun e => h0 (List.eq_nil_of_length_eq_zero e)
    obtain ⟨g, cap, cur, rfl, hbg, hg, hnc, hcm, hcs, htake⟩ : ∃ g cap cur, v = .slice (some ⟨g, 0, none⟩) bs.length cap ∧ B ≤ g ∧ w.heap[g]? = some (.cells cur 5 (0, 0)) ∧ bs.length ≤ cap ∧ cap ≤ maxLen ∧ cur.size = cap * 1 ∧ cur.toList.take (bs.length * 1) = bvs bs := by
      rcases h3.2 with ⟨_, hz⟩ | ⟨g, cap, cur, hv, r⟩
      · exact absurd hz hl0
      · exact ⟨g, cap, cur, hv, r⟩
    obtain ⟨n, hn⟩ : ∃ n, bs.length = n := ⟨_, rfl⟩
    have hSD : (Builtin.unsafeSliceData_ #[48] 74 #[.slice (some ⟨g, 0, none⟩) bs.length cap]).run Tryd.prog w.drew = .ok (.pointer (some ⟨g, 0, none⟩)) w.drew :=
      Lib.run_unsafeSliceData_row _ _ _ _ _ _ (by omega)
    have hUS : (Builtin.unsafeString_ #[74, 3] 9 #[.pointer (some ⟨g, 0, none⟩), .int .i64 bs.length]).run Tryd.prog w.drew = .ok (.string ⟨bs.toArray⟩) (w.drew.freeze ⟨g, 0, none⟩ bs.length) := by
      refine Lib.run_unsafeString_row w.drew 74 3 9 5 Tryd.underlying74 cellsByte g cur.size (by have hg' : w.drew.heap[g]? = some (.cells cur 5 (0, 0)) := hg; simp [World.shape?, hg']) bs h0 (by omega) (by omega) ?_
      intro j x hx
      have := h3.cells (g := g) rfl j (.int .u8 x.toNat) (by simp [bvs, bv, hx])
      exact this
    rw [hn] at hSD hUS c1
    have HN := Lib.hid hn
    clear h2 h3 h4 hg htake hcs hcm hnc hn hlen hl0
    go_enter Tryd.func16, Tryd.ntmps16
    go_wp2
    go_region
    all_goals (go_wp2; go_ret; exact ⟨rfl, ((Upd.refl _ w).drew).freeze _ (.inl rfl)⟩)
end Go.Proofs.YtbhmeagliebfdaaDoor
