/- Package blob: Blocks, Free, Clone. -/
import Derived.Test.YtmefbbmjamdnjaaBb9
import Derived.Test.YtmefbbmjamdnjaaBb8
namespace Go.Proofs.Ytmefbbmjamdnjaa
open Go Go.RowKit
set_option linter.unusedSimpArgs false
set_option linter.unusedVariables false
set_option maxRecDepth 100000

/-- All blocks of a blob. -/
def bkN (head : Nat) (rs : List Run) : List Nat := if head = 0 then [] else runsB rs ++ [head]
def intsI (l : List Nat) : List Int := l.map fun (n : Nat) => (n : Int)
def srtI (l : List Nat) : List Int := (intsI l).mergeSort fun x y => decide (x ≤ y)
theorem srtI_length (l : List Nat) : (srtI l).length = l.length := by rw [srtI, List.length_mergeSort]; simp [intsI]
theorem intsV_I (l : List Nat) : intsV l = (intsI l).map (Value.int .i64) := by simp [intsV, intsI]
section
variable {w : World} {mb most : Nat} {es : Img} {K : Nat → Prop}
set_option maxHeartbeats 4000000 in
theorem blocks7_ok (h : MemAt w mb most es K) {head : Nat} {text : Bytes} {rs : List Run} (hb : BlobAt es head text rs) :
    Calls Try.prog 27 #[.iface 26 (.pointer (some ⟨mb, 0, none⟩)), .int .i64 (head : Nat)] w fun e w' => ∃ (x : Option Addr) (c : Nat), e = .returned (.tuple #[.slice x (bkN head rs).length c, .int .i64 0]) ∧
      Sees w' 1 (.slice x (bkN head rs).length c) (bkN head rs).length ((srtI (bkN head rs)).map (Value.int .i64)) ∧ Upd (fun _ => False) w w' ∧ (∀ q, (Value.slice x (bkN head rs).length c).ownBlock = some q → w.heap.size ≤ q) := by
  have hld := load_any h hb
  have hr := hb.runs
  have hlen := hb.len
  have hsm := hb.small
  rcases Nat.eq_zero_or_pos head with h0 | h0
  · subst h0
    have Hl := Lib.hid hld
    clear hld hr hlen hsm h hb
    go_enter Try.func27, Try.ntmps27
    go_wp2_with fail
    refine Hl.out.mono ?_
    rintro e w1 ⟨lb, x, c, rfl, hL, hu1, ho1⟩
    dsimp only
    have Hu := Lib.hid hu1
    clear hL hu1 ho1
    go_wp2_with fail
    go_ret2
    have hz : bkN 0 rs = [] := if_pos rfl
    have hs0 : srtI [] = [] := List.eq_nil_of_length_eq_zero (srtI_length [])
    rw [hz, hs0]
    exact ⟨none, 0, rfl, Sees.zero _ _ _ _, Hu.out, fun q hq => by cases hq⟩
  · obtain ⟨m, hm⟩ : ∃ m, (runsB rs).length = m := ⟨_, rfl⟩
    have hbk : bkN head rs = runsB rs ++ [head] := by rw [bkN, if_neg (by omega)]
    have hbl : (bkN head rs).length = m + 1 := by rw [hbk, List.length_append, hm]; rfl
    have hh0 : ((head : Int) == 0) = false := by simp; omega
    have hle := hb.le
    have i1 : (head : Int) ≤ 4096 := by omega
    have i2 : (m : Int) ≤ 96 := by omega
    have H := Lib.hid (And.intro hld (And.intro hr (And.intro hm (And.intro hbk hbl))))
    clear hld hr hm hbk hbl hlen hsm h hb hle h0
    go_enter Try.func27, Try.ntmps27
    go_wp2_with fail
    refine H.out.1.mono ?_
    rintro e w1 ⟨lb, x, c, rfl, hL, hu1, ho1⟩
    dsimp only
    have hbk := blocks_okW hL H.out.2.1 (by rw [H.out.2.2.1]; omega)
    rw [H.out.2.2.1] at hbk
    have H1 := Lib.hid (And.intro hbk hu1)
    clear hL hu1 ho1 hbk
    go_wp2_with fail
    refine H1.out.1.mono ?_
    rintro e w2 ⟨y, d, rfl, hm2, hw2, ho2, hu2, hl2⟩
    dsimp only
    have H2 := Lib.hid (And.intro hm2 (And.intro hw2 (And.intro (H1.out.2.trans hu2) ho2)))
    clear hm2 hw2 ho2 hu2 hl2
    go_wp2_with ((with_reducible apply wpl_append_whole 3 1 8 _ (.slice y m d) m (intsV (runsB rs)) 1 [.int .i64 (head : Nat)]))
    · exact Try.underlying58
    · exact infoInt
    · rfl
    · rfl
    · exact H2.out.1.upd ((Upd.refl (fun _ => False) w2).alloc _) (fun _ _ h => h)
    · exact H2.out.2.1.upd ((Upd.refl (fun _ => False) w2).alloc _) (fun _ _ h => h) H2.out.1.lt
    · exact Sees.at rfl (by decide) (rangeAt_of_row (heap_alloc_new w2 (.cells ([.int .i64 (head : Nat)] : List Value).toArray 3)) rfl)
    · intro u hu; simp at hu; rw [hu]; rfl
    · unfold maxLen; omega
    · omega
    intro x' c' w4 hm4 hu4 hb4 hW4
    try (simp only [Act.put, List.setIfInBounds_toArray, List.set_cons_zero, List.set_cons_succ])
    obtain ⟨g, o, rfl, hmc, hgl, hrg⟩ : ∃ g o, x' = some ⟨g, o, none⟩ ∧ m + 1 ≤ c' ∧ g < w4.heap.size ∧ w4.rangeAt g o (intsV (runsB rs) ++ [.int .i64 (head : Nat)]) := by
      obtain ⟨_, ⟨e, e2⟩ | ⟨g, o, cap, e, e1, _, e3, hr, _⟩⟩ := hm4
      · omega
      · cases e; exact ⟨g, o, rfl, e1, e3, hr⟩
    have hz : (intsI (bkN head rs)).length = m + 1 := by rw [intsI, List.length_map]; exact H.out.2.2.2.2
    have hcs : intsV (runsB rs) ++ [.int .i64 (head : Nat)] = (intsI (bkN head rs)).map (Value.int .i64) := by
      rw [← intsV_I, H.out.2.2.2.1]; simp [intsV]
    have hhold : Sort.Holds (Value.int .i64) w4 g o (intsI (bkN head rs)).toArray := fun j hj => by
      have hj' : j < (intsI (bkN head rs)).length := by simpa using hj
      refine ⟨?_, (hW4 g o (m + 1) c' rfl j (by omega)).2⟩
      rw [hcs] at hrg
      have := hrg j (.int .i64 (intsI (bkN head rs))[j]) (by rw [List.getElem?_map, List.getElem?_eq_getElem hj']; rfl)
      rw [this]
      simp [hj']
    have hso := sort_ok (c := c') hz hhold hgl (by omega)
    have H4 := Lib.hid (And.intro hso (show Upd (fun _ => False) w w4 ∧ w.heap.size ≤ g from by
      have hu24 : Upd (fun q => (Value.slice y m d).ownBlock = some q) w2 w4 := ((Upd.refl (fun _ => False) w2).alloc _ |>.mono (fun _ _ h => h.elim)).trans hu4
      have hz1 := H1.out.2.size
      have hz2 := H2.out.2.2.1.size
      refine ⟨H2.out.2.2.1.then hu24 (fun q hq => .inr (by have := H2.out.2.2.2 q hq; omega)), ?_⟩
      rcases hb4 with e | e
      · have := H2.out.2.2.2 g e.symm; omega
      · have e2 : g = _ := Option.some.inj e
        rw [e2]; simp; omega))
    clear hso hhold hm4 hu4 hb4 hW4 hrg hgl hcs
    go_wp2_with fail
    refine H4.out.1.mono ?_
    rintro e w5 ⟨rfl, hu5, hr5⟩
    dsimp only
    have H5 := Lib.hid (And.intro hu5 hr5)
    clear hu5 hr5
    go_wp2_with fail
    go_ret2
    have hse : Sees w5 1 (.slice (some ⟨g, o, none⟩) (m + 1) c') (m + 1) ((srtI (bkN head rs)).map (Value.int .i64)) := Sees.at (by rw [List.length_map, srtI_length, H.out.2.2.2.2, Nat.mul_one]) (by unfold maxLen; omega) H5.out.2
    refine ⟨some ⟨g, o, none⟩, c', by rw [H.out.2.2.2.2]; rfl, by rw [H.out.2.2.2.2]; exact hse, H4.out.2.1.then H5.out.1 (fun q hq => .inr (by rw [hq]; exact H4.out.2.2)), fun q hq => by have e : g = q := Option.some.inj hq; rw [← e]; exact H4.out.2.2⟩
/-- What is left when blocks are given back. -/
def FreeP (es : Img) (bl : List Nat) (es' : Img) : Prop :=
  (∀ t ∈ bl, lookB es' (t : Nat) = none) ∧ (∀ k : Int, (∀ t ∈ bl, k ≠ ((t : Nat) : Int)) → lookB es' k = lookB es k) ∧ es'.length + bl.length = es.length
def FreeI (es : Img) (zs : List Int) (es' : Img) : Prop :=
  (∀ z ∈ zs, lookB es' z = none) ∧ (∀ k : Int, k ∉ zs → lookB es' k = lookB es k) ∧ es'.length + zs.length = es.length
theorem freeI_step {es es' : Img} {zs : List Int} {z : Int} (h : FreeI es zs es') (hn : (keysB es').Nodup) (hz : z ∉ zs) (hl : lookB es z ≠ none) : FreeI es (zs ++ [z]) (delP es' z) := by
  obtain ⟨h1, h2, h3⟩ := h
  have hp : lookB es' z ≠ none := by rw [h2 z hz]; exact hl
  refine ⟨fun y hy => ?_, fun k hk => ?_, ?_⟩
  · rw [lookB_delP _ _ _ hn]
    rcases List.mem_append.1 hy with e | e
    · split
      · rfl
      · exact h1 y e
    · rw [List.mem_singleton] at e
      rw [if_pos e]
  · rw [lookB_delP _ _ _ hn, if_neg (fun e => hk (by rw [e]; simp)), h2 k (fun e => hk (List.mem_append_left _ e))]
  · have := delP_len z es' hp
    rw [List.length_append, List.length_singleton]; omega
theorem freeI_of {es es' : Img} {bl : List Nat} (h : FreeI es (srtI bl) es') : FreeP es bl es' := by
  have hperm : (srtI bl).Perm (intsI bl) := List.mergeSort_perm _ _
  obtain ⟨h1, h2, h3⟩ := h
  refine ⟨fun t ht => h1 _ (hperm.mem_iff.2 (List.mem_map.2 ⟨t, ht, rfl⟩)), fun k hk => h2 k (fun hm => ?_), by rw [srtI_length] at h3; exact h3⟩
  obtain ⟨t, ht, e⟩ := List.mem_map.1 (hperm.mem_iff.1 hm)
  exact hk t ht e.symm
theorem srtI_nodup {bl : List Nat} (h : bl.Nodup) : (srtI bl).Nodup := by
  have hperm : (srtI bl).Perm (intsI bl) := List.mergeSort_perm _ _
  refine hperm.nodup_iff.2 ?_
  rw [intsI]
  exact List.Pairwise.map _ (fun a b hne e => hne (by omega)) h
/-- The blocks of a blob are there. -/
theorem BlobAt.there {head : Nat} {text : Bytes} {rs : List Run} (hb : BlobAt es head text rs) : ∀ t ∈ bkN head rs, lookB es (t : Nat) ≠ none := by
  intro t ht
  rw [bkN] at ht
  split at ht
  · cases ht
  · rename_i h0
    rcases List.mem_append.1 ht with e | e
    · obtain ⟨i, hi, e2⟩ := List.getElem_of_mem e
      rw [← e2, hb.piece i hi]; simp
    · rw [List.mem_singleton] at e
      rcases hb.top with ⟨e1, _⟩ | hh
      · exact absurd e1 h0
      · rw [e, hh.look]; simp
set_option maxHeartbeats 4000000 in
theorem free7_ok (h : MemAt w mb most es K) {head : Nat} {text : Bytes} {rs : List Run} (hb : BlobAt es head text rs) (hnd : (bkN head rs).Nodup) :
    Calls Try.prog 12 #[.iface 26 (.pointer (some ⟨mb, 0, none⟩)), .int .i64 (head : Nat)] w fun e w' => ∃ es', e = .returned (.int .i64 0) ∧ MemAt w' mb most es' K ∧ Upd K w w' ∧ FreeP es (bkN head rs) es' := by
  have hbk := blocks7_ok h hb
  have hth := hb.there
  obtain ⟨n, hn⟩ : ∃ n, (bkN head rs).length = n := ⟨_, rfl⟩
  have hnb : n ≤ 97 := by
    have h1 := hb.len
    have h2 := hb.small
    rw [bkN] at hn
    split at hn
    · rw [← hn]; exact Nat.zero_le _
    · rw [List.length_append, h1] at hn; simp at hn; omega
  rw [hn] at hbk
  have hmf := meth_free mb
  have hnI : (n : Int) ≤ 97 := by omega
  have H := Lib.hid (And.intro h (And.intro hbk (And.intro hth (And.intro hn hnd))))
  clear h hbk hth hn hnd hb hnb
  go_enter Try.func12, Try.ntmps12
  go_wp2_with fail
  refine H.out.2.1.mono ?_
  rintro e w1 ⟨x, c, rfl, hs, hu, ho⟩
  dsimp only
  have HO : Hid (∀ q, (Value.slice x n c).ownBlock = some q → ¬ K q) := fun q hq hk => by
    have h1 := ho q hq
    have h2 := H.out.1.lt q hk
    omega
  have HQ : Hid (∃ es', MemAt w1 mb most es' K ∧ Upd K w w1 ∧ FreeI es ((srtI (bkN head rs)).take 0) es' ∧ Sees w1 1 (.slice x n c) n ((srtI (bkN head rs)).map (Value.int .i64))) :=
    ⟨es, H.out.1.upd hu (fun _ _ h => h), hu.mono (fun _ _ h => h.elim), ⟨(fun z hz => by cases hz), (fun _ _ => rfl), rfl⟩, hs⟩
  clear hs hu ho
  go_wp2_with fail
  go_loopw [18] (fun iv wr => ∃ (i : Nat), i ≤ n ∧ iv = .int .i64 i ∧ Hid (∃ es', MemAt wr mb most es' K ∧ Upd K w wr ∧ FreeI es ((srtI (bkN head rs)).take i) es' ∧ Sees wr 1 (.slice x n c) n ((srtI (bkN head rs)).map (Value.int .i64)))) (fun iv _ => n - (intOf iv).toNat)
  case atStart => exact ⟨0, Nat.zero_le _, rfl, HQ⟩
  case round =>
    clear HQ
    obtain ⟨i, hi, rfl, HR⟩ := hrel
    obtain ⟨es', HR⟩ := HR.out
    have HR := Lib.hid HR
    by_cases hlt : i < n
    · have hltI : (i : Int) < (n : Int) := by omega
      have hil : i < (srtI (bkN head rs)).length := by rw [srtI_length, H.out.2.2.2.1]; exact hlt
      obtain ⟨z, hz⟩ : ∃ z, (srtI (bkN head rs))[i] = z := ⟨_, rfl⟩
      have hperm : (srtI (bkN head rs)).Perm (intsI (bkN head rs)) := List.mergeSort_perm _ _
      obtain ⟨t, ht, htz⟩ : ∃ t ∈ bkN head rs, ((t : Nat) : Int) = z := by
        have := hperm.mem_iff.1 (hz ▸ List.getElem_mem hil)
        exact List.mem_map.1 this
      have hnd := srtI_nodup H.out.2.2.2.2
      have hzt : z ∉ (srtI (bkN head rs)).take i := fun hm => by
        have h2 := hnd
        rw [← List.take_append_drop i (srtI (bkN head rs)), List.nodup_append] at h2
        refine h2.2.2 z hm z ?_ rfl
        rw [List.drop_eq_getElem_cons hil, hz]
        exact List.mem_cons_self ..
      have hzl : lookB es z ≠ none := by rw [← htz]; exact H.out.2.2.1 t ht
      obtain ⟨g, o, rfl, hcz⟩ : ∃ g o, x = some ⟨g, o, none⟩ ∧ wr.cell? ⟨g, o + i, none⟩ = some (.int .i64 z) := by
        obtain ⟨_, _, x', c', e, hc⟩ := HR.out.2.2.2
        cases e
        obtain ⟨b, off, rfl, hr⟩ := hc (by omega)
        refine ⟨b, off, rfl, hr i _ ?_⟩
        rw [List.getElem?_map, List.getElem?_eq_getElem hil, hz]; rfl
      have hmf2 := mfree_ok HR.out.1 z (by rw [HR.out.2.2.1.2.1 z hzt]; exact hzl)
      have hstep := freeI_step HR.out.2.2.1 HR.out.1.ok.1 hzt hzl
      have hst : (srtI (bkN head rs)).take (i + 1) = (srtI (bkN head rs)).take i ++ [z] := by rw [List.take_succ_eq_append_getElem hil, hz]
      rw [← hst] at hstep
      have H2 := Lib.hid (And.intro hmf2 hstep)
      clear hmf2 hstep hst hzl hzt hnd htz ht hperm hz
      go_wp2_with fail
      refine H2.out.1.mono ?_
      rintro e w4 ⟨rfl, hM4, hu4⟩
      dsimp only
      have HJ : Hid (∃ es', MemAt w4 mb most es' K ∧ Upd K w w4 ∧ FreeI es ((srtI (bkN head rs)).take (i + 1)) es' ∧ Sees w4 1 (.slice (some ⟨g, o, none⟩) n c) n ((srtI (bkN head rs)).map (Value.int .i64))) :=
        ⟨_, hM4, HR.out.2.1.trans hu4, H2.out.2, Sees.upd hu4 HR.out.2.2.2 (fun q hq _ => HO.out q hq)⟩
      clear hM4 hu4 H2 HR hcz
      go_wp2_with fail
      exact ⟨⟨i + 1, by omega, by go_num, HJ⟩, by simp [intOf] <;> omega⟩
    · obtain rfl : i = n := by omega
      have hfin := HR.out.2.2.1
      rw [List.take_of_length_le (by rw [srtI_length, H.out.2.2.2.1]; exact Nat.le_refl _)] at hfin
      have Hf := Lib.hid (And.intro HR.out.1 (And.intro HR.out.2.1 (freeI_of hfin)))
      clear HR hfin
      go_wp2_with fail
      go_ret
      exact ⟨es', rfl, Hf.out⟩
/-- needs. -/
def needN (t : Bytes) : Nat := if t = [] then 0 else 1 + (t.length + 511) / 512
/-- A blob more. -/
structure AddedP (es : Img) (text : Bytes) (head : Nat) (rs : List Run) (ef : Img) : Prop where
  blob : BlobAt ef head text rs
  nd : (bkN head rs).Nodup
  fresh : ∀ t ∈ bkN head rs, 1 ≤ t ∧ t ≤ 4096 ∧ lookB es (t : Nat) = none
  other : ∀ k : Int, (∀ t ∈ bkN head rs, k ≠ ((t : Nat) : Int)) → lookB ef k = lookB es k
  len : ef.length = es.length + needN text
/-- Write, where there is room, whatever the text. -/
theorem write_anyF (h : MemAt w mb most es K) (s : ByteArray) (h2 : s.size ≤ 49152) (hroom : es.length + needN s.data.toList ≤ most) :
    Calls Try.prog 9 #[.iface 26 (.pointer (some ⟨mb, 0, none⟩)), .string s] w fun e w' => ∃ (head : Nat) (rs : List Run) (ef : Img) (K' : Nat → Prop), e = .returned (.tuple #[.int .i64 (head : Nat), .int .i64 0]) ∧
      MemAt w' mb most ef K' ∧ (∀ q, K' q → K q ∨ w.heap.size ≤ q) ∧ Upd K w w' ∧ AddedP es s.data.toList head rs ef := by
  have ht0 : s.data.toList.length = s.size := Array.length_toList
  rcases Nat.eq_zero_or_pos s.size with h0 | h0
  · refine (write_nil s h0).mono ?_
    rintro e w' ⟨rfl, hu⟩
    have ht : s.data.toList = [] := List.eq_nil_of_length_eq_zero (ht0.trans h0)
    refine ⟨0, [], es, K, rfl, h.upd hu (fun _ _ h => h), (fun q hq => .inl hq), hu.mono (fun _ _ h => h.elim), ⟨⟨.inl ⟨rfl, ht, rfl⟩, by decide, fun i hi => by cases hi⟩, List.nodup_nil, (fun t ht => by cases ht), (fun _ _ => rfl), by rw [ht]; rfl⟩⟩
  · have hnn : needN s.data.toList = 1 + (s.size + 511) / 512 := by
      rw [needN, if_neg (fun e => by rw [e] at ht0; simp at ht0; omega), ht0]
    refine (write_ok h s h0 h2 (by omega)).mono ?_
    rintro e w' ⟨head, rs, ef, K', rfl, h1, h3, h4, h5⟩
    have hh := h5.fresh head (List.mem_cons_self ..)
    have hbk : bkN head rs = runsB rs ++ [head] := by rw [bkN, if_neg (by omega)]
    have hmem : ∀ t, t ∈ bkN head rs ↔ t ∈ head :: runsB rs := fun t => by rw [hbk]; simp [or_comm]
    refine ⟨head, rs, ef, K', rfl, h1, h3, h4, ⟨h5.blob, ?_, fun t ht => h5.fresh t ((hmem t).1 ht), fun k hk => h5.other k (fun t ht => hk t ((hmem t).2 ht)), ?_⟩⟩
    · rw [hbk]
      exact (List.perm_append_singleton head (runsB rs)).nodup_iff.2 h5.nd
    · rw [h5.len, hnn, ht0]
/-- Clone, where there is room. -/
theorem clone7_ok (h : MemAt w mb most es K) {head : Nat} {text : Bytes} {rs : List Run} (hb : BlobAt es head text rs) (hroom : es.length + needN text ≤ most) :
    Calls Try.prog 15 #[.iface 26 (.pointer (some ⟨mb, 0, none⟩)), .int .i64 (head : Nat)] w fun e w' => ∃ (head : Nat) (rs : List Run) (ef : Img) (K' : Nat → Prop), e = .returned (.tuple #[.int .i64 (head : Nat), .int .i64 0]) ∧
      MemAt w' mb most ef K' ∧ (∀ q, K' q → K q ∨ w.heap.size ≤ q) ∧ Upd K w w' ∧ AddedP es text head rs ef := by
  have Hr := Lib.hid (read_ok h hb)
  have HM := Lib.hid (And.intro h (And.intro hb.small hroom))
  clear h hb hroom
  go_enter Try.func15, Try.ntmps15
  go_wp2_with fail
  refine Hr.out.mono ?_
  rintro e w1 ⟨rfl, hu⟩
  dsimp only
  have Hu := Lib.hid hu
  clear hu
  go_wp2_with fail
  refine (write_anyF (HM.out.1.upd Hu.out (fun _ _ h => h)) ⟨text.toArray⟩ HM.out.2.1 HM.out.2.2).mono ?_
  rintro e w2 ⟨head2, rs2, ef, K2, rfl, h1, h2, h3, h4⟩
  dsimp only
  have Hf : Hid (MemAt w2 mb most ef K2 ∧ (∀ q, K2 q → K q ∨ w.heap.size ≤ q) ∧ Upd K w w2 ∧ AddedP es text head2 rs2 ef) := by
    have hz := Hu.out.size
    exact ⟨h1, fun q hq => (h2 q hq).imp id (fun e => by omega), (Hu.out.mono (fun _ _ h => h.elim)).trans h3, h4⟩
  clear h1 h2 h3 h4
  go_wp2_with fail
  go_ret2
  exact ⟨head2, rs2, ef, K2, rfl, Hf.out⟩
theorem needs_ok (s : ByteArray) (h : s.size ≤ 1000000) (w : World) : Calls Try.prog 17 #[.string s] w fun e w' => e = .returned (.int .i64 (needN s.data.toList : Nat)) ∧ w = w' := by
  by_cases h0 : s.size = 0
  · have hs : s = ⟨#[]⟩ := by
      cases s with
      | mk d => exact congrArg ByteArray.mk (Array.eq_empty_of_size_eq_zero h0)
    subst hs
    clear h h0
    go_enter Try.func17, Try.ntmps17
    go_wp2_with fail
    go_ret
    exact ⟨rfl, rfl⟩
  · have hl : s.data.toList.length = s.size := Array.length_toList
    have hne : s.toList.isEmpty = false := by
      rw [ByteArray.toList_eq, List.isEmpty_eq_false_iff]
      intro e
      have e2 : s.data.toList.length = 0 := by rw [e]; rfl
      omega
    have hn : needN s.data.toList = 1 + (s.size + 511) / 512 := by
      rw [needN, if_neg (fun e => by rw [e] at hl; simp at hl; omega), hl]
    obtain ⟨size, hsz⟩ : ∃ size, s.size = size := ⟨_, rfl⟩
    obtain ⟨m, hm⟩ : ∃ m, (size + 511) / 512 = m := ⟨_, rfl⟩
    rw [hsz] at h hn h0
    rw [hm] at hn
    have i2 : (size : Int) ≤ 1000000 := by omega
    have i3 : (m : Int) ≤ 2000 := by omega
    have hszI : (s.size : Int) = (size : Int) := by omega
    have p3 : ((size : Int) + 511).tdiv 512 = (m : Int) := by rw [Int.tdiv_eq_ediv_of_nonneg (by omega)]; omega
    have p4 : IntKind.i64.wrap (m : Int) = (m : Int) := by rw [IntKind.wrap_i64]; omega
    have Hn := Lib.hid hn
    clear hn hm h h0 hl
    go_enter Try.func17, Try.ntmps17
    go_wp2_with fail
    go_ret
    rw [Hn.out]
    exact ⟨by simp, rfl⟩
end
end Go.Proofs.Ytmefbbmjamdnjaa
