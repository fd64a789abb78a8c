/- Package pager: Commit. -/
import Derived.Test.YtihlijnobbonbaaGreatPa4
import Derived.Deep.RegionHeld3
namespace Go.Proofs.YtihlijnobbonbaaGreat
open Go Go.RowKit
set_option linter.unusedSimpArgs false
set_option linter.unusedVariables false
set_option maxRecDepth 100000

/-- A transaction that is over. -/
def Shut (w : World) (tb : Nat) (K : Nat → Prop) : Prop := w.cell? ⟨tb, 0, none⟩ = some (.pointer none) ∧ ¬ K tb
/-- Abort, as a deferred call. -/
theorem pabort_d {w : World} {tb mb pb db lb fb skip : Nat} {ot : Option Addr} {dd : Bool} {L : LSt} {D : DSt} {es : Img} {F : Nat → Prop} (hp : PgAt w pb db lb fb skip ot dd L D es F) (ht : CellsA w tb 91 [.pointer (some ⟨pb, 0, none⟩), .map (some mb)]) (hn : ¬ ownP pb fb F tb) (u : FrameMode) :
    CallsD Tryz.prog 17 #[.pointer (some ⟨tb, 0, none⟩)] u w fun e u' w' => u' = u ∧ (e = .returned (.tuple #[]) ∧ PgAt w' pb db lb fb skip none dd L D es F ∧ Upd (fun q => q = tb ∨ q = pb) w w' ∧ Shut w' tb (ownP pb fb F)) := by
  have c0 := ht.cell 0
  have f0 := ht.frozen 0
  have c5 := hp.pg.cell 5
  have f5 := hp.pg.frozen 5
  have hne : tb ≠ pb := fun e => hn (.inl e)
  simp only [pgD, List.getElem?_cons_zero, List.getElem?_cons_succ] at c0 c5
  have H := Lib.hid (And.intro hp (And.intro ht hn))
  clear hp ht hn
  go_enter_d Tryz.func17, Tryz.ntmps17
  go_wp2_with fail
  go_end0
  have h := H.out
  have u1 : Upd (fun q => q = tb ∨ q = pb) w ((w.setCell ⟨pb, 5, none⟩ (.pointer none)).setCell ⟨tb, 0, none⟩ (.pointer none)) := ((Upd.refl _ w).setCell _ (.inl (.inr rfl))).setCell _ (.inl (.inl rfl))
  have p1 : CellsA ((w.setCell ⟨pb, 5, none⟩ (.pointer none)).setCell ⟨tb, 0, none⟩ (.pointer none)) pb 85 (pgD db lb skip fb none dd) := (h.1.pg.set 5 (.pointer none)).upd ((Upd.refl (fun q => q = tb) _).setCell _ (.inl rfl)) (fun e => hne e.symm)
  have k1 : CellsA ((w.setCell ⟨pb, 5, none⟩ (.pointer none)).setCell ⟨tb, 0, none⟩ (.pointer none)) tb 91 [.pointer none, .map (some mb)] := (h.2.1.upd ((Upd.refl (fun q => q = pb) w).setCell _ (.inl rfl)) hne).set 0 (.pointer none)
  refine ⟨rfl, ⟨p1, h.1.fresh.upd u1 ?_, h.1.wal.upd u1 ?_, h.1.ne, h.1.g1, h.1.g2⟩, u1, k1.cell 0, h.2.2⟩
  · rintro (e | e)
    · exact h.2.2 (.inr (.inl e.symm))
    · exact h.1.ne e
  · rintro q hq (e | e)
    · exact h.2.2 (.inr (.inr (e ▸ hq)))
    · exact h.1.g1 (e ▸ hq)
/-- What a Commit leaves. -/
def ComPost (w : World) (tb mb pb db lb fb skip N T : Nat) (L : LSt) (D : DSt) (ds : Img) (cs : List Img) (F : Nat → Prop) (a r : Int) (w' : World) : Prop :=
  ∃ (L' : LSt) (D' : DSt) (F' : Nat → Prop) (fb' : Nat) (es' : Img), PgAt w' pb db lb fb' skip none (decide (r = 10)) L' D' es' F' ∧ (Fut w w' (ownTx tb mb pb fb F) (ownP pb fb' F') ∧ Shut w' tb (ownP pb fb' F')) ∧
    ((ds.length = 0 ∧ a = (cs.length : Nat) ∧ r = 0 ∧ L' = L ∧ D' = D ∧ PInv L' D' skip N T cs es') ∨
     (ds.length ≠ 0 ∧ (skip - 1 < needB (encC ds) ∨ 1024 < ds.length) ∧ a = 0 ∧ r = 13 ∧ L' = L ∧ D' = D ∧ PInv L' D' skip N T cs es') ∨
     (ds.length ≠ 0 ∧ needB (encC ds) ≤ skip - 1 ∧ ds.length ≤ 1024 ∧ a = ((cs.length + 1 : Nat) : Int) ∧ r = 0 ∧ (∃ T', PInv L' D' skip N T' (cs ++ [ds]) es') ∧ L.synced ≤ L'.synced ∧ (D.fuel < 0 → D'.fuel = D.fuel)) ∨
     (ds.length ≠ 0 ∧ needB (encC ds) ≤ skip - 1 ∧ ds.length ≤ 1024 ∧ a = 0 ∧ r = 10 ∧ D'.dead = true ∧ SafeP D' skip N cs L'.synced ∧ 0 ≤ D.fuel))
/-- While the batch is made. -/
def BatR (w : World) (tb mb pb db lb fb skip : Nat) (L : LSt) (D : DSt) (ds es : Img) (F : Nat → Prop) (x : Option Addr) (n c : Nat) (y : Option Addr) (d k : Nat) (wr : World) : Prop :=
  TxP wr tb mb pb db lb fb skip L D ds es F ∧ Upd (fun _ => False) w wr ∧ Sees wr 1 (.slice x n c) n ((sortK ds).map (Value.int .i64)) ∧ Mid wr 1 (.slice y k d) k (strsV ((encC ds).take k)) ∧
    (∀ q, (Value.slice y k d).ownBlock = some q → w.heap.size ≤ q ∧ (Value.slice x n c).ownBlock ≠ some q)
/-- Ahead of the Append. -/
def ComA (w : World) (tb mb pb db lb fb skip N : Nat) (L : LSt) (D : DSt) (ds : Img) (cs : List Img) (F : Nat → Prop) (B : Batch) (y : Option Addr) (d : Nat) (LA : LSt) (DA : DSt) (FA : Nat → Prop) (fbA TA : Nat) (esA : Img) (wA : World) : Prop :=
  PgAt wA pb db lb fbA skip (some ⟨tb, 0, none⟩) false LA DA esA FA ∧ PInv LA DA skip N TA cs esA ∧ CellsA wA tb 91 [.pointer (some ⟨pb, 0, none⟩), .map (some mb)] ∧ MapAt wA mb (imgs ds) ∧ (¬ ownP pb fbA FA tb ∧ ¬ ownP pb fbA FA mb) ∧
    Sees wA 1 (.slice y B.length d) B.length (strsV B) ∧ (∀ q, (Value.slice y B.length d).ownBlock = some q → ¬ ownP pb fbA FA q) ∧ Fut w wA (ownTx tb mb pb fb F) (ownP pb fbA FA) ∧ needB B ≤ LA.room ∧ L.synced ≤ LA.synced ∧ (D.fuel < 0 → DA.fuel = D.fuel)
/-- The loop over what was written. -/
def ComL (w : World) (tb mb pb db lb fb fbA skip N : Nat) (L9 : LSt) (D9 : DSt) (ds esA : Img) (F F9 : Nat → Prop) (rb : Nat) (left : Int → Bool) (cnt : Nat) (wr : World) : Prop :=
  ∃ esx : Img, Rng wr mb rb (imgs ds) left cnt ∧ PgAt wr pb db lb fbA skip (some ⟨tb, 0, none⟩) false L9 D9 esx F9 ∧ EsOk N esx ∧ (∀ b, lookB esx b = if left b then lookB esA b else (lookB ds b).or (lookB esA b)) ∧ Fut w wr (ownTx tb mb pb fb F) (ownP pb fbA F9) ∧
    CellsA wr tb 91 [.pointer (some ⟨pb, 0, none⟩), .map (some mb)] ∧ ¬ ownP pb fbA F9 tb ∧ ¬ ownP pb fbA F9 mb ∧ ¬ ownP pb fbA F9 rb ∧ rb ≠ tb
theorem PgAt.lb {w : World} {pb db lb fb skip : Nat} {ot : Option Addr} {dd : Bool} {L : LSt} {D : DSt} {es : Img} {F : Nat → Prop} (h : PgAt w pb db lb fb skip ot dd L D es F) : ownP pb fb F lb := by
  obtain ⟨lv, G, _, _, _, _, _, _, hF⟩ := h.wal
  exact .inr (.inr ((hF lb).2 (.inl rfl)))
theorem Rng.left_eq {w : World} {b r : Nat} {es : List (Int × Value)} {left : Int → Bool} {cnt : Nat} (h : Rng w b r es left cnt) : w.rangeLeft b r = cnt := by
  obtain ⟨en, ck, since, seen, c0, h1, h2, h3, h4, _, h6, _⟩ := h
  simp only [World.rangeLeft, h1, h4]
  exact h6
theorem Fut.abort {w w2 w3 : World} {K : Nat → Prop} {tb pb fb : Nat} {F : Nat → Prop} (h : Fut w w2 K (ownP pb fb F)) (ht : K tb) (hu : Upd (fun q => q = tb ∨ q = pb) w2 w3 ∧ Shut w3 tb (ownP pb fb F)) : Fut w w3 K (ownP pb fb F) ∧ Shut w3 tb (ownP pb fb F) :=
  ⟨⟨h.upd.then hu.1 (fun q hq => by
    rcases hq with rfl | rfl
    · exact .inl ht
    · exact h.own _ (.inl rfl)), h.own⟩, hu.2⟩
theorem Fut.tx {w w2 : World} {tb mb pb fb fb2 : Nat} {F F2 : Nat → Prop} (h : Fut w w2 (ownP pb fb F) (ownP pb fb2 F2)) : Fut w w2 (ownTx tb mb pb fb F) (ownP pb fb2 F2) :=
  ⟨h.upd.mono (fun q _ hq => .inr (.inr hq)), fun q hq => (h.own q hq).imp (fun e => .inr (.inr e)) id⟩
set_option maxHeartbeats 16000000 in
theorem pcommit_ok {w : World} {tb mb pb db lb fb skip N T : Nat} {L : LSt} {D : DSt} {ds es : Img} {cs : List Img} {F : Nat → Prop} (h : TxP w tb mb pb db lb fb skip L D ds es F) (hi : PInv L D skip N T cs es) (hd : EsOk N ds) (hN : 1 ≤ N) (hcl : cs.length + 1 < 1000000000000000000) :
    Calls Tryz.prog 16 #[.pointer (some ⟨tb, 0, none⟩)] w fun e w' => ∃ a r, e = .returned (.tuple #[.int .i64 a, .int .i64 r]) ∧ ComPost w tb mb pb db lb fb skip N T L D ds cs F a r w' := by
  obtain ⟨G, hS, hG⟩ := h.s hi.secs (lens_of hd)
  have hmx : skip + N ≤ 4096 := by have := hS.disk.1.most; have := hi.secs; omega
  have hus := usable_ok hS 0 (by omega) (by omega)
  rw [if_neg (by omega)] at hus
  obtain ⟨n, hn⟩ : ∃ n, ds.length = n := ⟨_, rfl⟩
  have hnN : n ≤ 4096 := by have := hd.le; omega
  have hnI : (n : Int) ≤ 4096 := by omega
  have H := Lib.hid (And.intro h (And.intro hi (And.intro hd (And.intro hn (And.intro hN hcl)))))
  have Hus := Lib.hid hus
  have Hmx := Lib.hid (And.intro hmx hnN)
  clear h hi hd hus hS hG hn hmx hnN hcl hN
  go_enter_defers Tryz.func16, Tryz.ntmps16
  go_wp2_with fail
  refine Hus.out.mono ?_
  rintro e w1 ⟨rfl, hu⟩
  dsimp only
  have HT := Lib.hid (And.intro (H.out.1.upd hu (fun _ _ h => h)) hu)
  clear hu Hus
  have c0 := HT.out.1.tx.cell 0
  have c1 := HT.out.1.tx.cell 1
  simp only [List.getElem?_cons_zero, List.getElem?_cons_succ] at c0 c1
  have hln : ∀ ty, (Builtin.len_ #[83] ty #[.map (some mb)]).run Tryz.prog w1 = .ok (.int .i64 (n : Nat)) w1 := fun ty => by
    obtain ⟨en, ck, hm, he, _⟩ := HT.out.1.dirty
    have hlen : en.size = n := by have := congrArg List.length he; have h2 := H.out.2.2.2.1; simp [imgs] at this; omega
    rw [← hlen]
    exact run_len_map (w := w1) 83 ty mb en ck (by kernel_rfl) hm
  by_cases h0 : n = 0
  · subst h0
    go_wp2_with fail
    refine (pdone_ok HT.out.1.pg).mono ?_
    rintro e w2 ⟨rfl, rfl⟩
    dsimp only
    go_wp2_with fail
    refine leaves_cons (f := 17) (args := #[.pointer (some ⟨tb, 0, none⟩)]) (by simp) (by simp [go_sem]) ?_
    refine (pabort_d HT.out.1.pg HT.out.1.tx HT.out.1.n2 .returning).mono ?_
    rintro e u' w3 ⟨rfl, rfl, hp3, hu3⟩
    refine ⟨_, results_tmp2 rfl _ _ _, ?_⟩
    refine ⟨_, _, rfl, L, D, F, fb, es, hp3, Fut.abort ((Fut.quiet _ HT.out.2).tx) (.inl rfl) hu3, .inl ⟨H.out.2.2.2.1, ?_, rfl, rfl, rfl, H.out.2.1⟩⟩
    rw [H.out.2.1.inv.last, List.length_map]
  · have q0 : ((n : Int) == 0) = false := by simp; omega
    have hok := H.out.2.2.1
    have hkr : ∀ p ∈ imgs ds, -9223372036854775808 ≤ p.1 ∧ p.1 ≤ 9223372036854775807 := by
      intro p hp
      obtain ⟨q, hq, rfl⟩ := List.mem_map.1 hp
      have h1 := hok.rng q hq
      have h2 := Hmx.out.1
      show -9223372036854775808 ≤ q.1 ∧ q.1 ≤ 9223372036854775807
      omega
    have hik : (imgs ds).map (·.1) = keysB ds := by simp [imgs, keysB]
    have hil : (imgs ds).length = n := by have h2 := H.out.2.2.2.1; simp [imgs]; omega
    have HN := Lib.hid (And.intro hkr (And.intro hik hil))
    have hnN := Hmx.out.2
    clear hok hkr hik hil
    go_wp2_with fail
    refine (keys_ok mb w1).mono ?_
    rintro e w2 ⟨rfl, hw2⟩
    dsimp only
    have hu2 : Upd (fun _ => False) w1 w2 := by rw [hw2]; exact (Upd.refl _ w1).alloc _
    have hb2 : CellsA w2 w1.heap.size 83 [.map (some mb)] := by rw [hw2]; exact CellsA.new w1 _ [.map (some mb)]
    have hso := sorted_ok (W := w2) (Bm := w1.heap.size) (b := mb) (es := imgs ds) hb2.lt (hb2.cell 0) (HT.out.1.dirty.upd hu2 (fun h => h)) HN.out.1 (by rw [HN.out.2.2]; omega)
    rw [HN.out.2.1, HN.out.2.2] at hso
    have Hso := Lib.hid hso
    have H2 := Lib.hid (And.intro (HT.out.1.upd hu2 (fun _ _ h => h)) (HT.out.2.trans hu2))
    clear hw2 hu2 hb2 hso c0 c1 hln
    go_wp2_with fail
    refine Hso.out.mono ?_
    rintro e w3 ⟨x, c, rfl, hse, hown, hu3⟩
    dsimp only
    have HQ : Hid (BatR w tb mb pb db lb fb skip L D ds es F x n c none 0 0 w3) := ⟨H2.out.1.upd hu3 (fun _ _ h => h), H2.out.2.trans hu3, hse, Mid.nil _ _, fun q hq => by cases hq⟩
    have Hx : Hid (∀ q, (Value.slice x n c).ownBlock = some q → w2.heap.size ≤ q) := hown
    clear hse hown hu3 Hso H2
    go_wp2_with fail
    go_loopw [40, 6] (fun i v wr => ∃ (k d : Nat) (y : Option Addr), k ≤ n ∧ i = .int .i64 k ∧ v = .slice y k d ∧ Hid (BatR w tb mb pb db lb fb skip L D ds es F x n c y d k wr)) (fun i _ _ => n - (intOf i).toNat)
    case atStart => exact ⟨0, 0, none, Nat.zero_le _, rfl, rfl, HQ⟩
    case round =>
      clear HQ
      obtain ⟨k, d, y, hk, rfl, rfl, HR⟩ := hrel
      by_cases hlt : k < n
      · have hltI : (k : Int) < (n : Int) := by omega
        have hkl : k < (sortK ds).length := by rw [sortK_length]; have := H.out.2.2.2.1; omega
        obtain ⟨j, hj⟩ : ∃ j, (sortK ds)[k] = j := ⟨_, rfl⟩
        have hxx : ∃ xb xo, x = some ⟨xb, xo, none⟩ ∧ wr.cell? ⟨xb, xo + k, none⟩ = some (.int .i64 j) := by
          obtain ⟨_, _, x', c', e', hc⟩ := HR.out.2.2.1
          cases e'
          obtain ⟨xb, xo, hx, hr⟩ := hc (by omega)
          refine ⟨xb, xo, hx, hr k _ ?_⟩
          rw [List.getElem?_map, List.getElem?_eq_getElem hkl, hj]; rfl
        obtain ⟨xb, xo, rfl, hcell⟩ := hxx
        have hjk : j ∈ keysB ds := (sortK_mem ds j).1 (hj ▸ List.getElem_mem hkl)
        have hjd := H.out.2.2.1.data hjk
        obtain ⟨z, hz⟩ : ∃ z, dataAt ds j = z := ⟨_, rfl⟩
        rw [hz] at hjd
        have Hlk : Hid ((lookV (imgs ds) j).getD (.agg (bvs zeros512).toArray) = .agg (bvs z).toArray) := by
          rw [lookV_imgs, ← hz, dataAt]
          obtain ⟨v, hv⟩ := lookB_of_key hjk
          rw [hv]; rfl
        have hrec : (encC ds)[k]? = some (recB j z) := by
          rw [encC, List.getElem?_map, List.getElem?_eq_getElem hkl, hj, ← hz]; rfl
        obtain ⟨jn, rfl⟩ : ∃ jn : Nat, j = (jn : Int) := ⟨j.toNat, by omega⟩
        have hrk := record_ok jn (by have := Hmx.out.1; omega) z hjd.2.2 wr
        have c1 := HR.out.1.tx.cell 1
        simp only [List.getElem?_cons_zero, List.getElem?_cons_succ] at c1
        have Hj := Lib.hid (And.intro hrec (And.intro hrk hkl))
        clear hj hjk hjd hz hrec hrk hkl
        go_wp2_with (first | ((with_reducible apply wpl_lookup1_map Tryz.underlying83 Tryz.underlying3 (.agg (bvs zeros512).toArray) (zeroImg _) mb (imgs ds) (jn : Int)); exact rfl; exact rfl; exact HR.out.1.dirty; rw [Hlk.out]; try (simp only [Act.put, List.setIfInBounds_toArray, List.set_cons_zero, List.set_cons_succ])))
        refine Hj.out.2.1.mono ?_
        rintro e w5 ⟨rfl, hu5⟩
        dsimp only
        have H5 := Lib.hid hu5
        clear hu5 hcell c1
        go_wp2_with ((with_reducible apply wpl_append_mid 9 1 16 _ (.slice y k d) k (strsV ((encC ds).take k)) 1 [.string (recB (jn : Int) z)]))
        · exact Tryz.underlying41
        · exact infoS
        · rfl
        · rfl
        · exact HR.out.2.2.2.1.upd (H5.out.alloc _) (fun _ _ h => h)
        · exact Sees.at rfl (by decide) (rangeAt_of_row (heap_alloc_new w5 (.cells ([.string (recB (jn : Int) z)] : List Value).toArray 9)) rfl)
        · intro u hu; simp at hu; rw [hu]; rfl
        · unfold maxLen; omega
        · omega
        intro y' d' w6 hm6 hu6 hb6
        try (simp only [Act.put, List.setIfInBounds_toArray, List.set_cons_zero, List.set_cons_succ])
        have hst : strsV ((encC ds).take k) ++ [.string (recB (jn : Int) z)] = strsV ((encC ds).take (k + 1)) := by
          have hkl2 : k < (encC ds).length := by rw [encC_length]; have := H.out.2.2.2.1; omega
          have hg : (encC ds)[k] = recB (jn : Int) z := by
            have := Hj.out.1
            rw [List.getElem?_eq_getElem hkl2] at this
            exact Option.some.inj this
          rw [List.take_succ_eq_append_getElem hkl2, hg]; simp [strsV]
        rw [hst] at hm6
        have HB : Hid (BatR w tb mb pb db lb fb skip L D ds es F (some ⟨xb, xo, none⟩) n c y' d' (k + 1) w6) := by
          obtain ⟨r1, r2, r3, r4, r5⟩ := HR.out
          have hu56 : Upd (fun _ => False) wr (w5.alloc (.cells #[.string (recB (jn : Int) z)] 9)) := H5.out.alloc _
          have hz1 := r2.size
          have hz2 := hu56.size
          have hnew : ∀ q, (Value.slice y k d).ownBlock = some q → w.heap.size ≤ q := fun q hq => (r5 q hq).1
          have hall : Upd (fun _ => False) w w6 := (r2.trans hu56).then hu6 (fun q hq => .inr (hnew q hq))
          have hwr : Upd (fun q => (Value.slice y k d).ownBlock = some q) wr w6 := (hu56.mono (fun _ _ h => h.elim)).trans hu6
          have hxl : ∀ q, (Value.slice (some ⟨xb, xo, none⟩) n c).ownBlock = some q → q < wr.heap.size := fun q hq => by
            obtain rfl : q = xb := by cases hq; rfl
            obtain ⟨_, _, x', c', e', hc⟩ := r3
            cases e'
            obtain ⟨xb', xo', hx, hr⟩ := hc (by omega)
            cases hx
            exact World.block_lt_of_cell? _ _ (hr k _ (by rw [List.getElem?_map, List.getElem?_eq_getElem Hj.out.2.2]; rfl))
          refine ⟨H.out.1.upd hall (fun _ _ h => h), hall, r3.upd hwr (fun q hq h0 e => (r5 q e).2 hq), hm6, fun q hq => ?_⟩
          rcases hb6 with e | e
          · rw [e] at hq
            exact r5 q hq
          · rw [e] at hq
            cases hq
            refine ⟨by omega, fun e2 => ?_⟩
            have := hxl _ e2
            omega
        clear hm6 hu6 hb6 hst
        go_wp2_with fail
        exact ⟨⟨k + 1, d', y', by omega, by go_num, rfl, HB⟩, by simp [intOf]; omega⟩
      · obtain rfl : k = n := by omega
        clear hlt
        obtain ⟨B, hB⟩ : ∃ B, encC ds = B := ⟨_, rfl⟩
        have hBl : B.length = k := by rw [← hB, encC_length]; exact H.out.2.2.2.1
        obtain ⟨nd, hnd⟩ : ∃ nd, needB B = nd := ⟨_, rfl⟩
        obtain ⟨rg, hrg⟩ : ∃ rg, skip - 1 = rg := ⟨_, rfl⟩
        have hnb : nd ≤ 5000 := by
          rw [← hnd, ← hB, needB_encC H.out.2.2.1]
          have h2 := H.out.2.2.2.1
          omega
        have hbB : Hid (Mid wr 1 (.slice y k d) k (strsV B)) := by
          have := HR.out.2.2.2.1
          rw [hB, List.take_of_length_le (by omega)] at this
          exact this
        have hned := need_ok y d B wr (by rw [hBl]; exact hbB.out.sees) (by rw [← hB, bytesOf_encC H.out.2.2.1]; have h2 := H.out.2.2.2.1; omega)
        rw [hBl, hnd] at hned
        have Hned := Lib.hid hned
        have c3 := HR.out.1.pg.pg.cell 3
        simp only [pgD, List.getElem?_cons_zero, List.getElem?_cons_succ] at c3
        rw [hrg] at c3
        have hrgI : (rg : Int) ≤ 4096 := by have := Hmx.out.1; omega
        have hndI : (nd : Int) ≤ 5000 := by omega
        have HB := Lib.hid (And.intro hB (And.intro hBl (And.intro hnd hrg)))
        clear hB hBl hnd hrg hned
        go_wp2_with fail
        refine Hned.out.mono ?_
        rintro e w4 ⟨rfl, rfl⟩
        dsimp only
        clear Hned
        by_cases hb1 : rg < nd
        · have q1 : decide (rg < nd) = true := by simpa using hb1
          go_wp2_with fail
          refine leaves_cons (f := 17) (args := #[.pointer (some ⟨tb, 0, none⟩)]) (by simp) (by simp [go_sem]) ?_
          refine (pabort_d HR.out.1.pg HR.out.1.tx HR.out.1.n2 .returning).mono ?_
          rintro e u' wz ⟨rfl, rfl, hpz, huz⟩
          refine ⟨_, results_tmp2 rfl _ _ _, ?_⟩
          refine ⟨_, _, rfl, L, D, F, fb, es, hpz, Fut.abort ((Fut.quiet _ HR.out.2.1).tx) (.inl rfl) huz, .inr (.inl ⟨by rw [H.out.2.2.2.1]; exact h0, .inl ?_, rfl, rfl, rfl, rfl, H.out.2.1⟩)⟩
          rw [HB.out.1, HB.out.2.2.1, HB.out.2.2.2]; exact hb1
        have q1 : decide (rg < nd) = false := by simpa using hb1
        by_cases hb2 : 1024 < k
        · have q2 : decide ((k : Int) > 1024) = true := by simp; omega
          go_wp2_with fail
          refine leaves_cons (f := 17) (args := #[.pointer (some ⟨tb, 0, none⟩)]) (by simp) (by simp [go_sem]) ?_
          refine (pabort_d HR.out.1.pg HR.out.1.tx HR.out.1.n2 .returning).mono ?_
          rintro e u' wz ⟨rfl, rfl, hpz, huz⟩
          refine ⟨_, results_tmp2 rfl _ _ _, ?_⟩
          refine ⟨_, _, rfl, L, D, F, fb, es, hpz, Fut.abort ((Fut.quiet _ HR.out.2.1).tx) (.inl rfl) huz, .inr (.inl ⟨by rw [H.out.2.2.2.1]; exact h0, .inr (by rw [H.out.2.2.2.1]; exact hb2), rfl, rfl, rfl, rfl, H.out.2.1⟩)⟩
        have q2 : decide ((k : Int) > 1024) = false := by simp; omega
        have c11 := HR.out.1.pg.pg.cell 1
        simp only [pgD, List.getElem?_cons_zero, List.getElem?_cons_succ] at c11
        obtain ⟨rm, hrm⟩ : ∃ rm, L.n - 1 - L.used = rm := ⟨_, rfl⟩
        have hroom : Hid (Calls Tryz.prog 46 #[.pointer (some ⟨lb, 0, none⟩)] wr fun e w' => e = .returned (.int .i64 (rm : Nat)) ∧ w' = wr.drew) := by
          obtain ⟨lv, G, h0, h1, h2, _⟩ := HR.out.1.pg.wal
          have h9 := room_ok h1 h0
          rw [hrm] at h9
          exact h9
        have hrmI : (rm : Int) ≤ 4096 := by have := H.out.2.1.n; have := Hmx.out.1; omega
        have Hrm := Lib.hid hrm
        clear hrm
        go_wp2_with fail
        refine hroom.out.mono ?_
        rintro e w4 ⟨rfl, rfl⟩
        dsimp only
        have HR4 : Hid (BatR w tb mb pb db lb fb skip L D ds es F x k c y d k wr.drew) := by
          have u := (Upd.refl (fun _ => False) wr).drew
          obtain ⟨r1, r2, r3, r4, r5⟩ := HR.out
          exact ⟨r1.upd u (fun _ _ h => h), r2.trans u, r3.upd u (fun _ _ _ h => h), r4.upd u (fun _ _ h => h), r5⟩
        have hbB4 : Hid (Sees wr.drew 1 (.slice y B.length d) B.length (strsV B)) := by rw [HB.out.2.1]; exact (hbB.out.upd (Upd.refl (fun _ => False) wr).drew (fun _ _ h => h)).sees
        clear hroom HR c3 c11 hbB
        generalize wr.drew = w4 at *
        by_cases hb3 : rm < nd
        · have q3 : decide (rm < nd) = true := by simpa using hb3
          go_wp2_with fail
          have hho := phome_ok HR4.out.1.pg H.out.2.1.pre (by have := H.out.2.1.wl; have := H.out.2.1.inv.ok.used; have := H.out.2.1.n; have := Hmx.out.1; omega)
          refine hho.mono ?_
          rintro e wA ⟨rh, rfl, LA, DA, FA, fbA, esA, g1, g2, g3, g4⟩
          dsimp only
          rcases g2 with ⟨rfl, g2⟩ | ⟨rfl, g2⟩ | ⟨rfl, g2⟩
          · obtain rfl := g3 rfl
            have HA : Hid (ComA w tb mb pb db lb fb skip N L D ds cs F B y d LA DA FA fbA cs.length [] wA) := by
              obtain ⟨r1, r2, r3, r4, r5⟩ := HR4.out
              have hown : ∀ q, (Value.slice y B.length d).ownBlock = some q → w.heap.size ≤ q ∧ q < w4.heap.size ∧ ¬ ownP pb fb F q := fun q hq => by
                rw [HB.out.2.1] at hq
                have h1 := r5 q hq
                have h2 := r4.lt q hq
                refine ⟨h1.1, h2, fun e => ?_⟩
                have h3 := H.out.1.pg.lt q e
                omega
              refine ⟨g1, g2.1, r1.tx.upd g4.upd r1.n2, r1.dirty.upd g4.upd r1.n3, ⟨g4.out r1.tx.lt r1.n2, g4.out r1.dirty.lt r1.n3⟩, hbB4.out.upd g4.upd (fun q hq h00 => (hown q hq).2.2), fun q hq => g4.out (hown q hq).2.1 (hown q hq).2.2, ((Fut.quiet _ r2).trans g4).tx, ?_, ?_, g2.2.2.2⟩
              · have hu := g2.1.inv.used
                rw [List.drop_eq_nil_of_le (by rw [List.length_map]; exact Nat.le_refl _)] at hu
                have h3 := HB.out
                have h4 := g2.1.n
                have h5 : LA.used = 0 := hu
                unfold LSt.room
                omega
              · rw [g2.2.1]
                have := H.out.2.1.inv.high
                rw [List.length_map] at this
                exact this
            obtain ⟨TA, hTA⟩ : ∃ TA, cs.length = TA := ⟨_, rfl⟩
            obtain ⟨esA, hesA⟩ : ∃ esA : Img, [] = esA := ⟨_, rfl⟩
            have HA2 : Hid (ComA w tb mb pb db lb fb skip N L D ds cs F B y d LA DA FA fbA TA esA wA) := by rw [← hTA, ← hesA]; exact HA.out
            clear HA hTA hesA g1 g2 g3 g4 hho
            have HA := Lib.hid HA2.out
            clear HA2
            have c11 := HA.out.1.pg.cell 1
            simp only [pgD, List.getElem?_cons_zero, List.getElem?_cons_succ] at c11
            have hap := append_ok HA.out.1.wal (by have := HA.out.2.1.wl; have := HA.out.2.1.inv.ok.used; have := HA.out.2.1.n; have := Hmx.out.1; omega) y d B HA.out.2.2.2.2.2.1 (fun q hq h00 e => HA.out.2.2.2.2.2.2.1 q.block (by rw [hq]; rfl) (by rw [e]; exact HA.out.1.lb)) (by rw [HA.out.2.1.inv.last, List.length_map]; exact H.out.2.2.2.2.2)
            rw [HB.out.2.1] at hap
            have Hap := Lib.hid hap
            have Hpa := Lib.hid (pappend HA.out.2.1 H.out.2.2.1 (by rw [H.out.2.2.2.1]; exact h0) (by rw [H.out.2.2.2.1]; omega) (by rw [HB.out.1]; exact HA.out.2.2.2.2.2.2.2.2.1) H.out.2.2.2.2.2 (replay esA ds) (HA.out.2.1.okE.replay H.out.2.2.1) (look_replay esA ds))
            obtain ⟨L9, hL9⟩ : ∃ L9, (LA.append DA B).1 = L9 := ⟨_, rfl⟩
            obtain ⟨D9, hD9⟩ : ∃ D9, (LA.append DA B).2.1 = D9 := ⟨_, rfl⟩
            obtain ⟨a9, ha9⟩ : ∃ a9, (LA.append DA B).2.2.1 = a9 := ⟨_, rfl⟩
            obtain ⟨r9, hr9⟩ : ∃ r9, (LA.append DA B).2.2.2 = r9 := ⟨_, rfl⟩
            have hpr : (LA.append DA B).2.2 = (a9, r9) := by rw [← ha9, ← hr9]
            have Hpa2 : Hid (AppP LA DA skip N TA cs ds (replay esA ds) L9 D9 (a9, r9)) := by
              have := Hpa.out
              rw [HB.out.1, hL9, hD9, hpr] at this
              exact this
            have HL9 := Lib.hid (And.intro hL9 (And.intro hD9 hpr))
            rw [hL9, hD9, ha9, hr9] at Hap
            clear hap Hpa hL9 hD9 ha9 hr9 hpr
            go_wp2_with fail
            refine Hap.out.mono ?_
            rintro e w5 ⟨rfl, hw5⟩
            dsimp only
            have H5 : Hid (∃ F9, PgAt w5 pb db lb fbA skip (some ⟨tb, 0, none⟩) false L9 D9 esA F9 ∧ Fut wA w5 (ownP pb fbA FA) (ownP pb fbA F9)) := HA.out.1.step hw5
            obtain ⟨F9, H5⟩ := H5.out
            have H5 := Lib.hid H5
            have Htx : Hid (CellsA w5 tb 91 [.pointer (some ⟨pb, 0, none⟩), .map (some mb)] ∧ MapAt w5 mb (imgs ds) ∧ ¬ ownP pb fbA F9 tb ∧ ¬ ownP pb fbA F9 mb ∧ mb ≠ tb) :=
              ⟨HA.out.2.2.1.upd H5.out.2.upd HA.out.2.2.2.2.1.1, HA.out.2.2.2.1.upd H5.out.2.upd HA.out.2.2.2.2.1.2, H5.out.2.out HA.out.2.2.1.lt HA.out.2.2.2.2.1.1, H5.out.2.out HA.out.2.2.2.1.lt HA.out.2.2.2.2.1.2, H.out.1.n1⟩
            have hfu5 : Hid (Fut w w5 (ownTx tb mb pb fb F) (ownP pb fbA F9)) := HA.out.2.2.2.2.2.2.2.1.trans H5.out.2
            clear hw5 Hap c11
            rcases Hpa2.out with ⟨hpr, hp⟩ | ⟨hpr, hp⟩
            · obtain ⟨rfl, rfl⟩ : a9 = ((cs.length + 1 : Nat) : Int) ∧ r9 = 0 := by cases hpr; exact ⟨rfl, rfl⟩
              clear hpr
              have HP9 := Lib.hid hp
              clear hp
              have ct1 := Htx.out.1.cell 1
              simp only [List.getElem?_cons_zero, List.getElem?_cons_succ] at ct1
              obtain ⟨av, hav⟩ : ∃ av : Int, ((cs.length + 1 : Nat) : Int) = av := ⟨_, rfl⟩
              rw [hav]
              have Hav := Lib.hid hav
              clear hav
              go_wp2_with ((with_reducible apply wpl_range_map Tryz.underlying83 mb (imgs ds)); exact rfl; exact Htx.out.2.1; intro w6 hrg6 hu6 hs6; try (simp only [Act.put, List.setIfInBounds_toArray, List.set_cons_zero, List.set_cons_succ]))
              have HQ : Hid (ComL w tb mb pb db lb fb fbA skip N L9 D9 ds esA F F9 w5.heap.size (fun _ => true) (imgs ds).length w6) :=
                ⟨esA, hrg6, H5.out.1.upd hu6 (fun _ _ h => h), HA.out.2.1.okE, fun b => by simp, hfu5.out.trans (Fut.quiet _ hu6), Htx.out.1.upd hu6 (fun h => h), Htx.out.2.2.1, Htx.out.2.2.2.1, fun e => by have := H5.out.1.lt _ e; omega, fun e => by have := Htx.out.1.lt; omega⟩
              have hs5 : Hid (w.heap.size ≤ w5.heap.size) := hfu5.out.upd.size
              generalize w5.heap.size = rb at *
              clear hrg6 hu6 hs6 ct1
              go_loopw [13] (fun _ wr => ∃ (left : Int → Bool) (cnt : Nat), Hid (ComL w tb mb pb db lb fb fbA skip N L9 D9 ds esA F F9 rb left cnt wr)) (fun _ wr => wr.rangeLeft mb rb)
              case atStart => exact ⟨_, _, HQ⟩
              case round =>
                clear HQ
                obtain ⟨left, cnt, HL⟩ := hrel
                obtain ⟨esx, HL⟩ := HL.out
                have HL := Lib.hid HL
                go_wp2_with ((with_reducible apply wpl_next_map mb rb (imgs ds) left cnt); exact rfl; exact HL.out.1)
                · intro hc0 hl0
                  try (simp only [Act.put, List.setIfInBounds_toArray, List.set_cons_zero, List.set_cons_succ])
                  go_wp2_with fail
                  refine leaves_cons (f := 17) (args := #[.pointer (some ⟨tb, 0, none⟩)]) (by simp) (by simp [go_sem]) ?_
                  refine (pabort_d HL.out.2.1 HL.out.2.2.2.2.2.1 HL.out.2.2.2.2.2.2.1 .returning).mono ?_
                  rintro e u' wz ⟨rfl, rfl, hpz, huz⟩
                  refine ⟨_, results_tmp2 rfl _ _ _, ?_⟩
                  have hlook : ∀ b, lookB esx b = (lookB ds b).or (lookB esA b) := fun b => by
                    rw [HL.out.2.2.2.1 b]
                    cases hq : lookB ds b with
                    | none => simp
                    | some x0 =>
                      have hm : (b, Value.agg (bvs x0).toArray) ∈ imgs ds := List.mem_map.2 ⟨(b, x0), lookB_mem hq, rfl⟩
                      rw [hl0 _ hm]
                      simp
                  have hfin := pappend HA.out.2.1 H.out.2.2.1 (by rw [H.out.2.2.2.1]; exact h0) (by rw [H.out.2.2.2.1]; omega) (by rw [HB.out.1]; exact HA.out.2.2.2.2.2.2.2.2.1) H.out.2.2.2.2.2 esx HL.out.2.2.1 hlook
                  rw [HB.out.1, HL9.out.1, HL9.out.2.1, HL9.out.2.2] at hfin
                  rcases hfin with ⟨_, g2, g3, g4⟩ | ⟨g1, _⟩
                  · refine ⟨_, _, rfl, L9, D9, F9, fbA, esx, hpz, Fut.abort HL.out.2.2.2.2.1 (.inl rfl) huz, .inr (.inr (.inl ⟨by rw [H.out.2.2.2.1]; exact h0, by rw [HB.out.1, HB.out.2.2.1, HB.out.2.2.2]; omega, by rw [H.out.2.2.2.1]; omega, Hav.out.symm, rfl, ⟨TA, g2⟩, by rw [g3]; exact HA.out.2.2.2.2.2.2.2.2.2.1, fun hf => ?_⟩))⟩
                    have e1 := HA.out.2.2.2.2.2.2.2.2.2.2 hf
                    exact (g4 (by omega)).trans e1
                  · cases g1
                · intro key val w7 cnt' hmem hlk hrg7 hlt7 hu7 hs7 hen
                  obtain ⟨q7, hq7, hqe⟩ := List.mem_map.1 hmem
                  obtain ⟨k7, x7⟩ := q7
                  simp only [Prod.mk.injEq] at hqe
                  obtain ⟨rfl, rfl⟩ := hqe
                  have hd7 := H.out.2.2.1.rng _ hq7
                  have hl7 := lookB_of_mem H.out.2.2.1.nd hq7
                  have Hz7 : (bvs x7).toArray.size = 512 := by simp [bvs_length, hd7.2.2]
                  have Hall7 : (bvs x7).toArray.all (·.oneCell') = true := by rw [List.all_toArray]; exact List.all_eq_true.2 (bvs_one x7)
                  have H7 := Lib.hid (And.intro hd7 (And.intro hl7 (And.intro hrg7 (And.intro hlt7 (And.intro hu7 (And.intro hs7 hlk))))))
                  clear hmem hq7 hd7 hl7 hrg7 hlt7 hu7 hs7 hlk
                  try (simp only [Act.put, List.setIfInBounds_toArray, List.set_cons_zero, List.set_cons_succ])
                  go_wp2_with ((with_reducible apply wpl_store_new); exact rfl; exact rfl; (rw [Hz7]; exact sizeImg); exact Tryz.zeroCells94_size.trans Hz7.symm; exact Hall7; try (simp only [Act.put, List.setIfInBounds_toArray, List.set_cons_zero, List.set_cons_succ]))
                  have hyc := CellsA.new w7 94 (bvs x7)
                  have hu8 : Upd (fun _ => False) w7 (w7.alloc (.cells (bvs x7).toArray 94)) := (Upd.refl _ w7).alloc _
                  clear hen
                  have HL8 : Hid (ComL w tb mb pb db lb fb fbA skip N L9 D9 ds esA F F9 rb left cnt wr) := ⟨esx, HL.out⟩
                  have H8n : Hid (PgAt (w7.alloc (.cells (bvs x7).toArray 94)) pb db lb fbA skip (some ⟨tb, 0, none⟩) false L9 D9 esx F9 ∧ Rng (w7.alloc (.cells (bvs x7).toArray 94)) mb rb (imgs ds) (fun j => left j && !(j == k7)) cnt' ∧ Upd (fun q => q = rb) wr (w7.alloc (.cells (bvs x7).toArray 94))) :=
                    ⟨(HL.out.2.1.upd H7.out.2.2.2.2.1 (fun q hq e => HL.out.2.2.2.2.2.2.2.2.1 (e ▸ hq))).upd hu8 (fun _ _ h => h), H7.out.2.2.1.upd hu8 (fun h => h) (fun h => h), H7.out.2.2.2.2.1.trans (hu8.mono (fun _ _ h => h.elim))⟩
                  clear hu8
                  generalize w7.alloc (.cells (bvs x7).toArray 94) = w8 at *
                  generalize w7.heap.size = yb at *
                  have hyd : CellsA w8.drew yb 94 (bvs x7) := hyc.upd (Upd.refl (fun _ => False) _).drew (fun h => h)
                  have H8 : Hid (PgAt w8.drew pb db lb fbA skip (some ⟨tb, 0, none⟩) false L9 D9 esx F9 ∧ Rng w8.drew mb rb (imgs ds) (fun j => left j && !(j == k7)) cnt' ∧ Upd (fun q => q = rb) wr w8.drew) := ⟨H8n.out.1.upd (Upd.refl (fun _ => False) _).drew (fun _ _ h => h), H8n.out.2.1.upd (Upd.refl (fun _ => False) _).drew (fun h => h) (fun h => h), H8n.out.2.2.drew⟩
                  clear hyc H8n
                  have HS : w8.drew.cell? ⟨pb, 4, none⟩ = some (.map (some fbA)) ∧ w8.drew.rangeAt yb 0 (bvs x7) := ⟨H8.out.1.pg.cell 4, hyd.range⟩
                  refine wp_region_noPanic ?_
                  refine wp_region_planD (fun u => u.cell? ⟨pb, 4, none⟩ = some (.map (some fbA)) ∧ u.rangeAt yb 0 (bvs x7)) 6 [(0, true), (1, true), (2, true), (3, true), (4, true), (5, true), (6, false)] (by kernel_rfl) (by kernel_rfl) (fun d _ _ _ _ h => (h : False).elim) HS ?_
                  iterate 5 (first | (apply planD_held rfl rfl rfl (by simp) HS; (intro w' hS K hK; go_simp; exact hK)) | (apply planD_wanted rfl rfl rfl (by simp) HS; (intro w' hS K hK; go_simp; exact hK)))
                  apply planD_held rfl rfl rfl (by simp) HS
                  · intro w' hS K hK
                    exact gives_load_mid yb 0 rfl (bvs x7) _ hS.2 Tryz.underlying94 rfl (by rw [bvs_length, H7.out.1.2.2]; exact sizeImg) hK
                  try (simp only [Act.put, List.setIfInBounds_toArray, List.set_cons_zero, List.set_cons_succ])
                  refine planD_op rfl rfl (fun K hK => ?_)
                  refine wp_update_map Tryz.underlying83 Tryz.underlying3 fbA (imgs esx) k7 (.agg (bvs x7).toArray) rfl rfl rfl H8.out.1.fresh (fun w9 hm9 hu9 => ?_)
                  have H9 : Hid (ComL w tb mb pb db lb fb fbA skip N L9 D9 ds esA F F9 rb (fun j => left j && !(j == k7)) cnt' w9) := by
                    obtain ⟨r1, r2, r3, r4, r5, r6, r7, r8, r9, r10⟩ := HL.out
                    have hp8 := H8.out.1
                    rw [← imgs_putP] at hm9
                    have hup : Upd (fun q => q = rb ∨ q = fbA) wr w9 := (H8.out.2.2.mono (fun q _ hq => .inl hq)).trans (hu9.mono (fun q _ hq => .inr hq))
                    refine ⟨putP esx k7 x7, H8.out.2.1.upd hu9 (fun e => r8 (.inr (.inl e))) (fun e => r9 (.inr (.inl e))), ⟨hp8.pg.upd hu9 (fun e => hp8.ne e.symm), hm9, hp8.wal.upd hu9 (fun q hq e => hp8.g2 (e ▸ hq)), hp8.ne, hp8.g1, hp8.g2⟩, r3.put H7.out.1.1 H7.out.1.2.1 H7.out.1.2.2, fun b => ?_, ⟨r5.upd.then hup (fun q hq => ?_), r5.own⟩, r6.upd hup (fun e => ?_), r7, r8, r9, r10⟩
                    · rw [lookB_putP]
                      by_cases hbk : b = k7
                      · rw [if_pos hbk, hbk, H7.out.2.1]
                        simp
                      · rw [if_neg hbk, r4 b]
                        have : (b == k7) = false := by simpa using hbk
                        simp [this]
                    · rcases hq with e | e
                      · exact .inr (by rw [e]; exact hs5.out)
                      · exact r5.own q (.inr (.inl e))
                    · rcases e with e | e
                      · exact r10 e.symm
                      · exact r7 (.inr (.inl e))
                  refine hK _ _ _ (fun u h => h) (fun h => absurd rfl h) ?_
                  clear hK HS hm9 hu9
                  try (simp only [Act.put, List.setIfInBounds_toArray, List.set_cons_zero, List.set_cons_succ])
                  refine planD_nil ?_
                  refine NoPanic.normal ?_
                  go_wp2_with fail
                  obtain ⟨esn, h9⟩ := H9.out
                  refine ⟨⟨_, cnt', H9⟩, ?_⟩
                  have e1 := h9.1.left_eq
                  have e2 := HL.out.1.left_eq
                  have e3 := H7.out.2.2.2.1
                  omega
            · obtain ⟨rfl, rfl⟩ : a9 = 0 ∧ r9 = 10 := by cases hpr; exact ⟨rfl, rfl⟩
              clear hpr
              have HP9 := Lib.hid hp
              clear hp
              go_wp2_with fail
              refine (pfail10 H5.out.1).mono ?_
              rintro e w6 ⟨rfl, hp6, hf6⟩
              dsimp only
              have H6 := Lib.hid (And.intro hp6 (And.intro (hfu5.out.trans hf6) (Htx.out.1.upd hf6.upd Htx.out.2.2.1)))
              clear hp6 hf6
              go_wp2_with fail
              refine leaves_cons (f := 17) (args := #[.pointer (some ⟨tb, 0, none⟩)]) (by simp) (by simp [go_sem]) ?_
              refine (pabort_d H6.out.1 H6.out.2.2 Htx.out.2.2.1 .returning).mono ?_
              rintro e u' wz ⟨rfl, rfl, hpz, huz⟩
              refine ⟨_, results_tmp2 rfl _ _ _, ?_⟩
              refine ⟨_, _, rfl, L9, D9, F9, fbA, esA, hpz, Fut.abort H6.out.2.1 (.inl rfl) huz, .inr (.inr (.inr ⟨by rw [H.out.2.2.2.1]; exact h0, by rw [HB.out.1, HB.out.2.2.1, HB.out.2.2.2]; omega, by rw [H.out.2.2.2.1]; omega, rfl, rfl, HP9.out.2.1, ?_, ?_⟩))⟩
              · rw [HP9.out.1]; exact HP9.out.2.2.1
              · rcases Int.lt_or_le D.fuel 0 with hf | hf
                · have e1 := HA.out.2.2.2.2.2.2.2.2.2.2 hf
                  have e3 := HP9.out.2.2.2
                  omega
                · exact hf
          · have HG := Lib.hid (And.intro g1 (And.intro g2 g4))
            clear g1 g2 g3 g4 hho
            have Htx : Hid (CellsA wA tb 91 [.pointer (some ⟨pb, 0, none⟩), .map (some mb)] ∧ ¬ ownP pb fbA FA tb) := ⟨HR4.out.1.tx.upd HG.out.2.2.upd HR4.out.1.n2, HG.out.2.2.out HR4.out.1.tx.lt HR4.out.1.n2⟩
            go_wp2_with fail
            refine leaves_cons (f := 17) (args := #[.pointer (some ⟨tb, 0, none⟩)]) (by simp) (by simp [go_sem]) ?_
            refine (pabort_d HG.out.1 Htx.out.1 Htx.out.2 .returning).mono ?_
            rintro e u' wz ⟨rfl, rfl, hpz, huz⟩
            refine ⟨_, results_tmp2 rfl _ _ _, ?_⟩
            refine ⟨_, _, rfl, LA, DA, FA, fbA, esA, hpz, Fut.abort ((Fut.quiet _ HR4.out.2.1).trans HG.out.2.2).tx (.inl rfl) huz, .inr (.inr (.inr ⟨by rw [H.out.2.2.2.1]; exact h0, by rw [HB.out.1, HB.out.2.2.1, HB.out.2.2.2]; omega, by rw [H.out.2.2.2.1]; omega, rfl, rfl, HG.out.2.1.2.1, by rw [HG.out.2.1.1]; exact HG.out.2.1.2.2.1, HG.out.2.1.2.2.2⟩))⟩
          · have HG := Lib.hid (And.intro g1 (And.intro g2 g4))
            clear g1 g2 g3 g4 hho
            have Htx : Hid (CellsA wA tb 91 [.pointer (some ⟨pb, 0, none⟩), .map (some mb)] ∧ ¬ ownP pb fbA FA tb) := ⟨HR4.out.1.tx.upd HG.out.2.2.upd HR4.out.1.n2, HG.out.2.2.out HR4.out.1.tx.lt HR4.out.1.n2⟩
            go_wp2_with fail
            refine leaves_cons (f := 17) (args := #[.pointer (some ⟨tb, 0, none⟩)]) (by simp) (by simp [go_sem]) ?_
            refine (pabort_d HG.out.1 Htx.out.1 Htx.out.2 .returning).mono ?_
            rintro e u' wz ⟨rfl, rfl, hpz, huz⟩
            refine ⟨_, results_tmp2 rfl _ _ _, ?_⟩
            refine ⟨_, _, rfl, LA, DA, FA, fbA, esA, hpz, Fut.abort ((Fut.quiet _ HR4.out.2.1).trans HG.out.2.2).tx (.inl rfl) huz, .inr (.inr (.inr ⟨by rw [H.out.2.2.2.1]; exact h0, by rw [HB.out.1, HB.out.2.2.1, HB.out.2.2.2]; omega, by rw [H.out.2.2.2.1]; omega, rfl, rfl, HG.out.2.1.2.1, by rw [HG.out.2.1.1]; exact HG.out.2.1.2.2.1, HG.out.2.1.2.2.2⟩))⟩
        · have q3 : decide (rm < nd) = false := by simpa using hb3
          obtain ⟨wA, rfl⟩ : ∃ wA, wA = w4 := ⟨_, rfl⟩
          obtain ⟨fbA, hfbA⟩ : ∃ fbA, fb = fbA := ⟨_, rfl⟩
          obtain ⟨LA, hLA⟩ : ∃ LA, L = LA := ⟨_, rfl⟩
          obtain ⟨DA, hDA⟩ : ∃ DA, D = DA := ⟨_, rfl⟩
          obtain ⟨FA, hFA⟩ : ∃ FA, F = FA := ⟨_, rfl⟩
          obtain ⟨TA, hTA⟩ : ∃ TA, T = TA := ⟨_, rfl⟩
          obtain ⟨esA, hesA⟩ : ∃ esA, es = esA := ⟨_, rfl⟩
          have HA : Hid (ComA w tb mb pb db lb fb skip N L D ds cs F B y d LA DA FA fbA TA esA wA) := by
            subst hfbA; subst hLA; subst hDA; subst hFA; subst hTA; subst hesA
            obtain ⟨r1, r2, r3, r4, r5⟩ := HR4.out
            refine ⟨r1.pg, H.out.2.1, r1.tx, r1.dirty, ⟨r1.n2, r1.n3⟩, hbB4.out, fun q hq e => ?_, (Fut.quiet _ r2).tx, ?_, Nat.le_refl _, fun _ => rfl⟩
            · rw [HB.out.2.1] at hq
              have h1 := (r5 q hq).1
              have h3 := H.out.1.pg.lt q e
              omega
            · have h3 := HB.out.2.2.1
              have h4 := Hrm.out
              unfold LSt.room
              omega
          clear hfbA hLA hDA hFA hTA hesA
          have c11 := HA.out.1.pg.cell 1
          simp only [pgD, List.getElem?_cons_zero, List.getElem?_cons_succ] at c11
          have hap := append_ok HA.out.1.wal (by have := HA.out.2.1.wl; have := HA.out.2.1.inv.ok.used; have := HA.out.2.1.n; have := Hmx.out.1; omega) y d B HA.out.2.2.2.2.2.1 (fun q hq h00 e => HA.out.2.2.2.2.2.2.1 q.block (by rw [hq]; rfl) (by rw [e]; exact HA.out.1.lb)) (by rw [HA.out.2.1.inv.last, List.length_map]; exact H.out.2.2.2.2.2)
          rw [HB.out.2.1] at hap
          have Hap := Lib.hid hap
          have Hpa := Lib.hid (pappend HA.out.2.1 H.out.2.2.1 (by rw [H.out.2.2.2.1]; exact h0) (by rw [H.out.2.2.2.1]; omega) (by rw [HB.out.1]; exact HA.out.2.2.2.2.2.2.2.2.1) H.out.2.2.2.2.2 (replay esA ds) (HA.out.2.1.okE.replay H.out.2.2.1) (look_replay esA ds))
          obtain ⟨L9, hL9⟩ : ∃ L9, (LA.append DA B).1 = L9 := ⟨_, rfl⟩
          obtain ⟨D9, hD9⟩ : ∃ D9, (LA.append DA B).2.1 = D9 := ⟨_, rfl⟩
          obtain ⟨a9, ha9⟩ : ∃ a9, (LA.append DA B).2.2.1 = a9 := ⟨_, rfl⟩
          obtain ⟨r9, hr9⟩ : ∃ r9, (LA.append DA B).2.2.2 = r9 := ⟨_, rfl⟩
          have hpr : (LA.append DA B).2.2 = (a9, r9) := by rw [← ha9, ← hr9]
          have Hpa2 : Hid (AppP LA DA skip N TA cs ds (replay esA ds) L9 D9 (a9, r9)) := by
            have := Hpa.out
            rw [HB.out.1, hL9, hD9, hpr] at this
            exact this
          have HL9 := Lib.hid (And.intro hL9 (And.intro hD9 hpr))
          rw [hL9, hD9, ha9, hr9] at Hap
          clear hap Hpa hL9 hD9 ha9 hr9 hpr
          go_wp2_with fail
          refine Hap.out.mono ?_
          rintro e w5 ⟨rfl, hw5⟩
          dsimp only
          have H5 : Hid (∃ F9, PgAt w5 pb db lb fbA skip (some ⟨tb, 0, none⟩) false L9 D9 esA F9 ∧ Fut wA w5 (ownP pb fbA FA) (ownP pb fbA F9)) := HA.out.1.step hw5
          obtain ⟨F9, H5⟩ := H5.out
          have H5 := Lib.hid H5
          have Htx : Hid (CellsA w5 tb 91 [.pointer (some ⟨pb, 0, none⟩), .map (some mb)] ∧ MapAt w5 mb (imgs ds) ∧ ¬ ownP pb fbA F9 tb ∧ ¬ ownP pb fbA F9 mb ∧ mb ≠ tb) :=
            ⟨HA.out.2.2.1.upd H5.out.2.upd HA.out.2.2.2.2.1.1, HA.out.2.2.2.1.upd H5.out.2.upd HA.out.2.2.2.2.1.2, H5.out.2.out HA.out.2.2.1.lt HA.out.2.2.2.2.1.1, H5.out.2.out HA.out.2.2.2.1.lt HA.out.2.2.2.2.1.2, H.out.1.n1⟩
          have hfu5 : Hid (Fut w w5 (ownTx tb mb pb fb F) (ownP pb fbA F9)) := HA.out.2.2.2.2.2.2.2.1.trans H5.out.2
          clear hw5 Hap c11
          rcases Hpa2.out with ⟨hpr, hp⟩ | ⟨hpr, hp⟩
          · obtain ⟨rfl, rfl⟩ : a9 = ((cs.length + 1 : Nat) : Int) ∧ r9 = 0 := by cases hpr; exact ⟨rfl, rfl⟩
            clear hpr
            have HP9 := Lib.hid hp
            clear hp
            have ct1 := Htx.out.1.cell 1
            simp only [List.getElem?_cons_zero, List.getElem?_cons_succ] at ct1
            obtain ⟨av, hav⟩ : ∃ av : Int, ((cs.length + 1 : Nat) : Int) = av := ⟨_, rfl⟩
            rw [hav]
            have Hav := Lib.hid hav
            clear hav
            go_wp2_with ((with_reducible apply wpl_range_map Tryz.underlying83 mb (imgs ds)); exact rfl; exact Htx.out.2.1; intro w6 hrg6 hu6 hs6; try (simp only [Act.put, List.setIfInBounds_toArray, List.set_cons_zero, List.set_cons_succ]))
            have HQ : Hid (ComL w tb mb pb db lb fb fbA skip N L9 D9 ds esA F F9 w5.heap.size (fun _ => true) (imgs ds).length w6) :=
              ⟨esA, hrg6, H5.out.1.upd hu6 (fun _ _ h => h), HA.out.2.1.okE, fun b => by simp, hfu5.out.trans (Fut.quiet _ hu6), Htx.out.1.upd hu6 (fun h => h), Htx.out.2.2.1, Htx.out.2.2.2.1, fun e => by have := H5.out.1.lt _ e; omega, fun e => by have := Htx.out.1.lt; omega⟩
            have hs5 : Hid (w.heap.size ≤ w5.heap.size) := hfu5.out.upd.size
            generalize w5.heap.size = rb at *
            clear hrg6 hu6 hs6 ct1
            go_loopw [13] (fun _ wr => ∃ (left : Int → Bool) (cnt : Nat), Hid (ComL w tb mb pb db lb fb fbA skip N L9 D9 ds esA F F9 rb left cnt wr)) (fun _ wr => wr.rangeLeft mb rb)
            case atStart => exact ⟨_, _, HQ⟩
            case round =>
              clear HQ
              obtain ⟨left, cnt, HL⟩ := hrel
              obtain ⟨esx, HL⟩ := HL.out
              have HL := Lib.hid HL
              go_wp2_with ((with_reducible apply wpl_next_map mb rb (imgs ds) left cnt); exact rfl; exact HL.out.1)
              · intro hc0 hl0
                try (simp only [Act.put, List.setIfInBounds_toArray, List.set_cons_zero, List.set_cons_succ])
                go_wp2_with fail
                refine leaves_cons (f := 17) (args := #[.pointer (some ⟨tb, 0, none⟩)]) (by simp) (by simp [go_sem]) ?_
                refine (pabort_d HL.out.2.1 HL.out.2.2.2.2.2.1 HL.out.2.2.2.2.2.2.1 .returning).mono ?_
                rintro e u' wz ⟨rfl, rfl, hpz, huz⟩
                refine ⟨_, results_tmp2 rfl _ _ _, ?_⟩
                have hlook : ∀ b, lookB esx b = (lookB ds b).or (lookB esA b) := fun b => by
                  rw [HL.out.2.2.2.1 b]
                  cases hq : lookB ds b with
                  | none => simp
                  | some x0 =>
                    have hm : (b, Value.agg (bvs x0).toArray) ∈ imgs ds := List.mem_map.2 ⟨(b, x0), lookB_mem hq, rfl⟩
                    rw [hl0 _ hm]
                    simp
                have hfin := pappend HA.out.2.1 H.out.2.2.1 (by rw [H.out.2.2.2.1]; exact h0) (by rw [H.out.2.2.2.1]; omega) (by rw [HB.out.1]; exact HA.out.2.2.2.2.2.2.2.2.1) H.out.2.2.2.2.2 esx HL.out.2.2.1 hlook
                rw [HB.out.1, HL9.out.1, HL9.out.2.1, HL9.out.2.2] at hfin
                rcases hfin with ⟨_, g2, g3, g4⟩ | ⟨g1, _⟩
                · refine ⟨_, _, rfl, L9, D9, F9, fbA, esx, hpz, Fut.abort HL.out.2.2.2.2.1 (.inl rfl) huz, .inr (.inr (.inl ⟨by rw [H.out.2.2.2.1]; exact h0, by rw [HB.out.1, HB.out.2.2.1, HB.out.2.2.2]; omega, by rw [H.out.2.2.2.1]; omega, Hav.out.symm, rfl, ⟨TA, g2⟩, by rw [g3]; exact HA.out.2.2.2.2.2.2.2.2.2.1, fun hf => ?_⟩))⟩
                  have e1 := HA.out.2.2.2.2.2.2.2.2.2.2 hf
                  exact (g4 (by omega)).trans e1
                · cases g1
              · intro key val w7 cnt' hmem hlk hrg7 hlt7 hu7 hs7 hen
                obtain ⟨q7, hq7, hqe⟩ := List.mem_map.1 hmem
                obtain ⟨k7, x7⟩ := q7
                simp only [Prod.mk.injEq] at hqe
                obtain ⟨rfl, rfl⟩ := hqe
                have hd7 := H.out.2.2.1.rng _ hq7
                have hl7 := lookB_of_mem H.out.2.2.1.nd hq7
                have Hz7 : (bvs x7).toArray.size = 512 := by simp [bvs_length, hd7.2.2]
                have Hall7 : (bvs x7).toArray.all (·.oneCell') = true := by rw [List.all_toArray]; exact List.all_eq_true.2 (bvs_one x7)
                have H7 := Lib.hid (And.intro hd7 (And.intro hl7 (And.intro hrg7 (And.intro hlt7 (And.intro hu7 (And.intro hs7 hlk))))))
                clear hmem hq7 hd7 hl7 hrg7 hlt7 hu7 hs7 hlk
                try (simp only [Act.put, List.setIfInBounds_toArray, List.set_cons_zero, List.set_cons_succ])
                go_wp2_with ((with_reducible apply wpl_store_new); exact rfl; exact rfl; (rw [Hz7]; exact sizeImg); exact Tryz.zeroCells94_size.trans Hz7.symm; exact Hall7; try (simp only [Act.put, List.setIfInBounds_toArray, List.set_cons_zero, List.set_cons_succ]))
                have hyc := CellsA.new w7 94 (bvs x7)
                have hu8 : Upd (fun _ => False) w7 (w7.alloc (.cells (bvs x7).toArray 94)) := (Upd.refl _ w7).alloc _
                clear hen
                have HL8 : Hid (ComL w tb mb pb db lb fb fbA skip N L9 D9 ds esA F F9 rb left cnt wr) := ⟨esx, HL.out⟩
                have H8n : Hid (PgAt (w7.alloc (.cells (bvs x7).toArray 94)) pb db lb fbA skip (some ⟨tb, 0, none⟩) false L9 D9 esx F9 ∧ Rng (w7.alloc (.cells (bvs x7).toArray 94)) mb rb (imgs ds) (fun j => left j && !(j == k7)) cnt' ∧ Upd (fun q => q = rb) wr (w7.alloc (.cells (bvs x7).toArray 94))) :=
                  ⟨(HL.out.2.1.upd H7.out.2.2.2.2.1 (fun q hq e => HL.out.2.2.2.2.2.2.2.2.1 (e ▸ hq))).upd hu8 (fun _ _ h => h), H7.out.2.2.1.upd hu8 (fun h => h) (fun h => h), H7.out.2.2.2.2.1.trans (hu8.mono (fun _ _ h => h.elim))⟩
                clear hu8
                generalize w7.alloc (.cells (bvs x7).toArray 94) = w8 at *
                generalize w7.heap.size = yb at *
                have hyd : CellsA w8.drew yb 94 (bvs x7) := hyc.upd (Upd.refl (fun _ => False) _).drew (fun h => h)
                have H8 : Hid (PgAt w8.drew pb db lb fbA skip (some ⟨tb, 0, none⟩) false L9 D9 esx F9 ∧ Rng w8.drew mb rb (imgs ds) (fun j => left j && !(j == k7)) cnt' ∧ Upd (fun q => q = rb) wr w8.drew) := ⟨H8n.out.1.upd (Upd.refl (fun _ => False) _).drew (fun _ _ h => h), H8n.out.2.1.upd (Upd.refl (fun _ => False) _).drew (fun h => h) (fun h => h), H8n.out.2.2.drew⟩
                clear hyc H8n
                have HS : w8.drew.cell? ⟨pb, 4, none⟩ = some (.map (some fbA)) ∧ w8.drew.rangeAt yb 0 (bvs x7) := ⟨H8.out.1.pg.cell 4, hyd.range⟩
                refine wp_region_noPanic ?_
                refine wp_region_planD (fun u => u.cell? ⟨pb, 4, none⟩ = some (.map (some fbA)) ∧ u.rangeAt yb 0 (bvs x7)) 6 [(0, true), (1, true), (2, true), (3, true), (4, true), (5, true), (6, false)] (by kernel_rfl) (by kernel_rfl) (fun d _ _ _ _ h => (h : False).elim) HS ?_
                iterate 5 (first | (apply planD_held rfl rfl rfl (by simp) HS; (intro w' hS K hK; go_simp; exact hK)) | (apply planD_wanted rfl rfl rfl (by simp) HS; (intro w' hS K hK; go_simp; exact hK)))
                apply planD_held rfl rfl rfl (by simp) HS
                · intro w' hS K hK
                  exact gives_load_mid yb 0 rfl (bvs x7) _ hS.2 Tryz.underlying94 rfl (by rw [bvs_length, H7.out.1.2.2]; exact sizeImg) hK
                try (simp only [Act.put, List.setIfInBounds_toArray, List.set_cons_zero, List.set_cons_succ])
                refine planD_op rfl rfl (fun K hK => ?_)
                refine wp_update_map Tryz.underlying83 Tryz.underlying3 fbA (imgs esx) k7 (.agg (bvs x7).toArray) rfl rfl rfl H8.out.1.fresh (fun w9 hm9 hu9 => ?_)
                have H9 : Hid (ComL w tb mb pb db lb fb fbA skip N L9 D9 ds esA F F9 rb (fun j => left j && !(j == k7)) cnt' w9) := by
                  obtain ⟨r1, r2, r3, r4, r5, r6, r7, r8, r9, r10⟩ := HL.out
                  have hp8 := H8.out.1
                  rw [← imgs_putP] at hm9
                  have hup : Upd (fun q => q = rb ∨ q = fbA) wr w9 := (H8.out.2.2.mono (fun q _ hq => .inl hq)).trans (hu9.mono (fun q _ hq => .inr hq))
                  refine ⟨putP esx k7 x7, H8.out.2.1.upd hu9 (fun e => r8 (.inr (.inl e))) (fun e => r9 (.inr (.inl e))), ⟨hp8.pg.upd hu9 (fun e => hp8.ne e.symm), hm9, hp8.wal.upd hu9 (fun q hq e => hp8.g2 (e ▸ hq)), hp8.ne, hp8.g1, hp8.g2⟩, r3.put H7.out.1.1 H7.out.1.2.1 H7.out.1.2.2, fun b => ?_, ⟨r5.upd.then hup (fun q hq => ?_), r5.own⟩, r6.upd hup (fun e => ?_), r7, r8, r9, r10⟩
                  · rw [lookB_putP]
                    by_cases hbk : b = k7
                    · rw [if_pos hbk, hbk, H7.out.2.1]
                      simp
                    · rw [if_neg hbk, r4 b]
                      have : (b == k7) = false := by simpa using hbk
                      simp [this]
                  · rcases hq with e | e
                    · exact .inr (by rw [e]; exact hs5.out)
                    · exact r5.own q (.inr (.inl e))
                  · rcases e with e | e
                    · exact r10 e.symm
                    · exact r7 (.inr (.inl e))
                refine hK _ _ _ (fun u h => h) (fun h => absurd rfl h) ?_
                clear hK HS hm9 hu9
                try (simp only [Act.put, List.setIfInBounds_toArray, List.set_cons_zero, List.set_cons_succ])
                refine planD_nil ?_
                refine NoPanic.normal ?_
                go_wp2_with fail
                obtain ⟨esn, h9⟩ := H9.out
                refine ⟨⟨_, cnt', H9⟩, ?_⟩
                have e1 := h9.1.left_eq
                have e2 := HL.out.1.left_eq
                have e3 := H7.out.2.2.2.1
                omega
          · obtain ⟨rfl, rfl⟩ : a9 = 0 ∧ r9 = 10 := by cases hpr; exact ⟨rfl, rfl⟩
            clear hpr
            have HP9 := Lib.hid hp
            clear hp
            go_wp2_with fail
            refine (pfail10 H5.out.1).mono ?_
            rintro e w6 ⟨rfl, hp6, hf6⟩
            dsimp only
            have H6 := Lib.hid (And.intro hp6 (And.intro (hfu5.out.trans hf6) (Htx.out.1.upd hf6.upd Htx.out.2.2.1)))
            clear hp6 hf6
            go_wp2_with fail
            refine leaves_cons (f := 17) (args := #[.pointer (some ⟨tb, 0, none⟩)]) (by simp) (by simp [go_sem]) ?_
            refine (pabort_d H6.out.1 H6.out.2.2 Htx.out.2.2.1 .returning).mono ?_
            rintro e u' wz ⟨rfl, rfl, hpz, huz⟩
            refine ⟨_, results_tmp2 rfl _ _ _, ?_⟩
            refine ⟨_, _, rfl, L9, D9, F9, fbA, esA, hpz, Fut.abort H6.out.2.1 (.inl rfl) huz, .inr (.inr (.inr ⟨by rw [H.out.2.2.2.1]; exact h0, by rw [HB.out.1, HB.out.2.2.1, HB.out.2.2.2]; omega, by rw [H.out.2.2.2.1]; omega, rfl, rfl, HP9.out.2.1, ?_, ?_⟩))⟩
            · rw [HP9.out.1]; exact HP9.out.2.2.1
            · rcases Int.lt_or_le D.fuel 0 with hf | hf
              · have e1 := HA.out.2.2.2.2.2.2.2.2.2.2 hf
                have e3 := HP9.out.2.2.2
                omega
              · exact hf
end Go.Proofs.YtihlijnobbonbaaGreat
