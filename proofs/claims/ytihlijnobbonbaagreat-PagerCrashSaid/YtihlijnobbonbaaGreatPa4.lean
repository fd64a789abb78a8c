/- Package pager: home. -/
import Derived.Test.YtihlijnobbonbaaGreatPa2
import Derived.Test.YtihlijnobbonbaaGreatPa3
namespace Go.Proofs.YtihlijnobbonbaaGreat
open Go Go.RowKit
set_option linter.unusedSimpArgs false
set_option linter.unusedVariables false
set_option maxRecDepth 100000

section
variable {P : Program} {ops : Array Oper} {Q : Exit → Act → World → Prop} {rest : List Oper} {dst : Option Tmp} {ty : TypeId} {pos : String} {aft : Array Edge} {a : Act} {w : World} {K : Act → World → Prop}
theorem run_lookup1_map {t kt E : TypeId} (ht : P.underlying t = some (.map kt E)) (hk : P.underlying kt = some (.int .i64)) {z : Value} (hz : (zeroValue E).run P w = .ok z w) {b : Nat} {es : List (Int × Value)} (h : MapAt w b es) (k : Int) :
    (Instr.lookup t (.map (some b)) (.int .i64 k) false).run P w = .ok ((lookV es k).getD z) w := by
  obtain ⟨en, ck, h1, h2, h2s⟩ := h
  have hf := findNow_ix k en.toList es 0 h2
  have hc := fun e => Go.MapKept.run_checkKey (P := P) (w := w) (kt := kt) (k := .int .i64 k) hk (by simp [Go.MapKept.IsKey]) e 9999
  cases hq : findIx k es 0 with
  | none =>
    rw [hq] at hf
    simp [Instr.lookup, run_underlying ht, Go.MapKept.run_getObj_map h1, hc, Go.MapKept.run_findKey hk hf, hz, lookV, hq, Result.andThen]
  | some p =>
    rw [hq] at hf
    simp [Instr.lookup, run_underlying ht, Go.MapKept.run_getObj_map h1, hc, Go.MapKept.run_findKey hk hf, lookV, hq, Result.andThen]
theorem wpl_lookup1_map {t kt E : TypeId} {x y : Operand} (ht : P.underlying t = some (.map kt E)) (hk : P.underlying kt = some (.int .i64)) (z : Value) (hz : (zeroValue E).run P w = .ok z w) (b : Nat) (es : List (Int × Value)) (k : Int)
    (hx : a.eval x = .map (some b)) (hy : a.eval y = .int .i64 k) (h : MapAt w b es) (hr : wpList P ops Q rest (a.put dst ((lookV es k).getD z)) w) :
    wpList P ops Q (⟨dst, .lookup t x y false, ty, pos, aft, none⟩ :: rest) a w :=
  wpList_plain rfl fun K' hK' => by
    unfold Oper.wp
    simp only [execOp, hx, hy, Sem.run_bind, run_lookup1_map ht hk hz h k, Result.andThen_ok, Sem.run_pure]
    exact hK' _ _ hr
end
/-- A disk's call, under the log. -/
theorem WalAt.onDisk {w : World} {lb db : Nat} {L : LSt} {D : DSt} {F : Nat → Prop} (h : WalAt w lb db L D F) : ∃ G, DiskAt w db D G ∧ (∀ q, G q → F q) ∧
    (∀ w' D' G', DiskAt w' db D' G' → Upd G w w' → (∀ q, G' q → G q ∨ w.heap.size ≤ q) → WalPost w lb db L D' F w') := by
  obtain ⟨lv, G, h0, h1, h2, h3, h4, h5, h6⟩ := h
  refine ⟨G, h3, fun q hq => (h6 q).2 (.inr (.inr hq)), fun w' D' G' hD hu hG => ?_⟩
  refine walPost_of_raw h0 (h2.upd hu (fun q hq => (h5 q hq).1)) h4 h1.lt h2.lt h5 h6 ⟨G', h1.upd hu h4, hD, hu.mono (fun q _ hq => .inr hq), hG⟩
/-- What a pager owns, step by step. -/
structure Fut (w w' : World) (K K' : Nat → Prop) : Prop where
  upd : Upd K w w'
  own : ∀ q, K' q → K q ∨ w.heap.size ≤ q
theorem Fut.refl (w : World) (K : Nat → Prop) : Fut w w K K := ⟨Upd.refl _ _, fun q hq => .inl hq⟩
theorem Fut.trans {w w1 w2 : World} {K K1 K2 : Nat → Prop} (h : Fut w w1 K K1) (k : Fut w1 w2 K1 K2) : Fut w w2 K K2 :=
  ⟨h.upd.then k.upd h.own, fun q hq => by
    rcases k.own q hq with e | e
    · exact h.own q e
    · exact .inr (Nat.le_trans h.upd.size e)⟩
theorem Fut.quiet {w w1 : World} (K : Nat → Prop) (h : Upd (fun _ => False) w w1) : Fut w w1 K K := ⟨h.mono (fun _ _ h => h.elim), fun q hq => .inl hq⟩
theorem Fut.out {w w' : World} {K K' : Nat → Prop} (h : Fut w w' K K') {q : Nat} (hq : q < w.heap.size) (hn : ¬ K q) : ¬ K' q := fun e => by
  rcases h.own q e with e | e
  · exact hn e
  · omega
theorem PgAt.step {w w' : World} {pb db lb fb skip : Nat} {ot : Option Addr} {dd : Bool} {L L' : LSt} {D D' : DSt} {es : Img} {F : Nat → Prop} (h : PgAt w pb db lb fb skip ot dd L D es F) (hp : WalPost w lb db L' D' F w') :
    ∃ F', PgAt w' pb db lb fb skip ot dd L' D' es F' ∧ Fut w w' (ownP pb fb F) (ownP pb fb F') := by
  obtain ⟨F', h1, h2, h3⟩ := hp
  have hlt := h.lt
  refine ⟨F', ⟨h.pg.upd h2 h.g1, h.fresh.upd h2 h.g2, h1, h.ne, fun e => ?_, fun e => ?_⟩, h2.mono (fun q _ hq => .inr (.inr hq)), fun q hq => ?_⟩
  · rcases h3 _ e with e | e
    · exact h.g1 e
    · have := h.pg.lt; omega
  · rcases h3 _ e with e | e
    · exact h.g2 e
    · have := h.fresh.lt; omega
  · rcases hq with e | e | e
    · exact .inl (.inl e)
    · exact .inl (.inr (.inl e))
    · rcases h3 _ e with e | e
      · exact .inl (.inr (.inr e))
      · exact .inr e
/-- What home leaves in memory. -/
def HomePost (w : World) (pb db lb fb skip N T : Nat) (ot : Option Addr) (L : LSt) (D : DSt) (cs : List Img) (F : Nat → Prop) (r : Int) (w' : World) : Prop :=
  ∃ (L' : LSt) (D' : DSt) (F' : Nat → Prop) (fb' : Nat) (es' : Img), PgAt w' pb db lb fb' skip ot (decide (r ≠ 0)) L' D' es' F' ∧ HomP L D skip N T cs L' D' r ∧ (r = 0 → es' = []) ∧ Fut w w' (ownP pb fb F) (ownP pb fb' F')
theorem pfail10 {w : World} {pb db lb fb skip : Nat} {ot : Option Addr} {L : LSt} {D : DSt} {es : Img} {F : Nat → Prop} (h : PgAt w pb db lb fb skip ot false L D es F) : Calls Tryz.prog 49 #[.pointer (some ⟨pb, 0, none⟩), .int .i64 10] w fun r w' =>
    r = .returned (.int .i64 10) ∧ PgAt w' pb db lb fb skip ot true L D es F ∧ Fut w w' (ownP pb fb F) (ownP pb fb F) := by
  refine (pfail_ok h 10 (.inr (by decide))).mono ?_
  rintro e w' ⟨rfl, h1, h2⟩
  exact ⟨rfl, h1, h2.mono (fun q _ hq => .inl hq), fun q hq => .inl hq⟩
/-- In home's loop. -/
def HomeL (w : World) (pb db lb fb skip : Nat) (ot : Option Addr) (L : LSt) (D1 : DSt) (es : Img) (K : Nat → Prop) (x : Option Addr) (n c : Nat) (k : Nat) (wr : World) : Prop :=
  ∃ (Dk : DSt) (Fk : Nat → Prop), PgAt wr pb db lb fb skip ot false L Dk es Fk ∧ HomeR D1 skip es k Dk ∧ Fut w wr K (ownP pb fb Fk) ∧ Sees wr 1 (.slice x n c) n ((sortK es).map (Value.int .i64)) ∧ (∀ q, (Value.slice x n c).ownBlock = some q → w.heap.size ≤ q ∧ ¬ ownP pb fb Fk q)
set_option maxHeartbeats 8000000 in
theorem phome_ok {w : World} {pb db lb fb skip N T : Nat} {ot : Option Addr} {L : LSt} {D : DSt} {es : Img} {cs : List Img} {F : Nat → Prop} (h : PgAt w pb db lb fb skip ot false L D es F) (hi : PreH L D skip N T cs es) (hwl : D.waits.length < 1000000) :
    Calls Tryz.prog 47 #[.pointer (some ⟨pb, 0, none⟩)] w fun e w' => ∃ r, e = .returned (.int .i64 r) ∧ HomePost w pb db lb fb skip N T ot L D cs F r w' := by
  obtain ⟨K, hK⟩ : ∃ K, ownP pb fb F = K := ⟨_, rfl⟩
  have c1 := h.pg.cell 1
  simp only [pgD, List.getElem?_cons_zero, List.getElem?_cons_succ] at c1
  have hsy := sync_ok h.wal (by omega)
  have hps := psync hi
  obtain ⟨r1, hr1⟩ : ∃ r1, (L.sync D).2.2 = r1 := ⟨_, rfl⟩
  obtain ⟨L1, hL1⟩ : ∃ L1, (L.sync D).1 = L1 := ⟨_, rfl⟩
  obtain ⟨D1, hD1⟩ : ∃ D1, (L.sync D).2.1 = D1 := ⟨_, rfl⟩
  rw [hr1, hL1, hD1] at hps hsy
  have H := Lib.hid (And.intro h (And.intro hi (And.intro hK hps)))
  have Hsy := Lib.hid hsy
  unfold HomePost
  rw [hK]
  clear h hi hwl hsy hr1 hL1 hD1 hK
  go_enter Tryz.func47, Tryz.ntmps47
  go_wp2_with fail
  refine Hsy.out.mono ?_
  rintro e w1 ⟨rfl, hw1⟩
  dsimp only
  have H1 : Hid (∃ F1, PgAt w1 pb db lb fb skip ot false L1 D1 es F1 ∧ Fut w w1 K (ownP pb fb F1)) := by rw [← H.out.2.2.1]; exact H.out.1.step hw1
  obtain ⟨F1, H1⟩ := H1.out
  have H1 := Lib.hid H1
  clear hw1 Hsy
  rcases hps with ⟨rfl, hp⟩ | ⟨rfl, hp⟩
  · have HP := Lib.hid hp
    clear hp
    obtain ⟨n, hn⟩ : ∃ n, es.length = n := ⟨_, rfl⟩
    have hok := HP.out.1.okE
    have hnN : n ≤ 4096 := by
      have h1 := hok.le
      have h2 := HP.out.1.secs
      obtain ⟨G, hG, _⟩ := H1.out.1.wal.disk
      have h3 := hG.1.most
      omega
    have hnI : (n : Int) ≤ 4096 := by omega
    have hkr : ∀ p ∈ imgs es, -9223372036854775808 ≤ p.1 ∧ p.1 ≤ 9223372036854775807 := by
      intro p hp
      obtain ⟨q, hq, rfl⟩ := List.mem_map.1 hp
      have h1 := hok.rng q hq
      have h2 := HP.out.1.secs
      obtain ⟨G, hG, _⟩ := H1.out.1.wal.disk
      have h3 := hG.1.most
      show -9223372036854775808 ≤ q.1 ∧ q.1 ≤ 9223372036854775807
      omega
    have hik : (imgs es).map (·.1) = keysB es := by simp [imgs, keysB]
    have hil : (imgs es).length = n := by simp [imgs, hn]
    have c4 := H1.out.1.pg.cell 4
    simp only [pgD, List.getElem?_cons_zero, List.getElem?_cons_succ] at c4
    have HN := Lib.hid (And.intro hn (And.intro hok (And.intro hkr (And.intro hik hil))))
    clear hn hok hkr hik hil
    go_wp2_with fail
    refine (keys_ok fb w1).mono ?_
    rintro e w2 ⟨rfl, hw2⟩
    dsimp only
    have hu2 : Upd (fun _ => False) w1 w2 := by rw [hw2]; exact (Upd.refl _ w1).alloc _
    have hb2 : CellsA w2 w1.heap.size 83 [.map (some fb)] := by rw [hw2]; exact CellsA.new w1 _ [.map (some fb)]
    have hso := sorted_ok (W := w2) (Bm := w1.heap.size) (b := fb) (es := imgs es) hb2.lt (hb2.cell 0) (H1.out.1.fresh.upd hu2 (fun h => h)) HN.out.2.2.1 (by rw [HN.out.2.2.2.2]; omega)
    rw [HN.out.2.2.2.1, HN.out.2.2.2.2] at hso
    have Hso := Lib.hid hso
    have H2 := Lib.hid (And.intro (H1.out.1.upd hu2 (fun _ _ h => h)) (And.intro (H1.out.2.trans (Fut.quiet _ hu2)) hu2.size))
    clear hw2 hu2 hb2 hso
    go_wp2_with fail
    refine Hso.out.mono ?_
    rintro e w3 ⟨x, c, rfl, hse, hown, hu3⟩
    dsimp only
    have hz1 := H1.out.2.upd.size
    have HQ : Hid (HomeL w pb db lb fb skip ot L1 D1 es K x n c 0 w3) := ⟨D1, F1, H2.out.1.upd hu3 (fun _ _ h => h), ⟨HP.out.1.inv.live, rfl, HP.out.2.2.2.1.trans rfl, fun _ => rfl⟩, H2.out.2.1.trans (Fut.quiet _ hu3), hse, fun q hq => by
      have h1 := hown q hq
      have h2 := H2.out.2.2
      refine ⟨by omega, fun e => ?_⟩
      have := H2.out.1.lt q e
      omega⟩
    clear hse hown hu3 Hso H2
    go_wp2_with fail
    go_loopw [27] (fun i wr => ∃ k : Nat, k ≤ n ∧ i = .int .i64 k ∧ Hid (HomeL w pb db lb fb skip ot L1 D1 es K x n c k wr)) (fun i _ => n - (intOf i).toNat)
    case atStart => exact ⟨0, Nat.zero_le _, rfl, HQ⟩
    case round =>
      clear HQ
      obtain ⟨k, hk, rfl, HR⟩ := hrel
      by_cases hlt : k < n
      · have hltI : (k : Int) < (n : Int) := by omega
        obtain ⟨Dk, Fk, HR⟩ := HR.out
        have HR := Lib.hid HR
        have hkl : k < (sortK es).length := by rw [sortK_length, HN.out.1]; exact hlt
        obtain ⟨j, hj⟩ : ∃ j, (sortK es)[k] = j := ⟨_, rfl⟩
        have hxx : ∃ xb xo, x = some ⟨xb, xo, none⟩ ∧ wr.cell? ⟨xb, xo + k, none⟩ = some (.int .i64 j) := by
          obtain ⟨_, _, x', c', e', hc⟩ := HR.out.2.2.2.1
          cases e'
          obtain ⟨xb, xo, hx, hr⟩ := hc (by omega)
          refine ⟨xb, xo, hx, hr k _ ?_⟩
          rw [List.getElem?_map, List.getElem?_eq_getElem hkl, hj]; rfl
        obtain ⟨xb, xo, rfl, hcell⟩ := hxx
        have hjk : j ∈ keysB es := (sortK_mem es j).1 (hj ▸ List.getElem_mem hkl)
        have hjd := HN.out.2.1.data hjk
        obtain ⟨y, hy⟩ : ∃ y, dataAt es j = y := ⟨_, rfl⟩
        rw [hy] at hjd
        have Hlk : Hid ((lookV (imgs es) j).getD (.agg (bvs zeros512).toArray) = .agg (bvs y).toArray) := by
          rw [lookV_imgs, ← hy, dataAt]
          obtain ⟨v, hv⟩ := lookB_of_key hjk
          rw [hv]; rfl
        have Hz : (bvs y).toArray.size = 512 := by simp [bvs_length, hjd.2.2]
        have Hall : (bvs y).toArray.all (·.oneCell') = true := by rw [List.all_toArray]; exact List.all_eq_true.2 (bvs_one y)
        have hst := home_step HR.out.2.1 HN.out.2.1 HP.out.1.secs hkl
        rw [hj, hy] at hst
        have c0 := HR.out.1.pg.cell 0
        have c2 := HR.out.1.pg.cell 2
        have c4 := HR.out.1.pg.cell 4
        simp only [pgD, List.getElem?_cons_zero, List.getElem?_cons_succ] at c0 c2 c4
        have hsk : (skip : Int) + j ≤ 4096 := by
          obtain ⟨G, hG, _⟩ := H1.out.1.wal.disk
          have h3 := hG.1.most
          have h4 := HP.out.1.secs
          omega
        have hj0 : 0 ≤ j := hjd.1
        have Hj := Lib.hid (And.intro hkl (And.intro True.intro (And.intro hjd (And.intro hst hy))))
        clear hkl hj hjk hjd hst hy
        go_wp2_with (first | ((with_reducible apply wpl_lookup1_map Tryz.underlying83 Tryz.underlying3 (.agg (bvs zeros512).toArray) (zeroImg _) fb (imgs es) j); exact rfl; exact rfl; exact HR.out.1.fresh; rw [Hlk.out]; try (simp only [Act.put, List.setIfInBounds_toArray, List.set_cons_zero, List.set_cons_succ])) | ((with_reducible apply wpl_store_new); exact rfl; exact rfl; (rw [Hz]; exact sizeImg); exact Tryz.zeroCells94_size.trans Hz.symm; exact Hall; try (simp only [Act.put, List.setIfInBounds_toArray, List.set_cons_zero, List.set_cons_succ])))
        have hyc := CellsA.new wr 94 (bvs y)
        have hu4 : Upd (fun _ => False) wr (wr.alloc (.cells (bvs y).toArray 94)) := (Upd.refl _ wr).alloc _
        clear hcell c0 c2 c4
        generalize wr.alloc (.cells (bvs y).toArray 94) = w4 at *
        generalize hyb : wr.heap.size = yb at *
        have H4 := Lib.hid (And.intro (HR.out.1.upd hu4.drew (fun _ _ h => h)) (And.intro hyc (And.intro hu4.drew hyb)))
        clear hyc hu4 hyb
        have HS : w4.drew.cell? ⟨pb, 0, none⟩ = some (.pointer (some ⟨db, 0, none⟩)) ∧ w4.drew.cell? ⟨pb, 2, none⟩ = some (.int .i64 skip) := ⟨H4.out.1.pg.cell 0, H4.out.1.pg.cell 2⟩
        have hod := H4.out.1.wal.onDisk
        obtain ⟨G, hG, hGF, hback⟩ := hod
        have Hb := Lib.hid (And.intro hG (And.intro hGF hback))
        clear hG hGF hback
        have fsk : IntKind.i64.wrap ((skip : Int) + j) = (skip : Int) + j := by rw [IntKind.wrap_i64]; omega
        refine wp_region_planD (fun u => u.cell? ⟨pb, 0, none⟩ = some (.pointer (some ⟨db, 0, none⟩)) ∧ u.cell? ⟨pb, 2, none⟩ = some (.int .i64 skip)) 13 [(0, true), (1, true), (2, true), (3, true), (4, true), (5, true), (6, true), (7, true), (8, true), (9, true), (10, true), (11, false), (12, true)] (by kernel_rfl) (by kernel_rfl) (fun d _ _ _ _ h => by cases d <;> exact h) HS ?_
        iterate 11 (first | (apply planD_held rfl rfl rfl (by simp) HS; (intro w' hS K hK; go_simp; exact hK)) | (apply planD_wanted rfl rfl rfl (by simp) HS; (intro w' hS K hK; go_simp; exact hK)))
        refine planD_op rfl rfl (fun K' hK' => ?_)
        go_simp
        try rw [fsk]
        have hyl : y.length = 512 := Hj.out.2.2.1.2.2
        have hwd := write_disk Hb.out.1 ((skip : Int) + j) (some ⟨yb, 0, none⟩) 512 y (Sees.at (by rw [bvs_length, Nat.mul_one]) (by rw [hyl]; decide) (H4.out.2.1.upd (Upd.refl (fun _ => False) w4).drew (fun h => h)).range) (fun q hq h0 hg => by
          cases hq
          have h1 := Hb.out.2.1 _ hg
          have h2 := HR.out.1.lt _ (.inr (.inr h1))
          have h3 := H4.out.2.2.2
          have h4 : yb < wr.heap.size := h2
          omega) (by rw [HR.out.2.1.waits, homeWs, List.length_map, List.length_take]; omega) (show Dk.write ((skip : Int) + j) y = ((Dk.write ((skip : Int) + j) y).1, (Dk.write ((skip : Int) + j) y).2) from rfl)
        rw [hyl] at hwd
        refine hwd.mono ?_
        rintro e w5 ⟨rfl, G5, hd5, hu5, hg5⟩
        have H5 : Hid (∃ F5, PgAt w5 pb db lb fb skip ot false L1 (Dk.write ((skip : Int) + j) y).1 es F5 ∧ Fut w w5 K (ownP pb fb F5) ∧ Sees w5 1 (.slice (some ⟨xb, xo, none⟩) n c) n ((sortK es).map (Value.int .i64)) ∧ (∀ q, (Value.slice (some ⟨xb, xo, none⟩) n c).ownBlock = some q → w.heap.size ≤ q ∧ ¬ ownP pb fb F5 q)) := by
          have hwp := Hb.out.2.2 w5 _ G5 hd5 hu5 hg5
          obtain ⟨F5, g1, g2⟩ := H4.out.1.step hwp
          have hu45 : Upd (ownP pb fb Fk) wr w5 := (H4.out.2.2.1.mono (fun _ _ h => h.elim)).trans g2.upd
          refine ⟨F5, g1, (HR.out.2.2.1.trans (Fut.quiet _ H4.out.2.2.1)).trans g2, HR.out.2.2.2.1.upd hu45 (fun q e0 h0 => by cases e0; exact (HR.out.2.2.2.2 _ rfl).2), fun q hq => ⟨(HR.out.2.2.2.2 q hq).1, fun e => ?_⟩⟩
          rcases g2.own q e with e | e
          · exact (HR.out.2.2.2.2 q hq).2 e
          · obtain rfl : q = xb := by cases hq; rfl
            have h1 := H4.out.2.2.1.size
            have h2 : q < wr.heap.size := by
              obtain ⟨_, _, x', c', e', hc⟩ := HR.out.2.2.2.1
              cases e'
              obtain ⟨xb', xo', hx, hr⟩ := hc (by omega)
              cases hx
              exact World.block_lt_of_cell? _ _ (hr k _ (by rw [List.getElem?_map, List.getElem?_eq_getElem Hj.out.1]; rfl))
            omega
        obtain ⟨F5, H5⟩ := H5.out
        have H5 := Lib.hid H5
        have HS5 : w5.cell? ⟨pb, 0, none⟩ = some (.pointer (some ⟨db, 0, none⟩)) ∧ w5.cell? ⟨pb, 2, none⟩ = some (.int .i64 skip) := ⟨H5.out.1.pg.cell 0, H5.out.1.pg.cell 2⟩
        clear hwd hd5 hu5 hg5 HS
        dsimp only
        obtain ⟨r5, hr5⟩ : ∃ r5, (Dk.write ((skip : Int) + j) y).2 = r5 := ⟨_, rfl⟩
        obtain ⟨D5, hD5⟩ : ∃ D5, (Dk.write ((skip : Int) + j) y).1 = D5 := ⟨_, rfl⟩
        have hst := Hj.out.2.2.2.1
        rw [hr5, hD5] at hst
        rw [hD5] at H5
        rw [hr5]
        clear hr5 hD5
        refine hK' _ _ _ (fun u h => h) (fun _ => HS5) ?_
        clear hK'
        try (simp only [Act.put, List.setIfInBounds_toArray, List.set_cons_zero, List.set_cons_succ])
        iterate 1 (first | (apply planD_held rfl rfl rfl (by simp) HS5; (intro w' hS K hK; go_simp; exact hK)) | (apply planD_wanted rfl rfl rfl (by simp) HS5; (intro w' hS K hK; go_simp; exact hK)))
        refine planD_nil ?_
        clear HS5
        rcases hst with ⟨rfl, hst⟩ | ⟨rfl, hst⟩
        · have Hst := Lib.hid hst
          clear hst
          go_wp2_with fail
          exact ⟨⟨k + 1, by omega, by go_num, ⟨D5, F5, H5.out.1, Hst.out, H5.out.2⟩⟩, by simp [intOf]; omega⟩
        · have Hst := Lib.hid hst
          clear hst
          go_wp2_with fail
          refine (pfail10 H5.out.1).mono ?_
          rintro e w6 ⟨rfl, hp6, hf6⟩
          dsimp only
          have H6 := Lib.hid (And.intro hp6 hf6)
          clear hp6 hf6
          go_wp2_with fail
          go_ret
          refine ⟨10, rfl, L1, D5, F5, fb, es, H6.out.1, .inr (.inr ⟨rfl, by rw [HP.out.2.2.1], by rw [Hst.out.1], ?_, ?_⟩), (fun h => by cases h), H5.out.2.1.trans H6.out.2⟩
          · refine home_safe HP.out.1 HP.out.2.2.2.1 (by rw [HP.out.2.2.1]) ((sortK es).take k) (fun q hq => (sortK_mem es q).1 (List.mem_of_mem_take hq)) ?_ ?_
            · rw [Hst.out.1]; exact HR.out.2.1.secs
            · rw [Hst.out.1]; exact HR.out.2.1.waits
          · rcases Int.lt_or_le D.fuel 0 with hf | hf
            · have e1 := HP.out.2.2.2.2 hf
              have e2 := HR.out.2.1.fuel (by omega)
              have e3 := Hst.out.2
              omega
            · exact hf
      · obtain rfl : k = n := by omega
        clear hlt
        obtain ⟨Dk, Fk, HR⟩ := HR.out
        have HR := Lib.hid HR
        have c0 := HR.out.1.pg.cell 0
        simp only [pgD, List.getElem?_cons_zero, List.getElem?_cons_succ] at c0
        obtain ⟨G, hG, hGF, hback⟩ := HR.out.1.wal.onDisk
        have hR2 : HomeR D1 skip es (sortK es).length Dk := by rw [sortK_length, HN.out.1]; exact HR.out.2.1
        have hfl := home_flushed HP.out.1 HP.out.2.2.2.1 hR2
        have hwl : Dk.waits.length < 100000000000 := by rw [HR.out.2.1.waits, homeWs, List.length_map, List.length_take]; omega
        have hfd := flush_disk hG hwl (show Dk.flush = (Dk.flush.1, Dk.flush.2) from rfl)
        have Hb := Lib.hid (And.intro hGF (And.intro hback hR2))
        obtain ⟨r6, hr6⟩ : ∃ r6, Dk.flush.2 = r6 := ⟨_, rfl⟩
        obtain ⟨D6, hD6⟩ : ∃ D6, Dk.flush.1 = D6 := ⟨_, rfl⟩
        rw [hr6, hD6] at hfl hfd
        have Hfd := Lib.hid hfd
        clear hG hGF hback hwl hfd hR2 hr6 hD6
        go_wp2_with fail
        refine Hfd.out.mono ?_
        rintro e w6 ⟨rfl, hd6, hu6⟩
        dsimp only
        have H6 : Hid (∃ F6, PgAt w6 pb db lb fb skip ot false L1 D6 es F6 ∧ Fut w w6 K (ownP pb fb F6)) := by
          obtain ⟨F6, g1, g2⟩ := HR.out.1.step (Hb.out.2.1 w6 D6 G hd6 hu6 (fun q hq => .inl hq))
          exact ⟨F6, g1, HR.out.2.2.1.trans g2⟩
        obtain ⟨F6, H6⟩ := H6.out
        have H6 := Lib.hid H6
        clear hd6 hu6 Hfd c0
        rcases hfl with ⟨rfl, hfl⟩ | ⟨rfl, hfl⟩
        · have Hfl := Lib.hid hfl
          clear hfl
          have hlast : L1.last = cs.length := by rw [HP.out.1.inv.last, List.length_map]
          have hcs : cs.length ≤ 1000000000000000000 := by have := HP.out.1.inv.ok.last; omega
          have hcsI : (cs.length : Int) ≤ 1000000000000000000 := by omega
          have hL9 : Hid (Calls Tryz.prog 40 #[.pointer (some ⟨lb, 0, none⟩)] w6.drew fun e w' => e = .returned (.int .i64 (cs.length : Nat)) ∧ w6.drew = w') := by
            obtain ⟨lv, G, h0, h1, h2, _⟩ := (H6.out.1.upd (Upd.refl (fun _ => False) w6).drew (fun _ _ h => h)).wal
            have h9 := last_ok9 h1
            rw [hlast] at h9
            exact h9
          have htr := trim_ok (H6.out.1.upd (Upd.refl (fun _ => False) w6).drew (fun _ _ h => h)).wal (by rw [Hfl.out.2.2.1]; decide) (cs.length : Nat) (by omega)
          have hht := home_trim Hfl.out.1 HP.out.1.fr HP.out.1.n Hfl.out.2.1 Hfl.out.2.2.1 Hfl.out.2.2.2.1 (by rw [HP.out.2.2.1]) HP.out.1.okC
          obtain ⟨r7, hr7⟩ : ∃ r7, (L1.trim D6 (cs.length : Nat)).2.2 = r7 := ⟨_, rfl⟩
          obtain ⟨L7, hL7⟩ : ∃ L7, (L1.trim D6 (cs.length : Nat)).1 = L7 := ⟨_, rfl⟩
          obtain ⟨D7, hD7⟩ : ∃ D7, (L1.trim D6 (cs.length : Nat)).2.1 = D7 := ⟨_, rfl⟩
          rw [hr7, hL7, hD7] at hht htr
          have Hht0 := Lib.hid hht
          obtain ⟨u, hu⟩ : ∃ u, cs.length = u := ⟨_, rfl⟩
          rw [hu] at htr hL9 hcsI
          have Htr := Lib.hid htr
          have HS : w6.drew.cell? ⟨pb, 1, none⟩ = some (.pointer (some ⟨lb, 0, none⟩)) := H6.out.1.pg.cell 1
          have Hu := Lib.hid hu
          clear hlast hcs htr hr7 hL7 hD7 hu hht
          go_wp2_with fail
          refine wp_region_planD (fun u => u.cell? ⟨pb, 1, none⟩ = some (.pointer (some ⟨lb, 0, none⟩))) 11 [(0, true), (1, true), (2, true), (3, true), (4, true), (5, true), (6, true), (7, true), (8, false), (9, false), (10, true)] (by kernel_rfl) (by kernel_rfl) (fun d _ _ _ _ h => by cases d <;> exact h) HS ?_
          iterate 8 (first | (apply planD_held rfl rfl rfl (by simp) HS; (intro w' hS K hK; go_simp; exact hK)) | (apply planD_wanted rfl rfl rfl (by simp) HS; (intro w' hS K hK; go_simp; exact hK)))
          refine planD_op rfl rfl (fun K' hK' => ?_)
          go_simp
          refine hL9.out.mono ?_
          rintro e w7 ⟨rfl, rfl⟩
          dsimp only
          refine hK' _ _ _ (fun u h => h) (fun _ => HS) ?_
          clear hK' hL9
          try (simp only [Act.put, List.setIfInBounds_toArray, List.set_cons_zero, List.set_cons_succ])
          refine planD_op rfl rfl (fun K' hK' => ?_)
          go_simp
          refine Htr.out.mono ?_
          rintro e w8 ⟨rfl, hw8⟩
          have H8 : Hid (∃ F8, PgAt w8 pb db lb fb skip ot false L7 D7 es F8 ∧ Fut w w8 K (ownP pb fb F8)) := by
            obtain ⟨F8, g1, g2⟩ := (H6.out.1.upd (Upd.refl (fun _ => False) w6).drew (fun _ _ h => h)).step hw8
            exact ⟨F8, g1, (H6.out.2.trans (Fut.quiet _ (Upd.refl (fun _ => False) w6).drew)).trans g2⟩
          obtain ⟨F8, H8⟩ := H8.out
          have H8 := Lib.hid H8
          have HS8 : w8.cell? ⟨pb, 1, none⟩ = some (.pointer (some ⟨lb, 0, none⟩)) := H8.out.1.pg.cell 1
          clear hw8 Htr HS
          dsimp only
          refine hK' _ _ _ (fun u h => h) (fun _ => HS8) ?_
          clear hK'
          try (simp only [Act.put, List.setIfInBounds_toArray, List.set_cons_zero, List.set_cons_succ])
          iterate 1 (first | (apply planD_held rfl rfl rfl (by simp) HS8; (intro w' hS K hK; go_simp; exact hK)) | (apply planD_wanted rfl rfl rfl (by simp) HS8; (intro w' hS K hK; go_simp; exact hK)))
          refine planD_nil ?_
          clear HS8
          rcases Hht0.out with ⟨rfl, hht⟩ | ⟨rfl, hht⟩
          · have Hht := Lib.hid hht
            clear hht
            have hmm := @run_makeMap Tryz.prog
            have hpx : CellsA (w8.alloc (.map #[] 0)) pb 85 (pgD db lb skip fb ot false) := H8.out.1.pg.upd ((Upd.refl (fun _ => False) w8).alloc _) (fun h => h)
            have c4' := hpx.cell 4
            have f4' := hpx.frozen 4
            simp only [pgD, List.getElem?_cons_zero, List.getElem?_cons_succ] at c4'
            clear hpx
            go_wp2_with fail
            go_ret
            have h := H8.out.1
            have hlt := h.lt
            have u1 : Upd (fun _ => False) w8 (w8.alloc (.map #[] 0)) := (Upd.refl _ _).alloc _
            have m1 := MapAt.new w8
            have h1 := h.upd u1 (fun _ _ h => h)
            have u2 : Upd (fun q => q = pb) (w8.alloc (.map #[] 0)) ((w8.alloc (.map #[] 0)).setCell ⟨pb, 4, none⟩ (.map (some w8.heap.size))) := (Upd.refl _ _).setCell _ (.inl rfl)
            have hpl := h.pg.lt
            have p2 : CellsA ((w8.alloc (.map #[] 0)).setCell ⟨pb, 4, none⟩ (.map (some w8.heap.size))) pb 85 (pgD db lb skip w8.heap.size ot false) := h1.pg.set 4 (.map (some w8.heap.size))
            refine ⟨0, rfl, L7, D7, F8, w8.heap.size, [], ⟨p2, m1.upd u2 (fun e => by omega), h1.wal.upd u2 (fun q hq e => h.g1 (e ▸ hq)), fun e => by omega, h.g1, fun e => ?_⟩, .inl ⟨rfl, Hht.out.1, Hht.out.2.1, Hht.out.2.2.1, ?_⟩, fun _ => rfl, H8.out.2.trans ⟨(u1.mono (fun _ _ h => h.elim)).then u2 (fun q hq => .inl (.inl hq)), fun q hq => ?_⟩⟩
            · have := hlt _ (.inr (.inr e)); omega
            · intro hf
              have e1 := HP.out.2.2.2.2 hf
              have e2 := Hfl.out.2.2.2.2 (by omega)
              have e3 := Hht.out.2.2.2 (by omega)
              omega
            · rcases hq with e | e | e
              · exact .inl (.inl e)
              · exact .inr (by omega)
              · exact .inl (.inr (.inr e))
          · have Hht := Lib.hid hht
            clear hht
            go_wp2_with fail
            refine (pfail10 H8.out.1).mono ?_
            rintro e w9 ⟨rfl, hp9, hf9⟩
            dsimp only
            have H9 := Lib.hid (And.intro hp9 hf9)
            clear hp9 hf9
            go_wp2_with fail
            go_ret
            refine ⟨10, rfl, L7, D7, F8, fb, es, H9.out.1, .inr (.inr ⟨rfl, by rw [Hht.out.1, HP.out.2.2.1], Hht.out.2.1, Hht.out.2.2.1, ?_⟩), (fun h => by cases h), H8.out.2.trans H9.out.2⟩
            rcases Int.lt_or_le D.fuel 0 with hf | hf
            · have e1 := HP.out.2.2.2.2 hf
              have e2 := Hfl.out.2.2.2.2 (by omega)
              have e3 := Hht.out.2.2.2
              omega
            · exact hf
        · have Hfl := Lib.hid hfl
          clear hfl
          go_wp2_with fail
          refine (pfail10 H6.out.1).mono ?_
          rintro e w7 ⟨rfl, hp7, hf7⟩
          dsimp only
          have H7 := Lib.hid (And.intro hp7 hf7)
          clear hp7 hf7
          go_wp2_with fail
          go_ret
          refine ⟨10, rfl, L1, D6, F6, fb, es, H7.out.1, .inr (.inr ⟨rfl, by rw [HP.out.2.2.1], by rw [Hfl.out.1], ?_, ?_⟩), (fun h => by cases h), H6.out.2.trans H7.out.2⟩
          · refine home_safe HP.out.1 HP.out.2.2.2.1 (by rw [HP.out.2.2.1]) (sortK es) (fun q hq => (sortK_mem es q).1 hq) ?_ ?_
            · rw [Hfl.out.1]; exact Hb.out.2.2.secs
            · rw [Hfl.out.1]; exact Hb.out.2.2.waits.trans (by rw [List.take_length])
          · rcases Int.lt_or_le D.fuel 0 with hf | hf
            · have e1 := HP.out.2.2.2.2 hf
              have e2 := HR.out.2.1.fuel (by omega)
              have e3 := Hfl.out.2
              omega
            · exact hf
  · have HP := Lib.hid hp
    clear hp
    go_wp2_with fail
    refine (pfail10 H1.out.1).mono ?_
    rintro e w2 ⟨rfl, hp2, hf2⟩
    dsimp only
    have H2 := Lib.hid (And.intro hp2 hf2)
    clear hp2 hf2
    go_wp2_with fail
    go_ret
    refine ⟨10, rfl, L1, D1, F1, fb, es, H2.out.1, .inr (.inl ⟨rfl, by rw [HP.out.1], HP.out.2.1, HP.out.2.2.1, HP.out.2.2.2⟩), (fun h => by cases h), H1.out.2.trans H2.out.2⟩
end Go.Proofs.YtihlijnobbonbaaGreat
