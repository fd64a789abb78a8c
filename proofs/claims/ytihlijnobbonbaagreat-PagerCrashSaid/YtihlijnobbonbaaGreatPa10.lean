/- Package pager: Open. -/
import Derived.Test.YtihlijnobbonbaaGreatPa8
import Derived.Test.YtihlijnobbonbaaGreatPa9
import Derived.Test.YtihlijnobbonbaaGreatRegionE
import Derived.Laws.Cover3
namespace Go.Proofs.YtihlijnobbonbaaGreat
open Go Go.RowKit
set_option linter.unusedSimpArgs false
set_option linter.unusedVariables false
set_option maxRecDepth 100000

section
variable {P : Program} {ops : Array Oper} {Q : Exit → Act → World → Prop} {md : Region.Mode} {S : World → Prop} {z : Nat}
/-- Two are ready. -/
theorem anyZ_two {n : Nat} {L : Array Bool} {a : Act} {w : World} (i j : Nat) (hr : Region.ready md ops L = [i, j]) (hi : wpOp P ops Q i (fun a' w' => (i ≠ z → S w') ∧ wpAnyZ P md ops Q S z n (L.setIfInBounds i true) a' w') a w)
    (hj : wpOp P ops Q j (fun a' w' => (j ≠ z → S w') ∧ wpAnyZ P md ops Q S z n (L.setIfInBounds j true) a' w') a w) : wpAnyZ P md ops Q S z (n + 1) L a w :=
  ⟨fun h => (by rw [hr] at h; cases h), fun k hk => by
    rw [hr] at hk
    rcases List.mem_cons.1 hk with rfl | hk
    · exact hi
    · obtain rfl := List.mem_singleton.1 hk
      exact hj⟩
end
theorem RowsAt.look {w : World} {vs : List Value} {bs : List Batch} {A : Nat → Prop} (h : RowsAt w vs bs A) (k : Nat) (hk : k < bs.length) : ∃ x c, vs[k]? = some (.slice x bs[k].length c) ∧ Sees w 1 (.slice x bs[k].length c) bs[k].length (strsV bs[k]) := by
  obtain ⟨h1, h2⟩ := h
  have h3 := h2 k (by omega) hk
  obtain ⟨s1, s2, xo, c, e, s3⟩ := h3.1
  refine ⟨xo, c, ?_, by rw [← e]; exact h3.1⟩
  rw [List.getElem?_eq_getElem (by omega), e]
theorem RowsAt.get {w : World} {vs : List Value} {bs : List Batch} {A : Nat → Prop} (h : RowsAt w vs bs A) {k : Nat} {b : Batch} {v : Value} (hb : bs[k]? = some b) (hv : vs[k]? = some v) : Sees w 1 v b.length (strsV b) := by
  obtain ⟨h1, h2⟩ := List.getElem?_eq_some_iff.1 hb
  obtain ⟨h3, h4⟩ := List.getElem?_eq_some_iff.1 hv
  subst h2; subst h4
  exact (h.2 k h3 h1).1
/-- Between two batches. -/
def OpnB (w : World) (pb db lb fb skip : Nat) (L : LSt) (D : DSt) (F1 : Nat → Prop) (cc : List Img) (x : Option Addr) (n c : Nat) (vs : List Value) (A : Nat → Prop) (es : Img) (wr : World) : Prop :=
  PgAt wr pb db lb fb skip none false L D es F1 ∧ Upd (fun _ => False) w wr ∧ Sees wr 1 (.slice x n c) n vs ∧ RowsAt wr vs (cc.map encC) A ∧ (∀ q, A q → q ≠ pb ∧ q ≠ fb ∧ w.heap.size ≤ q) ∧ (∀ q, (Value.slice x n c).ownBlock = some q → q ≠ pb ∧ q ≠ fb) ∧ w.heap.size ≤ fb
def partC (c : Img) (es : Img) (m : Nat) : Img := ((sortK c).take m).foldl (fun es k => putP es k (dataAt c k)) es
theorem partC_all (c es : Img) (m : Nat) (h : c.length ≤ m) : partC c es m = replay es c := by
  rw [partC, List.take_of_length_le (by rw [sortK_length]; exact h)]; rfl
theorem partC_succ (c es : Img) (m : Nat) (h : m < (sortK c).length) : partC c es (m + 1) = putP (partC c es m) (sortK c)[m] (dataAt c (sortK c)[m]) := by
  rw [partC, List.take_succ_eq_append_getElem h, List.foldl_append]; rfl
theorem replays_succ (cc : List Img) (k : Nat) (h : k < cc.length) : replays (cc.take (k + 1)) = replay (replays (cc.take k)) cc[k] := by
  rw [replays, List.take_succ_eq_append_getElem h, List.foldl_append]; rfl
theorem strV_drop4 (k : Nat) (x : Bytes) : recB (k : Int) x = strV (leB 4 k ++ x) := by rw [recB, Int.toNat_natCast]; rfl
/-- What Open leaves. -/
def OpnPost (w : World) (db : Nat) (D : DSt) (F0 : Nat → Prop) (skip N : Nat) (cs : List Img) (s : Nat) (e : Ending) (w' : World) : Prop :=
      (∃ pb K f', e = .returned (.tuple #[.pointer (some ⟨pb, 0, none⟩), .int .i64 0]) ∧ Pgr w' pb db skip N (cs.take s) s f' K ∧ (D.fuel < 0 → f' = D.fuel) ∧ Fut w w' F0 K) ∨
      (∃ D' F', e = .returned (.tuple #[.pointer none, .int .i64 10]) ∧ DiskAt w' db D' F' ∧ D'.dead = true ∧ SafeP D' skip N (cs.take s) s ∧ Fut w w' F0 F' ∧ 0 ≤ D.fuel)
set_option maxHeartbeats 16000000 in
theorem popen_ok {w : World} {db : Nat} {D : DSt} {F0 : Nat → Prop} (hD : DiskAt w db D F0) (hd : D.dead = false) (hwt : D.waits.length < 1000000) (skip N T s start : Nat) (cs : List Img) (hT : T ≤ s) (hs : s ≤ cs.length) (h2 : 2 ≤ skip) (hN : 1 ≤ N) (hl : D.secs.length = skip + N)
    (hg : Good D.secs 0 skip start (T + 1) s (seg (cs.map encC) T s)) (hw : ∀ p ∈ D.waits, p.1 < skip ∧ p.1 ≠ 0 ∧ ∀ i, i < needsB (seg (cs.map encC) T s) → p.1 ≠ ringAt 0 skip (start + i)) (hh : HomeOK D.secs skip N T s cs) (hok : ∀ c ∈ cs, EsOk N c) :
    Calls Tryz.prog 29 #[.pointer (some ⟨db, 0, none⟩), .int .i64 (skip : Nat)] w fun e w' => OpnPost w db D F0 skip N cs s e w' := by
  have hm : skip + N ≤ 4096 := by have := hD.1.most; omega
  have hpre := open_pre hd hT hs hl hm hg hw hh hok
  have hck := check_pg hD skip h2 (by omega)
  have hg2 := hg.avoid _ (fun p hp => (hw p hp).2)
  have hop := open_good hD 0 skip h2 (by omega) (by omega) hd start (T + 1) s (seg (cs.map encC) T s) _ hg2.mark (pad_length (by rw [markB_length]; decide)) rfl hg2
  obtain ⟨cc, hcc⟩ : ∃ cc, (cs.take s).drop T = cc := ⟨_, rfl⟩
  obtain ⟨n, hn⟩ : ∃ n, cc.length = n := ⟨_, rfl⟩
  have hsg : seg (cs.map encC) T s = cc.map encC := by rw [seg_map, hcc]
  rw [hsg, List.length_map, hn] at hop
  rw [hsg, hcc] at hpre
  have hnb : n ≤ 4096 := by
    have h1 := hg.need
    rw [hsg] at h1
    have h3 : ∀ l : List Batch, l.length ≤ needsB l := by
      intro l
      induction l with
      | nil => exact Nat.zero_le _
      | cons b r ih => rw [needsB_cons, List.length_cons]; have := needB_pos b; omega
    have h4 := h3 (cc.map encC)
    rw [List.length_map] at h4
    omega
  have hokc : ∀ c ∈ cc, EsOk N c := fun c hc => hok c (List.mem_of_mem_take (List.mem_of_mem_drop (by rw [hcc]; exact hc)))
  have hskI : (skip : Int) ≤ 4096 := by omega
  have hsk2 : (2 : Int) ≤ (skip : Int) := by omega
  have hnI : (n : Int) ≤ 4096 := by omega
  have hNI : (N : Int) ≤ 4096 := by omega
  have H := Lib.hid (And.intro hpre (And.intro hwt (And.intro hn (And.intro hokc (And.intro hm (And.intro hl (And.intro h2 hs)))))))
  have Hck := Lib.hid hck
  have Hop := Lib.hid hop
  have HDl := Lib.hid hD.lt
  obtain ⟨L, hL⟩ : ∃ L, LSt.opened 0 skip start (T + 1) s (cc.map encC) = L := ⟨_, rfl⟩
  rw [hL] at H Hop
  have hLs : L.synced = s := by rw [← hL]; rfl
  have hLs := Lib.hid hLs
  clear hD hd hwt hT hs h2 hl hg hw hh hok hm hpre hck hg2 hop hsg hcc hn hnb hokc hL
  have hmm := @run_makeMap Tryz.prog
  go_enter Tryz.func29, Tryz.ntmps29
  go_wp2_with fail
  refine Hck.out.mono ?_
  rintro e w1 ⟨rfl, rfl⟩
  dsimp only
  go_wp2_with fail
  refine Hop.out.mono ?_
  rintro e w1 ⟨lb, x, c, rfl, F1, vs, A, g1, g2, g3, g4, g5, g6, g7⟩
  dsimp only
  have hln : (cc.map encC).length = n := by rw [List.length_map]; exact H.out.2.2.1
  rw [hln] at g4 g6 g7
  clear hln
  have H1 := Lib.hid (And.intro g1 (And.intro g2 (And.intro g3 (And.intro g4 (And.intro g5 (And.intro g6 g7))))))
  clear g1 g2 g3 g4 g5 g6 g7 Hop Hck
  go_wp2_with fail
  have u1 : Upd (fun _ => False) w1 (w1.alloc (.map #[] 0)) := (Upd.refl _ _).alloc _
  have s1 : (w1.alloc (.map #[] 0)).heap.size = w1.heap.size + 1 := by simp
  have e1 : (skip : Int) - 1 = ((skip - 1 : Nat) : Int) := by have := H.out.2.2.2.2.2.2.1; omega
  have m1 := MapAt.new w1
  have cp := CellsA.new (w1.alloc (.map #[] 0)) 85 [.pointer (some ⟨db, 0, none⟩), .pointer (some ⟨lb, 0, none⟩), .int .i64 skip, .int .i64 ((skip : Int) - 1), .map (some w1.heap.size), .pointer none, .bool false]
  have u2 : Upd (fun _ => False) (w1.alloc (.map #[] 0)) ((w1.alloc (.map #[] 0)).alloc (.cells #[.pointer (some ⟨db, 0, none⟩), .pointer (some ⟨lb, 0, none⟩), .int .i64 skip, .int .i64 ((skip : Int) - 1), .map (some w1.heap.size), .pointer none, .bool false] 85)) := (Upd.refl _ _).alloc _
  rw [s1] at cp
  change Code.wp _ _ _ _ ((w1.alloc (.map #[] 0)).alloc (.cells #[.pointer (some ⟨db, 0, none⟩), .pointer (some ⟨lb, 0, none⟩), .int .i64 skip, .int .i64 ((skip : Int) - 1), .map (some w1.heap.size), .pointer none, .bool false] 85))
  have HQ : Hid (OpnB w (w1.heap.size + 1) db lb w1.heap.size skip L D F1 cc x n c vs A (replays (cc.take 0)) ((w1.alloc (.map #[] 0)).alloc (.cells #[.pointer (some ⟨db, 0, none⟩), .pointer (some ⟨lb, 0, none⟩), .int .i64 skip, .int .i64 ((skip : Int) - 1), .map (some w1.heap.size), .pointer none, .bool false] 85))) := by
    obtain ⟨g1, g2, g3, g4, g5, g6, g7⟩ := H1.out
    have u12 := u1.trans u2
    have hlt := g1.lt
    have hz := g2.size
    refine ⟨⟨?_, m1.upd u2 (fun h => h), g1.upd u12 (fun _ _ h => h), by omega, fun e => ?_, fun e => ?_⟩, g2.trans u12, g4.sees.upd u12 (fun _ _ _ h => h), g5.upd u12 (fun _ _ h => h), fun q hq => ?_, fun q hq => ?_, hz⟩
    · rw [pgD, ← e1]; exact cp
    · have := hlt _ e; omega
    · have := hlt _ e; omega
    · have := g6 q hq; exact ⟨by omega, by omega, this.1⟩
    · have := g4.lt q hq; omega
  have hz1 : Hid (w.heap.size ≤ w1.heap.size) := H1.out.2.1.size
  have hfs : ∀ q, F1 q → F0 q ∨ w.heap.size ≤ q := H1.out.2.2.1
  have Hfs := Lib.hid hfs
  clear u1 s1 e1 m1 cp u2 H1 hfs
  generalize ((w1.alloc (.map #[] 0)).alloc (.cells #[.pointer (some ⟨db, 0, none⟩), .pointer (some ⟨lb, 0, none⟩), .int .i64 skip, .int .i64 ((skip : Int) - 1), .map (some w1.heap.size), .pointer none, .bool false] 85)) = w2 at *
  try simp only [Nat.add_assoc] at *
  generalize hpb : w1.heap.size + 1 = pb at *
  generalize hfb : w1.heap.size = fb at *
  go_wp2_with fail
  go_loopw [42] (fun v wr => ∃ k : Nat, k ≤ n ∧ v = .int .i64 k ∧ Hid (OpnB w pb db lb fb skip L D F1 cc x n c vs A (replays (cc.take k)) wr)) (fun v _ => n - (intOf v).toNat)
  case atStart => exact ⟨0, Nat.zero_le _, rfl, HQ⟩
  case round =>
    clear HQ
    obtain ⟨k, hk, rfl, HR⟩ := hrel
    by_cases hlt : k < n
    · have hltI : (k : Int) < (n : Int) := by omega
      have hkc : k < cc.length := by rw [H.out.2.2.1]; exact hlt
      obtain ⟨ci, hci⟩ : ∃ ci, cc[k] = ci := ⟨_, rfl⟩
      have hokc := H.out.2.2.2.1 ci (hci ▸ List.getElem_mem hkc)
      have hrow := HR.out.2.2.2.1.look k (by rw [List.length_map]; exact hkc)
      rw [List.getElem_map, hci, encC_length] at hrow
      obtain ⟨m, hm⟩ : ∃ m, ci.length = m := ⟨_, rfl⟩
      rw [hm] at hrow
      obtain ⟨xr, cr, hv, hse⟩ := hrow
      have hcell : ∃ g o, x = some ⟨g, o, none⟩ ∧ wr.cell? ⟨g, o + k, none⟩ = some (.slice xr m cr) := by
        obtain ⟨_, _, x', c', e', hc⟩ := HR.out.2.2.1
        cases e'
        obtain ⟨g, o, hx, hr⟩ := hc (by omega)
        exact ⟨g, o, hx, hr k _ hv⟩
      obtain ⟨g, o, rfl, hcell⟩ := hcell
      have hmm2 : (m : Int) ≤ 4096 := by have := hokc.le; have := H.out.2.2.2.2.1; omega
      have hrs : replays (cc.take (k + 1)) = replay (replays (cc.take k)) ci := by rw [replays_succ cc k hkc, hci]
      obtain ⟨es0, hes0⟩ : ∃ es0, replays (cc.take k) = es0 := ⟨_, rfl⟩
      rw [hes0] at hrs HR
      have HQ2 : Hid (OpnB w pb db lb fb skip L D F1 cc (some ⟨g, o, none⟩) n c vs A (partC ci es0 0) wr) := HR.out
      have hbk : (cc.map encC)[k]? = some (encC ci) := by rw [List.getElem?_map, List.getElem?_eq_getElem hkc, hci]; rfl
      have Hc := Lib.hid (And.intro hokc (And.intro hm (And.intro hse (And.intro hrs (And.intro hbk hv)))))
      clear hkc hci hokc hv hse hes0 hm hrs hbk
      go_wp2_with fail
      go_loopw [48] (fun v wq => ∃ j : Nat, j ≤ m ∧ v = .int .i64 j ∧ Hid (OpnB w pb db lb fb skip L D F1 cc (some ⟨g, o, none⟩) n c vs A (partC ci es0 j) wq)) (fun v _ => m - (intOf v).toNat)
      case atStart => exact ⟨0, Nat.zero_le _, rfl, HQ2⟩
      case round =>
        clear HQ2 hcell
        obtain ⟨j, hj, rfl, HI⟩ := hrel
        by_cases hlj : j < m
        · have hljI : (j : Int) < (m : Int) := by omega
          have hjs : j < (sortK ci).length := by rw [sortK_length, Hc.out.2.1]; exact hlj
          obtain ⟨key, hkey⟩ : ∃ key, (sortK ci)[j] = key := ⟨_, rfl⟩
          have hkd := Hc.out.1.data ((sortK_mem ci key).1 (hkey ▸ List.getElem_mem hjs))
          obtain ⟨kn, rfl⟩ : ∃ kn : Nat, key = (kn : Int) := ⟨key.toNat, by omega⟩
          obtain ⟨dt, hdt⟩ : ∃ dt, dataAt ci (kn : Int) = dt := ⟨_, rfl⟩
          rw [hdt] at hkd
          have hps := partC_succ ci es0 j hjs
          rw [hkey, hdt] at hps
          have hrc : (strsV (encC ci))[j]? = some (.string (recB (kn : Int) dt)) := by
            rw [strsV, List.getElem?_map, encC, List.getElem?_map, List.getElem?_eq_getElem hjs, hkey, ← hdt]; rfl
          obtain ⟨rs, hrs⟩ : ∃ rs, recB (kn : Int) dt = rs := ⟨_, rfl⟩
          have hnum := fun w' => number_ok kn (by have := H.out.2.2.2.2.1; omega) dt w'
          have hsz : rs.size = 516 := by rw [← hrs]; exact recB_size hkd.2.2
          rw [hrs] at hrc
          rw [hrs] at hnum
          have hcr : ∃ g2 o2, xr = some ⟨g2, o2, none⟩ ∧ wr.cell? ⟨g2, o2 + j, none⟩ = some (.string rs) := by
            have hse2 := HI.out.2.2.2.1.get Hc.out.2.2.2.2.1 Hc.out.2.2.2.2.2
            rw [encC_length, Hc.out.2.1] at hse2
            obtain ⟨_, _, x', c', e', hc⟩ := hse2
            cases e'
            obtain ⟨g2, o2, hx, hr⟩ := hc (by omega)
            exact ⟨g2, o2, hx, hr j _ hrc⟩
          obtain ⟨g2, o2, rfl, hcell⟩ := hcr
          have hblk := pblocks_ok (N := N) (HI.out.1) H.out.2.2.2.2.2.1
          have Hnum := Lib.hid hnum
          have Hblk := Lib.hid hblk
          have Hj := Lib.hid (And.intro hkd (And.intro hps (And.intro hrs hjs)))
          have hknI : (kn : Int) < (N : Int) := by omega
          obtain ⟨ts, hts⟩ : ∃ ts, rs.extract 4 516 = ts := ⟨_, rfl⟩
          have Hts : Hid (ts.data.toList = dt ∧ ts.size = 512) := by
            have e : ts.data.toList = dt := by
              rw [← hts, ← Hj.out.2.2.1, strV_drop4]
              have hl := Hj.out.1.2.2
              simp [strV, ByteArray.extract, ByteArray.copySlice, leB_length, hl, List.take_of_length_le]
            refine ⟨e, ?_⟩
            have : ts.data.toList.length = 512 := by rw [e]; exact Hj.out.1.2.2
            rw [Array.length_toList] at this
            exact this
          clear hkd hps hrs hjs hnum hblk hdt hkey hrc
          go_wp2_with fail
          refine (Hnum.out wr).mono ?_
          rintro e w5 ⟨rfl, hu5⟩
          dsimp only
          have HI5 : Hid (OpnB w pb db lb fb skip L D F1 cc (some ⟨g, o, none⟩) n c vs A (partC ci es0 j) w5) := by
            obtain ⟨r1, r2, r3, r4, r5⟩ := HI.out
            exact ⟨r1.upd hu5 (fun _ _ h => h), r2.trans hu5, r3.upd hu5 (fun _ _ _ h => h), r4.upd hu5 (fun _ _ h => h), r5⟩
          have hcell5 := hu5.cell_some hcell (fun h => h)
          have hblk5 := pblocks_ok (N := N) (HI5.out.1) H.out.2.2.2.2.2.1
          have Hblk5 := Lib.hid hblk5
          clear hu5 hcell hblk5 Hblk
          go_wp2_with fail
          refine Hblk5.out.mono ?_
          rintro e w6 ⟨rfl, rfl⟩
          dsimp only
          have HI6 : Hid (OpnB w pb db lb fb skip L D F1 cc (some ⟨g, o, none⟩) n c vs A (partC ci es0 j) w5.drew) := by
            have hu5 := (Upd.refl (fun _ => False) w5).drew
            obtain ⟨r1, r2, r3, r4, r5⟩ := HI5.out
            exact ⟨r1.upd hu5 (fun _ _ h => h), r2.trans hu5, r3.upd hu5 (fun _ _ _ h => h), r4.upd hu5 (fun _ _ h => h), r5⟩
          clear Hblk5 HI5
          have hgeI : decide ((kn : Int) ≥ (N : Int)) = false := by simp; omega
          have hgeN : decide (kn ≥ N) = false := by simp; omega
          have hgeN2 : decide (N ≤ kn) = false := by simp; omega
          go_wp2_with fail
          generalize w5.drew = w6 at *
          have HS : w6.drew.cell? ⟨pb, 4, none⟩ = some (.map (some fb)) := HI6.out.1.pg.cell 4
          refine wp_region_planT (fun u => u.cell? ⟨pb, 4, none⟩ = some (.map (some fb))) [0, 1, 2, 3, 4, 6, 7] 5 (by kernel_rfl) (by kernel_rfl) (fun d _ _ _ _ h => by cases d <;> exact h) HS ?_
          iterate 7 (apply planT_held rfl rfl rfl (by simp) HS; (intro w' hS K hK; go_simp; exact hK))
          refine planT_nil ?_
          refine anyZ_two 5 8 (by kernel_rfl) ?_ ?_
          · refine wpOp_one rfl rfl ?_
            go_simp
            refine (Hnum.out w6.drew).mono ?_
            rintro e w7 ⟨rfl, hu7⟩
            dsimp only
            have HI7 : Hid (OpnB w pb db lb fb skip L D F1 cc (some ⟨g, o, none⟩) n c vs A (partC ci es0 j) w7) := by
              have hu5 := (Upd.refl (fun _ => False) w6).drew.trans hu7
              obtain ⟨r1, r2, r3, r4, r5⟩ := HI6.out
              exact ⟨r1.upd hu5 (fun _ _ h => h), r2.trans hu5, r3.upd hu5 (fun _ _ _ h => h), r4.upd hu5 (fun _ _ h => h), r5⟩
            have HS7 : w7.cell? ⟨pb, 4, none⟩ = some (.map (some fb)) := HI7.out.1.pg.cell 4
            clear hu7 HS HI6
            refine ⟨HS7, chains_end (by kernel_rfl) (fun d _ _ _ _ h => by cases d <;> exact h) (Nat.le_refl _) [(8, false), (9, true), (10, true), (11, false)] 4 rfl _ _ _ (by kernel_rfl) HS7 ?_⟩
            try (simp only [Act.put, List.setIfInBounds_toArray, List.set_cons_zero, List.set_cons_succ])
            refine planD_op rfl rfl (fun K hK => ?_)
            refine wp_string_bytes 5 ts Tryz.underlying9 Tryz.underlying38 Tryz.underlying5 rfl (by rw [Hts.out.2]; decide) (fun c8 w8 hu8 hs8 hse8 => ?_)
            have HI8 : Hid (OpnB w pb db lb fb skip L D F1 cc (some ⟨g, o, none⟩) n c vs A (partC ci es0 j) w8) := by
              obtain ⟨r1, r2, r3, r4, r5⟩ := HI7.out
              exact ⟨r1.upd hu8 (fun _ _ h => h), r2.trans hu8, r3.upd hu8 (fun _ _ _ h => h), r4.upd hu8 (fun _ _ h => h), r5⟩
            have hyne : Hid (w7.heap.size ≠ fb) := fun e => by have := HI7.out.1.fresh.lt; omega
            have HS8 : w8.cell? ⟨pb, 4, none⟩ = some (.map (some fb)) ∧ w8.rangeAt w7.heap.size 0 (bvs dt) := ⟨HI8.out.1.pg.cell 4, by
              obtain ⟨_, _, x', c', e', hc⟩ := hse8
              cases e'
              obtain ⟨b8, o8, hx, hr⟩ := hc (by rw [Hts.out.2]; decide)
              cases hx
              rw [Hts.out.1] at hr
              exact hr⟩
            rw [Hts.out.2]
            generalize w7.heap.size = yb at *
            refine hK (fun u => u.cell? ⟨pb, 4, none⟩ = some (.map (some fb)) ∧ u.rangeAt yb 0 (bvs dt)) _ _ (fun u h => h.1) (fun _ => HS8) ?_
            clear hK hu8 hs8 hse8 HS7
            try (simp only [Act.put, List.setIfInBounds_toArray, List.set_cons_zero, List.set_cons_succ])
            have hat8 : ∀ w, (Instr.arrayAt 94 (.slice (some ⟨yb, 0, none⟩) 512 c8)).run Tryz.prog w = .ok (.pointer (some ⟨yb, 0, none⟩)) w := fun w => run_arrayAt w 94 _ 512 _ 512 c8 Tryz.underlying94 (Nat.le_refl _)
            iterate 1 (first | (apply planD_held rfl rfl rfl (by simp) HS8; (intro w' hS K hK; go_simp; exact hK)) | (apply planD_wanted rfl rfl rfl (by simp) HS8; (intro w' hS K hK; go_simp; exact hK)))
            apply planD_held rfl rfl rfl (by simp) HS8
            · intro w' hS K hK
              exact gives_load_mid yb 0 rfl (bvs dt) _ hS.2 Tryz.underlying94 rfl (by rw [bvs_length, Hj.out.1.2.2]; exact sizeImg) hK
            try (simp only [Act.put, List.setIfInBounds_toArray, List.set_cons_zero, List.set_cons_succ])
            refine planD_op rfl rfl (fun K hK => ?_)
            refine wp_update_map Tryz.underlying83 Tryz.underlying3 fb (imgs (partC ci es0 j)) (kn : Int) (.agg (bvs dt).toArray) rfl rfl rfl HI8.out.1.fresh (fun w9 hm9 hu9 => ?_)
            have H9 : Hid (OpnB w pb db lb fb skip L D F1 cc (some ⟨g, o, none⟩) n c vs A (partC ci es0 (j + 1)) w9) := by
              obtain ⟨r1, r2, r3, r4, r5, r6, r7⟩ := HI8.out
              rw [← imgs_putP, ← Hj.out.2.1] at hm9
              refine ⟨⟨r1.pg.upd hu9 (fun e => r1.ne e.symm), hm9, r1.wal.upd hu9 (fun q hq e => r1.g2 (e ▸ hq)), r1.ne, r1.g1, r1.g2⟩, r2.then hu9 (fun q hq => .inr (by rw [hq]; exact r7)), r3.upd hu9 (fun q hq _ e => (r6 q hq).2 e), r4.upd hu9 (fun q hq e => (r5 q hq).2.1 e), r5, r6, r7⟩
            have HS9 : w9.cell? ⟨pb, 4, none⟩ = some (.map (some fb)) ∧ w9.rangeAt yb 0 (bvs dt) := ⟨H9.out.1.pg.cell 4, hu9.range HS8.2 (fun e => hyne.out e)⟩
            refine hK _ _ _ (fun u h => h) (fun _ => HS9) ?_
            clear hK hm9 hu9 HS9
            try (simp only [Act.put, List.setIfInBounds_toArray, List.set_cons_zero, List.set_cons_succ])
            refine planD_nil ?_
            go_wp2_with fail
            exact ⟨⟨j + 1, by omega, by go_num, H9⟩, by simp [intOf]; omega⟩
          · refine wpOp_one rfl rfl ?_
            refine wp_string_bytes 5 ts Tryz.underlying9 Tryz.underlying38 Tryz.underlying5 rfl (by rw [Hts.out.2]; decide) (fun c8 w8 hu8 hs8 hse8 => ?_)
            have HI8 : Hid (OpnB w pb db lb fb skip L D F1 cc (some ⟨g, o, none⟩) n c vs A (partC ci es0 j) w8) := by
              have hu5 := (Upd.refl (fun _ => False) w6).drew.trans hu8
              obtain ⟨r1, r2, r3, r4, r5⟩ := HI6.out
              exact ⟨r1.upd hu5 (fun _ _ h => h), r2.trans hu5, r3.upd hu5 (fun _ _ _ h => h), r4.upd hu5 (fun _ _ h => h), r5⟩
            have hyne : Hid (w6.drew.heap.size ≠ fb) := fun e => by have := (HI6.out.1.upd (Upd.refl (fun _ => False) w6).drew (fun _ _ h => h)).fresh.lt; omega
            have HS8 : w8.cell? ⟨pb, 4, none⟩ = some (.map (some fb)) ∧ w8.rangeAt w6.drew.heap.size 0 (bvs dt) := ⟨HI8.out.1.pg.cell 4, by
              obtain ⟨_, _, x', c', e', hc⟩ := hse8
              cases e'
              obtain ⟨b8, o8, hx, hr⟩ := hc (by rw [Hts.out.2]; decide)
              cases hx
              rw [Hts.out.1] at hr
              exact hr⟩
            rw [Hts.out.2]
            generalize w6.drew.heap.size = yb at *
            refine ⟨fun _ => HS8.1, wpAnyZ_grow (S' := fun u => u.cell? ⟨pb, 4, none⟩ = some (.map (some fb)) ∧ u.rangeAt yb 0 (bvs dt)) (fun u h => h.1) _ _ _ _ (chains_end (by kernel_rfl) (fun d _ _ _ _ h => by cases d <;> exact h) (Nat.le_refl _) [(9, true), (10, true), (5, false), (11, false)] 4 rfl _ _ _ (by kernel_rfl) HS8 ?_)⟩
            clear hu8 hs8 hse8 HS HI6
            try (simp only [Act.put, List.setIfInBounds_toArray, List.set_cons_zero, List.set_cons_succ])
            have hat8 : ∀ w, (Instr.arrayAt 94 (.slice (some ⟨yb, 0, none⟩) 512 c8)).run Tryz.prog w = .ok (.pointer (some ⟨yb, 0, none⟩)) w := fun w => run_arrayAt w 94 _ 512 _ 512 c8 Tryz.underlying94 (Nat.le_refl _)
            iterate 1 (first | (apply planD_held rfl rfl rfl (by simp) HS8; (intro w' hS K hK; go_simp; exact hK)) | (apply planD_wanted rfl rfl rfl (by simp) HS8; (intro w' hS K hK; go_simp; exact hK)))
            apply planD_held rfl rfl rfl (by simp) HS8
            · intro w' hS K hK
              exact gives_load_mid yb 0 rfl (bvs dt) _ hS.2 Tryz.underlying94 rfl (by rw [bvs_length, Hj.out.1.2.2]; exact sizeImg) hK
            try (simp only [Act.put, List.setIfInBounds_toArray, List.set_cons_zero, List.set_cons_succ])
            refine planD_op rfl rfl (fun K hK => ?_)
            go_simp
            refine (Hnum.out w8).mono ?_
            rintro e w7 ⟨rfl, hu7⟩
            dsimp only
            have HI7 : Hid (OpnB w pb db lb fb skip L D F1 cc (some ⟨g, o, none⟩) n c vs A (partC ci es0 j) w7) := by
              obtain ⟨r1, r2, r3, r4, r5⟩ := HI8.out
              exact ⟨r1.upd hu7 (fun _ _ h => h), r2.trans hu7, r3.upd hu7 (fun _ _ _ h => h), r4.upd hu7 (fun _ _ h => h), r5⟩
            have HS7 : w7.cell? ⟨pb, 4, none⟩ = some (.map (some fb)) ∧ w7.rangeAt yb 0 (bvs dt) := ⟨HI7.out.1.pg.cell 4, hu7.range HS8.2 (fun h => h)⟩
            refine hK _ _ _ (fun u h => h) (fun _ => HS7) ?_
            clear hK hu7 HS8 HI8
            try (simp only [Act.put, List.setIfInBounds_toArray, List.set_cons_zero, List.set_cons_succ])
            refine planD_op rfl rfl (fun K hK => ?_)
            refine wp_update_map Tryz.underlying83 Tryz.underlying3 fb (imgs (partC ci es0 j)) (kn : Int) (.agg (bvs dt).toArray) rfl rfl rfl HI7.out.1.fresh (fun w9 hm9 hu9 => ?_)
            have H9 : Hid (OpnB w pb db lb fb skip L D F1 cc (some ⟨g, o, none⟩) n c vs A (partC ci es0 (j + 1)) w9) := by
              obtain ⟨r1, r2, r3, r4, r5, r6, r7⟩ := HI7.out
              rw [← imgs_putP, ← Hj.out.2.1] at hm9
              refine ⟨⟨r1.pg.upd hu9 (fun e => r1.ne e.symm), hm9, r1.wal.upd hu9 (fun q hq e => r1.g2 (e ▸ hq)), r1.ne, r1.g1, r1.g2⟩, r2.then hu9 (fun q hq => .inr (by rw [hq]; exact r7)), r3.upd hu9 (fun q hq _ e => (r6 q hq).2 e), r4.upd hu9 (fun q hq e => (r5 q hq).2.1 e), r5, r6, r7⟩
            have HS9 : w9.cell? ⟨pb, 4, none⟩ = some (.map (some fb)) ∧ w9.rangeAt yb 0 (bvs dt) := ⟨H9.out.1.pg.cell 4, hu9.range HS7.2 (fun e => hyne.out e)⟩
            refine hK _ _ _ (fun u h => h) (fun _ => HS9) ?_
            clear hK hm9 hu9 HS9
            try (simp only [Act.put, List.setIfInBounds_toArray, List.set_cons_zero, List.set_cons_succ])
            refine planD_nil ?_
            go_wp2_with fail
            exact ⟨⟨j + 1, by omega, by go_num, H9⟩, by simp [intOf]; omega⟩
        · obtain rfl : j = m := by omega
          go_wp2_with fail
          refine ⟨⟨k + 1, by omega, by go_num, ?_⟩, by simp [intOf]; omega⟩
          rw [Hc.out.2.2.2.1, ← partC_all ci es0 j (by rw [Hc.out.2.1]; exact Nat.le_refl _)]
          exact HI
    · obtain rfl : k = n := by omega
      have hho := phome_ok HR.out.1 (by rw [List.take_of_length_le (by rw [H.out.2.2.1]; exact Nat.le_refl _)]; exact H.out.1) H.out.2.1
      have Hho := Lib.hid hho
      have hls : (cs.take s).length = s := by rw [List.length_take]; have := H.out.2.2.2.2.2.2.2; omega
      have Hls := Lib.hid hls
      clear hho hls hlt
      go_wp2_with fail
      refine Hho.out.mono ?_
      rintro e w7 ⟨r, rfl, L7, D7, F7, fb7, es7, g1, g2, g3, g4⟩
      dsimp only
      have hfut : Hid (Fut w w7 F0 (ownP pb fb7 F7)) := by
        have hz := hz1.out
        have hz2 := HR.out.2.1.size
        have hown : ∀ q, ownP pb fb F1 q → F0 q ∨ w.heap.size ≤ q := fun q hq => by
          rcases hq with e | e | e
          · exact .inr (by omega)
          · exact .inr (by omega)
          · exact Hfs.out q e
        refine ⟨(HR.out.2.1.mono (fun _ _ h => h.elim)).then g4.upd hown, fun q hq => ?_⟩
        rcases g4.own q hq with e | e
        · exact hown q e
        · exact .inr (by omega)
      rcases g2 with ⟨rfl, g2⟩ | ⟨rfl, g2⟩ | ⟨rfl, g2⟩
      · have HG := Lib.hid (And.intro g1 (And.intro g2 g3))
        clear g1 g2 g3 g4
        go_wp2_with fail
        go_ret2
        refine .inl ⟨pb, _, _, rfl, ⟨lb, fb7, L7, D7, es7, F7, (cs.take s).length, HG.out.1, by rw [HG.out.2.2 trivial]; exact HG.out.2.1.1, HG.out.2.1.2.1.trans Hls.out, rfl, rfl⟩, HG.out.2.1.2.2.2, hfut.out⟩

      · have HG := Lib.hid (And.intro g1 g2)
        clear g1 g2 g3 g4
        go_wp2_with fail
        go_ret2
        obtain ⟨G, hG, hGF⟩ := HG.out.1.wal.disk
        refine .inr ⟨D7, G, rfl, hG, HG.out.2.2.1, ?_, ⟨hfut.out.upd, fun q hq => hfut.out.own q (.inr (.inr (hGF q hq)))⟩, HG.out.2.2.2.2⟩
        have := HG.out.2.2.2.1
        rw [hLs.out] at this
        exact this
      · have HG := Lib.hid (And.intro g1 g2)
        clear g1 g2 g3 g4
        go_wp2_with fail
        go_ret2
        obtain ⟨G, hG, hGF⟩ := HG.out.1.wal.disk
        refine .inr ⟨D7, G, rfl, hG, HG.out.2.2.1, ?_, ⟨hfut.out.upd, fun q hq => hfut.out.own q (.inr (.inr (hGF q hq)))⟩, HG.out.2.2.2.2⟩
        have := HG.out.2.2.2.1
        rw [Hls.out] at this
        exact this
end Go.Proofs.YtihlijnobbonbaaGreat
