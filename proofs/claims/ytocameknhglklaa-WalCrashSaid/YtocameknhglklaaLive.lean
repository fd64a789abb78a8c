/- docketlaw03.live, walked. -/
import Derived.Test.YtocameknhglklaaLive1
namespace Go.Proofs.Ytocameknhglklaa
open Go Go.RowKit
set_option linter.unusedSimpArgs false
set_option linter.unusedVariables false
set_option maxRecDepth 100000

set_option maxHeartbeats 8000000 in
theorem live_ok {w0 w : World} {lb db p N B : Nat} {L : LSt} {D : DSt} {F : Nat → Prop} {fi sy : Nat} {all : List Batch} {al : Nat} {x : Option Addr} {c : Nat} {vs : List Value} (hu0 : Upd (fun _ => False) w0 w) (hwal : WalAt w lb db L D F) (hinv : Inv L D fi all) (hsy : L.synced = sy) (hfr : L.fr = p) (hn : L.n = N)
    (hwt : D.waits = []) (hlen : all.length = al) (hal : al ≤ B) (hB : B ≤ 10000) (hN : N ≤ 4096) (hpN : p + N ≤ 4096) (hmid : Mid w 1 (.slice x al c) al vs) (hwh : Whole w 1 (.slice x al c)) (hrows : RowsAt w vs all (fun q => q < w0.heap.size)) (hF : ∀ q, F q → w0.heap.size ≤ q)
    (hO : ∀ q, (Value.slice x al c).ownBlock = some q → w0.heap.size ≤ q ∧ ¬ F q) (o : LifeR) (ho : o.Ok w0) :
    Calls Try.prog 34 #[.pointer (some ⟨db, 0, none⟩), .pointer (some ⟨lb, 0, none⟩), .agg #[.slice o.sa o.script.length o.sc, .int .u8 o.fuel, .slice o.ka o.keep.length o.kc], .slice x al c, .agg #[.int .i64 fi, .int .i64 fi, .int .i64 sy, .int .i64 sy]] w fun e w' =>
      ∃ (al' : Nat) (x' : Option Addr) (c' : Nat) (fi' th' sy' als' : Nat), e = .returned (.tuple #[.slice x' al' c', .agg #[.int .i64 fi', .int .i64 th', .int .i64 sy', .int .i64 als'], .bool true]) ∧ LivePost w0 w (fun q => F q ∨ (Value.slice x al c).ownBlock = some q) db p N B al' x' c' fi' th' sy' als' w' := by
  have hle1 := hinv.low
  have hle2 := hinv.high
  have H := Lib.hid (And.intro hu0 (And.intro hwal (And.intro hinv (And.intro (And.intro hsy (And.intro hfr (And.intro hn (And.intro hwt (And.intro hlen (And.intro hal (And.intro hB (And.intro hN hpN)))))))) (And.intro hmid (And.intro hwh (And.intro hrows (And.intro hF (And.intro hO ho)))))))))
  have bfi : (fi : Int) ≤ 10000 := by omega
  have bsy : (sy : Int) ≤ 10000 := by omega
  have bal : (al : Int) ≤ 10000 := by omega
  have hm := ho.script.1.2.1
  obtain ⟨m, hmm⟩ : ∃ m, o.script.length = m := ⟨_, rfl⟩
  rw [hmm] at hm
  have hmI : (m : Int) ≤ 9223372036854775807 := by simp only [maxLen] at hm; omega
  obtain ⟨kn, hkn⟩ : ∃ kn, o.keep.length = kn := ⟨_, rfl⟩
  obtain ⟨fu, hfu⟩ : ∃ fu, o.fuel = fu := ⟨_, rfl⟩
  have hfub : (fu : Int) ≤ 255 := by have := ho.fuel; omega
  have Hm := Lib.hid (And.intro hmm (And.intro hkn hfu))
  rw [hmm, hkn, hfu]
  clear hu0 hwal hinv hsy hfr hn hwt hlen hal hB hN hpN hmid hwh hrows hF hO ho hle1 hle2 hm hmm hkn hfu
  have HW := Lib.hid (live_start H.out.2.1 H.out.2.2.1 H.out.2.2.2.1.1 H.out.2.2.2.1.2.1 H.out.2.2.2.1.2.2.1 H.out.2.2.2.1.2.2.2.1 H.out.2.2.2.1.2.2.2.2.1 H.out.2.2.2.1.2.2.2.2.2.1 H.out.1 H.out.2.2.2.2.1 H.out.2.2.2.2.2.1 H.out.2.2.2.2.2.2.1 H.out.2.2.2.2.2.2.2.1 H.out.2.2.2.2.2.2.2.2.1 o)
  rw [show lifeV o = [.slice o.sa m o.sc, .int .u8 fu, .slice o.ka kn o.kc] by rw [lifeV, Hm.out.1, Hm.out.2.1, Hm.out.2.2]] at HW
  obtain ⟨X, hX⟩ : ∃ X : Nat → Prop, (fun q => F q ∨ (Value.slice x al c).ownBlock = some q) = X := ⟨_, rfl⟩
  rw [hX] at HW ⊢
  clear hX
  go_enter Try.func34, Try.ntmps34
  by_cases hf : fu < 250
  · have q0 : decide ((fu : Int) < 250) = true := by simp; omega
    go_wp2_with fail
    obtain ⟨fb, hfb⟩ : ∃ fb, w.heap.size = fb := ⟨_, rfl⟩
    obtain ⟨bb, hbb⟩ : ∃ bb, w.heap.size + 1 = bb := ⟨_, rfl⟩
    obtain ⟨rs, hrs⟩ : ∃ rs, w.heap.size + 1 + 1 = rs := ⟨_, rfl⟩
    rw [hrs, hbb, hfb] at HW ⊢
    generalize ((w.alloc (.cells #[.slice o.sa m o.sc, .int .u8 fu, .slice o.ka kn o.kc] 66)).alloc (.cells #[.int .i64 fi, .int .i64 fi, .int .i64 sy, .int .i64 sy] 64)).alloc (.cells #[.int .i64 0, .int .i64 0, .int .i64 0, .int .i64 0] 64) = w3 at *
    refine (HW.out.1.fuel (fu : Int) (by omega)).mono ?_
    rintro e w5 ⟨rfl, hw5, hu5⟩
    dsimp only
    have HQ : Hid (LiveR w0 w w5 X lb db bb fb rs o p N 0 B fi fi sy sy all al x c vs) := ⟨L, D.setFuel fu, F, hw5, HW.out.2.1.log hu5 (fun q hq => .inl hq) hw5.lt, fuel_live HW.out.2.2 _⟩
    clear hw5 hu5 HW q0 hf
    go_wp2_with fail
    go_loopw [3, 13] (fun t i wr => ∃ (k fi th sy als : Nat) (all : List Batch) (al : Nat) (x : Option Addr) (c : Nat) (vs : List Value), k ≤ 60 ∧ i = .int .i64 k ∧ t = .slice x al c ∧ Hid (LiveR w0 w wr X lb db bb fb rs o p N k B fi th sy als all al x c vs)) (fun _ i _ => 60 - (intOf i).toNat)
    case atStart => exact ⟨0, fi, fi, sy, sy, all, al, x, c, vs, Nat.zero_le _, rfl, rfl, HQ⟩
    case round =>
      clear HQ
      obtain ⟨k, fi, th, sy, als, all, al, x, c, vs, hk, rfl, rfl, HR⟩ := hrel
      obtain ⟨L, D, F, HR⟩ := HR.out
      have HR := Lib.hid HR
      have hb0 := HR.out.2.1.lif.cell 0
      simp only [lifeV, List.getElem?_cons_zero, List.getElem?_cons_succ] at hb0
      rw [Hm.out.1] at hb0
      by_cases hlt : k < m
      · have e1 : decide ((k : Int) < (m : Int)) = true := by simp; omega
        by_cases h60 : k < 60
        · have e2 : decide ((k : Int) < 60) = true := by simp; omega
          obtain ⟨de, hde⟩ : ∃ de, D.dead = de := ⟨_, rfl⟩
          have hdd := dead_wal HR.out.1
          rw [hde] at hdd
          have Hdd := Lib.hid (And.intro hdd hde)
          clear hdd hde
          cases de with
          | true =>
            go_wp2_with fail
            refine Hdd.out.1.mono ?_
            rintro e w9 ⟨rfl, rfl⟩
            dsimp only
            clear hb0
            have hb2 := HR.out.2.1.lif.cell 2
            simp only [lifeV, List.getElem?_cons_zero, List.getElem?_cons_succ] at hb2
            rw [Hm.out.2.1] at hb2
            go_wp2_with fail
            obtain ⟨G, hG, hGF⟩ := HR.out.1.disk
            have hU0 : Upd (fun _ => False) w0 wr := H.out.1.then HR.out.2.1.upd (fun q hq => .inr (HR.out.2.1.base.2 q hq))
            have hcr := crash_disk hG (by have h1 := HR.out.2.2.waits; omega) o.ka o.kc o.keep (H.out.2.2.2.2.2.2.2.2.2.keep.upd hU0 (fun _ _ _ h => h)) (fun y hy h0 hf => by have h1 := H.out.2.2.2.2.2.2.2.2.2.klt y hy h0; have h2 := HR.out.2.1.hiF _ (hGF _ hf); omega)
            rw [Hm.out.2.1] at hcr
            refine hcr.mono ?_
            rintro e w9 ⟨rfl, hD9, hu9⟩
            dsimp only
            have HE : Hid (∃ G : Nat → Prop, DiskAt w9 db (D.crash o.keep) G ∧ Upd G wr w9 ∧ ∀ q, G q → F q) := ⟨G, hD9, hu9, hGF⟩
            obtain ⟨G, HE⟩ := HE.out
            have HE := Lib.hid HE
            clear hG hGF hU0 hcr hD9 hu9 hb2
            go_wp2_with fail
            have HE2 : Hid (DiskAt w9.drew db (D.crash o.keep) G ∧ Upd G wr w9.drew ∧ ∀ q, G q → F q) := ⟨HE.out.1.upd ((Upd.refl _ _).drew) (fun _ _ h => h), HE.out.2.1.drew, HE.out.2.2⟩
            clear HE
            have HS : w9.drew.rangeAt bb 0 (bndV fi th sy als) := by
              have h1 := HR.out.2.1.bnd.upd HE2.out.2.1 (fun e => HR.out.2.1.awayF.1 (HE2.out.2.2 _ e))
              exact CellsAt.range h1
            have hth : w9.drew.there rs 0 (bndV fi th sy als).length := by
              have h1 := HR.out.2.1.res.upd HE2.out.2.1 (fun e => HR.out.2.1.awayF.2.2 (HE2.out.2.2 _ e))
              exact there_of_row h1 (Nat.le_refl _)
            refine wp_region_planD (fun u => u.rangeAt bb 0 (bndV fi th sy als)) 5 [(0, true), (1, true), (2, true), (3, false), (4, true)] (by kernel_rfl) (by kernel_rfl) (fun d _ _ _ _ h => by cases d <;> exact h) HS ?_
            iterate 1 (first | (apply planD_held rfl rfl rfl (by simp) HS; (intro w' hS K hK; go_simp; exact hK)) | (apply planD_wanted rfl rfl rfl (by simp) HS; (intro w' hS K hK; go_simp; exact hK)))
            apply planD_held rfl rfl rfl (by simp) HS
            · intro w' hS K hK
              exact gives_load_mid bb 0 rfl (bndV fi th sy als) _ hS Try.underlying64 rfl sizeBnd hK
            try (simp only [Act.put, List.setIfInBounds_toArray, List.set_cons_zero, List.set_cons_succ])
            iterate 1 (first | (apply planD_held rfl rfl rfl (by simp) HS; (intro w' hS K hK; go_simp; exact hK)) | (apply planD_wanted rfl rfl rfl (by simp) HS; (intro w' hS K hK; go_simp; exact hK)))
            refine planD_op rfl rfl (fun K hK => ?_)
            refine wp_store_mid' rs 0 (bndV fi th sy als) rfl rfl hth sizeBnd (bndV_one fi th sy als) ?_
            have HPOST := Lib.hid (live_exit HR.out.2.1 HR.out.2.2 HR.out.1 (by omega) H.out.2.2.2.1.2.2.2.2.2.2.2.2 HE2.out.1 HE2.out.2.1 HE2.out.2.2)
            clear HR HE2
            generalize w9.drew.setCells rs 0 (bndV fi th sy als) = w10 at *
            have HS10 : w10.rangeAt bb 0 (bndV fi th sy als) := HPOST.out.2.2
            refine hK _ _ _ (fun u h => h) (fun _ => HS10) ?_
            clear hK HS hth
            try (simp only [Act.put, List.setIfInBounds_toArray, List.set_cons_zero, List.set_cons_succ])
            iterate 1 (first | (apply planD_held rfl rfl rfl (by simp) HS10; (intro w' hS K hK; go_simp; exact hK)) | (apply planD_wanted rfl rfl rfl (by simp) HS10; (intro w' hS K hK; go_simp; exact hK)))
            refine planD_nil ?_
            clear HS10
            go_wp2_with fail
            try simp only [Exit.inBlock, Exit.then]
            refine bodyPost_ret (results_tct rfl _ _ rs _ _ _ _ rfl HPOST.out.2.1 Try.underlying64 rfl sizeBnd) rfl ?_
            exact ⟨al, x, c, fi, th, sy, als, rfl, HPOST.out.1⟩
          | false =>
            go_wp2_with fail
            refine Hdd.out.1.mono ?_
            rintro e w9 ⟨rfl, rfl⟩
            dsimp only
            have hU0 : Upd (fun _ => False) w0 wr := H.out.1.then HR.out.2.1.upd (fun q hq => .inr (HR.out.2.1.base.2 q hq))
            obtain ⟨u, hu⟩ : ∃ u, o.script[k]'(by rw [Hm.out.1]; exact hlt) = u := ⟨_, rfl⟩
            have hscr := H.out.2.2.2.2.2.2.2.2.2.script
            have hul : u ∈ o.script := hu ▸ List.getElem_mem _
            obtain ⟨xb, xo, exa, hr⟩ := wop_at hscr.1 k (by rw [Hm.out.1]; exact hlt)
            rw [hu] at hr
            have hro : wr.rangeAt xb (xo + k * 3) (wopV u) := hU0.range hr (fun h => h)
            have hok := hscr.2.1 u hul
            have Ho := Lib.hid hok
            obtain ⟨kd, hkd⟩ : ∃ kd, u.kind = kd := ⟨_, rfl⟩
            have hkdb : (kd : Int) ≤ 255 := by have := hok.kind; omega
            have hon : -9223372036854775808 ≤ u.n := hok.lo
            have hon2 : u.n ≤ 9223372036854775807 := hok.hi
            have hro' : wr.rangeAt xb (xo + k * 3) [.int .u8 kd, .slice u.ba u.batch.length u.bc, .int .i64 u.n] := by
              have := hro
              rw [wopV, hkd] at this
              exact this
            rw [exa] at hb0
            clear exa
            have hal : Upd (fun _ => False) wr (wr.alloc (.cells #[.int .u8 kd, .slice u.ba u.batch.length u.bc, .int .i64 u.n] 55)) := (Upd.refl _ wr).alloc _
            have hcs := CellsAt.new wr 55 [.int .u8 kd, .slice u.ba u.batch.length u.bc, .int .i64 u.n]
            obtain ⟨ob, hob⟩ : ∃ ob, wr.heap.size = ob := ⟨_, rfl⟩
            have hobF : ¬ F ob ∧ ob ≠ bb ∧ (∀ q, (Value.slice x al c).ownBlock = some q → q ≠ ob) := ⟨fun hf => by have := HR.out.2.1.ltF _ hf; omega, fun e => by have := HR.out.2.1.bnd.lt; omega, fun q hq e => by have := HR.out.2.1.mid.lt q hq; omega⟩
            rw [hob] at hcs
            have HR4 : Hid (WalAt (wr.alloc (.cells #[.int .u8 kd, .slice u.ba u.batch.length u.bc, .int .i64 u.n] 55)) lb db L D F ∧ MemL w0 w (wr.alloc (.cells #[.int .u8 kd, .slice u.ba u.batch.length u.bc, .int .i64 u.n] 55)) X bb fb rs F o (bndV fi th sy als) all al x c vs ∧ LiveL L D p N k B fi th sy als all al) := ⟨HR.out.1.upd hal (fun _ _ h => h), HR.out.2.1.step hal, HR.out.2.2⟩
            have hU4 := hU0.trans hal
            have Hob := Lib.hid (And.intro hobF (And.intro hcs (And.intro (HR.out.2.2.live Hdd.out.2).1 (And.intro hU4 hob))))
            clear hU0 hu hscr hul hr hro hok hkd hal hcs hobF hob hU4 HR
            have hkm : (k : Int) < (m : Int) := by omega
            have hmod : kd % 4 = 0 ∨ kd % 4 = 1 ∨ kd % 4 = 2 ∨ kd % 4 = 3 := by omega
            rcases hmod with h4 | h4 | h4 | h4
            · have q1 : (kd : Int) % 4 = 0 := by omega
              have q2 : (kd : Int).tmod 4 = 0 := by rw [Int.tmod_eq_emod_of_nonneg (by omega)]; omega
              clear h4
              go_wp2_with (first | ((with_reducible apply wpl_load_mid xb (xo + k * 3) [.int .u8 kd, .slice u.ba u.batch.length u.bc, .int .i64 u.n]); exact rfl; exact hro'; exact Try.underlying55; exact rfl; exact sizeWop3; try (simp only [Act.put, List.setIfInBounds_toArray, List.set_cons_zero, List.set_cons_succ])) | ((with_reducible apply wpl_store_new); exact rfl; exact rfl; exact sizeWop3; exact rfl; exact rfl; try (simp only [Act.put, List.setIfInBounds_toArray, List.set_cons_zero, List.set_cons_succ])))
              try rw [Hob.out.2.2.2.2]
              generalize wr.alloc (.cells #[.int .u8 kd, .slice u.ba u.batch.length u.bc, .int .i64 u.n] 55) = w4 at *
              obtain ⟨⟨L', D', a1, r1⟩, hap⟩ : ∃ q, L.append D u.batch = q := ⟨_, rfl⟩
              have hla := live_append HR4.out.2.2 Hdd.out.2 HR4.out.2.1.len H.out.2.2.2.1.2.2.2.2.2.2.2.1 (by have h1 := H.out.2.2.2.1.2.2.2.2.2.2.1; omega) u.batch
              have happ := append_ok HR4.out.1 (by have h1 := HR4.out.2.2.waits; omega) u.ba u.bc u.batch (Ho.out.batch.upd Hob.out.2.2.2.1 (fun _ _ _ h => h)) (fun y hy h0 e => by have h1 := Ho.out.lt y hy h0; have h2 := HR4.out.2.1.hiF _ (wal_lb HR4.out.1); omega) (by have h1 := Hob.out.2.2.1.last; have h2 := HR4.out.2.1.len; have h3 := HR4.out.2.2.le; have h4 := H.out.2.2.2.1.2.2.2.2.2.2.1; omega)
              rw [hap] at hla happ
              dsimp only at hla happ
              refine happ.mono ?_
              rintro e w5 ⟨rfl, F5, hw5, hu5, hF5⟩
              dsimp only
              have hm5 := HR4.out.2.1.log hu5 hF5 hw5.lt
              have hca := hu5.cell_some (a := ⟨ob, 1, none⟩) (Hob.out.2.1.cell 1) Hob.out.1.1
              try simp only [List.getElem?_cons_zero, List.getElem?_cons_succ] at hca
              have hdd5 := dead_wal hw5
              have H5 := Lib.hid (And.intro hw5 (And.intro hm5 hdd5))
              clear happ hap hw5 hu5 hF5 hm5 hdd5 HR4 hro'
              rcases hla with ⟨l1, l2, l3, l4⟩ | ⟨l1, l3, l4⟩ | ⟨l1, l3, l4⟩
              · have g1 : (r1 == 0) = false := by simpa using l1
                have g2 : (r1 == 10) = false := by simpa using l2
                have HRn : Hid (LiveR w0 w w5 X lb db bb fb rs o p N (k + 1) B fi th sy als all al x c vs) := ⟨L', D', F5, H5.out.1, H5.out.2.1, l4⟩
                have hdd5 := H5.out.2.2
                rw [l3] at hdd5
                have Hd5 := Lib.hid hdd5
                clear l1 l2 l3 l4 hdd5 H5
                go_wp2_with fail
                refine Hd5.out.mono ?_
                rintro e w9 ⟨rfl, rfl⟩
                dsimp only
                go_wp2_with fail
                exact ⟨⟨k + 1, _, _, _, _, _, _, _, _, _, by omega, by go_num, rfl, HRn⟩, by simp [intOf]; omega⟩
              · obtain ⟨rfl, rfl⟩ := Prod.mk.inj l1
                have Hl := Lib.hid (And.intro l3 l4)
                have hbal : al ≤ 20000 := by have h1 := l4.le; have h2 := H.out.2.2.2.1.2.2.2.2.2.2.1; omega
                have hbalI : (al : Int) ≤ 20000 := by omega
                have hxs := rangeAt_of_row (heap_alloc_new w5 (.cells ([.slice u.ba u.batch.length u.bc] : List Value).toArray 22)) (off := 0) (xs := [.slice u.ba u.batch.length u.bc]) rfl
                have hal5 : Upd (fun _ => False) w5 (w5.alloc (.cells ([.slice u.ba u.batch.length u.bc] : List Value).toArray 22)) := (Upd.refl _ w5).alloc _
                have hxm := H5.out.2.1.mid.upd hal5 (fun _ _ h => h)
                have hwm := H5.out.2.1.whole.upd hal5 (fun _ _ h => h) H5.out.2.1.mid.lt
                have Hxm := Lib.hid (And.intro hxm (And.intro hxs hwm))
                clear l1 l3 l4 hxs hal5 hxm hwm
                go_wp2_with ((with_reducible apply wpl_append_whole 22 1 24 _ (.slice x al c) al vs 1 [.slice u.ba u.batch.length u.bc]))
                · exact Try.underlying39
                · exact infoSS
                · rfl
                · rfl
                · exact Hxm.out.1
                · exact Hxm.out.2.2
                · exact Sees.at rfl (by decide) Hxm.out.2.1
                · intro v hv; simp at hv; rw [hv]; rfl
                · unfold maxLen; omega
                · omega
                intro x2 c2 w6 hm6 hu6 hb6 hwh6
                try (simp only [Act.put, List.setIfInBounds_toArray, List.set_cons_zero, List.set_cons_succ])
                have hm7 := H5.out.2.1.app hm6 hu6 hb6 hwh6 Ho.out.batch (fun q hq h0 => by
                  obtain ⟨ba, hba⟩ : ∃ ba, u.ba = ba := ⟨_, rfl⟩
                  rw [hba] at hq
                  cases ba with
                  | none => cases hq
                  | some y =>
                    have h1 := Ho.out.lt y hba h0
                    have h2 : q = y.block := by cases y; simp [Value.ownBlock] at hq; simp_all
                    omega) H.out.1
                have hal5 : Upd (fun _ => False) w5 (w5.alloc (.cells ([.slice u.ba u.batch.length u.bc] : List Value).toArray 22)) := (Upd.refl _ w5).alloc _
                have hw7 := (H5.out.1.upd hal5 (fun _ _ h => h)).upd hu6 (fun q hq e => (H5.out.2.1.newO q e).2 hq)
                have hdd5 := dead_wal hw7
                rw [Hl.out.1] at hdd5
                have HRn : Hid (LiveR w0 w w6 X lb db bb fb rs o p N (k + 1) B fi th sy als (all ++ [u.batch]) (al + 1) x2 c2 (vs ++ [.slice u.ba u.batch.length u.bc])) := ⟨L', D', F5, hw7, hm7, Hl.out.2⟩
                have Hd5 := Lib.hid hdd5
                clear hm6 hu6 hb6 hwh6 hm7 hal5 hw7 hdd5 H5 Hl Hxm hca
                go_wp2_with fail
                refine Hd5.out.mono ?_
                rintro e w9 ⟨rfl, rfl⟩
                dsimp only
                go_wp2_with fail
                exact ⟨⟨k + 1, _, _, _, _, _, _, _, _, _, by omega, by go_num, rfl, HRn⟩, by simp [intOf]; omega⟩
              · subst l1
                have HRn : Hid (LiveR w0 w w5 X lb db bb fb rs o p N (k + 1) B fi th sy als all al x c vs) := ⟨L', D', F5, H5.out.1, H5.out.2.1, l4⟩
                have hdd5 := H5.out.2.2
                rw [l3] at hdd5
                have Hd5 := Lib.hid hdd5
                clear l3 l4 hdd5 H5
                go_wp2_with fail
                refine Hd5.out.mono ?_
                rintro e w9 ⟨rfl, rfl⟩
                dsimp only
                go_wp2_with fail
                exact ⟨⟨k + 1, _, _, _, _, _, _, _, _, _, by omega, by go_num, rfl, HRn⟩, by simp [intOf]; omega⟩
            · have q1 : (kd : Int) % 4 = 1 := by omega
              have q2 : (kd : Int).tmod 4 = 1 := by rw [Int.tmod_eq_emod_of_nonneg (by omega)]; omega
              clear h4
              go_wp2_with (first | ((with_reducible apply wpl_load_mid xb (xo + k * 3) [.int .u8 kd, .slice u.ba u.batch.length u.bc, .int .i64 u.n]); exact rfl; exact hro'; exact Try.underlying55; exact rfl; exact sizeWop3; try (simp only [Act.put, List.setIfInBounds_toArray, List.set_cons_zero, List.set_cons_succ])) | ((with_reducible apply wpl_store_new); exact rfl; exact rfl; exact sizeWop3; exact rfl; exact rfl; try (simp only [Act.put, List.setIfInBounds_toArray, List.set_cons_zero, List.set_cons_succ])))
              try rw [Hob.out.2.2.2.2]
              generalize wr.alloc (.cells #[.int .u8 kd, .slice u.ba u.batch.length u.bc, .int .i64 u.n] 55) = w4 at *
              obtain ⟨⟨L', D', r1⟩, hap⟩ : ∃ q, L.sync D = q := ⟨_, rfl⟩
              have hla := live_sync HR4.out.2.2 Hdd.out.2 HR4.out.2.1.len
              have happ := sync_ok HR4.out.1 (by have h1 := HR4.out.2.2.waits; omega)
              rw [hap] at hla happ
              dsimp only at hla happ
              refine happ.mono ?_
              rintro e w5 ⟨rfl, F5, hw5, hu5, hF5⟩
              dsimp only
              have hm5 := HR4.out.2.1.log hu5 hF5 hw5.lt
              have hbal : al ≤ 20000 := by have h1 := HR4.out.2.2.le; have h2 := H.out.2.2.2.1.2.2.2.2.2.2.1; omega
              have hbalI : (al : Int) ≤ 20000 := by omega
              have fz3 := hm5.bnd.frozen 3
              have fz2 := hm5.bnd.frozen 2
              have cb3 := hm5.bnd.cell 3
              have cb2 := hm5.bnd.cell 2
              simp only [bndV, List.getElem?_cons_zero, List.getElem?_cons_succ] at cb3 cb2
              have H5 := Lib.hid (And.intro hw5 hm5)
              clear happ hap hw5 hu5 hF5 hm5 HR4 hro'
              rcases hla with ⟨l1, l3, l4⟩ | ⟨l1, l3, l4⟩
              · subst l1
                have hm6 := (H5.out.2.setb 3 (.int .i64 al)).setb 2 (.int .i64 al)
                have hw6 := (H5.out.1.upd ((Upd.refl (fun q => q = bb) _).setCell (p := ⟨bb, 3, none⟩) (.int .i64 al) (.inl rfl)) (fun q hq e => H5.out.2.awayF.1 (e ▸ hq))).upd ((Upd.refl (fun q => q = bb) _).setCell (p := ⟨bb, 2, none⟩) (.int .i64 al) (.inl rfl)) (fun q hq e => H5.out.2.awayF.1 (e ▸ hq))
                have hdd5 := dead_wal hw6
                rw [l3] at hdd5
                have HRn : Hid (LiveR w0 w ((w5.setCell ⟨bb, 3, none⟩ (.int .i64 al)).setCell ⟨bb, 2, none⟩ (.int .i64 al)) X lb db bb fb rs o p N (k + 1) B fi th al al all al x c vs) := ⟨L', D', F5, hw6, hm6, l4⟩
                have Hd5 := Lib.hid hdd5
                clear l3 l4 hm6 hw6 hdd5 H5
                go_wp2_with fail
                refine Hd5.out.mono ?_
                rintro e w9 ⟨rfl, rfl⟩
                dsimp only
                go_wp2_with fail
                exact ⟨⟨k + 1, _, _, _, _, _, _, _, _, _, by omega, by go_num, rfl, HRn⟩, by simp [intOf]; omega⟩
              · subst l1
                have hm6 := H5.out.2.setb 3 (.int .i64 al)
                have hw6 := H5.out.1.upd ((Upd.refl (fun q => q = bb) _).setCell (p := ⟨bb, 3, none⟩) (.int .i64 al) (.inl rfl)) (fun q hq e => H5.out.2.awayF.1 (e ▸ hq))
                have hdd5 := dead_wal hw6
                rw [l3] at hdd5
                have HRn : Hid (LiveR w0 w (w5.setCell ⟨bb, 3, none⟩ (.int .i64 al)) X lb db bb fb rs o p N (k + 1) B fi th sy al all al x c vs) := ⟨L', D', F5, hw6, hm6, l4⟩
                have Hd5 := Lib.hid hdd5
                clear l3 l4 hm6 hw6 hdd5 H5
                go_wp2_with fail
                refine Hd5.out.mono ?_
                rintro e w9 ⟨rfl, rfl⟩
                dsimp only
                go_wp2_with fail
                exact ⟨⟨k + 1, _, _, _, _, _, _, _, _, _, by omega, by go_num, rfl, HRn⟩, by simp [intOf]; omega⟩
            · have q1 : (kd : Int) % 4 = 2 := by omega
              have q2 : (kd : Int).tmod 4 = 2 := by rw [Int.tmod_eq_emod_of_nonneg (by omega)]; omega
              clear h4
              go_wp2_with (first | ((with_reducible apply wpl_load_mid xb (xo + k * 3) [.int .u8 kd, .slice u.ba u.batch.length u.bc, .int .i64 u.n]); exact rfl; exact hro'; exact Try.underlying55; exact rfl; exact sizeWop3; try (simp only [Act.put, List.setIfInBounds_toArray, List.set_cons_zero, List.set_cons_succ])) | ((with_reducible apply wpl_store_new); exact rfl; exact rfl; exact sizeWop3; exact rfl; exact rfl; try (simp only [Act.put, List.setIfInBounds_toArray, List.set_cons_zero, List.set_cons_succ])))
              try rw [Hob.out.2.2.2.2]
              generalize wr.alloc (.cells #[.int .u8 kd, .slice u.ba u.batch.length u.bc, .int .i64 u.n] 55) = w4 at *
              obtain ⟨⟨L', D', r1⟩, hap⟩ : ∃ q, L.trim D u.n = q := ⟨_, rfl⟩
              have hla := live_trim HR4.out.2.2 Hdd.out.2 u.n
              have happ := trim_ok HR4.out.1 (by have h1 := HR4.out.2.2.waits; omega) u.n hon2
              rw [hap] at hla happ
              dsimp only at hla happ
              refine happ.mono ?_
              rintro e w5 ⟨rfl, F5, hw5, hu5, hF5⟩
              dsimp only
              have hm5 := HR4.out.2.1.log hu5 hF5 hw5.lt
              have hca := hu5.cell_some (a := ⟨ob, 2, none⟩) (Hob.out.2.1.cell 2) Hob.out.1.1
              try simp only [List.getElem?_cons_zero, List.getElem?_cons_succ] at hca
              have hbal : al ≤ 20000 := by have h1 := HR4.out.2.2.le; have h2 := H.out.2.2.2.1.2.2.2.2.2.2.1; omega
              have hbfi : (fi : Int) ≤ 20000 := by have h1 := HR4.out.2.2.b1; omega
              have fz0 := hm5.bnd.frozen 0
              have fz1 := hm5.bnd.frozen 1
              have cb0 := hm5.bnd.cell 0
              have cb1 := hm5.bnd.cell 1
              simp only [bndV, List.getElem?_cons_zero, List.getElem?_cons_succ] at cb0 cb1
              have H5 := Lib.hid (And.intro hw5 hm5)
              clear happ hap hw5 hu5 hF5 hm5 HR4 hro'
              rcases hla with ⟨l1, l3, l4⟩ | ⟨U, hU, l1, l3, l4⟩ | ⟨U, hU, l1, l3, l4⟩
              · subst l1
                have hdd5 := dead_wal H5.out.1
                rw [l3] at hdd5
                have HRn : Hid (LiveR w0 w w5 X lb db bb fb rs o p N (k + 1) B fi th sy als all al x c vs) := ⟨L', D', F5, H5.out.1, H5.out.2, l4⟩
                have Hd5 := Lib.hid hdd5
                clear l3 l4 hdd5 H5
                go_wp2_with fail
                refine Hd5.out.mono ?_
                rintro e w9 ⟨rfl, rfl⟩
                dsimp only
                go_wp2_with fail
                exact ⟨⟨k + 1, _, _, _, _, _, _, _, _, _, by omega, by go_num, rfl, HRn⟩, by simp [intOf]; omega⟩
              · subst l1
                by_cases hmx : (fi : Int) < u.n
                · have hun : u.n = (U : Int) := by omega
                  rw [hun] at hca
                  have hmx2 : (fi : Int) < (U : Int) := by omega
                  have hm6 := (H5.out.2.setb 1 (.int .i64 U)).setb 0 (.int .i64 U)
                  have hw6 := (H5.out.1.upd ((Upd.refl (fun q => q = bb) _).setCell (p := ⟨bb, 1, none⟩) (.int .i64 U) (.inl rfl)) (fun q hq e => H5.out.2.awayF.1 (e ▸ hq))).upd ((Upd.refl (fun q => q = bb) _).setCell (p := ⟨bb, 0, none⟩) (.int .i64 U) (.inl rfl)) (fun q hq e => H5.out.2.awayF.1 (e ▸ hq))
                  have hdd5 := dead_wal hw6
                  rw [l3] at hdd5
                  have HRn : Hid (LiveR w0 w ((w5.setCell ⟨bb, 1, none⟩ (.int .i64 U)).setCell ⟨bb, 0, none⟩ (.int .i64 U)) X lb db bb fb rs o p N (k + 1) B U U sy als all al x c vs) := ⟨L', D', F5, hw6, hm6, l4⟩
                  have Hd5 := Lib.hid hdd5
                  clear l3 l4 hm6 hw6 hdd5 H5
                  go_wp2_with fail
                  refine Hd5.out.mono ?_
                  rintro e w9 ⟨rfl, rfl⟩
                  dsimp only
                  clear hmx hun hmx2 hU
                  go_wp2_with fail
                  exact ⟨⟨k + 1, _, _, _, _, _, _, _, _, _, by omega, by go_num, rfl, HRn⟩, by simp [intOf]; omega⟩
                · have e : U = fi := by omega
                  subst e
                  clear hU
                  have hm6 := (H5.out.2.setb 1 (.int .i64 U)).setb 0 (.int .i64 U)
                  have hw6 := (H5.out.1.upd ((Upd.refl (fun q => q = bb) _).setCell (p := ⟨bb, 1, none⟩) (.int .i64 U) (.inl rfl)) (fun q hq e => H5.out.2.awayF.1 (e ▸ hq))).upd ((Upd.refl (fun q => q = bb) _).setCell (p := ⟨bb, 0, none⟩) (.int .i64 U) (.inl rfl)) (fun q hq e => H5.out.2.awayF.1 (e ▸ hq))
                  have hdd5 := dead_wal hw6
                  rw [l3] at hdd5
                  have HRn : Hid (LiveR w0 w ((w5.setCell ⟨bb, 1, none⟩ (.int .i64 U)).setCell ⟨bb, 0, none⟩ (.int .i64 U)) X lb db bb fb rs o p N (k + 1) B U U sy als all al x c vs) := ⟨L', D', F5, hw6, hm6, l4⟩
                  have Hd5 := Lib.hid hdd5
                  clear l3 l4 hm6 hw6 hdd5 H5
                  go_wp2_with fail
                  refine Hd5.out.mono ?_
                  rintro e w9 ⟨rfl, rfl⟩
                  dsimp only
                  clear hmx
                  go_wp2_with fail
                  exact ⟨⟨k + 1, _, _, _, _, _, _, _, _, _, by omega, by go_num, rfl, HRn⟩, by simp [intOf]; omega⟩
              · subst l1
                by_cases hmx : (fi : Int) < u.n
                · have hun : u.n = (U : Int) := by omega
                  rw [hun] at hca
                  have hmx2 : (fi : Int) < (U : Int) := by omega
                  have hm6 := H5.out.2.setb 1 (.int .i64 U)
                  have hw6 := H5.out.1.upd ((Upd.refl (fun q => q = bb) _).setCell (p := ⟨bb, 1, none⟩) (.int .i64 U) (.inl rfl)) (fun q hq e => H5.out.2.awayF.1 (e ▸ hq))
                  have hdd5 := dead_wal hw6
                  rw [l3] at hdd5
                  have HRn : Hid (LiveR w0 w (w5.setCell ⟨bb, 1, none⟩ (.int .i64 U)) X lb db bb fb rs o p N (k + 1) B fi U sy als all al x c vs) := ⟨L', D', F5, hw6, hm6, l4⟩
                  have Hd5 := Lib.hid hdd5
                  clear l3 l4 hm6 hw6 hdd5 H5
                  go_wp2_with fail
                  refine Hd5.out.mono ?_
                  rintro e w9 ⟨rfl, rfl⟩
                  dsimp only
                  clear hmx hun hmx2 hU
                  go_wp2_with fail
                  exact ⟨⟨k + 1, _, _, _, _, _, _, _, _, _, by omega, by go_num, rfl, HRn⟩, by simp [intOf]; omega⟩
                · have e : U = fi := by omega
                  subst e
                  clear hU
                  have hm6 := H5.out.2.setb 1 (.int .i64 U)
                  have hw6 := H5.out.1.upd ((Upd.refl (fun q => q = bb) _).setCell (p := ⟨bb, 1, none⟩) (.int .i64 U) (.inl rfl)) (fun q hq e => H5.out.2.awayF.1 (e ▸ hq))
                  have hdd5 := dead_wal hw6
                  rw [l3] at hdd5
                  have HRn : Hid (LiveR w0 w (w5.setCell ⟨bb, 1, none⟩ (.int .i64 U)) X lb db bb fb rs o p N (k + 1) B U U sy als all al x c vs) := ⟨L', D', F5, hw6, hm6, l4⟩
                  have Hd5 := Lib.hid hdd5
                  clear l3 l4 hm6 hw6 hdd5 H5
                  go_wp2_with fail
                  refine Hd5.out.mono ?_
                  rintro e w9 ⟨rfl, rfl⟩
                  dsimp only
                  clear hmx
                  go_wp2_with fail
                  exact ⟨⟨k + 1, _, _, _, _, _, _, _, _, _, by omega, by go_num, rfl, HRn⟩, by simp [intOf]; omega⟩
            · have q1 : (kd : Int) % 4 = 3 := by omega
              have q2 : (kd : Int).tmod 4 = 3 := by rw [Int.tmod_eq_emod_of_nonneg (by omega)]; omega
              clear h4
              go_wp2_with (first | ((with_reducible apply wpl_load_mid xb (xo + k * 3) [.int .u8 kd, .slice u.ba u.batch.length u.bc, .int .i64 u.n]); exact rfl; exact hro'; exact Try.underlying55; exact rfl; exact sizeWop3; try (simp only [Act.put, List.setIfInBounds_toArray, List.set_cons_zero, List.set_cons_succ])) | ((with_reducible apply wpl_store_new); exact rfl; exact rfl; exact sizeWop3; exact rfl; exact rfl; try (simp only [Act.put, List.setIfInBounds_toArray, List.set_cons_zero, List.set_cons_succ])))
              try rw [Hob.out.2.2.2.2]
              generalize wr.alloc (.cells #[.int .u8 kd, .slice u.ba u.batch.length u.bc, .int .i64 u.n] 55) = w4 at *
              have HRn : Hid (LiveR w0 w w4 X lb db bb fb rs o p N (k + 1) B fi th sy als all al x c vs) := ⟨L, D, F, HR4.out.1, HR4.out.2.1, HR4.out.2.2.more⟩
              clear HR4 hro'
              exact ⟨⟨k + 1, _, _, _, _, _, _, _, _, _, by omega, by go_num, rfl, HRn⟩, by simp [intOf]; omega⟩
        · have e2 : decide ((k : Int) < 60) = false := by simp; omega
          have hb2 := HR.out.2.1.lif.cell 2
          simp only [lifeV, List.getElem?_cons_zero, List.getElem?_cons_succ] at hb2
          rw [Hm.out.2.1] at hb2
          go_wp2_with fail
          obtain ⟨G, hG, hGF⟩ := HR.out.1.disk
          have hU0 : Upd (fun _ => False) w0 wr := H.out.1.then HR.out.2.1.upd (fun q hq => .inr (HR.out.2.1.base.2 q hq))
          have hcr := crash_disk hG (by have h1 := HR.out.2.2.waits; omega) o.ka o.kc o.keep (H.out.2.2.2.2.2.2.2.2.2.keep.upd hU0 (fun _ _ _ h => h)) (fun y hy h0 hf => by have h1 := H.out.2.2.2.2.2.2.2.2.2.klt y hy h0; have h2 := HR.out.2.1.hiF _ (hGF _ hf); omega)
          rw [Hm.out.2.1] at hcr
          refine hcr.mono ?_
          rintro e w9 ⟨rfl, hD9, hu9⟩
          dsimp only
          have HE : Hid (∃ G : Nat → Prop, DiskAt w9 db (D.crash o.keep) G ∧ Upd G wr w9 ∧ ∀ q, G q → F q) := ⟨G, hD9, hu9, hGF⟩
          obtain ⟨G, HE⟩ := HE.out
          have HE := Lib.hid HE
          clear hG hGF hU0 hcr hD9 hu9 hb2
          go_wp2_with fail
          have HE2 : Hid (DiskAt w9.drew db (D.crash o.keep) G ∧ Upd G wr w9.drew ∧ ∀ q, G q → F q) := ⟨HE.out.1.upd ((Upd.refl _ _).drew) (fun _ _ h => h), HE.out.2.1.drew, HE.out.2.2⟩
          clear HE
          have HS : w9.drew.rangeAt bb 0 (bndV fi th sy als) := by
            have h1 := HR.out.2.1.bnd.upd HE2.out.2.1 (fun e => HR.out.2.1.awayF.1 (HE2.out.2.2 _ e))
            exact CellsAt.range h1
          have hth : w9.drew.there rs 0 (bndV fi th sy als).length := by
            have h1 := HR.out.2.1.res.upd HE2.out.2.1 (fun e => HR.out.2.1.awayF.2.2 (HE2.out.2.2 _ e))
            exact there_of_row h1 (Nat.le_refl _)
          refine wp_region_planD (fun u => u.rangeAt bb 0 (bndV fi th sy als)) 5 [(0, true), (1, true), (2, true), (3, false), (4, true)] (by kernel_rfl) (by kernel_rfl) (fun d _ _ _ _ h => by cases d <;> exact h) HS ?_
          iterate 1 (first | (apply planD_held rfl rfl rfl (by simp) HS; (intro w' hS K hK; go_simp; exact hK)) | (apply planD_wanted rfl rfl rfl (by simp) HS; (intro w' hS K hK; go_simp; exact hK)))
          apply planD_held rfl rfl rfl (by simp) HS
          · intro w' hS K hK
            exact gives_load_mid bb 0 rfl (bndV fi th sy als) _ hS Try.underlying64 rfl sizeBnd hK
          try (simp only [Act.put, List.setIfInBounds_toArray, List.set_cons_zero, List.set_cons_succ])
          iterate 1 (first | (apply planD_held rfl rfl rfl (by simp) HS; (intro w' hS K hK; go_simp; exact hK)) | (apply planD_wanted rfl rfl rfl (by simp) HS; (intro w' hS K hK; go_simp; exact hK)))
          refine planD_op rfl rfl (fun K hK => ?_)
          refine wp_store_mid' rs 0 (bndV fi th sy als) rfl rfl hth sizeBnd (bndV_one fi th sy als) ?_
          have HPOST := Lib.hid (live_exit HR.out.2.1 HR.out.2.2 HR.out.1 (by omega) H.out.2.2.2.1.2.2.2.2.2.2.2.2 HE2.out.1 HE2.out.2.1 HE2.out.2.2)
          clear HR HE2
          generalize w9.drew.setCells rs 0 (bndV fi th sy als) = w10 at *
          have HS10 : w10.rangeAt bb 0 (bndV fi th sy als) := HPOST.out.2.2
          refine hK _ _ _ (fun u h => h) (fun _ => HS10) ?_
          clear hK HS hth
          try (simp only [Act.put, List.setIfInBounds_toArray, List.set_cons_zero, List.set_cons_succ])
          iterate 1 (first | (apply planD_held rfl rfl rfl (by simp) HS10; (intro w' hS K hK; go_simp; exact hK)) | (apply planD_wanted rfl rfl rfl (by simp) HS10; (intro w' hS K hK; go_simp; exact hK)))
          refine planD_nil ?_
          clear HS10
          go_wp2_with fail
          try simp only [Exit.inBlock, Exit.then]
          refine bodyPost_ret (results_tct rfl _ _ rs _ _ _ _ rfl HPOST.out.2.1 Try.underlying64 rfl sizeBnd) rfl ?_
          exact ⟨al, x, c, fi, th, sy, als, rfl, HPOST.out.1⟩
      · have e1 : decide ((k : Int) < (m : Int)) = false := by simp; omega
        have hb2 := HR.out.2.1.lif.cell 2
        simp only [lifeV, List.getElem?_cons_zero, List.getElem?_cons_succ] at hb2
        rw [Hm.out.2.1] at hb2
        go_wp2_with fail
        obtain ⟨G, hG, hGF⟩ := HR.out.1.disk
        have hU0 : Upd (fun _ => False) w0 wr := H.out.1.then HR.out.2.1.upd (fun q hq => .inr (HR.out.2.1.base.2 q hq))
        have hcr := crash_disk hG (by have h1 := HR.out.2.2.waits; omega) o.ka o.kc o.keep (H.out.2.2.2.2.2.2.2.2.2.keep.upd hU0 (fun _ _ _ h => h)) (fun y hy h0 hf => by have h1 := H.out.2.2.2.2.2.2.2.2.2.klt y hy h0; have h2 := HR.out.2.1.hiF _ (hGF _ hf); omega)
        rw [Hm.out.2.1] at hcr
        refine hcr.mono ?_
        rintro e w9 ⟨rfl, hD9, hu9⟩
        dsimp only
        have HE : Hid (∃ G : Nat → Prop, DiskAt w9 db (D.crash o.keep) G ∧ Upd G wr w9 ∧ ∀ q, G q → F q) := ⟨G, hD9, hu9, hGF⟩
        obtain ⟨G, HE⟩ := HE.out
        have HE := Lib.hid HE
        clear hG hGF hU0 hcr hD9 hu9 hb2
        go_wp2_with fail
        have HE2 : Hid (DiskAt w9.drew db (D.crash o.keep) G ∧ Upd G wr w9.drew ∧ ∀ q, G q → F q) := ⟨HE.out.1.upd ((Upd.refl _ _).drew) (fun _ _ h => h), HE.out.2.1.drew, HE.out.2.2⟩
        clear HE
        have HS : w9.drew.rangeAt bb 0 (bndV fi th sy als) := by
          have h1 := HR.out.2.1.bnd.upd HE2.out.2.1 (fun e => HR.out.2.1.awayF.1 (HE2.out.2.2 _ e))
          exact CellsAt.range h1
        have hth : w9.drew.there rs 0 (bndV fi th sy als).length := by
          have h1 := HR.out.2.1.res.upd HE2.out.2.1 (fun e => HR.out.2.1.awayF.2.2 (HE2.out.2.2 _ e))
          exact there_of_row h1 (Nat.le_refl _)
        refine wp_region_planD (fun u => u.rangeAt bb 0 (bndV fi th sy als)) 5 [(0, true), (1, true), (2, true), (3, false), (4, true)] (by kernel_rfl) (by kernel_rfl) (fun d _ _ _ _ h => by cases d <;> exact h) HS ?_
        iterate 1 (first | (apply planD_held rfl rfl rfl (by simp) HS; (intro w' hS K hK; go_simp; exact hK)) | (apply planD_wanted rfl rfl rfl (by simp) HS; (intro w' hS K hK; go_simp; exact hK)))
        apply planD_held rfl rfl rfl (by simp) HS
        · intro w' hS K hK
          exact gives_load_mid bb 0 rfl (bndV fi th sy als) _ hS Try.underlying64 rfl sizeBnd hK
        try (simp only [Act.put, List.setIfInBounds_toArray, List.set_cons_zero, List.set_cons_succ])
        iterate 1 (first | (apply planD_held rfl rfl rfl (by simp) HS; (intro w' hS K hK; go_simp; exact hK)) | (apply planD_wanted rfl rfl rfl (by simp) HS; (intro w' hS K hK; go_simp; exact hK)))
        refine planD_op rfl rfl (fun K hK => ?_)
        refine wp_store_mid' rs 0 (bndV fi th sy als) rfl rfl hth sizeBnd (bndV_one fi th sy als) ?_
        have HPOST := Lib.hid (live_exit HR.out.2.1 HR.out.2.2 HR.out.1 (by omega) H.out.2.2.2.1.2.2.2.2.2.2.2.2 HE2.out.1 HE2.out.2.1 HE2.out.2.2)
        clear HR HE2
        generalize w9.drew.setCells rs 0 (bndV fi th sy als) = w10 at *
        have HS10 : w10.rangeAt bb 0 (bndV fi th sy als) := HPOST.out.2.2
        refine hK _ _ _ (fun u h => h) (fun _ => HS10) ?_
        clear hK HS hth
        try (simp only [Act.put, List.setIfInBounds_toArray, List.set_cons_zero, List.set_cons_succ])
        iterate 1 (first | (apply planD_held rfl rfl rfl (by simp) HS10; (intro w' hS K hK; go_simp; exact hK)) | (apply planD_wanted rfl rfl rfl (by simp) HS10; (intro w' hS K hK; go_simp; exact hK)))
        refine planD_nil ?_
        clear HS10
        go_wp2_with fail
        try simp only [Exit.inBlock, Exit.then]
        refine bodyPost_ret (results_tct rfl _ _ rs _ _ _ _ rfl HPOST.out.2.1 Try.underlying64 rfl sizeBnd) rfl ?_
        exact ⟨al, x, c, fi, th, sy, als, rfl, HPOST.out.1⟩
  · have q0 : decide ((fu : Int) < 250) = false := by simp; omega
    go_wp2_with fail
    obtain ⟨fb, hfb⟩ : ∃ fb, w.heap.size = fb := ⟨_, rfl⟩
    obtain ⟨bb, hbb⟩ : ∃ bb, w.heap.size + 1 = bb := ⟨_, rfl⟩
    obtain ⟨rs, hrs⟩ : ∃ rs, w.heap.size + 1 + 1 = rs := ⟨_, rfl⟩
    rw [hrs, hbb, hfb] at HW ⊢
    generalize ((w.alloc (.cells #[.slice o.sa m o.sc, .int .u8 fu, .slice o.ka kn o.kc] 66)).alloc (.cells #[.int .i64 fi, .int .i64 fi, .int .i64 sy, .int .i64 sy] 64)).alloc (.cells #[.int .i64 0, .int .i64 0, .int .i64 0, .int .i64 0] 64) = w5 at *
    have HQ : Hid (LiveR w0 w w5 X lb db bb fb rs o p N 0 B fi fi sy sy all al x c vs) := ⟨L, D, F, HW.out.1, HW.out.2.1, HW.out.2.2⟩
    clear HW q0 hf
    go_loopw [3, 13] (fun t i wr => ∃ (k fi th sy als : Nat) (all : List Batch) (al : Nat) (x : Option Addr) (c : Nat) (vs : List Value), k ≤ 60 ∧ i = .int .i64 k ∧ t = .slice x al c ∧ Hid (LiveR w0 w wr X lb db bb fb rs o p N k B fi th sy als all al x c vs)) (fun _ i _ => 60 - (intOf i).toNat)
    case atStart => exact ⟨0, fi, fi, sy, sy, all, al, x, c, vs, Nat.zero_le _, rfl, rfl, HQ⟩
    case round =>
      clear HQ
      obtain ⟨k, fi, th, sy, als, all, al, x, c, vs, hk, rfl, rfl, HR⟩ := hrel
      obtain ⟨L, D, F, HR⟩ := HR.out
      have HR := Lib.hid HR
      have hb0 := HR.out.2.1.lif.cell 0
      simp only [lifeV, List.getElem?_cons_zero, List.getElem?_cons_succ] at hb0
      rw [Hm.out.1] at hb0
      by_cases hlt : k < m
      · have e1 : decide ((k : Int) < (m : Int)) = true := by simp; omega
        by_cases h60 : k < 60
        · have e2 : decide ((k : Int) < 60) = true := by simp; omega
          obtain ⟨de, hde⟩ : ∃ de, D.dead = de := ⟨_, rfl⟩
          have hdd := dead_wal HR.out.1
          rw [hde] at hdd
          have Hdd := Lib.hid (And.intro hdd hde)
          clear hdd hde
          cases de with
          | true =>
            go_wp2_with fail
            refine Hdd.out.1.mono ?_
            rintro e w9 ⟨rfl, rfl⟩
            dsimp only
            clear hb0
            have hb2 := HR.out.2.1.lif.cell 2
            simp only [lifeV, List.getElem?_cons_zero, List.getElem?_cons_succ] at hb2
            rw [Hm.out.2.1] at hb2
            go_wp2_with fail
            obtain ⟨G, hG, hGF⟩ := HR.out.1.disk
            have hU0 : Upd (fun _ => False) w0 wr := H.out.1.then HR.out.2.1.upd (fun q hq => .inr (HR.out.2.1.base.2 q hq))
            have hcr := crash_disk hG (by have h1 := HR.out.2.2.waits; omega) o.ka o.kc o.keep (H.out.2.2.2.2.2.2.2.2.2.keep.upd hU0 (fun _ _ _ h => h)) (fun y hy h0 hf => by have h1 := H.out.2.2.2.2.2.2.2.2.2.klt y hy h0; have h2 := HR.out.2.1.hiF _ (hGF _ hf); omega)
            rw [Hm.out.2.1] at hcr
            refine hcr.mono ?_
            rintro e w9 ⟨rfl, hD9, hu9⟩
            dsimp only
            have HE : Hid (∃ G : Nat → Prop, DiskAt w9 db (D.crash o.keep) G ∧ Upd G wr w9 ∧ ∀ q, G q → F q) := ⟨G, hD9, hu9, hGF⟩
            obtain ⟨G, HE⟩ := HE.out
            have HE := Lib.hid HE
            clear hG hGF hU0 hcr hD9 hu9 hb2
            go_wp2_with fail
            have HE2 : Hid (DiskAt w9.drew db (D.crash o.keep) G ∧ Upd G wr w9.drew ∧ ∀ q, G q → F q) := ⟨HE.out.1.upd ((Upd.refl _ _).drew) (fun _ _ h => h), HE.out.2.1.drew, HE.out.2.2⟩
            clear HE
            have HS : w9.drew.rangeAt bb 0 (bndV fi th sy als) := by
              have h1 := HR.out.2.1.bnd.upd HE2.out.2.1 (fun e => HR.out.2.1.awayF.1 (HE2.out.2.2 _ e))
              exact CellsAt.range h1
            have hth : w9.drew.there rs 0 (bndV fi th sy als).length := by
              have h1 := HR.out.2.1.res.upd HE2.out.2.1 (fun e => HR.out.2.1.awayF.2.2 (HE2.out.2.2 _ e))
              exact there_of_row h1 (Nat.le_refl _)
            refine wp_region_planD (fun u => u.rangeAt bb 0 (bndV fi th sy als)) 5 [(0, true), (1, true), (2, true), (3, false), (4, true)] (by kernel_rfl) (by kernel_rfl) (fun d _ _ _ _ h => by cases d <;> exact h) HS ?_
            iterate 1 (first | (apply planD_held rfl rfl rfl (by simp) HS; (intro w' hS K hK; go_simp; exact hK)) | (apply planD_wanted rfl rfl rfl (by simp) HS; (intro w' hS K hK; go_simp; exact hK)))
            apply planD_held rfl rfl rfl (by simp) HS
            · intro w' hS K hK
              exact gives_load_mid bb 0 rfl (bndV fi th sy als) _ hS Try.underlying64 rfl sizeBnd hK
            try (simp only [Act.put, List.setIfInBounds_toArray, List.set_cons_zero, List.set_cons_succ])
            iterate 1 (first | (apply planD_held rfl rfl rfl (by simp) HS; (intro w' hS K hK; go_simp; exact hK)) | (apply planD_wanted rfl rfl rfl (by simp) HS; (intro w' hS K hK; go_simp; exact hK)))
            refine planD_op rfl rfl (fun K hK => ?_)
            refine wp_store_mid' rs 0 (bndV fi th sy als) rfl rfl hth sizeBnd (bndV_one fi th sy als) ?_
            have HPOST := Lib.hid (live_exit HR.out.2.1 HR.out.2.2 HR.out.1 (by omega) H.out.2.2.2.1.2.2.2.2.2.2.2.2 HE2.out.1 HE2.out.2.1 HE2.out.2.2)
            clear HR HE2
            generalize w9.drew.setCells rs 0 (bndV fi th sy als) = w10 at *
            have HS10 : w10.rangeAt bb 0 (bndV fi th sy als) := HPOST.out.2.2
            refine hK _ _ _ (fun u h => h) (fun _ => HS10) ?_
            clear hK HS hth
            try (simp only [Act.put, List.setIfInBounds_toArray, List.set_cons_zero, List.set_cons_succ])
            iterate 1 (first | (apply planD_held rfl rfl rfl (by simp) HS10; (intro w' hS K hK; go_simp; exact hK)) | (apply planD_wanted rfl rfl rfl (by simp) HS10; (intro w' hS K hK; go_simp; exact hK)))
            refine planD_nil ?_
            clear HS10
            go_wp2_with fail
            try simp only [Exit.inBlock, Exit.then]
            refine bodyPost_ret (results_tct rfl _ _ rs _ _ _ _ rfl HPOST.out.2.1 Try.underlying64 rfl sizeBnd) rfl ?_
            exact ⟨al, x, c, fi, th, sy, als, rfl, HPOST.out.1⟩
          | false =>
            go_wp2_with fail
            refine Hdd.out.1.mono ?_
            rintro e w9 ⟨rfl, rfl⟩
            dsimp only
            have hU0 : Upd (fun _ => False) w0 wr := H.out.1.then HR.out.2.1.upd (fun q hq => .inr (HR.out.2.1.base.2 q hq))
            obtain ⟨u, hu⟩ : ∃ u, o.script[k]'(by rw [Hm.out.1]; exact hlt) = u := ⟨_, rfl⟩
            have hscr := H.out.2.2.2.2.2.2.2.2.2.script
            have hul : u ∈ o.script := hu ▸ List.getElem_mem _
            obtain ⟨xb, xo, exa, hr⟩ := wop_at hscr.1 k (by rw [Hm.out.1]; exact hlt)
            rw [hu] at hr
            have hro : wr.rangeAt xb (xo + k * 3) (wopV u) := hU0.range hr (fun h => h)
            have hok := hscr.2.1 u hul
            have Ho := Lib.hid hok
            obtain ⟨kd, hkd⟩ : ∃ kd, u.kind = kd := ⟨_, rfl⟩
            have hkdb : (kd : Int) ≤ 255 := by have := hok.kind; omega
            have hon : -9223372036854775808 ≤ u.n := hok.lo
            have hon2 : u.n ≤ 9223372036854775807 := hok.hi
            have hro' : wr.rangeAt xb (xo + k * 3) [.int .u8 kd, .slice u.ba u.batch.length u.bc, .int .i64 u.n] := by
              have := hro
              rw [wopV, hkd] at this
              exact this
            rw [exa] at hb0
            clear exa
            have hal : Upd (fun _ => False) wr (wr.alloc (.cells #[.int .u8 kd, .slice u.ba u.batch.length u.bc, .int .i64 u.n] 55)) := (Upd.refl _ wr).alloc _
            have hcs := CellsAt.new wr 55 [.int .u8 kd, .slice u.ba u.batch.length u.bc, .int .i64 u.n]
            obtain ⟨ob, hob⟩ : ∃ ob, wr.heap.size = ob := ⟨_, rfl⟩
            have hobF : ¬ F ob ∧ ob ≠ bb ∧ (∀ q, (Value.slice x al c).ownBlock = some q → q ≠ ob) := ⟨fun hf => by have := HR.out.2.1.ltF _ hf; omega, fun e => by have := HR.out.2.1.bnd.lt; omega, fun q hq e => by have := HR.out.2.1.mid.lt q hq; omega⟩
            rw [hob] at hcs
            have HR4 : Hid (WalAt (wr.alloc (.cells #[.int .u8 kd, .slice u.ba u.batch.length u.bc, .int .i64 u.n] 55)) lb db L D F ∧ MemL w0 w (wr.alloc (.cells #[.int .u8 kd, .slice u.ba u.batch.length u.bc, .int .i64 u.n] 55)) X bb fb rs F o (bndV fi th sy als) all al x c vs ∧ LiveL L D p N k B fi th sy als all al) := ⟨HR.out.1.upd hal (fun _ _ h => h), HR.out.2.1.step hal, HR.out.2.2⟩
            have hU4 := hU0.trans hal
            have Hob := Lib.hid (And.intro hobF (And.intro hcs (And.intro (HR.out.2.2.live Hdd.out.2).1 (And.intro hU4 hob))))
            clear hU0 hu hscr hul hr hro hok hkd hal hcs hobF hob hU4 HR
            have hkm : (k : Int) < (m : Int) := by omega
            have hmod : kd % 4 = 0 ∨ kd % 4 = 1 ∨ kd % 4 = 2 ∨ kd % 4 = 3 := by omega
            rcases hmod with h4 | h4 | h4 | h4
            · have q1 : (kd : Int) % 4 = 0 := by omega
              have q2 : (kd : Int).tmod 4 = 0 := by rw [Int.tmod_eq_emod_of_nonneg (by omega)]; omega
              clear h4
              go_wp2_with (first | ((with_reducible apply wpl_load_mid xb (xo + k * 3) [.int .u8 kd, .slice u.ba u.batch.length u.bc, .int .i64 u.n]); exact rfl; exact hro'; exact Try.underlying55; exact rfl; exact sizeWop3; try (simp only [Act.put, List.setIfInBounds_toArray, List.set_cons_zero, List.set_cons_succ])) | ((with_reducible apply wpl_store_new); exact rfl; exact rfl; exact sizeWop3; exact rfl; exact rfl; try (simp only [Act.put, List.setIfInBounds_toArray, List.set_cons_zero, List.set_cons_succ])))
              try rw [Hob.out.2.2.2.2]
              generalize wr.alloc (.cells #[.int .u8 kd, .slice u.ba u.batch.length u.bc, .int .i64 u.n] 55) = w4 at *
              obtain ⟨⟨L', D', a1, r1⟩, hap⟩ : ∃ q, L.append D u.batch = q := ⟨_, rfl⟩
              have hla := live_append HR4.out.2.2 Hdd.out.2 HR4.out.2.1.len H.out.2.2.2.1.2.2.2.2.2.2.2.1 (by have h1 := H.out.2.2.2.1.2.2.2.2.2.2.1; omega) u.batch
              have happ := append_ok HR4.out.1 (by have h1 := HR4.out.2.2.waits; omega) u.ba u.bc u.batch (Ho.out.batch.upd Hob.out.2.2.2.1 (fun _ _ _ h => h)) (fun y hy h0 e => by have h1 := Ho.out.lt y hy h0; have h2 := HR4.out.2.1.hiF _ (wal_lb HR4.out.1); omega) (by have h1 := Hob.out.2.2.1.last; have h2 := HR4.out.2.1.len; have h3 := HR4.out.2.2.le; have h4 := H.out.2.2.2.1.2.2.2.2.2.2.1; omega)
              rw [hap] at hla happ
              dsimp only at hla happ
              refine happ.mono ?_
              rintro e w5 ⟨rfl, F5, hw5, hu5, hF5⟩
              dsimp only
              have hm5 := HR4.out.2.1.log hu5 hF5 hw5.lt
              have hca := hu5.cell_some (a := ⟨ob, 1, none⟩) (Hob.out.2.1.cell 1) Hob.out.1.1
              try simp only [List.getElem?_cons_zero, List.getElem?_cons_succ] at hca
              have hdd5 := dead_wal hw5
              have H5 := Lib.hid (And.intro hw5 (And.intro hm5 hdd5))
              clear happ hap hw5 hu5 hF5 hm5 hdd5 HR4 hro'
              rcases hla with ⟨l1, l2, l3, l4⟩ | ⟨l1, l3, l4⟩ | ⟨l1, l3, l4⟩
              · have g1 : (r1 == 0) = false := by simpa using l1
                have g2 : (r1 == 10) = false := by simpa using l2
                have HRn : Hid (LiveR w0 w w5 X lb db bb fb rs o p N (k + 1) B fi th sy als all al x c vs) := ⟨L', D', F5, H5.out.1, H5.out.2.1, l4⟩
                have hdd5 := H5.out.2.2
                rw [l3] at hdd5
                have Hd5 := Lib.hid hdd5
                clear l1 l2 l3 l4 hdd5 H5
                go_wp2_with fail
                refine Hd5.out.mono ?_
                rintro e w9 ⟨rfl, rfl⟩
                dsimp only
                go_wp2_with fail
                exact ⟨⟨k + 1, _, _, _, _, _, _, _, _, _, by omega, by go_num, rfl, HRn⟩, by simp [intOf]; omega⟩
              · obtain ⟨rfl, rfl⟩ := Prod.mk.inj l1
                have Hl := Lib.hid (And.intro l3 l4)
                have hbal : al ≤ 20000 := by have h1 := l4.le; have h2 := H.out.2.2.2.1.2.2.2.2.2.2.1; omega
                have hbalI : (al : Int) ≤ 20000 := by omega
                have hxs := rangeAt_of_row (heap_alloc_new w5 (.cells ([.slice u.ba u.batch.length u.bc] : List Value).toArray 22)) (off := 0) (xs := [.slice u.ba u.batch.length u.bc]) rfl
                have hal5 : Upd (fun _ => False) w5 (w5.alloc (.cells ([.slice u.ba u.batch.length u.bc] : List Value).toArray 22)) := (Upd.refl _ w5).alloc _
                have hxm := H5.out.2.1.mid.upd hal5 (fun _ _ h => h)
                have hwm := H5.out.2.1.whole.upd hal5 (fun _ _ h => h) H5.out.2.1.mid.lt
                have Hxm := Lib.hid (And.intro hxm (And.intro hxs hwm))
                clear l1 l3 l4 hxs hal5 hxm hwm
                go_wp2_with ((with_reducible apply wpl_append_whole 22 1 24 _ (.slice x al c) al vs 1 [.slice u.ba u.batch.length u.bc]))
                · exact Try.underlying39
                · exact infoSS
                · rfl
                · rfl
                · exact Hxm.out.1
                · exact Hxm.out.2.2
                · exact Sees.at rfl (by decide) Hxm.out.2.1
                · intro v hv; simp at hv; rw [hv]; rfl
                · unfold maxLen; omega
                · omega
                intro x2 c2 w6 hm6 hu6 hb6 hwh6
                try (simp only [Act.put, List.setIfInBounds_toArray, List.set_cons_zero, List.set_cons_succ])
                have hm7 := H5.out.2.1.app hm6 hu6 hb6 hwh6 Ho.out.batch (fun q hq h0 => by
                  obtain ⟨ba, hba⟩ : ∃ ba, u.ba = ba := ⟨_, rfl⟩
                  rw [hba] at hq
                  cases ba with
                  | none => cases hq
                  | some y =>
                    have h1 := Ho.out.lt y hba h0
                    have h2 : q = y.block := by cases y; simp [Value.ownBlock] at hq; simp_all
                    omega) H.out.1
                have hal5 : Upd (fun _ => False) w5 (w5.alloc (.cells ([.slice u.ba u.batch.length u.bc] : List Value).toArray 22)) := (Upd.refl _ w5).alloc _
                have hw7 := (H5.out.1.upd hal5 (fun _ _ h => h)).upd hu6 (fun q hq e => (H5.out.2.1.newO q e).2 hq)
                have hdd5 := dead_wal hw7
                rw [Hl.out.1] at hdd5
                have HRn : Hid (LiveR w0 w w6 X lb db bb fb rs o p N (k + 1) B fi th sy als (all ++ [u.batch]) (al + 1) x2 c2 (vs ++ [.slice u.ba u.batch.length u.bc])) := ⟨L', D', F5, hw7, hm7, Hl.out.2⟩
                have Hd5 := Lib.hid hdd5
                clear hm6 hu6 hb6 hwh6 hm7 hal5 hw7 hdd5 H5 Hl Hxm hca
                go_wp2_with fail
                refine Hd5.out.mono ?_
                rintro e w9 ⟨rfl, rfl⟩
                dsimp only
                go_wp2_with fail
                exact ⟨⟨k + 1, _, _, _, _, _, _, _, _, _, by omega, by go_num, rfl, HRn⟩, by simp [intOf]; omega⟩
              · subst l1
                have HRn : Hid (LiveR w0 w w5 X lb db bb fb rs o p N (k + 1) B fi th sy als all al x c vs) := ⟨L', D', F5, H5.out.1, H5.out.2.1, l4⟩
                have hdd5 := H5.out.2.2
                rw [l3] at hdd5
                have Hd5 := Lib.hid hdd5
                clear l3 l4 hdd5 H5
                go_wp2_with fail
                refine Hd5.out.mono ?_
                rintro e w9 ⟨rfl, rfl⟩
                dsimp only
                go_wp2_with fail
                exact ⟨⟨k + 1, _, _, _, _, _, _, _, _, _, by omega, by go_num, rfl, HRn⟩, by simp [intOf]; omega⟩
            · have q1 : (kd : Int) % 4 = 1 := by omega
              have q2 : (kd : Int).tmod 4 = 1 := by rw [Int.tmod_eq_emod_of_nonneg (by omega)]; omega
              clear h4
              go_wp2_with (first | ((with_reducible apply wpl_load_mid xb (xo + k * 3) [.int .u8 kd, .slice u.ba u.batch.length u.bc, .int .i64 u.n]); exact rfl; exact hro'; exact Try.underlying55; exact rfl; exact sizeWop3; try (simp only [Act.put, List.setIfInBounds_toArray, List.set_cons_zero, List.set_cons_succ])) | ((with_reducible apply wpl_store_new); exact rfl; exact rfl; exact sizeWop3; exact rfl; exact rfl; try (simp only [Act.put, List.setIfInBounds_toArray, List.set_cons_zero, List.set_cons_succ])))
              try rw [Hob.out.2.2.2.2]
              generalize wr.alloc (.cells #[.int .u8 kd, .slice u.ba u.batch.length u.bc, .int .i64 u.n] 55) = w4 at *
              obtain ⟨⟨L', D', r1⟩, hap⟩ : ∃ q, L.sync D = q := ⟨_, rfl⟩
              have hla := live_sync HR4.out.2.2 Hdd.out.2 HR4.out.2.1.len
              have happ := sync_ok HR4.out.1 (by have h1 := HR4.out.2.2.waits; omega)
              rw [hap] at hla happ
              dsimp only at hla happ
              refine happ.mono ?_
              rintro e w5 ⟨rfl, F5, hw5, hu5, hF5⟩
              dsimp only
              have hm5 := HR4.out.2.1.log hu5 hF5 hw5.lt
              have hbal : al ≤ 20000 := by have h1 := HR4.out.2.2.le; have h2 := H.out.2.2.2.1.2.2.2.2.2.2.1; omega
              have hbalI : (al : Int) ≤ 20000 := by omega
              have fz3 := hm5.bnd.frozen 3
              have fz2 := hm5.bnd.frozen 2
              have cb3 := hm5.bnd.cell 3
              have cb2 := hm5.bnd.cell 2
              simp only [bndV, List.getElem?_cons_zero, List.getElem?_cons_succ] at cb3 cb2
              have H5 := Lib.hid (And.intro hw5 hm5)
              clear happ hap hw5 hu5 hF5 hm5 HR4 hro'
              rcases hla with ⟨l1, l3, l4⟩ | ⟨l1, l3, l4⟩
              · subst l1
                have hm6 := (H5.out.2.setb 3 (.int .i64 al)).setb 2 (.int .i64 al)
                have hw6 := (H5.out.1.upd ((Upd.refl (fun q => q = bb) _).setCell (p := ⟨bb, 3, none⟩) (.int .i64 al) (.inl rfl)) (fun q hq e => H5.out.2.awayF.1 (e ▸ hq))).upd ((Upd.refl (fun q => q = bb) _).setCell (p := ⟨bb, 2, none⟩) (.int .i64 al) (.inl rfl)) (fun q hq e => H5.out.2.awayF.1 (e ▸ hq))
                have hdd5 := dead_wal hw6
                rw [l3] at hdd5
                have HRn : Hid (LiveR w0 w ((w5.setCell ⟨bb, 3, none⟩ (.int .i64 al)).setCell ⟨bb, 2, none⟩ (.int .i64 al)) X lb db bb fb rs o p N (k + 1) B fi th al al all al x c vs) := ⟨L', D', F5, hw6, hm6, l4⟩
                have Hd5 := Lib.hid hdd5
                clear l3 l4 hm6 hw6 hdd5 H5
                go_wp2_with fail
                refine Hd5.out.mono ?_
                rintro e w9 ⟨rfl, rfl⟩
                dsimp only
                go_wp2_with fail
                exact ⟨⟨k + 1, _, _, _, _, _, _, _, _, _, by omega, by go_num, rfl, HRn⟩, by simp [intOf]; omega⟩
              · subst l1
                have hm6 := H5.out.2.setb 3 (.int .i64 al)
                have hw6 := H5.out.1.upd ((Upd.refl (fun q => q = bb) _).setCell (p := ⟨bb, 3, none⟩) (.int .i64 al) (.inl rfl)) (fun q hq e => H5.out.2.awayF.1 (e ▸ hq))
                have hdd5 := dead_wal hw6
                rw [l3] at hdd5
                have HRn : Hid (LiveR w0 w (w5.setCell ⟨bb, 3, none⟩ (.int .i64 al)) X lb db bb fb rs o p N (k + 1) B fi th sy al all al x c vs) := ⟨L', D', F5, hw6, hm6, l4⟩
                have Hd5 := Lib.hid hdd5
                clear l3 l4 hm6 hw6 hdd5 H5
                go_wp2_with fail
                refine Hd5.out.mono ?_
                rintro e w9 ⟨rfl, rfl⟩
                dsimp only
                go_wp2_with fail
                exact ⟨⟨k + 1, _, _, _, _, _, _, _, _, _, by omega, by go_num, rfl, HRn⟩, by simp [intOf]; omega⟩
            · have q1 : (kd : Int) % 4 = 2 := by omega
              have q2 : (kd : Int).tmod 4 = 2 := by rw [Int.tmod_eq_emod_of_nonneg (by omega)]; omega
              clear h4
              go_wp2_with (first | ((with_reducible apply wpl_load_mid xb (xo + k * 3) [.int .u8 kd, .slice u.ba u.batch.length u.bc, .int .i64 u.n]); exact rfl; exact hro'; exact Try.underlying55; exact rfl; exact sizeWop3; try (simp only [Act.put, List.setIfInBounds_toArray, List.set_cons_zero, List.set_cons_succ])) | ((with_reducible apply wpl_store_new); exact rfl; exact rfl; exact sizeWop3; exact rfl; exact rfl; try (simp only [Act.put, List.setIfInBounds_toArray, List.set_cons_zero, List.set_cons_succ])))
              try rw [Hob.out.2.2.2.2]
              generalize wr.alloc (.cells #[.int .u8 kd, .slice u.ba u.batch.length u.bc, .int .i64 u.n] 55) = w4 at *
              obtain ⟨⟨L', D', r1⟩, hap⟩ : ∃ q, L.trim D u.n = q := ⟨_, rfl⟩
              have hla := live_trim HR4.out.2.2 Hdd.out.2 u.n
              have happ := trim_ok HR4.out.1 (by have h1 := HR4.out.2.2.waits; omega) u.n hon2
              rw [hap] at hla happ
              dsimp only at hla happ
              refine happ.mono ?_
              rintro e w5 ⟨rfl, F5, hw5, hu5, hF5⟩
              dsimp only
              have hm5 := HR4.out.2.1.log hu5 hF5 hw5.lt
              have hca := hu5.cell_some (a := ⟨ob, 2, none⟩) (Hob.out.2.1.cell 2) Hob.out.1.1
              try simp only [List.getElem?_cons_zero, List.getElem?_cons_succ] at hca
              have hbal : al ≤ 20000 := by have h1 := HR4.out.2.2.le; have h2 := H.out.2.2.2.1.2.2.2.2.2.2.1; omega
              have hbfi : (fi : Int) ≤ 20000 := by have h1 := HR4.out.2.2.b1; omega
              have fz0 := hm5.bnd.frozen 0
              have fz1 := hm5.bnd.frozen 1
              have cb0 := hm5.bnd.cell 0
              have cb1 := hm5.bnd.cell 1
              simp only [bndV, List.getElem?_cons_zero, List.getElem?_cons_succ] at cb0 cb1
              have H5 := Lib.hid (And.intro hw5 hm5)
              clear happ hap hw5 hu5 hF5 hm5 HR4 hro'
              rcases hla with ⟨l1, l3, l4⟩ | ⟨U, hU, l1, l3, l4⟩ | ⟨U, hU, l1, l3, l4⟩
              · subst l1
                have hdd5 := dead_wal H5.out.1
                rw [l3] at hdd5
                have HRn : Hid (LiveR w0 w w5 X lb db bb fb rs o p N (k + 1) B fi th sy als all al x c vs) := ⟨L', D', F5, H5.out.1, H5.out.2, l4⟩
                have Hd5 := Lib.hid hdd5
                clear l3 l4 hdd5 H5
                go_wp2_with fail
                refine Hd5.out.mono ?_
                rintro e w9 ⟨rfl, rfl⟩
                dsimp only
                go_wp2_with fail
                exact ⟨⟨k + 1, _, _, _, _, _, _, _, _, _, by omega, by go_num, rfl, HRn⟩, by simp [intOf]; omega⟩
              · subst l1
                by_cases hmx : (fi : Int) < u.n
                · have hun : u.n = (U : Int) := by omega
                  rw [hun] at hca
                  have hmx2 : (fi : Int) < (U : Int) := by omega
                  have hm6 := (H5.out.2.setb 1 (.int .i64 U)).setb 0 (.int .i64 U)
                  have hw6 := (H5.out.1.upd ((Upd.refl (fun q => q = bb) _).setCell (p := ⟨bb, 1, none⟩) (.int .i64 U) (.inl rfl)) (fun q hq e => H5.out.2.awayF.1 (e ▸ hq))).upd ((Upd.refl (fun q => q = bb) _).setCell (p := ⟨bb, 0, none⟩) (.int .i64 U) (.inl rfl)) (fun q hq e => H5.out.2.awayF.1 (e ▸ hq))
                  have hdd5 := dead_wal hw6
                  rw [l3] at hdd5
                  have HRn : Hid (LiveR w0 w ((w5.setCell ⟨bb, 1, none⟩ (.int .i64 U)).setCell ⟨bb, 0, none⟩ (.int .i64 U)) X lb db bb fb rs o p N (k + 1) B U U sy als all al x c vs) := ⟨L', D', F5, hw6, hm6, l4⟩
                  have Hd5 := Lib.hid hdd5
                  clear l3 l4 hm6 hw6 hdd5 H5
                  go_wp2_with fail
                  refine Hd5.out.mono ?_
                  rintro e w9 ⟨rfl, rfl⟩
                  dsimp only
                  clear hmx hun hmx2 hU
                  go_wp2_with fail
                  exact ⟨⟨k + 1, _, _, _, _, _, _, _, _, _, by omega, by go_num, rfl, HRn⟩, by simp [intOf]; omega⟩
                · have e : U = fi := by omega
                  subst e
                  clear hU
                  have hm6 := (H5.out.2.setb 1 (.int .i64 U)).setb 0 (.int .i64 U)
                  have hw6 := (H5.out.1.upd ((Upd.refl (fun q => q = bb) _).setCell (p := ⟨bb, 1, none⟩) (.int .i64 U) (.inl rfl)) (fun q hq e => H5.out.2.awayF.1 (e ▸ hq))).upd ((Upd.refl (fun q => q = bb) _).setCell (p := ⟨bb, 0, none⟩) (.int .i64 U) (.inl rfl)) (fun q hq e => H5.out.2.awayF.1 (e ▸ hq))
                  have hdd5 := dead_wal hw6
                  rw [l3] at hdd5
                  have HRn : Hid (LiveR w0 w ((w5.setCell ⟨bb, 1, none⟩ (.int .i64 U)).setCell ⟨bb, 0, none⟩ (.int .i64 U)) X lb db bb fb rs o p N (k + 1) B U U sy als all al x c vs) := ⟨L', D', F5, hw6, hm6, l4⟩
                  have Hd5 := Lib.hid hdd5
                  clear l3 l4 hm6 hw6 hdd5 H5
                  go_wp2_with fail
                  refine Hd5.out.mono ?_
                  rintro e w9 ⟨rfl, rfl⟩
                  dsimp only
                  clear hmx
                  go_wp2_with fail
                  exact ⟨⟨k + 1, _, _, _, _, _, _, _, _, _, by omega, by go_num, rfl, HRn⟩, by simp [intOf]; omega⟩
              · subst l1
                by_cases hmx : (fi : Int) < u.n
                · have hun : u.n = (U : Int) := by omega
                  rw [hun] at hca
                  have hmx2 : (fi : Int) < (U : Int) := by omega
                  have hm6 := H5.out.2.setb 1 (.int .i64 U)
                  have hw6 := H5.out.1.upd ((Upd.refl (fun q => q = bb) _).setCell (p := ⟨bb, 1, none⟩) (.int .i64 U) (.inl rfl)) (fun q hq e => H5.out.2.awayF.1 (e ▸ hq))
                  have hdd5 := dead_wal hw6
                  rw [l3] at hdd5
                  have HRn : Hid (LiveR w0 w (w5.setCell ⟨bb, 1, none⟩ (.int .i64 U)) X lb db bb fb rs o p N (k + 1) B fi U sy als all al x c vs) := ⟨L', D', F5, hw6, hm6, l4⟩
                  have Hd5 := Lib.hid hdd5
                  clear l3 l4 hm6 hw6 hdd5 H5
                  go_wp2_with fail
                  refine Hd5.out.mono ?_
                  rintro e w9 ⟨rfl, rfl⟩
                  dsimp only
                  clear hmx hun hmx2 hU
                  go_wp2_with fail
                  exact ⟨⟨k + 1, _, _, _, _, _, _, _, _, _, by omega, by go_num, rfl, HRn⟩, by simp [intOf]; omega⟩
                · have e : U = fi := by omega
                  subst e
                  clear hU
                  have hm6 := H5.out.2.setb 1 (.int .i64 U)
                  have hw6 := H5.out.1.upd ((Upd.refl (fun q => q = bb) _).setCell (p := ⟨bb, 1, none⟩) (.int .i64 U) (.inl rfl)) (fun q hq e => H5.out.2.awayF.1 (e ▸ hq))
                  have hdd5 := dead_wal hw6
                  rw [l3] at hdd5
                  have HRn : Hid (LiveR w0 w (w5.setCell ⟨bb, 1, none⟩ (.int .i64 U)) X lb db bb fb rs o p N (k + 1) B U U sy als all al x c vs) := ⟨L', D', F5, hw6, hm6, l4⟩
                  have Hd5 := Lib.hid hdd5
                  clear l3 l4 hm6 hw6 hdd5 H5
                  go_wp2_with fail
                  refine Hd5.out.mono ?_
                  rintro e w9 ⟨rfl, rfl⟩
                  dsimp only
                  clear hmx
                  go_wp2_with fail
                  exact ⟨⟨k + 1, _, _, _, _, _, _, _, _, _, by omega, by go_num, rfl, HRn⟩, by simp [intOf]; omega⟩
            · have q1 : (kd : Int) % 4 = 3 := by omega
              have q2 : (kd : Int).tmod 4 = 3 := by rw [Int.tmod_eq_emod_of_nonneg (by omega)]; omega
              clear h4
              go_wp2_with (first | ((with_reducible apply wpl_load_mid xb (xo + k * 3) [.int .u8 kd, .slice u.ba u.batch.length u.bc, .int .i64 u.n]); exact rfl; exact hro'; exact Try.underlying55; exact rfl; exact sizeWop3; try (simp only [Act.put, List.setIfInBounds_toArray, List.set_cons_zero, List.set_cons_succ])) | ((with_reducible apply wpl_store_new); exact rfl; exact rfl; exact sizeWop3; exact rfl; exact rfl; try (simp only [Act.put, List.setIfInBounds_toArray, List.set_cons_zero, List.set_cons_succ])))
              try rw [Hob.out.2.2.2.2]
              generalize wr.alloc (.cells #[.int .u8 kd, .slice u.ba u.batch.length u.bc, .int .i64 u.n] 55) = w4 at *
              have HRn : Hid (LiveR w0 w w4 X lb db bb fb rs o p N (k + 1) B fi th sy als all al x c vs) := ⟨L, D, F, HR4.out.1, HR4.out.2.1, HR4.out.2.2.more⟩
              clear HR4 hro'
              exact ⟨⟨k + 1, _, _, _, _, _, _, _, _, _, by omega, by go_num, rfl, HRn⟩, by simp [intOf]; omega⟩
        · have e2 : decide ((k : Int) < 60) = false := by simp; omega
          have hb2 := HR.out.2.1.lif.cell 2
          simp only [lifeV, List.getElem?_cons_zero, List.getElem?_cons_succ] at hb2
          rw [Hm.out.2.1] at hb2
          go_wp2_with fail
          obtain ⟨G, hG, hGF⟩ := HR.out.1.disk
          have hU0 : Upd (fun _ => False) w0 wr := H.out.1.then HR.out.2.1.upd (fun q hq => .inr (HR.out.2.1.base.2 q hq))
          have hcr := crash_disk hG (by have h1 := HR.out.2.2.waits; omega) o.ka o.kc o.keep (H.out.2.2.2.2.2.2.2.2.2.keep.upd hU0 (fun _ _ _ h => h)) (fun y hy h0 hf => by have h1 := H.out.2.2.2.2.2.2.2.2.2.klt y hy h0; have h2 := HR.out.2.1.hiF _ (hGF _ hf); omega)
          rw [Hm.out.2.1] at hcr
          refine hcr.mono ?_
          rintro e w9 ⟨rfl, hD9, hu9⟩
          dsimp only
          have HE : Hid (∃ G : Nat → Prop, DiskAt w9 db (D.crash o.keep) G ∧ Upd G wr w9 ∧ ∀ q, G q → F q) := ⟨G, hD9, hu9, hGF⟩
          obtain ⟨G, HE⟩ := HE.out
          have HE := Lib.hid HE
          clear hG hGF hU0 hcr hD9 hu9 hb2
          go_wp2_with fail
          have HE2 : Hid (DiskAt w9.drew db (D.crash o.keep) G ∧ Upd G wr w9.drew ∧ ∀ q, G q → F q) := ⟨HE.out.1.upd ((Upd.refl _ _).drew) (fun _ _ h => h), HE.out.2.1.drew, HE.out.2.2⟩
          clear HE
          have HS : w9.drew.rangeAt bb 0 (bndV fi th sy als) := by
            have h1 := HR.out.2.1.bnd.upd HE2.out.2.1 (fun e => HR.out.2.1.awayF.1 (HE2.out.2.2 _ e))
            exact CellsAt.range h1
          have hth : w9.drew.there rs 0 (bndV fi th sy als).length := by
            have h1 := HR.out.2.1.res.upd HE2.out.2.1 (fun e => HR.out.2.1.awayF.2.2 (HE2.out.2.2 _ e))
            exact there_of_row h1 (Nat.le_refl _)
          refine wp_region_planD (fun u => u.rangeAt bb 0 (bndV fi th sy als)) 5 [(0, true), (1, true), (2, true), (3, false), (4, true)] (by kernel_rfl) (by kernel_rfl) (fun d _ _ _ _ h => by cases d <;> exact h) HS ?_
          iterate 1 (first | (apply planD_held rfl rfl rfl (by simp) HS; (intro w' hS K hK; go_simp; exact hK)) | (apply planD_wanted rfl rfl rfl (by simp) HS; (intro w' hS K hK; go_simp; exact hK)))
          apply planD_held rfl rfl rfl (by simp) HS
          · intro w' hS K hK
            exact gives_load_mid bb 0 rfl (bndV fi th sy als) _ hS Try.underlying64 rfl sizeBnd hK
          try (simp only [Act.put, List.setIfInBounds_toArray, List.set_cons_zero, List.set_cons_succ])
          iterate 1 (first | (apply planD_held rfl rfl rfl (by simp) HS; (intro w' hS K hK; go_simp; exact hK)) | (apply planD_wanted rfl rfl rfl (by simp) HS; (intro w' hS K hK; go_simp; exact hK)))
          refine planD_op rfl rfl (fun K hK => ?_)
          refine wp_store_mid' rs 0 (bndV fi th sy als) rfl rfl hth sizeBnd (bndV_one fi th sy als) ?_
          have HPOST := Lib.hid (live_exit HR.out.2.1 HR.out.2.2 HR.out.1 (by omega) H.out.2.2.2.1.2.2.2.2.2.2.2.2 HE2.out.1 HE2.out.2.1 HE2.out.2.2)
          clear HR HE2
          generalize w9.drew.setCells rs 0 (bndV fi th sy als) = w10 at *
          have HS10 : w10.rangeAt bb 0 (bndV fi th sy als) := HPOST.out.2.2
          refine hK _ _ _ (fun u h => h) (fun _ => HS10) ?_
          clear hK HS hth
          try (simp only [Act.put, List.setIfInBounds_toArray, List.set_cons_zero, List.set_cons_succ])
          iterate 1 (first | (apply planD_held rfl rfl rfl (by simp) HS10; (intro w' hS K hK; go_simp; exact hK)) | (apply planD_wanted rfl rfl rfl (by simp) HS10; (intro w' hS K hK; go_simp; exact hK)))
          refine planD_nil ?_
          clear HS10
          go_wp2_with fail
          try simp only [Exit.inBlock, Exit.then]
          refine bodyPost_ret (results_tct rfl _ _ rs _ _ _ _ rfl HPOST.out.2.1 Try.underlying64 rfl sizeBnd) rfl ?_
          exact ⟨al, x, c, fi, th, sy, als, rfl, HPOST.out.1⟩
      · have e1 : decide ((k : Int) < (m : Int)) = false := by simp; omega
        have hb2 := HR.out.2.1.lif.cell 2
        simp only [lifeV, List.getElem?_cons_zero, List.getElem?_cons_succ] at hb2
        rw [Hm.out.2.1] at hb2
        go_wp2_with fail
        obtain ⟨G, hG, hGF⟩ := HR.out.1.disk
        have hU0 : Upd (fun _ => False) w0 wr := H.out.1.then HR.out.2.1.upd (fun q hq => .inr (HR.out.2.1.base.2 q hq))
        have hcr := crash_disk hG (by have h1 := HR.out.2.2.waits; omega) o.ka o.kc o.keep (H.out.2.2.2.2.2.2.2.2.2.keep.upd hU0 (fun _ _ _ h => h)) (fun y hy h0 hf => by have h1 := H.out.2.2.2.2.2.2.2.2.2.klt y hy h0; have h2 := HR.out.2.1.hiF _ (hGF _ hf); omega)
        rw [Hm.out.2.1] at hcr
        refine hcr.mono ?_
        rintro e w9 ⟨rfl, hD9, hu9⟩
        dsimp only
        have HE : Hid (∃ G : Nat → Prop, DiskAt w9 db (D.crash o.keep) G ∧ Upd G wr w9 ∧ ∀ q, G q → F q) := ⟨G, hD9, hu9, hGF⟩
        obtain ⟨G, HE⟩ := HE.out
        have HE := Lib.hid HE
        clear hG hGF hU0 hcr hD9 hu9 hb2
        go_wp2_with fail
        have HE2 : Hid (DiskAt w9.drew db (D.crash o.keep) G ∧ Upd G wr w9.drew ∧ ∀ q, G q → F q) := ⟨HE.out.1.upd ((Upd.refl _ _).drew) (fun _ _ h => h), HE.out.2.1.drew, HE.out.2.2⟩
        clear HE
        have HS : w9.drew.rangeAt bb 0 (bndV fi th sy als) := by
          have h1 := HR.out.2.1.bnd.upd HE2.out.2.1 (fun e => HR.out.2.1.awayF.1 (HE2.out.2.2 _ e))
          exact CellsAt.range h1
        have hth : w9.drew.there rs 0 (bndV fi th sy als).length := by
          have h1 := HR.out.2.1.res.upd HE2.out.2.1 (fun e => HR.out.2.1.awayF.2.2 (HE2.out.2.2 _ e))
          exact there_of_row h1 (Nat.le_refl _)
        refine wp_region_planD (fun u => u.rangeAt bb 0 (bndV fi th sy als)) 5 [(0, true), (1, true), (2, true), (3, false), (4, true)] (by kernel_rfl) (by kernel_rfl) (fun d _ _ _ _ h => by cases d <;> exact h) HS ?_
        iterate 1 (first | (apply planD_held rfl rfl rfl (by simp) HS; (intro w' hS K hK; go_simp; exact hK)) | (apply planD_wanted rfl rfl rfl (by simp) HS; (intro w' hS K hK; go_simp; exact hK)))
        apply planD_held rfl rfl rfl (by simp) HS
        · intro w' hS K hK
          exact gives_load_mid bb 0 rfl (bndV fi th sy als) _ hS Try.underlying64 rfl sizeBnd hK
        try (simp only [Act.put, List.setIfInBounds_toArray, List.set_cons_zero, List.set_cons_succ])
        iterate 1 (first | (apply planD_held rfl rfl rfl (by simp) HS; (intro w' hS K hK; go_simp; exact hK)) | (apply planD_wanted rfl rfl rfl (by simp) HS; (intro w' hS K hK; go_simp; exact hK)))
        refine planD_op rfl rfl (fun K hK => ?_)
        refine wp_store_mid' rs 0 (bndV fi th sy als) rfl rfl hth sizeBnd (bndV_one fi th sy als) ?_
        have HPOST := Lib.hid (live_exit HR.out.2.1 HR.out.2.2 HR.out.1 (by omega) H.out.2.2.2.1.2.2.2.2.2.2.2.2 HE2.out.1 HE2.out.2.1 HE2.out.2.2)
        clear HR HE2
        generalize w9.drew.setCells rs 0 (bndV fi th sy als) = w10 at *
        have HS10 : w10.rangeAt bb 0 (bndV fi th sy als) := HPOST.out.2.2
        refine hK _ _ _ (fun u h => h) (fun _ => HS10) ?_
        clear hK HS hth
        try (simp only [Act.put, List.setIfInBounds_toArray, List.set_cons_zero, List.set_cons_succ])
        iterate 1 (first | (apply planD_held rfl rfl rfl (by simp) HS10; (intro w' hS K hK; go_simp; exact hK)) | (apply planD_wanted rfl rfl rfl (by simp) HS10; (intro w' hS K hK; go_simp; exact hK)))
        refine planD_nil ?_
        clear HS10
        go_wp2_with fail
        try simp only [Exit.inBlock, Exit.then]
        refine bodyPost_ret (results_tct rfl _ _ rs _ _ _ _ rfl HPOST.out.2.1 Try.underlying64 rfl sizeBnd) rfl ?_
        exact ⟨al, x, c, fi, th, sy, als, rfl, HPOST.out.1⟩
end Go.Proofs.Ytocameknhglklaa
