/- docketlaw03.WalCrash: its walk. -/
import Derived.Test.YtocameknhglklaaCrash1
namespace Go.Proofs.Ytocameknhglklaa
open Go Go.RowKit
set_option linter.unusedSimpArgs false
set_option linter.unusedVariables false
set_option maxRecDepth 100000

/-- The facts of a life in a list. -/
theorem life_at {xa : Option Addr} {xc : Nat} {l : List LifeR} {w : World} (hl : Sees w 3 (.slice xa l.length xc) l.length (l.flatMap lifeV)) (k : Nat) (hk : k < l.length) :
    ∃ xb xo, xa = some ⟨xb, xo, none⟩ ∧ w.rangeAt xb (xo + k * 3) (lifeV l[k]) := by
  obtain ⟨_, _, x', c', e', hc⟩ := hl
  cases e'
  obtain ⟨xb, xo, rfl, hr⟩ := hc (by omega)
  refine ⟨xb, xo, rfl, rangeAt.sub hr (k * 3) ?_⟩
  rw [lifeV_length]
  exact flat_piece lifeV 3 l k hk (fun o _ => lifeV_length o)
theorem sizeLife : (Try.prog.info? 66).map (·.size) = some 3 := by kernel_rfl
theorem LifeR.Ok.upd {w w' : World} {o : LifeR} (h : o.Ok w) (hu : Upd (fun _ => False) w w') : o.Ok w' :=
  ⟨⟨h.script.1.upd hu (fun _ _ _ h => h), fun u hm => ⟨(h.script.2.1 u hm).kind, (h.script.2.1 u hm).lo, (h.script.2.1 u hm).hi, (h.script.2.1 u hm).batch.upd hu (fun _ _ _ h => h), fun y hy h0 => Nat.lt_of_lt_of_le ((h.script.2.1 u hm).lt y hy h0) hu.size, (h.script.2.1 u hm).sizes⟩, fun y hy h0 => Nat.lt_of_lt_of_le (h.script.2.2 y hy h0) hu.size⟩,
    h.fuel, h.keep.upd hu (fun _ _ _ h => h), fun y hy h0 => Nat.lt_of_lt_of_le (h.klt y hy h0) hu.size⟩
/-- Between two lives. -/
def CrashR (w wr : World) (lb db wb N k : Nat) (bv : List Value) (fi sy : Nat) (all : List Batch) (al : Nat) (x : Option Addr) (c : Nat) (vs : List Value) : Prop :=
  ∃ (L : LSt) (D : DSt) (F : Nat → Prop), WalAt wr lb db L D F ∧ Inv L D fi all ∧ L.synced = sy ∧ L.fr = 1 ∧ L.n = N ∧ D.waits = [] ∧ al ≤ 60 * k ∧ CrashM w wr wb F bv all al x c vs
set_option maxHeartbeats 8000000 in
theorem walCrash_walk (n : Nat) (hn : n ≤ 255) (xa : Option Addr) (xc : Nat) (l : List LifeR) (w : World) (hW : LivesAt w xa xc l) :
    Calls Try.prog 9 #[.int .u8 n, .slice xa l.length xc] w fun e w' => e = .returned (.bool true) ∧ Below w.heap.size w w' := by
  obtain ⟨N, hN⟩ : ∃ N, ringN n = N := ⟨_, rfl⟩
  have hN2 : 2 ≤ N ∧ N ≤ 31 := by unfold ringN at hN; omega
  have hring := lring_ok n hn
  rw [hN] at hring
  obtain ⟨m, hmm⟩ : ∃ m, l.length = m := ⟨_, rfl⟩
  have hm := hW.1.2.1
  rw [hmm] at hm
  have hmI : (m : Int) ≤ 9223372036854775807 := by simp only [maxLen] at hm; omega
  have H := Lib.hid (And.intro hW (And.intro hmm hN2))
  have Hring := Lib.hid hring
  have hNb : (N : Int) ≤ 31 := by omega
  have hNb2 : (2 : Int) ≤ (N : Int) := by omega
  have hnb : (n : Int) ≤ 255 := by omega
  rw [hmm]
  clear hW hmm hN2 hm hring hN hn
  go_enter Try.func9, Try.ntmps9
  go_wp2_with fail
  refine (wal_fixed _).mono ?_
  rintro e w1 ⟨rfl, hu1⟩
  dsimp only
  have HU1 := Lib.hid hu1
  clear hu1
  by_cases hbig : 12 < m
  · have q0 : decide ((m : Int) > 12) = true := by simp; omega
    go_wp2_with fail
    refine (wal_fixed _).mono ?_
    rintro e w2 ⟨rfl, hu2⟩
    dsimp only
    have HU2 := Lib.hid (HU1.out.trans hu2)
    clear hu2
    go_wp2_with fail
    go_ret
    exact ⟨rfl, HU2.out.below0⟩
  have q0 : decide ((m : Int) > 12) = false := by simp; omega
  have hms : m ≤ 12 := by omega
  clear hbig
  go_wp2_with fail
  refine (Hring.out _).mono ?_
  rintro e w2 ⟨rfl, rfl⟩
  dsimp only
  obtain ⟨sz, hsz⟩ : ∃ sz : Nat, N + 1 = sz := ⟨_, rfl⟩
  have hszI : (N : Int) + 1 = (sz : Int) := by omega
  go_wp2_with fail
  try rw [hszI]
  refine (new_disk (sz : Int) w1).mono ?_
  rintro e w2 ⟨db, F, rfl, hD, hu, hF⟩
  dsimp only
  have H2 := Lib.hid (And.intro hD (And.intro hu hF))
  have hnl := new_len sz (by omega) (by omega) (sz : Int) rfl
  have Hnl := Lib.hid (And.intro hnl hsz)
  clear hD hu hF hnl hsz hszI
  go_wp2_with fail
  refine (Hring.out _).mono ?_
  rintro e w3 ⟨rfl, rfl⟩
  dsimp only
  go_wp2_with fail
  refine (make_live H2.out.1 1 N H.out.2.2.1 (by rw [Hnl.out.1, ← Hnl.out.2]; omega) (by show 0 < 99999999990; decide) rfl rfl 1 (N : Int) rfl rfl).mono ?_
  rintro e w3 ⟨lb, F3, rfl, hH, hu, hF, hwt, hsl⟩
  dsimp only
  have HM := Lib.hid (And.intro hH (And.intro hwt (And.intro ((HU1.out.trans H2.out.2.1).then hu (fun k hk => .inr (by have := H2.out.2.2 k hk; have := HU1.out.size; omega))) (show ∀ k, F3 k → w.heap.size ≤ k from fun k hk => by
    have hz1 := HU1.out.size
    have hz2 := H2.out.2.1.size
    rcases hF k hk with h | h
    · have := H2.out.2.2 k h; omega
    · omega))))
  clear hH hu hF hwt hsl H2 Hnl
  go_wp2_with fail
  have hP0 : ∃ wb : Nat, wb = w3.heap.size ∧ CrashR w (w3.alloc (.cells #[.int .i64 0, .int .i64 0, .int .i64 0, .int .i64 0] 64)) lb db wb N 0 (bndV 0 0 0 0) 0 0 [] 0 none 0 [] := by
    have hal : Upd (fun _ => False) w3 (w3.alloc (.cells #[.int .i64 0, .int .i64 0, .int .i64 0, .int .i64 0] 64)) := (Upd.refl _ w3).alloc _
    have hz := HM.out.2.2.1.size
    have hH := HM.out.1.upd hal (fun _ _ h => h)
    refine ⟨_, rfl, _, _, F3, hH.wal, hH.inv, rfl, rfl, rfl, HM.out.2.1, Nat.zero_le _, ⟨rfl, Mid.nil _ _, Whole.nil _ _, RowsAt.nil _ _, HM.out.2.2.1.trans hal, HM.out.2.2.2, (fun q hq => by cases hq), CellsAt.new w3 _ (bndV 0 0 0 0), (fun hf => Nat.lt_irrefl _ (HM.out.1.wal.lt _ hf)), (fun q hq => by cases hq), hz, fun q hq => Nat.lt_of_lt_of_le (HM.out.1.wal.lt q hq) hal.size⟩⟩
  obtain ⟨wb, hwb, hP⟩ := hP0
  have HP0 := Lib.hid hP
  try rw [← hwb]
  clear HM hwb hP
  go_loopw [6, 8, 10] (fun t v i wr => ∃ (k lb fi sy : Nat) (bv : List Value) (all : List Batch) (al : Nat) (x : Option Addr) (c : Nat) (vs : List Value), k ≤ m ∧ i = .int .i64 k ∧ t = .pointer (some ⟨lb, 0, none⟩) ∧ v = .slice x al c ∧ (∃ b1 b3 : Nat, bv = [.int .i64 fi, .int .i64 b1, .int .i64 sy, .int .i64 b3]) ∧ Hid (CrashR w wr lb db wb N k bv fi sy all al x c vs)) (fun _ _ i _ => m - (intOf i).toNat)
  case atStart => exact ⟨0, lb, 0, 0, _, _, _, _, _, _, Nat.zero_le _, rfl, rfl, rfl, ⟨0, 0, rfl⟩, HP0⟩
  case round =>
    clear HP0
    obtain ⟨k, lb1, fi, sy, bv, all, al, x, c, vs, hk, rfl, rfl, rfl, ⟨b1, b3, rfl⟩, HR⟩ := hrel
    by_cases hlt : k < m
    · obtain ⟨L, D, F, HR⟩ := HR.out
      have HR := Lib.hid HR
      have hkm : (k : Int) < (m : Int) := by omega
      obtain ⟨o, ho⟩ : ∃ o, l[k]'(by rw [H.out.2.1]; exact hlt) = o := ⟨_, rfl⟩
      have hol : o ∈ l := ho ▸ List.getElem_mem _
      obtain ⟨xb, xo, rfl, hr⟩ := life_at H.out.1.1 k (by rw [H.out.2.1]; exact hlt)
      rw [ho] at hr
      have hok := H.out.1.2.1 o hol
      have Ho := Lib.hid hok
      have hU := HR.out.2.2.2.2.2.2.2.upd
      obtain ⟨sl, hsl⟩ : ∃ sl, o.script.length = sl := ⟨_, rfl⟩
      obtain ⟨kl, hkl⟩ : ∃ kl, o.keep.length = kl := ⟨_, rfl⟩
      have hro : w.rangeAt xb (xo + k * 3) [.slice o.sa sl o.sc, .int .u8 o.fuel, .slice o.ka kl o.kc] := by
        have := hr
        rw [lifeV, hsl, hkl] at this
        exact this
      have hcl := hU.cell_some (rangeAt.cell hro 0 rfl) (fun h => h)
      rw [Nat.add_zero] at hcl
      have hxb : xb < w.heap.size := World.block_lt_of_cell? _ _ (rangeAt.cell hro 0 rfl)
      have hheavy := heavy_ok o.sa o.sc o.script wr (hok.upd hU).script
      rw [hsl] at hheavy
      have Hh := Lib.hid (And.intro hheavy (And.intro hro (And.intro hxb (And.intro hsl hkl))))
      clear hr hok hol ho hU hro hheavy hxb hsl hkl
      go_wp2_with fail
      refine Hh.out.1.mono ?_
      rintro e w4 ⟨hv, rfl, rfl⟩
      dsimp only
      cases hv with
      | true =>
        have HB := Lib.hid HR.out.2.2.2.2.2.2.2.upd.below0
        clear hcl HR
        go_wp2_with fail
        go_ret
        exact ⟨rfl, HB.out⟩
      | false =>
      have cb0 := HR.out.2.2.2.2.2.2.2.bnd.cell 0
      have cb1 := HR.out.2.2.2.2.2.2.2.bnd.cell 1
      have cb2 := HR.out.2.2.2.2.2.2.2.bnd.cell 2
      have cb3 := HR.out.2.2.2.2.2.2.2.bnd.cell 3
      have fz1 := HR.out.2.2.2.2.2.2.2.bnd.frozen 1
      have fz3 := HR.out.2.2.2.2.2.2.2.bnd.frozen 3
      simp only [List.getElem?_cons_zero, List.getElem?_cons_succ] at cb0 cb1 cb2 cb3
      have hlow := HR.out.2.1.low
      have hhigh := HR.out.2.1.high
      have hlen := HR.out.2.2.2.2.2.2.2.len
      have hcnt := HR.out.2.2.2.2.2.2.1
      have hsyn := HR.out.2.2.1
      have bfi : (fi : Int) ≤ 10000 := by omega
      have bsy : (sy : Int) ≤ 10000 := by omega
      clear hlow hhigh hlen hsyn hcnt
      go_wp2_with fail
      have hM5 : Hid (CrashM w ((wr.setCell ⟨wb, 1, none⟩ (.int .i64 fi)).setCell ⟨wb, 3, none⟩ (.int .i64 sy)) wb F (bndV fi fi sy sy) all al x c vs ∧ WalAt ((wr.setCell ⟨wb, 1, none⟩ (.int .i64 fi)).setCell ⟨wb, 3, none⟩ (.int .i64 sy)) lb1 db L D F) := by
        have hu1 : Upd (fun q => q = wb) wr (wr.setCell ⟨wb, 1, none⟩ (.int .i64 fi)) := (Upd.refl _ _).setCell _ (.inl rfl)
        have hu2 : Upd (fun q => q = wb) wr ((wr.setCell ⟨wb, 1, none⟩ (.int .i64 fi)).setCell ⟨wb, 3, none⟩ (.int .i64 sy)) := hu1.setCell _ (.inl rfl)
        exact ⟨(HR.out.2.2.2.2.2.2.2.setb 1 (.int .i64 fi)).setb 3 (.int .i64 sy), HR.out.1.upd hu2 (fun q hq e => HR.out.2.2.2.2.2.2.2.awayF (e ▸ hq))⟩
      have HRR : Hid (Inv L D fi all ∧ L.synced = sy ∧ L.fr = 1 ∧ L.n = N ∧ D.waits = [] ∧ al ≤ 60 * k) := ⟨HR.out.2.1, HR.out.2.2.1, HR.out.2.2.2.1, HR.out.2.2.2.2.1, HR.out.2.2.2.2.2.1, HR.out.2.2.2.2.2.2.1⟩
      clear HR cb0 cb1 cb2 cb3 fz1 fz3 hcl
      generalize (wr.setCell ⟨wb, 1, none⟩ (.int .i64 fi)).setCell ⟨wb, 3, none⟩ (.int .i64 sy) = w6 at *
      have hM6 : Hid (CrashM w w6.drew wb F (bndV fi fi sy sy) all al x c vs ∧ WalAt w6.drew lb1 db L D F) := ⟨hM5.out.1.step ((Upd.refl _ _).drew), hM5.out.2.upd ((Upd.refl (fun _ => False) _).drew) (fun _ _ h => h)⟩
      clear hM5
      have HS : w6.drew.rangeAt xb (xo + k * 3) [.slice o.sa sl o.sc, .int .u8 o.fuel, .slice o.ka kl o.kc] := hM6.out.1.upd.range Hh.out.2.1 (fun h => h)
      refine wp_region_planD (fun u => u.rangeAt xb (xo + k * 3) [.slice o.sa sl o.sc, .int .u8 o.fuel, .slice o.ka kl o.kc]) 16 [(0, true), (1, true), (2, true), (3, true), (4, true), (5, true), (6, true), (7, false), (8, false), (9, true), (10, true), (11, true), (12, true), (13, true), (14, false), (15, true)] (by kernel_rfl) (by kernel_rfl) (fun d _ _ _ _ h => by cases d <;> exact h) HS ?_
      iterate 5 (first | (apply planD_held rfl rfl rfl (by simp) HS; (intro w' hS K hK; go_simp; exact hK)) | (apply planD_wanted rfl rfl rfl (by simp) HS; (intro w' hS K hK; go_simp; exact hK)))
      apply planD_held rfl rfl rfl (by simp) HS
      · intro w' hS K hK
        exact gives_load_mid xb (xo + k * 3) rfl [.slice o.sa sl o.sc, .int .u8 o.fuel, .slice o.ka kl o.kc] _ hS Try.underlying66 rfl sizeLife hK
      try (simp only [Act.put, List.setIfInBounds_toArray, List.set_cons_zero, List.set_cons_succ])
      iterate 1 (first | (apply planD_held rfl rfl rfl (by simp) HS; (intro w' hS K hK; go_simp; exact hK)) | (apply planD_wanted rfl rfl rfl (by simp) HS; (intro w' hS K hK; go_simp; exact hK)))
      refine planD_op rfl rfl (fun K hK => ?_)
      refine wp_load_mid _ _ rfl wb 0 rfl (bndV fi fi sy sy) _ hM6.out.1.bnd.range Try.underlying64 rfl sizeBnd ?_
      refine hK _ _ _ (fun u h => h) (fun _ => HS) ?_
      clear hK
      try (simp only [Act.put, List.setIfInBounds_toArray, List.set_cons_zero, List.set_cons_succ])
      refine planD_op rfl rfl (fun K hK => ?_)
      go_simp
      have hlive := live_ok (B := 60 * k) (o := o) hM6.out.1.upd hM6.out.2 HRR.out.1 HRR.out.2.1 HRR.out.2.2.1 HRR.out.2.2.2.1 HRR.out.2.2.2.2.1 hM6.out.1.len HRR.out.2.2.2.2.2 (by omega) (by have := H.out.2.2; omega) (by have := H.out.2.2; omega) hM6.out.1.mid hM6.out.1.whole hM6.out.1.rows hM6.out.1.newF hM6.out.1.newO Ho.out
      rw [Hh.out.2.2.2.1, Hh.out.2.2.2.2] at hlive
      refine hlive.mono ?_
      rintro e w8 ⟨al', x', c', fi', th', sy', als', rfl, hp⟩
      dsimp only
      have HLv := Lib.hid (hM6.out.1.live hp)
      obtain ⟨D, G, all', vs', T, s, st, HL⟩ := HLv.out
      have HL := Lib.hid HL
      have HS8 : w8.rangeAt xb (xo + k * 3) [.slice o.sa sl o.sc, .int .u8 o.fuel, .slice o.ka kl o.kc] := HL.out.1.upd.range Hh.out.2.1 (fun h => h)
      refine hK _ _ _ (fun u h => h) (fun _ => HS8) ?_
      clear hK hlive hp HS HLv hM6 HRR
      try (simp only [Act.put, List.setIfInBounds_toArray, List.set_cons_zero, List.set_cons_succ])
      iterate 5 (first | (apply planD_held rfl rfl rfl (by simp) HS8; (intro w' hS K hK; go_simp; exact hK)) | (apply planD_wanted rfl rfl rfl (by simp) HS8; (intro w' hS K hK; go_simp; exact hK)))
      refine planD_op rfl rfl (fun K hK => ?_)
      refine wp_store_mid' wb 0 (bndV fi' th' sy' als') rfl rfl (there_of_row HL.out.1.bnd (Nat.le_refl _)) sizeBnd (bndV_one fi' th' sy' als') ?_
      have HL9 : Hid (CrashM w (w8.setCells wb 0 (bndV fi' th' sy' als')) wb G (bndV fi' th' sy' als') all' al' x' c' vs' ∧ DiskAt (w8.setCells wb 0 (bndV fi' th' sy' als')) db D G ∧ D.waits = [] ∧ (D.dead = false ∧ D.fuel = -1) ∧ ((T = fi' ∨ T = th') ∧ (s = sy' ∨ s = als')) ∧ T ≤ s ∧ s ≤ al' ∧ Good D.secs 1 N st (T + 1) s (seg all' T s) ∧ al' ≤ 60 * k + 60 ∧ (fi' ≤ al' ∧ th' ≤ al' ∧ sy' ≤ al' ∧ als' ≤ al')) := by
        obtain ⟨h1, h2, h3, h4, h5, h6, h7, h8, h9, h10, h11, h12, h13⟩ := HL.out
        exact ⟨h1.setbs fi' th' sy' als', h2.upd (upd_setCells wb _ 0 (Upd.refl (fun q => q = wb) _) (.inl rfl)) (fun q hq e => h1.awayF (e ▸ hq)), h3, ⟨h4, h5⟩, ⟨h6, h7⟩, h8, h9, h10, h11, h12⟩
      clear HL
      generalize w8.setCells wb 0 (bndV fi' th' sy' als') = w9 at *
      have HL := HL9
      clear HL9
      have HS9 : w9.rangeAt xb (xo + k * 3) [.slice o.sa sl o.sc, .int .u8 o.fuel, .slice o.ka kl o.kc] := HL.out.1.upd.range Hh.out.2.1 (fun h => h)
      refine hK _ _ _ (fun u h => h) (fun _ => HS9) ?_
      clear hK HS8
      try (simp only [Act.put, List.setIfInBounds_toArray, List.set_cons_zero, List.set_cons_succ])
      iterate 1 (first | (apply planD_held rfl rfl rfl (by simp) HS9; (intro w' hS K hK; go_simp; exact hK)) | (apply planD_wanted rfl rfl rfl (by simp) HS9; (intro w' hS K hK; go_simp; exact hK)))
      refine planD_nil ?_
      clear HS9
      go_wp2_with fail
      refine (Hring.out _).mono ?_
      rintro e w10 ⟨rfl, rfl⟩
      dsimp only
      go_wp2_with fail
      refine (open_live HL.out.2.1 1 N T s st all' (by rw [HL.out.2.2.1]; decide) HL.out.2.2.2.1.1 HL.out.2.2.2.1.2 HL.out.2.2.2.2.2.1 (by rw [HL.out.1.len]; exact HL.out.2.2.2.2.2.2.1) HL.out.2.2.2.2.2.2.2.1 (fun p hp => by rw [HL.out.2.2.1] at hp; cases hp) 1 (N : Int) rfl rfl).mono ?_
      rintro e w10 ⟨lb2, x6, c6, rfl, F6, vs6, A6, hH6, hu6, hF6, hm6, hr6, -, -⟩
      dsimp only
      obtain ⟨L6, hL6⟩ : ∃ L6, LSt.opened 1 N st (T + 1) s (seg all' T s) = L6 := ⟨_, rfl⟩
      have hL6s : L6.fr = 1 ∧ L6.n = N ∧ L6.synced = s := by rw [← hL6]; exact ⟨rfl, rfl, rfl⟩
      rw [hL6] at hH6
      have hm10 := HL.out.1.log hu6 hF6 hH6.wal.lt
      have HO := Lib.hid (And.intro hH6 (And.intro hm10 (And.intro hu6 (And.intro hm6 (And.intro hr6 (And.intro trivial hL6s))))))
      have bT : (T : Int) ≤ 10000 := by have h1 := HL.out.2.2.2.2.2.1; have h2 := HL.out.2.2.2.2.2.2.1; have h3 := HL.out.2.2.2.2.2.2.2.2.1; omega
      have bs : (s : Int) ≤ 10000 := by have h2 := HL.out.2.2.2.2.2.2.1; have h3 := HL.out.2.2.2.2.2.2.2.2.1; omega
      have bal : al' ≤ 10000 := by have h3 := HL.out.2.2.2.2.2.2.2.2.1; omega
      have bcnt : s ≤ 60 * (k + 1) := by have h2 := HL.out.2.2.2.2.2.2.1; have h3 := HL.out.2.2.2.2.2.2.2.2.1; omega
      have bfi : (fi' : Int) ≤ 10000 := by have h1 := HL.out.2.2.2.2.2.2.2.2.2; omega
      have bth : (th' : Int) ≤ 10000 := by have h1 := HL.out.2.2.2.2.2.2.2.2.2; omega
      have cb0 := hm10.bnd.cell 0
      have cb1 := hm10.bnd.cell 1
      have cb2 := hm10.bnd.cell 2
      have cb3 := hm10.bnd.cell 3
      simp only [bndV, List.getElem?_cons_zero, List.getElem?_cons_succ] at cb0 cb1 cb2 cb3
      clear hH6 hu6 hF6 hm6 hr6 hL6 hL6s hm10
      go_wp2_with fail
      have hfirst := hist_first HO.out.1
      rw [show ((T + 1 : Nat) : Int) = (T : Int) + 1 by omega] at hfirst
      refine hfirst.mono ?_
      clear hfirst
      rintro e w11 ⟨rfl, rfl⟩
      dsimp only
      go_wp2_with fail
      have hlast := hist_last HO.out.1
      rw [show (all'.take s).length = s by rw [List.length_take, HO.out.2.1.len]; have := HL.out.2.2.2.2.2.2.1; omega] at hlast
      refine hlast.mono ?_
      clear hlast
      rintro e w11 ⟨rfl, rfl⟩
      dsimp only
      have hTs := HL.out.2.2.2.2.1
      by_cases h1 : T = fi'
      · rw [← h1] at cb0
        by_cases h2 : s = sy'
        · rw [← h2] at cb2
          clear hTs h1 h2
          go_wp2_with fail
          have hsync := hist_synced HO.out.1
          rw [HO.out.2.2.2.2.2.2.2.2] at hsync
          refine hsync.mono ?_
          clear hsync
          rintro e w11 ⟨rfl, rfl⟩
          dsimp only
          go_wp2_with fail
          have hal : Upd (fun _ => False) w10 (w10.alloc (.cells #[.int .i64 0, .slice x' al' c', .int .i64 0, .int .i64 0] 46)) := (Upd.refl _ w10).alloc _
          have hcr := (CellsAt.new w10 46 [.int .i64 0, .slice x' al' c', .int .i64 0, .int .i64 0]).cell 1
          have hlen := HO.out.2.1.len
          have hsl := seg_length (all := all') (T := T) (s := s) (by rw [hlen]; exact HL.out.2.2.2.2.2.2.1)
          have htold := told_ok (w := w10.alloc (.cells #[.int .i64 0, .slice x' al' c', .int .i64 0, .int .i64 0] 46)) (rb := w10.heap.size) (xl := x') (cl := c') (all := all') (cg := c6) (xg := x6) (by rw [hlen]; exact hcr) (by rw [hlen]; exact (HO.out.2.1.mid.upd hal (fun _ _ h => h)).sees) (HO.out.2.1.rows.upd hal (fun _ _ h => h)) (by rw [hsl]; exact (HO.out.2.2.2.1.upd hal (fun _ _ h => h)).sees) (HO.out.2.2.2.2.1.upd hal (fun _ _ h => h)) (T + 1) s (by omega) (by rw [hsl]; have := HL.out.2.2.2.2.2.1; omega) (by rw [hlen]; exact HL.out.2.2.2.2.2.2.1) (by rw [hlen]; omega) (fun i h => by
            simp only [seg, List.getElem_drop, List.getElem_take]
            congr 1) ((T : Int) + 1) (s : Int) (by omega) rfl
          rw [hsl] at htold
          refine htold.mono ?_
          rintro e w12 ⟨rfl, hu12⟩
          dsimp only
          have hU12 : Upd (fun _ => False) w10 w12 := hal.trans hu12
          have HC := Lib.hid (HO.out.2.1.step hU12)
          have HW := Lib.hid (HO.out.1.upd hU12 (fun _ _ h => h))
          have hcut : ∀ u, (Instr.slice 39 (.slice x' al' c') none (some (.int .i64 s)) none).run Try.prog u = .ok (.slice x' s c') u := fun u => slice_cut _ _ Try.underlying39 (by kernel_rfl) HC.out.mid s HL.out.2.2.2.2.2.2.1 u
          have fz0 := HC.out.bnd.frozen 0
          have fz2 := HC.out.bnd.frozen 2
          obtain ⟨d0, hd0⟩ : ∃ v, w12.cell? ⟨wb, 0, none⟩ = some v := ⟨_, HC.out.bnd.cell 0⟩
          obtain ⟨d2, hd2⟩ : ∃ v, w12.cell? ⟨wb, 2, none⟩ = some v := ⟨_, HC.out.bnd.cell 2⟩
          have HRn : Hid (CrashR w ((w12.setCell ⟨wb, 0, none⟩ (.int .i64 T)).setCell ⟨wb, 2, none⟩ (.int .i64 s)) lb2 db wb N (k + 1) [.int .i64 T, .int .i64 th', .int .i64 s, .int .i64 als'] T s (all'.take s) s x' c' (vs'.take s)) := by
            have hu0 : Upd (fun q => q = wb) w12 (w12.setCell ⟨wb, 0, none⟩ (.int .i64 T)) := (Upd.refl _ _).setCell _ (.inl rfl)
            have hu1 : Upd (fun q => q = wb) w12 ((w12.setCell ⟨wb, 0, none⟩ (.int .i64 T)).setCell ⟨wb, 2, none⟩ (.int .i64 s)) := hu0.setCell _ (.inl rfl)
            refine ⟨L6, D, F6, (HW.out.upd hu1 (fun q hq e => HC.out.awayF (e ▸ hq))).wal, HW.out.inv, HO.out.2.2.2.2.2.2.2.2, HO.out.2.2.2.2.2.2.1, HO.out.2.2.2.2.2.2.2.1, HL.out.2.2.1, by omega, ?_⟩
            exact ((HC.out.setb 0 (.int .i64 T)).setb 2 (.int .i64 s)).cut s HL.out.2.2.2.2.2.2.1
          clear htold hsl hlen hcr hal hu12 hU12 HC HW HO HL cb0 cb1 cb2 cb3
          go_wp2_with fail
          exact ⟨⟨k + 1, lb2, T, s, _, _, _, _, _, _, by omega, by go_num, rfl, rfl, ⟨th', als', rfl⟩, HRn⟩, by simp [intOf]; omega⟩
        · have h3 : s = als' := hTs.2.resolve_left h2
          rw [← h3] at cb3
          have g2 : ((s : Int) != (sy' : Int)) = true := by rw [bne_iff_ne]; omega
          clear hTs h1 h2 h3
          go_wp2_with fail
          have hsync := hist_synced HO.out.1
          rw [HO.out.2.2.2.2.2.2.2.2] at hsync
          refine hsync.mono ?_
          clear hsync
          rintro e w11 ⟨rfl, rfl⟩
          dsimp only
          go_wp2_with fail
          have hal : Upd (fun _ => False) w10 (w10.alloc (.cells #[.int .i64 0, .slice x' al' c', .int .i64 0, .int .i64 0] 46)) := (Upd.refl _ w10).alloc _
          have hcr := (CellsAt.new w10 46 [.int .i64 0, .slice x' al' c', .int .i64 0, .int .i64 0]).cell 1
          have hlen := HO.out.2.1.len
          have hsl := seg_length (all := all') (T := T) (s := s) (by rw [hlen]; exact HL.out.2.2.2.2.2.2.1)
          have htold := told_ok (w := w10.alloc (.cells #[.int .i64 0, .slice x' al' c', .int .i64 0, .int .i64 0] 46)) (rb := w10.heap.size) (xl := x') (cl := c') (all := all') (cg := c6) (xg := x6) (by rw [hlen]; exact hcr) (by rw [hlen]; exact (HO.out.2.1.mid.upd hal (fun _ _ h => h)).sees) (HO.out.2.1.rows.upd hal (fun _ _ h => h)) (by rw [hsl]; exact (HO.out.2.2.2.1.upd hal (fun _ _ h => h)).sees) (HO.out.2.2.2.2.1.upd hal (fun _ _ h => h)) (T + 1) s (by omega) (by rw [hsl]; have := HL.out.2.2.2.2.2.1; omega) (by rw [hlen]; exact HL.out.2.2.2.2.2.2.1) (by rw [hlen]; omega) (fun i h => by
            simp only [seg, List.getElem_drop, List.getElem_take]
            congr 1) ((T : Int) + 1) (s : Int) (by omega) rfl
          rw [hsl] at htold
          refine htold.mono ?_
          rintro e w12 ⟨rfl, hu12⟩
          dsimp only
          have hU12 : Upd (fun _ => False) w10 w12 := hal.trans hu12
          have HC := Lib.hid (HO.out.2.1.step hU12)
          have HW := Lib.hid (HO.out.1.upd hU12 (fun _ _ h => h))
          have hcut : ∀ u, (Instr.slice 39 (.slice x' al' c') none (some (.int .i64 s)) none).run Try.prog u = .ok (.slice x' s c') u := fun u => slice_cut _ _ Try.underlying39 (by kernel_rfl) HC.out.mid s HL.out.2.2.2.2.2.2.1 u
          have fz0 := HC.out.bnd.frozen 0
          have fz2 := HC.out.bnd.frozen 2
          obtain ⟨d0, hd0⟩ : ∃ v, w12.cell? ⟨wb, 0, none⟩ = some v := ⟨_, HC.out.bnd.cell 0⟩
          obtain ⟨d2, hd2⟩ : ∃ v, w12.cell? ⟨wb, 2, none⟩ = some v := ⟨_, HC.out.bnd.cell 2⟩
          have HRn : Hid (CrashR w ((w12.setCell ⟨wb, 0, none⟩ (.int .i64 T)).setCell ⟨wb, 2, none⟩ (.int .i64 s)) lb2 db wb N (k + 1) [.int .i64 T, .int .i64 th', .int .i64 s, .int .i64 als'] T s (all'.take s) s x' c' (vs'.take s)) := by
            have hu0 : Upd (fun q => q = wb) w12 (w12.setCell ⟨wb, 0, none⟩ (.int .i64 T)) := (Upd.refl _ _).setCell _ (.inl rfl)
            have hu1 : Upd (fun q => q = wb) w12 ((w12.setCell ⟨wb, 0, none⟩ (.int .i64 T)).setCell ⟨wb, 2, none⟩ (.int .i64 s)) := hu0.setCell _ (.inl rfl)
            refine ⟨L6, D, F6, (HW.out.upd hu1 (fun q hq e => HC.out.awayF (e ▸ hq))).wal, HW.out.inv, HO.out.2.2.2.2.2.2.2.2, HO.out.2.2.2.2.2.2.1, HO.out.2.2.2.2.2.2.2.1, HL.out.2.2.1, by omega, ?_⟩
            exact ((HC.out.setb 0 (.int .i64 T)).setb 2 (.int .i64 s)).cut s HL.out.2.2.2.2.2.2.1
          clear htold hsl hlen hcr hal hu12 hU12 HC HW HO HL cb0 cb1 cb2 cb3
          go_wp2_with fail
          exact ⟨⟨k + 1, lb2, T, s, _, _, _, _, _, _, by omega, by go_num, rfl, rfl, ⟨th', als', rfl⟩, HRn⟩, by simp [intOf]; omega⟩
      · have h4 : T = th' := hTs.1.resolve_left h1
        rw [← h4] at cb1
        have g1 : ((T : Int) + 1 != (fi' : Int) + 1) = true := by rw [bne_iff_ne]; omega
        clear h4
        by_cases h2 : s = sy'
        · rw [← h2] at cb2
          clear hTs h1 h2
          go_wp2_with fail
          have hsync := hist_synced HO.out.1
          rw [HO.out.2.2.2.2.2.2.2.2] at hsync
          refine hsync.mono ?_
          clear hsync
          rintro e w11 ⟨rfl, rfl⟩
          dsimp only
          go_wp2_with fail
          have hal : Upd (fun _ => False) w10 (w10.alloc (.cells #[.int .i64 0, .slice x' al' c', .int .i64 0, .int .i64 0] 46)) := (Upd.refl _ w10).alloc _
          have hcr := (CellsAt.new w10 46 [.int .i64 0, .slice x' al' c', .int .i64 0, .int .i64 0]).cell 1
          have hlen := HO.out.2.1.len
          have hsl := seg_length (all := all') (T := T) (s := s) (by rw [hlen]; exact HL.out.2.2.2.2.2.2.1)
          have htold := told_ok (w := w10.alloc (.cells #[.int .i64 0, .slice x' al' c', .int .i64 0, .int .i64 0] 46)) (rb := w10.heap.size) (xl := x') (cl := c') (all := all') (cg := c6) (xg := x6) (by rw [hlen]; exact hcr) (by rw [hlen]; exact (HO.out.2.1.mid.upd hal (fun _ _ h => h)).sees) (HO.out.2.1.rows.upd hal (fun _ _ h => h)) (by rw [hsl]; exact (HO.out.2.2.2.1.upd hal (fun _ _ h => h)).sees) (HO.out.2.2.2.2.1.upd hal (fun _ _ h => h)) (T + 1) s (by omega) (by rw [hsl]; have := HL.out.2.2.2.2.2.1; omega) (by rw [hlen]; exact HL.out.2.2.2.2.2.2.1) (by rw [hlen]; omega) (fun i h => by
            simp only [seg, List.getElem_drop, List.getElem_take]
            congr 1) ((T : Int) + 1) (s : Int) (by omega) rfl
          rw [hsl] at htold
          refine htold.mono ?_
          rintro e w12 ⟨rfl, hu12⟩
          dsimp only
          have hU12 : Upd (fun _ => False) w10 w12 := hal.trans hu12
          have HC := Lib.hid (HO.out.2.1.step hU12)
          have HW := Lib.hid (HO.out.1.upd hU12 (fun _ _ h => h))
          have hcut : ∀ u, (Instr.slice 39 (.slice x' al' c') none (some (.int .i64 s)) none).run Try.prog u = .ok (.slice x' s c') u := fun u => slice_cut _ _ Try.underlying39 (by kernel_rfl) HC.out.mid s HL.out.2.2.2.2.2.2.1 u
          have fz0 := HC.out.bnd.frozen 0
          have fz2 := HC.out.bnd.frozen 2
          obtain ⟨d0, hd0⟩ : ∃ v, w12.cell? ⟨wb, 0, none⟩ = some v := ⟨_, HC.out.bnd.cell 0⟩
          obtain ⟨d2, hd2⟩ : ∃ v, w12.cell? ⟨wb, 2, none⟩ = some v := ⟨_, HC.out.bnd.cell 2⟩
          have HRn : Hid (CrashR w ((w12.setCell ⟨wb, 0, none⟩ (.int .i64 T)).setCell ⟨wb, 2, none⟩ (.int .i64 s)) lb2 db wb N (k + 1) [.int .i64 T, .int .i64 th', .int .i64 s, .int .i64 als'] T s (all'.take s) s x' c' (vs'.take s)) := by
            have hu0 : Upd (fun q => q = wb) w12 (w12.setCell ⟨wb, 0, none⟩ (.int .i64 T)) := (Upd.refl _ _).setCell _ (.inl rfl)
            have hu1 : Upd (fun q => q = wb) w12 ((w12.setCell ⟨wb, 0, none⟩ (.int .i64 T)).setCell ⟨wb, 2, none⟩ (.int .i64 s)) := hu0.setCell _ (.inl rfl)
            refine ⟨L6, D, F6, (HW.out.upd hu1 (fun q hq e => HC.out.awayF (e ▸ hq))).wal, HW.out.inv, HO.out.2.2.2.2.2.2.2.2, HO.out.2.2.2.2.2.2.1, HO.out.2.2.2.2.2.2.2.1, HL.out.2.2.1, by omega, ?_⟩
            exact ((HC.out.setb 0 (.int .i64 T)).setb 2 (.int .i64 s)).cut s HL.out.2.2.2.2.2.2.1
          clear htold hsl hlen hcr hal hu12 hU12 HC HW HO HL cb0 cb1 cb2 cb3
          go_wp2_with fail
          exact ⟨⟨k + 1, lb2, T, s, _, _, _, _, _, _, by omega, by go_num, rfl, rfl, ⟨th', als', rfl⟩, HRn⟩, by simp [intOf]; omega⟩
        · have h3 : s = als' := hTs.2.resolve_left h2
          rw [← h3] at cb3
          have g2 : ((s : Int) != (sy' : Int)) = true := by rw [bne_iff_ne]; omega
          clear hTs h1 h2 h3
          go_wp2_with fail
          have hsync := hist_synced HO.out.1
          rw [HO.out.2.2.2.2.2.2.2.2] at hsync
          refine hsync.mono ?_
          clear hsync
          rintro e w11 ⟨rfl, rfl⟩
          dsimp only
          go_wp2_with fail
          have hal : Upd (fun _ => False) w10 (w10.alloc (.cells #[.int .i64 0, .slice x' al' c', .int .i64 0, .int .i64 0] 46)) := (Upd.refl _ w10).alloc _
          have hcr := (CellsAt.new w10 46 [.int .i64 0, .slice x' al' c', .int .i64 0, .int .i64 0]).cell 1
          have hlen := HO.out.2.1.len
          have hsl := seg_length (all := all') (T := T) (s := s) (by rw [hlen]; exact HL.out.2.2.2.2.2.2.1)
          have htold := told_ok (w := w10.alloc (.cells #[.int .i64 0, .slice x' al' c', .int .i64 0, .int .i64 0] 46)) (rb := w10.heap.size) (xl := x') (cl := c') (all := all') (cg := c6) (xg := x6) (by rw [hlen]; exact hcr) (by rw [hlen]; exact (HO.out.2.1.mid.upd hal (fun _ _ h => h)).sees) (HO.out.2.1.rows.upd hal (fun _ _ h => h)) (by rw [hsl]; exact (HO.out.2.2.2.1.upd hal (fun _ _ h => h)).sees) (HO.out.2.2.2.2.1.upd hal (fun _ _ h => h)) (T + 1) s (by omega) (by rw [hsl]; have := HL.out.2.2.2.2.2.1; omega) (by rw [hlen]; exact HL.out.2.2.2.2.2.2.1) (by rw [hlen]; omega) (fun i h => by
            simp only [seg, List.getElem_drop, List.getElem_take]
            congr 1) ((T : Int) + 1) (s : Int) (by omega) rfl
          rw [hsl] at htold
          refine htold.mono ?_
          rintro e w12 ⟨rfl, hu12⟩
          dsimp only
          have hU12 : Upd (fun _ => False) w10 w12 := hal.trans hu12
          have HC := Lib.hid (HO.out.2.1.step hU12)
          have HW := Lib.hid (HO.out.1.upd hU12 (fun _ _ h => h))
          have hcut : ∀ u, (Instr.slice 39 (.slice x' al' c') none (some (.int .i64 s)) none).run Try.prog u = .ok (.slice x' s c') u := fun u => slice_cut _ _ Try.underlying39 (by kernel_rfl) HC.out.mid s HL.out.2.2.2.2.2.2.1 u
          have fz0 := HC.out.bnd.frozen 0
          have fz2 := HC.out.bnd.frozen 2
          obtain ⟨d0, hd0⟩ : ∃ v, w12.cell? ⟨wb, 0, none⟩ = some v := ⟨_, HC.out.bnd.cell 0⟩
          obtain ⟨d2, hd2⟩ : ∃ v, w12.cell? ⟨wb, 2, none⟩ = some v := ⟨_, HC.out.bnd.cell 2⟩
          have HRn : Hid (CrashR w ((w12.setCell ⟨wb, 0, none⟩ (.int .i64 T)).setCell ⟨wb, 2, none⟩ (.int .i64 s)) lb2 db wb N (k + 1) [.int .i64 T, .int .i64 th', .int .i64 s, .int .i64 als'] T s (all'.take s) s x' c' (vs'.take s)) := by
            have hu0 : Upd (fun q => q = wb) w12 (w12.setCell ⟨wb, 0, none⟩ (.int .i64 T)) := (Upd.refl _ _).setCell _ (.inl rfl)
            have hu1 : Upd (fun q => q = wb) w12 ((w12.setCell ⟨wb, 0, none⟩ (.int .i64 T)).setCell ⟨wb, 2, none⟩ (.int .i64 s)) := hu0.setCell _ (.inl rfl)
            refine ⟨L6, D, F6, (HW.out.upd hu1 (fun q hq e => HC.out.awayF (e ▸ hq))).wal, HW.out.inv, HO.out.2.2.2.2.2.2.2.2, HO.out.2.2.2.2.2.2.1, HO.out.2.2.2.2.2.2.2.1, HL.out.2.2.1, by omega, ?_⟩
            exact ((HC.out.setb 0 (.int .i64 T)).setb 2 (.int .i64 s)).cut s HL.out.2.2.2.2.2.2.1
          clear htold hsl hlen hcr hal hu12 hU12 HC HW HO HL cb0 cb1 cb2 cb3
          go_wp2_with fail
          exact ⟨⟨k + 1, lb2, T, s, _, _, _, _, _, _, by omega, by go_num, rfl, rfl, ⟨th', als', rfl⟩, HRn⟩, by simp [intOf]; omega⟩
    · obtain rfl : k = m := by omega
      obtain ⟨L, D, F, hR⟩ := HR.out
      have HB := Lib.hid hR.2.2.2.2.2.2.2.upd.below0
      clear hlt HR hR
      go_wp2_with fail
      go_ret
      exact ⟨rfl, HB.out⟩
end Go.Proofs.Ytocameknhglklaa
