/- docketlaw03.WalPlays: its walk. -/
import Derived.Test.YtocameknhglklaaPlay1
namespace Go.Proofs.Ytocameknhglklaa
open Go Go.RowKit
set_option linter.unusedSimpArgs false
set_option linter.unusedVariables false
set_option maxRecDepth 100000

theorem sizeWop : (Try.prog.info? 55).map (·.size) = some 3 := by kernel_rfl
set_option maxHeartbeats 8000000 in
theorem walPlays_walk (pf : Nat) (hpf : pf ≤ 255) (n : Nat) (hn : n ≤ 255) (xa : Option Addr) (xc : Nat) (l : List WOp) (hm : l.length ≤ 1048576) (w : World) (hW : WopsAt w xa xc l) (hby : ∀ o ∈ l, bytesOf o.batch ≤ 1000000000000000000) :
    Calls Try.prog 7 #[.int .u8 pf, .int .u8 n, .slice xa l.length xc] w fun e w' => e = .returned (.bool true) ∧ Below w.heap.size w w' := by
  obtain ⟨N, hN⟩ : ∃ N, ringN n = N := ⟨_, rfl⟩
  have hN2 : 2 ≤ N ∧ N ≤ 31 := by unfold ringN at hN; omega
  have hring := lring_ok n hn
  rw [hN] at hring
  obtain ⟨p, hp⟩ : ∃ p, pf % 9 = p := ⟨_, rfl⟩
  have hp8 : p ≤ 8 := by omega
  have htm : (pf : Int).tmod 9 = (p : Int) := by rw [Int.tmod_eq_emod_of_nonneg (by omega)]; omega
  have hem : (pf : Int) % 9 = (p : Int) := by omega
  obtain ⟨m, hmm⟩ : ∃ m, l.length = m := ⟨_, rfl⟩
  have hheavy := fun w' (hu : Upd (fun _ => False) w w') => heavy_ok xa xc l w' ⟨hW.1.upd hu (fun _ _ _ h => h), fun o ho => ⟨(hW.2.1 o ho).kind, (hW.2.1 o ho).lo, (hW.2.1 o ho).hi, (hW.2.1 o ho).batch.upd hu (fun _ _ _ h => h), fun y hy h0 => Nat.lt_of_lt_of_le ((hW.2.1 o ho).lt y hy h0) hu.size, (hW.2.1 o ho).sizes⟩, fun y hy h0 => Nat.lt_of_lt_of_le (hW.2.2 y hy h0) hu.size⟩
  rw [hmm] at hheavy
  have H := Lib.hid (And.intro hW (And.intro hby (And.intro hmm (And.intro hN2 (And.intro hp8 (And.intro hheavy hm))))))
  have Hring := Lib.hid hring
  have hmI : (m : Int) ≤ 1048576 := by omega
  have hNb : (N : Int) ≤ 31 := by omega
  have hNb2 : (2 : Int) ≤ (N : Int) := by omega
  have hpb : (p : Int) ≤ 8 := by omega
  have hnb : (n : Int) ≤ 255 := by omega
  have hpfb : (pf : Int) ≤ 255 := by omega
  rw [hmm]
  clear hW hby hmm hN2 hp8 hheavy hm hring hN hp hn hpf
  go_enter Try.func7, Try.ntmps7
  go_wp2_with fail
  refine (wal_fixed _).mono ?_
  rintro e w1 ⟨rfl, hu1⟩
  dsimp only
  have HU1 := Lib.hid hu1
  clear hu1
  go_wp2_with fail
  refine (H.out.2.2.2.2.2.1 _ HU1.out).mono ?_
  rintro e w2 ⟨hv, rfl, rfl⟩
  dsimp only
  cases hv with
  | true =>
    go_wp2_with fail
    refine (wal_fixed _).mono ?_
    rintro e w2 ⟨rfl, hu2⟩
    dsimp only
    have HU2 := Lib.hid (HU1.out.trans hu2)
    clear hu2
    go_wp2_with fail
    go_ret
    exact ⟨rfl, HU2.out.below0⟩
  | false =>
  go_wp2_with fail
  refine (Hring.out _).mono ?_
  rintro e w2 ⟨rfl, rfl⟩
  dsimp only
  obtain ⟨sz, hsz⟩ : ∃ sz : Nat, p + N + 2 = sz := ⟨_, rfl⟩
  have hszI : (p : Int) + (N : Int) + 2 = (sz : Int) := by omega
  go_wp2_with fail
  try rw [hszI]
  refine (new_disk (sz : Int) w1).mono ?_
  rintro e w2 ⟨db, F, rfl, hD, hu, hF⟩
  dsimp only
  have H2 := Lib.hid (And.intro hD (And.intro hu hF))
  have hnl := new_len sz (by omega) (by omega) (sz : Int) rfl
  have Hnl := Lib.hid (And.intro hnl hsz)
  clear hD hu hF hnl hsz hszI
  go_wp2_with fail
  refine (Hring.out _).mono ?_
  rintro e w3 ⟨rfl, rfl⟩
  dsimp only
  go_wp2_with fail
  refine (make_live H2.out.1 p N H.out.2.2.2.1.1 (by rw [Hnl.out.1, ← Hnl.out.2]; omega) (by show 0 < 99999999990; decide) rfl rfl (p : Int) (N : Int) rfl rfl).mono ?_
  rintro e w3 ⟨lb, F3, rfl, hH, hu, hF, hwt, hsl⟩
  dsimp only
  have HM := Lib.hid (And.intro hH (And.intro hwt (And.intro ((HU1.out.trans H2.out.2.1).then hu (fun k hk => .inr (by have := H2.out.2.2 k hk; have := HU1.out.size; omega))) (show ∀ k, F3 k → w.heap.size ≤ k from fun k hk => by
    have hz1 := HU1.out.size
    have hz2 := H2.out.2.1.size
    rcases hF k hk with h | h
    · have := H2.out.2.2 k h; omega
    · omega))))
  clear hH hu hF hwt hsl H2 Hnl
  go_wp2_with fail
  refine (Hring.out _).mono ?_
  rintro e w4 ⟨rfl, rfl⟩
  dsimp only
  obtain ⟨M, hM⟩ : ∃ M : Nat, N - 1 = M := ⟨_, rfl⟩
  have hMI : (N : Int) - 1 = (M : Int) := by have := H.out.2.2.2.1.1; omega
  have HMM := Lib.hid hM
  clear hM
  go_wp2_with fail
  have HP0 : Hid (∃ (rb : Nat), rb = w3.heap.size ∧ PlaysW w (w3.alloc (.cells #[.int .i64 M, .slice none 0 0, .int .i64 0, .int .i64 0] 46)) lb db rb p N 0 (LSt.made p N) (makeD (DSt.new (sz : Int)) p N).1 F3 0 [] 0 none 0 [] (fun _ => False)) := by
    have hal : Upd (fun _ => False) w3 (w3.alloc (.cells #[.int .i64 M, .slice none 0 0, .int .i64 0, .int .i64 0] 46)) := (Upd.refl _ w3).alloc _
    have hz := HM.out.2.2.1.size
    refine ⟨_, rfl, HM.out.1.upd hal (fun _ _ h => h), rfl, rfl, by rw [HM.out.2.1]; exact Nat.zero_le _, ⟨?_, rfl, Mid.nil _ _, RowsAt.nil _ _, (fun _ h => h.elim), (fun q hq => by cases hq), (fun h => h), Whole.nil _ _⟩, Nat.le_refl _, HM.out.2.2.1.trans hal, HM.out.2.2.2, fun q hq => ?_, fun b hb => by cases hb⟩
    · have e := HMM.out
      rw [show N - 1 = M from e]
      exact CellsAt.new w3 _ [.int .i64 M, .slice none 0 0, .int .i64 0, .int .i64 0]
    · rcases hq with rfl | hq | hq
      · exact ⟨hz, fun hf => Nat.lt_irrefl _ (HM.out.1.wal.lt _ hf)⟩
      · cases hq
      · exact hq.elim
  obtain ⟨rb, hrb, HP0⟩ := HP0.out
  have HP0 := Lib.hid HP0
  rw [← hrb]
  clear HM hrb
  go_loopw [9, 12] (fun t i wr => ∃ (k lb : Nat) (L : LSt) (D : DSt) (F : Nat → Prop) (T : Nat) (all : List Batch) (al : Nat) (x : Option Addr) (c : Nat) (vs : List Value) (A : Nat → Prop), k ≤ m ∧ i = .int .i64 k ∧ t = .pointer (some ⟨lb, 0, none⟩) ∧ Hid (PlaysW w wr lb db rb p N k L D F T all al x c vs A)) (fun _ i _ => m - (intOf i).toNat)
  case atStart => exact ⟨0, _, _, _, _, _, _, _, _, _, _, _, Nat.zero_le _, rfl, rfl, HP0⟩
  case round =>
    clear HP0
    obtain ⟨k, lb1, L, D, F, T, all, al, x, c, vs, A, hk, rfl, rfl, HP⟩ := hrel
    by_cases hlt : k < m
    · have Hk := Lib.hid (show k < 1048576 by omega)
      have hkm : (k : Int) < (m : Int) := by omega
      obtain ⟨o, ho⟩ : ∃ o, l[k]'(by rw [H.out.2.2.1]; exact hlt) = o := ⟨_, rfl⟩
      have hol : o ∈ l := ho ▸ List.getElem_mem _
      obtain ⟨xb, xo, rfl, hr⟩ := wop_at H.out.1.1 k (by rw [H.out.2.2.1]; exact hlt)
      rw [ho] at hr
      have hro : wr.rangeAt xb (xo + k * 3) (wopV o) := HP.out.upd.range hr (fun h => h)
      have hok := H.out.1.2.1 o hol
      have Ho := Lib.hid (And.intro hok (H.out.2.1 o hol))
      obtain ⟨kd, hkd⟩ : ∃ kd, o.kind = kd := ⟨_, rfl⟩
      have hkdb : (kd : Int) ≤ 255 := by have := hok.kind; omega
      have hon : -9223372036854775808 ≤ o.n := hok.lo
      have hon2 : o.n ≤ 9223372036854775807 := hok.hi
      have Hkd := Lib.hid hkd
      clear hr ho hol hok
      have hro' : wr.rangeAt xb (xo + k * 3) [.int .u8 kd, .slice o.ba o.batch.length o.bc, .int .i64 o.n] := by
        have := hro
        rw [wopV, Hkd.out] at this
        exact this
      have hal : Upd (fun _ => False) wr (wr.alloc (.cells #[.int .u8 kd, .slice o.ba o.batch.length o.bc, .int .i64 o.n] 55)) := (Upd.refl _ wr).alloc _
      have hcs := CellsAt.new wr 55 [.int .u8 kd, .slice o.ba o.batch.length o.bc, .int .i64 o.n]
      obtain ⟨ob, hob⟩ : ∃ ob, wr.heap.size = ob := ⟨_, rfl⟩
      rw [hob] at hcs
      have HP4 : Hid (PlaysW w (wr.alloc (.cells #[.int .u8 kd, .slice o.ba o.batch.length o.bc, .int .i64 o.n] 55)) lb1 db rb p N k L D F T all al x c vs A) := HP.out.step hal
      have hobF : ¬ F ob ∧ ¬ ownRL rb al x c A ob := ⟨fun hf => by have := HP.out.hist.wal.lt _ hf; omega, fun hf => by have := HP.out.ref.lt _ hf; omega⟩
      have Hob := Lib.hid (And.intro hobF (And.intro hcs (And.intro hal hob)))
      clear hal hcs hobF hob hro HP Hkd
      have hmod : kd % 4 = 0 ∨ kd % 4 = 1 ∨ kd % 4 = 2 ∨ kd % 4 = 3 := by omega
      rcases hmod with h4 | h4 | h4 | h4
      · have q0 : (kd : Int) % 4 = 0 := by omega
        have q1 : (kd : Int).tmod 4 = 0 := by rw [Int.tmod_eq_emod_of_nonneg (by omega)]; omega
        clear h4
        go_wp2_with (first | ((with_reducible apply wpl_load_mid xb (xo + k * 3) [.int .u8 kd, .slice o.ba o.batch.length o.bc, .int .i64 o.n]); exact rfl; exact hro'; exact Try.underlying55; exact rfl; exact sizeWop; try (simp only [Act.put, List.setIfInBounds_toArray, List.set_cons_zero, List.set_cons_succ])) | ((with_reducible apply wpl_store_new); exact rfl; exact rfl; exact sizeWop; exact rfl; exact rfl; try (simp only [Act.put, List.setIfInBounds_toArray, List.set_cons_zero, List.set_cons_succ])))
        try rw [Hob.out.2.2.2]
        generalize wr.alloc (.cells #[.int .u8 kd, .slice o.ba o.batch.length o.bc, .int .i64 o.n] 55) = w4 at *
        refine (hist_append HP4.out.hist (by have h1 := HP4.out.waits; have h2 := Hk.out; omega) o.ba o.bc o.batch (Ho.out.1.batch.upd HP4.out.upd (fun _ _ _ h => h)) (fun y hy h0 hf => by have h1 := Ho.out.1.lt y hy h0; have h2 := HP4.out.new _ hf; omega) (by have h1 := HP4.out.ref.len; have h2 := HP4.out.le; have h3 := Hk.out; omega)).mono ?_
        rintro e w5 ⟨a1, r1, rfl, hp⟩
        dsimp only
        have HA : Hid (∃ F5 : Nat → Prop, AppPost w4 lb1 db L D F T all o.batch a1 r1 w5 ∧ Upd F w4 w5 ∧ RefL w5 rb (N - 1) T L.synced all al x c vs A ∧ Upd (fun _ => False) w w5) := by
          obtain ⟨F5, f1, f2⟩ := hp.foot
          obtain ⟨g1, g2, g3, g4⟩ := HP4.out.log f1 f2
          exact ⟨F5, hp, f1, g1, g2⟩
        obtain ⟨F5, HA⟩ := HA.out
        have HA := Lib.hid HA
        have c5 := HA.out.2.1.cell_some (a := ⟨ob, 1, none⟩) (Hob.out.2.1.cell 1) Hob.out.1.1
        try simp only [List.getElem?_cons_zero, List.getElem?_cons_succ] at c5
        clear hp hro'
        go_wp2_with fail
        refine (append_ref HA.out.2.2.1 (by have := HP4.out.low; omega) (by have := HP4.out.le; have := Hk.out; omega) (by have := H.out.2.2.2.1; omega) HP4.out.needs HP4.out.bytes o.ba o.bc o.batch (Ho.out.1.batch.upd HA.out.2.2.2 (fun _ _ _ h => h)) Ho.out.1.sizes (fun y hy h0 hf => by have h1 := Ho.out.1.lt y hy h0; have h2 := (HP4.out.apart _ hf).1; omega) _ rfl).mono ?_
        rintro e w6 ⟨a2, r2, rfl, hq⟩
        dsimp only
        obtain ⟨rfl, rfl, hu6, HP6⟩ := app_both HP4.out HA.out.1 hq Ho.out.2
        have c6 := hu6.cell_some (a := ⟨ob, 1, none⟩) (Hob.out.2.1.cell 1) (fun h => h.elim Hob.out.1.1 Hob.out.1.2)
        try simp only [List.getElem?_cons_zero, List.getElem?_cons_succ] at c6
        have HP6 := Lib.hid HP6
        clear hq hu6 c5 HA HP4
        obtain ⟨L, D, F, all, al, x, c, vs, A, HP⟩ := HP6.out
        have HP := Lib.hid HP
        have c6 : w6.drew.cell? ⟨ob, 1, none⟩ = some (.slice o.ba o.batch.length o.bc) := c6
        have hb6 := Ho.out.1.batch.upd HP.out.upd.drew (fun _ _ _ h => h)
        have n1 := need_ok o.ba o.bc o.batch w6.drew hb6 Ho.out.2
        have n2 := rneed_ok o.ba o.bc o.batch w6.drew hb6 Ho.out.2
        obtain ⟨nb, hnb⟩ : ∃ nb, needB o.batch = nb := ⟨_, rfl⟩
        rw [hnb] at n1 n2
        have Hn := Lib.hid (And.intro n1 n2)
        clear n1 n2 hnb hb6 HP6
        go_wp2_with fail
        have HS : w6.drew.cell? ⟨ob, 1, none⟩ = some (.slice o.ba o.batch.length o.bc) := c6
        refine wp_region_planD (fun u => u.cell? ⟨ob, 1, none⟩ = some (.slice o.ba o.batch.length o.bc)) 17 [(0, true), (1, true), (2, true), (3, true), (4, true), (5, true), (6, true), (7, true), (8, true), (9, true), (10, true), (12, true), (13, true), (11, false), (14, false), (15, true), (16, true)] (by kernel_rfl) (by kernel_rfl) (fun d _ _ _ _ h => by cases d <;> exact h) HS ?_
        iterate 13 (first | (apply planD_held rfl rfl rfl (by simp) HS; (intro w' hS K hK; go_simp; exact hK)) | (apply planD_wanted rfl rfl rfl (by simp) HS; (intro w' hS K hK; go_simp; exact hK)))
        refine planD_op rfl rfl (fun K hK => ?_)
        go_simp
        refine Hn.out.1.mono ?_
        rintro e wn ⟨rfl, rfl⟩
        dsimp only
        refine hK _ _ _ (fun u h => h) (fun _ => HS) ?_
        clear hK
        try (simp only [Act.put, List.setIfInBounds_toArray, List.set_cons_zero, List.set_cons_succ])
        refine planD_op rfl rfl (fun K hK => ?_)
        go_simp
        refine Hn.out.2.mono ?_
        rintro e wn ⟨rfl, rfl⟩
        dsimp only
        refine hK _ _ _ (fun u h => h) (fun _ => HS) ?_
        clear hK
        try (simp only [Act.put, List.setIfInBounds_toArray, List.set_cons_zero, List.set_cons_succ])
        iterate 2 (first | (apply planD_held rfl rfl rfl (by simp) HS; (intro w' hS K hK; go_simp; exact hK)) | (apply planD_wanted rfl rfl rfl (by simp) HS; (intro w' hS K hK; go_simp; exact hK)))
        refine planD_nil ?_
        have HP6 : Hid (PlaysW w w6.drew lb1 db rb p N (k + 1) L D F T all al x c vs A) := HP.out.step ((Upd.refl _ _).drew)
        clear HS c6 HP Hn
        have HP := HP6
        clear HP6
        go_wp2_with fail
        obtain ⟨R, hR⟩ : ∃ R, N - 1 - needsB (all.drop T) = R := ⟨_, rfl⟩
        obtain ⟨sy, hsy⟩ : ∃ sy, L.synced = sy := ⟨_, rfl⟩
        have HZ := Lib.hid (And.intro hR (And.intro hsy (show k + 1 ≤ 100000000 by have := Hk.out; omega)))
        have dT : (T : Int) ≤ 100000000 := by have h1 := HP.out.low; have h2 := HP.out.le; have h3 := Hk.out; omega
        have fT : IntKind.i64.wrap ((T : Int) + 1) = (T : Int) + 1 := by rw [IntKind.wrap_i64]; omega
        have HS0 := tail_step (tail_cells HP.out hsy) ((Upd.refl (fun _ => False) _).drew)
        clear hR hsy
        refine wp_region_planD (fun u => Hid (PlaysW w u lb1 db rb p N (k + 1) L D F T all al x c vs A) ∧ u.cell? ⟨rb, 1, none⟩ = some (.slice x al c) ∧ u.cell? ⟨rb, 2, none⟩ = some (.int .i64 T) ∧ u.cell? ⟨rb, 3, none⟩ = some (.int .i64 sy)) 34 [(0, true), (2, true), (1, false), (3, false), (4, true), (5, true), (6, true), (8, true), (9, true), (10, true), (11, true), (12, true), (7, false), (13, true), (14, true), (15, true), (16, true), (18, true), (19, true), (20, true), (21, true), (22, true), (17, false), (23, true), (24, true), (25, true), (26, true), (28, true), (29, true), (30, true), (31, true), (27, false), (32, true), (33, true)] (by kernel_rfl) (by kernel_rfl) (fun d _ _ _ _ h => by cases d <;> exact h) HS0 ?_
        iterate 2 (first | (apply planD_held rfl rfl rfl (by simp) HS0; (intro w' hS K hK; go_simp; exact hK)) | (apply planD_wanted rfl rfl rfl (by simp) HS0; (intro w' hS K hK; go_simp; exact hK)))
        refine planD_op rfl rfl (fun K hK => ?_)
        go_simp
        refine (tail_room HS0.1.out HZ.out.1).mono ?_
        rintro e wn1 ⟨rfl, hwn⟩
        dsimp only
        have HS1 := tail_step (u' := wn1) HS0 (by rw [hwn]; exact (Upd.refl (fun _ => False) _).drew)
        refine hK _ _ _ (fun u h => h) (fun _ => HS1) ?_
        clear hK hwn HS0
        try (simp only [Act.put, List.setIfInBounds_toArray, List.set_cons_zero, List.set_cons_succ])
        refine planD_op rfl rfl (fun K hK => ?_)
        go_simp
        refine (tail_rroom HS1.1.out HZ.out.1 HZ.out.2.2).mono ?_
        rintro e wn2 ⟨rfl, hwn⟩
        dsimp only
        have HS2 := tail_step (u' := wn2) HS1 (by rw [← hwn]; exact (Upd.refl (fun _ => False) _))
        refine hK _ _ _ (fun u h => h) (fun _ => HS2) ?_
        clear hK hwn HS1
        try (simp only [Act.put, List.setIfInBounds_toArray, List.set_cons_zero, List.set_cons_succ])
        iterate 8 (first | (apply planD_held rfl rfl rfl (by simp) HS2; (intro w' hS K hK; go_simp; exact hK)) | (apply planD_wanted rfl rfl rfl (by simp) HS2; (intro w' hS K hK; go_simp; exact hK)))
        refine planD_op rfl rfl (fun K hK => ?_)
        go_simp
        refine (tail_first HS2.1.out).mono ?_
        rintro e wn3 ⟨rfl, hwn⟩
        dsimp only
        have HS3 := tail_step (u' := wn3) HS2 (by rw [← hwn]; exact (Upd.refl (fun _ => False) _))
        refine hK _ _ _ (fun u h => h) (fun _ => HS3) ?_
        clear hK hwn HS2
        try (simp only [Act.put, List.setIfInBounds_toArray, List.set_cons_zero, List.set_cons_succ])
        iterate 9 (first | (apply planD_held rfl rfl rfl (by simp) HS3; (intro w' hS K hK; go_simp; exact hK)) | (apply planD_wanted rfl rfl rfl (by simp) HS3; (intro w' hS K hK; go_simp; exact hK)))
        refine planD_op rfl rfl (fun K hK => ?_)
        go_simp
        refine (tail_last HS3.1.out).mono ?_
        rintro e wn4 ⟨rfl, hwn⟩
        dsimp only
        have HS4 := tail_step (u' := wn4) HS3 (by rw [← hwn]; exact (Upd.refl (fun _ => False) _))
        refine hK _ _ _ (fun u h => h) (fun _ => HS4) ?_
        clear hK hwn HS3
        try (simp only [Act.put, List.setIfInBounds_toArray, List.set_cons_zero, List.set_cons_succ])
        iterate 8 (first | (apply planD_held rfl rfl rfl (by simp) HS4; (intro w' hS K hK; go_simp; exact hK)) | (apply planD_wanted rfl rfl rfl (by simp) HS4; (intro w' hS K hK; go_simp; exact hK)))
        refine planD_op rfl rfl (fun K hK => ?_)
        go_simp
        refine (tail_synced HS4.1.out HZ.out.2.1).mono ?_
        rintro e wn5 ⟨rfl, hwn⟩
        dsimp only
        have HS5 := tail_step (u' := wn5) HS4 (by rw [← hwn]; exact (Upd.refl (fun _ => False) _))
        refine hK _ _ _ (fun u h => h) (fun _ => HS5) ?_
        clear hK hwn HS4
        try (simp only [Act.put, List.setIfInBounds_toArray, List.set_cons_zero, List.set_cons_succ])
        iterate 2 (first | (apply planD_held rfl rfl rfl (by simp) HS5; (intro w' hS K hK; go_simp; exact hK)) | (apply planD_wanted rfl rfl rfl (by simp) HS5; (intro w' hS K hK; go_simp; exact hK)))
        refine planD_nil ?_
        have HP9 := HS5.1
        clear HS5 HZ HP fT
        go_wp2_with fail
        exact ⟨⟨k + 1, _, _, _, _, _, _, _, _, _, _, _, by omega, by go_num, rfl, HP9⟩, by simp [intOf]; omega⟩
      · have q0 : (kd : Int) % 4 = 1 := by omega
        have q1 : (kd : Int).tmod 4 = 1 := by rw [Int.tmod_eq_emod_of_nonneg (by omega)]; omega
        clear h4
        have e1 := HP4.out.ref.cells.cell 1
        have e3 := HP4.out.ref.cells.cell 3
        have ef := HP4.out.ref.cells.frozen 3
        simp only [List.getElem?_cons_zero, List.getElem?_cons_succ] at e1 e3
        go_wp2_with (first | ((with_reducible apply wpl_load_mid xb (xo + k * 3) [.int .u8 kd, .slice o.ba o.batch.length o.bc, .int .i64 o.n]); exact rfl; exact hro'; exact Try.underlying55; exact rfl; exact sizeWop; try (simp only [Act.put, List.setIfInBounds_toArray, List.set_cons_zero, List.set_cons_succ])) | ((with_reducible apply wpl_store_new); exact rfl; exact rfl; exact sizeWop; exact rfl; exact rfl; try (simp only [Act.put, List.setIfInBounds_toArray, List.set_cons_zero, List.set_cons_succ])))
        try rw [Hob.out.2.2.2]
        generalize wr.alloc (.cells #[.int .u8 kd, .slice o.ba o.batch.length o.bc, .int .i64 o.n] 55) = w4 at *
        have hset : Upd (fun q => q = rb) w4 (w4.setCell ⟨rb, 3, none⟩ (.int .i64 al)) := (Upd.refl _ _).setCell _ (.inl rfl)
        have hH4 := HP4.out.hist.upd hset (fun q hq e => (HP4.out.apart q (.inl e)).2 hq)
        refine (hist_sync hH4 (by have h1 := HP4.out.waits; have h2 := Hk.out; omega)).mono ?_
        rintro e w5 ⟨D5, F5, rfl, hH5, hu5, hF5, hw5⟩
        dsimp only
        have HP : Hid (PlaysW w w5 lb1 db rb p N (k + 1) { L with synced := all.length } D5 F5 T all al x c vs A) := sync_both HP4.out rfl hH5 hu5 hF5 hw5
        clear hset hH4 hH5 hu5 hF5 hw5 HP4 e1 e3 ef hro'
        have HP9 : Hid (∃ (L5 : LSt) (D5 : DSt) (F5 : Nat → Prop), PlaysW w w5 lb1 db rb p N (k + 1) L5 D5 F5 T all al x c vs A) := ⟨_, _, _, HP.out⟩
        clear HP
        obtain ⟨L, D, F, HP⟩ := HP9.out
        have HP := Lib.hid HP
        clear HP9
        go_wp2_with fail
        obtain ⟨R, hR⟩ : ∃ R, N - 1 - needsB (all.drop T) = R := ⟨_, rfl⟩
        obtain ⟨sy, hsy⟩ : ∃ sy, L.synced = sy := ⟨_, rfl⟩
        have HZ := Lib.hid (And.intro hR (And.intro hsy (show k + 1 ≤ 100000000 by have := Hk.out; omega)))
        have dT : (T : Int) ≤ 100000000 := by have h1 := HP.out.low; have h2 := HP.out.le; have h3 := Hk.out; omega
        have fT : IntKind.i64.wrap ((T : Int) + 1) = (T : Int) + 1 := by rw [IntKind.wrap_i64]; omega
        have HS0 := tail_step (tail_cells HP.out hsy) ((Upd.refl (fun _ => False) _).drew)
        clear hR hsy
        refine wp_region_planD (fun u => Hid (PlaysW w u lb1 db rb p N (k + 1) L D F T all al x c vs A) ∧ u.cell? ⟨rb, 1, none⟩ = some (.slice x al c) ∧ u.cell? ⟨rb, 2, none⟩ = some (.int .i64 T) ∧ u.cell? ⟨rb, 3, none⟩ = some (.int .i64 sy)) 34 [(0, true), (2, true), (1, false), (3, false), (4, true), (5, true), (6, true), (8, true), (9, true), (10, true), (11, true), (12, true), (7, false), (13, true), (14, true), (15, true), (16, true), (18, true), (19, true), (20, true), (21, true), (22, true), (17, false), (23, true), (24, true), (25, true), (26, true), (28, true), (29, true), (30, true), (31, true), (27, false), (32, true), (33, true)] (by kernel_rfl) (by kernel_rfl) (fun d _ _ _ _ h => by cases d <;> exact h) HS0 ?_
        iterate 2 (first | (apply planD_held rfl rfl rfl (by simp) HS0; (intro w' hS K hK; go_simp; exact hK)) | (apply planD_wanted rfl rfl rfl (by simp) HS0; (intro w' hS K hK; go_simp; exact hK)))
        refine planD_op rfl rfl (fun K hK => ?_)
        go_simp
        refine (tail_room HS0.1.out HZ.out.1).mono ?_
        rintro e wn1 ⟨rfl, hwn⟩
        dsimp only
        have HS1 := tail_step (u' := wn1) HS0 (by rw [hwn]; exact (Upd.refl (fun _ => False) _).drew)
        refine hK _ _ _ (fun u h => h) (fun _ => HS1) ?_
        clear hK hwn HS0
        try (simp only [Act.put, List.setIfInBounds_toArray, List.set_cons_zero, List.set_cons_succ])
        refine planD_op rfl rfl (fun K hK => ?_)
        go_simp
        refine (tail_rroom HS1.1.out HZ.out.1 HZ.out.2.2).mono ?_
        rintro e wn2 ⟨rfl, hwn⟩
        dsimp only
        have HS2 := tail_step (u' := wn2) HS1 (by rw [← hwn]; exact (Upd.refl (fun _ => False) _))
        refine hK _ _ _ (fun u h => h) (fun _ => HS2) ?_
        clear hK hwn HS1
        try (simp only [Act.put, List.setIfInBounds_toArray, List.set_cons_zero, List.set_cons_succ])
        iterate 8 (first | (apply planD_held rfl rfl rfl (by simp) HS2; (intro w' hS K hK; go_simp; exact hK)) | (apply planD_wanted rfl rfl rfl (by simp) HS2; (intro w' hS K hK; go_simp; exact hK)))
        refine planD_op rfl rfl (fun K hK => ?_)
        go_simp
        refine (tail_first HS2.1.out).mono ?_
        rintro e wn3 ⟨rfl, hwn⟩
        dsimp only
        have HS3 := tail_step (u' := wn3) HS2 (by rw [← hwn]; exact (Upd.refl (fun _ => False) _))
        refine hK _ _ _ (fun u h => h) (fun _ => HS3) ?_
        clear hK hwn HS2
        try (simp only [Act.put, List.setIfInBounds_toArray, List.set_cons_zero, List.set_cons_succ])
        iterate 9 (first | (apply planD_held rfl rfl rfl (by simp) HS3; (intro w' hS K hK; go_simp; exact hK)) | (apply planD_wanted rfl rfl rfl (by simp) HS3; (intro w' hS K hK; go_simp; exact hK)))
        refine planD_op rfl rfl (fun K hK => ?_)
        go_simp
        refine (tail_last HS3.1.out).mono ?_
        rintro e wn4 ⟨rfl, hwn⟩
        dsimp only
        have HS4 := tail_step (u' := wn4) HS3 (by rw [← hwn]; exact (Upd.refl (fun _ => False) _))
        refine hK _ _ _ (fun u h => h) (fun _ => HS4) ?_
        clear hK hwn HS3
        try (simp only [Act.put, List.setIfInBounds_toArray, List.set_cons_zero, List.set_cons_succ])
        iterate 8 (first | (apply planD_held rfl rfl rfl (by simp) HS4; (intro w' hS K hK; go_simp; exact hK)) | (apply planD_wanted rfl rfl rfl (by simp) HS4; (intro w' hS K hK; go_simp; exact hK)))
        refine planD_op rfl rfl (fun K hK => ?_)
        go_simp
        refine (tail_synced HS4.1.out HZ.out.2.1).mono ?_
        rintro e wn5 ⟨rfl, hwn⟩
        dsimp only
        have HS5 := tail_step (u' := wn5) HS4 (by rw [← hwn]; exact (Upd.refl (fun _ => False) _))
        refine hK _ _ _ (fun u h => h) (fun _ => HS5) ?_
        clear hK hwn HS4
        try (simp only [Act.put, List.setIfInBounds_toArray, List.set_cons_zero, List.set_cons_succ])
        iterate 2 (first | (apply planD_held rfl rfl rfl (by simp) HS5; (intro w' hS K hK; go_simp; exact hK)) | (apply planD_wanted rfl rfl rfl (by simp) HS5; (intro w' hS K hK; go_simp; exact hK)))
        refine planD_nil ?_
        have HP9 := HS5.1
        clear HS5 HZ HP fT
        go_wp2_with fail
        exact ⟨⟨k + 1, _, _, _, _, _, _, _, _, _, _, _, by omega, by go_num, rfl, HP9⟩, by simp [intOf]; omega⟩
      · have q0 : (kd : Int) % 4 = 2 := by omega
        have q1 : (kd : Int).tmod 4 = 2 := by rw [Int.tmod_eq_emod_of_nonneg (by omega)]; omega
        clear h4
        go_wp2_with (first | ((with_reducible apply wpl_load_mid xb (xo + k * 3) [.int .u8 kd, .slice o.ba o.batch.length o.bc, .int .i64 o.n]); exact rfl; exact hro'; exact Try.underlying55; exact rfl; exact sizeWop; try (simp only [Act.put, List.setIfInBounds_toArray, List.set_cons_zero, List.set_cons_succ])) | ((with_reducible apply wpl_store_new); exact rfl; exact rfl; exact sizeWop; exact rfl; exact rfl; try (simp only [Act.put, List.setIfInBounds_toArray, List.set_cons_zero, List.set_cons_succ])))
        try rw [Hob.out.2.2.2]
        generalize wr.alloc (.cells #[.int .u8 kd, .slice o.ba o.batch.length o.bc, .int .i64 o.n] 55) = w4 at *
        have c2 := Hob.out.2.1.cell 2
        simp only [List.getElem?_cons_zero, List.getElem?_cons_succ] at c2
        have HS : w4.drew.cell? ⟨ob, 2, none⟩ = some (.int .i64 o.n) := c2
        have HP5 : Hid (PlaysW w w4.drew lb1 db rb p N k L D F T all al x c vs A) := HP4.out.step ((Upd.refl _ _).drew)
        clear c2 HP4 hro'
        refine wp_region_planD (fun u => u.cell? ⟨ob, 2, none⟩ = some (.int .i64 o.n)) 9 [(0, true), (1, true), (2, true), (4, true), (5, true), (6, true), (3, false), (7, false), (8, true)] (by kernel_rfl) (by kernel_rfl) (fun d _ _ _ _ h => by cases d <;> exact h) HS ?_
        iterate 6 (first | (apply planD_held rfl rfl rfl (by simp) HS; (intro w' hS K hK; go_simp; exact hK)) | (apply planD_wanted rfl rfl rfl (by simp) HS; (intro w' hS K hK; go_simp; exact hK)))
        refine planD_op rfl rfl (fun K hK => ?_)
        go_simp
        refine (hist_trim HP5.out.hist (by have h1 := HP5.out.waits; have h2 := Hk.out; omega) o.n hon2).mono ?_
        rintro e w5 ⟨r1, rfl, hp⟩
        dsimp only
        have HA : Hid (TrimPost w4.drew lb1 db L D F T all o.n r1 w5 ∧ RefL w5 rb (N - 1) T L.synced all al x c vs A ∧ w5.cell? ⟨ob, 2, none⟩ = some (.int .i64 o.n)) := by
          obtain ⟨F5, f1, f2⟩ := hp.foot
          obtain ⟨g1, g2, g3, g4⟩ := HP5.out.log f1 f2
          exact ⟨hp, g1, f1.cell_some (a := ⟨ob, 2, none⟩) HS Hob.out.1.1⟩
        have HS5 := HA.out.2.2
        refine hK _ _ _ (fun u h => h) (fun _ => HS5) ?_
        clear hK hp HS
        try (simp only [Act.put, List.setIfInBounds_toArray, List.set_cons_zero, List.set_cons_succ])
        refine planD_op rfl rfl (fun K hK => ?_)
        go_simp
        refine (trim_ref HA.out.2.1 (by have := HP5.out.low; have := HP5.out.le; have := Hk.out; omega) (by have := HP5.out.low; have := HP5.out.le; have := Hk.out; omega) o.n).mono ?_
        rintro e w6 ⟨r2, rfl, hq⟩
        dsimp only
        have HS6 : w6.cell? ⟨ob, 2, none⟩ = some (.int .i64 o.n) := by
          rcases id hq with ⟨_, _, rfl⟩ | ⟨_, _, _, _, hu⟩
          · exact HS5
          · exact hu.cell_some (a := ⟨ob, 2, none⟩) HS5 (fun e => Hob.out.1.2 (.inl e))
        obtain ⟨rfl, HP6⟩ := trim_both HP5.out HA.out.1 hq
        have HP6 := Lib.hid HP6
        refine hK _ _ _ (fun u h => h) (fun _ => HS6) ?_
        clear hK hq HS5 HA HP5
        try (simp only [Act.put, List.setIfInBounds_toArray, List.set_cons_zero, List.set_cons_succ])
        obtain ⟨L, D, F, T, HP⟩ := HP6.out
        have HP := Lib.hid HP
        clear HP6
        iterate 1 (first | (apply planD_held rfl rfl rfl (by simp) HS6; (intro w' hS K hK; go_simp; exact hK)) | (apply planD_wanted rfl rfl rfl (by simp) HS6; (intro w' hS K hK; go_simp; exact hK)))
        refine planD_nil ?_
        clear HS6
        go_wp2_with fail
        obtain ⟨R, hR⟩ : ∃ R, N - 1 - needsB (all.drop T) = R := ⟨_, rfl⟩
        obtain ⟨sy, hsy⟩ : ∃ sy, L.synced = sy := ⟨_, rfl⟩
        have HZ := Lib.hid (And.intro hR (And.intro hsy (show k + 1 ≤ 100000000 by have := Hk.out; omega)))
        have dT : (T : Int) ≤ 100000000 := by have h1 := HP.out.low; have h2 := HP.out.le; have h3 := Hk.out; omega
        have fT : IntKind.i64.wrap ((T : Int) + 1) = (T : Int) + 1 := by rw [IntKind.wrap_i64]; omega
        have HS0 := tail_step (tail_cells HP.out hsy) ((Upd.refl (fun _ => False) _).drew)
        clear hR hsy
        refine wp_region_planD (fun u => Hid (PlaysW w u lb1 db rb p N (k + 1) L D F T all al x c vs A) ∧ u.cell? ⟨rb, 1, none⟩ = some (.slice x al c) ∧ u.cell? ⟨rb, 2, none⟩ = some (.int .i64 T) ∧ u.cell? ⟨rb, 3, none⟩ = some (.int .i64 sy)) 34 [(0, true), (2, true), (1, false), (3, false), (4, true), (5, true), (6, true), (8, true), (9, true), (10, true), (11, true), (12, true), (7, false), (13, true), (14, true), (15, true), (16, true), (18, true), (19, true), (20, true), (21, true), (22, true), (17, false), (23, true), (24, true), (25, true), (26, true), (28, true), (29, true), (30, true), (31, true), (27, false), (32, true), (33, true)] (by kernel_rfl) (by kernel_rfl) (fun d _ _ _ _ h => by cases d <;> exact h) HS0 ?_
        iterate 2 (first | (apply planD_held rfl rfl rfl (by simp) HS0; (intro w' hS K hK; go_simp; exact hK)) | (apply planD_wanted rfl rfl rfl (by simp) HS0; (intro w' hS K hK; go_simp; exact hK)))
        refine planD_op rfl rfl (fun K hK => ?_)
        go_simp
        refine (tail_room HS0.1.out HZ.out.1).mono ?_
        rintro e wn1 ⟨rfl, hwn⟩
        dsimp only
        have HS1 := tail_step (u' := wn1) HS0 (by rw [hwn]; exact (Upd.refl (fun _ => False) _).drew)
        refine hK _ _ _ (fun u h => h) (fun _ => HS1) ?_
        clear hK hwn HS0
        try (simp only [Act.put, List.setIfInBounds_toArray, List.set_cons_zero, List.set_cons_succ])
        refine planD_op rfl rfl (fun K hK => ?_)
        go_simp
        refine (tail_rroom HS1.1.out HZ.out.1 HZ.out.2.2).mono ?_
        rintro e wn2 ⟨rfl, hwn⟩
        dsimp only
        have HS2 := tail_step (u' := wn2) HS1 (by rw [← hwn]; exact (Upd.refl (fun _ => False) _))
        refine hK _ _ _ (fun u h => h) (fun _ => HS2) ?_
        clear hK hwn HS1
        try (simp only [Act.put, List.setIfInBounds_toArray, List.set_cons_zero, List.set_cons_succ])
        iterate 8 (first | (apply planD_held rfl rfl rfl (by simp) HS2; (intro w' hS K hK; go_simp; exact hK)) | (apply planD_wanted rfl rfl rfl (by simp) HS2; (intro w' hS K hK; go_simp; exact hK)))
        refine planD_op rfl rfl (fun K hK => ?_)
        go_simp
        refine (tail_first HS2.1.out).mono ?_
        rintro e wn3 ⟨rfl, hwn⟩
        dsimp only
        have HS3 := tail_step (u' := wn3) HS2 (by rw [← hwn]; exact (Upd.refl (fun _ => False) _))
        refine hK _ _ _ (fun u h => h) (fun _ => HS3) ?_
        clear hK hwn HS2
        try (simp only [Act.put, List.setIfInBounds_toArray, List.set_cons_zero, List.set_cons_succ])
        iterate 9 (first | (apply planD_held rfl rfl rfl (by simp) HS3; (intro w' hS K hK; go_simp; exact hK)) | (apply planD_wanted rfl rfl rfl (by simp) HS3; (intro w' hS K hK; go_simp; exact hK)))
        refine planD_op rfl rfl (fun K hK => ?_)
        go_simp
        refine (tail_last HS3.1.out).mono ?_
        rintro e wn4 ⟨rfl, hwn⟩
        dsimp only
        have HS4 := tail_step (u' := wn4) HS3 (by rw [← hwn]; exact (Upd.refl (fun _ => False) _))
        refine hK _ _ _ (fun u h => h) (fun _ => HS4) ?_
        clear hK hwn HS3
        try (simp only [Act.put, List.setIfInBounds_toArray, List.set_cons_zero, List.set_cons_succ])
        iterate 8 (first | (apply planD_held rfl rfl rfl (by simp) HS4; (intro w' hS K hK; go_simp; exact hK)) | (apply planD_wanted rfl rfl rfl (by simp) HS4; (intro w' hS K hK; go_simp; exact hK)))
        refine planD_op rfl rfl (fun K hK => ?_)
        go_simp
        refine (tail_synced HS4.1.out HZ.out.2.1).mono ?_
        rintro e wn5 ⟨rfl, hwn⟩
        dsimp only
        have HS5 := tail_step (u' := wn5) HS4 (by rw [← hwn]; exact (Upd.refl (fun _ => False) _))
        refine hK _ _ _ (fun u h => h) (fun _ => HS5) ?_
        clear hK hwn HS4
        try (simp only [Act.put, List.setIfInBounds_toArray, List.set_cons_zero, List.set_cons_succ])
        iterate 2 (first | (apply planD_held rfl rfl rfl (by simp) HS5; (intro w' hS K hK; go_simp; exact hK)) | (apply planD_wanted rfl rfl rfl (by simp) HS5; (intro w' hS K hK; go_simp; exact hK)))
        refine planD_nil ?_
        have HP9 := HS5.1
        clear HS5 HZ HP fT
        go_wp2_with fail
        exact ⟨⟨k + 1, _, _, _, _, _, _, _, _, _, _, _, by omega, by go_num, rfl, HP9⟩, by simp [intOf]; omega⟩
      · have q0 : (kd : Int) % 4 = 3 := by omega
        have q1 : (kd : Int).tmod 4 = 3 := by rw [Int.tmod_eq_emod_of_nonneg (by omega)]; omega
        clear h4
        go_wp2_with (first | ((with_reducible apply wpl_load_mid xb (xo + k * 3) [.int .u8 kd, .slice o.ba o.batch.length o.bc, .int .i64 o.n]); exact rfl; exact hro'; exact Try.underlying55; exact rfl; exact sizeWop; try (simp only [Act.put, List.setIfInBounds_toArray, List.set_cons_zero, List.set_cons_succ])) | ((with_reducible apply wpl_store_new); exact rfl; exact rfl; exact sizeWop; exact rfl; exact rfl; try (simp only [Act.put, List.setIfInBounds_toArray, List.set_cons_zero, List.set_cons_succ])))
        try rw [Hob.out.2.2.2]
        generalize wr.alloc (.cells #[.int .u8 kd, .slice o.ba o.batch.length o.bc, .int .i64 o.n] 55) = w4 at *
        refine (Hring.out _).mono ?_
        rintro e w5 ⟨rfl, rfl⟩
        dsimp only
        clear hro'
        obtain ⟨sy, hsy⟩ : ∃ sy, L.synced = sy := ⟨_, rfl⟩
        have Hlow := Lib.hid HP4.out.low
        rw [hsy] at Hlow
        have Hsy := Lib.hid hsy
        go_wp2_with fail
        obtain ⟨G, hG, hGF⟩ := HP4.out.hist.wal.disk
        have hinv := HP4.out.hist.inv
        have hg : Good D.secs p N L.start (T + 1) sy (seg all T sy) := by
          have h := hinv.good
          rw [HP4.out.fr, HP4.out.n, hsy] at h
          exact h
        have hwts : ∀ q ∈ D.waits, q.1 ≠ p ∧ ∀ i, i < needsB (seg all T sy) → q.1 ≠ ringAt p N (L.start + i) := by
          have h := hinv.waits
          rw [HP4.out.fr, HP4.out.n, hsy] at h
          exact h
        refine (open_live hG p N T sy L.start all (by have h1 := HP4.out.waits; have h2 := Hk.out; omega) hinv.live HP4.out.hist.fuel Hlow.out.1 (by rw [HP4.out.ref.len]; exact Hlow.out.2) hg hwts (p : Int) (N : Int) rfl rfl).mono ?_
        rintro e w6 ⟨lb2, x6, c6, rfl, F6, vs6, A6, hH6, hu6, hF6, hm6, hr6, -, -⟩
        dsimp only
        have HP6 : Hid (PlaysW w w6 lb1 db rb p N k L D F T all al x c vs A) := HP4.out.step hu6
        have hF6' : ∀ q, F6 q → F q ∨ w4.heap.size ≤ q := fun q hq => (hF6 q hq).imp (hGF q) id
        obtain ⟨L6, hL6⟩ : ∃ L6, LSt.opened p N L.start (T + 1) sy (seg all T sy) = L6 := ⟨_, rfl⟩
        have hL6s : L6.fr = p ∧ L6.n = N ∧ L6.synced = sy := by rw [← hL6]; exact ⟨rfl, rfl, rfl⟩
        rw [hL6] at hH6
        have HO := Lib.hid (And.intro hH6 (And.intro hu6 (And.intro hF6' (And.intro hm6 (And.intro hr6 hL6s)))))
        clear hG hGF hinv hg hwts hH6 hu6 hF6 hm6 hr6 hF6' hL6 hL6s hsy
        go_wp2_with fail
        have dT : (T : Int) ≤ 100000000 := by have h1 := HP4.out.low; have h2 := HP4.out.le; have h3 := Hk.out; omega
        have fT : IntKind.i64.wrap ((T : Int) + 1) = (T : Int) + 1 := by rw [IntKind.wrap_i64]; omega
        have HS : w6.drew.cell? ⟨rb, 2, none⟩ = some (.int .i64 T) ∧ w6.drew.cell? ⟨rb, 3, none⟩ = some (.int .i64 sy) := by
          have h2 := HP6.out.ref.cells.cell 2
          have h3 := HP6.out.ref.cells.cell 3
          rw [Hsy.out] at h3
          exact ⟨h2, h3⟩
        refine wp_region_planD (fun u => u.cell? ⟨rb, 2, none⟩ = some (.int .i64 T) ∧ u.cell? ⟨rb, 3, none⟩ = some (.int .i64 sy)) 21 [(0, true), (1, true), (2, true), (3, true), (4, true), (5, true), (6, true), (7, true), (8, true), (9, true), (10, true), (11, true), (12, true), (13, true), (14, true), (15, true), (16, true), (17, true), (18, false), (19, true), (20, true)] (by kernel_rfl) (by kernel_rfl) (fun d _ _ _ _ h => by cases d <;> exact h) HS ?_
        iterate 18 (first | (apply planD_held rfl rfl rfl (by simp) HS; (intro w' hS K hK; go_simp; exact hK)) | (apply planD_wanted rfl rfl rfl (by simp) HS; (intro w' hS K hK; go_simp; exact hK)))
        have hdr : Upd (fun _ => False) w6 w6.drew := (Upd.refl _ w6).drew
        have hlen := HP6.out.ref.len
        have hsl := seg_length (all := all) (T := T) (s := sy) (by rw [hlen]; exact Hlow.out.2)
        have htold := told_ok (w := w6.drew) (cl := c) (cg := c6) (xg := x6) (by rw [hlen]; exact hdr.cell_some (a := ⟨rb, 1, none⟩) (HP6.out.ref.cells.cell 1) (fun h => h)) (by rw [hlen]; exact (HP6.out.ref.mid.upd hdr (fun _ _ h => h)).sees) (HP6.out.ref.rows.upd hdr (fun _ _ h => h)) (by rw [hsl]; exact (HO.out.2.2.2.1.upd hdr (fun _ _ h => h)).sees) (HO.out.2.2.2.2.1.upd hdr (fun _ _ h => h)) (T + 1) sy (by omega) (by rw [hsl]; have := Hlow.out; omega) (by rw [hlen]; exact Hlow.out.2) (by rw [hlen]; have h1 := HP6.out.le; have h2 := Hk.out; omega) (fun i h => by
          simp only [seg, List.getElem_drop, List.getElem_take]
          congr 1) ((T : Int) + 1) (sy : Int) (by omega) rfl
        rw [hsl] at htold
        refine planD_op rfl rfl (fun K hK => ?_)
        go_simp
        refine htold.mono ?_
        rintro e w7 ⟨rfl, hu7⟩
        dsimp only
        have HS7 : w7.cell? ⟨rb, 2, none⟩ = some (.int .i64 T) ∧ w7.cell? ⟨rb, 3, none⟩ = some (.int .i64 sy) := ⟨hu7.cell_some (a := ⟨rb, 2, none⟩) HS.1 (fun h => h), hu7.cell_some (a := ⟨rb, 3, none⟩) HS.2 (fun h => h)⟩
        have HO7 : Hid (Hist w7 lb2 db L6 D F6 T (all.take sy) ∧ Upd (fun _ => False) w4 w7 ∧ (∀ q, F6 q → F q ∨ w4.heap.size ≤ q) ∧ L6.fr = p ∧ L6.n = N ∧ L6.synced = sy) := ⟨(HO.out.1.upd hdr (fun _ _ h => h)).upd hu7 (fun _ _ h => h), (HO.out.2.1.trans hdr).trans hu7, HO.out.2.2.1, HO.out.2.2.2.2.2⟩
        refine hK _ _ _ (fun u h => h) (fun _ => HS7) ?_
        clear hK htold hlen hsl hdr hu7 HS HO HP6
        try (simp only [Act.put, List.setIfInBounds_toArray, List.set_cons_zero, List.set_cons_succ])
        iterate 2 (first | (apply planD_held rfl rfl rfl (by simp) HS7; (intro w' hS K hK; go_simp; exact hK)) | (apply planD_wanted rfl rfl rfl (by simp) HS7; (intro w' hS K hK; go_simp; exact hK)))
        refine planD_nil ?_
        clear HS7 fT
        go_wp2_with fail
        have HO8 : Hid (Hist w7.drew lb2 db L6 D F6 T (all.take sy) ∧ Upd (fun _ => False) w4 w7.drew ∧ (∀ q, F6 q → F q ∨ w4.heap.size ≤ q) ∧ L6.fr = p ∧ L6.n = N ∧ L6.synced = sy) := ⟨HO7.out.1.upd ((Upd.refl _ _).drew) (fun _ _ h => h), HO7.out.2.1.drew, HO7.out.2.2⟩
        have HP8 : Hid (PlaysW w w7.drew lb1 db rb p N k L D F T all al x c vs A) := HP4.out.step HO8.out.2.1
        have HS : w7.drew.cell? ⟨rb, 1, none⟩ = some (.slice x al c) ∧ w7.drew.cell? ⟨rb, 3, none⟩ = some (.int .i64 sy) := by
          have h2 := HP8.out.ref.cells.cell 1
          have h3 := HP8.out.ref.cells.cell 3
          rw [Hsy.out] at h3
          exact ⟨h2, h3⟩
        have hf8 := HP8.out.ref.cells.frozen 1
        have hcut : ∀ u, (Instr.slice 39 (.slice x al c) none (some (.int .i64 sy)) none).run Try.prog u = .ok (.slice x sy c) u := fun u => slice_cut _ _ Try.underlying39 (by kernel_rfl) HP8.out.ref.mid sy Hlow.out.2 u
        refine wp_region_planD (fun u => u.cell? ⟨rb, 1, none⟩ = some (.slice x al c) ∧ u.cell? ⟨rb, 3, none⟩ = some (.int .i64 sy)) 12 [(0, true), (1, true), (2, true), (3, true), (4, true), (5, true), (6, true), (7, true), (8, true), (9, true), (10, true), (11, true), (12, false)] (by kernel_rfl) (by kernel_rfl) (fun d _ _ _ _ h => by cases d <;> exact h) HS ?_
        iterate 12 (first | (apply planD_held rfl rfl rfl (by simp) HS; (intro w' hS K hK; go_simp; exact hK)) | (apply planD_wanted rfl rfl rfl (by simp) HS; (intro w' hS K hK; go_simp; exact hK)))
        have HP : Hid (PlaysW w (w7.drew.setCell ⟨rb, 1, none⟩ (.slice x sy c)) lb2 db rb p N (k + 1) L6 D F6 T (all.take sy) sy x c (vs.take sy) A) := by
          have h7 := open_both (w2 := w7.drew) (lb2 := lb2) (L' := L6) (F' := F6) HP4.out (by rw [Hsy.out]; exact HO8.out.1) HO8.out.2.1 HO8.out.2.2.1 HO8.out.2.2.2.1 HO8.out.2.2.2.2.1 (HO8.out.2.2.2.2.2.trans Hsy.out.symm) rfl
          rw [Hsy.out] at h7
          exact h7
        refine planD_op rfl rfl (fun K hK => ?_)
        have c1 := HS.1
        go_simp
        refine hK _ _ _ (fun u h => h) (fun h => absurd rfl h) ?_
        clear hK c1
        try (simp only [Act.put, List.setIfInBounds_toArray, List.set_cons_zero, List.set_cons_succ])
        refine planD_nil ?_
        clear HS hcut hf8 HO8 HP8 HO7 HP4
        have HP8 : Hid (PlaysW w ((w7.setCell ⟨rb, 1, none⟩ (.slice x sy c)).drew) lb2 db rb p N (k + 1) L6 D F6 T (all.take sy) sy x c (vs.take sy) A) := HP.out
        clear HP Hsy
        generalize (w7.setCell ⟨rb, 1, none⟩ (.slice x sy c)).drew = w8 at HP8 ⊢
        have HP9 : Hid (∃ (al : Nat) (L : LSt) (F : Nat → Prop) (all : List Batch) (vs : List Value), PlaysW w w8 lb2 db rb p N (k + 1) L D F T all al x c vs A) := ⟨_, _, _, _, _, HP8.out⟩
        clear HP8
        obtain ⟨al, L, F, all, vs, HP⟩ := HP9.out
        have HP := Lib.hid HP
        clear HP9
        go_wp2_with fail
        obtain ⟨R, hR⟩ : ∃ R, N - 1 - needsB (all.drop T) = R := ⟨_, rfl⟩
        obtain ⟨sy, hsy⟩ : ∃ sy, L.synced = sy := ⟨_, rfl⟩
        have HZ := Lib.hid (And.intro hR (And.intro hsy (show k + 1 ≤ 100000000 by have := Hk.out; omega)))
        have dT : (T : Int) ≤ 100000000 := by have h1 := HP.out.low; have h2 := HP.out.le; have h3 := Hk.out; omega
        have fT : IntKind.i64.wrap ((T : Int) + 1) = (T : Int) + 1 := by rw [IntKind.wrap_i64]; omega
        have HS0 := tail_step (tail_cells HP.out hsy) ((Upd.refl (fun _ => False) _).drew)
        clear hR hsy
        refine wp_region_planD (fun u => Hid (PlaysW w u lb2 db rb p N (k + 1) L D F T all al x c vs A) ∧ u.cell? ⟨rb, 1, none⟩ = some (.slice x al c) ∧ u.cell? ⟨rb, 2, none⟩ = some (.int .i64 T) ∧ u.cell? ⟨rb, 3, none⟩ = some (.int .i64 sy)) 34 [(0, true), (2, true), (1, false), (3, false), (4, true), (5, true), (6, true), (8, true), (9, true), (10, true), (11, true), (12, true), (7, false), (13, true), (14, true), (15, true), (16, true), (18, true), (19, true), (20, true), (21, true), (22, true), (17, false), (23, true), (24, true), (25, true), (26, true), (28, true), (29, true), (30, true), (31, true), (27, false), (32, true), (33, true)] (by kernel_rfl) (by kernel_rfl) (fun d _ _ _ _ h => by cases d <;> exact h) HS0 ?_
        iterate 2 (first | (apply planD_held rfl rfl rfl (by simp) HS0; (intro w' hS K hK; go_simp; exact hK)) | (apply planD_wanted rfl rfl rfl (by simp) HS0; (intro w' hS K hK; go_simp; exact hK)))
        refine planD_op rfl rfl (fun K hK => ?_)
        go_simp
        refine (tail_room HS0.1.out HZ.out.1).mono ?_
        rintro e wn1 ⟨rfl, hwn⟩
        dsimp only
        have HS1 := tail_step (u' := wn1) HS0 (by rw [hwn]; exact (Upd.refl (fun _ => False) _).drew)
        refine hK _ _ _ (fun u h => h) (fun _ => HS1) ?_
        clear hK hwn HS0
        try (simp only [Act.put, List.setIfInBounds_toArray, List.set_cons_zero, List.set_cons_succ])
        refine planD_op rfl rfl (fun K hK => ?_)
        go_simp
        refine (tail_rroom HS1.1.out HZ.out.1 HZ.out.2.2).mono ?_
        rintro e wn2 ⟨rfl, hwn⟩
        dsimp only
        have HS2 := tail_step (u' := wn2) HS1 (by rw [← hwn]; exact (Upd.refl (fun _ => False) _))
        refine hK _ _ _ (fun u h => h) (fun _ => HS2) ?_
        clear hK hwn HS1
        try (simp only [Act.put, List.setIfInBounds_toArray, List.set_cons_zero, List.set_cons_succ])
        iterate 8 (first | (apply planD_held rfl rfl rfl (by simp) HS2; (intro w' hS K hK; go_simp; exact hK)) | (apply planD_wanted rfl rfl rfl (by simp) HS2; (intro w' hS K hK; go_simp; exact hK)))
        refine planD_op rfl rfl (fun K hK => ?_)
        go_simp
        refine (tail_first HS2.1.out).mono ?_
        rintro e wn3 ⟨rfl, hwn⟩
        dsimp only
        have HS3 := tail_step (u' := wn3) HS2 (by rw [← hwn]; exact (Upd.refl (fun _ => False) _))
        refine hK _ _ _ (fun u h => h) (fun _ => HS3) ?_
        clear hK hwn HS2
        try (simp only [Act.put, List.setIfInBounds_toArray, List.set_cons_zero, List.set_cons_succ])
        iterate 9 (first | (apply planD_held rfl rfl rfl (by simp) HS3; (intro w' hS K hK; go_simp; exact hK)) | (apply planD_wanted rfl rfl rfl (by simp) HS3; (intro w' hS K hK; go_simp; exact hK)))
        refine planD_op rfl rfl (fun K hK => ?_)
        go_simp
        refine (tail_last HS3.1.out).mono ?_
        rintro e wn4 ⟨rfl, hwn⟩
        dsimp only
        have HS4 := tail_step (u' := wn4) HS3 (by rw [← hwn]; exact (Upd.refl (fun _ => False) _))
        refine hK _ _ _ (fun u h => h) (fun _ => HS4) ?_
        clear hK hwn HS3
        try (simp only [Act.put, List.setIfInBounds_toArray, List.set_cons_zero, List.set_cons_succ])
        iterate 8 (first | (apply planD_held rfl rfl rfl (by simp) HS4; (intro w' hS K hK; go_simp; exact hK)) | (apply planD_wanted rfl rfl rfl (by simp) HS4; (intro w' hS K hK; go_simp; exact hK)))
        refine planD_op rfl rfl (fun K hK => ?_)
        go_simp
        refine (tail_synced HS4.1.out HZ.out.2.1).mono ?_
        rintro e wn5 ⟨rfl, hwn⟩
        dsimp only
        have HS5 := tail_step (u' := wn5) HS4 (by rw [← hwn]; exact (Upd.refl (fun _ => False) _))
        refine hK _ _ _ (fun u h => h) (fun _ => HS5) ?_
        clear hK hwn HS4
        try (simp only [Act.put, List.setIfInBounds_toArray, List.set_cons_zero, List.set_cons_succ])
        iterate 2 (first | (apply planD_held rfl rfl rfl (by simp) HS5; (intro w' hS K hK; go_simp; exact hK)) | (apply planD_wanted rfl rfl rfl (by simp) HS5; (intro w' hS K hK; go_simp; exact hK)))
        refine planD_nil ?_
        have HP9 := HS5.1
        clear HS5 HZ HP fT
        go_wp2_with fail
        exact ⟨⟨k + 1, _, _, _, _, _, _, _, _, _, _, _, by omega, by go_num, rfl, HP9⟩, by simp [intOf]; omega⟩
    · obtain rfl : k = m := by omega
      clear hlt
      go_wp2_with fail
      go_ret
      exact ⟨rfl, HP.out.upd.below0⟩
end Go.Proofs.Ytocameknhglklaa
