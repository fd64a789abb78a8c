/- docketlaw04.PagerMakes. -/
import Derived.Test.YtihlijnobbonbaaGreatPa10
namespace Go.Proofs.YtihlijnobbonbaaGreat
open Go Go.RowKit
set_option linter.unusedSimpArgs false
set_option linter.unusedVariables false
set_option maxRecDepth 100000

theorem pcheck_nil (v : Value) (w : World) : Calls Tryz.prog 37 #[.pointer none, v] w fun e w' => e = .returned (.int .i64 2) ∧ w = w' := by
  go_enter Tryz.func37, Tryz.ntmps37
  go_wp2_with fail
  go_ret
  exact ⟨rfl, rfl⟩
theorem pcheck_bad {w : World} {db : Nat} {D : DSt} {F : Nat → Prop} (hD : DiskAt w db D F) (log : Int) (h : log < 2 ∨ (D.secs.length : Int) ≤ log) : Calls Tryz.prog 37 #[.pointer (some ⟨db, 0, none⟩), .int .i64 log] w fun e w' => e = .returned (.int .i64 1) ∧ w = w' := by
  have hsz := size_disk hD
  obtain ⟨S, hSS⟩ : ∃ S, D.secs.length = S := ⟨_, rfl⟩
  rw [hSS] at hsz h
  have Hsz := Lib.hid hsz
  clear hsz hSS hD
  by_cases h1 : log < 2
  · clear h
    go_enter Tryz.func37, Tryz.ntmps37
    go_wp2_with fail
    go_ret
    exact ⟨rfl, rfl⟩
  · have h2 : (S : Int) ≤ log := by omega
    have q1 : decide (log < 2) = false := by simpa using h1
    clear h h1
    go_enter Tryz.func37, Tryz.ntmps37
    go_wp2_with fail
    refine Hsz.out.mono ?_
    rintro e w1 ⟨rfl, rfl⟩
    dsimp only
    go_wp2_with fail
    go_ret
    exact ⟨rfl, rfl⟩
theorem popen_err (dv : Value) (log e : Int) (w : World) (he : (e != 0) = true) (hc : Calls Tryz.prog 37 #[dv, .int .i64 log] w fun r w' => r = .returned (.int .i64 e) ∧ w = w') :
    Calls Tryz.prog 29 #[dv, .int .i64 log] w fun r w' => r = .returned (.tuple #[.pointer none, .int .i64 e]) ∧ w = w' := by
  have Hc := Lib.hid hc
  clear hc
  go_enter Tryz.func29, Tryz.ntmps29
  go_wp2_with fail
  refine Hc.out.mono ?_
  rintro r w1 ⟨rfl, rfl⟩
  dsimp only
  go_wp2_with fail
  go_ret2
  exact ⟨rfl, rfl⟩
theorem pmake_err (dv : Value) (log e : Int) (w : World) (he : (e != 0) = true) (hc : Calls Tryz.prog 37 #[dv, .int .i64 log] w fun r w' => r = .returned (.int .i64 e) ∧ w = w') :
    Calls Tryz.prog 11 #[dv, .int .i64 log] w fun r w' => r = .returned (.tuple #[.pointer none, .int .i64 e]) ∧ w = w' := by
  have Hc := Lib.hid hc
  clear hc
  go_enter Tryz.func11, Tryz.ntmps11
  go_wp2_with fail
  refine Hc.out.mono ?_
  rintro r w1 ⟨rfl, rfl⟩
  dsimp only
  go_wp2_with fail
  go_ret2
  exact ⟨rfl, rfl⟩
/-- The log isn't opened. -/
theorem popen_log {w : World} {db : Nat} {D : DSt} {F : Nat → Prop} (hD : DiskAt w db D F) (log : Nat) (h2 : 2 ≤ log) (hS : log < D.secs.length) (e : Int) (he : (e != 0) = true)
    (hc : Calls Tryz.prog 54 #[.pointer (some ⟨db, 0, none⟩), .int .i64 0, .int .i64 (log : Nat)] w fun r w' => r = .returned (.tuple #[.pointer none, .slice none 0 0, .int .i64 e]) ∧ Upd (fun _ => False) w w') :
    Calls Tryz.prog 29 #[.pointer (some ⟨db, 0, none⟩), .int .i64 (log : Nat)] w fun r w' => r = .returned (.tuple #[.pointer none, .int .i64 e]) ∧ Upd (fun _ => False) w w' := by
  have hk := check_pg hD log h2 hS
  have Hc := Lib.hid (And.intro hk hc)
  clear hk hc hD h2 hS
  go_enter Tryz.func29, Tryz.ntmps29
  go_wp2_with fail
  refine Hc.out.1.mono ?_
  rintro r w1 ⟨rfl, rfl⟩
  dsimp only
  go_wp2_with fail
  refine Hc.out.2.mono ?_
  rintro r w1 ⟨rfl, hu⟩
  dsimp only
  have Hu := Lib.hid hu
  clear hu
  go_wp2_with fail
  go_ret2
  exact ⟨rfl, Hu.out⟩
/-- Make on a dead disk. -/
theorem pmake_dead {w : World} {db : Nat} {D : DSt} {F : Nat → Prop} (hD : DiskAt w db D F) (hd : D.dead = true) (log : Nat) (h2 : 2 ≤ log) (hS : log < D.secs.length) :
    Calls Tryz.prog 11 #[.pointer (some ⟨db, 0, none⟩), .int .i64 (log : Nat)] w fun r w' => r = .returned (.tuple #[.pointer none, .int .i64 10]) ∧ Upd (fun _ => False) w w' := by
  have hk := check_pg hD log h2 hS
  have hsz := size_disk hD
  have hmx := hD.1.most
  have hwr : D.write (log : Nat) [] = (D, 10) := by rw [DSt.write, if_pos hd]
  have c3 : ∃ sv wv f, w.heap[db]? = some (.cells #[sv, wv, .int .i64 f, .bool true] 89 (0, 0)) := by
    obtain ⟨hOk, hFb, hFlt, sb, sc, scur, wv, hb, _⟩ := id hD
    rw [hd] at hb
    exact ⟨_, _, _, hb⟩
  obtain ⟨sv, wv, f, hb⟩ := c3
  have hck := check_dead db (log : Nat) w (four hb).2.2.2
  have hwd := write_err db (log : Nat) 10 (.slice none 0 0) w rfl hck
  obtain ⟨S, hSS⟩ : ∃ S, D.secs.length = S := ⟨_, rfl⟩
  rw [hSS] at hsz hS hmx
  have Hc := Lib.hid (And.intro hk (And.intro hsz hwd))
  have hSI : (log : Int) < (S : Int) := by omega
  have hSI2 : (S : Int) ≤ 4096 := by omega
  clear hk hsz hwd hD h2 hS hwr hck hb hd hSS hmx
  go_enter Tryz.func11, Tryz.ntmps11
  go_wp2_with fail
  refine Hc.out.1.mono ?_
  rintro r w1 ⟨rfl, rfl⟩
  dsimp only
  go_wp2_with fail
  go_loopw [7] (fun i wr => i = .int .i64 (log : Nat) ∧ wr = w) (fun i _ => 0)
  case atStart => exact ⟨rfl, rfl⟩
  case round =>
    obtain ⟨rfl, rfl⟩ := hrel
    go_wp2_with fail
    refine Hc.out.2.1.mono ?_
    rintro r w1 ⟨rfl, rfl⟩
    dsimp only
    go_wp2_with fail
    refine Hc.out.2.2.mono ?_
    rintro r w1 ⟨rfl, hu⟩
    dsimp only
    go_wp2_with fail
    go_ret2
    subst hu
    exact ⟨rfl, Upd.refl _ _⟩
theorem Pgr.disk {w : World} {pb db skip N sy : Nat} {cs : List Img} {f : Int} {K : Nat → Prop} (h : Pgr w pb db skip N cs sy f K) :
    ∃ (D : DSt) (G : Nat → Prop) (st T : Nat), DiskAt w db D G ∧ (∀ q, G q → K q) ∧ D.dead = false ∧ D.waits.length < 1000000 ∧ D.secs.length = skip + N ∧ D.fuel = f ∧ (∀ p ∈ D.waits, p.1 < skip) ∧ (∀ p ∈ D.waits, p.1 ≠ 0 ∧ ∀ i, i < needsB (seg (cs.map encC) T sy) → p.1 ≠ ringAt 0 skip (st + i)) ∧ Good D.secs 0 skip st (T + 1) sy (seg (cs.map encC) T sy) ∧ FullH D.secs skip N (cs.take T) ∧ T ≤ sy ∧ sy ≤ cs.length := by
  obtain ⟨lb, fb, L, D, es, F, T, h1, h2, h3, h4, rfl⟩ := h
  obtain ⟨G, hG, hGF⟩ := h1.wal.disk
  have h5 := h2.wl
  have h6 := h2.inv.ok.used
  have h7 := h2.n
  have h8 := hG.1.most
  have h9 := h2.secs
  have h10 := h2.inv.waits
  have h11 := h2.inv.good
  have h12 := h2.inv.high
  have h13 := h2.inv.low
  rw [List.length_map] at h12
  rw [h2.fr, h2.n, h3] at h10 h11
  exact ⟨D, G, L.start, T, hG, fun q hq => .inr (.inr (hGF q hq)), h2.inv.live, by omega, h9, h4, h2.wr, h10, h11, h2.home, by omega, by omega⟩
theorem zero_magic : zeros512.take 12 ≠ magicB := by decide
set_option maxHeartbeats 8000000 in
theorem pagerMakes_walk (n : Nat) (hn : n ≤ 255) (log : Int) (hl1 : -9223372036854775808 ≤ log) (hl2 : log ≤ 9223372036854775807) (w : World) : Calls Tryz.prog 6 #[.int .u8 n, .int .i64 log] w fun e w' => e = .returned (.bool true) ∧ Below w.heap.size w w' := by
  have hnI : (n : Int) ≤ 255 := by omega
  have f0 : IntKind.i64.wrap (n : Int) = (n : Int) := by rw [IntKind.wrap_i64]; omega
  obtain ⟨S, hS⟩ : ∃ S, max n 1 = S := ⟨_, rfl⟩
  have hSb : 1 ≤ S ∧ S ≤ 255 := by omega
  have hSl : (DSt.new (n : Int)).secs.length = S := by
    show (List.replicate (min (max (n : Int) 1) 4096).toNat zeros512).length = S
    rw [List.length_replicate]; omega
  have HS0 := Lib.hid (And.intro hS (And.intro hSb hSl))
  clear hS hSb hSl
  go_enter Tryz.func6, Tryz.ntmps6
  go_wp2_with fail
  refine (fixed_ok w).mono ?_
  rintro e w1 ⟨rfl, hu1⟩
  dsimp only
  have HU1 := Lib.hid hu1
  clear hu1
  go_wp2_with fail
  refine (new_disk (n : Int) w1).mono ?_
  rintro e w2 ⟨db, F, rfl, hD, hu, hF⟩
  dsimp only
  have H2 := Lib.hid (And.intro hD (And.intro (HU1.out.trans hu) (fun q hq => Nat.le_trans HU1.out.size (hF q hq))))
  have hsz := size_disk hD
  rw [HS0.out.2.2] at hsz
  have Hsz := Lib.hid hsz
  clear hD hu hF hsz
  by_cases hb : log < 2 ∨ (S : Int) ≤ log
  · have hck := pcheck_bad H2.out.1 log (by rw [HS0.out.2.2]; exact hb)
    have Hop := Lib.hid (popen_err _ log 1 w2 rfl hck)
    have Hmk := Lib.hid (pmake_err _ log 1 w2 rfl hck)
    have Hm2 := Lib.hid (pmake_err _ log 2 w2 rfl (pcheck_nil (.int .i64 log) w2))
    clear hck
    rcases hb with hb1 | hb1
    · go_wp2_with fail
      refine Hop.out.mono ?_
      rintro r w3 ⟨rfl, rfl⟩
      dsimp only
      go_wp2_with fail
      refine Hmk.out.mono ?_
      rintro r w3 ⟨rfl, rfl⟩
      dsimp only
      go_wp2_with fail
      refine Hm2.out.mono ?_
      rintro r w3 ⟨rfl, rfl⟩
      dsimp only
      go_wp2_with fail
      go_ret
      exact ⟨rfl, H2.out.2.1.below0⟩
    · by_cases hb2 : log < 2
      · go_wp2_with fail
        refine Hop.out.mono ?_
        rintro r w3 ⟨rfl, rfl⟩
        dsimp only
        go_wp2_with fail
        refine Hmk.out.mono ?_
        rintro r w3 ⟨rfl, rfl⟩
        dsimp only
        go_wp2_with fail
        refine Hm2.out.mono ?_
        rintro r w3 ⟨rfl, rfl⟩
        dsimp only
        go_wp2_with fail
        go_ret
        exact ⟨rfl, H2.out.2.1.below0⟩
      · have q1 : decide (log < 2) = false := by simpa using hb2
        clear hb2
        go_wp2_with fail
        refine Hsz.out.mono ?_
        rintro r w3 ⟨rfl, rfl⟩
        dsimp only
        go_wp2_with fail
        refine Hop.out.mono ?_
        rintro r w3 ⟨rfl, rfl⟩
        dsimp only
        go_wp2_with fail
        refine Hmk.out.mono ?_
        rintro r w3 ⟨rfl, rfl⟩
        dsimp only
        go_wp2_with fail
        refine Hm2.out.mono ?_
        rintro r w3 ⟨rfl, rfl⟩
        dsimp only
        go_wp2_with fail
        go_ret
        exact ⟨rfl, H2.out.2.1.below0⟩
  · obtain ⟨lg, rfl⟩ : ∃ lg : Nat, log = (lg : Int) := ⟨log.toNat, by omega⟩
    have hlg : 2 ≤ lg ∧ lg < S := by omega
    have hnS : n = S := by have := HS0.out.1; omega
    obtain ⟨N, hN⟩ : ∃ N, lg + N = n := ⟨n - lg, by omega⟩
    have q1 : decide ((lg : Int) < 2) = false := by simp; omega
    have q2 : decide (S ≤ lg) = false := by simp; omega
    have q2' : decide ((lg : Int) ≥ (S : Int)) = false := by simp; omega
    have hm0 : (done (DSt.new (n : Int)).secs (DSt.new (n : Int)).waits)[0]? = some zeros512 := by
      show (List.replicate (min (max (n : Int) 1) 4096).toNat zeros512)[0]? = _
      rw [List.getElem?_replicate, if_pos (by omega)]
    have hwo := open_magic H2.out.1 0 lg hlg.1 (by rw [HS0.out.2.2]; omega) (by show (0 : Nat) < _; decide) rfl zeros512 hm0 zeros512_length zero_magic
    have hop := popen_log H2.out.1 lg hlg.1 (by rw [HS0.out.2.2]; exact hlg.2) 11 rfl hwo
    have Hop := Lib.hid hop
    have Hlg := Lib.hid (And.intro hlg (And.intro hnS hN))
    clear hb hlg hnS hN hm0 hwo hop
    go_wp2_with fail
    refine Hsz.out.mono ?_
    rintro r w3 ⟨rfl, rfl⟩
    dsimp only
    go_wp2_with fail
    refine Hop.out.mono ?_
    rintro r w3 ⟨rfl, hu3⟩
    dsimp only
    have H3 : Hid (DiskAt w3 db (DSt.new ((lg + N : Nat) : Int)) F ∧ Upd (fun _ => False) w w3) := by
      rw [Hlg.out.2.2]
      exact ⟨H2.out.1.upd hu3 (fun _ _ h => h), H2.out.2.1.trans hu3⟩
    clear hu3 Hop Hsz
    go_wp2_with fail
    refine (qmake_ok lg N Hlg.out.1.1 (by have := Hlg.out; omega) (by have := Hlg.out; omega) H3.out.1 (lg : Int) rfl).mono ?_
    rintro e w4 ⟨pb, K, rfl, hp, hu4, hK⟩
    dsimp only
    have H4 : Hid (Pgr w4 pb db lg N [] 0 (-1) K ∧ Upd (fun _ => False) w w4 ∧ (∀ q, K q → w.heap.size ≤ q)) :=
      ⟨hp, H3.out.2.then hu4 (fun q hq => .inr (H2.out.2.2 q hq)), fun q hq => by
        rcases hK q hq with e | e
        · exact H2.out.2.2 q e
        · exact Nat.le_trans H3.out.2.size e⟩
    clear hp hu4 hK H3 H2
    go_wp2_with fail
    refine (qblocks_ok H4.out.1).mono ?_
    rintro e w5 ⟨rfl, rfl⟩
    dsimp only
    obtain ⟨D, G, st, T, hDk⟩ := (H4.out.1.upd (Upd.refl (fun _ => False) w4).drew (fun _ _ h => h)).disk
    have HD := Lib.hid hDk
    have hU5 := Lib.hid H4.out.2.1.drew
    generalize w4.drew = w5 at *
    have hsz := size_disk HD.out.1
    rw [HD.out.2.2.2.2.1] at hsz
    have Hsz := Lib.hid hsz
    clear hDk hsz
    go_wp2_with fail
    refine Hsz.out.mono ?_
    rintro r w6 ⟨rfl, rfl⟩
    dsimp only
    have fN : IntKind.i64.wrap (((lg + N : Nat) : Int) - (lg : Int)) = (N : Int) := by rw [IntKind.wrap_i64]; have := Hlg.out; omega
    have fN2 : IntKind.i64.wrap ((lg : Int) + (N : Int) - (lg : Int)) = (N : Int) := by rw [IntKind.wrap_i64]; have := Hlg.out; omega
    have hKn : ∀ q, G q → w.heap.size ≤ q := fun q hq => H4.out.2.2 q (HD.out.2.1 q hq)
    have HK := Lib.hid hKn
    clear hKn
    by_cases hg2 : (2 : Int) < (lg : Int)
    · have hm0 := (HD.out.2.2.2.2.2.2.2.2.1.avoid D.waits HD.out.2.2.2.2.2.2.2.1).mark
      have hwo := open_n HD.out.1 0 (lg - 1) (by omega) (by rw [HD.out.2.2.2.2.1]; omega) (by have := HD.out.2.2.2.1; omega) HD.out.2.2.1 _ hm0 (pad_length (by rw [markB_length]; decide)) (mark_magic _ _ _ _ _) (mark_f0 _ _ _ _ _ (by decide)) lg (mark_f1 _ _ _ _ _ (by have := Hlg.out; omega)) (by omega)
      have hop := popen_log HD.out.1 (lg - 1) (by omega) (by rw [HD.out.2.2.2.2.1]; have := Hlg.out; omega) 11 rfl hwo
      have elg : (((lg - 1 : Nat)) : Int) = (lg : Int) - 1 := by omega
      rw [elg] at hop
      have Hop1 := Lib.hid hop
      clear hm0 hwo hop elg
      go_wp2_with fail
      refine Hop1.out.mono ?_
      rintro e w6 ⟨rfl, hu6⟩
      dsimp only
      have HDx : Hid (DiskAt w6 db D G ∧ (∀ q, G q → w.heap.size ≤ q) ∧ Upd (fun _ => False) w w6) := ⟨HD.out.1.upd hu6 (fun _ _ h => h), HK.out, hU5.out.trans hu6⟩
      clear hu6 Hop1
      go_wp2_with fail
      refine (fuel_disk HDx.out.1 0 (by decide)).mono ?_
      rintro e w7 ⟨rfl, hd7, hu7⟩
      dsimp only
      have H7 : Hid (DiskAt w7 db (D.setFuel 0) G ∧ Upd (fun _ => False) w w7) := ⟨hd7, HDx.out.2.2.then hu7 (fun q hq => .inr (HDx.out.2.1 q hq))⟩
      clear hd7 hu7
      go_wp2_with fail
      have hfl : (D.setFuel 0).flush = ({ D.setFuel 0 with dead := true }, 10) := by
        rw [DSt.flush, if_neg (by show ¬ D.dead = true; rw [HD.out.2.2.1]; decide), if_pos (by show max 0 (-1) = (0 : Int); decide)]
      refine (flush_disk H7.out.1 (by show D.waits.length < _; have := HD.out.2.2.2.1; omega) hfl).mono ?_
      rintro e w8 ⟨rfl, hd8, hu8⟩
      dsimp only
      have H8 : Hid (DiskAt w8 db { D.setFuel 0 with dead := true } G ∧ Upd (fun _ => False) w w8) := ⟨hd8, H7.out.2.then hu8 (fun q hq => .inr (HDx.out.2.1 q hq))⟩
      clear hd8 hu8 hfl
      have hod := open_dead H8.out.1 0 lg Hlg.out.1.1 (by show 0 + lg ≤ D.secs.length; rw [HD.out.2.2.2.2.1]; omega) (by show D.waits.length < _; have := HD.out.2.2.2.1; omega) rfl
      have hop := popen_log H8.out.1 lg Hlg.out.1.1 (by show lg < D.secs.length; rw [HD.out.2.2.2.2.1]; have := Hlg.out; omega) 10 rfl hod
      have Hop := Lib.hid hop
      clear hod hop
      go_wp2_with fail
      refine Hop.out.mono ?_
      rintro e w9 ⟨rfl, hu9⟩
      dsimp only
      have H9 : Hid (DiskAt w9 db { D.setFuel 0 with dead := true } G ∧ Upd (fun _ => False) w w9) := ⟨H8.out.1.upd hu9 (fun _ _ h => h), H8.out.2.trans hu9⟩
      clear hu9
      go_wp2_with fail
      refine (pmake_dead H9.out.1 rfl lg Hlg.out.1.1 (by show lg < D.secs.length; rw [HD.out.2.2.2.2.1]; have := Hlg.out; omega)).mono ?_
      rintro e w10 ⟨rfl, hu10⟩
      dsimp only
      have H10 := Lib.hid (H9.out.2.trans hu10)
      clear hu10
      go_wp2_with fail
      go_ret
      exact ⟨rfl, H10.out.below0⟩
    · have HDx : Hid (DiskAt w5 db D G ∧ (∀ q, G q → w.heap.size ≤ q) ∧ Upd (fun _ => False) w w5) := ⟨HD.out.1, HK.out, hU5.out⟩
      go_wp2_with fail
      refine (fuel_disk HDx.out.1 0 (by decide)).mono ?_
      rintro e w7 ⟨rfl, hd7, hu7⟩
      dsimp only
      have H7 : Hid (DiskAt w7 db (D.setFuel 0) G ∧ Upd (fun _ => False) w w7) := ⟨hd7, HDx.out.2.2.then hu7 (fun q hq => .inr (HDx.out.2.1 q hq))⟩
      clear hd7 hu7
      go_wp2_with fail
      have hfl : (D.setFuel 0).flush = ({ D.setFuel 0 with dead := true }, 10) := by
        rw [DSt.flush, if_neg (by show ¬ D.dead = true; rw [HD.out.2.2.1]; decide), if_pos (by show max 0 (-1) = (0 : Int); decide)]
      refine (flush_disk H7.out.1 (by show D.waits.length < _; have := HD.out.2.2.2.1; omega) hfl).mono ?_
      rintro e w8 ⟨rfl, hd8, hu8⟩
      dsimp only
      have H8 : Hid (DiskAt w8 db { D.setFuel 0 with dead := true } G ∧ Upd (fun _ => False) w w8) := ⟨hd8, H7.out.2.then hu8 (fun q hq => .inr (HDx.out.2.1 q hq))⟩
      clear hd8 hu8 hfl
      have hod := open_dead H8.out.1 0 lg Hlg.out.1.1 (by show 0 + lg ≤ D.secs.length; rw [HD.out.2.2.2.2.1]; omega) (by show D.waits.length < _; have := HD.out.2.2.2.1; omega) rfl
      have hop := popen_log H8.out.1 lg Hlg.out.1.1 (by show lg < D.secs.length; rw [HD.out.2.2.2.2.1]; have := Hlg.out; omega) 10 rfl hod
      have Hop := Lib.hid hop
      clear hod hop
      go_wp2_with fail
      refine Hop.out.mono ?_
      rintro e w9 ⟨rfl, hu9⟩
      dsimp only
      have H9 : Hid (DiskAt w9 db { D.setFuel 0 with dead := true } G ∧ Upd (fun _ => False) w w9) := ⟨H8.out.1.upd hu9 (fun _ _ h => h), H8.out.2.trans hu9⟩
      clear hu9
      go_wp2_with fail
      refine (pmake_dead H9.out.1 rfl lg Hlg.out.1.1 (by show lg < D.secs.length; rw [HD.out.2.2.2.2.1]; have := Hlg.out; omega)).mono ?_
      rintro e w10 ⟨rfl, hu10⟩
      dsimp only
      have H10 := Lib.hid (H9.out.2.trans hu10)
      clear hu10
      go_wp2_with fail
      go_ret
      exact ⟨rfl, H10.out.below0⟩
end Go.Proofs.YtihlijnobbonbaaGreat
