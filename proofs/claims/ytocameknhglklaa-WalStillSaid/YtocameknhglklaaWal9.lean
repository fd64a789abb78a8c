/- wal: Trim, the walk. -/
import Derived.Test.YtocameknhglklaaWal8
namespace Go.Proofs.Ytocameknhglklaa
open Go.RowKit
set_option linter.unusedSimpArgs false
set_option linter.unusedVariables false
set_option maxRecDepth 100000

set_option maxHeartbeats 2000000 in
/-- One round of Trim's loop. -/
theorem trim_round {wr : World} {lb db : Nat} {M : LSt} {p : Nat × Nat} {r : List (Nat × Nat)} {mv : Value} {upto : Int} (hOk : M.Ok) (hl : M.list = p :: r) (hp : (p.1 : Int) ≤ upto) (hC : Cells9 wr lb (preL M db mv)) (hM : Mid wr 2 mv M.list.length (listV M.list)) (hmv : mv.ownBlock ≠ some lb) : True := by
  trivial

set_option maxHeartbeats 2000000 in
theorem trim_ok {w : World} {lb db : Nat} {L : LSt} {D : DSt} {F : Nat → Prop} (h : WalAt w lb db L D F) (hwt : D.waits.length < 99999999990) (upto : Int) (hm : upto ≤ 9223372036854775807) :
    Calls Try.prog 18 #[.pointer (some ⟨lb, 0, none⟩), .int .i64 upto] w fun e w' => e = .returned (.int .i64 (L.trim D upto).2.2) ∧ WalPost w lb db (L.trim D upto).1 (L.trim D upto).2.1 F w' := by
  obtain ⟨lv, G, hOk, hC, hM, hD, hG, hlv, hF⟩ := id h
  obtain ⟨c0, c1, c2, c3, c4, c5, c6, c7, c8⟩ := nine hC
  obtain ⟨de, hde⟩ : ∃ de, L.dead = de := ⟨_, rfl⟩
  obtain ⟨sy, hsy⟩ : ∃ sy, L.synced = sy := ⟨_, rfl⟩
  have hsyb : (sy : Int) < 1000000000000000000 := by have := hOk.synced; have := hOk.last; omega
  have H := Lib.hid (And.intro hOk (And.intro hC (And.intro hM (And.intro hD (And.intro hG (And.intro hlv hF))))))
  have Hh := Lib.hid h
  have Hwt := Lib.hid hwt
  clear hOk hC hM hD hG hlv hF h hwt c0 c1 c2 c3 c4 c5 c6
  rw [hde] at c8
  rw [hsy] at c7
  cases de with
  | true =>
    have hs : L.trim D upto = (L, D, 10) := by rw [LSt.trim, if_pos hde]
    rw [hs]
    have Hde := Lib.hid (And.intro hde hsy)
    clear hs hde hsy c7
    go_enter Try.func18, Try.ntmps18
    go_wp2_with fail
    go_ret
    exact ⟨rfl, F, Hh.out, Upd.refl _ _, fun k hk => .inl hk⟩
  | false =>
    by_cases hu : upto < 0 ∨ (sy : Int) < upto
    · have hs : L.trim D upto = (L, D, 1) := by rw [LSt.trim, if_neg (by rw [hde]; decide), if_pos (by rw [hsy]; exact hu)]
      rw [hs]
      have Hde := Lib.hid (And.intro hde hsy)
      clear hs hde hsy
      by_cases h0 : upto < 0
      · clear hu
        go_enter Try.func18, Try.ntmps18
        go_wp2_with fail
        go_ret
        exact ⟨rfl, F, Hh.out, Upd.refl _ _, fun k hk => .inl hk⟩
      · have hu1 : (sy : Int) < upto := by omega
        have hu0 : 0 ≤ upto := by omega
        clear hu h0
        go_enter Try.func18, Try.ntmps18
        go_wp2_with fail
        go_ret
        exact ⟨rfl, F, Hh.out, Upd.refl _ _, fun k hk => .inl hk⟩
    · have hs : L.trim D upto = if ((L.cut upto).mark D).2.2 = 0 then (L.cut upto).mark D else ({ ((L.cut upto).mark D).1 with start := L.start, used := L.used, list := L.list }, ((L.cut upto).mark D).2.1, ((L.cut upto).mark D).2.2) := by
        rw [LSt.trim, if_neg (by rw [hde]; decide), if_neg (by rw [hsy]; exact hu)]
      have hu0 : 0 ≤ upto := by omega
      have hu1 : upto ≤ (sy : Int) := by omega
      have hd0 : decide (upto < 0) = false := by simp; omega
      have hd1 : decide ((sy : Int) < upto) = false := by simp; omega
      have Hs := Lib.hid hs
      have Hde := Lib.hid (And.intro hde hsy)
      obtain ⟨xa, xc, rfl⟩ := H.out.2.2.1.sees.shape
      have hsh := shape_ok (L.start : Nat) (L.used : Nat) xa L.list.length xc H.out.2.1
      have Hsh := Lib.hid hsh
      clear hs hde hsy hu hsh
      go_enter Try.func18, Try.ntmps18
      go_wp2_with fail
      refine Hsh.out.mono ?_
      rintro e w1 ⟨sb, rfl, hsb, hu1', hsz⟩
      dsimp only
      have hrg : w1.rangeAt sb 0 [.int .i64 (L.start : Nat), .int .i64 (L.used : Nat), .slice xa L.list.length xc] := rangeAt_of_row hsb rfl
      have H1 := Lib.hid (And.intro hsb (And.intro hu1' hsz))
      clear hsb hu1' hsz c7 c8
      go_wp2_with ((with_reducible apply wpl_load_mid sb 0 [.int .i64 (L.start : Nat), .int .i64 (L.used : Nat), .slice xa L.list.length xc]); exact rfl; exact hrg; exact Try.underlying108; exact rfl; kernel_rfl; simp only [Act.put, List.setIfInBounds_toArray, List.set_cons_zero, List.set_cons_succ])
      have hu2 : Upd (fun _ => False) w (w1.alloc (.cells #[.int .i64 (L.start : Nat), .int .i64 (L.used : Nat), .slice xa L.list.length xc] 108)) := H1.out.2.1.alloc _
      have htb : (w1.alloc (.cells #[.int .i64 (L.start : Nat), .int .i64 (L.used : Nat), .slice xa L.list.length xc] 108)).heap[w1.heap.size]? = some (.cells #[.int .i64 (L.start : Nat), .int .i64 (L.used : Nat), .slice xa L.list.length xc] 108 (0, 0)) := heap_alloc_new w1 _
      have htl : w.heap.size ≤ w1.heap.size := H1.out.2.1.size
      change Code.wp _ _ _ _ (w1.alloc (.cells #[.int .i64 (L.start : Nat), .int .i64 (L.used : Nat), .slice xa L.list.length xc] 108))
      generalize w1.alloc (.cells #[.int .i64 (L.start : Nat), .int .i64 (L.used : Nat), .slice xa L.list.length xc] 108) = w2 at *
      generalize w1.heap.size = tb at *
      have hC2 := H.out.2.1.upd hu2 (fun h => h)
      have hM2 := H.out.2.2.1.upd hu2 (fun _ _ h => h)
      have HR0 : Hid (TrimR w2 lb db L (.slice xa L.list.length xc) upto L.list.length w2) := ⟨L, _, H.out.1, rfl, rfl, hC2, hM2, Upd.refl _ _, rfl⟩
      have H2 := Lib.hid (And.intro hu2 (And.intro htb htl))
      clear hu2 htb htl hC2 hM2 hrg H1 hd0 hd1
      go_loopg [] L.list.length (fun k wr => Hid (TrimR w2 lb db L (.slice xa L.list.length xc) upto k wr))
      case atStart => exact HR0
      case round =>
        clear HR0
        obtain ⟨M, mv, hMok, hMcut, hMk, hMC, hMM, hMu, hMb⟩ := hrel.out
        obtain ⟨d0, d1, d2, d3, d4, d5, d6, d7, d8⟩ := nine hMC
        by_cases hgo : ∃ p r, M.list = p :: r ∧ (p.1 : Int) ≤ upto
        · obtain ⟨p, r, hl, hp⟩ := hgo
          obtain ⟨hs1, hs2, hs3⟩ := cut_step hMok hl hp
          have hst := hMok.start
          have hfit := hMok.fit
          have hus := hMok.used
          have h2 := hMok.two
          obtain ⟨n, hn⟩ : ∃ n, M.n = n + 2 := ⟨M.n - 2, by omega⟩
          obtain ⟨st, hst'⟩ : ∃ st, M.start = st := ⟨_, rfl⟩
          obtain ⟨us, hus'⟩ : ∃ us, M.used = us := ⟨_, rfl⟩
          obtain ⟨nd, hnd⟩ : ∃ nd, p.2 = nd := ⟨_, rfl⟩
          obtain ⟨nu, hnu⟩ : ∃ nu, p.1 = nu := ⟨_, rfl⟩
          obtain ⟨m, hm'⟩ : ∃ m, r.length = m := ⟨_, rfl⟩
          have hlm : M.list.length = m + 1 := by rw [hl, List.length_cons, hm']
          have hk : gk = m + 1 := by rw [← hMk, hlm]
          obtain ⟨x, c, rfl⟩ := hMM.sees.shape
          rw [hlm] at hMM hMb d5
          rw [hl] at hMM
          obtain ⟨g, off, cap, rfl, rfl, hc1, hc2, e0, e1, htl⟩ := hMM.tail
          have hgl : g ≠ lb := by
            have h1 := (H.out.2.2.2.2.2.1 g (by rw [← hMb]; rfl)).2
            exact h1
          have hdone : Hid (TrimR w2 lb db L (.slice xa L.list.length xc) upto m ((((wr.setCell ⟨lb, 3, none⟩ (.int .i64 (((st : Int) + (nd : Int)) % ((n : Int) + 1)))).setCell ⟨lb, 4, none⟩ (.int .i64 ((us : Int) - (nd : Int)))).setCell ⟨lb, 5, none⟩ (.slice (some ⟨g, if cap = 0 then off else off + 2, none⟩) m cap)).drew.drew)) := by
            have hU : Upd (fun k => k = lb) wr ((((wr.setCell ⟨lb, 3, none⟩ (.int .i64 (((st : Int) + (nd : Int)) % ((n : Int) + 1)))).setCell ⟨lb, 4, none⟩ (.int .i64 ((us : Int) - (nd : Int)))).setCell ⟨lb, 5, none⟩ (.slice (some ⟨g, if cap = 0 then off else off + 2, none⟩) m cap)).drew.drew) :=
              ((upd_set 5 _ (upd_set 4 _ (upd_set 3 _ (Upd.refl _ wr)))).drew).drew
            refine ⟨_, .slice (some ⟨g, if cap = 0 then off else off + 2, none⟩) m cap, hs1, hs2.trans hMcut, hm', ?_, ?_, hMu.trans hU, hMb⟩
            · have h3 := ((hMC.set 3 (by decide) (.int .i64 (((st : Int) + (nd : Int)) % ((n : Int) + 1)))).set 4 (by decide) (.int .i64 ((us : Int) - (nd : Int)))).set 5 (by decide) (.slice (some ⟨g, if cap = 0 then off else off + 2, none⟩) m cap)
              have hd : Upd (fun _ => False) ((((wr.setCell ⟨lb, 3, none⟩ (.int .i64 (((st : Int) + (nd : Int)) % ((n : Int) + 1)))).setCell ⟨lb, 4, none⟩ (.int .i64 ((us : Int) - (nd : Int)))).setCell ⟨lb, 5, none⟩ (.slice (some ⟨g, if cap = 0 then off else off + 2, none⟩) m cap))) ((((wr.setCell ⟨lb, 3, none⟩ (.int .i64 (((st : Int) + (nd : Int)) % ((n : Int) + 1)))).setCell ⟨lb, 4, none⟩ (.int .i64 ((us : Int) - (nd : Int)))).setCell ⟨lb, 5, none⟩ (.slice (some ⟨g, if cap = 0 then off else off + 2, none⟩) m cap)).drew.drew) := ((Upd.refl _ _).drew).drew
              have h4 := h3.upd hd (fun h => h)
              have e1 : ((M.start + p.2) % (M.n - 1) : Nat) = (((st + nd) % (n + 1) : Nat)) := by rw [hst', hnd, hn]; rfl
              have e2 : (((st + nd) % (n + 1) : Nat) : Int) = ((st : Int) + (nd : Int)) % ((n : Int) + 1) := by push_cast; rfl
              have e3 : ((M.used - p.2 : Nat) : Int) = (us : Int) - (nd : Int) := by rw [hus', hnd]; rw [hus', hnd] at hs3; omega
              have e4 : preL { M with start := (M.start + p.2) % (M.n - 1), used := M.used - p.2, list := r } db (.slice (some ⟨g, if cap = 0 then off else off + 2, none⟩) m cap) =
                  [.pointer (some ⟨db, 0, none⟩), .int .i64 M.fr, .int .i64 M.n, .int .i64 (((st : Int) + (nd : Int)) % ((n : Int) + 1)), .int .i64 ((us : Int) - (nd : Int)), .slice (some ⟨g, if cap = 0 then off else off + 2, none⟩) m cap, .int .i64 M.last, .int .i64 M.synced, .bool M.dead] := by
                simp only [preL]
                rw [e1, e2, e3]
              rw [e4]
              exact h4
            · rw [hm']
              exact htl.upd hU (fun k hk => by cases hk; exact hgl)
          rw [hn] at d2
          rw [hst'] at d3
          rw [hus'] at d4
          rw [hnu] at e0 hp
          rw [hnd] at e1
          have f1 : IntKind.i64.wrap ((st : Int) + (nd : Int)) = (st : Int) + (nd : Int) := by rw [IntKind.wrap_i64]; omega
          have f2 : IntKind.i64.wrap (((n + 2 : Nat) : Int) - 1) = (n : Int) + 1 := by rw [IntKind.wrap_i64]; omega
          have f4 : IntKind.i64.wrap ((us : Int) - (nd : Int)) = (us : Int) - (nd : Int) := by rw [IntKind.wrap_i64]; omega
          have hmb : (m : Int) ≤ 9223372036854775806 := by unfold maxLen at hc2; omega
          have q1 : decide ((0 : Int) < (m : Int) + 1) = true := by simp; try omega
          have q2 : decide ((nu : Int) ≤ upto) = true := by simpa using hp
          have hfrz := hMC.frozen
          have hstb : (st : Int) ≤ 4096 ∧ (nd : Int) ≤ 4096 ∧ (n : Int) ≤ 4096 := by omega
          clear hMok hMcut hMk hMC hMM hMu hMb d0 d1 d6 d7 d8 hs1 hs2 hs3 hl htl
          go_wp2_with fail
          have hne : ((n : Int) + 1 == 0) = false := by rw [beq_eq_false_iff_ne]; omega
          have hne2 : ¬ ((n : Int) + 1 = 0) := by omega
          have htm : ((st : Int) + (nd : Int)).tmod ((n : Int) + 1) = ((st : Int) + (nd : Int)) % ((n : Int) + 1) := Int.tmod_eq_emod_of_nonneg (by omega)
          have hm0 : 0 ≤ ((st : Int) + (nd : Int)) % ((n : Int) + 1) := Int.emod_nonneg _ (by omega)
          have hm1 : ((st : Int) + (nd : Int)) % ((n : Int) + 1) < (n : Int) + 1 := Int.emod_lt_of_pos _ (by omega)
          have f3 : IntKind.i64.wrap (((st : Int) + (nd : Int)).tmod ((n : Int) + 1)) = ((st : Int) + (nd : Int)) % ((n : Int) + 1) := by rw [htm, IntKind.wrap_i64]; omega
          have e2 : ((n + 2 : Nat) : Int) = (n : Int) + 2 := by omega
          rw [e2] at f2 d2
          have HS : wr.drew.cell? ⟨lb, 3, none⟩ = some (.int .i64 st) ∧ wr.drew.cell? ⟨lb, 5, none⟩ = some (.slice (some ⟨g, off, none⟩) (m + 1) (cap + 1)) ∧ wr.drew.cell? ⟨lb, 2, none⟩ = some (.int .i64 ((n : Int) + 2)) ∧ wr.drew.cell? ⟨g, off + 1, none⟩ = some (.int .i64 nd) := ⟨d3, d5, d2, e1⟩
          have Hmm := Lib.hid (And.intro hm0 hm1)
          have Hf4 := Lib.hid f4
          clear f4 e2 htm
          refine wp_region_planD (fun w' => w'.cell? ⟨lb, 3, none⟩ = some (.int .i64 st) ∧ w'.cell? ⟨lb, 5, none⟩ = some (.slice (some ⟨g, off, none⟩) (m + 1) (cap + 1)) ∧ w'.cell? ⟨lb, 2, none⟩ = some (.int .i64 ((n : Int) + 2)) ∧ w'.cell? ⟨g, off + 1, none⟩ = some (.int .i64 nd)) 21 [(0, true), (1, true), (2, true), (3, true), (4, true), (5, true), (6, true), (7, true), (8, true), (9, true), (10, true), (11, true), (12, true), (13, true), (14, true), (15, true), (16, true), (17, true), (18, true), (19, true), (20, true), (21, false)] (by kernel_rfl) (by kernel_rfl) (fun d _ _ _ _ h => by cases d <;> exact h) HS ?_
          iterate 21 (first | (apply planD_held rfl rfl rfl (by simp) HS; (intro w' hS K hK; go_simp; exact hK)) | (apply planD_wanted rfl rfl rfl (by simp) HS; (intro w' hS K hK; go_simp; exact hK)))
          refine planD_op rfl rfl (fun K hK => ?_)
          go_simp
          refine hK (fun _ => False) _ _ (fun u h => h.elim) (fun h => absurd rfl h) ?_
          refine planD_nil ?_
          clear HS hK f1 f2 f3 hne hne2 Hmm
          go_wp2_with fail
          have HS : (wr.setCell ⟨lb, 3, none⟩ (.int .i64 (((st : Int) + (nd : Int)).tmod ((n : Int) + 1)))).drew.drew.cell? ⟨lb, 4, none⟩ = some (.int .i64 us) ∧ (wr.setCell ⟨lb, 3, none⟩ (.int .i64 (((st : Int) + (nd : Int)).tmod ((n : Int) + 1)))).drew.drew.cell? ⟨lb, 5, none⟩ = some (.slice (some ⟨g, off, none⟩) (m + 1) (cap + 1)) ∧ (wr.setCell ⟨lb, 3, none⟩ (.int .i64 (((st : Int) + (nd : Int)).tmod ((n : Int) + 1)))).drew.drew.cell? ⟨g, off + 1, none⟩ = some (.int .i64 nd) := by
            refine ⟨?_, ?_, ?_⟩ <;> go_simp
          have f4 := Hf4.out
          refine wp_region_planD (fun w' => w'.cell? ⟨lb, 4, none⟩ = some (.int .i64 us) ∧ w'.cell? ⟨lb, 5, none⟩ = some (.slice (some ⟨g, off, none⟩) (m + 1) (cap + 1)) ∧ w'.cell? ⟨g, off + 1, none⟩ = some (.int .i64 nd)) 14 [(0, true), (1, true), (2, true), (3, true), (4, true), (5, true), (6, true), (7, true), (8, true), (9, true), (10, true), (11, true), (12, true), (13, true), (14, false)] (by kernel_rfl) (by kernel_rfl) (fun d _ _ _ _ h => by cases d <;> exact h) HS ?_
          iterate 14 (first | (apply planD_held rfl rfl rfl (by simp) HS; (intro w' hS K hK; go_simp; exact hK)) | (apply planD_wanted rfl rfl rfl (by simp) HS; (intro w' hS K hK; go_simp; exact hK)))
          refine planD_op rfl rfl (fun K hK => ?_)
          go_simp
          refine hK (fun _ => False) _ _ (fun u h => h.elim) (fun h => absurd rfl h) ?_
          refine planD_nil ?_
          clear HS hK f4
          obtain ⟨o5, ho5⟩ : ∃ o5, (if cap = 0 then off else off + 2) = o5 := ⟨_, rfl⟩
          have hsl := slice_from1 (P := Try.prog) 76 106 2 Try.underlying76 (by kernel_rfl) g off m cap
          rw [ho5] at hsl hdone
          go_wp2_with fail
          go_roundg m
          case measure => omega
          case rel => exact hdone
        · have hstop : M.cut upto = M := cut_stop (fun p r hl => by
            rcases Int.lt_or_le upto p.1 with h | h
            · exact h
            · exact absurd ⟨p, r, hl, h⟩ hgo)
          have hML : L.cut upto = M := by rw [← hMcut, hstop]
          have hexit : M.list.length = 0 ∨ ∃ g off nu m cap, mv = .slice (some ⟨g, off, none⟩) (m + 1) cap ∧ M.list.length = m + 1 ∧ wr.cell? ⟨g, off, none⟩ = some (.int .i64 ((nu : Nat) : Int)) ∧ upto < (nu : Int) ∧ (m : Int) ≤ 9223372036854775806 := by
            cases hl : M.list with
            | nil => exact .inl rfl
            | cons p r =>
              right
              obtain ⟨x, c, rfl⟩ := hMM.sees.shape
              rw [hl, List.length_cons] at hMM
              obtain ⟨g, off, cap, rfl, rfl, hc1, hc2, e0, e1, htl⟩ := hMM.tail
              refine ⟨g, off, p.1, r.length, cap + 1, by rw [hl, List.length_cons], rfl, e0, ?_, by unfold maxLen at hc2; omega⟩
              rcases Int.lt_or_le upto p.1 with h | h
              · exact h
              · exact absurd ⟨p, r, hl, h⟩ hgo
          have HM := Lib.hid (And.intro hMok (And.intro hML (And.intro hMC (And.intro hMM (And.intro hMu hMb)))))
          have Hk := Lib.hid hMk
          clear hMok hMcut hMk hMC hMM hMu hMb hgo hstop hML d0 d1 d2 d3 d4 d6 d7 d8 hrel
          have hrest : ∀ (K : Ending → World → Prop), (∀ w5, (Hid (∃ G', Cells9 w5 lb (preL (M.mark D).1 db mv) ∧ DiskAt w5 db (M.mark D).2.1 G' ∧ Upd (fun k => k = lb ∨ G k) w w5 ∧ (∀ k, G' k → G k ∨ w.heap.size ≤ k) ∧ Mid w5 2 mv M.list.length (listV M.list) ∧ w5.heap[tb]? = some (.cells #[.int .i64 (L.start : Nat), .int .i64 (L.used : Nat), .slice xa L.list.length xc] 108 (0, 0)))) → K (.returned (.int .i64 (M.mark D).2.2)) w5) →
              Calls Try.prog 38 #[.pointer (some ⟨lb, 0, none⟩)] wr K := by
            intro K hK
            have hDr := H.out.2.2.2.1.upd (H2.out.1.mono (fun _ _ h => h.elim) : Upd (fun k => k = lb) w w2) (fun k hk e => H.out.2.2.2.2.1 (e ▸ hk))
            have hDr2 := hDr.upd HM.out.2.2.2.2.1 (fun k hk e => H.out.2.2.2.2.1 (e ▸ hk))
            have hmvb : ∀ k, mv.ownBlock = some k → ¬ G k ∧ k ≠ lb := fun k hk => H.out.2.2.2.2.2.1 k (by rw [← HM.out.2.2.2.2.2]; exact hk)
            refine (mark_raw HM.out.2.2.1 HM.out.2.2.2.1 HM.out.1 hDr2 H.out.2.2.2.2.1 hmvb Hwt.out).mono ?_
            rintro e w5 ⟨rfl, hraw⟩
            refine hK w5 ?_
            obtain ⟨G', r1, r2, r3, r4⟩ := hraw
            have hsz1 := H2.out.1.size
            have hsz2 := HM.out.2.2.2.2.1.size
            refine ⟨G', r1, r2, ?_, ?_, ?_, ?_⟩
            · exact ((H2.out.1.mono (fun _ _ h => h.elim)).trans (HM.out.2.2.2.2.1.mono (fun _ _ h => .inl h))).trans r3
            · intro k hk
              rcases r4 k hk with h | h
              · exact .inl h
              · exact .inr (by omega)
            · exact HM.out.2.2.2.1.upd r3 (fun k hk h => by
                rcases h with h | h
                · exact (hmvb k hk).2 h
                · exact (hmvb k hk).1 h)
            · have htb2 : tb ≠ lb := by have := H2.out.2.2; have := H.out.2.1.lt; omega
              refine r3.heap (HM.out.2.2.2.2.1.heap H2.out.2.1 htb2) (fun h => ?_)
              rcases h with h | h
              · exact htb2 h
              · have := H.out.2.2.2.1.lt _ h; have := H2.out.2.2; omega
          have Hrest := Lib.hid hrest
          have hok1 := (HM.out.1).mark D
          obtain ⟨⟨M1, D1, r⟩, hmk⟩ : ∃ p, M.mark D = p := ⟨_, rfl⟩
          have hs := Hs.out
          rw [HM.out.2.1, hmk] at hs
          rw [hmk] at hok1
          have hfst := mark_fst M D
          rw [hmk] at hfst
          dsimp only at hs hok1 hfst
          have hrest := Hrest.out
          rw [hmk] at hrest
          dsimp only at hrest
          have Hrest := Lib.hid hrest
          have Hs := Lib.hid hs
          have Hok1 := Lib.hid (And.intro hok1 hfst)
          clear hrest hs hok1 hfst hmk
          have hfin : ∀ w5, (Hid (∃ G', Cells9 w5 lb (preL M1 db mv) ∧ DiskAt w5 db D1 G' ∧ Upd (fun k => k = lb ∨ G k) w w5 ∧ (∀ k, G' k → G k ∨ w.heap.size ≤ k) ∧ Mid w5 2 mv M.list.length (listV M.list) ∧ w5.heap[tb]? = some (.cells #[.int .i64 (L.start : Nat), .int .i64 (L.used : Nat), .slice xa L.list.length xc] 108 (0, 0)))) → WalPost w lb db M1 D1 F w5 := by
            intro w5 hw5
            obtain ⟨G', r1, r2, r3, r4, r5, r6⟩ := hw5.out
            obtain ⟨d, hd⟩ := Hok1.out.2
            have hml : M1.list = M.list := by rw [hd]
            have hb := HM.out.2.2.2.2.2
            exact walPost_of_raw Hok1.out.1 (by rw [hml]; exact r5) H.out.2.2.2.2.1 H.out.2.1.lt (fun k hk => H.out.2.2.1.lt k (by rw [← hb]; exact hk)) (fun k hk => H.out.2.2.2.2.2.1 k (by rw [← hb]; exact hk))
              (fun k => by rw [hb]; exact H.out.2.2.2.2.2.2 k) ⟨G', r1, r2, r3, r4⟩
          have Hfin := Lib.hid hfin
          clear hfin
          have htne : tb ≠ lb := by have := H2.out.2.2; have := H.out.2.1.lt; omega
          have htne' : lb ≠ tb := fun e => htne e.symm
          by_cases hr : r = 0
          · have hs := Hs.out
            rw [if_pos hr] at hs
            have Hs := Lib.hid hs
            clear hs
            subst hr
            rcases hexit with hl0 | ⟨g, off, nu, m, cap, rfl, hlm, e0, hnu, hmb⟩
            · obtain ⟨x, c, rfl⟩ := (HM.out.2.2.2.1).sees.shape
              rw [hl0] at d5
              have Hl0 := Lib.hid hl0
              clear hl0
              go_wp2_with fail
              refine Hrest.out _ (fun w5 hw5 => ?_)
              dsimp only
              clear d5
              go_wp2_with fail
              go_ret
              rw [Hs.out]
              exact ⟨rfl, Hfin.out _ hw5⟩
            · have Hl0 := Lib.hid hlm
              have q1 : decide ((0 : Int) < (m : Int) + 1) = true := by simp; try omega
              have q2 : decide ((nu : Int) ≤ upto) = false := by simp; omega
              clear hlm
              go_wp2_with fail
              refine Hrest.out _ (fun w5 hw5 => ?_)
              dsimp only
              clear d5 e0
              go_wp2_with fail
              go_ret
              rw [Hs.out]
              exact ⟨rfl, Hfin.out _ hw5⟩
          · have hs := Hs.out
            rw [if_neg hr] at hs
            have Hs := Lib.hid hs
            have hne : (r != 0) = true := by simp [hr]
            have hback : ∀ w5, (Hid (∃ G', Cells9 w5 lb (preL M1 db mv) ∧ DiskAt w5 db D1 G' ∧ Upd (fun k => k = lb ∨ G k) w w5 ∧ (∀ k, G' k → G k ∨ w.heap.size ≤ k) ∧ Mid w5 2 mv M.list.length (listV M.list) ∧ w5.heap[tb]? = some (.cells #[.int .i64 (L.start : Nat), .int .i64 (L.used : Nat), .slice xa L.list.length xc] 108 (0, 0)))) →
                WalPost w lb db { M1 with start := L.start, used := L.used, list := L.list } D1 F (((w5.setCell ⟨lb, 3, none⟩ (.int .i64 (L.start : Nat))).setCell ⟨lb, 4, none⟩ (.int .i64 (L.used : Nat))).setCell ⟨lb, 5, none⟩ (.slice xa L.list.length xc)).drew := by
              intro w5 hw5
              obtain ⟨G', r1, r2, r3, r4, r5, r6⟩ := hw5.out
              obtain ⟨d, hd⟩ := Hok1.out.2
              have hu : Upd (fun k => k = lb) w5 (((w5.setCell ⟨lb, 3, none⟩ (.int .i64 (L.start : Nat))).setCell ⟨lb, 4, none⟩ (.int .i64 (L.used : Nat))).setCell ⟨lb, 5, none⟩ (.slice xa L.list.length xc)).drew := (upd_set 5 _ (upd_set 4 _ (upd_set 3 _ (Upd.refl _ w5)))).drew
              have hdr : Upd (fun _ => False) (((w5.setCell ⟨lb, 3, none⟩ (.int .i64 (L.start : Nat))).setCell ⟨lb, 4, none⟩ (.int .i64 (L.used : Nat))).setCell ⟨lb, 5, none⟩ (.slice xa L.list.length xc)) (((w5.setCell ⟨lb, 3, none⟩ (.int .i64 (L.start : Nat))).setCell ⟨lb, 4, none⟩ (.int .i64 (L.used : Nat))).setCell ⟨lb, 5, none⟩ (.slice xa L.list.length xc)).drew := (Upd.refl _ _).drew
              have hcu : M = L.cut upto := HM.out.2.1.symm
              have hok : ({ M1 with start := L.start, used := L.used, list := L.list } : LSt).Ok := by
                have h0 := H.out.1
                rw [hd, hcu]
                exact ⟨h0.two, h0.fit, h0.start, h0.used, h0.sum, h0.needs, h0.nums, h0.last, h0.synced⟩
              refine walPost_of_raw (lv := .slice xa L.list.length xc) hok (H.out.2.2.1.upd (r3.trans (hu.mono (fun _ _ h => .inl h))) (fun k hk h => ?_)) H.out.2.2.2.2.1 H.out.2.1.lt (fun k hk => H.out.2.2.1.lt k hk) H.out.2.2.2.2.2.1 H.out.2.2.2.2.2.2 ⟨G', ?_, ?_, r3.trans (hu.mono (fun _ _ h => .inl h)), r4⟩
              · rcases h with h | h
                · exact (H.out.2.2.2.2.2.1 k hk).2 h
                · exact (H.out.2.2.2.2.2.1 k hk).1 h
              · exact ((((r1.set 3 (by decide) (.int .i64 (L.start : Nat))).set 4 (by decide) (.int .i64 (L.used : Nat))).set 5 (by decide) (.slice xa L.list.length xc))).upd hdr (fun h => h)
              · refine r2.upd hu (fun k hk e => ?_)
                rcases r4 k hk with h | h
                · exact H.out.2.2.2.2.1 (e ▸ h)
                · have := H.out.2.1.lt; omega
            have Hback := Lib.hid hback
            have hfr5 : ∀ w5, (Hid (∃ G', Cells9 w5 lb (preL M1 db mv) ∧ DiskAt w5 db D1 G' ∧ Upd (fun k => k = lb ∨ G k) w w5 ∧ (∀ k, G' k → G k ∨ w.heap.size ≤ k) ∧ Mid w5 2 mv M.list.length (listV M.list) ∧ w5.heap[tb]? = some (.cells #[.int .i64 (L.start : Nat), .int .i64 (L.used : Nat), .slice xa L.list.length xc] 108 (0, 0)))) →
                (w5.cell? ⟨tb, 0, none⟩ = some (.int .i64 (L.start : Nat)) ∧ w5.cell? ⟨tb, 1, none⟩ = some (.int .i64 (L.used : Nat)) ∧ w5.cell? ⟨tb, 2, none⟩ = some (.slice xa L.list.length xc)) ∧ (∀ i, w5.frozen? ⟨lb, i, none⟩ = false) ∧ (∃ v, w5.cell? ⟨lb, 3, none⟩ = some v) ∧ (∃ v, w5.cell? ⟨lb, 4, none⟩ = some v) ∧ (∃ v, w5.cell? ⟨lb, 5, none⟩ = some v) := by
              intro w5 hw5
              obtain ⟨G', r1, r2, r3, r4, r5, r6⟩ := hw5.out
              obtain ⟨d0, d1, d2, d3, d4, d5, d6, d7, d8⟩ := nine r1
              exact ⟨by simp [World.cell?, r6], r1.frozen, ⟨_, d3⟩, ⟨_, d4⟩, ⟨_, d5⟩⟩
            have Hfr5 := Lib.hid hfr5
            clear hs hr hback hfr5
            rcases hexit with hl0 | ⟨g, off, nu, m, cap, rfl, hlm, e0, hnu, hmb⟩
            · obtain ⟨x, c, rfl⟩ := (HM.out.2.2.2.1).sees.shape
              rw [hl0] at d5
              have Hl0 := Lib.hid hl0
              clear hl0
              go_wp2_with fail
              refine Hrest.out _ (fun w5 hw5 => ?_)
              dsimp only
              clear d5
              obtain ⟨⟨t0, t1, t2⟩, hfz, ⟨v3, k3⟩, ⟨v4, k4⟩, ⟨v5, k5⟩⟩ := Hfr5.out w5 hw5
              go_wp2_with fail
              have HS : w5.drew.cell? ⟨tb, 0, none⟩ = some (.int .i64 (L.start : Nat)) ∧ w5.drew.cell? ⟨tb, 1, none⟩ = some (.int .i64 (L.used : Nat)) ∧ w5.drew.cell? ⟨tb, 2, none⟩ = some (.slice xa L.list.length xc) := ⟨t0, t1, t2⟩
              refine wp_region_planD (fun w' => w'.cell? ⟨tb, 0, none⟩ = some (.int .i64 (L.start : Nat)) ∧ w'.cell? ⟨tb, 1, none⟩ = some (.int .i64 (L.used : Nat)) ∧ w'.cell? ⟨tb, 2, none⟩ = some (.slice xa L.list.length xc)) 17 [(0, true), (1, true), (2, true), (3, true), (4, true), (5, true), (6, true), (7, true), (8, true), (9, true), (10, true), (11, false), (12, true), (13, true), (14, false), (15, true), (16, true), (17, false)] (by kernel_rfl) (by kernel_rfl) (fun d _ _ _ _ h => by cases d <;> exact h) HS ?_
              iterate 11 (apply planD_held rfl rfl rfl (by simp) HS; (intro w' hS K hK; go_simp; exact hK))
              refine planD_op rfl rfl (fun K hK => ?_)
              go_simp
              refine hK _ _ _ (fun u h => h) (fun _ => by refine ⟨?_, ?_, ?_⟩ <;> go_simp) ?_
              clear hK
              have HS3 : (w5.setCell ⟨lb, 3, none⟩ (.int .i64 (L.start : Nat))).drew.cell? ⟨tb, 0, none⟩ = some (.int .i64 (L.start : Nat)) ∧ (w5.setCell ⟨lb, 3, none⟩ (.int .i64 (L.start : Nat))).drew.cell? ⟨tb, 1, none⟩ = some (.int .i64 (L.used : Nat)) ∧ (w5.setCell ⟨lb, 3, none⟩ (.int .i64 (L.start : Nat))).drew.cell? ⟨tb, 2, none⟩ = some (.slice xa L.list.length xc) := by
                refine ⟨?_, ?_, ?_⟩ <;> go_simp
              try (simp only [Act.put, List.setIfInBounds_toArray, List.set_cons_zero, List.set_cons_succ])
              iterate 2 (apply planD_held rfl rfl rfl (by simp) HS3; (intro w' hS K hK; go_simp; exact hK))
              refine planD_op rfl rfl (fun K hK => ?_)
              go_simp
              refine hK _ _ _ (fun u h => h) (fun _ => by refine ⟨?_, ?_, ?_⟩ <;> go_simp) ?_
              clear hK
              have HS4 : ((w5.setCell ⟨lb, 3, none⟩ (.int .i64 (L.start : Nat))).setCell ⟨lb, 4, none⟩ (.int .i64 (L.used : Nat))).drew.cell? ⟨tb, 0, none⟩ = some (.int .i64 (L.start : Nat)) ∧ ((w5.setCell ⟨lb, 3, none⟩ (.int .i64 (L.start : Nat))).setCell ⟨lb, 4, none⟩ (.int .i64 (L.used : Nat))).drew.cell? ⟨tb, 1, none⟩ = some (.int .i64 (L.used : Nat)) ∧ ((w5.setCell ⟨lb, 3, none⟩ (.int .i64 (L.start : Nat))).setCell ⟨lb, 4, none⟩ (.int .i64 (L.used : Nat))).drew.cell? ⟨tb, 2, none⟩ = some (.slice xa L.list.length xc) := by
                refine ⟨?_, ?_, ?_⟩ <;> go_simp
              try (simp only [Act.put, List.setIfInBounds_toArray, List.set_cons_zero, List.set_cons_succ])
              iterate 2 (apply planD_held rfl rfl rfl (by simp) HS4; (intro w' hS K hK; go_simp; exact hK))
              refine planD_op rfl rfl (fun K hK => ?_)
              go_simp
              refine hK (fun _ => False) _ _ (fun u h => h.elim) (fun h => absurd rfl h) ?_
              refine planD_nil ?_
              clear HS HS3 HS4 hK
              go_wp2_with fail
              go_ret
              rw [Hs.out]
              exact ⟨rfl, Hback.out _ hw5⟩
            · have Hl0 := Lib.hid hlm
              have q1 : decide ((0 : Int) < (m : Int) + 1) = true := by simp; try omega
              have q2 : decide ((nu : Int) ≤ upto) = false := by simp; omega
              clear hlm
              go_wp2_with fail
              refine Hrest.out _ (fun w5 hw5 => ?_)
              dsimp only
              clear d5 e0
              obtain ⟨⟨t0, t1, t2⟩, hfz, ⟨v3, k3⟩, ⟨v4, k4⟩, ⟨v5, k5⟩⟩ := Hfr5.out w5 hw5
              go_wp2_with fail
              have HS : w5.drew.cell? ⟨tb, 0, none⟩ = some (.int .i64 (L.start : Nat)) ∧ w5.drew.cell? ⟨tb, 1, none⟩ = some (.int .i64 (L.used : Nat)) ∧ w5.drew.cell? ⟨tb, 2, none⟩ = some (.slice xa L.list.length xc) := ⟨t0, t1, t2⟩
              refine wp_region_planD (fun w' => w'.cell? ⟨tb, 0, none⟩ = some (.int .i64 (L.start : Nat)) ∧ w'.cell? ⟨tb, 1, none⟩ = some (.int .i64 (L.used : Nat)) ∧ w'.cell? ⟨tb, 2, none⟩ = some (.slice xa L.list.length xc)) 17 [(0, true), (1, true), (2, true), (3, true), (4, true), (5, true), (6, true), (7, true), (8, true), (9, true), (10, true), (11, false), (12, true), (13, true), (14, false), (15, true), (16, true), (17, false)] (by kernel_rfl) (by kernel_rfl) (fun d _ _ _ _ h => by cases d <;> exact h) HS ?_
              iterate 11 (apply planD_held rfl rfl rfl (by simp) HS; (intro w' hS K hK; go_simp; exact hK))
              refine planD_op rfl rfl (fun K hK => ?_)
              go_simp
              refine hK _ _ _ (fun u h => h) (fun _ => by refine ⟨?_, ?_, ?_⟩ <;> go_simp) ?_
              clear hK
              have HS3 : (w5.setCell ⟨lb, 3, none⟩ (.int .i64 (L.start : Nat))).drew.cell? ⟨tb, 0, none⟩ = some (.int .i64 (L.start : Nat)) ∧ (w5.setCell ⟨lb, 3, none⟩ (.int .i64 (L.start : Nat))).drew.cell? ⟨tb, 1, none⟩ = some (.int .i64 (L.used : Nat)) ∧ (w5.setCell ⟨lb, 3, none⟩ (.int .i64 (L.start : Nat))).drew.cell? ⟨tb, 2, none⟩ = some (.slice xa L.list.length xc) := by
                refine ⟨?_, ?_, ?_⟩ <;> go_simp
              try (simp only [Act.put, List.setIfInBounds_toArray, List.set_cons_zero, List.set_cons_succ])
              iterate 2 (apply planD_held rfl rfl rfl (by simp) HS3; (intro w' hS K hK; go_simp; exact hK))
              refine planD_op rfl rfl (fun K hK => ?_)
              go_simp
              refine hK _ _ _ (fun u h => h) (fun _ => by refine ⟨?_, ?_, ?_⟩ <;> go_simp) ?_
              clear hK
              have HS4 : ((w5.setCell ⟨lb, 3, none⟩ (.int .i64 (L.start : Nat))).setCell ⟨lb, 4, none⟩ (.int .i64 (L.used : Nat))).drew.cell? ⟨tb, 0, none⟩ = some (.int .i64 (L.start : Nat)) ∧ ((w5.setCell ⟨lb, 3, none⟩ (.int .i64 (L.start : Nat))).setCell ⟨lb, 4, none⟩ (.int .i64 (L.used : Nat))).drew.cell? ⟨tb, 1, none⟩ = some (.int .i64 (L.used : Nat)) ∧ ((w5.setCell ⟨lb, 3, none⟩ (.int .i64 (L.start : Nat))).setCell ⟨lb, 4, none⟩ (.int .i64 (L.used : Nat))).drew.cell? ⟨tb, 2, none⟩ = some (.slice xa L.list.length xc) := by
                refine ⟨?_, ?_, ?_⟩ <;> go_simp
              try (simp only [Act.put, List.setIfInBounds_toArray, List.set_cons_zero, List.set_cons_succ])
              iterate 2 (apply planD_held rfl rfl rfl (by simp) HS4; (intro w' hS K hK; go_simp; exact hK))
              refine planD_op rfl rfl (fun K hK => ?_)
              go_simp
              refine hK (fun _ => False) _ _ (fun u h => h.elim) (fun h => absurd rfl h) ?_
              refine planD_nil ?_
              clear HS HS3 HS4 hK
              go_wp2_with fail
              go_ret
              rw [Hs.out]
              exact ⟨rfl, Hback.out _ hw5⟩
end Go.Proofs.Ytocameknhglklaa
