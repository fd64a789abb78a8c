/- docketlaw03.fixed and docketref03: contracts. -/
import Derived.Test.YtocameknhglklaaKLog
import Derived.Test.YtocameknhglklaaKBase
/- docketlaw03.fixed. -/
namespace Go.Proofs.Ytocameknhglklaa
open Go.RowKit
set_option linter.unusedSimpArgs false
set_option linter.unusedVariables false
set_option maxRecDepth 100000

theorem sees_strs (w : World) (l : Batch) (h : l.length ≤ maxLen) : Sees (w.alloc (.cells (strsV l).toArray 9)) 1 (.slice (some ⟨w.heap.size, 0, none⟩) l.length l.length) l.length (strsV l) :=
  Sees.at (by simp [strsV_length]) h (rangeAt_of_row (heap_alloc_new w _) (by simp))
theorem check_zero {L : LSt} {D : DSt} {T : Nat} {all : List Batch} (h : Inv L D T all) (b : Batch) (h1 : b.length ≠ 0) (h2 : b.length ≤ 1024) (h3 : ¬ ∃ r ∈ b, 600 < r.size) (h4 : needB b ≤ L.n - 1 - needsB (all.drop T)) : L.check b = 0 := by
  rw [LSt.check, if_neg (by rw [h.alive]; decide), if_neg (by omega), if_neg h3, if_neg (by rw [LSt.room, h.used]; omega)]
abbrev bA : Batch := [⟨#[97]⟩]
abbrev bBC : Batch := [⟨#[98]⟩, ⟨#[99]⟩]
abbrev bLost : Batch := [⟨#[108, 111, 115, 116]⟩]
theorem new8 : (DSt.new 8).secs.length = 8 := by rw [DSt.new, List.length_replicate]; rfl
set_option maxHeartbeats 2000000 in
theorem wal_fixed (w : World) : Calls Try.prog 11 #[] w fun e w' => e = .returned (.bool true) ∧ Upd (fun _ => False) w w' := by
  go_enter Try.func11, Try.ntmps11
  go_wp2_with fail
  refine (new_disk 8 w).mono ?_
  rintro e w1 ⟨db, F, rfl, hD, hu, hF⟩
  dsimp only
  have H1 := Lib.hid (And.intro hD (And.intro hu hF))
  clear hD hu hF
  go_wp2_with fail
  refine (make_live H1.out.1 2 4 (by decide) (by rw [new8]; decide) (by decide) rfl rfl 2 4 rfl rfl).mono ?_
  rintro e w2 ⟨lb, F2, rfl, hH, hu, hF, hwt, hsl⟩
  dsimp only
  have hu2 : Upd (fun _ => False) w w2 := H1.out.2.1.then hu (fun k hk => .inr (H1.out.2.2 k hk))
  have hF2 : ∀ k, F2 k → w.heap.size ≤ k := fun k hk => by
    rcases hF k hk with h | h
    · exact H1.out.2.2 k h
    · have := H1.out.2.1.size; omega
  have H2 := Lib.hid (And.intro hH (And.intro hu2 (And.intro hF2 (And.intro hwt hsl))))
  clear hH hu hF hwt hsl hu2 hF2 H1
  go_wp2_with fail
  refine (hist_room H2.out.1 3 rfl).mono ?_
  rintro e w3 ⟨rfl, rfl⟩
  dsimp only
  go_wp2_with fail
  have hs3 : Sees (w2.alloc (.cells (strsV bA).toArray 9)).drew 1 (.slice (some ⟨w2.heap.size, 0, none⟩) 1 1) 1 (strsV bA) := sees_strs w2 bA (by decide)
  have hn := need_ok (some ⟨w2.heap.size, 0, none⟩) 1 bA _ hs3 (by decide)
  rw [show ((needB bA : Nat) : Int) = 1 from rfl] at hn
  refine hn.mono ?_
  clear hn hs3
  rintro e w3 ⟨rfl, rfl⟩
  dsimp only
  have hu3 : Upd (fun _ => False) w2 (w2.alloc (.cells (strsV bA).toArray 9)).drew := ((Upd.refl _ w2).alloc _).drew
  have H3 := Lib.hid (And.intro (H2.out.1.upd hu3 (fun _ _ h => h)) (H2.out.2.1.trans hu3))
  have hz3 : w2.heap.size ≤ (w2.alloc (.cells (strsV bA).toArray 9)).drew.heap.size := hu3.size
  generalize (w2.alloc (.cells (strsV bA).toArray 9)).drew = w3 at *
  have hF3 : ∀ k, F2 k → k < w3.heap.size := fun k hk => (H3.out.1).wal.lt k hk
  have H3 := Lib.hid (And.intro H3.out.1 (And.intro H3.out.2 (And.intro H2.out.2.2.1 (And.intro H2.out.2.2.2.1 H2.out.2.2.2.2))))
  clear H2 hu3 hz3 hF3
  go_wp2_with fail
  have hal : Upd (fun _ => False) w3 (w3.alloc (.cells (strsV bA).toArray 9)) := (Upd.refl _ w3).alloc _
  have hsa := sees_strs w3 bA (by decide)
  have hH4 := H3.out.1.upd hal (fun _ _ h => h)
  refine (hist_append hH4 (by rw [H3.out.2.2.2.1]; decide) (some ⟨w3.heap.size, 0, none⟩) 1 bA hsa (fun x hx _ hf => by cases hx; have := H3.out.1.wal.lt _ hf; exact Nat.lt_irrefl _ this) (by decide)).mono ?_
  rintro e w5 ⟨a1, r1, rfl, hp⟩
  rcases hp with ⟨hc, _⟩ | ⟨_, ha1, hr1, L5, D5, F5, hH5, hu5, hF5, hy5, hfr5, hn5, hw5, hs5⟩
  · exact absurd (check_zero hH4.inv bA (by decide) (by decide) (by decide) (by decide)) hc
  have ha1' : a1 = 1 := ha1
  subst ha1'
  subst hr1
  dsimp only
  have hU5 : Upd (fun _ => False) w w5 := (H3.out.2.1.trans hal).then hu5 (fun k hk => .inr (H3.out.2.2.1 k hk))
  have hF5' : ∀ k, F5 k → w.heap.size ≤ k := fun k hk => by
    rcases hF5 k hk with h | h
    · exact H3.out.2.2.1 k h
    · have := (H3.out.2.1.trans hal).size; omega
  have H5 := Lib.hid (And.intro hH5 (And.intro hU5 (And.intro hF5' (And.intro hy5 (And.intro hfr5 (And.intro hn5 (And.intro (show D5.waits.length ≤ 4096 by rw [H3.out.2.2.2.1] at hw5; simpa using hw5) (show D5.secs.length = 8 by rw [hs5, H3.out.2.2.2.2, new8]))))))))
  clear hal hsa hH4 ha1 hH5 hu5 hF5 hU5 hF5' hy5 hfr5 hn5 hw5 hs5
  go_wp2_with fail
  have hal : Upd (fun _ => False) w5 (w5.alloc (.cells (strsV bBC).toArray 9)) := (Upd.refl _ w5).alloc _
  have hsa := sees_strs w5 bBC (by decide)
  have hH6 := H5.out.1.upd hal (fun _ _ h => h)
  refine (hist_append hH6 (by have := H5.out.2.2.2.2.2.2.1; omega) (some ⟨w5.heap.size, 0, none⟩) 2 bBC hsa (fun x hx _ hf => by cases hx; have := H5.out.1.wal.lt _ hf; exact Nat.lt_irrefl _ this) (by decide)).mono ?_
  rintro e w7 ⟨a2, r2, rfl, hp⟩
  rcases hp with ⟨hc, _⟩ | ⟨_, ha2, hr2, L7, D7, F7, hH7, hu7, hF7, hy7, hfr7, hn7, hw7, hs7⟩
  · exact absurd (check_zero hH6.inv bBC (by decide) (by decide) (by decide) (by rw [H5.out.2.2.2.2.2.1]; decide)) hc
  have ha2' : a2 = 2 := ha2
  subst ha2'
  subst hr2
  dsimp only
  have hU7 : Upd (fun _ => False) w w7 := (H5.out.2.1.trans hal).then hu7 (fun k hk => .inr (H5.out.2.2.1 k hk))
  have hF7' : ∀ k, F7 k → w.heap.size ≤ k := fun k hk => by
    rcases hF7 k hk with h | h
    · exact H5.out.2.2.1 k h
    · have := (H5.out.2.1.trans hal).size; omega
  have H7 := Lib.hid (And.intro hH7 (And.intro hU7 (And.intro hF7' (And.intro (hfr7.trans H5.out.2.2.2.2.1) (And.intro (hn7.trans H5.out.2.2.2.2.2.1) (And.intro (show D7.waits.length ≤ 8192 by have := H5.out.2.2.2.2.2.2.1; omega) (hs7.trans H5.out.2.2.2.2.2.2.2)))))))
  clear hal hsa hH6 ha2 hH7 hu7 hF7 hU7 hF7' hy7 hfr7 hn7 hw7 hs7 H5
  go_wp2_with fail
  refine (hist_sync H7.out.1 (by have := H7.out.2.2.2.2.2.1; omega)).mono ?_
  rintro e w8 ⟨D8, F8, rfl, hH8, hu8, hF8, hw8⟩
  dsimp only
  have hU8 : Upd (fun _ => False) w w8 := H7.out.2.1.then hu8 (fun k hk => .inr (H7.out.2.2.1 k hk))
  have hF8' : ∀ k, F8 k → w.heap.size ≤ k := fun k hk => by
    rcases hF8 k hk with h | h
    · exact H7.out.2.2.1 k h
    · have := H7.out.2.1.size; omega
  have H8 := Lib.hid (And.intro hH8 (And.intro hU8 (And.intro hF8' hw8)))
  clear hH8 hu8 hF8 hU8 hF8' hw8
  go_wp2_with fail
  refine (hist_trim H8.out.1 (by rw [H8.out.2.2.2]; decide) 1 (by decide)).mono ?_
  rintro e w9 ⟨r9, rfl, hp⟩
  rcases hp with ⟨hc, _⟩ | ⟨_, _, hr9, L9, D9, F9, hH9, hu9, hF9, hy9, hfr9, hn9, hw9⟩
  · exact absurd hc (by show ¬ ((1 : Int) < 0 ∨ ((2 : Nat) : Int) < 1); decide)
  subst hr9
  dsimp only
  have hU9 : Upd (fun _ => False) w w9 := H8.out.2.1.then hu9 (fun k hk => .inr (H8.out.2.2.1 k hk))
  have hF9' : ∀ k, F9 k → w.heap.size ≤ k := fun k hk => by
    rcases hF9 k hk with h | h
    · exact H8.out.2.2.1 k h
    · have := H8.out.2.1.size; omega
  have H9 := Lib.hid (And.intro hH9 (And.intro hU9 (And.intro hF9' (And.intro (hfr9.trans H7.out.2.2.2.1) (And.intro (hn9.trans H7.out.2.2.2.2.1) (And.intro hw9 hy9))))))
  clear hH9 hu9 hF9 hU9 hF9' hw9 hfr9 hn9 hy9 H8 H7
  go_wp2_with fail
  have hal : Upd (fun _ => False) w9 (w9.alloc (.cells (strsV bLost).toArray 9)) := (Upd.refl _ w9).alloc _
  have hsa := sees_strs w9 bLost (by decide)
  have hH10 := H9.out.1.upd hal (fun _ _ h => h)
  refine (hist_append hH10 (by rw [H9.out.2.2.2.2.2.1]; decide) (some ⟨w9.heap.size, 0, none⟩) 1 bLost hsa (fun x hx _ hf => by cases hx; have := H9.out.1.wal.lt _ hf; exact Nat.lt_irrefl _ this) (by decide)).mono ?_
  rintro e w11 ⟨a3, r3, rfl, hp⟩
  rcases hp with ⟨hc, _⟩ | ⟨_, ha3, hr3, L11, D11, F11, hH11, hu11, hF11, hy11, hfr11, hn11, hw11, hs11⟩
  · exact absurd (check_zero hH10.inv bLost (by decide) (by decide) (by decide) (by rw [H9.out.2.2.2.2.1]; decide)) hc
  dsimp only
  have hU11 : Upd (fun _ => False) w w11 := (H9.out.2.1.trans hal).then hu11 (fun k hk => .inr (H9.out.2.2.1 k hk))
  have hF11' : ∀ k, F11 k → w.heap.size ≤ k := fun k hk => by
    rcases hF11 k hk with h | h
    · exact H9.out.2.2.1 k h
    · have := (H9.out.2.1.trans hal).size; omega
  have H11 := Lib.hid (And.intro hH11 (And.intro hU11 (And.intro hF11' (And.intro (hfr11.trans H9.out.2.2.2.1) (And.intro (hn11.trans H9.out.2.2.2.2.1) (And.intro (show D11.waits.length ≤ 4096 by rw [H9.out.2.2.2.2.2.1] at hw11; simpa using hw11) (hy11.trans H9.out.2.2.2.2.2.2)))))))
  clear hal hsa hH10 ha3 hr3 hH11 hu11 hF11 hU11 hF11' hy11 hfr11 hn11 hw11 hs11 H9
  go_wp2_with fail
  obtain ⟨G, hDG, hGF⟩ := H11.out.1.wal.disk
  refine (crash_disk hDG (by have := H11.out.2.2.2.2.2.1; omega) none 0 [] (Sees.zero _ _ _ _) (fun x hx => by cases hx)).mono ?_
  rintro e w12 ⟨rfl, hD12, hu12⟩
  dsimp only
  have hinv := H11.out.1.inv
  have hg : Good (D11.crash []).secs 2 4 L11.start (1 + 1) 2 (seg ([] ++ [bA] ++ [bBC] ++ [bLost]) 1 2) := by
    have h := hinv.good.avoid (kept D11.waits []) (fun p hp => hinv.waits p (kept_sub _ _ p hp))
    rw [H11.out.2.2.2.1, H11.out.2.2.2.2.1, H11.out.2.2.2.2.2.2] at h
    exact h
  have hU12 : Upd (fun _ => False) w w12 := H11.out.2.1.then hu12 (fun k hk => .inr (H11.out.2.2.1 k (hGF k hk)))
  have hG12 : ∀ k, G k → w.heap.size ≤ k := fun k hk => H11.out.2.2.1 k (hGF k hk)
  have H12 := Lib.hid (And.intro hD12 (And.intro hU12 (And.intro hG12 hg)))
  clear hDG hGF hD12 hu12 hinv hg hU12 hG12 H11
  go_wp2_with fail
  refine (open_live H12.out.1 2 4 1 2 L11.start ([] ++ [bA] ++ [bBC] ++ [bLost]) (by show 0 < 99999999990; decide) rfl rfl (by decide) (by decide) H12.out.2.2.2 (fun p hp => by cases hp) 2 4 rfl rfl).mono ?_
  rintro e w13 ⟨lb2, x, c, rfl, F13, vs, A, hH13, hu13, hF13, hm13, hr13, -, -⟩
  dsimp only
  have hseg : seg ([] ++ [bA] ++ [bBC] ++ [bLost]) 1 2 = [bBC] := rfl
  rw [hseg] at hr13
  obtain ⟨hvl, hvs⟩ := hr13
  obtain ⟨v, rfl⟩ : ∃ v, vs = [v] := by
    match vs, hvl with
    | [v], _ => exact ⟨v, rfl⟩
  have hv := (hvs 0 (Nat.zero_lt_one) (Nat.zero_lt_one)).1
  obtain ⟨xv, cv, hve⟩ := hv.shape
  have hve' : v = .slice xv 2 cv := hve
  obtain ⟨_, ⟨h, h0⟩ | ⟨g, off, cap, h, h1, h2, h3, h4, h5⟩⟩ := hm13
  · cases h0
  cases h
  have hcell : w13.cell? ⟨g, off, none⟩ = some (.slice xv 2 cv) := by
    have := h4 0 v rfl
    rw [hve'] at this
    exact this
  have hU13 : Upd (fun _ => False) w w13 := H12.out.2.1.trans hu13
  have H13 := Lib.hid (And.intro hH13 (And.intro hU13 (show Sees w13 1 (.slice xv bBC.length cv) bBC.length (strsV bBC) by rw [hve'] at hv; exact hv)))
  clear hH13 hu13 hF13 hseg hvl hvs hv hve hve' h1 h2 h3 h4 h5 hU13 H12
  go_wp2_with fail
  have hal : Upd (fun _ => False) w13 (w13.alloc (.cells (strsV bBC).toArray 9)) := (Upd.refl _ w13).alloc _
  have hsa := sees_strs w13 bBC (by decide)
  refine (same_ok xv (some ⟨w13.heap.size, 0, none⟩) cv 2 bBC bBC _ (H13.out.2.2.upd hal (fun _ _ _ h => h)) hsa).mono ?_
  rintro e w14 ⟨rfl, hu14⟩
  dsimp only
  have H14 := Lib.hid (And.intro ((H13.out.1.upd hal (fun _ _ h => h)).upd hu14 (fun _ _ h => h)) ((H13.out.2.1.trans hal).trans hu14))
  clear hal hsa hu14 H13 hcell
  rw [decide_eq_true (rfl : bBC = bBC)]
  go_wp2_with fail
  refine (hist_first H14.out.1).mono ?_
  rintro e w15 ⟨rfl, rfl⟩
  dsimp only
  go_wp2_with fail
  have hl := hist_last H14.out.1
  have e2 : (List.take 2 (([] : List Batch) ++ [bA] ++ [bBC] ++ [bLost])).length = 2 := rfl
  rw [e2] at hl
  clear e2
  refine hl.mono ?_
  clear hl
  rintro e w15 ⟨rfl, rfl⟩
  dsimp only
  go_wp2_with fail
  go_ret
  exact ⟨rfl, H14.out.2⟩
end Go.Proofs.Ytocameknhglklaa
/- docketref03.Told, where what it is handed is what was appended. -/
namespace Go.Proofs.Ytocameknhglklaa
open Go.RowKit
set_option linter.unusedSimpArgs false
set_option linter.unusedVariables false
set_option maxRecDepth 100000

set_option maxHeartbeats 2000000 in
theorem told_ok {w : World} {rb : Nat} {xl xg : Option Addr} {cl cg : Nat} {all bs : List Batch} {vl vg : List Value} {A A' : Nat → Prop} (hc : w.cell? ⟨rb, 1, none⟩ = some (.slice xl all.length cl))
    (hl : Sees w 1 (.slice xl all.length cl) all.length vl) (hrl : RowsAt w vl all A) (hg : Sees w 1 (.slice xg bs.length cg) bs.length vg) (hrg : RowsAt w vg bs A') (fi la : Nat) (h1 : 1 ≤ fi) (hlen : bs.length + fi = la + 1) (hla : la ≤ all.length) (hsm : all.length ≤ 1000000000000)
    (heq : ∀ i (h : i < bs.length), bs[i] = all[fi - 1 + i]'(by omega)) (fiI laI : Int) (hfI : fiI = (fi : Nat)) (hlI : laI = (la : Nat)) :
    Calls Try.prog 23 #[.pointer (some ⟨rb, 0, none⟩), .slice xg bs.length cg, .int .i64 fiI, .int .i64 laI] w fun e w' => e = .returned (.bool true) ∧ Upd (fun _ => False) w w' := by
  subst hfI; subst hlI
  have hm := hl.2.1
  replace heq : ∀ i (h : i < bs.length) (h' : fi - 1 + i < all.length), bs[i] = all[fi - 1 + i] := fun i h _ => heq i h
  obtain ⟨m, hmm⟩ : ∃ m, bs.length = m := ⟨_, rfl⟩
  obtain ⟨al, hal⟩ : ∃ al, all.length = al := ⟨_, rfl⟩
  have H := Lib.hid (And.intro hl (And.intro hrl (And.intro hg (And.intro hrg (And.intro h1 (And.intro hlen (And.intro hla (And.intro heq (And.intro hmm (And.intro hal hsm))))))))))
  rw [hal] at hc
  rw [hmm]
  have Hc := Lib.hid hc
  have b1 : (fi : Int) ≤ 1000000000001 := by omega
  have b2 : (la : Int) ≤ 1000000000000 := by omega
  have b3 : (m : Int) ≤ 1000000000000 := by omega
  have q0 : ((m : Int) != (la : Int) - (fi : Int) + 1) = false := by rw [bne_eq_false_iff_eq]; omega
  have q1 : decide ((fi : Int) < 1) = false := by simp; omega
  have q2 : decide (al < la) = false := by simp; omega
  clear hl hrl hg hrg h1 hlen hla heq hmm hal hm hsm
  go_enter Try.func23, Try.ntmps23
  go_wp2_with fail
  clear q0 q1 q2
  go_loopw [9] (fun i wr => ∃ k : Nat, k ≤ m ∧ i = .int .i64 k ∧ Hid (Upd (fun _ => False) w wr)) (fun i _ => m - (intOf i).toNat)
  case atStart => exact ⟨0, Nat.zero_le _, rfl, Upd.refl _ _⟩
  case round =>
    obtain ⟨k, hk, rfl, HU⟩ := hrel
    by_cases hlt : k < m
    · have hltm : k < m := hlt
      obtain ⟨f0, hf0⟩ : ∃ f0, fi - 1 = f0 := ⟨_, rfl⟩
      obtain ⟨q, hq⟩ : ∃ q, f0 + k = q := ⟨_, rfl⟩
      obtain ⟨hl, hrl, hg, hrg, h1, hlen, hla, heq, hmm, hal, hsm⟩ := H.out
      have hqa : q < all.length := by omega
      have hkb : k < bs.length := by omega
      have e := heq k hkb (by omega)
      have hvl : q < vl.length := by rw [hrl.1]; exact hqa
      have hvg : k < vg.length := by rw [hrg.1]; exact hkb
      have s1 := (hrl.2 q hvl hqa).1.upd HU.out (fun _ _ _ h => h)
      have s2 := (hrg.2 k hvg hkb).1.upd HU.out (fun _ _ _ h => h)
      obtain ⟨x1, c1, e1⟩ := s1.shape
      obtain ⟨x2, c2, e2⟩ := s2.shape
      rw [e1] at s1
      rw [e2] at s2
      have ebb : bs[k] = all[q] := by rw [e]; congr 1; omega
      have hl' := hl.upd HU.out (fun _ _ _ h => h)
      have hg' := hg.upd HU.out (fun _ _ _ h => h)
      obtain ⟨_, _, xo, cc, e', hcc⟩ := hl'
      cases e'
      obtain ⟨gl, ol, rfl, hrr⟩ := hcc (by omega)
      obtain ⟨_, _, xo, cc, e', hcc'⟩ := hg'
      cases e'
      obtain ⟨gg, og, rfl, hrr'⟩ := hcc' (by omega)
      obtain ⟨n1, hn1⟩ : ∃ n1, all[q].length = n1 := ⟨_, rfl⟩
      have hn2 : bs[k].length = n1 := by rw [ebb]; exact hn1
      have k1 : wr.cell? ⟨gl, ol + q, none⟩ = some (.slice x1 n1 c1) := by
        have := hrr q _ (List.getElem?_eq_getElem hvl)
        rw [e1, hn1] at this; exact this
      have k2 : wr.cell? ⟨gg, og + k, none⟩ = some (.slice x2 n1 c2) := by
        have := hrr' k _ (List.getElem?_eq_getElem hvg)
        rw [e2, hn2] at this; exact this
      have k3 : wr.cell? ⟨rb, 1, none⟩ = some (.slice (some ⟨gl, ol, none⟩) al cl) := HU.out.cell_some (a := ⟨rb, 1, none⟩) Hc.out (fun h => h)
      have hdr : Upd (fun _ => False) wr wr.drew := (Upd.refl _ wr).drew
      have hsame := same_ok x2 x1 c2 c1 bs[k] all[q] wr.drew (s2.upd hdr (fun _ _ _ h => h)) (s1.upd hdr (fun _ _ _ h => h))
      rw [ebb, hn1, decide_eq_true rfl] at hsame
      have Hsame := Lib.hid hsame
      have f1 : IntKind.i64.wrap ((fi : Int) - 1) = (f0 : Int) := by rw [IntKind.wrap_i64]; omega
      have f2 : IntKind.i64.wrap ((f0 : Int) + (k : Int)) = (q : Int) := by rw [IntKind.wrap_i64]; omega
      have hk0 : (0 : Int) ≤ (k : Int) := by omega
      have hkm : (k : Int) < (m : Int) := by omega
      have hq0 : (0 : Int) ≤ (q : Int) := by omega
      have hqm : (q : Int) < (al : Int) := by omega
      rw [hmm] at *
      have HS : wr.drew.cell? ⟨gl, ol + q, none⟩ = some (.slice x1 n1 c1) ∧ wr.drew.cell? ⟨gg, og + k, none⟩ = some (.slice x2 n1 c2) ∧ wr.drew.cell? ⟨rb, 1, none⟩ = some (.slice (some ⟨gl, ol, none⟩) al cl) := ⟨k1, k2, k3⟩
      clear hf0 hq hl hrl hg hrg h1 hlen hla heq hmm hal hsm hqa hkb e hvl hvg s1 s2 e1 e2 ebb hcc hcc' hrr hrr' hn1 hn2 k1 k2 k3 hsame hc hltm
      go_wp2_with fail
      refine wp_region_planD (fun w' => w'.cell? ⟨gl, ol + q, none⟩ = some (.slice x1 n1 c1) ∧ w'.cell? ⟨gg, og + k, none⟩ = some (.slice x2 n1 c2) ∧ w'.cell? ⟨rb, 1, none⟩ = some (.slice (some ⟨gl, ol, none⟩) al cl)) 16 [(0, true), (1, true), (2, true), (3, true), (4, true), (5, true), (6, true), (7, true), (8, true), (9, true), (10, true), (11, true), (12, true), (13, true), (14, false), (15, true)] (by kernel_rfl) (by kernel_rfl) (fun d _ _ _ _ h => by cases d <;> exact h) HS ?_
      iterate 14 (apply planD_held rfl rfl rfl (by simp) HS; (intro w' hS K hK; go_simp; exact hK))
      refine planD_op rfl rfl (fun K hK => ?_)
      go_simp
      refine Hsame.out.mono ?_
      rintro e' w7 ⟨rfl, hu7⟩
      dsimp only
      have HS7 : w7.cell? ⟨gl, ol + q, none⟩ = some (.slice x1 n1 c1) ∧ w7.cell? ⟨gg, og + k, none⟩ = some (.slice x2 n1 c2) ∧ w7.cell? ⟨rb, 1, none⟩ = some (.slice (some ⟨gl, ol, none⟩) al cl) :=
        ⟨hu7.cell_some (a := ⟨gl, ol + q, none⟩) HS.1 (fun h => h), hu7.cell_some (a := ⟨gg, og + k, none⟩) HS.2.1 (fun h => h), hu7.cell_some (a := ⟨rb, 1, none⟩) HS.2.2 (fun h => h)⟩
      have HU7 : Hid (Upd (fun _ => False) w w7) := (HU.out.trans hdr).trans hu7
      refine hK _ _ _ (fun u h => h) (fun _ => HS7) ?_
      clear hK HS hdr hu7 f1 f2
      try (simp only [Act.put, List.setIfInBounds_toArray, List.set_cons_zero, List.set_cons_succ])
      (apply planD_held rfl rfl rfl (by simp) HS7; (intro w' hS K hK; go_simp; exact hK))
      refine planD_nil ?_
      clear HS7
      go_wp2_with fail
      exact ⟨⟨k + 1, by omega, by go_num, HU7⟩, by simp [intOf]; omega⟩
    · obtain rfl : k = m := by omega
      clear hlt
      go_wp2_with fail
      go_ret
      exact ⟨rfl, HU.out⟩
end Go.Proofs.Ytocameknhglklaa
/- Contracts of package docketref03: Need, Room, Trim. -/
namespace Go.Proofs.Ytocameknhglklaa
open Go.RowKit
set_option linter.unusedSimpArgs false
set_option linter.unusedVariables false
set_option maxRecDepth 100000

set_option maxHeartbeats 1000000 in
theorem rneed_ok (xa : Option Addr) (xc : Nat) (b : Batch) (w : World) (hb : Sees w 1 (.slice xa b.length xc) b.length (strsV b)) (hsz : bytesOf b ≤ 1000000000000000000) :
    Calls Try.prog 30 #[.slice xa b.length xc] w fun e w' => e = .returned (.int .i64 (needB b : Nat)) ∧ w = w' := by
  have hm := hb.2.1
  have hlm : (b.length : Int) ≤ 9223372036854775807 := by unfold maxLen at hm; omega
  have Hb := Lib.hid (And.intro hb hsz)
  clear hb hsz hm
  go_enter Try.func30, Try.ntmps30
  go_wp2_with fail
  go_loop [3, 4] (fun n i => ∃ k : Nat, k ≤ b.length ∧ i = .int .i64 k ∧ n = .int .i64 (bytesOf (b.take k) : Nat)) (fun _ i => b.length - (intOf i).toNat)
  case atStart => exact ⟨0, Nat.zero_le _, rfl, rfl⟩
  case round =>
    obtain ⟨k, hk, rfl, rfl⟩ := hrel
    obtain ⟨N, hN⟩ : ∃ N, bytesOf (b.take k) = N := ⟨_, rfl⟩
    have hle : N ≤ bytesOf b := by rw [← hN]; exact bytesOf_take_le b k
    have hN2 : (N : Int) ≤ 1000000000000000000 := by have := Hb.out.2; omega
    by_cases hlt : k < b.length
    · have hlt2 : (k : Int) < (b.length : Int) := by omega
      obtain ⟨r, hr⟩ : ∃ r, b[k] = r := ⟨_, rfl⟩
      have hsn : bytesOf (b.take (k + 1)) = N + (4 + r.size) := by rw [List.take_succ_eq_append_getElem hlt, bytesOf_snoc, hN, hr]
      have hle2 : bytesOf (b.take (k + 1)) ≤ bytesOf b := bytesOf_take_le b _
      obtain ⟨_, _, xo, cc, e', hc⟩ := Hb.out.1
      cases e'
      obtain ⟨g, off, rfl, hrr⟩ := hc (by omega)
      have hcell : w.cell? ⟨g, off + k, none⟩ = some (.string r) := hrr k _ (by simp [strsV, hlt, hr])
      have hr2 : (r.size : Int) ≤ 1000000000000000000 := by have := Hb.out.2; omega
      have hsum : (N : Int) + 4 + (r.size : Int) ≤ 1000000000000000000 := by have := Hb.out.2; omega
      have Hsn := Lib.hid hsn
      rw [hN]
      clear hsn hle hle2 hc hrr hr hN
      go_wp2_with fail
      exact ⟨⟨k + 1, by omega, by go_num, by rw [Hsn.out]; go_num⟩, by simp [intOf]; omega⟩
    · obtain rfl : k = b.length := by omega
      rw [List.take_length] at hN
      obtain ⟨nb, hnb⟩ : ∃ nb, needB b = nb := ⟨_, rfl⟩
      have hnb2 : nb = (N + 511) / 512 := by rw [← hnb, needB, hN]
      have hnbb : nb ≤ 2000000000000000 := by omega
      rw [List.take_length, hN]
      have Hnb := Lib.hid hnb2
      have Hne := Lib.hid hnb
      clear hnb hnb2 hN hle hlt
      go_wp2_with fail
      go_loop [3, 5] (fun n k => ∃ j : Nat, j ≤ nb ∧ k = .int .i64 j ∧ n = .int .i64 ((N : Int) - 512 * (j : Int))) (fun _ k => nb - (intOf k).toNat)
      case atStart => exact ⟨0, Nat.zero_le _, rfl, by go_num⟩
      case round =>
        obtain ⟨j, hj, rfl, rfl⟩ := hrel
        have hjb : (j : Int) ≤ 2000000000000000 := by omega
        by_cases hlt : j < nb
        · have hp : (0 : Int) < (N : Int) - 512 * (j : Int) := by have := Hnb.out; omega
          go_wp2_with fail
          exact ⟨⟨j + 1, by omega, by go_num, by go_num⟩, by simp [intOf]; omega⟩
        · obtain rfl : j = nb := by omega
          have hp : (N : Int) - 512 * (j : Int) ≤ 0 := by have := Hnb.out; omega
          go_wp2_with fail
          go_ret
          exact ⟨by rw [Hne.out]; rfl, rfl⟩
end Go.Proofs.Ytocameknhglklaa
/- A block of cells, one value each; docketref03: Room, Trim. -/
namespace Go.Proofs.Ytocameknhglklaa
open Go Go.RowKit
set_option linter.unusedSimpArgs false
set_option linter.unusedVariables false
set_option maxRecDepth 100000

/-- Block b holds the cells l. -/
def CellsAt (w : World) (b : Nat) (t : TypeId) (l : List Value) : Prop := w.heap[b]? = some (.cells l.toArray t (0, 0))
theorem CellsAt.cell {w : World} {b : Nat} {t : TypeId} {l : List Value} (h : CellsAt w b t l) (i : Nat) : w.cell? ⟨b, i, none⟩ = l[i]? := by
  rw [cell_of_row _ _ _ _ _ _ h]
  simp
theorem CellsAt.lt {w : World} {b : Nat} {t : TypeId} {l : List Value} (h : CellsAt w b t l) : b < w.heap.size := lt_of_block h
theorem CellsAt.frozen {w : World} {b : Nat} {t : TypeId} {l : List Value} (h : CellsAt w b t l) (i : Nat) : w.frozen? ⟨b, i, none⟩ = false := unfrozen h i
theorem CellsAt.upd {w w' : World} {b : Nat} {t : TypeId} {l : List Value} {F : Nat → Prop} (h : CellsAt w b t l) (hu : Upd F w w') (hf : ¬ F b) : CellsAt w' b t l := hu.heap h hf
theorem CellsAt.set {w : World} {b : Nat} {t : TypeId} {l : List Value} (h : CellsAt w b t l) (i : Nat) (v : Value) : CellsAt (w.setCell ⟨b, i, none⟩ v) b t (l.set i v) := by
  rw [CellsAt, stored h, List.setIfInBounds_toArray]
theorem CellsAt.new (w : World) (t : TypeId) (l : List Value) : CellsAt (w.alloc (.cells l.toArray t)) w.heap.size t l := heap_alloc_new w _
theorem CellsAt.range {w : World} {b : Nat} {t : TypeId} {l : List Value} (h : CellsAt w b t l) : w.rangeAt b 0 l := rangeAt_of_row h (by simp)
theorem upd_set_in {F : Nat → Prop} {a w : World} {b : Nat} (i : Nat) (v : Value) (h : Upd F a w) (hF : F b ∨ a.heap.size ≤ b) : Upd F a (w.setCell ⟨b, i, none⟩ v) := h.setCell v hF

/-- The answer's log. -/
structure RefL (w : World) (rb M T s : Nat) (all : List Batch) (al : Nat) (x : Option Addr) (c : Nat) (vs : List Value) (A : Nat → Prop) : Prop where
  cells : CellsAt w rb 46 [.int .i64 M, .slice x al c, .int .i64 T, .int .i64 s]
  len : all.length = al
  mid : Mid w 1 (.slice x al c) al vs
  rows : RowsAt w vs all A
  alt : ∀ k, A k → k < w.heap.size
  own : ∀ k, (Value.slice x al c).ownBlock = some k → k ≠ rb ∧ ¬ A k
  arb : ¬ A rb
  whole : Whole w 1 (.slice x al c)
def ownRL (rb al : Nat) (x : Option Addr) (c : Nat) (A : Nat → Prop) (k : Nat) : Prop := k = rb ∨ (Value.slice x al c).ownBlock = some k ∨ A k
theorem RefL.upd {w w' : World} {rb M T s : Nat} {all : List Batch} {al : Nat} {x : Option Addr} {c : Nat} {vs : List Value} {A F : Nat → Prop} (h : RefL w rb M T s all al x c vs A) (hu : Upd F w w') (hf : ∀ k, ownRL rb al x c A k → ¬ F k) : RefL w' rb M T s all al x c vs A :=
  ⟨h.cells.upd hu (hf _ (.inl rfl)), h.len, h.mid.upd hu (fun k hk => hf _ (.inr (.inl hk))), h.rows.upd hu (fun k hk => hf _ (.inr (.inr hk))), fun k hk => Nat.lt_of_lt_of_le (h.alt k hk) hu.size, h.own, h.arb, h.whole.upd hu (fun k hk => hf _ (.inr (.inl hk))) h.mid.lt⟩
theorem RefL.lt {w : World} {rb M T s : Nat} {all : List Batch} {al : Nat} {x : Option Addr} {c : Nat} {vs : List Value} {A : Nat → Prop} (h : RefL w rb M T s all al x c vs A) : ∀ k, ownRL rb al x c A k → k < w.heap.size := by
  rintro k (rfl | hk | hk)
  · exact h.cells.lt
  · exact h.mid.lt k hk
  · exact h.alt k hk

set_option maxHeartbeats 1000000 in
theorem room_ref {w : World} {rb M T s : Nat} {all : List Batch} {al : Nat} {x : Option Addr} {c : Nat} {vs : List Value} {A : Nat → Prop} (h : RefL w rb M T s all al x c vs A) (hT : T ≤ al) (hal : al ≤ 1000000000000) (hM : M ≤ 1000000) (hn : needsB (all.drop T) ≤ M) (hb : ∀ b ∈ all, bytesOf b ≤ 1000000000000000000) (R : Nat) (hR : M - needsB (all.drop T) = R) :
    Calls Try.prog 32 #[.pointer (some ⟨rb, 0, none⟩)] w fun e w' => e = .returned (.int .i64 (R : Nat)) ∧ w = w' := by
  have c0 := h.cells.cell 0
  have c1 := h.cells.cell 1
  have c2 := h.cells.cell 2
  simp only [List.getElem?_cons_zero, List.getElem?_cons_succ] at c0 c1 c2
  obtain ⟨bs, hbs⟩ : ∃ bs, all.drop T = bs := ⟨_, rfl⟩
  obtain ⟨m, hm⟩ : ∃ m, bs.length = m := ⟨_, rfl⟩
  have hml : T + m = al := by rw [← hm, ← hbs, List.length_drop, h.len]; omega
  rw [hbs] at hn hR
  have H := Lib.hid (And.intro h (And.intro hb (And.intro hn (And.intro hR (And.intro hbs hm)))))
  have bT : (T : Int) ≤ 1000000000000 := by omega
  have bM : (M : Int) ≤ 1000000 := by omega
  have bal : (al : Int) ≤ 1000000000000 := by omega
  clear h hb hn hR hbs hm hT
  go_enter Try.func32, Try.ntmps32
  go_wp2_with fail
  go_loop [3, 4] (fun n i => ∃ k : Nat, k ≤ m ∧ i = .int .i64 ((T : Int) + k) ∧ n = .int .i64 ((M : Int) - (needsB (bs.take k) : Nat))) (fun _ i => al - (intOf i).toNat)
  case atStart => exact ⟨0, Nat.zero_le _, by go_num, by rw [List.take_zero]; simp [needsB]⟩
  case round =>
    obtain ⟨k, hk, rfl, rfl⟩ := hrel
    obtain ⟨N, hN⟩ : ∃ N, needsB (bs.take k) = N := ⟨_, rfl⟩
    have hle : N ≤ M := by rw [← hN]; have := needsB_take_le bs k; have := H.out.2.2.1; omega
    by_cases hlt : k < m
    · obtain ⟨i, hi⟩ : ∃ i : Nat, T + k = i := ⟨_, rfl⟩
      have hia : i < all.length := by rw [H.out.1.len]; omega
      have hiv : i < vs.length := by rw [H.out.1.rows.1]; exact hia
      have hkb : k < bs.length := by rw [H.out.2.2.2.2.2]; exact hlt
      obtain ⟨b, hbe⟩ : ∃ b, all[i] = b := ⟨_, rfl⟩
      have hbk : bs[k] = b := by
        have := H.out.2.2.2.2.1
        subst this
        rw [List.getElem_drop, ← hbe]
        congr 1
      have hrow := (H.out.1.rows.2 i hiv hia).1
      rw [hbe] at hrow
      obtain ⟨x1, c1', e1⟩ := hrow.shape
      rw [e1] at hrow
      obtain ⟨_, _, xo, cc, e', hcc⟩ := H.out.1.mid.sees
      cases e'
      obtain ⟨gl, ol, rfl, hrr⟩ := hcc (by omega)
      have hcell : w.cell? ⟨gl, ol + i, none⟩ = some (.slice x1 b.length c1') := by
        have := hrr i _ (List.getElem?_eq_getElem hiv)
        rw [e1] at this; exact this
      have hneed := rneed_ok x1 c1' b w hrow (H.out.2.1 b (hbe ▸ List.getElem_mem hia))
      obtain ⟨nb, hnb⟩ : ∃ nb, needB b = nb := ⟨_, rfl⟩
      rw [hnb] at hneed
      have hsn := needsB_take_succ bs k hkb
      rw [hN, hbk, hnb] at hsn
      have hle2 : N + nb ≤ M := by rw [← hsn]; have := needsB_take_le bs (k + 1); have := H.out.2.2.1; omega
      have Hneed := Lib.hid (And.intro hneed hsn)
      have f1 : (T : Int) + (k : Int) = (i : Int) := by omega
      have hial : (i : Int) < (al : Int) := by omega
      have hi0 : (0 : Int) ≤ (i : Int) := by omega
      rw [hN, f1]
      have bN : (N : Int) + (nb : Int) ≤ 1000000 := by omega
      clear hneed hsn hrow hcc hrr e1 hbk hbe hkb hia hiv hnb hN f1
      go_wp2_with fail
      refine Hneed.out.1.mono ?_
      rintro e w2 ⟨rfl, rfl⟩
      dsimp only
      go_wp2_with fail
      exact ⟨⟨k + 1, by omega, by go_num, by rw [Hneed.out.2]; go_num⟩, by simp [intOf]; omega⟩
    · obtain rfl : k = m := by omega
      have hfull : needsB bs = N := by rw [← hN, ← H.out.2.2.2.2.2, List.take_length]
      have hRR := H.out.2.2.2.1
      rw [hfull] at hRR
      rw [hN]
      have f1 : (T : Int) + (k : Int) = (al : Int) := by omega
      rw [f1]
      clear hlt hfull
      go_wp2_with fail
      go_ret
      have e : (M : Int) - (N : Int) = (R : Int) := by omega
      exact ⟨by rw [← e]; rfl, rfl⟩
/-- What the answer's Trim leaves. -/
def TrimRef (w : World) (rb M T s : Nat) (all : List Batch) (al : Nat) (x : Option Addr) (c : Nat) (vs : List Value) (A : Nat → Prop) (u r : Int) (w' : World) : Prop :=
  ((u < 0 ∨ (s : Int) < u) ∧ r = 1 ∧ w = w') ∨ (0 ≤ u ∧ u ≤ (s : Int) ∧ r = 0 ∧ RefL w' rb M (max T u.toNat) s all al x c vs A ∧ Upd (fun k => k = rb) w w')
theorem trim_ref {w : World} {rb M T s : Nat} {all : List Batch} {al : Nat} {x : Option Addr} {c : Nat} {vs : List Value} {A : Nat → Prop} (h : RefL w rb M T s all al x c vs A) (hT : T ≤ 1000000000000) (hs : s ≤ 1000000000000) (u : Int) :
    Calls Try.prog 31 #[.pointer (some ⟨rb, 0, none⟩), .int .i64 u] w fun e w' => ∃ r, e = .returned (.int .i64 r) ∧ TrimRef w rb M T s all al x c vs A u r w' := by
  have c2 := h.cells.cell 2
  have c3 := h.cells.cell 3
  have fz := h.cells.frozen 2
  simp only [List.getElem?_cons_zero, List.getElem?_cons_succ] at c2 c3
  have H := Lib.hid h
  have bT : (T : Int) ≤ 1000000000000 := by omega
  have bs : (s : Int) ≤ 1000000000000 := by omega
  clear h
  by_cases h0 : u < 0
  · go_enter Try.func31, Try.ntmps31
    go_wp2_with fail
    go_ret
    exact ⟨1, rfl, .inl ⟨.inl h0, rfl, rfl⟩⟩
  by_cases h1 : (s : Int) < u
  · go_enter Try.func31, Try.ntmps31
    go_wp2_with fail
    go_ret
    exact ⟨1, rfl, .inl ⟨.inr h1, rfl, rfl⟩⟩
  obtain ⟨U, rfl⟩ : ∃ U : Nat, u = U := ⟨u.toNat, by omega⟩
  by_cases h2 : (T : Int) < (U : Int)
  · go_enter Try.func31, Try.ntmps31
    go_wp2_with fail
    go_ret
    have hu : Upd (fun k => k = rb) w (w.setCell ⟨rb, 2, none⟩ (.int .i64 U)) := (Upd.refl _ _).setCell _ (.inl rfl)
    refine ⟨0, rfl, .inr ⟨by omega, by omega, rfl, ⟨?_, H.out.len, H.out.mid.upd hu (fun k hk => (H.out.own k hk).1), H.out.rows.upd hu (fun k hk e => H.out.arb (e ▸ hk)), fun k hk => Nat.lt_of_lt_of_le (H.out.alt k hk) hu.size, H.out.own, H.out.arb, H.out.whole.upd hu (fun k hk => (H.out.own k hk).1) H.out.mid.lt⟩, hu⟩⟩
    have := H.out.cells.set 2 (.int .i64 U)
    have e : max T (U : Int).toNat = U := by omega
    rw [e]
    exact this
  · go_enter Try.func31, Try.ntmps31
    go_wp2_with fail
    go_ret
    have e : max T (U : Int).toNat = T := by omega
    exact ⟨0, rfl, .inr ⟨by omega, by omega, rfl, by rw [e]; exact H.out, Upd.refl _ _⟩⟩
end Go.Proofs.Ytocameknhglklaa
/- docketref03: Append. -/
namespace Go.Proofs.Ytocameknhglklaa
open Go Go.RowKit
set_option linter.unusedSimpArgs false
set_option linter.unusedVariables false
set_option maxRecDepth 100000

/-- What the answer says of a batch. -/
def rcheck (room : Nat) (b : Batch) : Int :=
  if b.length = 0 ∨ 1024 < b.length then 1 else if ∃ r ∈ b, 600 < r.size then 1 else if room < needB b then 12 else 0
def AppRef (w : World) (rb M T s : Nat) (all : List Batch) (al : Nat) (x : Option Addr) (c : Nat) (vs : List Value) (A : Nat → Prop) (room : Nat) (b : Batch) (a r : Int) (w' : World) : Prop :=
  (rcheck room b ≠ 0 ∧ a = 0 ∧ r = rcheck room b ∧ w = w') ∨
  (rcheck room b = 0 ∧ a = (al : Int) + 1 ∧ r = 0 ∧ ∃ (x' : Option Addr) (c' : Nat) (v : Value) (A' : Nat → Prop), RefL w' rb M T s (all ++ [b]) (al + 1) x' c' (vs ++ [v]) A' ∧ Upd (fun k => k = rb ∨ (Value.slice x al c).ownBlock = some k) w w' ∧
    (∀ k, ownRL rb (al + 1) x' c' A' k → ownRL rb al x c A k ∨ w.heap.size ≤ k))
theorem bytes_small (b : Batch) (h1 : b.length ≤ 1024) (h2 : ¬ ∃ r ∈ b, 600 < r.size) : bytesOf b ≤ 1000000000000000000 := by
  have key : ∀ k, k ≤ b.length → bytesOf (b.take k) ≤ 16 + 604 * k := by
    intro k
    induction k with
    | zero => intro _; simp [bytesOf]
    | succ k ih =>
      intro h
      have h3 : ¬ 600 < b[k].size := fun h4 => h2 ⟨b[k], List.getElem_mem _, h4⟩
      have h4 := ih (by omega)
      rw [List.take_succ_eq_append_getElem (by omega), bytesOf_snoc]
      omega
  have := key b.length (Nat.le_refl _)
  rw [List.take_length] at this
  omega
theorem strs_one (b : Batch) : ∀ u ∈ strsV b, u.oneCell' = true := by
  intro u hu
  simp only [strsV, List.mem_map] at hu
  obtain ⟨r, _, rfl⟩ := hu
  rfl
theorem refL_app {w w1 w2 : World} {rb M T s : Nat} {all : List Batch} {al : Nat} {x : Option Addr} {c : Nat} {vs : List Value} {A : Nat → Prop} (h : RefL w rb M T s all al x c vs A) {b : Batch} {xo : Option Addr} {co : Nat} (hu1 : Upd (fun _ => False) w w1)
    (ho : Mid w1 1 (.slice xo b.length co) b.length (strsV b)) (hob : ∀ k, (Value.slice xo b.length co).ownBlock = some k → w.heap.size ≤ k) {o : Obj} {x' : Option Addr} {c' : Nat}
    (hm : Mid w2 1 (.slice x' (al + 1) c') (al + 1) (vs ++ [.slice xo b.length co])) (hu2 : Upd (fun q => (Value.slice x al c).ownBlock = some q) (w1.alloc o) w2)
    (hb : (Value.slice x' (al + 1) c').ownBlock = (Value.slice x al c).ownBlock ∨ (Value.slice x' (al + 1) c').ownBlock = some (w1.alloc o).heap.size) (hwh : Whole w2 1 (.slice x' (al + 1) c')) :
    ∃ A', RefL (w2.setCell ⟨rb, 1, none⟩ (.slice x' (al + 1) c')) rb M T s (all ++ [b]) (al + 1) x' c' (vs ++ [.slice xo b.length co]) A' ∧ Upd (fun k => k = rb ∨ (Value.slice x al c).ownBlock = some k) w (w2.setCell ⟨rb, 1, none⟩ (.slice x' (al + 1) c')) ∧
      (∀ k, ownRL rb (al + 1) x' c' A' k → ownRL rb al x c A k ∨ w.heap.size ≤ k) := by
  have hal : Upd (fun _ => False) w1 (w1.alloc o) := (Upd.refl _ w1).alloc o
  have hs1 := hu1.size
  have hs2 := hal.size
  have hs3 := hu2.size
  have hrb := h.cells.lt
  have hU : Upd (fun q => (Value.slice x al c).ownBlock = some q) w w2 := ((hu1.trans hal).mono (fun _ _ h => h.elim)).then hu2 (fun q hq => .inl hq)
  have hset : Upd (fun k => k = rb) w2 (w2.setCell ⟨rb, 1, none⟩ (.slice x' (al + 1) c')) := (Upd.refl _ _).setCell _ (.inl rfl)
  have hcells := (h.cells.upd hU (fun e => (h.own _ e).1 rfl)).set 1 (.slice x' (al + 1) c')
  have hown : ∀ k, (Value.slice x' (al + 1) c').ownBlock = some k → (Value.slice x al c).ownBlock = some k ∨ (w1.alloc o).heap.size ≤ k := fun k hk => by
    rcases hb with e | e
    · rw [e] at hk; exact .inl hk
    · rw [e] at hk; cases hk; exact .inr (Nat.le_refl _)
  have hx' : ∀ k, (Value.slice x' (al + 1) c').ownBlock = some k → k ≠ rb := fun k hk => by
    rcases hown k hk with e | e
    · exact (h.own k e).1
    · omega
  have ho2 := (ho.upd hal (fun _ _ h => h)).upd hu2 (fun k hk e => by have := h.mid.lt k e; have := hob k hk; omega)
  refine ⟨fun k => A k ∨ (Value.slice xo b.length co).ownBlock = some k, ⟨hcells, by rw [List.length_append, h.len]; rfl, hm.upd hset (fun k hk => hx' k hk), ?_, ?_, ?_, ?_, hwh.upd hset (fun k hk => hx' k hk) hm.lt⟩, (hU.mono (fun k _ h => .inr h)).then hset (fun k hk => .inl (.inl hk)), ?_⟩
  · refine RowsAt.snoc (A := A) ?_ _ b ?_ (fun k hk _ => .inr hk) (fun k hk => .inl hk)
    · exact (h.rows.upd hU (fun k hk e => (h.own k e).2 hk)).upd hset (fun k hk e => h.arb (e ▸ hk))
    · exact (ho2.upd hset (fun k hk e => by have := hob k hk; omega)).sees
  · rintro k (hk | hk)
    · have := h.alt k hk
      have := hset.size
      omega
    · have := ho.lt k hk
      have := hset.size
      omega
  · intro k hk
    refine ⟨hx' k hk, ?_⟩
    rintro (ha | ha)
    · rcases hown k hk with e | e
      · exact (h.own k e).2 ha
      · have := h.alt k ha; omega
    · rcases hown k hk with e | e
      · have := h.mid.lt k e; have := hob k ha; omega
      · have := ho.lt k ha; omega
  · rintro (ha | ha)
    · exact h.arb ha
    · have := hob _ ha; omega
  · rintro k (rfl | hk | hk | hk)
    · exact .inl (.inl rfl)
    · rcases hown k hk with e | e
      · exact .inl (.inr (.inl e))
      · exact .inr (by omega)
    · exact .inl (.inr (.inr hk))
    · exact .inr (hob k hk)

set_option maxHeartbeats 2000000 in
theorem append_ref {w : World} {rb M T s : Nat} {all : List Batch} {al : Nat} {x : Option Addr} {c : Nat} {vs : List Value} {A : Nat → Prop} (h : RefL w rb M T s all al x c vs A) (hT : T ≤ al) (hal : al ≤ 1000000000) (hM : M ≤ 1000000) (hn : needsB (all.drop T) ≤ M) (hb : ∀ b ∈ all, bytesOf b ≤ 1000000000000000000)
    (xa : Option Addr) (xc : Nat) (b : Batch) (hs : Sees w 1 (.slice xa b.length xc) b.length (strsV b)) (hsz : ∀ r ∈ b, r.size ≤ maxLen) (hfar : ∀ y, xa = some y → 0 < b.length → ¬ ownRL rb al x c A y.block) (room : Nat) (hroom : M - needsB (all.drop T) = room) :
    Calls Try.prog 29 #[.pointer (some ⟨rb, 0, none⟩), .slice xa b.length xc] w fun e w' => ∃ a r, e = .returned (.tuple #[.int .i64 a, .int .i64 r]) ∧ AppRef w rb M T s all al x c vs A room b a r w' := by
  obtain ⟨n, hbn⟩ : ∃ n, b.length = n := ⟨_, rfl⟩
  have hnm := hs.2.1
  rw [hbn] at hnm
  have hnI : (n : Int) ≤ 9223372036854775807 := by simp only [maxLen] at hnm; omega
  have hroomc := room_ref h hT (by omega) hM hn hb room hroom
  have H := Lib.hid (And.intro h (And.intro hs (And.intro hfar (And.intro hbn (And.intro hroomc (And.intro hT (And.intro hal hsz)))))))
  have hroomb : (room : Int) ≤ 1000000 := by omega
  rw [hbn]
  clear h hT hal hM hn hb hs hfar hroom hnm hbn hroomc hsz
  by_cases hn0 : n = 0 ∨ 1024 < n
  · have hck : rcheck room b = 1 := by rw [rcheck, H.out.2.2.2.1, if_pos hn0]
    have Hck := Lib.hid hck
    clear hck
    by_cases h0 : n = 0
    · subst h0
      clear hn0
      go_enter Try.func29, Try.ntmps29
      go_wp2_with fail
      go_ret2
      exact ⟨0, 1, rfl, .inl ⟨by rw [Hck.out]; decide, rfl, Hck.out.symm, rfl⟩⟩
    · have q0 : ((n : Int) == 0) = false := by simp; omega
      have q1 : decide ((n : Int) > 1024) = true := by simp; omega
      clear hn0 h0
      go_enter Try.func29, Try.ntmps29
      go_wp2_with fail
      go_ret2
      exact ⟨0, 1, rfl, .inl ⟨by rw [Hck.out]; decide, rfl, Hck.out.symm, rfl⟩⟩
  have q0 : ((n : Int) == 0) = false := by simp; omega
  have q1 : decide ((n : Int) > 1024) = false := by simp; omega
  have Hn := Lib.hid hn0
  have hn1 : (n : Int) ≤ 1024 := by omega
  clear hn0
  go_enter Try.func29, Try.ntmps29
  go_wp2_with fail
  go_loopw [6] (fun i wr => ∃ k : Nat, k ≤ n ∧ i = .int .i64 k ∧ w = wr ∧ ∀ j (hj : j < b.length), j < k → ¬ 600 < b[j].size) (fun i _ => n - (intOf i).toNat)
  case atStart => exact ⟨0, Nat.zero_le _, rfl, rfl, fun j _ hj => absurd hj (Nat.not_lt_zero _)⟩
  case round =>
    obtain ⟨k, hk, rfl, rfl, hsm⟩ := hrel
    have Hsm := Lib.hid hsm
    clear hsm
    by_cases hlt : k < n
    · have hkb : k < b.length := by rw [H.out.2.2.2.1]; exact hlt
      obtain ⟨r, hr⟩ : ∃ r, b[k] = r := ⟨_, rfl⟩
      obtain ⟨_, _, x', c', e', hc⟩ := H.out.2.1
      cases e'
      obtain ⟨gb, go, rfl, hrr⟩ := hc (by omega)
      have hcell : w.cell? ⟨gb, go + k, none⟩ = some (.string r) := hrr k _ (by simp [strsV, hr, hkb])
      have hrm := H.out.2.2.2.2.2.2.2 r (hr ▸ List.getElem_mem hkb)
      have hrI : (r.size : Int) ≤ 9223372036854775807 := by simp only [maxLen] at hrm; omega
      have Hr := Lib.hid (And.intro hr hkb)
      by_cases hbig : 600 < r.size
      · have hck : rcheck room b = 1 := by
          rw [rcheck, H.out.2.2.2.1, if_neg Hn.out, if_pos ⟨r, hr ▸ List.getElem_mem hkb, hbig⟩]
        have Hck := Lib.hid hck
        clear hr hrr hc hrm hck
        go_wp2_with fail
        go_ret2
        exact ⟨0, 1, rfl, .inl ⟨by rw [Hck.out]; decide, rfl, Hck.out.symm, rfl⟩⟩
      · clear hr hrr hc hrm
        go_wp2_with fail
        refine ⟨⟨k + 1, by omega, by go_num, by trivial, fun j hj hjk => ?_⟩, by simp [intOf]; omega⟩
        by_cases hjk2 : j = k
        · subst hjk2; rw [Hr.out.1]; exact hbig
        · exact Hsm.out j hj (by omega)
    · obtain rfl : k = n := by omega
      have hnone : ¬ ∃ r ∈ b, 600 < r.size := by
        rintro ⟨r, hr, hr2⟩
        obtain ⟨j, hj, rfl⟩ := List.mem_iff_getElem.1 hr
        exact Hsm.out j hj (by rw [← H.out.2.2.2.1]; exact hj) hr2
      have hneed := rneed_ok xa xc b w H.out.2.1 (bytes_small b (by rw [H.out.2.2.2.1]; omega) hnone)
      obtain ⟨nb, hnb⟩ : ∃ nb, needB b = nb := ⟨_, rfl⟩
      rw [hnb, H.out.2.2.2.1] at hneed
      have hck : rcheck room b = if room < nb then 12 else 0 := by rw [rcheck, H.out.2.2.2.1, if_neg Hn.out, if_neg hnone, hnb]
      have Hneed := Lib.hid (And.intro hneed hck)
      clear hnone hneed hnb hlt Hsm hck
      go_wp2_with fail
      refine Hneed.out.1.mono ?_
      rintro e w2 ⟨rfl, rfl⟩
      dsimp only
      go_wp2_with fail
      refine H.out.2.2.2.2.1.mono ?_
      rintro e w2 ⟨rfl, rfl⟩
      dsimp only
      by_cases hfull : room < nb
      · have hck := Hneed.out.2
        rw [if_pos hfull] at hck
        have Hck := Lib.hid hck
        clear hck
        go_wp2_with fail
        go_ret2
        exact ⟨0, 12, rfl, .inl ⟨by rw [Hck.out]; decide, rfl, Hck.out.symm, rfl⟩⟩
      have hck := Hneed.out.2
      rw [if_neg hfull] at hck
      have Hck := Lib.hid hck
      clear hck
      go_wp2_with ((with_reducible apply wpl_append_mid 9 1 16 _ (.slice none 0 0) 0 [] k (strsV b)))
      · exact Try.underlying22
      · exact infoS
      · rfl
      · rfl
      · exact Mid.nil _ _
      · have := H.out.2.1
        rw [H.out.2.2.2.1] at this
        exact this
      · exact strs_one b
      · unfold maxLen; omega
      · omega
      intro xo co w3 hm3 hu3 hb3
      try (simp only [Act.put, List.setIfInBounds_toArray, List.set_cons_zero, List.set_cons_succ])
      have hU3 : Upd (fun _ => False) w w3 := hu3.mono (fun k _ h => by cases h)
      have hob : ∀ q, (Value.slice xo (0 + k) co).ownBlock = some q → w.heap.size ≤ q := fun q hq => by
        rcases hb3 with e | e
        · rw [e] at hq; cases hq
        · rw [e] at hq; cases hq; exact Nat.le_refl _
      rw [Nat.zero_add] at hm3 hob ⊢
      rw [List.nil_append] at hm3
      have hc1 := (H.out.1.cells.upd hU3 (fun h => h)).cell 1
      simp only [List.getElem?_cons_zero, List.getElem?_cons_succ] at hc1
      have H3 := Lib.hid (And.intro hm3 (And.intro hU3 hob))
      have halb := H.out.2.2.2.2.2.2.1
      have hxs := rangeAt_of_row (heap_alloc_new w3 (.cells ([.slice xo k co] : List Value).toArray 22)) (off := 0) (xs := [.slice xo k co]) rfl
      have hxm := (H.out.1.mid.upd hU3 (fun _ _ h => h)).upd ((Upd.refl (fun _ => False) w3).alloc (.cells ([.slice xo k co] : List Value).toArray 22)) (fun _ _ h => h)
      have hwm := (H.out.1.whole.upd hU3 (fun _ _ h => h) H.out.1.mid.lt).upd ((Upd.refl (fun _ => False) w3).alloc (.cells ([.slice xo k co] : List Value).toArray 22)) (fun _ _ h => h) (fun q hq => Nat.lt_of_lt_of_le (H.out.1.mid.lt q hq) hU3.size)
      have Hxm := Lib.hid (And.intro hxm (And.intro hxs (And.intro halb hwm)))
      clear hm3 hu3 hb3 hU3 hob hxs hxm hwm halb
      go_wp2_with ((with_reducible apply wpl_append_whole 22 1 24 _ (.slice x al c) al vs 1 [.slice xo k co]))
      · exact Try.underlying39
      · exact infoSS
      · rfl
      · rfl
      · exact Hxm.out.1
      · exact Hxm.out.2.2.2
      · exact Sees.at rfl (by decide) Hxm.out.2.1
      · intro u hu; simp at hu; rw [hu]; rfl
      · have := Hxm.out.2.2.1; unfold maxLen; omega
      · have := Hxm.out.2.2.1; omega
      intro x2 c2 w5 hm5 hu5 hb5 hw5
      try (simp only [Act.put, List.setIfInBounds_toArray, List.set_cons_zero, List.set_cons_succ])
      have hbk := H.out.2.2.2.1
      have hstep : ∃ A', RefL (w5.setCell ⟨rb, 1, none⟩ (.slice x2 (al + 1) c2)) rb M T s (all ++ [b]) (al + 1) x2 c2 (vs ++ [.slice xo k co]) A' ∧ Upd (fun k => k = rb ∨ (Value.slice x al c).ownBlock = some k) w (w5.setCell ⟨rb, 1, none⟩ (.slice x2 (al + 1) c2)) ∧ (∀ k, ownRL rb (al + 1) x2 c2 A' k → ownRL rb al x c A k ∨ w.heap.size ≤ k) := by
        have := refL_app (b := b) (xo := xo) (co := co) H.out.1 H3.out.2.1 (by rw [hbk]; exact H3.out.1) (by rw [hbk]; exact H3.out.2.2) (by rw [hbk]; exact hm5) hu5 hb5 hw5
        rw [hbk] at this
        exact this
      have hfz : w5.frozen? ⟨rb, 1, none⟩ = false := by
        have h1 := (H.out.1.cells.upd H3.out.2.1 (fun h => h)).upd ((Upd.refl (fun _ => False) w3).alloc (.cells ([.slice xo k co] : List Value).toArray 22)) (fun h => h)
        exact (h1.upd hu5 (fun e => (H.out.1.own _ e).1 rfl)).frozen 1
      have hcw : ∃ v, w5.cell? ⟨rb, 1, none⟩ = some v := by
        have h1 := (H.out.1.cells.upd H3.out.2.1 (fun h => h)).upd ((Upd.refl (fun _ => False) w3).alloc (.cells ([.slice xo k co] : List Value).toArray 22)) (fun h => h)
        exact ⟨_, (h1.upd hu5 (fun e => (H.out.1.own _ e).1 rfl)).cell 1⟩
      obtain ⟨ov, hov⟩ := hcw
      have Hst := Lib.hid hstep
      have halb := Hxm.out.2.2.1
      have halI : (al : Int) ≤ 1000000000 := by omega
      clear hm5 hu5 hb5 hw5 hbk hstep hc1 halb
      go_wp2_with fail
      go_ret2
      obtain ⟨A', g1, g2, g3⟩ := Hst.out
      exact ⟨(al : Int) + 1, 0, rfl, .inr ⟨Hck.out, rfl, rfl, x2, c2, _, A', g1, g2, g3⟩⟩
end Go.Proofs.Ytocameknhglklaa
