/- docketlaw03.fixed. -/
import Derived.Test.YtocameknhglklaaWalH
namespace Go.Proofs.Ytocameknhglklaa
open Go.RowKit
set_option linter.unusedSimpArgs false
set_option linter.unusedVariables false
set_option maxRecDepth 100000

theorem sees_strs (w : World) (l : Batch) (h : l.length ≤ maxLen) : Sees (w.alloc (.cells (strsV l).toArray 9)) 1 (.slice (some ⟨w.heap.size, 0, none⟩) l.length l.length) l.length (strsV l) :=
  Sees.at (by simp [strsV_length]) h (rangeAt_of_row (heap_alloc_new w _) (by simp))
theorem check_zero {L : LSt} {D : DSt} {T : Nat} {all : List Batch} (h : Inv L D T all) (b : Batch) (h1 : b.length ≠ 0) (h2 : b.length ≤ 1024) (h3 : ¬ ∃ r ∈ b, 600 < r.size) (h4 : needB b ≤ L.n - 1 - needsB (all.drop T)) : L.check b = 0 := by
  rw [LSt.check, if_neg (by rw [h.alive]; decide), if_neg (by omega), if_neg h3, if_neg (by rw [LSt.room, h.used]; omega)]
abbrev bA : Batch := [⟨#[97]⟩]
abbrev bBC : Batch := [⟨#[98]⟩, ⟨#[99]⟩]
abbrev bLost : Batch := [⟨#[108, 111, 115, 116]⟩]
theorem new8 : (DSt.new 8).secs.length = 8 := by rw [DSt.new, List.length_replicate]; rfl
set_option maxHeartbeats 2000000 in
theorem wal_fixed (w : World) : Calls Try.prog 11 #[] w fun e w' => e = .returned (.bool true) ∧ Upd (fun _ => False) w w' := by
  go_enter Try.func11, Try.ntmps11
  go_wp2_with fail
  refine (new_disk 8 w).mono ?_
  rintro e w1 ⟨db, F, rfl, hD, hu, hF⟩
  dsimp only
  have H1 := Lib.hid (And.intro hD (And.intro hu hF))
  clear hD hu hF
  go_wp2_with fail
  refine (make_live H1.out.1 2 4 (by decide) (by rw [new8]; decide) (by decide) rfl rfl 2 4 rfl rfl).mono ?_
  rintro e w2 ⟨lb, F2, rfl, hH, hu, hF, hwt, hsl⟩
  dsimp only
  have hu2 : Upd (fun _ => False) w w2 := H1.out.2.1.then hu (fun k hk => .inr (H1.out.2.2 k hk))
  have hF2 : ∀ k, F2 k → w.heap.size ≤ k := fun k hk => by
    rcases hF k hk with h | h
    · exact H1.out.2.2 k h
    · have := H1.out.2.1.size; omega
  have H2 := Lib.hid (And.intro hH (And.intro hu2 (And.intro hF2 (And.intro hwt hsl))))
  clear hH hu hF hwt hsl hu2 hF2 H1
  go_wp2_with fail
  refine (hist_room H2.out.1 3 rfl).mono ?_
  rintro e w3 ⟨rfl, rfl⟩
  dsimp only
  go_wp2_with fail
  have hs3 : Sees (w2.alloc (.cells (strsV bA).toArray 9)).drew 1 (.slice (some ⟨w2.heap.size, 0, none⟩) 1 1) 1 (strsV bA) := sees_strs w2 bA (by decide)
  have hn := need_ok (some ⟨w2.heap.size, 0, none⟩) 1 bA _ hs3 (by decide)
  rw [show ((needB bA : Nat) : Int) = 1 from rfl] at hn
  refine hn.mono ?_
  clear hn hs3
  rintro e w3 ⟨rfl, rfl⟩
  dsimp only
  have hu3 : Upd (fun _ => False) w2 (w2.alloc (.cells (strsV bA).toArray 9)).drew := ((Upd.refl _ w2).alloc _).drew
  have H3 := Lib.hid (And.intro (H2.out.1.upd hu3 (fun _ _ h => h)) (H2.out.2.1.trans hu3))
  have hz3 : w2.heap.size ≤ (w2.alloc (.cells (strsV bA).toArray 9)).drew.heap.size := hu3.size
  generalize (w2.alloc (.cells (strsV bA).toArray 9)).drew = w3 at *
  have hF3 : ∀ k, F2 k → k < w3.heap.size := fun k hk => (H3.out.1).wal.lt k hk
  have H3 := Lib.hid (And.intro H3.out.1 (And.intro H3.out.2 (And.intro H2.out.2.2.1 (And.intro H2.out.2.2.2.1 H2.out.2.2.2.2))))
  clear H2 hu3 hz3 hF3
  go_wp2_with fail
  have hal : Upd (fun _ => False) w3 (w3.alloc (.cells (strsV bA).toArray 9)) := (Upd.refl _ w3).alloc _
  have hsa := sees_strs w3 bA (by decide)
  have hH4 := H3.out.1.upd hal (fun _ _ h => h)
  refine (hist_append hH4 (by rw [H3.out.2.2.2.1]; decide) (some ⟨w3.heap.size, 0, none⟩) 1 bA hsa (fun x hx _ hf => by cases hx; have := H3.out.1.wal.lt _ hf; exact Nat.lt_irrefl _ this) (by decide)).mono ?_
  rintro e w5 ⟨a1, r1, rfl, hp⟩
  rcases hp with ⟨hc, _⟩ | ⟨_, ha1, hr1, L5, D5, F5, hH5, hu5, hF5, hy5, hfr5, hn5, hw5, hs5⟩
  · exact absurd (check_zero hH4.inv bA (by decide) (by decide) (by decide) (by decide)) hc
  have ha1' : a1 = 1 := ha1
  subst ha1'
  subst hr1
  dsimp only
  have hU5 : Upd (fun _ => False) w w5 := (H3.out.2.1.trans hal).then hu5 (fun k hk => .inr (H3.out.2.2.1 k hk))
  have hF5' : ∀ k, F5 k → w.heap.size ≤ k := fun k hk => by
    rcases hF5 k hk with h | h
    · exact H3.out.2.2.1 k h
    · have := (H3.out.2.1.trans hal).size; omega
  have H5 := Lib.hid (And.intro hH5 (And.intro hU5 (And.intro hF5' (And.intro hy5 (And.intro hfr5 (And.intro hn5 (And.intro (show D5.waits.length ≤ 4096 by rw [H3.out.2.2.2.1] at hw5; simpa using hw5) (show D5.secs.length = 8 by rw [hs5, H3.out.2.2.2.2, new8]))))))))
  clear hal hsa hH4 ha1 hH5 hu5 hF5 hU5 hF5' hy5 hfr5 hn5 hw5 hs5
  go_wp2_with fail
  have hal : Upd (fun _ => False) w5 (w5.alloc (.cells (strsV bBC).toArray 9)) := (Upd.refl _ w5).alloc _
  have hsa := sees_strs w5 bBC (by decide)
  have hH6 := H5.out.1.upd hal (fun _ _ h => h)
  refine (hist_append hH6 (by have := H5.out.2.2.2.2.2.2.1; omega) (some ⟨w5.heap.size, 0, none⟩) 2 bBC hsa (fun x hx _ hf => by cases hx; have := H5.out.1.wal.lt _ hf; exact Nat.lt_irrefl _ this) (by decide)).mono ?_
  rintro e w7 ⟨a2, r2, rfl, hp⟩
  rcases hp with ⟨hc, _⟩ | ⟨_, ha2, hr2, L7, D7, F7, hH7, hu7, hF7, hy7, hfr7, hn7, hw7, hs7⟩
  · exact absurd (check_zero hH6.inv bBC (by decide) (by decide) (by decide) (by rw [H5.out.2.2.2.2.2.1]; decide)) hc
  have ha2' : a2 = 2 := ha2
  subst ha2'
  subst hr2
  dsimp only
  have hU7 : Upd (fun _ => False) w w7 := (H5.out.2.1.trans hal).then hu7 (fun k hk => .inr (H5.out.2.2.1 k hk))
  have hF7' : ∀ k, F7 k → w.heap.size ≤ k := fun k hk => by
    rcases hF7 k hk with h | h
    · exact H5.out.2.2.1 k h
    · have := (H5.out.2.1.trans hal).size; omega
  have H7 := Lib.hid (And.intro hH7 (And.intro hU7 (And.intro hF7' (And.intro (hfr7.trans H5.out.2.2.2.2.1) (And.intro (hn7.trans H5.out.2.2.2.2.2.1) (And.intro (show D7.waits.length ≤ 8192 by have := H5.out.2.2.2.2.2.2.1; omega) (hs7.trans H5.out.2.2.2.2.2.2.2)))))))
  clear hal hsa hH6 ha2 hH7 hu7 hF7 hU7 hF7' hy7 hfr7 hn7 hw7 hs7 H5
  go_wp2_with fail
  refine (hist_sync H7.out.1 (by have := H7.out.2.2.2.2.2.1; omega)).mono ?_
  rintro e w8 ⟨D8, F8, rfl, hH8, hu8, hF8, hw8⟩
  dsimp only
  have hU8 : Upd (fun _ => False) w w8 := H7.out.2.1.then hu8 (fun k hk => .inr (H7.out.2.2.1 k hk))
  have hF8' : ∀ k, F8 k → w.heap.size ≤ k := fun k hk => by
    rcases hF8 k hk with h | h
    · exact H7.out.2.2.1 k h
    · have := H7.out.2.1.size; omega
  have H8 := Lib.hid (And.intro hH8 (And.intro hU8 (And.intro hF8' hw8)))
  clear hH8 hu8 hF8 hU8 hF8' hw8
  go_wp2_with fail
  refine (hist_trim H8.out.1 (by rw [H8.out.2.2.2]; decide) 1 (by decide)).mono ?_
  rintro e w9 ⟨r9, rfl, hp⟩
  rcases hp with ⟨hc, _⟩ | ⟨_, _, hr9, L9, D9, F9, hH9, hu9, hF9, hy9, hfr9, hn9, hw9⟩
  · exact absurd hc (by show ¬ ((1 : Int) < 0 ∨ ((2 : Nat) : Int) < 1); decide)
  subst hr9
  dsimp only
  have hU9 : Upd (fun _ => False) w w9 := H8.out.2.1.then hu9 (fun k hk => .inr (H8.out.2.2.1 k hk))
  have hF9' : ∀ k, F9 k → w.heap.size ≤ k := fun k hk => by
    rcases hF9 k hk with h | h
    · exact H8.out.2.2.1 k h
    · have := H8.out.2.1.size; omega
  have H9 := Lib.hid (And.intro hH9 (And.intro hU9 (And.intro hF9' (And.intro (hfr9.trans H7.out.2.2.2.1) (And.intro (hn9.trans H7.out.2.2.2.2.1) (And.intro hw9 hy9))))))
  clear hH9 hu9 hF9 hU9 hF9' hw9 hfr9 hn9 hy9 H8 H7
  go_wp2_with fail
  have hal : Upd (fun _ => False) w9 (w9.alloc (.cells (strsV bLost).toArray 9)) := (Upd.refl _ w9).alloc _
  have hsa := sees_strs w9 bLost (by decide)
  have hH10 := H9.out.1.upd hal (fun _ _ h => h)
  refine (hist_append hH10 (by rw [H9.out.2.2.2.2.2.1]; decide) (some ⟨w9.heap.size, 0, none⟩) 1 bLost hsa (fun x hx _ hf => by cases hx; have := H9.out.1.wal.lt _ hf; exact Nat.lt_irrefl _ this) (by decide)).mono ?_
  rintro e w11 ⟨a3, r3, rfl, hp⟩
  rcases hp with ⟨hc, _⟩ | ⟨_, ha3, hr3, L11, D11, F11, hH11, hu11, hF11, hy11, hfr11, hn11, hw11, hs11⟩
  · exact absurd (check_zero hH10.inv bLost (by decide) (by decide) (by decide) (by rw [H9.out.2.2.2.2.1]; decide)) hc
  dsimp only
  have hU11 : Upd (fun _ => False) w w11 := (H9.out.2.1.trans hal).then hu11 (fun k hk => .inr (H9.out.2.2.1 k hk))
  have hF11' : ∀ k, F11 k → w.heap.size ≤ k := fun k hk => by
    rcases hF11 k hk with h | h
    · exact H9.out.2.2.1 k h
    · have := (H9.out.2.1.trans hal).size; omega
  have H11 := Lib.hid (And.intro hH11 (And.intro hU11 (And.intro hF11' (And.intro (hfr11.trans H9.out.2.2.2.1) (And.intro (hn11.trans H9.out.2.2.2.2.1) (And.intro (show D11.waits.length ≤ 4096 by rw [H9.out.2.2.2.2.2.1] at hw11; simpa using hw11) (hy11.trans H9.out.2.2.2.2.2.2)))))))
  clear hal hsa hH10 ha3 hr3 hH11 hu11 hF11 hU11 hF11' hy11 hfr11 hn11 hw11 hs11 H9
  go_wp2_with fail
  obtain ⟨G, hDG, hGF⟩ := H11.out.1.wal.disk
  refine (crash_disk hDG (by have := H11.out.2.2.2.2.2.1; omega) none 0 [] (Sees.zero _ _ _ _) (fun x hx => by cases hx)).mono ?_
  rintro e w12 ⟨rfl, hD12, hu12⟩
  dsimp only
  have hinv := H11.out.1.inv
  have hg : Good (D11.crash []).secs 2 4 L11.start (1 + 1) 2 (seg ([] ++ [bA] ++ [bBC] ++ [bLost]) 1 2) := by
    have h := hinv.good.avoid (kept D11.waits []) (fun p hp => hinv.waits p (kept_sub _ _ p hp))
    rw [H11.out.2.2.2.1, H11.out.2.2.2.2.1, H11.out.2.2.2.2.2.2] at h
    exact h
  have hU12 : Upd (fun _ => False) w w12 := H11.out.2.1.then hu12 (fun k hk => .inr (H11.out.2.2.1 k (hGF k hk)))
  have hG12 : ∀ k, G k → w.heap.size ≤ k := fun k hk => H11.out.2.2.1 k (hGF k hk)
  have H12 := Lib.hid (And.intro hD12 (And.intro hU12 (And.intro hG12 hg)))
  clear hDG hGF hD12 hu12 hinv hg hU12 hG12 H11
  go_wp2_with fail
  refine (open_live H12.out.1 2 4 1 2 L11.start ([] ++ [bA] ++ [bBC] ++ [bLost]) (by show 0 < 99999999990; decide) rfl rfl (by decide) (by decide) H12.out.2.2.2 (fun p hp => by cases hp) 2 4 rfl rfl).mono ?_
  rintro e w13 ⟨lb2, x, c, rfl, F13, vs, A, hH13, hu13, hF13, hm13, hr13, -, -⟩
  dsimp only
  have hseg : seg ([] ++ [bA] ++ [bBC] ++ [bLost]) 1 2 = [bBC] := rfl
  rw [hseg] at hr13
  obtain ⟨hvl, hvs⟩ := hr13
  obtain ⟨v, rfl⟩ : ∃ v, vs = [v] := by
    match vs, hvl with
    | [v], _ => exact ⟨v, rfl⟩
  have hv := (hvs 0 (Nat.zero_lt_one) (Nat.zero_lt_one)).1
  obtain ⟨xv, cv, hve⟩ := hv.shape
  have hve' : v = .slice xv 2 cv := hve
  obtain ⟨_, ⟨h, h0⟩ | ⟨g, off, cap, h, h1, h2, h3, h4, h5⟩⟩ := hm13
  · cases h0
  cases h
  have hcell : w13.cell? ⟨g, off, none⟩ = some (.slice xv 2 cv) := by
    have := h4 0 v rfl
    rw [hve'] at this
    exact this
  have hU13 : Upd (fun _ => False) w w13 := H12.out.2.1.trans hu13
  have H13 := Lib.hid (And.intro hH13 (And.intro hU13 (show Sees w13 1 (.slice xv bBC.length cv) bBC.length (strsV bBC) by rw [hve'] at hv; exact hv)))
  clear hH13 hu13 hF13 hseg hvl hvs hv hve hve' h1 h2 h3 h4 h5 hU13 H12
  go_wp2_with fail
  have hal : Upd (fun _ => False) w13 (w13.alloc (.cells (strsV bBC).toArray 9)) := (Upd.refl _ w13).alloc _
  have hsa := sees_strs w13 bBC (by decide)
  refine (same_ok xv (some ⟨w13.heap.size, 0, none⟩) cv 2 bBC bBC _ (H13.out.2.2.upd hal (fun _ _ _ h => h)) hsa).mono ?_
  rintro e w14 ⟨rfl, hu14⟩
  dsimp only
  have H14 := Lib.hid (And.intro ((H13.out.1.upd hal (fun _ _ h => h)).upd hu14 (fun _ _ h => h)) ((H13.out.2.1.trans hal).trans hu14))
  clear hal hsa hu14 H13 hcell
  rw [decide_eq_true (rfl : bBC = bBC)]
  go_wp2_with fail
  refine (hist_first H14.out.1).mono ?_
  rintro e w15 ⟨rfl, rfl⟩
  dsimp only
  go_wp2_with fail
  have hl := hist_last H14.out.1
  have e2 : (List.take 2 (([] : List Batch) ++ [bA] ++ [bBC] ++ [bLost])).length = 2 := rfl
  rw [e2] at hl
  clear e2
  refine hl.mono ?_
  clear hl
  rintro e w15 ⟨rfl, rfl⟩
  dsimp only
  go_wp2_with fail
  go_ret
  exact ⟨rfl, H14.out.2⟩
end Go.Proofs.Ytocameknhglklaa
