/- docketref03.Told, where what it is handed is what was appended. -/
import Derived.Test.YtocameknhglklaaWalG
namespace Go.Proofs.Ytocameknhglklaa
open Go.RowKit
set_option linter.unusedSimpArgs false
set_option linter.unusedVariables false
set_option maxRecDepth 100000

set_option maxHeartbeats 2000000 in
theorem told_ok {w : World} {rb : Nat} {xl xg : Option Addr} {cl cg : Nat} {all bs : List Batch} {vl vg : List Value} {A A' : Nat → Prop} (hc : w.cell? ⟨rb, 1, none⟩ = some (.slice xl all.length cl))
    (hl : Sees w 1 (.slice xl all.length cl) all.length vl) (hrl : RowsAt w vl all A) (hg : Sees w 1 (.slice xg bs.length cg) bs.length vg) (hrg : RowsAt w vg bs A') (fi la : Nat) (h1 : 1 ≤ fi) (hlen : bs.length + fi = la + 1) (hla : la ≤ all.length) (hsm : all.length ≤ 1000000000000)
    (heq : ∀ i (h : i < bs.length), bs[i] = all[fi - 1 + i]'(by omega)) (fiI laI : Int) (hfI : fiI = (fi : Nat)) (hlI : laI = (la : Nat)) :
    Calls Try.prog 23 #[.pointer (some ⟨rb, 0, none⟩), .slice xg bs.length cg, .int .i64 fiI, .int .i64 laI] w fun e w' => e = .returned (.bool true) ∧ Upd (fun _ => False) w w' := by
  subst hfI; subst hlI
  have hm := hl.2.1
  replace heq : ∀ i (h : i < bs.length) (h' : fi - 1 + i < all.length), bs[i] = all[fi - 1 + i] := fun i h _ => heq i h
  obtain ⟨m, hmm⟩ : ∃ m, bs.length = m := ⟨_, rfl⟩
  obtain ⟨al, hal⟩ : ∃ al, all.length = al := ⟨_, rfl⟩
  have H := Lib.hid (And.intro hl (And.intro hrl (And.intro hg (And.intro hrg (And.intro h1 (And.intro hlen (And.intro hla (And.intro heq (And.intro hmm (And.intro hal hsm))))))))))
  rw [hal] at hc
  rw [hmm]
  have Hc := Lib.hid hc
  have b1 : (fi : Int) ≤ 1000000000001 := by omega
  have b2 : (la : Int) ≤ 1000000000000 := by omega
  have b3 : (m : Int) ≤ 1000000000000 := by omega
  have q0 : ((m : Int) != (la : Int) - (fi : Int) + 1) = false := by rw [bne_eq_false_iff_eq]; omega
  have q1 : decide ((fi : Int) < 1) = false := by simp; omega
  have q2 : decide (al < la) = false := by simp; omega
  clear hl hrl hg hrg h1 hlen hla heq hmm hal hm hsm
  go_enter Try.func23, Try.ntmps23
  go_wp2_with fail
  clear q0 q1 q2
  go_loopw [9] (fun i wr => ∃ k : Nat, k ≤ m ∧ i = .int .i64 k ∧ Hid (Upd (fun _ => False) w wr)) (fun i _ => m - (intOf i).toNat)
  case atStart => exact ⟨0, Nat.zero_le _, rfl, Upd.refl _ _⟩
  case round =>
    obtain ⟨k, hk, rfl, HU⟩ := hrel
    by_cases hlt : k < m
    · have hltm : k < m := hlt
      obtain ⟨f0, hf0⟩ : ∃ f0, fi - 1 = f0 := ⟨_, rfl⟩
      obtain ⟨q, hq⟩ : ∃ q, f0 + k = q := ⟨_, rfl⟩
      obtain ⟨hl, hrl, hg, hrg, h1, hlen, hla, heq, hmm, hal, hsm⟩ := H.out
      have hqa : q < all.length := by omega
      have hkb : k < bs.length := by omega
      have e := heq k hkb (by omega)
      have hvl : q < vl.length := by rw [hrl.1]; exact hqa
      have hvg : k < vg.length := by rw [hrg.1]; exact hkb
      have s1 := (hrl.2 q hvl hqa).1.upd HU.out (fun _ _ _ h => h)
      have s2 := (hrg.2 k hvg hkb).1.upd HU.out (fun _ _ _ h => h)
      obtain ⟨x1, c1, e1⟩ := s1.shape
      obtain ⟨x2, c2, e2⟩ := s2.shape
      rw [e1] at s1
      rw [e2] at s2
      have ebb : bs[k] = all[q] := by rw [e]; congr 1; omega
      have hl' := hl.upd HU.out (fun _ _ _ h => h)
      have hg' := hg.upd HU.out (fun _ _ _ h => h)
      obtain ⟨_, _, xo, cc, e', hcc⟩ := hl'
      cases e'
      obtain ⟨gl, ol, rfl, hrr⟩ := hcc (by omega)
      obtain ⟨_, _, xo, cc, e', hcc'⟩ := hg'
      cases e'
      obtain ⟨gg, og, rfl, hrr'⟩ := hcc' (by omega)
      obtain ⟨n1, hn1⟩ : ∃ n1, all[q].length = n1 := ⟨_, rfl⟩
      have hn2 : bs[k].length = n1 := by rw [ebb]; exact hn1
      have k1 : wr.cell? ⟨gl, ol + q, none⟩ = some (.slice x1 n1 c1) := by
        have := hrr q _ (List.getElem?_eq_getElem hvl)
        rw [e1, hn1] at this; exact this
      have k2 : wr.cell? ⟨gg, og + k, none⟩ = some (.slice x2 n1 c2) := by
        have := hrr' k _ (List.getElem?_eq_getElem hvg)
        rw [e2, hn2] at this; exact this
      have k3 : wr.cell? ⟨rb, 1, none⟩ = some (.slice (some ⟨gl, ol, none⟩) al cl) := HU.out.cell_some (a := ⟨rb, 1, none⟩) Hc.out (fun h => h)
      have hdr : Upd (fun _ => False) wr wr.drew := (Upd.refl _ wr).drew
      have hsame := same_ok x2 x1 c2 c1 bs[k] all[q] wr.drew (s2.upd hdr (fun _ _ _ h => h)) (s1.upd hdr (fun _ _ _ h => h))
      rw [ebb, hn1, decide_eq_true rfl] at hsame
      have Hsame := Lib.hid hsame
      have f1 : IntKind.i64.wrap ((fi : Int) - 1) = (f0 : Int) := by rw [IntKind.wrap_i64]; omega
      have f2 : IntKind.i64.wrap ((f0 : Int) + (k : Int)) = (q : Int) := by rw [IntKind.wrap_i64]; omega
      have hk0 : (0 : Int) ≤ (k : Int) := by omega
      have hkm : (k : Int) < (m : Int) := by omega
      have hq0 : (0 : Int) ≤ (q : Int) := by omega
      have hqm : (q : Int) < (al : Int) := by omega
      rw [hmm] at *
      have HS : wr.drew.cell? ⟨gl, ol + q, none⟩ = some (.slice x1 n1 c1) ∧ wr.drew.cell? ⟨gg, og + k, none⟩ = some (.slice x2 n1 c2) ∧ wr.drew.cell? ⟨rb, 1, none⟩ = some (.slice (some ⟨gl, ol, none⟩) al cl) := ⟨k1, k2, k3⟩
      clear hf0 hq hl hrl hg hrg h1 hlen hla heq hmm hal hsm hqa hkb e hvl hvg s1 s2 e1 e2 ebb hcc hcc' hrr hrr' hn1 hn2 k1 k2 k3 hsame hc hltm
      go_wp2_with fail
      refine wp_region_planD (fun w' => w'.cell? ⟨gl, ol + q, none⟩ = some (.slice x1 n1 c1) ∧ w'.cell? ⟨gg, og + k, none⟩ = some (.slice x2 n1 c2) ∧ w'.cell? ⟨rb, 1, none⟩ = some (.slice (some ⟨gl, ol, none⟩) al cl)) 16 [(0, true), (1, true), (2, true), (3, true), (4, true), (5, true), (6, true), (7, true), (8, true), (9, true), (10, true), (11, true), (12, true), (13, true), (14, false), (15, true)] (by kernel_rfl) (by kernel_rfl) (fun d _ _ _ _ h => by cases d <;> exact h) HS ?_
      iterate 14 (apply planD_held rfl rfl rfl (by simp) HS; (intro w' hS K hK; go_simp; exact hK))
      refine planD_op rfl rfl (fun K hK => ?_)
      go_simp
      refine Hsame.out.mono ?_
      rintro e' w7 ⟨rfl, hu7⟩
      dsimp only
      have HS7 : w7.cell? ⟨gl, ol + q, none⟩ = some (.slice x1 n1 c1) ∧ w7.cell? ⟨gg, og + k, none⟩ = some (.slice x2 n1 c2) ∧ w7.cell? ⟨rb, 1, none⟩ = some (.slice (some ⟨gl, ol, none⟩) al cl) :=
        ⟨hu7.cell_some (a := ⟨gl, ol + q, none⟩) HS.1 (fun h => h), hu7.cell_some (a := ⟨gg, og + k, none⟩) HS.2.1 (fun h => h), hu7.cell_some (a := ⟨rb, 1, none⟩) HS.2.2 (fun h => h)⟩
      have HU7 : Hid (Upd (fun _ => False) w w7) := (HU.out.trans hdr).trans hu7
      refine hK _ _ _ (fun u h => h) (fun _ => HS7) ?_
      clear hK HS hdr hu7 f1 f2
      try (simp only [Act.put, List.setIfInBounds_toArray, List.set_cons_zero, List.set_cons_succ])
      (apply planD_held rfl rfl rfl (by simp) HS7; (intro w' hS K hK; go_simp; exact hK))
      refine planD_nil ?_
      clear HS7
      go_wp2_with fail
      exact ⟨⟨k + 1, by omega, by go_num, HU7⟩, by simp [intOf]; omega⟩
    · obtain rfl : k = m := by omega
      clear hlt
      go_wp2_with fail
      go_ret
      exact ⟨rfl, HU.out⟩
end Go.Proofs.Ytocameknhglklaa
