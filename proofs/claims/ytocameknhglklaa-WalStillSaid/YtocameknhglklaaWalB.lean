/- wal: Append. -/
import Derived.Test.YtocameknhglklaaWalA
import Derived.Test.YtocameknhglklaaRowS
namespace Go.Proofs.Ytocameknhglklaa
open Go.RowKit
set_option linter.unusedSimpArgs false
set_option linter.unusedVariables false
set_option maxRecDepth 100000

theorem append_nil (v : Value) (w : World) : Calls Try.prog 16 #[.pointer none, v] w fun e w' => e = .returned (.tuple #[.int .i64 0, .int .i64 2]) ∧ w = w' := by
  have Hc := Lib.hid (wcheck_nil v w)
  go_enter Try.func16, Try.ntmps16
  go_wp2_with fail
  refine Hc.out.mono ?_
  rintro e w1 ⟨rfl, rfl⟩
  dsimp only
  go_wp2_with fail
  go_ret2
  exact ⟨rfl, rfl⟩
/-- The body so far. -/
def BodyR (w : World) (b : Batch) (k : Nat) (bs : Bytes) (x : Option Addr) (c : Nat) (wr : World) : Prop :=
  bs = bodyB (b.take k) ∧ Mid wr 1 (.slice x bs.length c) bs.length (bvs bs) ∧ Upd (fun _ => False) w wr ∧ (∀ j, (Value.slice x bs.length c).ownBlock = some j → w.heap.size ≤ j)
theorem bodyB_snoc (b : Batch) (r : ByteArray) : bodyB (b ++ [r]) = bodyB b ++ (leB 4 r.size ++ r.data.toList) := by simp [bodyB]
theorem bodyB_take_le (b : Batch) (k : Nat) : (bodyB (b.take k)).length ≤ (bodyB b).length := by
  have h : bodyB b = bodyB (b.take k) ++ bodyB (b.drop k) := by rw [bodyB, bodyB, bodyB, ← List.flatMap_append, List.take_append_drop]
  rw [h, List.length_append]; omega
theorem put_nil (N size : Nat) (w : World) (hN : N < 18446744073709551616) (hs : size ≤ 8) :
    Calls Try.prog 40 #[.slice none 0 0, .int .u64 N, .int .i64 size] w fun e w' => ∃ x' c', e = .returned (.slice x' size c') ∧ Mid w' 1 (.slice x' size c') size (bvs (leB size N)) ∧ Upd (fun _ => False) w w' ∧ (∀ k, (Value.slice x' size c').ownBlock = some k → w.heap.size ≤ k) := by
  refine (put_ok (.slice none 0 0) [] N size w (Mid.nil _ _) hN hs (by decide)).mono ?_
  rintro e w' ⟨x', c', rfl, h1, h2, h3⟩
  have e0 : ([] : Bytes).length + size = size := by simp
  rw [e0] at h1 h3 ⊢
  rw [List.nil_append] at h1
  exact ⟨x', c', rfl, h1, h2.mono (fun k _ hk => by cases hk), fun k hk => (h3 k hk).elim (fun h => by cases h) id⟩
theorem WalPost.drawn {w w1 w2 : World} {lb db : Nat} {L : LSt} {D : DSt} {F : Nat → Prop} (h : Drawn w w1) (h2 : WalPost w1 lb db L D F w2) : WalPost w lb db L D F w2 := by
  obtain ⟨F', g1, g2, g3⟩ := h2
  have := h.size
  exact ⟨F', g1, (h.upd.mono (fun _ _ h => h.elim)).trans g2, fun k hk => (g3 k hk).imp id (fun h => by omega)⟩

theorem infoE : (Try.prog.info? 106).map (fun i => (i.zero, i.size, i.bytes)) = some (some (.agg #[.int .i64 0, .int .i64 0]), 2, 16) := by kernel_rfl
theorem slice_lh1 {P : Program} (t e : TypeId) (hu : P.underlying t = some (.slice e)) (hs : (P.info? e).map (·.size) = some 1) (g off n cap lo hi : Nat) (h1 : lo ≤ hi) (h2 : hi ≤ cap) (h3 : lo < cap) (w : World) :
    (Instr.slice t (.slice (some ⟨g, off, none⟩) n cap) (some (.int .i64 lo)) (some (.int .i64 hi)) none).run P w = .ok (.slice (some ⟨g, off + lo, none⟩) (hi - lo) (cap - lo)) w := by
  cases hq : P.info? e with
  | none => simp [hq] at hs
  | some i =>
    have hi' : i.size = 1 := by simpa [hq] using hs
    have hu' : P.underlying t = some (.slice (P.elem t)) := by rw [hu]; simp [Program.elem, hu]
    have he : P.elem t = e := by simp [Program.elem, hu]
    rw [run_slice_lh w t (some ⟨g, off, none⟩) n cap hu' .i64 .i64 lo hi (by omega) (by omega) (by omega)]
    simp [sizeOf, typeInfo, he, hq, hi', sliced, Addr.add_mid]
    omega
/-- The writes so far. -/
def WrR (w : World) (lb db : Nat) (L : LSt) (lv : Value) (enc : Bytes) (x : Option Addr) (c : Nat) (D : DSt) (G : Nat → Prop) (nb k : Nat) (Dk : DSt) (Gk : Nat → Prop) (wr : World) : Prop :=
  L.writes enc (nb - k) k Dk = L.writes enc nb 0 D ∧ DiskAt wr db Dk Gk ∧ Upd (fun j => j = lb ∨ G j) w wr ∧ (∀ j, Gk j → G j ∨ w.heap.size ≤ j) ∧ Cells9 wr lb (preL L db lv) ∧
    Mid wr 1 (.slice x enc.length c) enc.length (bvs enc) ∧ Dk.waits.length ≤ D.waits.length + k ∧ (∀ j, (Value.slice x enc.length c).ownBlock = some j → ¬ Gk j ∧ j ≠ lb ∧ w.heap.size ≤ j)
set_option maxHeartbeats 2000000 in
theorem append_ok {w : World} {lb db : Nat} {L : LSt} {D : DSt} {F : Nat → Prop} (h : WalAt w lb db L D F) (hwt : D.waits.length < 99999900000) (xa : Option Addr) (xc : Nat) (b : Batch) (hb : Sees w 1 (.slice xa b.length xc) b.length (strsV b))
    (hbF : ∀ x, xa = some x → 0 < b.length → x.block ≠ lb) (hlast : L.last + 1 < 1000000000000000000) :
    Calls Try.prog 16 #[.pointer (some ⟨lb, 0, none⟩), .slice xa b.length xc] w fun e w' => e = .returned (.tuple #[.int .i64 (L.append D b).2.2.1, .int .i64 (L.append D b).2.2.2]) ∧ WalPost w lb db (L.append D b).1 (L.append D b).2.1 F w' := by
  obtain ⟨lv, G, hOk, hC, hM, hD, hG, hlv, hF⟩ := id h
  have hchk := wcheck_ok hC hOk xa xc b hb
  obtain ⟨ck, hck⟩ : ∃ ck, L.check b = ck := ⟨_, rfl⟩
  rw [hck] at hchk
  have H := Lib.hid (And.intro hOk (And.intro hC (And.intro hM (And.intro hD (And.intro hG (And.intro hlv hF))))))
  have Hh := Lib.hid (And.intro h (And.intro hwt (And.intro hb (And.intro hbF hlast))))
  have Hchk := Lib.hid hchk
  have Hck := Lib.hid hck
  clear hOk hC hM hD hG hlv hF h hwt hb hbF hlast hchk hck
  by_cases hc : ck = 0
  · subst hc
    have hc0 := Hck.out
    have hdead : L.dead = false := by
      cases hd : L.dead with
      | false => rfl
      | true => rw [LSt.check, if_pos hd] at hc0; cases hc0
    have hlen : b.length ≤ 1024 := by
      rcases Nat.lt_or_ge 1024 b.length with h | h
      · rw [LSt.check, if_neg (by rw [hdead]; decide), if_pos (.inr h)] at hc0; cases hc0
      · exact h
    have hne0 : b.length ≠ 0 := by
      intro h
      rw [LSt.check, if_neg (by rw [hdead]; decide), if_pos (.inl h)] at hc0; cases hc0
    have hnone : ¬ ∃ r ∈ b, 600 < r.size := by
      intro h
      rw [LSt.check, if_neg (by rw [hdead]; decide), if_neg (by omega), if_pos h] at hc0; cases hc0
    have hroom : needB b ≤ L.room := by
      rcases Nat.lt_or_ge L.room (needB b) with h | h
      · rw [LSt.check, if_neg (by rw [hdead]; decide), if_neg (by omega), if_neg hnone, if_pos h] at hc0; cases hc0
      · exact h
    have hby := bytesOf_le b hnone
    have hbl : (bodyB b).length ≤ 1024 * 604 := by rw [bytesOf_eq] at hby; omega
    have Hc := Lib.hid (And.intro hdead (And.intro hlen (And.intro hne0 (And.intro hnone (And.intro hroom (And.intro hby hbl))))))
    have hlm : (b.length : Int) ≤ 1024 := by omega
    clear hc0 hdead hlen hne0 hnone hroom hby hbl
    go_enter Try.func16, Try.ntmps16
    go_wp2_with fail
    refine Hchk.out.mono ?_
    rintro e w1 ⟨rfl, hdr⟩
    dsimp only
    have hb1 : Sees w1 1 (.slice xa b.length xc) b.length (strsV b) := Hh.out.2.2.1.upd hdr.upd (fun _ _ _ h => h)
    have H1 := Lib.hid (And.intro hdr hb1)
    have HR0 : Hid (BodyR w1 b 0 [] none 0 w1) := ⟨by simp [bodyB], Mid.nil _ _, Upd.refl _ _, fun j hj => by cases hj⟩
    clear hdr hb1
    go_wp2_with fail
    go_loopw [7, 22] (fun s i wr => ∃ (k : Nat) (bs : Bytes) (x : Option Addr) (c : Nat), k ≤ b.length ∧ i = .int .i64 k ∧ s = .slice x bs.length c ∧ Hid (BodyR w1 b k bs x c wr)) (fun _ i _ => b.length - (intOf i).toNat)
    case atStart => exact ⟨0, [], none, 0, Nat.zero_le _, rfl, rfl, HR0⟩
    case round =>
      clear HR0
      obtain ⟨k, bs, x, c, hk, rfl, rfl, HR⟩ := hrel
      by_cases hlt : k < b.length
      · have hlt2 : (k : Int) < (b.length : Int) := by omega
        obtain ⟨r, hr⟩ : ∃ r, b[k] = r := ⟨_, rfl⟩
        have hb2 := H1.out.2.upd HR.out.2.2.1 (fun _ _ _ h => h)
        obtain ⟨_, _, xo, cc, e', hcc⟩ := hb2
        cases e'
        obtain ⟨g, off, rfl, hrr⟩ := hcc (by omega)
        have hcell : wr.cell? ⟨g, off + k, none⟩ = some (.string r) := hrr k _ (by simp [strsV, hlt, hr])
        have hr6 : r.size ≤ 600 := by
          rcases Nat.lt_or_ge 600 r.size with h | h
          · exact absurd ⟨r, by rw [← hr]; exact List.getElem_mem hlt, h⟩ Hc.out.2.2.2.1
          · exact h
        have f1 : IntKind.u64.wrap (r.size : Int) = (r.size : Int) := by show (r.size : Int) % 18446744073709551616 = _; omega
        have hbsl : bs.length ≤ 1024 * 604 := by rw [HR.out.1]; exact Nat.le_trans (bodyB_take_le b k) Hc.out.2.2.2.2.2.2
        have Hr := Lib.hid (And.intro hr (And.intro hr6 hbsl))
        have hr7 : (r.size : Int) ≤ 600 := by omega
        clear hcc hrr hr hr6 hbsl
        go_wp2_with fail
        refine (put_ok (.slice x bs.length c) bs r.size 4 _ HR.out.2.1 (by omega) (by decide) (by have := Hr.out.2.2; omega)).mono ?_
        rintro e w3 ⟨x', c', rfl, hmid, hu, hbk⟩
        dsimp only
        have H3 := Lib.hid (And.intro hmid (And.intro hu hbk))
        clear hmid hu hbk hcell f1
        go_wp2_with ((with_reducible apply wpl_append_mid_str 5 (.slice x' (bs.length + 4) c') (bs.length + 4) (bvs (bs ++ leB 4 r.size)) r))
        · exact Try.underlying98
        · exact Try.underlying9
        · exact infoU8
        · rfl
        · rfl
        · exact H3.out.1
        · have := Hr.out.2; omega
        intro x4 c4 w4 hm4 hu4 hb4
        try (simp only [Act.put, List.setIfInBounds_toArray, List.set_cons_zero, List.set_cons_succ])
        have hl4 : bs.length + 4 + r.size = (bs ++ (leB 4 r.size ++ r.data.toList)).length := by
          have : r.data.toList.length = r.size := by rw [Array.length_toList]; rfl
          rw [List.length_append, List.length_append, leB_length, this]; omega
        rw [hl4] at hm4 hb4 ⊢
        have HR4 : Hid (BodyR w1 b (k + 1) (bs ++ (leB 4 r.size ++ r.data.toList)) x4 c4 w4) := by
          have h0 := HR.out
          refine ⟨?_, ?_, (h0.2.2.1.then H3.out.2.1 (fun j hj => .inr (h0.2.2.2 j hj))).then hu4 (fun j hj => ?_), fun j hj => ?_⟩
          · rw [h0.1, List.take_succ_eq_append_getElem hlt, bodyB_snoc, Hr.out.1]
          · rw [← bvs_append, List.append_assoc] at hm4
            exact hm4
          · have hs := h0.2.2.1.size
            rcases H3.out.2.2 j hj with h | h
            · exact .inr (h0.2.2.2 j h)
            · exact .inr (by omega)
          · have hs := h0.2.2.1.size
            have hs3 := H3.out.2.1.size
            rcases hb4 with h | h
            · rw [h] at hj
              rcases H3.out.2.2 j hj with h | h
              · exact h0.2.2.2 j h
              · omega
            · rw [h] at hj
              cases hj
              omega
        clear hm4 hu4 hb4 hl4 HR H3 hr7
        go_wp2_with fail
        exact ⟨⟨k + 1, _, x4, c4, by omega, by go_num, rfl, HR4⟩, by simp [intOf]; omega⟩
      · obtain rfl : k = b.length := by omega
        clear hlt
        obtain ⟨N, hN⟩ : ∃ N, 16 + bs.length = N := ⟨_, rfl⟩
        obtain ⟨M, hMl⟩ : ∃ M, L.last + 1 = M := ⟨_, rfl⟩
        obtain ⟨la, hla⟩ : ∃ la, L.last = la := ⟨_, rfl⟩
        have hbs : bs = bodyB b := by have := HR.out.1; rwa [List.take_length] at this
        have hbl2 : bs.length ≤ 1024 * 604 := by rw [hbs]; exact Hc.out.2.2.2.2.2.2
        have hbl3 : (bs.length : Int) ≤ 618496 := by omega
        have hlaM : la < 1000000000000000000 := by have := Hh.out.2.2.2.2; omega
        have hla2 : (la : Int) ≤ 1000000000000000000 := by omega
        have f1 : IntKind.u64.wrap ((16 : Int) + (bs.length : Int)) = (N : Int) := by show ((16 : Int) + (bs.length : Int)) % 18446744073709551616 = _; omega
        have f2 : IntKind.u64.wrap ((la : Int) + 1) = (M : Int) := by show ((la : Int) + 1) % 18446744073709551616 = _; omega
        have Hn := Lib.hid (And.intro hN (And.intro hMl (And.intro hla (And.intro hbs (And.intro hbl2 hlaM)))))
        have Hf2 := Lib.hid f2
        clear hN hMl hla hbs hbl2 hlaM f2
        go_wp2_with fail
        refine (put_nil N 4 _ (by have := Hn.out; omega) (by decide)).mono ?_
        rintro e w2 ⟨x2, c2, rfl, hm2, hu2, hb2⟩
        dsimp only
        have hU2 : Upd (fun _ => False) w1 w2 := HR.out.2.2.1.trans hu2
        have hC2 := (H.out.2.1.upd H1.out.1.upd (fun h => h)).upd hU2 (fun h => h)
        have hbody2 := HR.out.2.1.upd hu2 (fun _ _ h => h)
        have hb2' : ∀ k, (Value.slice x2 4 c2).ownBlock = some k → w1.heap.size ≤ k ∧ ∀ j, (Value.slice x bs.length c).ownBlock = some j → k ≠ j := fun k hk => by
          have h1 := hb2 k hk
          have h2 := HR.out.2.2.1.size
          exact ⟨by omega, fun j hj e => by have h3 := HR.out.2.1.lt j hj; omega⟩
        have H2 := Lib.hid (And.intro hm2 (And.intro hU2 (And.intro hC2 (And.intro hbody2 hb2'))))
        obtain ⟨d0, d1, d2, d3, d4, d5, d6, d7, d8⟩ := nine hC2
        rw [Hn.out.2.2.1] at d6
        have f2 := Hf2.out
        clear hm2 hu2 hU2 hC2 hbody2 hb2 hb2' d0 d1 d2 d3 d4 d5 d7 d8 f1
        go_wp2_with fail
        refine (put_ok (.slice x2 4 c2) (leB 4 N) M 8 _ H2.out.1 (by have := Hn.out; omega) (by decide) (by rw [leB_length]; decide)).mono ?_
        rintro e w3 ⟨x3, c3, rfl, hm3, hu3, hb3⟩
        dsimp only
        rw [leB_length] at hm3 hb3 ⊢
        have hown3 : ∀ k, (Value.slice x3 (4 + 8) c3).ownBlock = some k → w1.heap.size ≤ k ∧ ∀ j, (Value.slice x bs.length c).ownBlock = some j → k ≠ j := fun k hk => by
          rcases hb3 k hk with h | h
          · exact H2.out.2.2.2.2 k h
          · have h2 := H2.out.2.1.size
            exact ⟨by omega, fun j hj e => by have h3 := H2.out.2.2.2.1.lt j hj; omega⟩
        have hU3 : Upd (fun _ => False) w1 w3 := H2.out.2.1.then hu3 (fun j hj => .inr (H2.out.2.2.2.2 j hj).1)
        have hlb1 : lb < w1.heap.size := by rw [H1.out.1.size]; exact H.out.2.1.lt
        have hC3 := H2.out.2.2.1.upd hu3 (fun hj => by have := (H2.out.2.2.2.2 _ hj).1; omega)
        have hbody3 := H2.out.2.2.2.1.upd hu3 (fun j hj hk => (H2.out.2.2.2.2 _ hk).2 j hj rfl)
        have hbo : ∀ j, (Value.slice x bs.length c).ownBlock = some j → w1.heap.size ≤ j := HR.out.2.2.2
        have H3 := Lib.hid (And.intro hm3 (And.intro hU3 (And.intro hC3 (And.intro hbody3 (And.intro hown3 (And.intro hlb1 hbo))))))
        clear hm3 hU3 hC3 hbody3 hown3 hlb1 hbo hb3 hu3 H2 HR d6 f2
        go_wp2_with fail
        refine (sum9 H3.out.2.2.1 (.slice x bs.length c) bs H3.out.2.2.2.1.sees (fun j hj _ => by have := H3.out.2.2.2.2.2.2 j hj; have := H3.out.2.2.2.2.2.1; omega)).mono ?_
        rintro e w4 ⟨rfl, hu4, hC4⟩
        dsimp only
        obtain ⟨sm, hsm⟩ : ∃ sm, updB 0 bs = sm := ⟨_, rfl⟩
        rw [hsm]
        have f6 : IntKind.u64.wrap (sm.toNat : Int) = (sm.toNat : Int) := by have := sm.isLt; show (sm.toNat : Int) % 18446744073709551616 = _; omega
        have hm4 := H3.out.1.upd hu4 (fun j hj => by have := (H3.out.2.2.2.2.1 j hj).1; have := H3.out.2.2.2.2.2.1; omega)
        have hbody4 := H3.out.2.2.2.1.upd hu4 (fun j hj => by have := H3.out.2.2.2.2.2.2 j hj; have := H3.out.2.2.2.2.2.1; omega)
        have hU4 : Upd (fun k => k = lb) w1 w4 := (H3.out.2.1.mono (fun _ _ h => h.elim)).trans hu4
        have H4 := Lib.hid (And.intro hm4 (And.intro hU4 (And.intro hC4 (And.intro hbody4 hsm))))
        clear hm4 hU4 hC4 hbody4 hsm hu4
        go_wp2_with fail
        have hl12 : 4 + 8 = (leB 4 N ++ leB 8 M).length := by rw [List.length_append, leB_length, leB_length]
        have hm4 := H4.out.1
        rw [hl12] at hm4 ⊢
        refine (put_ok (.slice x3 (leB 4 N ++ leB 8 M).length c3) (leB 4 N ++ leB 8 M) sm.toNat 4 _ hm4 (by have := sm.isLt; omega) (by decide) (by rw [← hl12]; decide)).mono ?_
        rintro e w5 ⟨x5, c5, rfl, hm5, hu5, hb5⟩
        dsimp only
        have hhd : leB 4 N ++ leB 8 M ++ leB 4 sm.toNat = headB M bs := by
          rw [headB, H4.out.2.2.2.2, ← Hn.out.1]
        have hl16 : (leB 4 N ++ leB 8 M).length + 4 = (headB M bs).length := by rw [← hhd]; simp [List.length_append, leB_length]
        rw [hhd] at hm5
        rw [hl16] at hm5 hb5 ⊢
        rw [← hl12] at hu5 hb5
        have hown5 : ∀ k, (Value.slice x5 (headB M bs).length c5).ownBlock = some k → w1.heap.size ≤ k := fun k hk => by
          rcases hb5 k hk with h | h
          · exact (H3.out.2.2.2.2.1 k h).1
          · have h2 := H4.out.2.1.size
            omega
        have hU5 : Upd (fun k => k = lb) w1 w5 := H4.out.2.1.then hu5 (fun j hj => .inr (H3.out.2.2.2.2.1 j hj).1)
        have hC5 := H4.out.2.2.1.upd hu5 (fun hj => by have := (H3.out.2.2.2.2.1 _ hj).1; have := H3.out.2.2.2.2.2.1; omega)
        have hbody5 := H4.out.2.2.2.1.upd hu5 (fun j hj hk => (H3.out.2.2.2.2.1 _ hk).2 j hj rfl)
        have H5 := Lib.hid (And.intro hm5 (And.intro hU5 (And.intro hC5 (And.intro hbody5 hown5))))
        clear hm5 hU5 hC5 hbody5 hown5 hb5 hu5 H4 hm4 hl12 hhd hl16 f6
        go_wp2_with ((with_reducible apply wpl_append_mid 5 1 1 _ (.slice x5 (headB M bs).length c5) (headB M bs).length (bvs (headB M bs)) bs.length (bvs bs)))
        · exact Try.underlying98
        · exact infoU8
        · rfl
        · rfl
        · exact H5.out.1
        · exact H5.out.2.2.2.1.sees
        · exact bvs_one _
        · have := Hn.out.2.2.2.2.1; rw [headB_length]; unfold maxLen; omega
        · have := Hn.out.2.2.2.2.1; rw [headB_length]; omega
        intro x6 c6 w6 hm6 hu6 hb6
        try (simp only [Act.put, List.setIfInBounds_toArray, List.set_cons_zero, List.set_cons_succ])
        have henc : headB M bs ++ bs = encB M b := by rw [encB, Hn.out.2.2.2.1]
        have hl6 : (headB M bs).length + bs.length = (encB M b).length := by rw [← henc, List.length_append]
        rw [← bvs_append, henc] at hm6
        rw [hl6] at hm6 hb6 ⊢
        have hU6 : Upd (fun k => k = lb) w1 w6 := H5.out.2.1.then hu6 (fun j hj => .inr (H5.out.2.2.2.2 j hj))
        have hC6 := H5.out.2.2.1.upd hu6 (fun hj => by have := H5.out.2.2.2.2 _ hj; have := H3.out.2.2.2.2.2.1; omega)
        have hown6 : ∀ k, (Value.slice x6 (encB M b).length c6).ownBlock = some k → w1.heap.size ≤ k := fun k hk => by
          rcases hb6 with h | h
          · rw [h] at hk; exact H5.out.2.2.2.2 k hk
          · rw [h] at hk; cases hk; exact H5.out.2.1.size
        have hbsz : bytesOf b ≤ 1000000000000000000 := by have := Hc.out.2.2.2.2.2.1; have := Hc.out.2.1; omega
        have hsb : Sees w6 1 (.slice xa b.length xc) b.length (strsV b) := H1.out.2.upd hU6 (fun k hk h0 e => by
          cases xa with
          | none => cases hk
          | some y => exact Hh.out.2.2.2.1 y rfl h0 (by have h9 : some y.block = some k := hk; cases h9; exact e))
        have hneed := need_ok xa xc b w6 hsb hbsz
        obtain ⟨nb, hnb⟩ : ∃ nb, needB b = nb := ⟨_, rfl⟩
        rw [hnb] at hneed
        have Hneed := Lib.hid hneed
        have H6 := Lib.hid (And.intro hm6 (And.intro hU6 (And.intro hC6 (And.intro hown6 (And.intro hnb hsb)))))
        clear hm6 hU6 hC6 hown6 hnb hsb hneed hbsz hu6 hb6 hl6 henc H5
        go_wp2_with fail
        refine Hneed.out.mono ?_
        rintro e w7 ⟨rfl, rfl⟩
        dsimp only
        go_wp2_with fail
        have HW0 : Hid (WrR w lb db L lv (encB M b) x6 c6 D G nb 0 D G w6) := by
          have hs := H1.out.1.size
          have hu : Upd (fun j => j = lb ∨ G j) w w6 := (H1.out.1.upd.mono (fun _ _ h => h.elim)).trans (H6.out.2.1.mono (fun _ _ h => .inl h))
          refine ⟨rfl, (H.out.2.2.2.1.upd H1.out.1.upd (fun _ _ h => h)).upd H6.out.2.1 (fun k hk e => H.out.2.2.2.2.1 (e ▸ hk)), hu, fun j hj => .inl hj, H6.out.2.2.1, H6.out.1, Nat.le_refl _, fun j hj => ?_⟩
          have h1 := H6.out.2.2.2.1 j hj
          exact ⟨fun hg => by have := H.out.2.2.2.1.lt j hg; omega, fun e => by have := H.out.2.1.lt; omega, by omega⟩
        clear Hneed
        go_loopw [61] (fun i wr => ∃ (k : Nat) (Dk : DSt) (Gk : Nat → Prop), k ≤ nb ∧ i = .int .i64 k ∧ Hid (WrR w lb db L lv (encB M b) x6 c6 D G nb k Dk Gk wr)) (fun i _ => nb - (intOf i).toNat)
        case atStart => exact ⟨0, D, G, Nat.zero_le _, rfl, HW0⟩
        case round =>
          clear HW0
          obtain ⟨k, Dk, Gk, hk, rfl, HW⟩ := hrel
          by_cases hlt : k < nb
          · have hlt2 : (k : Int) < (nb : Int) := by omega
            obtain ⟨d0, d1, d2, d3, d4, d5, d6, d7, d8⟩ := nine HW.out.2.2.2.2.1
            obtain ⟨st, hst⟩ : ∃ st, L.start = st := ⟨_, rfl⟩
            obtain ⟨us, hus⟩ : ∃ us, L.used = us := ⟨_, rfl⟩
            obtain ⟨e, he⟩ : ∃ e, encB M b = e := ⟨_, rfl⟩
            rw [hst] at d3
            rw [hus] at d4
            obtain ⟨Q, hQ⟩ : ∃ Q, st + us = Q := ⟨_, rfl⟩
            obtain ⟨P, hP⟩ : ∃ P, Q + k = P := ⟨_, rfl⟩
            obtain ⟨lo, hlo⟩ : ∃ lo, k * 512 = lo := ⟨_, rfl⟩
            obtain ⟨k1, hk1⟩ : ∃ k1, k + 1 = k1 := ⟨_, rfl⟩
            obtain ⟨hi0, hhi0⟩ : ∃ hi0, k1 * 512 = hi0 := ⟨_, rfl⟩
            have hnb2 : nb ≤ 2000 := by have h1 := Hc.out.2.2.2.2.2.1; have h2 := Hc.out.2.1; have h3 := H6.out.2.2.2.2.1; unfold needB at h3; omega
            have hsu : st ≤ 4096 ∧ us ≤ 4096 := by have := H.out.1.start; have := H.out.1.used; have := H.out.1.fit; omega
            have f1 : IntKind.i64.wrap ((st : Int) + (us : Int)) = (Q : Int) := by rw [IntKind.wrap_i64]; omega
            have f2 : IntKind.i64.wrap ((Q : Int) + (k : Int)) = (P : Int) := by rw [IntKind.wrap_i64]; omega
            have f3 : IntKind.i64.wrap ((k : Int) * 512) = (lo : Int) := by rw [IntKind.wrap_i64]; omega
            have f4 : IntKind.i64.wrap ((k : Int) + 1) = (k1 : Int) := by rw [IntKind.wrap_i64]; omega
            have f5 : IntKind.i64.wrap ((k1 : Int) * 512) = (hi0 : Int) := by rw [IntKind.wrap_i64]; omega
            obtain ⟨hi, hhi⟩ : ∃ hi, min hi0 e.length = hi := ⟨_, rfl⟩
            have hel : e.length = bytesOf b := by rw [← he]; exact encB_length M b
            have hnbe : nb = (e.length + 511) / 512 := by have h3 := H6.out.2.2.2.2.1; unfold needB at h3; omega
            have hlo2 : lo < e.length := by omega
            have hcl : hi - lo = (chunk e k).length := by rw [chunk, List.length_take, List.length_drop]; omega
            have hmn : (if e.length < hi0 then ((e.length : Nat) : Int) else (hi0 : Int)) = (hi : Int) := by split <;> omega
            have hmid := HW.out.2.2.2.2.2.1
            rw [he] at hmid
            obtain ⟨hxl, ⟨h0', h1'⟩ | ⟨g, off, cap, hsl6, h1', h2', h3', h4', h5'⟩⟩ := id hmid
            · omega
            cases hsl6
            have hsl := slice_lh1 (P := Try.prog) 98 5 Try.underlying98 (by kernel_rfl) g off e.length c6 lo hi (by omega) (by omega) (by omega)
            have hchk : Sees wr 1 (.slice (some ⟨g, off + lo, none⟩) (chunk e k).length (c6 - lo)) (chunk e k).length (bvs (chunk e k)) := by
              refine Sees.at (by simp [bvs_length]) (by have := chunk_le e k; unfold maxLen; omega) ?_
              refine rangeAt.sub h4' lo ?_
              rw [bvs_length, chunk, bvs, bvs, ← List.map_drop, ← List.map_take, hlo]
              congr 1
              rw [List.length_take, ← List.take_eq_take_min]
            have hgk := HW.out.2.2.2.2.2.2.2
            rw [he] at hgk
            have hgk2 := hgk g rfl
            have Hx := Lib.hid (And.intro hst (And.intro hus (And.intro hcl (And.intro hchk (And.intro hnb2 (And.intro (show P ≤ 20000 by omega) (And.intro hgk2.1 (And.intro he (And.intro hmid (And.intro hQ hP))))))))))
            rw [he]
            have HS : wr.drew.cell? ⟨lb, 0, none⟩ = some (.pointer (some ⟨db, 0, none⟩)) ∧ wr.drew.cell? ⟨lb, 3, none⟩ = some (.int .i64 st) ∧ wr.drew.cell? ⟨lb, 4, none⟩ = some (.int .i64 us) := ⟨d0, d3, d4⟩
            clear d0 d1 d2 d3 d4 d5 d6 d7 d8 hst hus hQ hP hlo hk1 hhi0 hnb2 hsu he hhi hel hnbe hlo2 hcl hmid hxl h1' h2' h3' h4' h5' hchk hgk hgk2
            go_wp2_with fail
            refine wp_region_planD (fun w' => w'.cell? ⟨lb, 0, none⟩ = some (.pointer (some ⟨db, 0, none⟩)) ∧ w'.cell? ⟨lb, 3, none⟩ = some (.int .i64 st) ∧ w'.cell? ⟨lb, 4, none⟩ = some (.int .i64 us)) 29 [(0, true), (1, true), (2, true), (3, true), (4, true), (5, true), (6, true), (7, true), (8, true), (9, true), (10, true), (11, true), (12, true), (13, true), (14, true), (15, true), (17, true), (18, true), (19, true), (20, true), (21, true), (22, true), (23, true), (24, true), (25, true), (26, true), (16, false), (27, false), (28, true)] (by kernel_rfl) (by kernel_rfl) (fun d _ _ _ _ h => by cases d <;> exact h) HS ?_
            iterate 26 (apply planD_held rfl rfl rfl (by simp) HS; (intro w' hS K hK; go_simp; exact hK))
            refine planD_op rfl rfl (fun K hK => ?_)
            go_simp
            have hdr : Upd (fun _ => False) wr wr.drew := (Upd.refl _ wr).drew
            refine (ring_ok lb L db lv P _ (HW.out.2.2.2.2.1.upd hdr (fun h => h)) H.out.1 (by have := Hx.out.2.2.2.2.2.1; omega)).mono ?_
            rintro e' w8 ⟨rfl, rfl⟩
            dsimp only
            have HS8 : wr.drew.drew.cell? ⟨lb, 0, none⟩ = some (.pointer (some ⟨db, 0, none⟩)) ∧ wr.drew.drew.cell? ⟨lb, 3, none⟩ = some (.int .i64 st) ∧ wr.drew.drew.cell? ⟨lb, 4, none⟩ = some (.int .i64 us) := HS
            refine hK _ _ _ (fun u h => h) (fun _ => HS8) ?_
            clear hK HS
            try (simp only [Act.put, List.setIfInBounds_toArray, List.set_cons_zero, List.set_cons_succ])
            refine planD_op rfl rfl (fun K hK => ?_)
            go_simp
            have hdr2 : Upd (fun _ => False) wr wr.drew.drew := ((Upd.refl _ wr).drew).drew
            obtain ⟨⟨D1, r⟩, hDr⟩ : ∃ p, Dk.write (L.ring P : Nat) (chunk e k) = p := ⟨_, rfl⟩
            have hx := Hx.out
            have hcs : Sees wr.drew.drew 1 (.slice (some ⟨g, off + lo, none⟩) (chunk e k).length (c6 - lo)) (chunk e k).length (bvs (chunk e k)) := hx.2.2.2.1.upd hdr2 (fun _ _ _ h => h)
            rw [hx.2.2.1]
            refine (write_disk (HW.out.2.1.upd hdr2 (fun _ _ h => h)) (L.ring P : Nat) (some ⟨g, off + lo, none⟩) (c6 - lo) (chunk e k) hcs (fun z hz _ hg => by cases hz; exact hx.2.2.2.2.2.2.1 hg) (by have h1 := HW.out.2.2.2.2.2.2.1; have h2 := Hh.out.2.1; have h3 := hx.2.2.2.2.1; omega) hDr).mono ?_
            rintro e' w9 ⟨rfl, G9, hD9, hu9, hG9⟩
            dsimp only
            have hu9' : Upd Gk wr w9 := (hdr2.mono (fun _ _ h => h.elim)).trans hu9
            have hC9 := HW.out.2.2.2.2.1.upd hu9' (fun h => by
              rcases HW.out.2.2.2.1 _ h with h | h
              · exact H.out.2.2.2.2.1 h
              · have := H.out.2.1.lt; omega)
            have hG9' : ∀ j, G9 j → G j ∨ w.heap.size ≤ j := fun j hj => by
              rcases hG9 j hj with h | h
              · exact HW.out.2.2.2.1 j h
              · have h1 := HW.out.2.2.1.size
                have h2 := hdr2.size
                exact .inr (by omega)
            have hU9 : Upd (fun j => j = lb ∨ G j) w w9 := HW.out.2.2.1.then hu9' (fun j hj => (HW.out.2.2.2.1 j hj).imp .inr id)
            have hm9 := hx.2.2.2.2.2.2.2.2.1.upd hu9' (fun j hj => by cases hj; exact hx.2.2.2.2.2.2.1)
            have hw9 : D1.waits.length ≤ D.waits.length + (k + 1) := by
              have h1 := write_waits Dk (L.ring P : Nat) (chunk e k)
              have h2 := HW.out.2.2.2.2.2.2.1
              rw [hDr] at h1
              dsimp only at h1
              omega
            have hg9 : ∀ j, (Value.slice (some ⟨g, off, none⟩) e.length c6).ownBlock = some j → ¬ G9 j ∧ j ≠ lb ∧ w.heap.size ≤ j := fun j hj => by
              have h0 := HW.out.2.2.2.2.2.2.2
              rw [hx.2.2.2.2.2.2.2.1] at h0
              have h1 := h0 j hj
              refine ⟨fun h => ?_, h1.2⟩
              rcases hG9 j h with h | h
              · exact h1.1 h
              · have h2 := hdr2.size
                have h3 := hx.2.2.2.2.2.2.2.2.1.lt j hj
                omega
            have hwr : L.writes e (nb - k) k Dk = if r = 0 then L.writes e (nb - (k + 1)) (k + 1) D1 else (D1, r) := by
              have e1 : nb - k = (nb - (k + 1)) + 1 := by omega
              have e2 : L.start + L.used + k = P := by rw [hx.1, hx.2.1]; have := hx.2.2.2.2.2.2.2.2.2; omega
              rw [e1, LSt.writes]
              simp only [e2, hDr]
            have hw0 : L.writes e (nb - k) k Dk = L.writes e nb 0 D := by
              have := HW.out.1
              rwa [hx.2.2.2.2.2.2.2.1] at this
            have H9 := Lib.hid (And.intro hD9 (And.intro hU9 (And.intro hG9' (And.intro hC9 (And.intro hm9 (And.intro hw9 (And.intro hg9 (And.intro hwr hw0))))))))
            obtain ⟨q0, q1, q2, q3, q4, q5, q6, q7, q8⟩ := nine hC9
            rw [hx.1] at q3
            rw [hx.2.1] at q4
            have HS9 : w9.cell? ⟨lb, 0, none⟩ = some (.pointer (some ⟨db, 0, none⟩)) ∧ w9.cell? ⟨lb, 3, none⟩ = some (.int .i64 st) ∧ w9.cell? ⟨lb, 4, none⟩ = some (.int .i64 us) := ⟨q0, q3, q4⟩
            refine hK _ _ _ (fun u h => h) (fun _ => HS9) ?_
            clear hK HS8 hdr hdr2 hx hcs hDr hD9 hu9 hG9 hu9' hC9 hG9' hU9 hm9 hw9 hg9 hwr hw0 q0 q1 q2 q3 q4 q5 q6 q7 q8 hsl hmn f1 f2 f3 f4 f5
            try (simp only [Act.put, List.setIfInBounds_toArray, List.set_cons_zero, List.set_cons_succ])
            (apply planD_held rfl rfl rfl (by simp) HS9; (intro w' hS K hK; go_simp; exact hK))
            refine planD_nil ?_
            clear HS9
            by_cases hr : r = 0
            · have hwr := H9.out.2.2.2.2.2.2.2.1
              rw [if_pos hr] at hwr
              have HW2 : Hid (WrR w lb db L lv e (some ⟨g, off, none⟩) c6 D G nb (k + 1) D1 G9 w9) := by
                exact ⟨by rw [← hwr]; exact H9.out.2.2.2.2.2.2.2.2, H9.out.1, H9.out.2.1, H9.out.2.2.1, H9.out.2.2.2.1, H9.out.2.2.2.2.1, H9.out.2.2.2.2.2.1, H9.out.2.2.2.2.2.2.1⟩
              have hnb3 : (nb : Int) ≤ 2000 := by have := Hx.out.2.2.2.2.1; omega
              clear hwr
              subst hr
              go_wp2_with fail
              exact ⟨⟨u4, u5, _, _, _, ⟨k + 1, by omega, rfl, D1, G9, HW2⟩, rfl, rfl, rfl, rfl, by go_num⟩, by simp [intOf]; omega⟩
            · have hne : (r != 0) = true := by simp [hr]
              have happ : L.append D b = ((L.fail r).1, D1, 0, (L.fail r).2) := by
                have hwr := H9.out.2.2.2.2.2.2.2.1
                rw [if_neg hr, H9.out.2.2.2.2.2.2.2.2, ← Hx.out.2.2.2.2.2.2.2.1, ← H6.out.2.2.2.2.1, ← Hn.out.2.1] at hwr
                rw [LSt.append, if_neg (by rw [Hck.out]; decide), hwr]
                dsimp only
                rw [if_neg hr]
              have Happ := Lib.hid happ
              clear happ hr
              go_wp2_with fail
              refine (fail_log lb db L lv r _ H9.out.2.2.2.1).mono ?_
              rintro e' w10 ⟨rfl, hu10, hC10⟩
              dsimp only
              have H10 := Lib.hid (And.intro hu10 hC10)
              clear hu10 hC10
              go_wp2_with fail
              go_ret2
              rw [Happ.out]
              have hll : (L.fail r).1.list = L.list := by unfold LSt.fail; split <;> rfl
              refine ⟨by rw [fail_snd]; rfl, walPost_of_raw (H.out.1.fail r) ?_ H.out.2.2.2.2.1 H.out.2.1.lt (fun k hk => H.out.2.2.1.lt k hk) H.out.2.2.2.2.2.1 H.out.2.2.2.2.2.2 ⟨G9, H10.out.2, H9.out.1.upd H10.out.1 (fun k hk e' => ?_), H9.out.2.1.trans (H10.out.1.mono (fun _ _ h => .inl h)), H9.out.2.2.1⟩⟩
              · rw [hll]
                refine H.out.2.2.1.upd (H9.out.2.1.trans (H10.out.1.mono (fun _ _ h => .inl h))) (fun k hk h => ?_)
                rcases h with h | h
                · exact (H.out.2.2.2.2.2.1 k hk).2 h
                · exact (H.out.2.2.2.2.2.1 k hk).1 h
              · rcases H9.out.2.2.1 k hk with h | h
                · exact H.out.2.2.2.2.1 (e' ▸ h)
                · have := H.out.2.1.lt; omega
          · obtain rfl : k = nb := by omega
            clear hlt
            have hw0 : L.writes (encB M b) k 0 D = (Dk, 0) := by
              have := HW.out.1
              rw [Nat.sub_self] at this
              exact this.symm
            have happ : L.append D b = ({ L with last := L.last + 1, used := L.used + needB b, list := L.list ++ [(L.last + 1, needB b)] }, Dk, (L.last : Int) + 1, 0) := by
              rw [LSt.append, if_neg (by rw [Hck.out]; decide), Hn.out.2.1, H6.out.2.2.2.2.1, hw0]
              dsimp only
              rw [if_pos rfl]
            have Happ := Lib.hid happ
            obtain ⟨d0, d1, d2, d3, d4, d5, d6, d7, d8⟩ := nine HW.out.2.2.2.2.1
            obtain ⟨us, hus⟩ : ∃ us, L.used = us := ⟨_, rfl⟩
            rw [Hn.out.2.2.1] at d6
            rw [hus] at d4
            obtain ⟨xl, cl, hxl⟩ := H.out.2.2.1.sees.shape
            rw [hxl] at d5
            have hfrz := HW.out.2.2.2.2.1.frozen
            have husb : (us : Int) ≤ 4096 := by have := H.out.1.used; have := H.out.1.fit; omega
            have hnb2 : (k : Int) ≤ 2000 := by have h1 := Hc.out.2.2.2.2.2.1; have h2 := Hc.out.2.1; have h3 := H6.out.2.2.2.2.1; unfold needB at h3; omega
            have hw1 : ∀ i v, (wr.setCell ⟨lb, i, none⟩ v).heap.size = wr.heap.size := fun i v => by simp
            obtain ⟨W, hW⟩ : ∃ W, (wr.setCell ⟨lb, 6, none⟩ (.int .i64 ((la : Int) + 1))).setCell ⟨lb, 4, none⟩ (.int .i64 ((us : Int) + (k : Int))) = W := ⟨_, rfl⟩
            have hWu : Upd (fun j => j = lb) wr W := by rw [← hW]; exact upd_set 4 _ (upd_set 6 _ (Upd.refl _ wr))
            have hWC : Cells9 W lb [.pointer (some ⟨db, 0, none⟩), .int .i64 L.fr, .int .i64 L.n, .int .i64 L.start, .int .i64 ((us : Int) + (k : Int)), .slice xl L.list.length cl, .int .i64 ((la : Int) + 1), .int .i64 L.synced, .bool L.dead] := by
              have h := (HW.out.2.2.2.2.1.set 6 (by decide) (.int .i64 ((la : Int) + 1))).set 4 (by decide) (.int .i64 ((us : Int) + (k : Int)))
              rw [hW] at h
              have e4 : ((preL L db lv).set 6 (.int .i64 ((la : Int) + 1))).set 4 (.int .i64 ((us : Int) + (k : Int))) = [.pointer (some ⟨db, 0, none⟩), .int .i64 L.fr, .int .i64 L.n, .int .i64 L.start, .int .i64 ((us : Int) + (k : Int)), .slice xl L.list.length cl, .int .i64 ((la : Int) + 1), .int .i64 L.synced, .bool L.dead] := by
                rw [hxl]; rfl
              rwa [e4] at h
            have HWW := Lib.hid (And.intro hW (And.intro hWu (And.intro hWC (And.intro hxl hus))))
            clear happ hw0 hw1 hW hWu hWC d0 d1 d2 d3 d7 d8 hxl hus
            go_wp2_with fail
            rw [HWW.out.1]
            obtain ⟨hW, hWu, hWC, hxl, hus⟩ := HWW.out
            obtain ⟨q0, q1, q2, q3, q4, q5, q6, q7, q8⟩ := nine hWC
            clear d4 d5 d6 hfrz q0 q1 q2 q3 q4 q7 q8 hW hWu hWC hxl hus
            have HS : W.drew.cell? ⟨lb, 5, none⟩ = some (.slice xl L.list.length cl) ∧ W.drew.cell? ⟨lb, 6, none⟩ = some (.int .i64 ((la : Int) + 1)) := ⟨q5, q6⟩
            refine wp_region_planD (fun w' => w'.cell? ⟨lb, 5, none⟩ = some (.slice xl L.list.length cl) ∧ w'.cell? ⟨lb, 6, none⟩ = some (.int .i64 ((la : Int) + 1))) 15 [(0, true), (1, true), (2, true), (3, true), (4, true), (5, true), (6, true), (7, true), (8, true), (9, true), (10, true), (11, false), (12, false), (13, true), (14, true), (15, false)] (by kernel_rfl) (by kernel_rfl) (fun d _ _ _ _ h => by cases d <;> exact h) HS ?_
            iterate 11 (apply planD_held rfl rfl rfl (by simp) HS; (intro w' hS K hK; go_simp; exact hK))
            refine planD_op rfl rfl (fun K hK => ?_)
            go_simp
            obtain ⟨hW, hWu, hWC, hxl, hus⟩ := HWW.out
            obtain ⟨nw, hnw⟩ : ∃ nw, W.heap.size = nw := ⟨_, rfl⟩
            rw [hnw]
            have hXu : Upd (fun _ => False) W (W.alloc (.cells (entryV (la + 1, k)).toArray 106)).drew := ((Upd.refl _ W).alloc _).drew
            have hXn : (W.alloc (.cells (entryV (la + 1, k)).toArray 106)).drew.heap[nw]? = some (.cells (entryV (la + 1, k)).toArray 106 (0, 0)) := by rw [← hnw]; exact heap_alloc_new W _
            have hXe : (W.alloc (.cells (entryV (la + 1, k)).toArray 106)).drew = (W.alloc (.cells #[.int .i64 ((la : Int) + 1), .int .i64 (k : Int)] 106)).drew := by
              simp [entryV]
            rw [← hXe]
            clear hXe
            generalize (W.alloc (.cells (entryV (la + 1, k)).toArray 106)).drew = X at *
            have hXC := hWC.upd hXu (fun h => h)
            obtain ⟨p0, p1, p2, p3, p4, p5, p6, p7, p8⟩ := nine hXC
            refine hK _ _ _ (fun u h => h) (fun _ => ⟨p5, p6⟩) ?_
            clear hK
            try (simp only [Act.put, List.setIfInBounds_toArray, List.set_cons_zero, List.set_cons_succ])
            have hlvm : Mid X 2 lv L.list.length (listV L.list) := by
              have hu1 : Upd (fun j => j = lb ∨ G j) w W := HW.out.2.2.1.trans (hWu.mono (fun _ _ h => .inl h))
              refine (H.out.2.2.1.upd hu1 (fun j hj h => ?_)).upd hXu (fun _ _ h => h)
              rcases h with h | h
              · exact (H.out.2.2.2.2.2.1 j hj).2 h
              · exact (H.out.2.2.2.2.2.1 j hj).1 h
            have hll := H.out.1.length
            have hXs : Sees X 2 (.slice (some ⟨nw, 0, none⟩) 1 1) 1 (entryV (la + 1, k)) := Sees.at rfl (by decide) (rangeAt_of_row hXn rfl)
            have HX := Lib.hid (And.intro hXu (And.intro hXC (And.intro hlvm (And.intro hnw hll))))
            clear p0 p1 p2 p3 p4 p7 p8 HS hW hWu hWC hus hXu hXn hXC hnw q5 q6
            refine planD_op rfl rfl (fun K hK => ?_)
            refine wp_append_mid 106 2 16 _ (.slice xl L.list.length cl) L.list.length (listV L.list) 1 (entryV (la + 1, k)) Try.underlying76 infoE rfl rfl (by rw [← hxl]; exact hlvm) hXs ?_ (by unfold maxLen; omega) (by omega) ?_
            · intro u hu
              simp only [entryV, List.mem_cons, List.not_mem_nil, or_false] at hu
              rcases hu with rfl | rfl <;> rfl
            intro x' c' Y hYm hYu hYb
            have hYC := HX.out.2.1.upd hYu (fun hj => by
              have := (H.out.2.2.2.2.2.1 lb (by rw [hxl]; exact hj)).2
              exact this rfl)
            obtain ⟨p0, p1, p2, p3, p4, p5', p6', p7, p8⟩ := nine hYC
            have HSY : Y.cell? ⟨lb, 5, none⟩ = some (.slice xl L.list.length cl) ∧ Y.cell? ⟨lb, 6, none⟩ = some (.int .i64 ((la : Int) + 1)) := ⟨p5', p6'⟩
            have hfr : ∀ i, Y.frozen? ⟨lb, i, none⟩ = false := hYC.frozen
            refine hK _ _ _ (fun u h => h) (fun _ => HSY) ?_
            have HY := Lib.hid (And.intro hYm (And.intro hYu (And.intro hYb hYC)))
            clear hK p0 p1 p2 p3 p4 p5' p6' p7 p8 hYm hYu hYb hYC hlvm hXs hxl p5 p6 hll
            try (simp only [Act.put, List.setIfInBounds_toArray, List.set_cons_zero, List.set_cons_succ])
            iterate 2 (apply planD_held rfl rfl rfl (by simp) HSY; (intro w' hS K hK; go_simp; exact hK))
            refine planD_op rfl rfl (fun K hK => ?_)
            go_simp
            refine hK (fun _ => False) _ _ (fun u h => h.elim) (fun h => absurd rfl h) ?_
            refine planD_nil ?_
            clear hK
            obtain ⟨hs5, hs6⟩ := HSY
            go_wp2_with fail
            go_ret2
            rw [Happ.out]
            obtain ⟨hW, hWu, hWC, hxl, hus⟩ := HWW.out
            have hYC := (HY.out.2.2.2).set 5 (by decide) (.slice x' (L.list.length + 1) c')
            have hYu : Upd (fun j => j = lb ∨ lv.ownBlock = some j ∨ G j) w (Y.setCell ⟨lb, 5, none⟩ (.slice x' (L.list.length + 1) c')) := by
              refine Upd.setCell ?_ _ (.inl (.inl rfl))
              refine ((((HW.out.2.2.1.mono (fun _ _ h => h.imp id .inr)).trans (hWu.mono (fun _ _ h => .inl h))).trans (HX.out.1.mono (fun _ _ h => h.elim)))).trans (HY.out.2.1.mono (fun j _ hj => .inr (.inl (by rw [hxl]; exact hj))))
            have hsz : w.heap.size ≤ X.heap.size := by
              have h1 := HW.out.2.2.1.size
              have h2 := hWu.size
              have h3 := HX.out.1.size
              omega
            have hGlb : ¬ Gk lb := fun h => by
              rcases HW.out.2.2.2.1 lb h with h | h
              · exact H.out.2.2.2.2.1 h
              · have := H.out.2.1.lt; omega
            have hGlv : ∀ j, lv.ownBlock = some j → ¬ Gk j := fun j hj h => by
              rcases HW.out.2.2.2.1 j h with h | h
              · exact (H.out.2.2.2.2.2.1 j hj).1 h
              · have := H.out.2.2.1.lt j hj; omega
            have hwX : wr.heap.size ≤ X.heap.size := by
              have h2 := hWu.size
              have h3 := HX.out.1.size
              omega
            have hown' : ∀ j, (Value.slice x' (L.list.length + 1) c').ownBlock = some j → lv.ownBlock = some j ∨ X.heap.size = j := fun j hj => by
              rcases HY.out.2.2.1 with h | h
              · rw [h, ← hxl] at hj; exact .inl hj
              · rw [h] at hj; cases hj; exact .inr rfl
            have hD : DiskAt (Y.setCell ⟨lb, 5, none⟩ (.slice x' (L.list.length + 1) c')) db Dk Gk := by
              have h1 := (HW.out.2.1.upd hWu (fun j hj e => hGlb (e ▸ hj))).upd HX.out.1 (fun _ _ h => h)
              exact (h1.upd HY.out.2.1 (fun j hj e => hGlv j (by rw [hxl]; exact e) hj)).upd (upd_set 5 _ (Upd.refl _ Y)) (fun j hj e => hGlb (e ▸ hj))
            have hM' : Mid (Y.setCell ⟨lb, 5, none⟩ (.slice x' (L.list.length + 1) c')) 2 (.slice x' (L.list.length + 1) c') (L.list.length + 1) (listV L.list ++ entryV (la + 1, k)) :=
              HY.out.1.upd (upd_set 5 _ (Upd.refl _ Y)) (fun j hj e => by
                rcases hown' j hj with h | h
                · exact (H.out.2.2.2.2.2.1 j h).2 e
                · have := H.out.2.1.lt; omega)
            have hlist : listV L.list ++ entryV (la + 1, k) = listV (L.list ++ [(L.last + 1, needB b)]) := by
              rw [H6.out.2.2.2.2.1, Hn.out.2.2.1]
              simp [listV]
            have hpre : ([.pointer (some ⟨db, 0, none⟩), .int .i64 L.fr, .int .i64 L.n, .int .i64 L.start, .int .i64 ((us : Int) + (k : Int)), .slice xl L.list.length cl, .int .i64 ((la : Int) + 1), .int .i64 L.synced, .bool L.dead] : List Value).set 5 (.slice x' (L.list.length + 1) c') =
                preL { L with last := L.last + 1, used := L.used + needB b, list := L.list ++ [(L.last + 1, needB b)] } db (.slice x' (L.list.length + 1) c') := by
              have e1 : ((L.used + needB b : Nat) : Int) = (us : Int) + (k : Int) := by rw [H6.out.2.2.2.2.1, hus]; omega
              have e2 : ((L.last + 1 : Nat) : Int) = (la : Int) + 1 := by rw [Hn.out.2.2.1]; omega
              simp only [preL, e1, e2]
              rfl
            rw [hpre] at hYC
            rw [hlist] at hM'
            have hF := H.out.2.2.2.2.2.2
            refine ⟨?_, fun j => j = lb ∨ (Value.slice x' (L.list.length + 1) c').ownBlock = some j ∨ Gk j, ⟨.slice x' (L.list.length + 1) c', Gk, H.out.1.grow b Hc.out.2.2.2.2.1 Hh.out.2.2.2.2, hYC, ?_, hD, hGlb, fun j hj => ?_, fun j => Iff.rfl⟩, hYu.mono (fun j _ hj => (hF j).2 hj), fun j hj => ?_⟩
            · rw [Hn.out.2.2.1]
              rfl
            · show Mid _ 2 _ (L.list ++ [(L.last + 1, needB b)]).length (listV (L.list ++ [(L.last + 1, needB b)]))
              rw [List.length_append, List.length_singleton]
              exact hM'
            · rcases hown' j hj with h | h
              · exact ⟨hGlv j h, (H.out.2.2.2.2.2.1 j h).2⟩
              · exact ⟨fun hg => by have := HW.out.2.1.lt j hg; omega, fun e => by have := H.out.2.1.lt; omega⟩
            · rcases hj with rfl | hj | hj
              · exact .inl ((hF _).2 (.inl rfl))
              · rcases hown' j hj with h | h
                · exact .inl ((hF j).2 (.inr (.inl h)))
                · exact .inr (by omega)
              · exact (HW.out.2.2.2.1 j hj).imp (fun h => (hF j).2 (.inr (.inr h))) id
  · have happ : L.append D b = (L, D, 0, ck) := by rw [LSt.append, if_pos (by rw [Hck.out]; exact hc), Hck.out]
    have hne : (ck != 0) = true := by simp [hc]
    have Happ := Lib.hid happ
    clear happ hc
    go_enter Try.func16, Try.ntmps16
    go_wp2_with fail
    refine Hchk.out.mono ?_
    rintro e w1 ⟨rfl, hdr⟩
    dsimp only
    have Hdr := Lib.hid hdr
    clear hdr
    go_wp2_with fail
    go_ret2
    rw [Happ.out]
    exact ⟨rfl, F, Hh.out.1.upd Hdr.out.upd (fun _ _ h => h), Hdr.out.upd.mono (fun _ _ h => h.elim), fun k hk => .inl hk⟩
end Go.Proofs.Ytocameknhglklaa
