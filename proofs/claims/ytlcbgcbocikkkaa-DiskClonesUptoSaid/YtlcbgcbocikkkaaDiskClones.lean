/- DiskClones, walked. -/
import Derived.Test.YtlcbgcbocikkkaaDiskPlays
import Derived.Test.YtlcbgcbocikkkaaDisk7
import Derived.Test.YtlcbgcbocikkkaaRef9
import Derived.Deep.DeepCutAuto
import Derived.Deep.CutBlock
namespace Go.Proofs.Ytlcbgcbocikkkaa
open Go.RowKit
set_option linter.unusedSimpArgs false
set_option linter.unusedVariables false
set_option maxRecDepth 100000

section
variable {P : Program} {ops : Array Oper} {Q : Exit → Act → World → Prop} {rest : List Oper} {dst : Option Tmp} {ty : TypeId} {pos : String} {aft : Array Edge} {a : Act} {w : World} {K : Act → World → Prop} {next : Act → Prop}
/-- []byte(s): a new row that may be written. -/
theorem wpl_string_bytes2 {src dst' : TypeId} {x : Operand} (e : TypeId) (s : ByteArray) (hs : P.underlying src = some .string) (hd : P.underlying dst' = some (.slice e)) (he : P.underlying e = some (.int .u8)) (hx : a.eval x = .string s) (hm : s.size ≤ maxLen)
    (h : ∀ c w', Upd (fun _ => False) w w' → w'.heap.size = w.heap.size + 1 → Sees w' 1 (.slice (some ⟨w.heap.size, 0, none⟩) s.size c) s.size (bvs s.data.toList) → (∀ j, j < s.size → w'.frozen? ⟨w.heap.size, j, none⟩ = false) → wpList P ops Q rest (a.put dst (.slice (some ⟨w.heap.size, 0, none⟩) s.size c)) w') :
    wpList P ops Q (⟨dst, .convert src dst' x, ty, pos, aft, none⟩ :: rest) a w := by
  refine wpList_plain rfl fun K hK => ?_
  obtain ⟨c, w', hr, h1, h2, h3, _⟩ := run_string_bytes (P := P) src dst' e s hs hd he hm w
  have hr2 := Lib.run_convert_string_bytes (P := P) w src dst' e s hs hd he
  rw [hr2] at hr
  obtain ⟨rfl, rfl⟩ : c = grownCap w s.size 0 e ∧ w' = Lib.bytesWorld w e s := by
    injection hr with hv hw
    injection hv with _ _ hc
    exact ⟨hc.symm, hw.symm⟩
  unfold Oper.wp execOp
  simp only [hx, Sem.run_bind, hr2, Result.andThen_ok, Sem.run_pure]
  refine hK _ _ (h _ _ h1 h2 h3 (fun j hj => ?_))
  have hb := Lib.bytesWorld_at_new w e s
  have hsz : s.size ≤ (Lib.bytesCells w e s).size := by
    simp only [Lib.bytesCells, Array.size_append, Array.size_map, Array.size_replicate]
    exact Nat.le_trans (Nat.le_of_eq rfl) (Nat.le_add_right _ _)
  simp only [World.frozen?, hb]
  simp; omega
end

/-- The bytes of a row turned, one behind the other: what is yet to turn is as it was. -/
def XorR (w0 : World) (g n k : Nat) (wr : World) : Prop :=
  Upd (fun j => j = g) w0 wr ∧ (∀ j, k ≤ j → j < n → wr.cell? ⟨g, j, none⟩ = w0.cell? ⟨g, j, none⟩) ∧ (∀ j, j < n → wr.frozen? ⟨g, j, none⟩ = false)
theorem XorR.step {w0 : World} {g n k : Nat} {wr : World} (h : XorR w0 g n k wr) (v : Value) : XorR w0 g n (k + 1) (wr.setCell ⟨g, k, none⟩ v) := by
  refine ⟨h.1.setCell _ (.inl rfl), fun j h1 h2 => ?_, fun j hj => ?_⟩
  · rw [← h.2.1 j (by omega) h2]
    exact World.cell?_setCell_other _ _ _ _ (by intro e; cases e; omega)
  · rw [← h.2.2 j hj]
    exact World.frozen?_setCell _ _ _ _

/-- Four disks: two that are one another's answer, and two. -/
def Four (w0 : World) (b rb b2 rb2 : Nat) (D : DSt) (M : Nat) (D2 : DSt) (M2 : Nat) (w : World) : Prop :=
  ∃ F G F2 G2, DiskAt w b D F ∧ RefAt w rb D M G ∧ DiskAt w b2 D2 F2 ∧ RefAt w rb2 D2 M2 G2 ∧ (∀ k, F k → ¬ G k) ∧ (∀ k, F2 k → ¬ G2 k) ∧ (∀ k, F k ∨ G k → ¬ (F2 k ∨ G2 k)) ∧ Upd (fun _ => False) w0 w ∧ (∀ k, F k ∨ G k ∨ F2 k ∨ G2 k → w0.heap.size ≤ k)
theorem Four.swap {w0 : World} {b rb b2 rb2 : Nat} {D : DSt} {M : Nat} {D2 : DSt} {M2 : Nat} {w : World} (h : Four w0 b rb b2 rb2 D M D2 M2 w) : Four w0 b2 rb2 b rb D2 M2 D M w := by
  obtain ⟨F, G, F2, G2, h1, h2, h3, h4, h5, h6, h7, h8, h9⟩ := h
  exact ⟨F2, G2, F, G, h3, h4, h1, h2, h6, h5, fun k hk h => h7 k h hk, h8, fun k hk => h9 k (by rcases hk with h | h | h | h <;> simp [h])⟩
theorem Four.upd {w0 : World} {b rb b2 rb2 : Nat} {D : DSt} {M : Nat} {D2 : DSt} {M2 : Nat} {w w' : World} (h : Four w0 b rb b2 rb2 D M D2 M2 w) (hu : Upd (fun _ => False) w w') : Four w0 b rb b2 rb2 D M D2 M2 w' := by
  obtain ⟨F, G, F2, G2, h1, h2, h3, h4, h5, h6, h7, h8, h9⟩ := h
  exact ⟨F, G, F2, G2, h1.upd hu (fun _ _ h => h), h2.upd hu (fun _ _ h => h), h3.upd hu (fun _ _ h => h), h4.upd hu (fun _ _ h => h), h5, h6, h7, h8.trans hu, h9⟩

/-- A step on the first two. -/
theorem four_step {w0 : World} {b rb b2 rb2 : Nat} {D : DSt} {M : Nat} {D2 : DSt} {M2 : Nat} {w : World} (h : Four w0 b rb b2 rb2 D M D2 M2 w) (hM : M < 999999999) (hwl : D.waits.length < 999999999) (o : OpR) (ho : o.Ok w0) :
    Calls Try.prog 31 #[.pointer (some ⟨b, 0, none⟩), .pointer (some ⟨rb, 0, none⟩), .agg (opV o).toArray] w fun e w' => e = .returned (.bool true) ∧ Four w0 b rb b2 rb2 (stepD D o) (M + 1) D2 M2 w' := by
  obtain ⟨F, G, F2, G2, h1, h2, h3, h4, h5, h6, h7, h8, h9⟩ := h
  have hok : o.Ok w := ⟨ho.kind, ho.lo, ho.hi, ho.data, ho.keep.upd h8 (fun _ _ _ h => h), fun x hx h0 => Nat.lt_of_lt_of_le (ho.lt x hx h0) h8.size⟩
  refine (step_ok h1 h2 h5 hM hwl o hok (fun x hx h0 => ⟨fun h => ?_, fun h => ?_⟩)).mono ?_
  · have := ho.lt x hx h0; have := h9 _ (.inl h); omega
  · have := ho.lt x hx h0; have := h9 _ (.inr (.inl h)); omega
  rintro e w' ⟨rfl, F', G', k1, k2, k3, k4, k5, k6⟩
  have hs := h8.size
  refine ⟨rfl, F', G', F2, G2, k1, k2, h3.upd k4 (fun k hk h => h7 k h (.inl hk)), h4.upd k4 (fun k hk h => h7 k h (.inr hk)), k3, h6, fun k hk hk2 => ?_, h8.then k4 (fun k hk => .inr (h9 k (hk.elim .inl (fun h => .inr (.inl h))))), fun k hk => ?_⟩
  · have hlt : k < w.heap.size := hk2.elim (h3.lt k) (h4.lt k)
    rcases hk with hk | hk
    · rcases k5 k hk with h | h
      · exact h7 k (.inl h) hk2
      · omega
    · rcases k6 k hk with h | h
      · exact h7 k (.inr h) hk2
      · omega
  · rcases hk with hk | hk | hk | hk
    · rcases k5 k hk with h | h
      · exact h9 k (.inl h)
      · omega
    · rcases k6 k hk with h | h
      · exact h9 k (.inr (.inl h))
      · omega
    · exact h9 k (.inr (.inr (.inl hk)))
    · exact h9 k (.inr (.inr (.inr hk)))

/-- Both disks; the block g is none of theirs. -/
def PlaysG (W0 : World) (b rb : Nat) (D : DSt) (M g : Nat) (w : World) : Prop :=
  ∃ F G, DiskAt w b D F ∧ RefAt w rb D M G ∧ (∀ k, F k → ¬ G k) ∧ Upd (fun _ => False) W0 w ∧ (∀ k, F k → W0.heap.size ≤ k) ∧ (∀ k, G k → W0.heap.size ≤ k) ∧ ¬ F g ∧ ¬ G g
theorem PlaysG.done {W0 w w' : World} {b rb : Nat} {D : DSt} {M g : Nat} (h : PlaysG W0 b rb D M g w) (h0 : W0.heap.size ≤ g) (hu : Upd (fun j => j = g) w w') : PlaysR W0 b rb D M w' := by
  obtain ⟨F, G, h1, h2, h3, h4, h5, h6, h7, h8⟩ := h
  exact ⟨F, G, h1.upd hu (fun k hk e => h7 (e ▸ hk)), h2.upd hu (fun k hk e => h8 (e ▸ hk)), h3, h4.then hu (fun i hi => .inr (by omega)), h5, h6⟩
theorem PlaysG.pair {W0 w w1 w' : World} {b rb : Nat} {F G : Nat → Prop} {D' : DSt} {M' : Nat} (hU : Upd (fun _ => False) W0 w) (hF : ∀ k, F k → W0.heap.size ≤ k) (hG : ∀ k, G k → W0.heap.size ≤ k) (hFl : ∀ k, F k → k < w.heap.size) (hGl : ∀ k, G k → k < w.heap.size)
    (hu1 : Upd (fun _ => False) w w1) (hsz : w.heap.size < w1.heap.size) (h : Pair w1 b rb F G D' M' w') : PlaysG W0 b rb D' M' w.heap.size w' := by
  obtain ⟨F', G', h1, h2, h3, h4, h5, h6⟩ := h
  have := hU.size
  refine ⟨F', G', h1, h2, h3, (hU.trans hu1).then h4 (fun i hi => .inr (hi.elim (hF i) (hG i))), fun k hk => ?_, fun k hk => ?_, fun h => ?_, fun h => ?_⟩
  · exact (h5 k hk).elim (hF k) (fun h => by omega)
  · exact (h6 k hk).elim (hG k) (fun h => by omega)
  · rcases h5 _ h with h | h
    · have := hFl _ h; omega
    · omega
  · rcases h6 _ h with h | h
    · have := hGl _ h; omega
    · omega
theorem PlaysR.out {W0 w : World} {b rb : Nat} {D : DSt} {M : Nat} (h : PlaysR W0 b rb D M w) : ∃ F G, DiskAt w b D F ∧ RefAt w rb D M G ∧ (∀ k, F k → ¬ G k) ∧ Upd (fun _ => False) W0 w ∧ (∀ k, F k → W0.heap.size ≤ k) ∧ (∀ k, G k → W0.heap.size ≤ k) := h

theorem PlaysR.turned {W0 w w1 w' : World} {b rb : Nat} {D : DSt} {M : Nat} {g : Nat} (h : PlaysR W0 b rb D M w) (hg : w.heap.size ≤ g) (hu : Upd (fun _ => False) w w1) (hu2 : Upd (fun j => j = g) w1 w') : PlaysR W0 b rb D M w' := by
  obtain ⟨F, G, h1, h2, h3, h4, h5, h6⟩ := h
  have := h4.size
  exact ⟨F, G, (h1.upd hu (fun _ _ h => h)).upd hu2 (fun k hk e => by have := h1.lt k hk; omega), (h2.upd hu (fun _ _ h => h)).upd hu2 (fun k hk e => by have := h2.lt k hk; omega), h3, (h4.trans hu).then hu2 (fun i hi => .inr (by omega)), h5, h6⟩
/-- Bytes that were answered may be turned. -/
theorem turn_row {w : World} {base : Nat} {xa : Option Addr} {c : Nat} {bs : Bytes} (h : w.ownsRow base 5 1 (.slice xa bs.length c) bs.length (bvs bs)) (hb : base ≤ w.heap.size) :
    ∃ g, base ≤ g ∧ (0 < bs.length → xa = some ⟨g, 0, none⟩) ∧ XorR w g bs.length 0 w ∧ (∀ j x, (bvs bs)[j]? = some x → w.cell? ⟨g, j, none⟩ = some x) ∧ bs.length ≤ maxLen := by
  rcases id h.2 with ⟨h1, h2⟩ | ⟨g, cap, cur, hv, hbg, hg, hn, hc, hsz, ht⟩
  · exact ⟨w.heap.size, hb, fun h => by omega, ⟨Upd.refl _ _, fun _ _ _ => rfl, fun j hj => by omega⟩, (fun j x hx => by rw [List.getElem?_eq_none (by rw [bvs_length]; omega)] at hx; cases hx), by omega⟩
  · cases hv
    refine ⟨g, hbg, fun _ => rfl, ⟨Upd.refl _ _, fun _ _ _ => rfl, fun j hj => unfrozen hg j⟩, fun j x hx => ?_, Nat.le_trans hn hc⟩
    have := h.cells (g := g) rfl j x hx
    rwa [Addr.add_lit, Nat.zero_add] at this

set_option maxHeartbeats 4000000 in
theorem clones_first (n : Int) (xa : Option Addr) (xc : Nat) (l : List OpR) (hm : l.length ≤ 1048576) (ya : Option Addr) (yc : Nat) (l2 : List OpR) (hm2 : l2.length ≤ 1048576) (w : World) (hl : Sees w 4 (.slice xa l.length xc) l.length (l.flatMap opV)) (ho : ∀ o ∈ l, o.Ok w)
    (hl2 : Sees w 4 (.slice ya l2.length yc) l2.length (l2.flatMap opV)) (ho2 : ∀ o ∈ l2, o.Ok w) :
    Calls Try.prog 11 #[.int .i64 n, .slice xa l.length xc, .slice ya l2.length yc] w fun e w' => e = .returned (.bool true) ∧ Below w.heap.size w w' := by
  have hmi : (l.length : Int) ≤ 1048576 := by omega
  have hmi2 : (l2.length : Int) ≤ 1048576 := by omega
  have Hl := Lib.hid (And.intro hl (And.intro ho hm))
  have Hl2 := Lib.hid (And.intro hl2 (And.intro ho2 hm2))
  clear hl ho hm hl2 ho2 hm2
  go_enter Try.func11, Try.ntmps11
  go_wp2_with fail
  refine (fixed_ok w).mono ?_
  rintro e w0 ⟨rfl, hu0⟩
  dsimp only
  go_wp2_with fail
  refine (new_disk n w0).mono ?_
  rintro e w1 ⟨b, F, rfl, hD, hu1, hF⟩
  dsimp only
  go_wp2_with fail
  refine (ref_new n w1).mono ?_
  rintro e w2 ⟨rb, G, rfl, hR, hu2, hG⟩
  dsimp only
  have hFl := hD.lt
  have hPl : PlaysR w b rb (DSt.new n) 0 w2 := ⟨F, G, hD.upd hu2 (fun _ _ h => h), hR, fun k hk hg => by have := hFl k hk; have := hG k hg; omega, (hu0.trans hu1).trans hu2, fun k hk => by have := hF k hk; have := hu0.size; omega, fun k hk => by have := hG k hk; have := hu0.size; have := hu1.size; omega⟩
  have HPl := Lib.hid hPl
  clear hFl hPl hD hF hR hG hu0 hu1 hu2
  go_upto_block 0 with (fail)
  go_cut [7, 8] (fun v7 v8 w' => v7 = .pointer (some ⟨b, 0, none⟩) ∧ v8 = .pointer (some ⟨rb, 0, none⟩) ∧ PlaysR w b rb (playsD (DSt.new n) l) l.length w')
  case first =>
    go_wp2_with fail
    go_loopw [9] (fun v wr => ∃ k : Nat, k ≤ l.length ∧ v = .int .i64 k ∧ PlaysR w b rb (playsD (DSt.new n) (l.take k)) k wr) (fun v _ => l.length - (intOf v).toNat)
    case atStart => exact ⟨0, Nat.zero_le _, rfl, HPl.out⟩
    case round =>
      clear HPl
      obtain ⟨k, hkl, rfl, hP⟩ := hrel
      by_cases hlt : k < l.length
      · have hlt2 : (k : Int) < (l.length : Int) := by omega
        obtain ⟨o, hoe⟩ : ∃ o, l[k] = o := ⟨_, rfl⟩
        obtain ⟨D, hDe⟩ : ∃ D, playsD (DSt.new n) (l.take k) = D := ⟨_, rfl⟩
        have hwl := playsD_waits (DSt.new n) (l.take k)
        have hnx : playsD (DSt.new n) (l.take (k + 1)) = stepD D o := by rw [List.take_succ_eq_append_getElem hlt, playsD_snoc, hDe, hoe]
        rw [hDe] at hP hwl
        have hwl2 : D.waits.length ≤ k := by rw [new_waits] at hwl; simp at hwl; omega
        have hok := Hl.out.2.1 o (hoe ▸ List.getElem_mem hlt)
        obtain ⟨xb, xo, rfl, hr⟩ := op_at Hl.out.1 k hlt
        rw [hoe] at hr
        obtain ⟨F1, G1, hD, hR, hdis, hU, hF, hG⟩ := id hP
        have hxb : xb < w.heap.size := World.block_lt_of_cell? _ _ (rangeAt.cell hr 0 rfl)
        have hr2 := hU.range hr (fun h => h)
        have q0 : wr.cell? ⟨xb, xo + k * 4, none⟩ = some (.int .u8 o.kind) := hr2 0 _ rfl
        have q2 : wr.cell? ⟨xb, xo + k * 4 + 2, none⟩ = some (.string o.data) := hr2 2 _ rfl
        have HP := Lib.hid (And.intro hP (And.intro hr (And.intro hxb (And.intro hok (And.intro hnx hwl2)))))
        have HU := Lib.hid hU
        have hk0 : (0 : Int) ≤ (o.kind : Int) := by omega
        have hk5 : (o.kind : Int) ≤ 255 := by have := hok.kind; omega
        clear hnx hwl hwl2 hoe hDe hD hR hdis hU hF hG hr hxb hok hP hr2
        go_wp2_with ((with_reducible apply wpl_string_bytes2 5 o.data))
        · exact Try.underlying9
        · exact Try.underlying22
        · exact Try.underlying5
        · rfl
        · exact HP.out.2.2.2.1.data
        intro c w3 hu3 hs3 hse3 hfz3
        have q0 := hu3.cell_some q0 (fun h => h)
        try (simp only [Act.put, List.setIfInBounds_toArray, List.set_cons_zero, List.set_cons_succ])
        have HX := Lib.hid (And.intro hu3 (And.intro hs3 (And.intro hse3 hfz3)))
        obtain ⟨g, hg⟩ : ∃ g, wr.heap.size = g := ⟨_, rfl⟩
        rw [hg] at HX
        try rw [hg]
        have Hg := Lib.hid hg
        clear hu3 hs3 hse3 hfz3 hg q2
        by_cases hk : o.kind % 6 = 0
        · have hk6 : (o.kind : Int) % 6 = 0 := by omega
          obtain ⟨F1, G1, hD, hR, hdis, hU, hF, hG⟩ := HP.out.1.out
          obtain ⟨D', r, hwr⟩ : ∃ D' r, D.write o.i o.data.data.toList = (D', r) := ⟨_, _, rfl⟩
          have hst : stepD D o = D' := by rw [stepD, if_pos hk, hwr]
          have hr3 := HX.out.1.range (hU.range HP.out.2.1 (fun h => h)) (fun h => h)
          have hsl : o.data.data.toList.length = o.data.size := by rw [Array.length_toList]; rfl
          have hgF : ¬ F1 g := fun h => by have := hD.lt _ h; rw [Hg.out] at this; omega
          have hd3 : Upd (fun _ => False) w3 w3.drew := (Upd.refl _ _).drew
          have hW := write_disk ((hD.upd HX.out.1 (fun _ _ h => h)).upd hd3 (fun _ _ h => h)) o.i (some ⟨g, 0, none⟩) c o.data.data.toList (by rw [hsl]; exact HX.out.2.2.1.upd hd3 (fun _ _ _ h => h)) (fun x hx _ h => by cases hx; exact hgF h) (by have := HP.out.2.2.2.2.2; omega) hwr
          rw [hsl] at hW
          have HW := Lib.hid (And.intro hW (And.intro hD (And.intro hR (And.intro hdis (And.intro hU (And.intro hF (And.intro hG (And.intro hwr hst))))))))
          clear hW hD hR hdis hU hF hG hwr hst hsl hgF hk hd3
          go_wp2_with fail
          have HS : w3.drew.rangeAt xb (xo + k * 4) (opV o) := ((Upd.refl (fun _ => False) w3).drew).range hr3 (fun h => h)
          have fact : ∀ w' : World, w'.rangeAt xb (xo + k * 4) (opV o) → w'.cell? ⟨xb, xo + k * 4 + 1, none⟩ = some (.int .i64 o.i) ∧ w'.cell? ⟨xb, xo + k * 4 + 2, none⟩ = some (.string o.data) := fun w' h => ⟨h 1 _ rfl, h 2 _ rfl⟩
          have HS := fact _ HS
          refine wp_region_planD (fun w' => w'.cell? ⟨xb, xo + k * 4 + 1, none⟩ = some (.int .i64 o.i) ∧ w'.cell? ⟨xb, xo + k * 4 + 2, none⟩ = some (.string o.data)) 21 [(0, true), (1, true), (2, true), (3, true), (4, true), (5, true), (6, true), (8, true), (9, true), (10, true), (11, true), (12, true), (13, true), (14, true), (15, true), (16, true), (17, true), (18, true), (7, false), (19, false), (20, true)] (by kernel_rfl) (by kernel_rfl) (fun d _ _ _ _ h => by cases d <;> exact h) HS ?_
          iterate 18 (first | (apply planD_held rfl rfl rfl (by simp) HS; (intro w' hS K hK; go_simp; exact hK)) | (apply planD_wanted rfl rfl rfl (by simp) HS; (intro w' hS K hK; go_simp; exact hK)))
          refine planD_op rfl rfl (fun K hK => ?_)
          go_simp
          refine HW.out.1.mono ?_
          rintro e w4 ⟨rfl, F', hD4, hu4, hF4⟩
          dsimp only
          have hxF : ¬ F1 xb := fun h => by have := HW.out.2.2.2.2.2.1 _ h; have := HP.out.2.2.1; omega
          have hxG : ¬ G1 xb := fun h => by have := HW.out.2.2.2.2.2.2.1 _ h; have := HP.out.2.2.1; omega
          have HS := fact _ (hu4.range (((Upd.refl (fun _ => False) w3).drew).range hr3 (fun h => h)) hxF)
          refine hK _ _ _ (fun _ h => h) (fun _ => HS) ?_
          clear hK
          try (simp only [Act.put, List.setIfInBounds_toArray, List.set_cons_zero, List.set_cons_succ])
          have hd3 : Upd (fun _ => False) w3 w3.drew := (Upd.refl _ _).drew
          have hR4 : RefAt w4 rb D k G1 := ((HW.out.2.2.1.upd HX.out.1 (fun _ _ h => h)).upd hd3 (fun _ _ h => h)).upd hu4 (fun k hk hf => HW.out.2.2.2.1 k hf hk)
          have HW2 := Lib.hid (ref_write hR4 (by have := Hl.out.2.2; omega) o.i o.data HW.out.2.2.2.2.2.2.2.1)
          have HD4 := Lib.hid (And.intro hD4 (And.intro hu4 hF4))
          clear hR4 hD4 hF4
          refine planD_op rfl rfl (fun K hK => ?_)
          go_simp
          refine HW2.out.mono ?_
          rintro e w5 ⟨rfl, G', hR5, hu5, hG5⟩
          dsimp only
          have hPP : PlaysG w b rb (stepD D o) (k + 1) g w5 ∧ Upd (fun k => F1 k ∨ G1 k) w3 w5 := by
            rw [HW.out.2.2.2.2.2.2.2.2]
            have hm2 := Pair.mk2 (w := wr) HW.out.2.2.1.lt HW.out.2.2.2.1 (HX.out.1.trans hd3) HD4.out.1 HD4.out.2.1 HD4.out.2.2 hR5 hu5 hG5
            have hm3 := Pair.mk2 (w := w3) (F := F1) (G := G1) (fun k h => Nat.lt_of_lt_of_le (HW.out.2.2.1.lt k h) HX.out.1.size) HW.out.2.2.2.1 hd3 HD4.out.1 HD4.out.2.1 HD4.out.2.2 hR5 hu5 hG5
            refine ⟨?_, ((hd3.mono (fun _ _ h => h.elim)).then HD4.out.2.1 (fun i hi => .inl (.inl hi))).then hu5 (fun i hi => .inl (.inr hi))⟩
            have := PlaysG.pair HW.out.2.2.2.2.1 HW.out.2.2.2.2.2.1 HW.out.2.2.2.2.2.2.1 HW.out.2.1.lt HW.out.2.2.1.lt HX.out.1 (by rw [HX.out.2.1, Hg.out]; omega) hm3
            rw [Hg.out] at this
            exact this
          have HS := fact _ (hu5.range (hu4.range (((Upd.refl (fun _ => False) w3).drew).range hr3 (fun h => h)) hxF) hxG)
          refine hK _ _ _ (fun _ h => h) (fun _ => HS) ?_
          have hgF : ¬ (F1 g ∨ G1 g) := fun h => by
            rcases h with h | h
            · have := HW.out.2.1.lt _ h; rw [Hg.out] at this; omega
            · have := HW.out.2.2.1.lt _ h; rw [Hg.out] at this; omega
          have hX0 : XorR w5 g o.data.size 0 w5 := ⟨Upd.refl _ _, fun _ _ _ => rfl, fun j hj => by
            rw [hPP.2.frozen (a := ⟨g, j, none⟩) (by show g < _; rw [HX.out.2.1]; omega) hgF]; exact HX.out.2.2.2 j hj⟩
          have hse5 := HX.out.2.2.1.upd hPP.2 (fun k hk _ => by cases hk; exact hgF)
          have HPP := Lib.hid (And.intro hPP (And.intro hX0 hse5))
          clear hK hR5 hu5 hG5 hPP hd3 hu4 hxF hxG hgF hX0 hse5 fact hr3
          try (simp only [Act.put, List.setIfInBounds_toArray, List.set_cons_zero, List.set_cons_succ])
          (first | (apply planD_held rfl rfl rfl (by simp) HS; (intro w' hS K hK; go_simp; exact hK)) | (apply planD_wanted rfl rfl rfl (by simp) HS; (intro w' hS K hK; go_simp; exact hK)))
          refine planD_nil ?_
          clear HS
          have hsz2 : (o.data.size : Int) ≤ 9223372036854775807 := by have := HP.out.2.2.2.1.data; unfold maxLen at this; omega
          have hW0 : w.heap.size ≤ g := by have := HW.out.2.2.2.2.1.size; rw [Hg.out] at this; exact this
          have HW0 := Lib.hid hW0
          clear hW0 hk0 hk5 hk6 q0
          go_wp2_with fail
          go_loopw [11] (fun v wx => ∃ j : Nat, j ≤ o.data.size ∧ v = .int .i64 j ∧ XorR w5 g o.data.size j wx) (fun v _ => o.data.size - (intOf v).toNat)
          case atStart => exact ⟨0, Nat.zero_le _, rfl, HPP.out.2.1⟩
          case round =>
            obtain ⟨j, hj, rfl, hX⟩ := hrel
            by_cases hjl : j < o.data.size
            · have hjl2 : (j : Int) < (o.data.size : Int) := by omega
              obtain ⟨x, hx⟩ : ∃ x : UInt8, (bvs o.data.data.toList)[j]? = some (bv x) := ⟨_, bvs_get _ j (by rw [Array.length_toList]; exact hjl)⟩
              have hcx : wr.cell? ⟨g, j, none⟩ = some (.int .u8 x.toNat) := by
                rw [hX.2.1 j (Nat.le_refl _) hjl]
                obtain ⟨_, _, _, _, e, hc⟩ := HPP.out.2.2
                cases e
                obtain ⟨_, _, e, hr⟩ := hc (by omega)
                cases e
                have := hr j _ hx
                rwa [Nat.zero_add] at this
              have hfx := hX.2.2 j hjl
              have HXs := Lib.hid (fun v => hX.step v)
              clear hX hx
              go_wp2_with fail
              exact ⟨⟨j + 1, by omega, by go_num, HXs.out _⟩, by simp [intOf]; omega⟩
            · obtain rfl : j = o.data.size := by omega
              have hfin : PlaysR w b rb (playsD (DSt.new n) (l.take (k + 1))) (k + 1) wr := by
                rw [HP.out.2.2.2.2.1]
                exact HPP.out.1.1.done HW0.out hX.1
              have HF := Lib.hid hfin
              clear hX hfin
              go_wp2_with fail
              exact ⟨⟨k + 1, by omega, by go_num, HF.out⟩, by simp [intOf]; omega⟩
        · have hk6 : ((o.kind : Int) % 6 == 0) = false := by rw [beq_eq_false_iff_ne]; omega
          obtain ⟨F1, G1, hD, hR, hdis, hU, hF, hG⟩ := HP.out.1.out
          have hr3 := HX.out.1.range (hU.range HP.out.2.1 (fun h => h)) (fun h => h)
          have hokr : o.Ok w3 := by
            have hok := HP.out.2.2.2.1
            exact ⟨hok.kind, hok.lo, hok.hi, hok.data, (hok.keep.upd hU (fun _ _ _ h => h)).upd HX.out.1 (fun _ _ _ h => h), fun x hx h0 => Nat.lt_of_lt_of_le (hok.lt x hx h0) (Nat.le_trans hU.size HX.out.1.size)⟩
          have hst := step_ok (hD.upd HX.out.1 (fun _ _ h => h)) (hR.upd HX.out.1 (fun _ _ h => h)) hdis (by have := Hl.out.2.2; omega) (by have := HP.out.2.2.2.2.2; have := Hl.out.2.2; omega) o hokr
            (fun x hx h0 => ⟨fun h => by have := HP.out.2.2.2.1.lt x hx h0; have := hF _ h; omega, fun h => by have := HP.out.2.2.2.1.lt x hx h0; have := hG _ h; omega⟩)
          have Hst := Lib.hid (And.intro hst (And.intro hD (And.intro hR (And.intro hdis (And.intro hU (And.intro hF hG))))))
          have Hr3 := Lib.hid hr3
          have hro := hr3
          clear hst hD hR hdis hU hF hG hk hokr hr3
          go_wp2_with ((with_reducible apply wpl_load_mid xb (xo + k * 4) (opV o)); exact rfl; exact hro; exact Try.underlying50; exact rfl; exact sizeOp; try (simp only [Act.put, List.setIfInBounds_toArray, List.set_cons_zero, List.set_cons_succ]))
          refine Hst.out.1.mono ?_
          rintro e w4 ⟨rfl, hp⟩
          dsimp only
          have hp4 : PlaysR w b rb (stepD D o) (k + 1) w4 := PlaysR.pair (Hst.out.2.2.2.2.1.trans HX.out.1) Hst.out.2.2.2.2.2.1 Hst.out.2.2.2.2.2.2 hp
          have hwb : (stepD D o).waits.length < 100000000000 := by have := stepD_waits D o; have := HP.out.2.2.2.2.2; have := Hl.out.2.2; omega
          have hr4 : w4.rangeAt xb (xo + k * 4) (opV o) := by
            obtain ⟨_, _, _, _, _, hu, _, _⟩ := hp
            refine hu.range Hr3.out (fun h => ?_)
            have := HP.out.2.2.1
            rcases h with h | h
            · have := Hst.out.2.2.2.2.2.1 _ h; omega
            · have := Hst.out.2.2.2.2.2.2 _ h; omega
          obtain ⟨Dn, hDn⟩ : ∃ Dn, stepD D o = Dn := ⟨_, rfl⟩
          rw [hDn] at hp4 hwb
          obtain ⟨bs, r, hrd⟩ : ∃ bs r, Dn.read o.i = (bs, r) := ⟨_, _, rfl⟩
          obtain ⟨bs2, r2, hrd2⟩ : ∃ bs r, Dn.durable o.i = (bs, r) := ⟨_, _, rfl⟩
          have HDn := Lib.hid (And.intro hDn (And.intro hwb (And.intro hrd hrd2)))
          have c1 : w4.cell? ⟨xb, xo + k * 4 + 1, none⟩ = some (.int .i64 o.i) := hr4 1 _ rfl
          have hW0 : w.heap.size ≤ w4.heap.size := hp4.out.choose_spec.choose_spec.2.2.2.1.size
          obtain ⟨F4, G4, hD4, _⟩ := hp4.out
          have HR := Lib.hid (read_disk hD4 hwb o.i hrd)
          have HP4 := Lib.hid hp4
          have HOP := Lib.hid hr4
          have HW0 := Lib.hid hW0
          clear hp hp4 hwb hr4 hDn hrd hrd2 hD4 hW0 hro q0
          go_wp2_with fail
          refine HR.out.mono ?_
          rintro e w5 ⟨xa2, xc2, rfl, hown, hu5, hz⟩
          clear hz
          dsimp only
          obtain ⟨g2, hT⟩ := turn_row hown hu5.size
          have HT := Lib.hid hT
          have HUU := Lib.hid hu5
          have HOP := Lib.hid (hu5.range HOP.out (fun h => h))
          have hbm : (bs.length : Int) ≤ 9223372036854775807 := by have := hT.2.2.2.2; unfold maxLen at this; omega
          clear hown hT hu5 c1
          go_wp2_with fail
          go_loopw [14] (fun v wx => ∃ j : Nat, j ≤ bs.length ∧ v = .int .i64 j ∧ XorR w5 g2 bs.length j wx) (fun v _ => bs.length - (intOf v).toNat)
          case atStart => exact ⟨0, Nat.zero_le _, rfl, HT.out.2.2.1⟩
          case round =>
            obtain ⟨j, hj, rfl, hX⟩ := hrel
            by_cases hjl : j < bs.length
            · have hjl2 : (j : Int) < (bs.length : Int) := by omega
              have hxa := HT.out.2.1 (by omega)
              subst hxa
              obtain ⟨x, hx⟩ : ∃ x : UInt8, (bvs bs)[j]? = some (bv x) := ⟨_, bvs_get _ j hjl⟩
              have hcx : wr.cell? ⟨g2, j, none⟩ = some (.int .u8 x.toNat) := by
                rw [hX.2.1 j (Nat.le_refl _) hjl]
                exact HT.out.2.2.2.1 j _ hx
              have hfx := hX.2.2 j hjl
              have HXs := Lib.hid (fun v => hX.step v)
              clear hX hx
              go_wp2_with fail
              exact ⟨⟨j + 1, by omega, by go_num, HXs.out _⟩, by simp [intOf]; omega⟩
            · obtain rfl : j = bs.length := by omega
              have hpl := Lib.hid (HP4.out.turned HT.out.1 HUU.out hX.1)
              have hop := Lib.hid ((hX.1.range HOP.out (fun h => by have := HP.out.2.2.1; have := HW0.out; have := HT.out.1; omega)))
              clear hX
              have c1 : wr.cell? ⟨xb, xo + k * 4 + 1, none⟩ = some (.int .i64 o.i) := hop.out 1 _ rfl
              obtain ⟨F6, G6, hD6, _⟩ := hpl.out.out
              have HR := Lib.hid (durable_disk hD6 o.i HDn.out.2.2.2)
              have HW0 : Hid (w.heap.size ≤ wr.heap.size) := hpl.out.out.choose_spec.choose_spec.2.2.2.1.size
              obtain ⟨w6, hw6⟩ : ∃ w6, wr = w6 := ⟨_, rfl⟩
              subst hw6
              clear hD6 HP4 HT HUU HOP
              have HP4 := Lib.hid hpl.out
              go_wp2_with fail
              refine HR.out.mono ?_
              rintro e w7 ⟨xa3, xc3, rfl, hown, hu5⟩
              dsimp only
              obtain ⟨g2, hT⟩ := turn_row hown hu5.size
              have HT := Lib.hid hT
              have HUU := Lib.hid hu5
              have HOP := Lib.hid (hu5.range hop.out (fun h => h))
              have hbm2 : (bs2.length : Int) ≤ 9223372036854775807 := by have := hT.2.2.2.2; unfold maxLen at this; omega
              clear hown hT hu5 c1
              go_wp2_with fail
              go_loopw [15] (fun v wx => ∃ j : Nat, j ≤ bs2.length ∧ v = .int .i64 j ∧ XorR w7 g2 bs2.length j wx) (fun v _ => bs2.length - (intOf v).toNat)
              case atStart => exact ⟨0, Nat.zero_le _, rfl, HT.out.2.2.1⟩
              case round =>
                obtain ⟨j, hj, rfl, hX⟩ := hrel
                by_cases hjl : j < bs2.length
                · have hjl2 : (j : Int) < (bs2.length : Int) := by omega
                  have hxa := HT.out.2.1 (by omega)
                  subst hxa
                  obtain ⟨x, hx⟩ : ∃ x : UInt8, (bvs bs2)[j]? = some (bv x) := ⟨_, bvs_get _ j hjl⟩
                  have hcx : wr.cell? ⟨g2, j, none⟩ = some (.int .u8 x.toNat) := by
                    rw [hX.2.1 j (Nat.le_refl _) hjl]
                    exact HT.out.2.2.2.1 j _ hx
                  have hfx := hX.2.2 j hjl
                  have HXs := Lib.hid (fun v => hX.step v)
                  clear hX hx
                  go_wp2_with fail
                  exact ⟨⟨j + 1, by omega, by go_num, HXs.out _⟩, by simp [intOf]; omega⟩
                · obtain rfl : j = bs2.length := by omega
                  have hpl := Lib.hid (HP4.out.turned HT.out.1 HUU.out hX.1)
                  have hop := Lib.hid ((hX.1.range HOP.out (fun h => by have := HP.out.2.2.1; have := HW0.out; have := HT.out.1; omega)))
                  clear hX
                  have hfin : PlaysR w b rb (playsD (DSt.new n) (l.take (k + 1))) (k + 1) wr := by
                    rw [HP.out.2.2.2.2.1, HDn.out.1]
                    exact hpl.out
                  have HF := Lib.hid hfin
                  clear hfin
                  go_wp2_with fail
                  exact ⟨⟨k + 1, by omega, by go_num, HF.out⟩, by simp [intOf]; omega⟩
      · obtain rfl : k = l.length := by omega
        rw [List.take_length] at hP
        have HB := Lib.hid hP
        clear hP
        go_wp2_with fail
        go_meet
        exact ⟨rfl, rfl, HB.out⟩
  case rest =>
    obtain ⟨rfl, rfl, hP⟩ := hcut
    obtain ⟨Da, hDa⟩ : ∃ D, playsD (DSt.new n) l = D := ⟨_, rfl⟩
    have hwa := playsD_waits (DSt.new n) l
    rw [hDa] at hP hwa
    rw [new_waits] at hwa
    simp only [List.length_nil, Nat.zero_add] at hwa
    obtain ⟨F, G, hD, hR, hdis, hU, hF, hG⟩ := hP.out
    have Hcl := Lib.hid (clone_disk hD (by have := Hl.out.2.2; omega))
    have HP := Lib.hid (And.intro hD (And.intro hR (And.intro hdis (And.intro hU (And.intro hF hG)))))
    have Hwa := Lib.hid hwa
    clear hP hD hR hdis hU hF hG hDa HPl hwa
    go_wp2_with fail
    refine Hcl.out.mono ?_
    rintro e w4 ⟨b2, F2, rfl, hD4, hu4, hF4⟩
    dsimp only
    have HD4 := Lib.hid (And.intro hD4 (And.intro hu4 hF4))
    have Hcp := Lib.hid (ref_copy (HP.out.2.1.upd hu4 (fun _ _ h => h)) (by have := Hl.out.2.2; omega))
    clear hD4 hu4 hF4
    go_wp2_with fail
    refine Hcp.out.mono ?_
    rintro e w5 ⟨rb2, G2, rfl, hR5, hu5, hG5⟩
    dsimp only
    have hFour : Four w b rb b2 rb2 Da l.length Da l.length w5 := by
      obtain ⟨hD, hR, hdis, hU, hF, hG⟩ := HP.out
      obtain ⟨hD4, hu4, hF4⟩ := HD4.out
      have s4 := hu4.size
      have sU := hU.size
      refine ⟨F, G, F2, G2, (hD.upd hu4 (fun _ _ h => h)).upd hu5 (fun _ _ h => h), (hR.upd hu4 (fun _ _ h => h)).upd hu5 (fun _ _ h => h), hD4.upd hu5 (fun _ _ h => h), hR5, hdis, fun k h1 h2 => ?_, fun k h1 h2 => ?_, (hU.trans hu4).trans hu5, fun k hk => ?_⟩
      · have := hD4.lt k h1; have := hG5 k h2; omega
      · have a1 : k < wc.heap.size := h1.elim (hD.lt k) (hR.lt k)
        rcases h2 with h2 | h2
        · have := hF4 k h2; omega
        · have := hG5 k h2; omega
      · rcases hk with h | h | h | h
        · exact hF k h
        · exact hG k h
        · have := hF4 k h; omega
        · have := hG5 k h; omega
    have HFour := Lib.hid hFour
    clear hR5 hu5 hG5 hFour HP Hcl HD4 Hcp
    go_wp2_with fail
    go_loopw [18] (fun v wr => ∃ k : Nat, k ≤ l2.length ∧ v = .int .i64 k ∧ Four w b rb b2 rb2 Da l.length (playsD Da (l2.take k)) (l.length + k) wr) (fun v _ => l2.length - (intOf v).toNat)
    case atStart => exact ⟨0, Nat.zero_le _, rfl, HFour.out⟩
    case round =>
      clear HFour
      obtain ⟨k, hkl, rfl, hP⟩ := hrel
      by_cases hlt : k < l2.length
      · have hlt2 : (k : Int) < (l2.length : Int) := by omega
        obtain ⟨o, hoe⟩ : ∃ o, l2[k] = o := ⟨_, rfl⟩
        obtain ⟨D, hDe⟩ : ∃ D, playsD Da (l2.take k) = D := ⟨_, rfl⟩
        have hwl := playsD_waits Da (l2.take k)
        have hnx : playsD Da (l2.take (k + 1)) = stepD D o := by rw [List.take_succ_eq_append_getElem hlt, playsD_snoc, hDe, hoe]
        rw [hDe] at hP hwl
        have hok := Hl2.out.2.1 o (hoe ▸ List.getElem_mem hlt)
        obtain ⟨xb, xo, rfl, hr⟩ := op_at Hl2.out.1 k hlt
        rw [hoe] at hr
        have hro : wr.rangeAt xb (xo + k * 4) (opV o) := (hP.choose_spec.choose_spec.choose_spec.choose_spec.2.2.2.2.2.2.2.1).range hr (fun h => h)
        have Hst := Lib.hid (four_step hP.swap (by have := Hl.out.2.2; have := Hl2.out.2.2; omega) (by have := Hl.out.2.2; have := Hl2.out.2.2; have := Hwa.out; rw [List.length_take] at hwl; omega) o hok)
        have Hnx := Lib.hid hnx
        clear hnx hwl hok hoe hDe hP hr
        go_wp2_with ((with_reducible apply wpl_load_mid xb (xo + k * 4) (opV o)); exact rfl; exact hro; exact Try.underlying50; exact rfl; exact sizeOp; try (simp only [Act.put, List.setIfInBounds_toArray, List.set_cons_zero, List.set_cons_succ]))
        refine Hst.out.mono ?_
        rintro e w6 ⟨rfl, hp⟩
        dsimp only
        have hF : Four w b rb b2 rb2 Da l.length (playsD Da (l2.take (k + 1))) (l.length + (k + 1)) w6 := by
          rw [Hnx.out]
          exact hp.swap
        have HF := Lib.hid hF
        clear hF hp hro
        go_wp2_with fail
        exact ⟨⟨k + 1, by omega, by go_num, HF.out⟩, by simp [intOf]; omega⟩
      · obtain rfl : k = l2.length := by omega
        rw [List.take_length] at hP
        obtain ⟨Db, hDb⟩ : ∃ D, playsD Da l2 = D := ⟨_, rfl⟩
        have hwb := playsD_waits Da l2
        rw [hDb] at hP hwb
        have HP := Lib.hid (And.intro hP hwb)
        clear hP hwb hDb
        go_wp2_with fail
        go_loopw [19] (fun v wr => ∃ k : Nat, k ≤ l.length ∧ v = .int .i64 k ∧ Four w b rb b2 rb2 Da (l.length + 2 * k) Db (l.length + l2.length + k) wr) (fun v _ => l.length - (intOf v).toNat)
        case atStart => exact ⟨0, Nat.zero_le _, rfl, HP.out.1⟩
        case round =>
          obtain ⟨k, hkl, rfl, hP⟩ := hrel
          by_cases hlt : k < l.length
          · have hlt2 : (k : Int) < (l.length : Int) := by omega
            obtain ⟨o, hoe⟩ : ∃ o, l[k] = o := ⟨_, rfl⟩
            obtain ⟨xb, xo, rfl, hr⟩ := op_at Hl.out.1 k hlt
            rw [hoe] at hr
            have hok := Hl.out.2.1 o (hoe ▸ List.getElem_mem hlt)
            have hro : wr.rangeAt xb (xo + k * 4) (opV o) := (hP.choose_spec.choose_spec.choose_spec.choose_spec.2.2.2.2.2.2.2.1).range hr (fun h => h)
            have c1 : wr.cell? ⟨xb, xo + k * 4 + 1, none⟩ = some (.int .i64 o.i) := hro 1 _ rfl
            have o1 : OpR.Ok w ⟨1, o.i, ⟨#[]⟩, none, 0, []⟩ := ⟨by show 1 ≤ 255; decide, hok.lo, hok.hi, Nat.zero_le _, Sees.zero _ _ _ _, fun x hx => by cases hx⟩
            have o5 : OpR.Ok w ⟨5, o.i, ⟨#[]⟩, none, 0, []⟩ := ⟨by show 5 ≤ 255; decide, hok.lo, hok.hi, Nat.zero_le _, Sees.zero _ _ _ _, fun x hx => by cases hx⟩
            have Hst := Lib.hid (four_step hP (by have := Hl.out.2.2; omega) (by have := Hl.out.2.2; have := Hwa.out; omega) _ o1)
            have Hk := Lib.hid (And.intro hr (And.intro o1 o5))
            clear hok hoe hP hr hro o1 o5
            go_wp2_with fail
            refine Hst.out.mono ?_
            rintro e w6 ⟨rfl, hp⟩
            dsimp only
            have e1 : stepD Da ⟨1, o.i, ⟨#[]⟩, none, 0, []⟩ = Da := by simp [stepD]
            have e5 : ∀ D, stepD D ⟨5, o.i, ⟨#[]⟩, none, 0, []⟩ = D := fun D => by simp [stepD]
            rw [e1] at hp
            have c1 : w6.cell? ⟨xb, xo + k * 4 + 1, none⟩ = some (.int .i64 o.i) := (hp.choose_spec.choose_spec.choose_spec.choose_spec.2.2.2.2.2.2.2.1).range Hk.out.1 (fun h => h) 1 _ rfl
            have Hst := Lib.hid (four_step hp (by have := Hl.out.2.2; omega) (by have := Hl.out.2.2; have := Hwa.out; omega) _ Hk.out.2.2)
            have He5 := Lib.hid e5
            clear hp e1 e5
            go_wp2_with fail
            refine Hst.out.mono ?_
            rintro e w7 ⟨rfl, hp⟩
            dsimp only
            rw [He5.out] at hp
            have c1 : w7.cell? ⟨xb, xo + k * 4 + 1, none⟩ = some (.int .i64 o.i) := (hp.choose_spec.choose_spec.choose_spec.choose_spec.2.2.2.2.2.2.2.1).range Hk.out.1 (fun h => h) 1 _ rfl
            have Hst := Lib.hid (four_step hp.swap (by have := Hl.out.2.2; have := Hl2.out.2.2; omega) (by have := Hl.out.2.2; have := Hwa.out; have := HP.out.2; have := Hl2.out.2.2; omega) _ Hk.out.2.2)
            clear hp
            go_wp2_with fail
            refine Hst.out.mono ?_
            rintro e w8 ⟨rfl, hp⟩
            dsimp only
            rw [He5.out] at hp
            have HF := Lib.hid hp.swap
            clear hp c1
            go_wp2_with fail
            refine ⟨⟨k + 1, by omega, by go_num, ?_⟩, by simp [intOf]; omega⟩
            have := HF.out
            rw [show l.length + 2 * k + 1 + 1 = l.length + 2 * (k + 1) by omega] at this
            exact this
          · obtain rfl : k = l.length := by omega
            obtain ⟨F, G, F2, G2, h1, h2, h3, h4, h5, h6, h7, h8, h9⟩ := hP
            obtain ⟨_, _, _, dn, dv, wv, _, _, hrb, _, hwv, _⟩ := id h2
            obtain ⟨wa, wc, rfl⟩ := (sees_of_row hwv).shape
            have c2 := (five hrb).2.2.1
            have HE := Lib.hid (And.intro h1 h8)
            clear h1 h2 h3 h4 h5 h6 h7 h8 h9 hrb hwv
            go_wp2_with fail
            have HS : DiskAt wr.drew b Da F ∧ wr.drew.cell? ⟨rb, 2, none⟩ = some (.slice wa Da.waits.length wc) := ⟨HE.out.1.upd (Upd.refl (fun _ => False) wr).drew (fun _ _ h => h), c2⟩
            refine wp_region_planD (fun w' => DiskAt w' b Da F ∧ w'.cell? ⟨rb, 2, none⟩ = some (.slice wa Da.waits.length wc)) 9 [(0, true), (1, true), (2, true), (3, true), (4, true), (5, true), (6, true), (7, true), (8, true)] (by kernel_rfl) (by kernel_rfl) (fun d _ _ _ _ h => by cases d <;> exact h) HS ?_
            (first | (apply planD_held rfl rfl rfl (by simp) HS; (intro w' hS K hK; go_simp; exact hK)) | (apply planD_wanted rfl rfl rfl (by simp) HS; (intro w' hS K hK; go_simp; exact hK)))
            refine planD_call (.int .i64 Da.waits.length) rfl rfl (fun w' hS => ⟨21, #[.pointer (some ⟨b, 0, none⟩)], by go_simp, pending_disk hS.1⟩) ?_
            try (simp only [Act.put, List.setIfInBounds_toArray, List.set_cons_zero, List.set_cons_succ])
            iterate 7 (first | (apply planD_held rfl rfl rfl (by simp) HS; (intro w' hS K hK; go_simp; exact hK)) | (apply planD_wanted rfl rfl rfl (by simp) HS; (intro w' hS K hK; go_simp; exact hK)))
            refine planD_nil ?_
            clear HS c2
            go_wp2_with fail
            go_ret
            exact ⟨by simp, (HE.out.2.drew).below0⟩
end Go.Proofs.Ytlcbgcbocikkkaa
