/- The walk of DiskPrefix. -/
import Derived.Test.YtlcbgcbocikkkaaDiskFlushed
namespace Go.Proofs.Ytlcbgcbocikkkaa
open Go.RowKit
set_option linter.unusedSimpArgs false
set_option maxRecDepth 100000

theorem Ops.upd {w w' : World} {xa : Option Addr} {xc : Nat} {l : List OpR} (h : Sees w 4 (.slice xa l.length xc) l.length (l.flatMap opV) ∧ ∀ o ∈ l, o.Ok w) (hu : Upd (fun _ => False) w w') :
    Sees w' 4 (.slice xa l.length xc) l.length (l.flatMap opV) ∧ ∀ o ∈ l, o.Ok w' :=
  ⟨h.1.upd hu (fun _ _ _ h => h), fun o ho => by
    obtain ⟨a1, a2, a3, a4, a5, a6⟩ := h.2 o ho
    exact ⟨a1, a2, a3, a4, a5.upd hu (fun _ _ _ h => h), fun x hx h0 => Nat.lt_of_lt_of_le (a6 x hx h0) hu.size⟩⟩
/-- The cells of one Op. -/
theorem Ops.cells {w : World} {xa : Option Addr} {xc : Nat} {l : List OpR} (h : Sees w 4 (.slice xa l.length xc) l.length (l.flatMap opV)) (k : Nat) (hk : k < l.length) :
    ∃ b off, xa = some ⟨b, off, none⟩ ∧ w.cell? ⟨b, off + k * 4, none⟩ = some (.int .u8 l[k].kind) ∧ w.cell? ⟨b, off + k * 4 + 1, none⟩ = some (.int .i64 l[k].i) ∧
      w.cell? ⟨b, off + k * 4 + 2, none⟩ = some (.string l[k].data) ∧ w.cell? ⟨b, off + k * 4 + 3, none⟩ = some (.slice l[k].ka l[k].keep.length l[k].kc) := by
  obtain ⟨_, _, x', c', e', hc⟩ := h
  cases e'
  obtain ⟨b, off, rfl, hr⟩ := hc (by omega)
  have hcell : ∀ r (v : Value), r < 4 → (opV l[k])[r]? = some v → w.cell? ⟨b, off + k * 4 + r, none⟩ = some v := fun r v hr4 hv => by
    have := flat_cell opV 4 l (fun o _ => opV_length o) k r hk hr4
    rw [hv] at this
    rw [Nat.add_assoc]
    exact hr _ _ this
  exact ⟨b, off, rfl, hcell 0 _ (by decide) rfl, hcell 1 _ (by decide) rfl, hcell 2 _ (by decide) rfl, hcell 3 _ (by decide) rfl⟩

def fits (o : OpR) : Bool := decide (o.data.size ≤ 512)
def cnt (l : List OpR) (k j : Nat) : Nat := ((l.take (min j k)).filter fits).length
theorem cnt_succ (l : List OpR) (k j : Nat) (hj : j < l.length) : cnt l k (j + 1) = if fits l[j] = true ∧ j < k then cnt l k j + 1 else cnt l k j := by
  unfold cnt
  by_cases h : j < k
  · rw [show min (j + 1) k = j + 1 by omega, show min j k = j by omega, List.take_succ_eq_append_getElem hj, List.filter_append]
    by_cases hf : fits l[j] = true <;> simp [hf, h]
  · rw [show min (j + 1) k = k by omega, show min j k = k by omega, if_neg (fun h' => h h'.2)]
theorem cnt_le (l : List OpR) (k j : Nat) : cnt l k j ≤ j := by
  unfold cnt
  refine Nat.le_trans (List.length_filter_le _ _) ?_
  simp; omega
theorem kept_all : ∀ (W : List (Nat × Bytes)) (n : Nat), kept W (List.replicate n true) = W.take n
  | [], n => by simp [kept]
  | p :: r, 0 => by simp [kept]
  | p :: r, n + 1 => by simp [List.replicate_succ, kept, kept_all r n]
theorem prefix_waits (l : List OpR) (k : Nat) : (writtenD (l.take 200)).waits.take (cnt l k (min l.length 200)) = (writtenD (l.take (min k 200))).waits := by
  rw [(writtenD_facts _).2.2.2.2, (writtenD_facts _).2.2.2.2]
  have e1 : l.take (min (min l.length 200) k) = l.take (min k 200) := by
    by_cases h : l.length ≤ min k 200
    · rw [List.take_of_length_le h, List.take_of_length_le (by omega)]
    · rw [show min (min l.length 200) k = min k 200 by omega]
  have e2 : l.take 200 = l.take (min k 200) ++ (l.take 200).drop (min k 200) := by
    have := (List.take_append_drop (min k 200) (l.take 200)).symm
    rwa [List.take_take, show min (min k 200) 200 = min k 200 by omega] at this
  unfold cnt
  rw [e1, e2, List.filter_append, List.map_append]
  have hl : ((l.take (min k 200)).filter fits).length = ((List.filter (fun o => decide (o.data.size ≤ 512)) (l.take (min k 200))).map (fun o => ((o.i % 4).toNat, pad o.data.data.toList))).length := by
    rw [List.length_map]; rfl
  rw [hl]
  exact List.take_left

theorem infoBool : (Try.prog.info? 4).map (fun i => (i.zero, i.size, i.bytes)) = some (some (.bool false), 1, 1) := by kernel_rfl
theorem made_bools (n : Nat) (hn : n ≤ 1000) (u : World) : (Instr.makeSlice 23 (.int .i64 n) (.int .i64 n)).run Try.prog u = .ok (.slice (some ⟨u.heap.size, 0, none⟩) n n) (u.alloc (.cells (boolsV (List.replicate n false)).toArray 4)) := by
  obtain ⟨i, hi, hz0, hz1, hz2⟩ := info_parts infoBool
  have h := run_make (P := Try.prog) u 23 4 i _ Try.underlying23 hi hz0 .i64 .i64 n n (by omega) (Int.le_refl _) (by rw [hz2]; omega) (by omega)
  rw [hz1] at h
  refine h.trans ?_
  have e1 : ((n : Int)).toNat = n := by omega
  have e2 : madeCells (Value.bool false).cells (n * 1) = (boolsV (List.replicate n false)).toArray := by
    rw [Nat.mul_one]
    have := toList_madeCells_one (.bool false) n
    apply Array.toList_inj.1
    rw [show (Value.bool false).cells = #[.bool false] from rfl, this]
    simp [boolsV]
  rw [e1, e2]
/-- A slice of truths that is being filled. -/
def TrueR (W0 : World) (nb n j : Nat) (wr : World) : Prop :=
  Upd (fun k => k = nb) W0 wr ∧ ∃ bs : List Bool, bs.length = n ∧ (∀ t, t < j → bs[t]? = some true) ∧ wr.heap[nb]? = some (.cells (boolsV bs).toArray 4 (0, 0))
theorem TrueR.step {W0 : World} {nb n j : Nat} {wr : World} (h : TrueR W0 nb n j wr) (hj : j < n) : TrueR W0 nb n (j + 1) (wr.setCell ⟨nb, j, none⟩ (.bool true)) := by
  obtain ⟨hu, bs, hl, hb, hh⟩ := h
  refine ⟨hu.setCell _ (.inl rfl), bs.set j true, by simp [hl], fun t ht => ?_, ?_⟩
  · by_cases e : t = j
    · subst e; simp [hl, hj]
    · rw [List.getElem?_set_ne (fun h => e h.symm)]; exact hb t (by omega)
  · rw [stored hh]; simp [boolsV]

set_option maxHeartbeats 4000000 in
theorem diskPrefix_walk (xa : Option Addr) (xc : Nat) (l : List OpR) (k : Nat) (hk : k ≤ 255) (w : World) (hl : Sees w 4 (.slice xa l.length xc) l.length (l.flatMap opV)) (ho : ∀ o ∈ l, o.Ok w) :
    Calls Try.prog 10 #[.slice xa l.length xc, .int .u8 k] w fun e w' => e = .returned (.bool true) ∧ Below w.heap.size w w' := by
  have hk2 : (k : Int) ≤ 255 := by omega
  have hll : (l.length : Int) ≤ 9223372036854775807 := by have := hl.2.1; unfold maxLen at this; omega
  have Hl := Lib.hid (And.intro hl ho)
  clear hl ho hk
  go_enter Try.func10, Try.ntmps10
  go_wp2_with fail
  refine (fixed_ok w).mono ?_
  rintro e w0 ⟨rfl, hu0⟩
  dsimp only
  have Hl0 := Lib.hid (Ops.upd Hl.out hu0)
  go_upto_block 0 with (fail)
  go_cut [5, 6] (fun n i w' => n = .int .i64 (cnt l k (min l.length 200) : Nat) ∧ w0 = w')
  case first =>
    go_wp2_with fail
    go_loop [5, 6] (fun n i => ∃ j : Nat, j ≤ l.length ∧ j ≤ 200 ∧ i = .int .i64 j ∧ n = .int .i64 (cnt l k j : Nat)) (fun _ i => l.length - (intOf i).toNat)
    case atStart => exact ⟨0, Nat.zero_le _, Nat.zero_le _, rfl, rfl⟩
    case round =>
      obtain ⟨j, hj1, hj2, rfl, rfl⟩ := hrel
      have hj3 : (j : Int) ≤ 200 := by omega
      have hcl := cnt_le l k j
      have hcl2 : ((cnt l k j : Nat) : Int) ≤ 200 := by omega
      by_cases hlt : j < l.length ∧ j < 200
      · obtain ⟨h1, h2⟩ := hlt
        have h1' : (j : Int) < (l.length : Int) := by omega
        have h2' : (j : Int) < 200 := by omega
        obtain ⟨b, off, rfl, _, _, hc, _⟩ := Ops.cells Hl0.out.1 j h1
        have hcs := cnt_succ l k j h1
        obtain ⟨s, hs⟩ : ∃ s, l[j].data = s := ⟨_, rfl⟩
        rw [hs] at hc
        have hfs : fits l[j] = decide (s.size ≤ 512) := by rw [fits, hs]
        rw [hfs] at hcs
        have Hcs := Lib.hid hcs
        clear hcs hs hfs hcl
        by_cases hf : (s.size : Int) ≤ 512
        · by_cases hjk : (j : Int) < (k : Int)
          · go_wp2_with fail
            exact ⟨⟨j + 1, by omega, by omega, by go_num, by rw [Hcs.out, if_pos ⟨by simp; omega, by omega⟩]; go_num⟩, by simp [intOf]; omega⟩
          · go_wp2_with fail
            exact ⟨⟨j + 1, by omega, by omega, by go_num, by rw [Hcs.out, if_neg (by omega)]⟩, by simp [intOf]; omega⟩
        · go_wp2_with fail
          exact ⟨⟨j + 1, by omega, by omega, by go_num, by rw [Hcs.out, if_neg (by simp; omega)]⟩, by simp [intOf]; omega⟩
      · have he : j = min l.length 200 := by omega
        have He := Lib.hid he
        clear he
        rcases (by omega : (l.length : Int) ≤ (j : Int) ∨ (j : Int) < (l.length : Int) ∧ 200 ≤ (j : Int)) with h1 | ⟨h1, h2⟩
        · go_wp2_with fail
          go_meet
          exact ⟨by rw [← He.out], rfl⟩
        · go_wp2_with fail
          go_meet
          exact ⟨by rw [← He.out], rfl⟩
  case rest =>
    obtain ⟨rfl, rfl⟩ := hcut
    have hcl := cnt_le l k (min l.length 200)
    obtain ⟨n, hn⟩ : ∃ n, cnt l k (min l.length 200) = n := ⟨_, rfl⟩
    rw [hn] at hcl ⊢
    have hn2 : (n : Int) ≤ 200 := by omega
    have hmk := made_bools n (by omega) w0
    have Hn := Lib.hid hn
    clear hn hcl
    go_wp2_with fail
    have hT0 : TrueR w0 w0.heap.size n 0 (w0.alloc (.cells (boolsV (List.replicate n false)).toArray 4)) := ⟨(Upd.refl _ _).alloc _, List.replicate n false, by simp, (fun t ht => by omega), heap_alloc_new w0 _⟩
    clear hmk
    go_loopw [8] (fun v wq => ∃ j : Nat, j ≤ n ∧ v = .int .i64 j ∧ TrueR w0 w0.heap.size n j wq) (fun v _ => n - (intOf v).toNat)
    case atStart => exact ⟨0, Nat.zero_le _, rfl, hT0⟩
    case round =>
      clear hT0
      obtain ⟨j, hj, rfl, hQ⟩ := hrel
      obtain ⟨bs, hbl, hbs, hbh⟩ := hQ.2
      by_cases hj2 : j < n
      · have hj3 : (j : Int) < (n : Int) := by omega
        have hcj : wr.cell? ⟨w0.heap.size, j, none⟩ = some (.bool (bs.getD j false)) := by rw [cell_of_row _ _ _ _ _ _ hbh]; simp [boolsV, hbl, hj2]
        have hfj := unfrozen hbh j
        have Hst := Lib.hid (hQ.step hj2)
        clear hQ hbs hbh hbl
        go_wp2_with fail
        exact ⟨⟨j + 1, by omega, by go_num, Hst.out⟩, by simp [intOf]; omega⟩
      · obtain rfl : j = n := by omega
        have hbe : bs = List.replicate j true := by
          apply List.ext_getElem?
          intro t
          by_cases ht : t < j
          · rw [hbs t ht, List.getElem?_replicate, if_pos ht]
          · rw [List.getElem?_eq_none (by omega), List.getElem?_eq_none (by simp; omega)]
        subst hbe
        have hU1 : Upd (fun _ => False) w wr := hu0.then hQ.1 (fun i hi => .inr (by rw [hi]; exact hu0.size))
        have hnb : w0.heap.size < wr.heap.size := lt_of_block hbh
        have Hke : Hid (Sees wr 1 (.slice (some ⟨w0.heap.size, 0, none⟩) (List.replicate j true).length j) (List.replicate j true).length (boolsV (List.replicate j true))) :=
          Sees.at (by simp [boolsV]) (by simp [maxLen]; omega) (rangeAt_of_row hbh (by simp))
        have Hl1 := Lib.hid (Ops.upd Hl.out hU1)
        have HU1 := Lib.hid hU1
        clear hQ hbs hbh hbl hU1
        have hlr : (List.replicate j true).length = j := by simp
        go_wp2_with fail
        refine (written_ok xa xc l 200 (Nat.le_refl _) wr Hl1.out.1 Hl1.out.2).mono ?_
        rintro e w1 ⟨b1, rfl, F1, hD1, u1, hF1⟩
        dsimp only
        have Hl2 := Lib.hid (Ops.upd Hl1.out u1)
        have H1 := Lib.hid hD1
        have HU2 := Lib.hid (HU1.out.trans u1)
        have Hke2 := Lib.hid (Hke.out.upd u1 (fun _ _ _ h => h))
        have HF1 := Lib.hid hF1
        clear hD1 u1 hF1
        obtain ⟨m, hm⟩ : ∃ m : Nat, m = min k 200 := ⟨_, rfl⟩
        have hmc : Hid (Calls Try.prog 27 #[.slice xa l.length xc, .int .i64 m] w1 fun e w' => ∃ b, e = .returned (.pointer (some ⟨b, 0, none⟩)) ∧ WrittenR w1 b (l.take m) w') :=
          written_ok xa xc l m (by omega) w1 Hl2.out.1 Hl2.out.2
        have Hm := Lib.hid hm
        -- the end, once
        have Hend : Hid (∀ (w2 : World) (b2 : Nat), WrittenR w1 b2 (l.take m) w2 → ∃ F1 F2, DiskAt w2 b1 (writtenD (l.take 200)) F1 ∧ DiskAt w2 b2 (writtenD (l.take m)) F2 ∧ (∀ q, F1 q → ¬ F2 q) ∧ Upd (fun _ => False) w w2 ∧ (∀ q, F1 q → w.heap.size ≤ q) ∧ (∀ q, F2 q → w.heap.size ≤ q) ∧
            Sees w2 1 (.slice (some ⟨w0.heap.size, 0, none⟩) (List.replicate j true).length j) (List.replicate j true).length (boolsV (List.replicate j true)) ∧ ¬ F1 w0.heap.size) := by
          rintro w2 b2 ⟨F2, hD2, u2, hF2⟩
          exact ⟨F1, F2, H1.out.upd u2 (fun _ _ h => h), hD2, fun q h1 h2 => (by have := H1.out.lt q h1; have := hF2 q h2; omega), HU2.out.trans u2, fun q h => Nat.le_trans HU1.out.size (HF1.out q h), fun q h => Nat.le_trans HU2.out.size (hF2 q h), Hke2.out.upd u2 (fun _ _ _ h => h), fun h => (by have := HF1.out _ h; omega)⟩
        clear hm
        have Hfin : Hid (∀ (w5 : World) (b2 : Nat) (F1 F2 : Nat → Prop), DiskAt w5 b1 ((writtenD (l.take 200)).crash (List.replicate j true)) F1 → DiskAt w5 b2 { writtenD (l.take m) with secs := done (writtenD (l.take m)).secs (writtenD (l.take m)).waits, waits := [], fuel := burnt (writtenD (l.take m)).fuel } F2 → Upd (fun _ => False) w w5 →
            Calls Try.prog 28 #[.pointer (some ⟨b1, 0, none⟩), .pointer (some ⟨b2, 0, none⟩)] w5 fun e w' => e = .returned (.bool true) ∧ Below w.heap.size w w') := by
          intro w5 b2 F1 F2 h1 h2 hU
          obtain ⟨f1, f2, f3, f4, _⟩ := writtenD_facts (l.take 200)
          obtain ⟨g1, g2, g3, g4, _⟩ := writtenD_facts (l.take m)
          have hps : kept (writtenD (l.take 200)).waits (List.replicate j true) = (writtenD (l.take m)).waits := by
            rw [kept_all, ← Hn.out, Hm.out]; exact prefix_waits l k
          have hse : done (writtenD (l.take 200)).secs (kept (writtenD (l.take 200)).waits (List.replicate j true)) = done (writtenD (l.take m)).secs (writtenD (l.take m)).waits := by rw [hps, f3, g3]
          have hs4 : (done (writtenD (l.take m)).secs (writtenD (l.take m)).waits).length = 4 := by rw [done_length, g3]; rfl
          have hc1 : ((writtenD (l.take 200)).crash (List.replicate j true)).secs = done (writtenD (l.take m)).secs (writtenD (l.take m)).waits := hse
          refine (full_true b1 b2 _ _ F1 F2 w5 h1 h2 rfl g1 (by rw [hc1]) (by show 0 < _; decide) (by show 0 < _; decide) (fun i hi => ?_)).mono ?_
          · rw [hc1, hs4] at hi
            refine ⟨?_, ?_⟩
            · rw [DSt.read_eq rfl (by omega) (by rw [hc1, hs4]; omega), hc1]
              refine Eq.trans ?_ (DSt.read_eq (D := { writtenD (l.take m) with secs := done (writtenD (l.take m)).secs (writtenD (l.take m)).waits, waits := [], fuel := burnt (writtenD (l.take m)).fuel }) g1 (by omega) (by rw [hs4]; omega)).symm
              rfl
            · rw [DSt.durable, DSt.durable, hc1]
          · rintro e w6 ⟨rfl, u6⟩
            exact ⟨rfl, (hU.trans u6).below0⟩
        by_cases hk200 : (k : Int) ≤ 200
        · have hmk : m = k := by have := Hm.out; omega
          have hmc2 := hmc
          rw [show ((m : Nat) : Int) = (k : Int) by rw [hmk]] at hmc2
          go_wp2_with fail
          refine hmc2.out.mono ?_
          rintro e w2 ⟨b2, rfl, hR⟩
          obtain ⟨F1, F2, hD1, hD2, hFF, hU, hF1, hF2, hke, hnF⟩ := Hend.out w2 b2 hR
          have hFF' : ∀ k, F2 k → ¬ F1 k := fun k h2 h1 => hFF k h1 h2
          clear hR
          have hw200 : (writtenD (l.take 200)).waits.length < 100000000000 := Nat.lt_of_le_of_lt (Nat.le_trans (writtenD_facts (l.take 200)).2.2.2.1 (by simp; omega : _ ≤ 200)) (by decide)
          have hwm : (writtenD (l.take m)).waits.length < 100000000000 := Nat.lt_of_le_of_lt (Nat.le_trans (writtenD_facts (l.take m)).2.2.2.1 (by simp; omega : _ ≤ 255)) (by decide)
          have hfe : (writtenD (l.take m)).flush = _ := DSt.flush_eq (writtenD_facts (l.take m)).1 (by rw [(writtenD_facts (l.take m)).2.1]; decide)
          have hC := crash_disk hD1 hw200 (some ⟨w0.heap.size, 0, none⟩) j (List.replicate j true) hke (fun x hx _ => by cases hx; exact hnF)
          rw [hlr] at hC
          have HC := Lib.hid hC
          have H2 := Lib.hid hD2
          have Hq := Lib.hid (And.intro hwm hfe)
          have HU := Lib.hid hU
          clear hC hD1 hD2 hke hnF hw200 hwm hfe hU
          dsimp only
          go_wp2_with fail
          refine HC.out.mono ?_
          rintro e w3 ⟨rfl, h1, u3⟩
          have H1 := Lib.hid h1
          have H2 := Lib.hid (H2.out.upd u3 hFF')
          have HU := Lib.hid (HU.out.then u3 (fun i hi => .inr (hF1 i hi)))
          clear h1 u3
          dsimp only
          go_wp2_with fail
          refine (flush_disk H2.out Hq.out.1 Hq.out.2).mono ?_
          rintro e w4 ⟨rfl, h2, u4⟩
          have H1 := Lib.hid (H1.out.upd u4 hFF)
          have H2 := Lib.hid h2
          have HU := Lib.hid (HU.out.then u4 (fun i hi => .inr (hF2 i hi)))
          clear h2 u4
          dsimp only
          go_wp2_with fail
          refine (Hfin.out w4 b2 F1 F2 H1.out H2.out HU.out).mono ?_
          rintro e w5 ⟨rfl, hB⟩
          dsimp only
          go_wp2_with fail
          go_ret
          exact ⟨rfl, hB⟩
        · have hmk : m = 200 := by have := Hm.out; omega
          have hmc2 := hmc
          rw [show ((m : Nat) : Int) = 200 by rw [hmk]; rfl] at hmc2
          have hk3 : 200 < (k : Int) := by omega
          go_wp2_with fail
          refine hmc2.out.mono ?_
          rintro e w2 ⟨b2, rfl, hR⟩
          obtain ⟨F1, F2, hD1, hD2, hFF, hU, hF1, hF2, hke, hnF⟩ := Hend.out w2 b2 hR
          have hFF' : ∀ k, F2 k → ¬ F1 k := fun k h2 h1 => hFF k h1 h2
          clear hR
          have hw200 : (writtenD (l.take 200)).waits.length < 100000000000 := Nat.lt_of_le_of_lt (Nat.le_trans (writtenD_facts (l.take 200)).2.2.2.1 (by simp; omega : _ ≤ 200)) (by decide)
          have hwm : (writtenD (l.take m)).waits.length < 100000000000 := Nat.lt_of_le_of_lt (Nat.le_trans (writtenD_facts (l.take m)).2.2.2.1 (by simp; omega : _ ≤ 255)) (by decide)
          have hfe : (writtenD (l.take m)).flush = _ := DSt.flush_eq (writtenD_facts (l.take m)).1 (by rw [(writtenD_facts (l.take m)).2.1]; decide)
          have hC := crash_disk hD1 hw200 (some ⟨w0.heap.size, 0, none⟩) j (List.replicate j true) hke (fun x hx _ => by cases hx; exact hnF)
          rw [hlr] at hC
          have HC := Lib.hid hC
          have H2 := Lib.hid hD2
          have Hq := Lib.hid (And.intro hwm hfe)
          have HU := Lib.hid hU
          clear hC hD1 hD2 hke hnF hw200 hwm hfe hU
          dsimp only
          go_wp2_with fail
          refine HC.out.mono ?_
          rintro e w3 ⟨rfl, h1, u3⟩
          have H1 := Lib.hid h1
          have H2 := Lib.hid (H2.out.upd u3 hFF')
          have HU := Lib.hid (HU.out.then u3 (fun i hi => .inr (hF1 i hi)))
          clear h1 u3
          dsimp only
          go_wp2_with fail
          refine (flush_disk H2.out Hq.out.1 Hq.out.2).mono ?_
          rintro e w4 ⟨rfl, h2, u4⟩
          have H1 := Lib.hid (H1.out.upd u4 hFF)
          have H2 := Lib.hid h2
          have HU := Lib.hid (HU.out.then u4 (fun i hi => .inr (hF2 i hi)))
          clear h2 u4
          dsimp only
          go_wp2_with fail
          refine (Hfin.out w4 b2 F1 F2 H1.out H2.out HU.out).mono ?_
          rintro e w5 ⟨rfl, hB⟩
          dsimp only
          go_wp2_with fail
          go_ret
          exact ⟨rfl, hB⟩
end Go.Proofs.Ytlcbgcbocikkkaa
