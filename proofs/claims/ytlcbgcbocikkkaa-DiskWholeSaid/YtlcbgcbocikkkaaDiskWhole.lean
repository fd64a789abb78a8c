/- The walk of DiskWhole. -/
import Derived.Test.YtlcbgcbocikkkaaDiskFuel
import Derived.Deep.DeepCutAuto
import Derived.Deep.CutBlock
namespace Go.Proofs.Ytlcbgcbocikkkaa
open Go.RowKit
set_option linter.unusedSimpArgs false
set_option maxRecDepth 100000

def rep (v : Nat) : Bytes := List.replicate 512 (UInt8.ofNat v)
theorem rep_length (v : Nat) : (rep v).length = 512 := List.length_replicate
theorem rep_pad (v : Nat) : pad (rep v) = rep v := by rw [pad, rep_length]; simp
def secOf (ws : Bytes) (i : Nat) : Nat := (ws.getD i 0).toNat % 2
def wl (ws : Bytes) (a n : Nat) : List (Nat × Bytes) := (List.range' a n).map fun i => (secOf ws i, rep (i + 1))
/-- The disk behind the first k writes, flushed behind number f. -/
def wholeD (ws : Bytes) (f k : Nat) : DSt :=
  if k ≤ f then ⟨List.replicate 2 (rep 0), wl ws 0 k, -1, false⟩
  else ⟨done (List.replicate 2 (rep 0)) (wl ws 0 (f + 1)), wl ws (f + 1) (k - (f + 1)), -1, false⟩

theorem madeB (u : World) : (Instr.makeSlice 22 (.int .i64 512) (.int .i64 512)).run Try.prog u = .ok (.slice (some ⟨u.heap.size, 0, none⟩) 512 512) (u.alloc (.cells (bvs (rep 0)).toArray 5)) := by
  obtain ⟨i, hi, hz0, hz1, hz2⟩ := info_parts infoB
  have h := run_make (P := Try.prog) u 22 5 i _ Try.underlying22 hi hz0 .i64 .i64 512 512 (by decide) (by decide) (by rw [hz2]; decide) (by decide)
  rw [hz1] at h
  refine h.trans ?_
  have e : madeCells (Value.int .u8 0).cells ((512 : Int).toNat * 1) = (bvs (rep 0)).toArray := by kernel_rfl
  rw [e]
  rfl

/-- The slice that is being filled. -/
def FillR (W0 : World) (nb v j : Nat) (wr : World) : Prop :=
  Upd (fun k => k = nb) W0 wr ∧ ∃ bs : Bytes, bs.length = 512 ∧ (∀ t, t < j → bs[t]? = some (UInt8.ofNat v)) ∧ wr.heap[nb]? = some (.cells (bvs bs).toArray 5 (0, 0))

theorem bv_ofNat {v : Nat} (h : v ≤ 255) : bv (UInt8.ofNat v) = .int .u8 v := by
  simp [bv]; omega
theorem FillR.drew {W0 : World} {nb v j : Nat} {wr : World} (h : FillR W0 nb v j wr) : FillR W0 nb v j wr.drew := ⟨h.1.drew, h.2⟩
theorem FillR.step {W0 : World} {nb v j : Nat} {wr : World} (h : FillR W0 nb v j wr) (hj : j < 512) (hv : v ≤ 255) : FillR W0 nb v (j + 1) (wr.setCell ⟨nb, j, none⟩ (.int .u8 v)) := by
  obtain ⟨hu, bs, hl, hb, hh⟩ := h
  refine ⟨hu.setCell _ (.inl rfl), bs.set j (UInt8.ofNat v), by simp [hl], fun t ht => ?_, ?_⟩
  · by_cases e : t = j
    · subst e; simp [hl, hj]
    · rw [List.getElem?_set_ne (fun h => e h.symm)]; exact hb t (by omega)
  · rw [stored hh, ← bv_ofNat hv]
    simp [bvs]
theorem bit_and_one : ∀ n : Fin 256, bits BinOp.and IntKind.u8 ((n.val : Nat) : Int) 1 = ((n.val % 2 : Nat) : Int) := by decide +kernel
theorem and_one (b : UInt8) : bits BinOp.and IntKind.u8 ((b.toNat : Nat) : Int) 1 = ((b.toNat % 2 : Nat) : Int) := bit_and_one ⟨b.toNat, b.toNat_lt⟩

theorem wl_snoc (ws : Bytes) (a n : Nat) : wl ws a (n + 1) = wl ws a n ++ [(secOf ws (a + n), rep (a + n + 1))] := by
  simp [wl, List.range'_concat]
theorem wl_nil (ws : Bytes) (a : Nat) : wl ws a 0 = [] := rfl
theorem wholeD_facts (ws : Bytes) (f k : Nat) : (wholeD ws f k).dead = false ∧ (wholeD ws f k).fuel = -1 ∧ (wholeD ws f k).secs.length = 2 ∧ (wholeD ws f k).waits.length ≤ k := by
  rw [wholeD]
  split
  · exact ⟨rfl, rfl, rfl, by simp [wl]⟩
  · refine ⟨rfl, rfl, ?_, by simp [wl]⟩
    rw [done_length]; rfl
theorem secOf_lt (ws : Bytes) (i : Nat) : secOf ws i < 2 := Nat.mod_lt _ (by decide)
theorem wholeD_write (ws : Bytes) (f k : Nat) (hk : k ≠ f) : (wholeD ws f k).write (secOf ws k) (rep (k + 1)) = (wholeD ws f (k + 1), 0) := by
  obtain ⟨h1, h2, h3, h4⟩ := wholeD_facts ws f k
  have := secOf_lt ws k
  rw [DSt.write_eq h1 (by omega) (by omega) (by rw [rep_length]; decide) (by omega), rep_pad, h2]
  by_cases h : k < f
  · simp only [wholeD]
    rw [if_pos (show k ≤ f by omega), if_pos (show k + 1 ≤ f by omega), wl_snoc]
    simp [burnt]
  · simp only [wholeD]
    have e : wl ws (f + 1) (k - (f + 1) + 1) = wl ws (f + 1) (k - (f + 1)) ++ [(secOf ws k, rep (k + 1))] := by rw [wl_snoc, show f + 1 + (k - (f + 1)) = k by omega]
    rw [if_neg (show ¬ k ≤ f by omega), if_neg (show ¬ k + 1 ≤ f by omega), show k + 1 - (f + 1) = (k - (f + 1)) + 1 by omega, e]
    simp [burnt]
theorem wholeD_write_at (ws : Bytes) (f k : Nat) (hk : k = f) : ∃ X : DSt, (wholeD ws f k).write (secOf ws k) (rep (k + 1)) = (X, 0) ∧ X.flush = (wholeD ws f (k + 1), 0) ∧ X.waits.length ≤ k + 1 := by
  subst hk
  obtain ⟨h1, h2, h3, h4⟩ := wholeD_facts ws k k
  have := secOf_lt ws k
  refine ⟨_, DSt.write_eq h1 (by omega) (by omega) (by rw [rep_length]; decide) (by omega), ?_, by simp; omega⟩
  refine (DSt.flush_eq (D := ⟨(wholeD ws k k).secs, (wholeD ws k k).waits ++ [((secOf ws k : Int).toNat, pad (rep (k + 1)))], burnt (wholeD ws k k).fuel, (wholeD ws k k).dead⟩) h1 (by show burnt (wholeD ws k k).fuel ≠ 0; rw [h2]; decide)).trans ?_
  simp only [wholeD]
  rw [if_pos (Nat.le_refl _), if_neg (show ¬ k + 1 ≤ k by omega), Nat.sub_self, wl_nil, rep_pad, wl_snoc]
  simp [burnt]

/-- The last of the first n writes that went to sector s (and one): Go's 'least'. -/
def lst (ws : Bytes) (s n : Nat) : Nat := (List.range n).foldl (fun l i => if secOf ws i = s then i + 1 else l) 0
theorem lst_succ (ws : Bytes) (s n : Nat) : lst ws s (n + 1) = if secOf ws n = s then n + 1 else lst ws s n := by simp [lst, List.range_succ]
theorem lst_le (ws : Bytes) (s n : Nat) : lst ws s n ≤ n := by
  induction n with
  | zero => simp [lst]
  | succ n ih => rw [lst_succ]; split <;> omega
theorem done_pred {Q : Nat → Bytes → Prop} : ∀ (W : List (Nat × Bytes)) (S : List Bytes), (∀ (i : Nat) x, S[i]? = some x → Q i x) → (∀ p ∈ W, Q p.1 p.2) → ∀ (i : Nat) x, (done S W)[i]? = some x → Q i x
  | [], _, h, _ => h
  | p :: r, S, h, hW => by
    rw [done, List.foldl_cons]
    refine done_pred r _ (fun i x hx => ?_) (fun q hq => hW q (List.mem_cons_of_mem _ hq))
    rw [List.getElem?_set] at hx
    split at hx
    · split at hx
      · rename_i e _; cases hx; subst e; exact hW p (List.mem_cons_self ..)
      · cases hx
    · exact h i x hx
theorem done_lst (ws : Bytes) (n : Nat) : ∀ s, s < 2 → (done (List.replicate 2 (rep 0)) (wl ws 0 n))[s]? = some (rep (lst ws s n)) ∧ (lst ws s n = 0 ∨ secOf ws (lst ws s n - 1) = s) := by
  induction n with
  | zero => intro s hs; exact ⟨by show (List.replicate 2 (rep 0))[s]? = _; rw [List.getElem?_replicate, if_pos hs]; rfl, .inl rfl⟩
  | succ n ih =>
    intro s hs
    obtain ⟨h1, h2⟩ := ih s hs
    rw [wl_snoc, done_append, Nat.zero_add, lst_succ]
    simp only [done, List.foldl_cons, List.foldl_nil]
    rw [List.getElem?_set]
    have hl : (List.foldl (fun s p => s.set p.1 p.2) (List.replicate 2 (rep 0)) (wl ws 0 n)).length = 2 := done_length (wl ws 0 n) _
    by_cases e : secOf ws n = s
    · rw [if_pos e, if_pos e, if_pos (by rw [hl]; omega)]
      exact ⟨rfl, .inr (by simpa using e)⟩
    · rw [if_neg e, if_neg e]
      exact ⟨h1, h2⟩
theorem wl_mem {ws : Bytes} {a n : Nat} {p : Nat × Bytes} (h : p ∈ wl ws a n) : ∃ i, a ≤ i ∧ i < a + n ∧ p = (secOf ws i, rep (i + 1)) := by
  simp only [wl, List.mem_map, List.mem_range'_1] at h
  obtain ⟨i, ⟨h1, h2⟩, rfl⟩ := h
  exact ⟨i, h1, h2, rfl⟩
/-- What is found behind the crash. -/
theorem whole_found (ws : Bytes) (f K : Nat) (keep : List Bool) (s : Nat) (hs : s < 2) : ∃ v, ((wholeD ws f K).crash keep).secs.getD s [] = rep v ∧ v ≤ K ∧ (v = 0 ∨ secOf ws (v - 1) = s) ∧ (if f < K then lst ws s (f + 1) else 0) ≤ v := by
  have hl : ((wholeD ws f K).crash keep).secs.length = 2 := by show (done _ _).length = 2; rw [done_length]; exact (wholeD_facts ws f K).2.2.1
  have hg : ((wholeD ws f K).crash keep).secs[s]? = some (((wholeD ws f K).crash keep).secs.getD s []) := by simp [List.getD, hl, hs]
  have hQ := @done_pred (fun i x => i < 2 → ∃ v, x = rep v ∧ v ≤ K ∧ (v = 0 ∨ secOf ws (v - 1) = i) ∧ (if f < K then lst ws i (f + 1) else 0) ≤ v) (kept (wholeD ws f K).waits keep) (wholeD ws f K).secs ?_ ?_ s _ hg hs
  · exact hQ
  · intro i x hx hi
    rw [wholeD] at hx
    split at hx
    · rename_i h
      rw [List.getElem?_replicate, if_pos hi] at hx
      cases hx
      exact ⟨0, rfl, Nat.zero_le _, .inl rfl, by rw [if_neg (by omega)]; exact Nat.le_refl _⟩
    · rename_i h
      obtain ⟨h1, h2⟩ := done_lst ws (f + 1) i hi
      rw [h1] at hx
      cases hx
      have := lst_le ws i (f + 1)
      exact ⟨_, rfl, by omega, h2, by rw [if_pos (by omega)]; exact Nat.le_refl _⟩
  · intro p hp hi
    have hp := kept_mem p hp
    rw [wholeD] at hp
    split at hp
    · rename_i h
      obtain ⟨i, h1, h2, rfl⟩ := wl_mem hp
      exact ⟨i + 1, rfl, by omega, .inr rfl, by rw [if_neg (by omega)]; exact Nat.zero_le _⟩
    · rename_i h
      obtain ⟨i, h1, h2, rfl⟩ := wl_mem hp
      have := lst_le ws (secOf ws i) (f + 1)
      refine ⟨i + 1, rfl, by omega, .inr rfl, ?_⟩
      rw [if_pos (by omega)]
      show lst ws (secOf ws i) (f + 1) ≤ i + 1
      omega
def WholeR (w0 : World) (b : Nat) (ws : Bytes) (f k : Nat) (wr : World) : Prop :=
  ∃ F, DiskAt wr b (wholeD ws f k) F ∧ Upd (fun _ => False) w0 wr ∧ (∀ j, F j → w0.heap.size ≤ j)
set_option maxHeartbeats 4000000 in
theorem diskWhole_walk (xa : Option Addr) (xc : Nat) (ws : Bytes) (f : Nat) (hf : f ≤ 255) (ka : Option Addr) (kc : Nat) (keep : List Bool) (w : World) (hw : Sees w 1 (.slice xa ws.length xc) ws.length (bvs ws)) (hk : Sees w 1 (.slice ka keep.length kc) keep.length (boolsV keep))
    (hkb : ∀ x, ka = some x → 0 < keep.length → x.block < w.heap.size) :
    Calls Try.prog 3 #[.slice xa ws.length xc, .int .u8 f, .slice ka keep.length kc] w fun e w' => e = .returned (.bool true) ∧ Below w.heap.size w w' := by
  have hf2 : (f : Int) ≤ 255 := by omega
  have hm : (ws.length : Int) ≤ 9223372036854775807 := by have := hw.2.1; unfold maxLen at this; omega
  have Hw := Lib.hid hw
  have Hk := Lib.hid hk
  clear hk hw hf
  go_enter Try.func3, Try.ntmps3
  go_wp2_with fail
  refine (fixed_ok w).mono ?_
  rintro e w0 ⟨rfl, hu0⟩
  dsimp only
  go_wp2_with fail
  refine (new_disk 2 w0).mono ?_
  rintro e w1 ⟨b, F, rfl, hD, hu, hF⟩
  dsimp only
  have hR0 : WholeR w b ws f 0 w1 := ⟨F, by rw [wholeD, if_pos (Nat.zero_le _)]; exact hD, hu0.trans hu, fun j hj => Nat.le_trans hu0.size (hF j hj)⟩
  clear hD hu hF
  go_upto_block 0 with (fail)
  go_cut [8, 9, 10] (fun i x y w' => WholeR w b ws f (min ws.length 200) w')
  case first =>
    go_wp2_with fail
    go_loopw [8] (fun v wr => ∃ k : Nat, k ≤ ws.length ∧ k ≤ 200 ∧ v = .int .i64 k ∧ WholeR w b ws f k wr) (fun v _ => ws.length - (intOf v).toNat)
    case atStart => exact ⟨0, Nat.zero_le _, Nat.zero_le _, rfl, hR0⟩
    case round =>
      clear hR0
      obtain ⟨k, hkl, hk200, rfl, F, hD, hU, hF⟩ := hrel
      have hk2 : (k : Int) ≤ 200 := by omega
      by_cases hlt : k < ws.length ∧ k < 200
      · obtain ⟨hl1, hl2⟩ := hlt
        have hlt1 : (k : Int) < (ws.length : Int) := by omega
        have hlt2 : (k : Int) < 200 := by omega
        have hmk := madeB wr
        go_wp2_with fail
        obtain ⟨wo, rfl⟩ : ∃ wo : World, wo = wr := ⟨_, rfl⟩
        have hX0 : FillR wo wo.heap.size (k + 1) 0 (wo.alloc (.cells (bvs (rep 0)).toArray 5)) :=
          ⟨(Upd.refl _ _).alloc _, rep 0, rep_length 0, (fun t ht => by omega), heap_alloc_new wo _⟩
        go_loopw [10] (fun v wq => ∃ j : Nat, j ≤ 512 ∧ v = .int .i64 j ∧ FillR wo wo.heap.size (k + 1) j wq) (fun v _ => 512 - (intOf v).toNat)
        case atStart => exact ⟨0, Nat.zero_le _, rfl, hX0⟩
        case round =>
          clear hX0 hmk
          obtain ⟨j, hj, rfl, hQ⟩ := hrel
          obtain ⟨bs, hbl, hbs, hbh⟩ := hQ.2
          by_cases hj2 : j < 512
          · have hj3 : (j : Int) < 512 := by omega
            have hcj : wr.cell? ⟨wo.heap.size, j, none⟩ = some (bv (bs.getD j 0)) := by rw [cell_of_row _ _ _ _ _ _ hbh]; simp [bvs, hbl, hj2]
            have hfj := unfrozen hbh j
            have Hst := Lib.hid (hQ.step hj2 (by omega))
            clear hQ hbs hbh hbl
            go_wp2_with fail
            exact ⟨⟨j + 1, by omega, by go_num, Hst.out⟩, by simp [intOf]; omega⟩
          · obtain rfl : j = 512 := by omega
            have hbe : bs = rep (k + 1) := by
              apply List.ext_getElem?
              intro t
              by_cases ht : t < 512
              · rw [hbs t ht, rep, List.getElem?_replicate, if_pos ht]
              · rw [List.getElem?_eq_none (by omega), List.getElem?_eq_none (by rw [rep_length]; omega)]
            subst hbe
            have hU2 : Upd (fun _ => False) w wr := hU.then hQ.1 (fun i hi => .inr (by rw [hi]; exact hU.size))
            have hD2 := hD.upd hQ.1 (fun i hi e => by subst e; exact Nat.lt_irrefl _ (hD.lt _ hi))
            have hFN : ¬ F wo.heap.size := fun h => Nat.lt_irrefl _ (hD.lt _ h)
            obtain ⟨xb, xo, rfl, hc⟩ := Sees.cell Hw.out k hl1 (v := bv (ws.getD k 0)) (by simp [bvs, hl1])
            have hcr := hU2.cell_some hc (fun h => h)
            have hsl := secOf_lt ws k
            have hb1 : bits BinOp.and IntKind.u8 (((ws.getD k 0).toNat : Nat) : Int) 1 = ((secOf ws k : Nat) : Int) := and_one _
            have hsl2 : ((secOf ws k : Nat) : Int) ≤ 1 := by omega
            have hse : Sees wr 1 (.slice (some ⟨wo.heap.size, 0, none⟩) (rep (k + 1)).length 512) (rep (k + 1)).length (bvs (rep (k + 1))) := Sees.at (by simp [bvs_length]) (by rw [rep_length]; decide) (rangeAt_of_row hbh (by simp))
            have hwn := (wholeD_facts ws f k).2.2.2
            have HX := fun D' r hr => Lib.hid (write_disk hD2 (D' := D') (r := r) ((secOf ws k : Nat) : Int) (some ⟨wo.heap.size, 0, none⟩) 512 (rep (k + 1)) hse (fun x hx _ h => by cases hx; exact hFN h) (by omega) hr)
            rw [rep_length] at HX
            have HF := fun (w' : World) (F' : Nat → Prop) (a2 : Upd F wr w') (a3 : ∀ j, F' j → F j ∨ wr.heap.size ≤ j) => (⟨hU2.then a2 (fun i hi => .inr (hF i hi)), fun j hj => (a3 j hj).elim (hF j) (fun h => Nat.le_trans hU2.size h)⟩ : Upd (fun _ => False) w w' ∧ ∀ j, F' j → w.heap.size ≤ j)
            have HF := Lib.hid HF
            clear hQ hD hbs hbl hc hU hse hbh
            rw [bv] at hcr
            generalize ws.getD k 0 = x at hcr hb1
            by_cases hkf : k = f
            · obtain ⟨X, q1, q2, q3⟩ := wholeD_write_at ws f k hkf
              have HX1 := HX _ _ q1
              have Hq := Lib.hid q2
              clear q1 q2 HX hwn
              have hkf1 : ((k : Int) == (f : Int)) = true := by simp; omega
              have Hkf := Lib.hid hkf
              clear hkf
              go_wp2_with fail
              refine HX1.out.mono ?_
              rintro e w3 ⟨rfl, F3, a1, a2, a3⟩
              dsimp only
              have Hu3 := Lib.hid (HF.out w3 F3 a2 a3)
              clear a2 a3 HX1
              go_wp2_with fail
              refine (flush_disk a1 (by omega) Hq.out).mono ?_
              rintro e w4 ⟨rfl, b1, b2⟩
              dsimp only
              have hR : WholeR w b ws f (k + 1) w4 := ⟨F3, b1, Hu3.out.1.then b2 (fun i hi => .inr (Hu3.out.2 i hi)), Hu3.out.2⟩
              have HR := Lib.hid hR
              clear hR b1 b2 a1
              go_wp2_with fail
              exact ⟨⟨k + 1, by omega, by omega, by go_num, HR.out⟩, by simp [intOf]; omega⟩
            · have HX1 := HX _ _ (wholeD_write ws f k hkf)
              have hkf1 : ((k : Int) == (f : Int)) = false := by simp; omega
              have Hkf := Lib.hid hkf
              clear HX hwn hkf
              go_wp2_with fail
              refine HX1.out.mono ?_
              rintro e w3 ⟨rfl, F3, a1, a2, a3⟩
              dsimp only
              obtain ⟨g1, g2⟩ := HF.out w3 F3 a2 a3
              have hR : WholeR w b ws f (k + 1) w3 := ⟨F3, a1, g1, g2⟩
              have HR := Lib.hid hR
              clear hR a1 a2 a3 g1 g2 HX1
              go_wp2_with fail
              exact ⟨⟨k + 1, by omega, by omega, by go_num, HR.out⟩, by simp [intOf]; omega⟩
      · have hK : k = min ws.length 200 := by omega
        have hR : WholeR w b ws f (min ws.length 200) wr := hK ▸ ⟨F, hD, hU, hF⟩
        have HR := Lib.hid hR
        clear hR hD hU hK
        rcases (by omega : (ws.length : Int) ≤ (k : Int) ∨ (k : Int) < (ws.length : Int) ∧ 200 ≤ (k : Int)) with h1 | ⟨h1, h2⟩
        · go_wp2_with fail
          go_meet
          exact HR.out
        · go_wp2_with fail
          go_meet
          exact HR.out
  case rest =>
    clear hR0
    obtain ⟨F, hD, hU, hF⟩ := hcut
    have hF1 := wholeD_facts ws f (min ws.length 200)
    have hcrash := crash_disk hD (by omega) ka kc keep (Sees.upd hU Hk.out (fun _ _ _ h => h)) (fun x hx h0 h => by
      have := hkb x hx h0; have := hF _ h; omega)
    have Hcr := Lib.hid hcrash
    have HU := Lib.hid hU
    clear hcrash hF1 hD hU
    go_wp2_with fail
    refine Hcr.out.mono ?_
    rintro e w2 ⟨rfl, hD2, hu2⟩
    dsimp only
    have hR2 : ∃ F, DiskAt w2 b ((wholeD ws f (min ws.length 200)).crash keep) F ∧ Upd (fun _ => False) w w2 ∧ (∀ j, F j → w.heap.size ≤ j) := ⟨F, hD2, HU.out.then hu2 (fun i hi => .inr (hF i hi)), hF⟩
    clear hD2 hu2 Hcr HU hF
    have HR2 := Lib.hid hR2
    clear hR2
    go_wp2_with fail
    go_loopw [11] (fun v wq => ∃ s : Nat, s ≤ 2 ∧ v = .int .i64 s ∧ ∃ F, DiskAt wq b ((wholeD ws f (min ws.length 200)).crash keep) F ∧ Upd (fun _ => False) w wq ∧ (∀ j, F j → w.heap.size ≤ j)) (fun v _ => 2 - (intOf v).toNat)
    case atStart => exact ⟨0, Nat.zero_le _, rfl, HR2.out⟩
    case round =>
      clear HR2
      obtain ⟨s, hs, rfl, F, hD, hU, hF⟩ := hrel
      have hs2 : (s : Int) ≤ 2 := by omega
      by_cases hlt : s < 2
      · have hlt2 : (s : Int) < 2 := by omega
        obtain ⟨v, hv1, hv2, hv3, hv4⟩ := whole_found ws f (min ws.length 200) keep s hlt
        have hl : ((wholeD ws f (min ws.length 200)).crash keep).secs.length = 2 := by show (done _ _).length = 2; rw [done_length]; exact (wholeD_facts ws f _).2.2.1
        have hrd : ((wholeD ws f (min ws.length 200)).crash keep).read (s : Int) = (rep v, 0) := by
          rw [DSt.read_eq rfl (by omega) (by rw [hl]; omega), show ((s : Int)).toNat = s by omega, hv1]; rfl
        have Hrd := Lib.hid (read_disk hD (by show 0 < _; decide) _ hrd)
        rw [rep_length] at Hrd
        have Hv := Lib.hid (And.intro hv2 (And.intro hv3 hv4))
        have HD := Lib.hid (And.intro hD (And.intro hU hF))
        clear hv1 hv2 hv3 hv4 hl hrd hD hU hF
        go_wp2_with fail
        refine Hrd.out.mono ?_
        rintro e w3 ⟨xa3, xc3, rfl, hrow, hu3, _⟩
        dsimp only
        obtain ⟨g, rfl, _, hgl, hgc⟩ := row_some hrow (by decide)
        have hgv : ∀ j, j < 512 → w3.cell? ⟨g, j, none⟩ = some (bv (UInt8.ofNat v)) := fun j hj => hgc j _ (by simp only [bvs, List.getElem?_map, rep, List.getElem?_replicate]; rw [if_pos hj]; rfl)
        have hv5 : v ≤ 255 := by have := Hv.out.1; omega
        have HG := Lib.hid hgv
        have HD3 : Hid (DiskAt w3 b ((wholeD ws f (min ws.length 200)).crash keep) F ∧ Upd (fun _ => False) w w3 ∧ (∀ j, F j → w.heap.size ≤ j)) := ⟨HD.out.1.upd hu3 (fun _ _ h => h), HD.out.2.1.trans hu3, HD.out.2.2⟩
        have HSw := Lib.hid (Sees.upd HD3.out.2.1 Hw.out (fun _ _ _ h => h))
        clear hrow hu3 hgc hgv HD Hrd
        go_upto_block 6 with (fail)
        go_cut [14, 15] (fun l i w' => l = .int .i64 (if f < min ws.length 200 then lst ws s (f + 1) else 0 : Nat) ∧ w3 = w')
        case first =>
          go_wp2_with fail
          go_loop [14, 15] (fun l i => ∃ j : Nat, j ≤ (if f < min ws.length 200 then f + 1 else 0) ∧ i = .int .i64 j ∧ l = .int .i64 (lst ws s j : Nat)) (fun _ i => 300 - (intOf i).toNat)
          case atStart => exact ⟨0, Nat.zero_le _, rfl, rfl⟩
          case round =>
            obtain ⟨j, hj, rfl, rfl⟩ := hrel
            by_cases hf3 : f < min ws.length 200
            · rw [if_pos hf3] at hj
              have hf4 : (f : Int) < ws.length := by omega
              have hf5 : (f : Int) < 200 := by omega
              by_cases hj2 : j ≤ f
              · have hj3 : (j : Int) ≤ (f : Int) := by omega
                have hj4 : (j : Int) < (ws.length : Int) := by omega
                have hj5 : (j : Int) < 200 := by omega
                obtain ⟨xb, xo, rfl, hc⟩ := Sees.cell HSw.out j (by omega) (v := bv (ws.getD j 0)) (by simp [bvs, show j < ws.length by omega])
                have hsl := secOf_lt ws j
                have hb1 : bits BinOp.and IntKind.u8 (((ws.getD j 0).toNat : Nat) : Int) 1 = ((secOf ws j : Nat) : Int) := and_one _
                have hsl2 : ((secOf ws j : Nat) : Int) ≤ 1 := by omega
                have hls := lst_succ ws s j
                rw [bv] at hc
                generalize ws.getD j 0 = x at hc hb1
                by_cases he : secOf ws j = s
                · rw [if_pos he] at hls
                  have he2 : (((secOf ws j : Nat) : Int) == (s : Int)) = true := by simp; omega
                  have Hls := Lib.hid hls
                  clear hls he hf3
                  go_wp2_with fail
                  all_goals exact ⟨⟨j + 1, by rw [if_pos (by omega)]; omega, by go_num, by rw [Hls.out]; go_num⟩, by simp [intOf]; omega⟩
                · rw [if_neg he] at hls
                  have he2 : (((secOf ws j : Nat) : Int) == (s : Int)) = false := by simp; omega
                  have Hls := Lib.hid hls
                  clear hls he hf3
                  go_wp2_with fail
                  all_goals exact ⟨⟨j + 1, by rw [if_pos (by omega)]; omega, by go_num, by rw [Hls.out]⟩, by simp [intOf]; omega⟩
              · obtain rfl : j = f + 1 := by omega
                have hcast : ((f + 1 : Nat) : Int) = (f : Int) + 1 := by omega
                rw [hcast]
                clear hcast
                by_cases g1 : (f : Int) + 1 < ws.length
                · by_cases g2 : (f : Int) + 1 < 200
                  · go_wp2_with fail
                    all_goals (go_meet; exact ⟨by rw [if_pos (by omega)], rfl⟩)
                  · go_wp2_with fail
                    all_goals (go_meet; exact ⟨by rw [if_pos (by omega)], rfl⟩)
                · go_wp2_with fail
                  all_goals (go_meet; exact ⟨by rw [if_pos (by omega)], rfl⟩)
            · rw [if_neg hf3] at hj
              obtain rfl : j = 0 := by omega
              have hcast : ((0 : Nat) : Int) = 0 := rfl
              rw [hcast]
              clear hcast
              by_cases g1 : (0 : Int) < ws.length
              · by_cases g2 : (ws.length : Int) < 200
                · have g3 : (ws.length : Int) ≤ (f : Int) := by omega
                  go_wp2_with fail
                  all_goals (go_meet; exact ⟨by rw [if_neg (by omega)]; rfl, rfl⟩)
                · have g3 : (200 : Int) ≤ (f : Int) := by omega
                  go_wp2_with fail
                  all_goals (go_meet; exact ⟨by rw [if_neg (by omega)]; rfl, rfl⟩)
              · go_wp2_with fail
                all_goals (go_meet; exact ⟨by rw [if_neg (by omega)]; rfl, rfl⟩)
        case rest =>
          obtain ⟨rfl, rfl⟩ := hcut
          have hv0 := bv_ofNat hv5
          have hgv : ∀ j, j < 512 → w3.cell? ⟨g, j, none⟩ = some (.int .u8 v) := fun j hj => by rw [HG.out j hj, hv0]
          have HG := Lib.hid hgv
          have hle : (((if f < min ws.length 200 then lst ws s (f + 1) else 0 : Nat) : Nat) : Int) ≤ (v : Int) := by have := Hv.out.2.2; omega
          have hvl : (v : Int) ≤ (ws.length : Int) := by have := Hv.out.1; omega
          generalize (if f < min ws.length 200 then lst ws s (f + 1) else 0 : Nat) = least at *
          have hv6 : (v : Int) ≤ 255 := by omega
          clear hgv hv0
          go_wp2_with fail
          go_loopw [16] (fun x wq => ∃ j : Nat, 1 ≤ j ∧ j ≤ 512 ∧ x = .int .i64 j ∧ Upd (fun _ => False) w3 wq) (fun x _ => 512 - (intOf x).toNat)
          case atStart => exact ⟨1, Nat.le_refl _, by decide, rfl, Upd.refl _ _⟩
          case round =>
            obtain ⟨j, hj1, hj2, rfl, hq⟩ := hrel
            have hj3 : (j : Int) ≤ 512 := by omega
            have hc0 := hq.cell_some (HG.out 0 (by decide)) (fun h => h)
            by_cases hj4 : j < 512
            · have hj5 : (j : Int) < 512 := by omega
              have hcj := hq.cell_some (HG.out j hj4) (fun h => h)
              go_wp2_with fail
              have HS : wr.drew.cell? ⟨g, 0, none⟩ = some (.int .u8 v) ∧ wr.drew.cell? ⟨g, j, none⟩ = some (.int .u8 v) := ⟨hc0, hcj⟩
              refine wp_region_plan (fun w' => w'.cell? ⟨g, 0, none⟩ = some (.int .u8 v) ∧ w'.cell? ⟨g, j, none⟩ = some (.int .u8 v)) 8 [(0, true), (1, true), (2, true), (3, true), (4, true), (5, true), (6, true), (7, true)] (by kernel_rfl) (by kernel_rfl) (fun d _ _ _ _ h => by cases d <;> exact h) HS ?_
              iterate 8 (apply plan_held rfl rfl rfl (by simp) HS; (intro w' hS K hK; go_simp; exact hK))
              refine plan_nil ?_
              go_wp2_with fail
              exact ⟨⟨j + 1, by omega, by omega, by go_num, hq.drew⟩, by simp [intOf]; omega⟩
            · obtain rfl : j = 512 := by omega
              have HEnd : Hid (DiskAt wr b ((wholeD ws f (min ws.length 200)).crash keep) F ∧ Upd (fun _ => False) w wr ∧ (∀ j, F j → w.heap.size ≤ j)) := ⟨HD3.out.1.upd hq (fun _ _ h => h), HD3.out.2.1.trans hq, HD3.out.2.2⟩
              by_cases hvz : v = 0
              · subst hvz
                have hcast : ((0 : Nat) : Int) = 0 := rfl
                rw [hcast] at hc0 hle hvl
                clear hcast
                go_wp2_with fail
                all_goals exact ⟨⟨s + 1, by omega, by go_num, F, HEnd.out⟩, by simp [intOf]; omega⟩
              · obtain ⟨u, rfl⟩ : ∃ u, v = u + 1 := ⟨v - 1, by omega⟩
                obtain ⟨xb, xo, rfl, hc⟩ := Sees.cell HSw.out u (by omega) (v := bv (ws.getD u 0)) (by simp [bvs, show u < ws.length by omega])
                have hcu := hq.cell_some hc (fun h => h)
                have hse : secOf ws u = s := by rcases Hv.out.2.1 with h | h; exact absurd h (by omega); exact h
                have hb1 : bits BinOp.and IntKind.u8 (((ws.getD u 0).toNat : Nat) : Int) 1 = (s : Int) := by rw [← hse]; exact and_one _
                have hcast : ((u + 1 : Nat) : Int) = (u : Int) + 1 := by omega
                rw [hcast] at hc0 hle hvl
                have hu9 : (u : Int) ≤ 254 := by omega
                have hu8 : (u : Int) < (ws.length : Int) := by omega
                clear hcast hc hse
                rw [bv] at hcu
                generalize ws.getD u 0 = x at hcu hb1
                go_wp2_with fail
                all_goals exact ⟨⟨s + 1, by omega, by go_num, F, HEnd.out⟩, by simp [intOf]; omega⟩
      · obtain rfl : s = 2 := by omega
        have HU := Lib.hid hU
        have Hp := Lib.hid (pending_disk hD)
        have Hd := Lib.hid (dead_disk hD)
        clear hU hD hF
        go_wp2_with fail
        refine Hp.out.mono ?_
        rintro e w4 ⟨rfl, rfl⟩
        dsimp only
        have e0 : (((wholeD ws f (min ws.length 200)).crash keep).waits.length : Int) = 0 := rfl
        rw [e0]
        go_wp2_with fail
        refine Hd.out.mono ?_
        rintro e w4 ⟨rfl, rfl⟩
        dsimp only
        have e1 : ((wholeD ws f (min ws.length 200)).crash keep).dead = false := rfl
        rw [e1]
        go_wp2_with fail
        go_ret
        exact ⟨rfl, HU.out.below0⟩
end Go.Proofs.Ytlcbgcbocikkkaa
