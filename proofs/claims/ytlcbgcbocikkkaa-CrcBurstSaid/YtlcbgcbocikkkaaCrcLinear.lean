/- The walk of CrcLinear. -/
import Derived.Test.YtlcbgcbocikkkaaCrcFixed
import Derived.Test.YtlcbgcbocikkkaaOpenB
import Derived.Test.YtlcbgcbocikkkaaRegionC
namespace Go.Proofs.Ytlcbgcbocikkkaa
open Go.RowKit
set_option linter.unusedSimpArgs false
set_option linter.unusedVariables false
set_option maxRecDepth 100000

/-! Plain. -/
def mixB (a b : List UInt8) : List UInt8 := List.zipWith (· ^^^ ·) a b
theorem u8_ofNat_xor (a b : UInt8) : BitVec.ofNat 32 (a ^^^ b).toNat = BitVec.ofNat 32 a.toNat ^^^ BitVec.ofNat 32 b.toNat := by
  rw [UInt8.toNat_xor]
  apply BitVec.eq_of_toNat_eq
  have := a.toNat_lt
  have := b.toNat_lt
  rw [BitVec.toNat_xor, BitVec.toNat_ofNat, BitVec.toNat_ofNat, BitVec.toNat_ofNat, Nat.mod_eq_of_lt (show a.toNat < 2 ^ 32 by omega), Nat.mod_eq_of_lt (show b.toNat < 2 ^ 32 by omega)]
  exact Nat.mod_eq_of_lt (Nat.xor_lt_two_pow (by omega) (by omega))
theorem eat_xor (r s : BitVec 32) (a b : UInt8) : eat (r ^^^ s) (a ^^^ b) = eat r a ^^^ eat s b := by
  rw [eat_eq, eat_eq, eat_eq, u8_ofNat_xor, ← steps_xor]
  congr 1
  ac_rfl
theorem regs_xor : ∀ (a b : List UInt8) (r s : BitVec 32), a.length = b.length → regs (r ^^^ s) (mixB a b) = regs r a ^^^ regs s b
  | [], [], _, _, _ => rfl
  | x :: a, y :: b, r, s, h => by
    have h2 : a.length = b.length := by simpa using h
    show regs (eat (r ^^^ s) (x ^^^ y)) (mixB a b) = regs (eat r x) a ^^^ regs (eat s y) b
    rw [eat_xor]
    exact regs_xor a b _ _ h2
theorem not_xor_not (x y : BitVec 32) : ~~~x ^^^ ~~~y = x ^^^ y := by
  apply BitVec.eq_of_getLsbD_eq
  intro i hi
  simp [hi]
theorem updB_xor (a b : List UInt8) (h : a.length = b.length) : updB 0 a ^^^ updB 0 b = regs 0 (mixB a b) := by
  rw [updB, updB, not_xor_not, ← regs_xor a b _ _ h, BitVec.xor_self]
  rfl
theorem mixB_zero (m : List UInt8) (n : Nat) (h : m.length = n) : mixB m (List.replicate n 0) = m := by
  subst h
  apply List.ext_getElem?
  intro i
  simp only [mixB, List.getElem?_zipWith, List.getElem?_replicate]
  by_cases hi : i < m.length
  · simp [hi]
  · simp [hi]
theorem linear_law (a b : List UInt8) (h : a.length = b.length) : updB 0 (mixB a b) ^^^ updB 0 (List.replicate a.length 0) = updB 0 a ^^^ updB 0 b := by
  have hl : (mixB a b).length = a.length := by simp [mixB, h]
  rw [updB_xor _ _ (by simp [hl]), updB_xor a b h, mixB_zero _ _ hl]

theorem infoU8 : (Try.prog.info? 5).map (fun i => (i.zero, i.size, i.bytes)) = some (some (.int .u8 0), 1, 1) := by kernel_rfl
theorem made_bytes (n : Nat) (hn : n ≤ 140737488351232) (u : World) : (Instr.makeSlice 22 (.int .i64 n) (.int .i64 n)).run Try.prog u = .ok (.slice (some ⟨u.heap.size, 0, none⟩) n n) (u.alloc (.cells (bvs (List.replicate n 0)).toArray 5)) := by
  obtain ⟨i, hi, hz0, hz1, hz2⟩ := info_parts infoU8
  have h := run_make (P := Try.prog) u 22 5 i _ Try.underlying22 hi hz0 .i64 .i64 n n (by omega) (Int.le_refl _) (by rw [hz2]; omega) (by omega)
  rw [hz1] at h
  refine h.trans ?_
  have e1 : ((n : Int)).toNat = n := by omega
  have e2 : madeCells (Value.int .u8 0).cells (n * 1) = (bvs (List.replicate n 0)).toArray := by
    rw [Nat.mul_one]
    have := toList_madeCells_one (.int .u8 0) n
    apply Array.toList_inj.1
    rw [show (Value.int .u8 0).cells = #[.int .u8 0] from rfl, this]
    simp [bvs, bv]
  rw [e1, e2]
theorem u8_xor (a b : UInt8) : bits BinOp.xor IntKind.u8 (a.toNat : Int) (b.toNat : Int) = ((a ^^^ b).toNat : Int) := by
  show IntKind.u8.wrap (((BitVec.ofInt 8 (a.toNat : Int) ^^^ BitVec.ofInt 8 (b.toNat : Int)).toNat : Nat) : Int) = _
  have h1 := a.toNat_lt
  have h2 := b.toNat_lt
  have h3 := (a ^^^ b).toNat_lt
  rw [BitVec.toNat_xor, BitVec.ofInt_natCast, BitVec.ofInt_natCast, BitVec.toNat_ofNat, BitVec.toNat_ofNat, Nat.mod_eq_of_lt h1, Nat.mod_eq_of_lt h2, IntKind.wrap_u8, ← UInt8.toNat_xor]
  omega

/-- The mixed bytes, filled so far. -/
def MixR (W0 : World) (nb n : Nat) (mix : List UInt8) (j : Nat) (wr : World) : Prop :=
  Upd (fun k => k = nb) W0 wr ∧ ∃ bs : List UInt8, bs.length = n ∧ (∀ t, t < j → bs[t]? = mix[t]?) ∧ wr.heap[nb]? = some (.cells (bvs bs).toArray 5 (0, 0))
theorem MixR.step {W0 : World} {nb n j : Nat} {mix : List UInt8} {wr : World} (h : MixR W0 nb n mix j wr) (hj : j < n) (x : UInt8) (hx : mix[j]? = some x) : MixR W0 nb n mix (j + 1) (wr.setCell ⟨nb, j, none⟩ (.int .u8 x.toNat)) := by
  obtain ⟨hu, bs, hl, hb, hh⟩ := h
  refine ⟨hu.setCell _ (.inl rfl), bs.set j x, by simp [hl], fun t ht => ?_, ?_⟩
  · by_cases e : t = j
    · subst e; rw [hx]; simp [hl, hj]
    · rw [List.getElem?_set_ne (fun h => e h.symm)]; exact hb t (by omega)
  · rw [stored hh]; simp [bvs, bv]
theorem MixR.drew {W0 : World} {nb n j : Nat} {mix : List UInt8} {wr : World} (h : MixR W0 nb n mix j wr) : MixR W0 nb n mix j wr.drew := ⟨h.1.drew, h.2⟩
theorem Sees.upTo {w : World} {xa : Option Addr} {ca : Nat} {l : List UInt8} (h : Sees w 1 (.slice xa l.length ca) l.length (bvs l)) (n : Nat) (hn : n ≤ l.length) (p : List UInt8) (hp : l.take n = p) :
    Sees w 1 (.slice xa p.length ca) p.length (bvs p) := by
  subst hp
  obtain ⟨_, hm, xo, co, e, hc⟩ := h
  cases e
  refine ⟨by simp [bvs], by simp; omega, _, _, rfl, fun h0 => ?_⟩
  obtain ⟨b, off, rfl, hr⟩ := hc (by simp at h0; omega)
  refine ⟨b, off, rfl, fun j v hj => hr j v ?_⟩
  simp only [bvs, List.map_take, List.getElem?_take] at hj ⊢
  split at hj
  · exact hj
  · cases hj

set_option maxHeartbeats 4000000 in
theorem crcLinear_walk (xa : Option Addr) (ca : Nat) (la : List UInt8) (xb : Option Addr) (cb : Nat) (lb : List UInt8) (w : World) (ha : Sees w 1 (.slice xa la.length ca) la.length (bvs la)) (hac : la.length ≤ ca)
    (hb : Sees w 1 (.slice xb lb.length cb) lb.length (bvs lb)) (hbc : lb.length ≤ cb) (hra : la.length ≤ 140737488351232) :
    Calls Try.prog 7 #[.slice xa la.length ca, .slice xb lb.length cb] w fun e w' => e = .returned (.bool true) ∧ Below w.heap.size w w' := by
  have Ha := Lib.hid (And.intro ha hac)
  have Hb := Lib.hid (And.intro hb hbc)
  have hla : (la.length : Int) ≤ 140737488351232 := by omega
  clear ha hb hac hbc
  go_enter Try.func7, Try.ntmps7
  go_wp2_with fail
  refine (crc_fixed w).mono ?_
  rintro e w0 ⟨rfl, hu0⟩
  dsimp only
  have HU0 := Lib.hid hu0
  clear hu0
  go_upto_region 3 with fail
  go_cut [5] (fun n w' => n = .int .i64 (min la.length lb.length : Nat) ∧ w0 = w')
  case first =>
    by_cases hab : (la.length : Int) ≤ lb.length
    · go_wp2_with fail
      go_meet
      exact ⟨by rw [Nat.min_eq_left (by omega)], rfl⟩
    · go_wp2_with fail
      go_meet
      exact ⟨by rw [Nat.min_eq_right (by omega)], rfl⟩
  case rest =>
    obtain ⟨rfl, rfl⟩ := hcut
    obtain ⟨n, hn⟩ : ∃ n, min la.length lb.length = n := ⟨_, rfl⟩
    rw [hn]
    have hna : n ≤ la.length := by omega
    have hnb : n ≤ lb.length := by omega
    have hn2 : (n : Int) ≤ 140737488351232 := by omega
    obtain ⟨mix, hmix⟩ : ∃ mix, mixB (la.take n) (lb.take n) = mix := ⟨_, rfl⟩
    have hml : mix.length = n := by rw [← hmix]; simp [mixB]; omega
    have hmk := made_bytes n (by omega) w0
    have hM0 : MixR w0 w0.heap.size n mix 0 (w0.alloc (.cells (bvs (List.replicate n 0)).toArray 5)) := ⟨(Upd.refl _ _).alloc _, List.replicate n 0, by simp, (fun t ht => by omega), heap_alloc_new w0 _⟩
    have HM0 := Lib.hid hM0
    have Hn := Lib.hid (And.intro hna (And.intro hnb (And.intro hmix hml)))
    clear hM0 hna hnb hmix hml hn hra
    go_wp2_with fail
    clear hmk
    go_loopw [7] (fun v wq => ∃ j : Nat, j ≤ n ∧ v = .int .i64 j ∧ MixR w0 w0.heap.size n mix j wq) (fun v _ => n - (intOf v).toNat)
    case atStart => exact ⟨0, Nat.zero_le _, rfl, HM0.out⟩
    case round =>
      clear HM0
      obtain ⟨j, hj, rfl, hQ⟩ := hrel
      by_cases hj2 : j < n
      · have hj3 : (j : Int) < (n : Int) := by omega
        have hja : j < la.length := Nat.lt_of_lt_of_le hj2 Hn.out.1
        have hjb : j < lb.length := Nat.lt_of_lt_of_le hj2 Hn.out.2.1
        have hja2 : (j : Int) < (la.length : Int) := by omega
        have hjb2 : (j : Int) < (lb.length : Int) := by omega
        obtain ⟨x, hx⟩ : ∃ x, la[j] = x := ⟨_, rfl⟩
        obtain ⟨y, hy⟩ : ∃ y, lb[j] = y := ⟨_, rfl⟩
        have hmj : mix[j]? = some (x ^^^ y) := by rw [← Hn.out.2.2.1]; simp [mixB, List.getElem?_zipWith, hj2, hja, hjb, hx, hy]
        obtain ⟨_, _, xo, co, e', hca⟩ := Ha.out.1
        cases e'
        obtain ⟨ga, oa, rfl, hra⟩ := hca (by omega)
        obtain ⟨_, _, xo, co, e', hcb⟩ := Hb.out.1
        cases e'
        obtain ⟨gb, ob, rfl, hrb⟩ := hcb (by omega)
        have hUq : Upd (fun _ => False) w wr := HU0.out.then hQ.1 (fun i hi => .inr (by rw [hi]; exact HU0.out.size))
        have ca : wr.cell? ⟨ga, oa + j, none⟩ = some (.int .u8 x.toNat) := hUq.cell_some (by have := hra j (bv la[j]) (bvs_get la j hja); rw [this, hx]; rfl) (fun h => h)
        have cb : wr.cell? ⟨gb, ob + j, none⟩ = some (.int .u8 y.toNat) := hUq.cell_some (by have := hrb j (bv lb[j]) (bvs_get lb j hjb); rw [this, hy]; rfl) (fun h => h)
        have hxy := u8_xor x y
        obtain ⟨z, hz⟩ : ∃ z, x ^^^ y = z := ⟨_, rfl⟩
        rw [hz] at hxy hmj
        have Hst := Lib.hid (hQ.step hj2 z hmj).drew
        obtain ⟨bs, hbl, _, hbh⟩ := hQ.2
        have hcj : wr.cell? ⟨w0.heap.size, j, none⟩ = some (bv (bs.getD j 0)) := by rw [cell_of_row _ _ _ _ _ _ hbh]; simp [bvs, hbl, hj2]
        have hfj := unfrozen hbh j
        clear hQ hbh hbl hz hra hrb hca hcb hmj hx hy hja hjb hUq
        go_wp2_with fail
        have HS : wr.drew.cell? ⟨ga, oa + j, none⟩ = some (.int .u8 x.toNat) ∧ wr.drew.cell? ⟨gb, ob + j, none⟩ = some (.int .u8 y.toNat) := ⟨ca, cb⟩
        refine wp_region_plan (fun w' => w'.cell? ⟨ga, oa + j, none⟩ = some (.int .u8 x.toNat) ∧ w'.cell? ⟨gb, ob + j, none⟩ = some (.int .u8 y.toNat)) 12 [(0, true), (1, true), (2, true), (3, true), (4, true), (5, true), (6, true), (7, true), (8, true), (9, true), (10, true), (11, true), (12, false)] (by kernel_rfl) (by kernel_rfl) (fun d _ _ _ _ h => by cases d <;> exact h) HS ?_
        iterate 12 (apply plan_held rfl rfl rfl (by simp) HS; (intro w' hS K hK; go_simp; exact hK))
        refine plan_op rfl rfl (fun K hK => ?_)
        go_simp
        refine hK _ _ (fun h => absurd rfl h) ?_
        refine plan_nil ?_
        go_wp2_with fail
        exact ⟨⟨j + 1, by omega, by go_num, Hst.out⟩, by simp [intOf]; omega⟩
      · obtain rfl : j = n := by omega
        obtain ⟨bs, hbl, hbs, hbh⟩ := hQ.2
        have hbe : bs = mix := by
          apply List.ext_getElem?
          intro t
          by_cases ht : t < j
          · exact hbs t ht
          · rw [List.getElem?_eq_none (by omega), List.getElem?_eq_none (by rw [Hn.out.2.2.2]; omega)]
        subst hbe
        clear hbs
        subst hbl
        have hUq : Upd (fun _ => False) w wr := HU0.out.then hQ.1 (fun i hi => .inr (by rw [hi]; exact HU0.out.size))
        obtain ⟨pa, hpa⟩ : ∃ p, la.take bs.length = p := ⟨_, rfl⟩
        obtain ⟨pb, hpb⟩ : ∃ p, lb.take bs.length = p := ⟨_, rfl⟩
        have hlpa : pa.length = bs.length := by rw [← hpa, List.length_take]; have := Hn.out.1; omega
        have hlpb : pb.length = bs.length := by rw [← hpb, List.length_take]; have := Hn.out.2.1; omega
        have Hlaw : Hid (updB 0 bs ^^^ updB 0 (List.replicate bs.length 0) = updB 0 pa ^^^ updB 0 pb) := by
          have h1 := linear_law pa pb (by omega)
          rw [← hpa, ← hpb, Hn.out.2.2.1, hpa, hpb, hlpa] at h1
          exact h1
        have sa : Sees wr 1 (.slice xa bs.length ca) pa.length (bvs pa) := by have := (Ha.out.1.upd hUq (fun _ _ _ h => h)).upTo bs.length Hn.out.1 pa hpa; rwa [hlpa] at this ⊢
        have sb : Sees wr 1 (.slice xb bs.length cb) pb.length (bvs pb) := by have := (Hb.out.1.upd hUq (fun _ _ _ h => h)).upTo bs.length Hn.out.2.1 pb hpb; rwa [hlpb] at this ⊢
        have sm : Sees wr 1 (.slice (some ⟨w0.heap.size, 0, none⟩) bs.length bs.length) bs.length (bvs bs) := Sees.at (by simp [bvs]) (by unfold maxLen; omega) (rangeAt_of_row hbh (by simp))
        have hca : (bs.length : Int) ≤ (ca : Int) := by have := Ha.out.2; have := Hn.out.1; omega
        have hcb : (bs.length : Int) ≤ (cb : Int) := by have := Hb.out.2; have := Hn.out.2.1; omega
        have HSS := Lib.hid (And.intro sm (And.intro sa sb))
        have HUq := Lib.hid hUq
        have Hle := Lib.hid (And.intro hlpa hlpb)
        clear hQ hbh hUq hpa hpb hlpa hlpb sa sb sm
        go_wp2_with fail
        have hd : Upd (fun _ => False) wr wr.drew := (Upd.refl _ _).drew
        have HS : Sees wr.drew 1 (.slice (some ⟨w0.heap.size, 0, none⟩) bs.length bs.length) bs.length (bvs bs) ∧ Sees wr.drew 1 (.slice xa bs.length ca) pa.length (bvs pa) ∧ Sees wr.drew 1 (.slice xb bs.length cb) pb.length (bvs pb) :=
          ⟨HSS.out.1.upd hd (fun _ _ _ h => h), HSS.out.2.1.upd hd (fun _ _ _ h => h), HSS.out.2.2.upd hd (fun _ _ _ h => h)⟩
        have hmk := made_bytes bs.length (by omega) wr.drew
        obtain ⟨X, hX⟩ : ∃ X, updB 0 pa ^^^ updB 0 pb = X := ⟨_, rfl⟩
        have hx1 : bits BinOp.xor IntKind.u32 ((updB 0#32 bs).toNat : Int) ((updB 0#32 (List.replicate bs.length 0)).toNat : Int) = (X.toNat : Int) := by rw [u32_xor, ← hX]; exact congrArg (fun z : BitVec 32 => (z.toNat : Int)) Hlaw.out
        have hx2 : bits BinOp.xor IntKind.u32 ((updB 0#32 pa).toNat : Int) ((updB 0#32 pb).toNat : Int) = (X.toNat : Int) := by rw [u32_xor, ← hX]; rfl
        clear hX
        refine wp_region_planC (fun w' => Sees w' 1 (.slice (some ⟨w0.heap.size, 0, none⟩) bs.length bs.length) bs.length (bvs bs) ∧ Sees w' 1 (.slice xa bs.length ca) pa.length (bvs pa) ∧ Sees w' 1 (.slice xb bs.length cb) pb.length (bvs pb)) 17
          [(0, true), (1, true), (2, true), (6, true), (7, true), (8, true), (10, true), (11, true), (12, true), (3, false), (4, false), (5, true), (9, true), (13, true), (14, true), (15, true), (16, true)] (by kernel_rfl) (by kernel_rfl) (fun d _ _ _ _ h => by cases d <;> exact h) HS ?_
        (apply planC_held rfl rfl rfl (by simp) HS; (intro w' hS K hK; go_simp; exact hK))
        refine planC_call (.int .u32 (updB 0 bs).toNat) rfl rfl (fun w' hS => ⟨26, #[.slice (some ⟨w0.heap.size, 0, none⟩) bs.length bs.length], by go_simp, sum_ok _ _ _ hS.1⟩) ?_
        simp only [Act.put, List.setIfInBounds_toArray, List.set_cons_zero, List.set_cons_succ]
        iterate 7 (apply planC_held rfl rfl rfl (by simp) HS; (intro w' hS K hK; go_simp; exact hK))
        refine planC_op rfl rfl (fun K hK => ?_)
        go_simp
        have hal : Upd (fun _ => False) wr.drew (wr.drew.alloc (.cells (bvs (List.replicate bs.length 0)).toArray 5)) := (Upd.refl _ _).alloc _
        have hz : Sees (wr.drew.alloc (.cells (bvs (List.replicate bs.length 0)).toArray 5)) 1 (.slice (some ⟨wr.drew.heap.size, 0, none⟩) bs.length bs.length) (List.replicate bs.length (0 : UInt8)).length (bvs (List.replicate bs.length 0)) := by
          have := sees_lit wr.drew (List.replicate bs.length 0) 5 (0, 0) (by simp [maxLen]; omega)
          rwa [List.length_replicate] at this ⊢
        have HS1 := Lib.hid (And.intro (HS.1.upd hal (fun _ _ _ h => h)) (And.intro (HS.2.1.upd hal (fun _ _ _ h => h)) (HS.2.2.upd hal (fun _ _ _ h => h))))
        have HU1 := Lib.hid ((HUq.out.trans hd).trans hal)
        have Hz := Lib.hid hz
        refine hK _ _ (fun _ => HS1.out) ?_
        clear hmk hz hal HS hK
        try (simp only [Act.put, List.setIfInBounds_toArray, List.set_cons_zero, List.set_cons_succ])
        refine planC_op rfl rfl (fun K hK => ?_)
        go_simp
        refine (sum_ok _ _ _ Hz.out).mono ?_
        rintro e w3 ⟨rfl, rfl⟩
        dsimp only
        refine hK _ _ (fun _ => HS1.out) ?_
        clear hK
        try (simp only [Act.put, List.setIfInBounds_toArray, List.set_cons_zero, List.set_cons_succ])
        have HS := HS1.out
        (apply planC_held rfl rfl rfl (by simp) HS; (intro w' hS K hK; go_simp; exact hK))
        refine planC_call (.int .u32 (updB 0 pa).toNat) rfl rfl (fun w' hS => ⟨26, #[.slice xa bs.length ca], by go_simp, sum_ok _ _ _ hS.2.1⟩) ?_
        try (simp only [Act.put, List.setIfInBounds_toArray, List.set_cons_zero, List.set_cons_succ])
        refine planC_call (.int .u32 (updB 0 pb).toNat) rfl rfl (fun w' hS => ⟨26, #[.slice xb bs.length cb], by go_simp, sum_ok _ _ _ hS.2.2⟩) ?_
        try (simp only [Act.put, List.setIfInBounds_toArray, List.set_cons_zero, List.set_cons_succ])
        iterate 3 (apply planC_held rfl rfl rfl (by simp) HS; (intro w' hS K hK; go_simp; exact hK))
        refine planC_nil ?_
        clear HS
        go_wp2_with fail
        go_ret
        exact ⟨rfl, HU1.out.below0⟩
end Go.Proofs.Ytlcbgcbocikkkaa
