/- Package pager: a block as a record, and back. -/
import Derived.Test.YtihlijnobbonbaaGreatPa1
namespace Go.Proofs.YtihlijnobbonbaaGreat
open Go Go.RowKit
set_option linter.unusedSimpArgs false
set_option linter.unusedVariables false
set_option maxRecDepth 100000

theorem strV_append (a b : List UInt8) : strV a ++ strV b = strV (a ++ b) := by
  apply ByteArray.ext
  simp [strV]
theorem leB4 (b : Nat) (hb : b < 4096) : leB 4 b = [UInt8.ofNat (b % 256), UInt8.ofNat (b / 256 % 256), UInt8.ofNat (b / 65536 % 256), UInt8.ofNat (b / 16777216 % 256)] := by
  simp only [leB, Nat.div_div_eq_div_mul]
set_option maxHeartbeats 4000000 in
theorem record_ok (b : Nat) (hb : b < 4096) (x : Bytes) (hx : x.length = 512) (w : World) : Calls Tryz.prog 44 #[.int .i64 (b : Nat), .agg (bvs x).toArray] w fun e w' => e = .returned (.string (recB (b : Int) x)) ∧ Upd (fun _ => False) w w' := by
  have Hz : (bvs x).toArray.size = 512 := by simp [bvs_length, hx]
  have Hall : (bvs x).toArray.all (·.oneCell') = true := by rw [List.all_toArray]; exact List.all_eq_true.2 (bvs_one x)
  have hn := CellsA.new w 94 (bvs x)
  have hu : Upd (fun _ => False) w (w.alloc (.cells (bvs x).toArray 94)) := (Upd.refl _ w).alloc _
  have H := Lib.hid (And.intro hn (And.intro hu (And.intro hb hx)))
  obtain ⟨c0, hc0⟩ : ∃ c0 : Nat, b % 256 = c0 := ⟨_, rfl⟩
  obtain ⟨c1, hc1⟩ : ∃ c1 : Nat, b / 256 % 256 = c1 := ⟨_, rfl⟩
  obtain ⟨c2, hc2⟩ : ∃ c2 : Nat, b / 65536 % 256 = c2 := ⟨_, rfl⟩
  obtain ⟨c3, hc3⟩ : ∃ c3 : Nat, b / 16777216 % 256 = c3 := ⟨_, rfl⟩
  have q0 : IntKind.u8.wrap (b : Int) = (c0 : Int) := by rw [IntKind.wrap_u8]; omega
  have q1 : IntKind.u8.wrap ((b : Int) / 256) = (c1 : Int) := by rw [IntKind.wrap_u8]; omega
  have q2 : IntKind.u8.wrap ((b : Int) / 65536) = (c2 : Int) := by rw [IntKind.wrap_u8]; omega
  have q3 : IntKind.u8.wrap ((b : Int) / 16777216) = (c3 : Int) := by rw [IntKind.wrap_u8]; omega
  have hbI : (b : Int) < 4096 := by omega
  have HC := Lib.hid (And.intro hc0 (And.intro hc1 (And.intro hc2 hc3)))
  have hr4 : recB (b : Int) x = strV ([UInt8.ofNat c0, UInt8.ofNat c1, UInt8.ofNat c2, UInt8.ofNat c3] ++ x) := by
    rw [recB, Int.toNat_natCast, leB4 b hb, hc0, hc1, hc2, hc3]; rfl
  have hbv : [Value.int .u8 (c0 : Int), .int .u8 (c1 : Int), .int .u8 (c2 : Int), .int .u8 (c3 : Int)] = bvs [UInt8.ofNat c0, UInt8.ofNat c1, UInt8.ofNat c2, UInt8.ofNat c3] := by
    have e : ∀ c : Nat, c < 256 → (UInt8.ofNat c).toNat = c := fun c h => by simp; omega
    simp only [bvs, List.map_cons, List.map_nil, bv]
    rw [e c0 (by omega), e c1 (by omega), e c2 (by omega), e c3 (by omega)]
  have Hr4 := Lib.hid (And.intro hr4 hbv)
  clear hc0 hc1 hc2 hc3 hr4 hbv
  clear hn hu
  go_enter Tryz.func44, Tryz.ntmps44
  go_wp2_with (first | ((with_reducible apply wpl_store_new); exact rfl; exact rfl; (rw [Hz]; exact sizeImg); exact Tryz.zeroCells94_size.trans Hz.symm; exact Hall; try (simp only [Act.put, List.setIfInBounds_toArray, List.set_cons_zero, List.set_cons_succ])))
  generalize w.alloc (.cells (bvs x).toArray 94) = w1 at *
  generalize w.heap.size = xb at *
  have HS : w1.drew.rangeAt xb 0 (bvs x) := H.out.1.range
  refine wp_region_planD (fun u => u.rangeAt xb 0 (bvs x)) 17 [(0, true), (1, true), (2, true), (3, true), (4, true), (5, true), (6, true), (7, true), (8, true), (9, true), (10, true), (13, true), (14, true), (11, false), (12, false), (15, true), (16, true)] (by kernel_rfl) (by kernel_rfl) (fun d _ _ _ _ h => by cases d <;> exact h) HS ?_
  iterate 12 (first | (apply planD_held rfl rfl rfl (by simp) HS; (intro w' hS K hK; go_simp; exact hK)) | (apply planD_wanted rfl rfl rfl (by simp) HS; (intro w' hS K hK; go_simp; exact hK)))
  apply planD_held rfl rfl rfl (by simp) HS
  · intro w' hS K hK
    exact gives_bytes_string 5 (.slice (some ⟨xb, 0, none⟩) 512 512) x Tryz.underlying38 Tryz.underlying5 Tryz.underlying9 rfl (by
      have h := Sees.at (w := w') (size := 1) (n := 512) (c := 512) (xs := bvs x) (b := xb) (off := 0) (by rw [bvs_length, hx]) (by decide) hS
      rw [hx]; exact h) hK
  try (simp only [Act.put, List.setIfInBounds_toArray, List.set_cons_zero, List.set_cons_succ])
  refine planD_op rfl rfl (fun K hK => ?_)
  have hcs := (CellsA.new w1 5 [Value.int .u8 (c0 : Int), .int .u8 (c1 : Int), .int .u8 (c2 : Int), .int .u8 (c3 : Int)])
  have hu2 : Upd (fun _ => False) w1 ((w1.alloc (.cells #[Value.int .u8 (c0 : Int), .int .u8 (c1 : Int), .int .u8 (c2 : Int), .int .u8 (c3 : Int)] 5)).drew) := ((Upd.refl _ w1).alloc _).drew
  have hcv : (convert 38 9 (.slice (some ⟨w1.heap.size, 0, none⟩) 4 4)).run Tryz.prog ((w1.alloc (.cells #[Value.int .u8 (c0 : Int), .int .u8 (c1 : Int), .int .u8 (c2 : Int), .int .u8 (c3 : Int)] 5)).drew) = .ok (.string (strV [UInt8.ofNat c0, UInt8.ofNat c1, UInt8.ofNat c2, UInt8.ofNat c3])) ((w1.alloc (.cells #[Value.int .u8 (c0 : Int), .int .u8 (c1 : Int), .int .u8 (c2 : Int), .int .u8 (c3 : Int)] 5)).drew) := by
    refine run_bytes_string 38 5 9 Tryz.underlying38 Tryz.underlying5 Tryz.underlying9 _ _ ?_
    refine Sees.at (size := 1) (n := 4) (c := 4) (xs := bvs [UInt8.ofNat c0, UInt8.ofNat c1, UInt8.ofNat c2, UInt8.ofNat c3]) (b := w1.heap.size) (off := 0) rfl (by decide) ?_
    exact Eq.subst (motive := fun l => World.rangeAt ((w1.alloc (.cells #[Value.int .u8 (c0 : Int), .int .u8 (c1 : Int), .int .u8 (c2 : Int), .int .u8 (c3 : Int)] 5)).drew) w1.heap.size 0 l) Hr4.out.2 hcs.range
  have HS2 : ((w1.alloc (.cells #[Value.int .u8 (c0 : Int), .int .u8 (c1 : Int), .int .u8 (c2 : Int), .int .u8 (c3 : Int)] 5)).drew).rangeAt xb 0 (bvs x) := hu2.range H.out.1.range (fun h => h)
  have HU2 := Lib.hid (H.out.2.1.trans hu2)
  clear hu2 hcs
  go_simp
  generalize ((w1.alloc (.cells #[Value.int .u8 (c0 : Int), .int .u8 (c1 : Int), .int .u8 (c2 : Int), .int .u8 (c3 : Int)] 5)).drew) = w2 at *
  generalize w1.heap.size = gb at *
  refine hK (fun u => u.rangeAt xb 0 (bvs x)) _ _ (fun u h => h) (fun _ => HS2) ?_
  clear hK HS
  have hsz : (9223372036854775807 < (strV [UInt8.ofNat c0, UInt8.ofNat c1, UInt8.ofNat c2, UInt8.ofNat c3]).size + (strV x).size) = False := by
    rw [strV_size, strV_size, hx]; simp
  try (simp only [Act.put, List.setIfInBounds_toArray, List.set_cons_zero, List.set_cons_succ])
  refine planD_op rfl rfl (fun K hK => ?_)
  go_simp
  refine hK (fun u => u.rangeAt xb 0 (bvs x)) _ _ (fun u h => h) (fun _ => HS2) ?_
  clear hK
  try (simp only [Act.put, List.setIfInBounds_toArray, List.set_cons_zero, List.set_cons_succ])
  iterate 2 (first | (apply planD_held rfl rfl rfl (by simp) HS2; (intro w' hS K hK; go_simp; exact hK)) | (apply planD_wanted rfl rfl rfl (by simp) HS2; (intro w' hS K hK; go_simp; exact hK)))
  refine planD_nil ?_
  go_wp2_with fail
  go_ret
  refine ⟨?_, HU2.out⟩
  rw [Hr4.out.1, ← strV_append]
  rfl
theorem strV_get (l : List UInt8) (i : Nat) (h : i < (strV l).size) (h2 : i < l.length) : (strV l)[i] = l[i] := by
  show (strV l).data[i] = l[i]
  simp [strV]
theorem or_nat (a c : Nat) (ha : a < 4294967296) (hc : c < 4294967296) : bits BinOp.or IntKind.i64 (a : Int) (c : Int) = ((a ||| c : Nat) : Int) := by
  have h : (BitVec.ofInt 64 (a : Int) ||| BitVec.ofInt 64 (c : Int)).toNat = a ||| c := by
    rw [BitVec.ofInt_natCast, BitVec.ofInt_natCast, BitVec.toNat_or, BitVec.toNat_ofNat, BitVec.toNat_ofNat, Nat.mod_eq_of_lt (by omega), Nat.mod_eq_of_lt (by omega)]
  have hl : a ||| c < 4294967296 := Nat.or_lt_two_pow (n := 32) ha hc
  show IntKind.i64.wrap (((BitVec.ofInt 64 (a : Int) ||| BitVec.ofInt 64 (c : Int)).toNat : Nat) : Int) = _
  rw [h, IntKind.wrap_i64]
  omega
/-- number. -/
theorem number_ok (b : Nat) (hb : b < 4096) (x : Bytes) (w : World) : Calls Tryz.prog 55 #[.string (recB (b : Int) x)] w fun e w' => e = .returned (.int .i64 (b : Nat)) ∧ Upd (fun _ => False) w w' := by
  obtain ⟨s, hs⟩ : ∃ s, recB (b : Int) x = s := ⟨_, rfl⟩
  have hr4 : s = strV ([UInt8.ofNat (b % 256), UInt8.ofNat (b / 256 % 256), UInt8.ofNat (b / 65536 % 256), UInt8.ofNat (b / 16777216 % 256)] ++ x) := by
    rw [← hs, recB, Int.toNat_natCast, leB4 b hb]; rfl
  have HR := Lib.hid hr4
  have s0 : 0 < s.size := by rw [hr4, strV_size]; simp
  have s1 : 1 < s.size := by rw [hr4, strV_size]; simp
  have s2 : 2 < s.size := by rw [hr4, strV_size]; simp
  have s3 : 3 < s.size := by rw [hr4, strV_size]; simp
  obtain ⟨c0, hc0⟩ : ∃ c0 : Nat, b % 256 = c0 := ⟨_, rfl⟩
  obtain ⟨c1, hc1⟩ : ∃ c1 : Nat, b / 256 = c1 := ⟨_, rfl⟩
  have g0 : s[0].toNat = c0 := by
    subst hr4
    exact (congrArg UInt8.toNat (strV_get _ 0 s0 (by simp))).trans (by simp; omega)
  have g1 : s[1].toNat = c1 := by
    subst hr4
    exact (congrArg UInt8.toNat (strV_get _ 1 s1 (by simp))).trans (by simp; omega)
  have g2 : s[2].toNat = 0 := by
    subst hr4
    exact (congrArg UInt8.toNat (strV_get _ 2 s2 (by simp))).trans (by simp; omega)
  have g3 : s[3].toNat = 0 := by
    subst hr4
    exact (congrArg UInt8.toNat (strV_get _ 3 s3 (by simp))).trans (by simp; omega)
  have o1 : bits BinOp.or IntKind.i64 (c0 : Int) ((c1 : Int) * 256) = (b : Int) := by
    have h1 := or_nat c0 (c1 * 256) (by omega) (by omega)
    rw [Int.natCast_mul] at h1
    refine h1.trans ?_
    have h2 := Nat.shiftLeft_add_eq_or_of_lt (i := 8) (b := c0) (by omega) c1
    rw [Nat.shiftLeft_eq] at h2
    rw [Nat.or_comm, ← h2]
    omega
  have o2 : bits BinOp.or IntKind.i64 (b : Int) 0 = (b : Int) := by
    have h1 := or_nat b 0 (by omega) (by omega)
    simpa using h1
  have i1 : (1 : Int) < (s.size : Int) := by omega
  have i2 : (2 : Int) < (s.size : Int) := by omega
  have i3 : (3 : Int) < (s.size : Int) := by omega
  have hc1b : (c1 : Int) < 16 := by omega
  have E : Hid (bits BinOp.or IntKind.i64 (bits BinOp.or IntKind.i64 (bits BinOp.or IntKind.i64 (IntKind.i64.wrap (c0 : Int)) (IntKind.i64.wrap (IntKind.i64.wrap (c1 : Int) * 256))) (IntKind.i64.wrap (IntKind.i64.wrap 0 * 65536))) (IntKind.i64.wrap (IntKind.i64.wrap 0 * 16777216)) = (b : Int)) := by
    have w0 : IntKind.i64.wrap (c0 : Int) = (c0 : Int) := by rw [IntKind.wrap_i64]; omega
    have w1 : IntKind.i64.wrap (c1 : Int) = (c1 : Int) := by rw [IntKind.wrap_i64]; omega
    have w2 : IntKind.i64.wrap ((c1 : Int) * 256) = (c1 : Int) * 256 := by rw [IntKind.wrap_i64]; omega
    have w3 : IntKind.i64.wrap 0 = 0 := by decide
    show _ = _
    rw [w0, w1, w2, o1, w3, Int.zero_mul, Int.zero_mul, w3, o2, o2]
  have hc0b : (c0 : Int) < 256 := by omega
  rw [hs]
  clear hr4 hs hc0 hc1 o1 o2
  go_enter Tryz.func55, Tryz.ntmps55
  go_wp2_with fail
  have HS : True := trivial
  refine wp_region_planD (fun u => True) 19 [(0, true), (1, true), (2, true), (3, true), (4, true), (5, true), (6, true), (7, true), (8, true), (9, true), (10, true), (11, true), (12, true), (13, true), (14, true), (15, true), (16, true), (17, true), (18, true)] (by kernel_rfl) (by kernel_rfl) (fun d _ _ _ _ h => by cases d <;> exact h) HS ?_
  iterate 19 (first | (apply planD_held rfl rfl rfl (by simp) HS; (intro w' hS K hK; go_simp; exact hK)) | (apply planD_wanted rfl rfl rfl (by simp) HS; (intro w' hS K hK; go_simp; exact hK)))
  refine planD_nil ?_
  go_wp2_with fail
  go_ret
  exact ⟨congrArg (fun z => Ending.returned (.int .i64 z)) E.out, (Upd.refl _ _).drew⟩
end Go.Proofs.YtihlijnobbonbaaGreat
