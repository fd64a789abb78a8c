/- wal: Open, up to its header. -/
import Derived.Test.YtocameknhglklaaWalL
namespace Go.Proofs.Ytocameknhglklaa
open Go.RowKit
set_option linter.unusedSimpArgs false
set_option linter.unusedVariables false
set_option maxRecDepth 100000

theorem open_err (dv : Value) (fr n e : Int) (w : World) (he : (e != 0) = true) (hc : Calls Try.prog 37 #[dv, .int .i64 fr, .int .i64 n] w fun r w' => r = .returned (.int .i64 e) ∧ w = w') :
    Calls Try.prog 21 #[dv, .int .i64 fr, .int .i64 n] w fun r w' => r = .returned (.tuple #[.pointer none, .slice none 0 0, .int .i64 e]) ∧ w = w' := by
  have Hc := Lib.hid hc
  clear hc
  go_enter Try.func21, Try.ntmps21
  go_wp2_with fail
  refine Hc.out.mono ?_
  rintro e w1 ⟨rfl, rfl⟩
  dsimp only
  go_wp2_with fail
  go_ret3
  exact ⟨rfl, rfl⟩
theorem open_dead {w : World} {db : Nat} {D : DSt} {F : Nat → Prop} (hD : DiskAt w db D F) (fr n : Nat) (h2 : 2 ≤ n) (hf : fr + n ≤ D.secs.length) (hwt : D.waits.length < 99999999990) (hd : D.dead = true) :
    Calls Try.prog 21 #[.pointer (some ⟨db, 0, none⟩), .int .i64 fr, .int .i64 n] w fun r w' => r = .returned (.tuple #[.pointer none, .slice none 0 0, .int .i64 10]) ∧ Upd (fun _ => False) w w' := by
  have hreg := region_good hD fr n (by omega) (by omega) (by omega)
  have hr : D.read (fr : Nat) = ([], 10) := by rw [DSt.read, if_pos hd]
  have H := Lib.hid (And.intro hD (And.intro hwt (And.intro hr hreg)))
  clear hreg hr hD h2 hf hwt hd
  go_enter Try.func21, Try.ntmps21
  go_wp2_with fail
  refine H.out.2.2.2.mono ?_
  rintro e w1 ⟨rfl, rfl⟩
  dsimp only
  go_wp2_with fail
  refine (read_disk H.out.1 (by have := H.out.2.1; omega) (fr : Nat) H.out.2.2.1).mono ?_
  rintro e w1 ⟨xa, xc, rfl, hrow, hu, -, -⟩
  dsimp only
  have Hu := Lib.hid hu
  clear hrow hu
  go_wp2_with fail
  go_ret3
  exact ⟨rfl, Hu.out.alloc _⟩
theorem field_ok (pb pk g off c : Nat) (m : Bytes) (i : Nat) (iI : Int) (hI : iI = (i : Nat)) (w : World) (hb : w.cell? ⟨pb, 0, none⟩ = some (.slice (some ⟨g, off, none⟩) 512 c)) (hk : w.cell? ⟨pk, 0, none⟩ = some (.int .i64 12)) (hr : w.rangeAt g off (bvs m)) (hm : m.length = 512) (hc : 512 ≤ c) (hi : i ≤ 4) (N : Nat) (hN : fieldOf m i = N) :
    Calls Try.prog 47 #[.int .i64 iI, .pointer (some ⟨pb, 0, none⟩), .pointer (some ⟨pk, 0, none⟩)] w fun e w' => e = .returned (.int .u64 N) ∧ w = w' := by
  subst hI
  obtain ⟨n', hn'⟩ : ∃ n', 512 - (12 + 8 * i) = n' := ⟨_, rfl⟩
  obtain ⟨c', hc'⟩ : ∃ c', c - (12 + 8 * i) = c' := ⟨_, rfl⟩
  have hget := get_part (n := 512) (cap := c) hr (12 + 8 * i) 8 N (by omega) (by omega) (by decide) hN (by rw [hm]; decide) n' (by omega) c'
  have hsl := slice_fromI (P := Try.prog) 98 5 Try.underlying98 (by kernel_rfl) g off 512 c (12 + 8 * i) ((12 : Int) + 8 * (i : Int)) n' c' (by omega) (by omega) (by omega) hn' hc'
  have hib : (i : Int) ≤ 4 := by omega
  have Hg := Lib.hid hget
  clear hget hr hm hc hi hN hn' hc'
  go_enter Try.func47, Try.ntmps47
  go_wp2_with fail
  refine Hg.out.mono ?_
  rintro e w1 ⟨rfl, rfl⟩
  dsimp only
  go_wp2_with fail
  go_ret
  exact ⟨rfl, rfl⟩

theorem slice_toI {P : Program} (t e : TypeId) (hu : P.underlying t = some (.slice e)) (hs : (P.info? e).map (·.size) = some 1) (g off n cap k : Nat) (kI : Int) (hk : kI = (k : Nat)) (h1 : k ≤ cap) (h0 : 0 < cap) (w : World) :
    (Instr.slice t (.slice (some ⟨g, off, none⟩) n cap) none (some (.int .i64 kI)) none).run P w = .ok (.slice (some ⟨g, off, none⟩) k cap) w := by
  subst hk
  exact slice_to t e hu hs g off n cap k h1 h0 w
/-- Open, behind the read of the log's own sector: where its parts lie. -/
structure Hdr (w : World) (g c pb pk lb : Nat) (m : Bytes) (pre : List Value) (wr : World) : Prop where
  upd : Upd (fun _ => False) w wr
  range : wr.rangeAt g 0 (bvs m)
  len : m.length = 512
  cap : 512 ≤ c
  b : wr.cell? ⟨pb, 0, none⟩ = some (.slice (some ⟨g, 0, none⟩) 512 c)
  k : wr.cell? ⟨pk, 0, none⟩ = some (.int .i64 12)
  log : Cells9 wr lb pre
  new : w.heap.size ≤ lb ∧ w.heap.size ≤ g ∧ g ≠ lb ∧ pb ≠ lb ∧ pk ≠ lb

theorem Hdr.drew {w : World} {g c pb pk lb : Nat} {m : Bytes} {pre : List Value} {wr : World} (h : Hdr w g c pb pk lb m pre wr) : Hdr w g c pb pk lb m pre wr.drew :=
  ⟨h.upd.drew, h.range, h.len, h.cap, h.b, h.k, h.log.upd ((Upd.refl (fun _ => False) wr).drew) (fun h => h), h.new⟩
theorem Hdr.sees12 {w : World} {g c pb pk lb : Nat} {m : Bytes} {pre : List Value} {wr : World} (h : Hdr w g c pb pk lb m pre wr) : Sees wr 1 (.slice (some ⟨g, 0, none⟩) 12 c) (m.take 12).length (bvs (m.take 12)) := by
  have hl : (m.take 12).length = 12 := by rw [List.length_take, h.len]; rfl
  have h1 := sees_part (n := 512) (cap := c) h.range 0 12 c (by rw [h.len]; decide) (by decide)
  rw [List.drop_zero] at h1
  rw [hl]
  exact h1
theorem Hdr.write {w : World} {g c pb pk lb : Nat} {m : Bytes} {pre pre' : List Value} {wr wr' : World} (h : Hdr w g c pb pk lb m pre wr) (hu : Upd (fun k => k = lb) wr wr') (hC : Cells9 wr' lb pre') : Hdr w g c pb pk lb m pre' wr' :=
  ⟨h.upd.then hu (fun k hk => .inr (by rw [hk]; exact h.new.1)), hu.range h.range (fun e => h.new.2.2.1 e), h.len, h.cap, hu.cell_some (a := ⟨pb, 0, none⟩) h.b (fun e => h.new.2.2.2.1 e), hu.cell_some (a := ⟨pk, 0, none⟩) h.k (fun e => h.new.2.2.2.2 e), hC, h.new⟩
theorem hdr_new {w w1 : World} {g c : Nat} {m : Bytes} (hu : Upd (fun _ => False) w w1) (hr : w1.rangeAt g 0 (bvs m)) (hm : m.length = 512) (hc : 512 ≤ c) (hg : w.heap.size ≤ g) (hgl : g < w1.heap.size) (db fr n : Nat) :
    Hdr w g c w1.heap.size (w1.heap.size + 1) (w1.heap.size + 1 + 1) m (preL (LSt.made fr n) db (.slice none 0 0)) (((w1.alloc (.cells #[.slice (some ⟨g, 0, none⟩) 512 c] 98)).alloc (.cells #[.int .i64 12] 3)).alloc (.cells (((Try.zeroCells96.setIfInBounds 0 (.pointer (some ⟨db, 0, none⟩))).setIfInBounds 1 (.int .i64 fr)).setIfInBounds 2 (.int .i64 n)) 96)) := by
  have u1 : Upd (fun _ => False) w1 (w1.alloc (.cells #[.slice (some ⟨g, 0, none⟩) 512 c] 98)) := (Upd.refl _ w1).alloc _
  have u2 : Upd (fun _ => False) (w1.alloc (.cells #[.slice (some ⟨g, 0, none⟩) 512 c] 98)) ((w1.alloc (.cells #[.slice (some ⟨g, 0, none⟩) 512 c] 98)).alloc (.cells #[.int .i64 12] 3)) := (Upd.refl _ _).alloc _
  have u3 : Upd (fun _ => False) ((w1.alloc (.cells #[.slice (some ⟨g, 0, none⟩) 512 c] 98)).alloc (.cells #[.int .i64 12] 3)) (((w1.alloc (.cells #[.slice (some ⟨g, 0, none⟩) 512 c] 98)).alloc (.cells #[.int .i64 12] 3)).alloc (.cells (((Try.zeroCells96.setIfInBounds 0 (.pointer (some ⟨db, 0, none⟩))).setIfInBounds 1 (.int .i64 fr)).setIfInBounds 2 (.int .i64 n)) 96)) := (Upd.refl _ _).alloc _
  have s1 : (w1.alloc (.cells #[.slice (some ⟨g, 0, none⟩) 512 c] 98)).heap.size = w1.heap.size + 1 := by simp
  have s2 : ((w1.alloc (.cells #[.slice (some ⟨g, 0, none⟩) 512 c] 98)).alloc (.cells #[.int .i64 12] 3)).heap.size = w1.heap.size + 1 + 1 := by simp
  have n1 := heap_alloc_new w1 (.cells #[.slice (some ⟨g, 0, none⟩) 512 c] 98)
  have n2 := heap_alloc_new (w1.alloc (.cells #[.slice (some ⟨g, 0, none⟩) 512 c] 98)) (.cells #[.int .i64 12] 3)
  rw [s1] at n2
  have n3 := log_new ((w1.alloc (.cells #[.slice (some ⟨g, 0, none⟩) 512 c] 98)).alloc (.cells #[.int .i64 12] 3)) db fr n
  rw [s2] at n3
  have hs := hu.size
  refine ⟨((hu.trans u1).trans u2).trans u3, ((u1.trans u2).trans u3).range hr (fun h => h), hm, hc, ?_, ?_, n3, by omega, by omega, by omega, by omega, by omega⟩
  · exact (u2.trans u3).cell_some (a := ⟨w1.heap.size, 0, none⟩) (by rw [cell_of_row _ _ _ _ _ _ n1]; rfl) (fun h => h)
  · exact u3.cell_some (a := ⟨w1.heap.size + 1, 0, none⟩) (by rw [cell_of_row _ _ _ _ _ _ n2]; rfl) (fun h => h)
set_option maxHeartbeats 2000000 in
theorem open_magic {w : World} {db : Nat} {D : DSt} {F : Nat → Prop} (hD : DiskAt w db D F) (fr n : Nat) (h2 : 2 ≤ n) (hf : fr + n ≤ D.secs.length) (hwt : D.waits.length < 99999999990) (hd : D.dead = false) (m : Bytes) (hm : (done D.secs D.waits)[fr]? = some m) (hml : m.length = 512) (hmg : m.take 12 ≠ magicB) :
    Calls Try.prog 21 #[.pointer (some ⟨db, 0, none⟩), .int .i64 fr, .int .i64 n] w fun r w' => r = .returned (.tuple #[.pointer none, .slice none 0 0, .int .i64 11]) ∧ Upd (fun _ => False) w w' := by
  have hreg := region_good hD fr n (by omega) (by omega) (by omega)
  have hr := read_of_vis hd hm
  have hmost := hD.1.most
  have H := Lib.hid (And.intro hD (And.intro hwt (And.intro hr (And.intro hreg (And.intro hml (And.intro h2 (And.intro hf hmost)))))))
  have hmf : ∀ (fn : Fn) (first cap : Array Value) (w : World), (Instr.makeFunc fn first cap).run Try.prog w = .ok (.func fn first cap) w := fun _ _ _ _ => rfl
  have q0 : ((strV (m.take 12)).toList == [100, 111, 99, 107, 101, 116, 32, 108, 111, 103, 32, 49]) = false := by
    rw [strV_list]
    exact beq_eq_false_iff_ne.2 hmg
  clear hmg
  clear hreg hr hD h2 hf hwt hd hm hml hmost
  go_enter Try.func21, Try.ntmps21
  go_wp2_with fail
  refine H.out.2.2.2.1.mono ?_
  rintro e w1 ⟨rfl, rfl⟩
  dsimp only
  go_wp2_with fail
  refine (read_disk H.out.1 (by have := H.out.2.1; omega) (fr : Nat) H.out.2.2.1).mono ?_
  rintro e w1 ⟨xa, xc, rfl, hrow, hu, -, -⟩
  dsimp only
  have hml := H.out.2.2.2.2.1
  rw [hml] at hrow ⊢
  obtain ⟨g, hxa, hgb, hglt, -⟩ := row_some hrow (by decide)
  subst hxa
  have hm1 := mid_of_row hrow
  have hxc : 512 ≤ xc := by
    obtain ⟨_, ⟨h, _⟩ | ⟨g', o', c', h, h1, _⟩⟩ := hm1
    · cases h
    · cases h; exact h1
  have hr1 : w1.rangeAt g 0 (bvs m) := row_range hrow (by rw [List.drop_zero, List.take_length])
  have H1 := Lib.hid (And.intro hu (And.intro hr1 (And.intro hxc (And.intro hgb hglt))))
  clear hrow hu hgb hglt hm1 hxc hr1 hml
  go_wp2_with fail
  obtain ⟨w2, hw2⟩ : ∃ w2, ((w1.alloc (.cells #[.slice (some ⟨g, 0, none⟩) 512 xc] 98)).alloc (.cells #[.int .i64 12] 3)).alloc (.cells (((Try.zeroCells96.setIfInBounds 0 (.pointer (some ⟨db, 0, none⟩))).setIfInBounds 1 (.int .i64 fr)).setIfInBounds 2 (.int .i64 n)) 96) = w2 := ⟨_, rfl⟩
  have hh := hdr_new H1.out.1 H1.out.2.1 H.out.2.2.2.2.1 H1.out.2.2.1 H1.out.2.2.2.1 H1.out.2.2.2.2 db fr n
  rw [hw2] at hh ⊢
  generalize w1.heap.size + 1 + 1 = lb at *
  generalize w1.heap.size + 1 = pk at *
  generalize w1.heap.size = pb at *
  have hh2 := hh.drew
  have HH := Lib.hid hh2
  have hxc := H1.out.2.2.1
  have hsl12 := slice_toI (P := Try.prog) 98 5 Try.underlying98 (by kernel_rfl) g 0 512 xc 12 12 rfl (by omega) (by omega)
  have HS : w2.drew.cell? ⟨pb, 0, none⟩ = some (.slice (some ⟨g, 0, none⟩) 512 xc) ∧ w2.drew.cell? ⟨pk, 0, none⟩ = some (.int .i64 12) ∧ Hid (Hdr w g xc pb pk lb m (preL (LSt.made fr n) db (.slice none 0 0)) w2.drew) := ⟨hh2.b, hh2.k, hh2⟩
  clear hh hh2 hw2 hxc hmf
  refine wp_region_planD (fun w' => w'.cell? ⟨pb, 0, none⟩ = some (.slice (some ⟨g, 0, none⟩) 512 xc) ∧ w'.cell? ⟨pk, 0, none⟩ = some (.int .i64 12) ∧ Hid (Hdr w g xc pb pk lb m (preL (LSt.made fr n) db (.slice none 0 0)) w')) 36 [(0, true), (1, true), (2, true), (3, true), (4, true), (5, true), (6, true), (8, true), (9, true), (7, false), (10, true), (11, true), (12, true), (13, true), (15, true), (16, true), (14, false), (17, true), (18, true), (19, true), (20, true), (21, true), (22, true), (23, true), (24, true), (25, true), (26, true), (27, true), (28, true), (29, true), (30, true), (31, true), (32, false), (33, true), (34, true), (35, true)] (by kernel_rfl) (by kernel_rfl) (fun d _ _ _ _ h => by cases d <;> exact h) HS ?_
  iterate 3 (apply planD_held rfl rfl rfl (by simp) HS; (intro w' hS K hK; go_simp; exact hK))
  apply planD_held rfl rfl rfl (by simp) HS
  · intro w' hS K hK
    exact gives_bytes_string 5 (.slice (some ⟨g, 0, none⟩) 12 xc) (m.take 12) Try.underlying98 Try.underlying5 Try.underlying9 rfl (hS.2.2.out.sees12) hK
  simp only [Act.put, List.setIfInBounds_toArray, List.set_cons_zero, List.set_cons_succ]
  iterate 2 (apply planD_held rfl rfl rfl (by simp) HS; (intro w' hS K hK; go_simp; exact hK))
  iterate 3 (refine planD_skipd rfl rfl (by kernel_rfl) ?_; simp only [Act.put, List.setIfInBounds_toArray, List.set_cons_zero, List.set_cons_succ])
  refine planD_not rfl rfl (by kernel_rfl) HS ?_
  try (simp only [Act.put, List.setIfInBounds_toArray, List.set_cons_zero, List.set_cons_succ])
  refine planD_skipd rfl rfl (by kernel_rfl) ?_
  simp only [Act.put, List.setIfInBounds_toArray, List.set_cons_zero, List.set_cons_succ]
  iterate 2 (apply planD_held rfl rfl rfl (by simp) HS; (intro w' hS K hK; go_simp; exact hK))
  iterate 3 (refine planD_skipd rfl rfl (by kernel_rfl) ?_; simp only [Act.put, List.setIfInBounds_toArray, List.set_cons_zero, List.set_cons_succ])
  refine planD_not rfl rfl (by kernel_rfl) HS ?_
  try (simp only [Act.put, List.setIfInBounds_toArray, List.set_cons_zero, List.set_cons_succ])
  refine planD_skipd rfl rfl (by kernel_rfl) ?_
  simp only [Act.put, List.setIfInBounds_toArray, List.set_cons_zero, List.set_cons_succ]
  iterate 2 (apply planD_held rfl rfl rfl (by simp) HS; (intro w' hS K hK; go_simp; exact hK))
  iterate 12 (refine planD_skipd rfl rfl (by kernel_rfl) ?_; simp only [Act.put, List.setIfInBounds_toArray, List.set_cons_zero, List.set_cons_succ])
  refine planD_not rfl rfl (by kernel_rfl) HS ?_
  try (simp only [Act.put, List.setIfInBounds_toArray, List.set_cons_zero, List.set_cons_succ])
  iterate 2 (refine planD_skipd rfl rfl (by kernel_rfl) ?_; simp only [Act.put, List.setIfInBounds_toArray, List.set_cons_zero, List.set_cons_succ])
  (apply planD_held rfl rfl rfl (by simp) HS; (intro w' hS K hK; go_simp; exact hK))
  refine planD_nil ?_
  clear HS
  go_wp2_with fail
  go_ret3
  exact ⟨rfl, HH.out.upd⟩
set_option maxHeartbeats 2000000 in
theorem open_n {w : World} {db : Nat} {D : DSt} {F : Nat → Prop} (hD : DiskAt w db D F) (fr n : Nat) (h2 : 2 ≤ n) (hf : fr + n ≤ D.secs.length) (hwt : D.waits.length < 99999999990) (hd : D.dead = false) (m : Bytes) (hm : (done D.secs D.waits)[fr]? = some m) (hml : m.length = 512) (hmg : m.take 12 = magicB) (h0 : fieldOf m 0 = fr) (n1 : Nat) (h1 : fieldOf m 1 = n1) (hn1 : n1 ≠ n) :
    Calls Try.prog 21 #[.pointer (some ⟨db, 0, none⟩), .int .i64 fr, .int .i64 n] w fun r w' => r = .returned (.tuple #[.pointer none, .slice none 0 0, .int .i64 11]) ∧ Upd (fun _ => False) w w' := by
  have hreg := region_good hD fr n (by omega) (by omega) (by omega)
  have hr := read_of_vis hd hm
  have hmost := hD.1.most
  have H := Lib.hid (And.intro hD (And.intro hwt (And.intro hr (And.intro hreg (And.intro hml (And.intro h2 (And.intro hf hmost)))))))
  have hmf : ∀ (fn : Fn) (first cap : Array Value) (w : World), (Instr.makeFunc fn first cap).run Try.prog w = .ok (.func fn first cap) w := fun _ _ _ _ => rfl
  have q0 : ((strV (m.take 12)).toList == [100, 111, 99, 107, 101, 116, 32, 108, 111, 103, 32, 49]) = true := by
    rw [strV_list, hmg]
    rfl
  have f1 : IntKind.u64.wrap (fr : Int) = (fr : Int) := by have := hD.1.most; show (fr : Int) % 18446744073709551616 = _; omega
  have f2 : IntKind.u64.wrap (n : Int) = (n : Int) := by have := hD.1.most; show (n : Int) % 18446744073709551616 = _; omega
  have q1 : ((n1 : Int) != (n : Int)) = true := by rw [bne_iff_ne]; omega
  have Hf := Lib.hid (And.intro h0 h1)
  clear hmg h0 h1 hn1
  clear hreg hr hD h2 hf hwt hd hm hml hmost
  go_enter Try.func21, Try.ntmps21
  go_wp2_with fail
  refine H.out.2.2.2.1.mono ?_
  rintro e w1 ⟨rfl, rfl⟩
  dsimp only
  go_wp2_with fail
  refine (read_disk H.out.1 (by have := H.out.2.1; omega) (fr : Nat) H.out.2.2.1).mono ?_
  rintro e w1 ⟨xa, xc, rfl, hrow, hu, -, -⟩
  dsimp only
  have hml := H.out.2.2.2.2.1
  rw [hml] at hrow ⊢
  obtain ⟨g, hxa, hgb, hglt, -⟩ := row_some hrow (by decide)
  subst hxa
  have hm1 := mid_of_row hrow
  have hxc : 512 ≤ xc := by
    obtain ⟨_, ⟨h, _⟩ | ⟨g', o', c', h, h1, _⟩⟩ := hm1
    · cases h
    · cases h; exact h1
  have hr1 : w1.rangeAt g 0 (bvs m) := row_range hrow (by rw [List.drop_zero, List.take_length])
  have H1 := Lib.hid (And.intro hu (And.intro hr1 (And.intro hxc (And.intro hgb hglt))))
  clear hrow hu hgb hglt hm1 hxc hr1 hml
  go_wp2_with fail
  obtain ⟨w2, hw2⟩ : ∃ w2, ((w1.alloc (.cells #[.slice (some ⟨g, 0, none⟩) 512 xc] 98)).alloc (.cells #[.int .i64 12] 3)).alloc (.cells (((Try.zeroCells96.setIfInBounds 0 (.pointer (some ⟨db, 0, none⟩))).setIfInBounds 1 (.int .i64 fr)).setIfInBounds 2 (.int .i64 n)) 96) = w2 := ⟨_, rfl⟩
  have hh := hdr_new H1.out.1 H1.out.2.1 H.out.2.2.2.2.1 H1.out.2.2.1 H1.out.2.2.2.1 H1.out.2.2.2.2 db fr n
  rw [hw2] at hh ⊢
  generalize w1.heap.size + 1 + 1 = lb at *
  generalize w1.heap.size + 1 = pk at *
  generalize w1.heap.size = pb at *
  have hh2 := hh.drew
  have HH := Lib.hid hh2
  have hxc := H1.out.2.2.1
  have hsl12 := slice_toI (P := Try.prog) 98 5 Try.underlying98 (by kernel_rfl) g 0 512 xc 12 12 rfl (by omega) (by omega)
  have HS : w2.drew.cell? ⟨pb, 0, none⟩ = some (.slice (some ⟨g, 0, none⟩) 512 xc) ∧ w2.drew.cell? ⟨pk, 0, none⟩ = some (.int .i64 12) ∧ Hid (Hdr w g xc pb pk lb m (preL (LSt.made fr n) db (.slice none 0 0)) w2.drew) := ⟨hh2.b, hh2.k, hh2⟩
  clear hh hh2 hw2 hxc hmf
  refine wp_region_planD (fun w' => w'.cell? ⟨pb, 0, none⟩ = some (.slice (some ⟨g, 0, none⟩) 512 xc) ∧ w'.cell? ⟨pk, 0, none⟩ = some (.int .i64 12) ∧ Hid (Hdr w g xc pb pk lb m (preL (LSt.made fr n) db (.slice none 0 0)) w')) 36 [(0, true), (1, true), (2, true), (3, true), (4, true), (5, true), (6, true), (8, true), (9, true), (7, false), (10, true), (11, true), (12, true), (13, true), (15, true), (16, true), (14, false), (17, true), (18, true), (19, true), (20, true), (21, true), (22, true), (23, true), (24, true), (25, true), (26, true), (27, true), (28, true), (29, true), (30, true), (31, true), (32, false), (33, true), (34, true), (35, true)] (by kernel_rfl) (by kernel_rfl) (fun d _ _ _ _ h => by cases d <;> exact h) HS ?_
  iterate 3 (apply planD_held rfl rfl rfl (by simp) HS; (intro w' hS K hK; go_simp; exact hK))
  apply planD_held rfl rfl rfl (by simp) HS
  · intro w' hS K hK
    exact gives_bytes_string 5 (.slice (some ⟨g, 0, none⟩) 12 xc) (m.take 12) Try.underlying98 Try.underlying5 Try.underlying9 rfl (hS.2.2.out.sees12) hK
  simp only [Act.put, List.setIfInBounds_toArray, List.set_cons_zero, List.set_cons_succ]
  iterate 5 (first | (apply planD_held rfl rfl rfl (by simp) HS; (intro w' hS K hK; go_simp; exact hK)) | (apply planD_wanted rfl rfl rfl (by simp) HS; (intro w' hS K hK; go_simp; exact hK)))
  refine planD_op rfl (by kernel_rfl) (fun K hK => ?_)
  go_simp
  refine (field_ok pb pk g 0 xc m 0 0 rfl _ HS.1 HS.2.1 HH.out.range HH.out.len HH.out.cap (by decide) fr Hf.out.1).mono ?_
  rintro e' w3 ⟨rfl, rfl⟩
  dsimp only
  refine hK _ _ _ (fun u h => h) (fun _ => HS) ?_
  clear hK
  try (simp only [Act.put, List.setIfInBounds_toArray, List.set_cons_zero, List.set_cons_succ])
  iterate 6 (first | (apply planD_held rfl rfl rfl (by simp) HS; (intro w' hS K hK; go_simp; exact hK)) | (apply planD_wanted rfl rfl rfl (by simp) HS; (intro w' hS K hK; go_simp; exact hK)))
  refine planD_op rfl (by kernel_rfl) (fun K hK => ?_)
  go_simp
  refine (field_ok pb pk g 0 xc m 1 1 rfl _ HS.1 HS.2.1 HH.out.range HH.out.len HH.out.cap (by decide) n1 Hf.out.2).mono ?_
  rintro e' w3 ⟨rfl, rfl⟩
  dsimp only
  refine hK _ _ _ (fun u h => h) (fun _ => HS) ?_
  clear hK
  try (simp only [Act.put, List.setIfInBounds_toArray, List.set_cons_zero, List.set_cons_succ])
  iterate 3 (first | (apply planD_held rfl rfl rfl (by simp) HS; (intro w' hS K hK; go_simp; exact hK)) | (apply planD_wanted rfl rfl rfl (by simp) HS; (intro w' hS K hK; go_simp; exact hK)))
  iterate 12 (refine planD_skipd rfl rfl (by kernel_rfl) ?_; simp only [Act.put, List.setIfInBounds_toArray, List.set_cons_zero, List.set_cons_succ])
  refine planD_not rfl rfl (by kernel_rfl) HS ?_
  try (simp only [Act.put, List.setIfInBounds_toArray, List.set_cons_zero, List.set_cons_succ])
  iterate 2 (refine planD_skipd rfl rfl (by kernel_rfl) ?_; simp only [Act.put, List.setIfInBounds_toArray, List.set_cons_zero, List.set_cons_succ])
  (apply planD_held rfl rfl rfl (by simp) HS; (intro w' hS K hK; go_simp; exact hK))
  refine planD_nil ?_
  clear HS
  go_wp2_with fail
  go_ret3
  exact ⟨rfl, HH.out.upd⟩
end Go.Proofs.Ytocameknhglklaa
