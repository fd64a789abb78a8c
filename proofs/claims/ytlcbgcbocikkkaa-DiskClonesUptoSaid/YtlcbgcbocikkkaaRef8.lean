/- docketlaw02.step: an Op on both disks. -/
import Derived.Test.YtlcbgcbocikkkaaRef7
import Derived.Test.YtlcbgcbocikkkaaLaw2c
namespace Go.Proofs.Ytlcbgcbocikkkaa
open Go.RowKit
set_option linter.unusedSimpArgs false
set_option linter.unusedVariables false
set_option maxRecDepth 100000

def stepD (D : DSt) (o : OpR) : DSt :=
  if o.kind % 6 = 0 then (D.write o.i o.data.data.toList).1
  else if o.kind % 6 = 2 then D.flush.1
  else if o.kind % 6 = 3 then D.crash o.keep
  else if o.kind % 6 = 4 then D.setFuel o.i
  else D
/-- What a call leaves of both disks. -/
def Pair (w : World) (b rb : Nat) (F G : Nat → Prop) (D : DSt) (M : Nat) (w' : World) : Prop :=
  ∃ F' G', DiskAt w' b D F' ∧ RefAt w' rb D M G' ∧ (∀ k, F' k → ¬ G' k) ∧ Upd (fun k => F k ∨ G k) w w' ∧ (∀ k, F' k → F k ∨ w.heap.size ≤ k) ∧ (∀ k, G' k → G k ∨ w.heap.size ≤ k)

/-- One call on each, the disk's first. -/
theorem Pair.mk2 {w w0 w1 w2 : World} {b rb : Nat} {F G F' G' : Nat → Prop} {D : DSt} {M : Nat} (hGl : ∀ k, G k → k < w.heap.size) (hdis : ∀ k, F k → ¬ G k) (hu0 : Upd (fun _ => False) w w0)
    (hD : DiskAt w1 b D F') (hu1 : Upd F w0 w1) (hF : ∀ k, F' k → F k ∨ w0.heap.size ≤ k) (hR : RefAt w2 rb D M G') (hu2 : Upd G w1 w2) (hG : ∀ k, G' k → G k ∨ w1.heap.size ≤ k) : Pair w b rb F G D M w2 := by
  have s0 := hu0.size
  have s1 := hu1.size
  refine ⟨F', G', hD.upd hu2 (fun k hk hg => ?_), hR, fun k hk hg => ?_, ?_, fun k hk => (hF k hk).imp id (fun h => by omega), fun k hk => (hG k hk).imp id (fun h => by omega)⟩
  · have := hGl k hg
    rcases hF k hk with h | h
    · exact hdis k h hg
    · omega
  · have := hD.lt k hk
    rcases hG k hg with h | h
    · have h2 := hGl k h
      rcases hF k hk with h' | h'
      · exact hdis k h' h
      · omega
    · omega
  · exact ((hu0.mono (G := fun k => F k ∨ G k) (fun _ _ h => h.elim)).then hu1 (fun i hi => .inl (.inl hi))).then hu2 (fun i hi => .inl (.inr hi))


/-- An Op, boxed. -/
theorem box_cells (w : World) (o : OpR) (t : TypeId) :
    (w.alloc (.cells (opV o).toArray t)).cell? ⟨w.heap.size, 0, none⟩ = some (.int .u8 o.kind) ∧ (w.alloc (.cells (opV o).toArray t)).cell? ⟨w.heap.size, 1, none⟩ = some (.int .i64 o.i) ∧
    (w.alloc (.cells (opV o).toArray t)).cell? ⟨w.heap.size, 2, none⟩ = some (.string o.data) ∧ (w.alloc (.cells (opV o).toArray t)).cell? ⟨w.heap.size, 3, none⟩ = some (.slice o.ka o.keep.length o.kc) :=
  four (heap_alloc_new w (.cells (opV o).toArray t))

section
variable {w : World} {b rb : Nat} {D : DSt} {M : Nat} {F G : Nat → Prop}

set_option maxHeartbeats 2000000 in
theorem step_write (hD : DiskAt w b D F) (hR : RefAt w rb D M G) (hdis : ∀ k, F k → ¬ G k) (hM : M < 999999999) (hwl : D.waits.length < 999999999) (o : OpR) (ho : o.Ok w) (hko : ∀ x, o.ka = some x → 0 < o.keep.length → ¬ F x.block ∧ ¬ G x.block) (hk : o.kind % 6 = 0) :
    Calls Try.prog 31 #[.pointer (some ⟨b, 0, none⟩), .pointer (some ⟨rb, 0, none⟩), .agg (opV o).toArray] w fun e w' => e = .returned (.bool true) ∧ Pair w b rb F G (stepD D o) (M + 1) w' := by
  have hk6 : (o.kind : Int) % 6 = 0 := by omega
  have hk0 : (0 : Int) ≤ (o.kind : Int) := by omega
  have hk5 : (o.kind : Int) ≤ 255 := by have := ho.kind; omega
  obtain ⟨q0, q1, q2, q3⟩ := box_cells w o 50
  have hu0 : Upd (fun _ => False) w (w.alloc (.cells (opV o).toArray 50)) := (Upd.refl _ _).alloc _
  obtain ⟨D', r, hwr⟩ : ∃ D' r, D.write o.i o.data.data.toList = (D', r) := ⟨_, _, rfl⟩
  have hst : stepD D o = D' := by rw [stepD, if_pos hk, hwr]
  have Hst := Lib.hid hst
  have HD := Lib.hid (And.intro hD (And.intro hR (And.intro hdis (And.intro hM (And.intro hwl hwr)))))
  have Ho := Lib.hid ho
  have H0 := Lib.hid hu0
  clear hk hst hD hR hdis hM hwl hwr ho hu0 hko
  go_enter Try.func31, Try.ntmps31
  go_wp2_with fail
  generalize hX : w.alloc (.cells (opV o).toArray 50) = X at *
  generalize hB : w.heap.size = B at *
  have HS : X.drew.cell? ⟨B, 1, none⟩ = some (.int .i64 o.i) ∧ X.drew.cell? ⟨B, 2, none⟩ = some (.string o.data) := ⟨q1, q2⟩
  refine wp_region_planC (fun w' => w'.cell? ⟨B, 1, none⟩ = some (.int .i64 o.i) ∧ w'.cell? ⟨B, 2, none⟩ = some (.string o.data)) 15 [(0, true), (1, true), (2, true), (3, true), (4, true), (7, true), (8, true), (9, true), (10, true), (11, true), (5, false), (6, false), (12, false), (13, true), (14, true)] (by kernel_rfl) (by kernel_rfl) (fun d _ _ _ _ h => by cases d <;> exact h) HS ?_
  iterate 10 (apply planC_held rfl rfl rfl (by simp) HS; (intro w' hS K hK; go_simp; exact hK))
  refine planC_op rfl rfl (fun K hK => ?_)
  refine wp_string_bytes 5 o.data Try.underlying9 Try.underlying22 Try.underlying5 rfl Ho.out.data ?_
  intro c X2 hX2 hXs hXe
  have hUX : Upd (fun _ => False) w X2 := by
    have h1 := H0.out
    exact h1.drew.trans hX2
  have HS : X2.cell? ⟨B, 1, none⟩ = some (.int .i64 o.i) ∧ X2.cell? ⟨B, 2, none⟩ = some (.string o.data) := ⟨hX2.cell_some HS.1 (fun h => h), hX2.cell_some HS.2 (fun h => h)⟩
  refine hK _ _ (fun _ => HS) ?_
  clear hK
  try (simp only [Act.put, List.setIfInBounds_toArray, List.set_cons_zero, List.set_cons_succ])
  have hsl : o.data.data.toList.length = o.data.size := by rw [Array.length_toList]; rfl
  have hBX : w.heap.size ≤ X.heap.size := H0.out.size
  have hW := write_disk (HD.out.1.upd hUX (fun _ _ h => h)) o.i (some ⟨X.drew.heap.size, 0, none⟩) c o.data.data.toList (by rw [hsl]; exact hXe) (fun x hx _ h => by cases hx; have := HD.out.1.lt _ h; simp at this; omega) (by have := HD.out.2.2.2.2.1; omega) HD.out.2.2.2.2.2
  rw [hsl] at hW
  have HW := Lib.hid hW
  have HX2 := Lib.hid (And.intro hUX hBX)
  clear hW hsl hXe hXs hUX hBX hX2
  refine planC_op rfl rfl (fun K hK => ?_)
  go_simp
  refine HW.out.mono ?_
  rintro e w3 ⟨rfl, F', hD3, hu3, hF3⟩
  dsimp only
  have hBF : ¬ F B := fun h => by have := HD.out.1.lt _ h; rw [← hB] at this; omega
  have HS : w3.cell? ⟨B, 1, none⟩ = some (.int .i64 o.i) ∧ w3.cell? ⟨B, 2, none⟩ = some (.string o.data) := ⟨hu3.cell_some HS.1 hBF, hu3.cell_some HS.2 hBF⟩
  refine hK _ _ (fun _ => HS) ?_
  clear hK
  try (simp only [Act.put, List.setIfInBounds_toArray, List.set_cons_zero, List.set_cons_succ])
  have hR3 : RefAt w3 rb D M G := (HD.out.2.1.upd HX2.out.1 (fun _ _ h => h)).upd hu3 (fun k hk hf => HD.out.2.2.1 k hf hk)
  have HW2 := Lib.hid (ref_write hR3 (by have := HD.out.2.2.2.1; omega) o.i o.data HD.out.2.2.2.2.2)
  have HD3 := Lib.hid (And.intro hD3 (And.intro hu3 hF3))
  clear hR3 hD3 hu3 hF3 hBF
  refine planC_op rfl rfl (fun K hK => ?_)
  go_simp
  refine HW2.out.mono ?_
  rintro e w4 ⟨rfl, G', hR4, hu4, hG4⟩
  dsimp only
  have HP : Hid (Pair w b rb F G (stepD D o) (M + 1) w4) := by
    show Pair _ _ _ _ _ _ _ _
    rw [Hst.out]
    exact Pair.mk2 HD.out.2.1.lt HD.out.2.2.1 HX2.out.1 HD3.out.1 HD3.out.2.1 HD3.out.2.2 hR4 hu4 hG4
  have hBG : ¬ G B := fun h => by have := HD.out.2.1.lt _ h; rw [← hB] at this; omega
  have HS : w4.cell? ⟨B, 1, none⟩ = some (.int .i64 o.i) ∧ w4.cell? ⟨B, 2, none⟩ = some (.string o.data) := ⟨hu4.cell_some HS.1 hBG, hu4.cell_some HS.2 hBG⟩
  refine hK _ _ (fun _ => HS) ?_
  clear hK hR4 hu4 hG4 hBG
  try (simp only [Act.put, List.setIfInBounds_toArray, List.set_cons_zero, List.set_cons_succ])
  iterate 2 (apply planC_held rfl rfl rfl (by simp) HS; (intro w' hS K hK; go_simp; exact hK))
  refine planC_nil ?_
  clear HS
  go_wp2_with fail
  go_ret
  exact ⟨by simp, HP.out⟩

theorem Pair.same {w' : World} (hD : DiskAt w b D F) (hR : RefAt w rb D M G) (hdis : ∀ k, F k → ¬ G k) (hu : Upd (fun _ => False) w w') : Pair w b rb F G D (M + 1) w' :=
  ⟨F, G, hD.upd hu (fun _ _ h => h), (hR.upd hu (fun _ _ h => h)).more (by omega), hdis, hu.mono (fun _ _ h => h.elim), fun _ h => .inl h, fun _ h => .inl h⟩

set_option maxHeartbeats 2000000 in
theorem step_read (hD : DiskAt w b D F) (hR : RefAt w rb D M G) (hdis : ∀ k, F k → ¬ G k) (hM : M < 999999999) (hwl : D.waits.length < 999999999) (o : OpR) (ho : o.Ok w) (hko : ∀ x, o.ka = some x → 0 < o.keep.length → ¬ F x.block ∧ ¬ G x.block) (hk : o.kind % 6 = 1) :
    Calls Try.prog 31 #[.pointer (some ⟨b, 0, none⟩), .pointer (some ⟨rb, 0, none⟩), .agg (opV o).toArray] w fun e w' => e = .returned (.bool true) ∧ Pair w b rb F G (stepD D o) (M + 1) w' := by
  have hk6 : (o.kind : Int) % 6 = 1 := by omega
  have hk0 : (0 : Int) ≤ (o.kind : Int) := by omega
  have hk5 : (o.kind : Int) ≤ 255 := by have := ho.kind; omega
  obtain ⟨q0, q1, q2, q3⟩ := box_cells w o 50
  have hu0 : Upd (fun _ => False) w (w.alloc (.cells (opV o).toArray 50)) := (Upd.refl _ _).alloc _
  obtain ⟨r, x, hrd⟩ : ∃ r x, D.read o.i = (r, x) := ⟨_, _, rfl⟩
  have hst : stepD D o = D := by rw [stepD, if_neg (by omega), if_neg (by omega), if_neg (by omega), if_neg (by omega)]
  have Hst := Lib.hid hst
  have HD := Lib.hid (And.intro hD (And.intro hR (And.intro hdis (And.intro hM (And.intro hwl hrd)))))
  have H1 := Lib.hid (And.intro (hD.upd hu0 (fun _ _ h => h)) (And.intro (hR.upd hu0 (fun _ _ h => h)) hu0))
  clear hk hst hD hR hdis hM hwl hrd ho hu0 hko
  go_enter Try.func31, Try.ntmps31
  go_wp2_with fail
  generalize hX : w.alloc (.cells (opV o).toArray 50) = X at *
  generalize hB : w.heap.size = B at *
  refine (read_disk H1.out.1 (by have := HD.out.2.2.2.2.1; omega) o.i HD.out.2.2.2.2.2).mono ?_
  rintro e w1 ⟨xa, xc, rfl, r1, u1, hz⟩
  clear hz
  dsimp only
  have q1 := u1.cell_some q1 (fun h => h)
  have HU1 := Lib.hid (And.intro (H1.out.2.2.trans u1) (sees_of_row r1))
  have hr1 := H1.out.2.1.upd u1 (fun _ _ h => h)
  clear q0 q2 q3 u1 r1
  go_wp2_with fail
  refine (ref_read hr1 o.i HD.out.2.2.2.2.2).mono ?_
  rintro e w2 ⟨rfl, u2⟩
  dsimp only
  have hcv := conv_fact _ r w2 (HU1.out.2.upd u2 (fun _ _ _ h => h))
  have HP : Hid (Pair w b rb F G (stepD D o) (M + 1) w2) := by
    show Pair _ _ _ _ _ _ _ _
    rw [Hst.out]
    exact Pair.same HD.out.1 HD.out.2.1 HD.out.2.2.1 (HU1.out.1.trans u2)
  clear u2 hr1 q1
  obtain ⟨s, hs⟩ : ∃ s, strV r = s := ⟨_, rfl⟩
  rw [hs] at hcv
  rw [hs]
  clear hs
  go_wp2_with fail
  go_ret
  exact ⟨by simp, HP.out⟩

set_option maxHeartbeats 2000000 in
theorem step_durable (hD : DiskAt w b D F) (hR : RefAt w rb D M G) (hdis : ∀ k, F k → ¬ G k) (hM : M < 999999999) (hwl : D.waits.length < 999999999) (o : OpR) (ho : o.Ok w) (hko : ∀ x, o.ka = some x → 0 < o.keep.length → ¬ F x.block ∧ ¬ G x.block) (hk : o.kind % 6 = 5) :
    Calls Try.prog 31 #[.pointer (some ⟨b, 0, none⟩), .pointer (some ⟨rb, 0, none⟩), .agg (opV o).toArray] w fun e w' => e = .returned (.bool true) ∧ Pair w b rb F G (stepD D o) (M + 1) w' := by
  have hk6 : (o.kind : Int) % 6 = 5 := by omega
  have hk0 : (0 : Int) ≤ (o.kind : Int) := by omega
  have hk5 : (o.kind : Int) ≤ 255 := by have := ho.kind; omega
  obtain ⟨q0, q1, q2, q3⟩ := box_cells w o 50
  have hu0 : Upd (fun _ => False) w (w.alloc (.cells (opV o).toArray 50)) := (Upd.refl _ _).alloc _
  obtain ⟨r, x, hrd⟩ : ∃ r x, D.durable o.i = (r, x) := ⟨_, _, rfl⟩
  have hst : stepD D o = D := by rw [stepD, if_neg (by omega), if_neg (by omega), if_neg (by omega), if_neg (by omega)]
  have Hst := Lib.hid hst
  have HD := Lib.hid (And.intro hD (And.intro hR (And.intro hdis (And.intro hM (And.intro hwl hrd)))))
  have H1 := Lib.hid (And.intro (hD.upd hu0 (fun _ _ h => h)) (And.intro (hR.upd hu0 (fun _ _ h => h)) hu0))
  clear hk hst hD hR hdis hM hwl hrd ho hu0 hko
  go_enter Try.func31, Try.ntmps31
  go_wp2_with fail
  generalize hX : w.alloc (.cells (opV o).toArray 50) = X at *
  generalize hB : w.heap.size = B at *
  refine (durable_disk H1.out.1 o.i HD.out.2.2.2.2.2).mono ?_
  rintro e w1 ⟨xa, xc, rfl, r1, u1⟩
  skip
  dsimp only
  have q1 := u1.cell_some q1 (fun h => h)
  have HU1 := Lib.hid (And.intro (H1.out.2.2.trans u1) (sees_of_row r1))
  have hr1 := H1.out.2.1.upd u1 (fun _ _ h => h)
  clear q0 q2 q3 u1 r1
  go_wp2_with fail
  refine (ref_durable hr1 o.i HD.out.2.2.2.2.2).mono ?_
  rintro e w2 ⟨rfl, u2⟩
  dsimp only
  have hcv := conv_fact _ r w2 (HU1.out.2.upd u2 (fun _ _ _ h => h))
  have HP : Hid (Pair w b rb F G (stepD D o) (M + 1) w2) := by
    show Pair _ _ _ _ _ _ _ _
    rw [Hst.out]
    exact Pair.same HD.out.1 HD.out.2.1 HD.out.2.2.1 (HU1.out.1.trans u2)
  clear u2 hr1 q1
  obtain ⟨s, hs⟩ : ∃ s, strV r = s := ⟨_, rfl⟩
  rw [hs] at hcv
  rw [hs]
  clear hs
  go_wp2_with fail
  go_ret
  exact ⟨by simp, HP.out⟩

set_option maxHeartbeats 2000000 in
theorem step_flush (hD : DiskAt w b D F) (hR : RefAt w rb D M G) (hdis : ∀ k, F k → ¬ G k) (hM : M < 999999999) (hwl : D.waits.length < 999999999) (o : OpR) (ho : o.Ok w) (hko : ∀ x, o.ka = some x → 0 < o.keep.length → ¬ F x.block ∧ ¬ G x.block) (hk : o.kind % 6 = 2) :
    Calls Try.prog 31 #[.pointer (some ⟨b, 0, none⟩), .pointer (some ⟨rb, 0, none⟩), .agg (opV o).toArray] w fun e w' => e = .returned (.bool true) ∧ Pair w b rb F G (stepD D o) (M + 1) w' := by
  have hk6 : (o.kind : Int) % 6 = 2 := by omega
  have hk0 : (0 : Int) ≤ (o.kind : Int) := by omega
  have hk5 : (o.kind : Int) ≤ 255 := by have := ho.kind; omega
  obtain ⟨q0, q1, q2, q3⟩ := box_cells w o 50
  have hu0 : Upd (fun _ => False) w (w.alloc (.cells (opV o).toArray 50)) := (Upd.refl _ _).alloc _
  obtain ⟨D', r, hrd⟩ : ∃ D' r, D.flush = (D', r) := ⟨_, _, rfl⟩
  have hst : stepD D o = D' := by rw [stepD, if_neg (by omega), if_pos hk, hrd]
  have Hst := Lib.hid hst
  have HD := Lib.hid (And.intro hD (And.intro hR (And.intro hdis (And.intro hM (And.intro hwl hrd)))))
  have H1 := Lib.hid (And.intro (hD.upd hu0 (fun _ _ h => h)) (And.intro (hR.upd hu0 (fun _ _ h => h)) hu0))
  clear hk hst hD hR hdis hM hwl hrd ho hu0 hko
  go_enter Try.func31, Try.ntmps31
  go_wp2_with fail
  generalize hX : w.alloc (.cells (opV o).toArray 50) = X at *
  generalize hB : w.heap.size = B at *
  refine (flush_disk H1.out.1 (by have := HD.out.2.2.2.2.1; omega) HD.out.2.2.2.2.2).mono ?_
  rintro e w1 ⟨rfl, hD1, u1⟩
  dsimp only
  have HU1 := Lib.hid (And.intro hD1 u1)
  have hr1 := H1.out.2.1.upd u1 (fun k hk hf => HD.out.2.2.1 k hf hk)
  clear q0 q1 q2 q3 u1 hD1
  go_wp2_with fail
  refine (ref_flush hr1 (by have := HD.out.2.2.2.1; omega) HD.out.2.2.2.2.2).mono ?_
  rintro e w2 ⟨rfl, G', hR2, u2, hG2⟩
  dsimp only
  have HP : Hid (Pair w b rb F G (stepD D o) (M + 1) w2) := by
    show Pair _ _ _ _ _ _ _ _
    rw [Hst.out]
    exact Pair.mk2 HD.out.2.1.lt HD.out.2.2.1 H1.out.2.2 HU1.out.1 HU1.out.2 (fun k h => .inl h) (hR2.more (by omega)) u2 hG2
  clear u2 hr1 hR2 hG2
  go_wp2_with fail
  go_ret
  exact ⟨by simp, HP.out⟩

set_option maxHeartbeats 2000000 in
theorem step_crash (hD : DiskAt w b D F) (hR : RefAt w rb D M G) (hdis : ∀ k, F k → ¬ G k) (hM : M < 999999999) (hwl : D.waits.length < 999999999) (o : OpR) (ho : o.Ok w) (hko : ∀ x, o.ka = some x → 0 < o.keep.length → ¬ F x.block ∧ ¬ G x.block) (hk : o.kind % 6 = 3) :
    Calls Try.prog 31 #[.pointer (some ⟨b, 0, none⟩), .pointer (some ⟨rb, 0, none⟩), .agg (opV o).toArray] w fun e w' => e = .returned (.bool true) ∧ Pair w b rb F G (stepD D o) (M + 1) w' := by
  have hk6 : (o.kind : Int) % 6 = 3 := by omega
  have hk0 : (0 : Int) ≤ (o.kind : Int) := by omega
  have hk5 : (o.kind : Int) ≤ 255 := by have := ho.kind; omega
  obtain ⟨q0, q1, q2, q3⟩ := box_cells w o 50
  have hu0 : Upd (fun _ => False) w (w.alloc (.cells (opV o).toArray 50)) := (Upd.refl _ _).alloc _
  have hst : stepD D o = D.crash o.keep := by rw [stepD, if_neg (by omega), if_neg (by omega), if_pos hk]
  have Hst := Lib.hid hst
  have HD := Lib.hid (And.intro hD (And.intro hR (And.intro hdis (And.intro hM (And.intro hwl hko)))))
  have H1 := Lib.hid (And.intro (hD.upd hu0 (fun _ _ h => h)) (And.intro (hR.upd hu0 (fun _ _ h => h)) (And.intro hu0 (ho.keep.upd hu0 (fun _ _ _ h => h)))))
  clear hk hst hD hR hdis hM hwl ho hu0 hko
  go_enter Try.func31, Try.ntmps31
  go_wp2_with fail
  generalize hX : w.alloc (.cells (opV o).toArray 50) = X at *
  generalize hB : w.heap.size = B at *
  refine (crash_disk H1.out.1 (by have := HD.out.2.2.2.2.1; omega) _ _ o.keep H1.out.2.2.2 (fun x hx h0 => (HD.out.2.2.2.2.2 x hx h0).1)).mono ?_
  rintro e w1 ⟨rfl, hD1, u1⟩
  dsimp only
  have hBF : ¬ F B := fun h => by have := HD.out.1.lt _ h; rw [← hB] at this; omega
  have q3 := u1.cell_some q3 hBF
  have HU1 := Lib.hid (And.intro hD1 u1)
  have hr1 := H1.out.2.1.upd u1 (fun k hk hf => HD.out.2.2.1 k hf hk)
  have hke := Lib.hid (H1.out.2.2.2.upd u1 (fun k hk h0 hf => by
    cases ha : o.ka with
    | none => rw [ha] at hk; cases hk
    | some x => rw [ha] at hk; cases hk; exact (HD.out.2.2.2.2.2 x ha h0).1 hf))
  clear q0 q1 q2 u1 hD1 hBF
  go_wp2_with fail
  refine (ref_crash hr1 (by have := HD.out.2.2.2.1; omega) _ _ o.keep hke.out (fun x hx h0 => (HD.out.2.2.2.2.2 x hx h0).2)).mono ?_
  rintro e w2 ⟨rfl, G', hR2, u2, hG2⟩
  dsimp only
  have HP : Hid (Pair w b rb F G (stepD D o) (M + 1) w2) := by
    show Pair _ _ _ _ _ _ _ _
    rw [Hst.out]
    exact Pair.mk2 HD.out.2.1.lt HD.out.2.2.1 H1.out.2.2.1 HU1.out.1 HU1.out.2 (fun k h => .inl h) (hR2.more (by omega)) u2 hG2
  clear u2 hr1 hR2 hG2 q3
  go_wp2_with fail
  go_ret
  exact ⟨by simp, HP.out⟩

set_option maxHeartbeats 2000000 in
theorem step_fuel (hD : DiskAt w b D F) (hR : RefAt w rb D M G) (hdis : ∀ k, F k → ¬ G k) (hM : M < 999999999) (hwl : D.waits.length < 999999999) (o : OpR) (ho : o.Ok w) (hko : ∀ x, o.ka = some x → 0 < o.keep.length → ¬ F x.block ∧ ¬ G x.block) (hk : o.kind % 6 = 4) :
    Calls Try.prog 31 #[.pointer (some ⟨b, 0, none⟩), .pointer (some ⟨rb, 0, none⟩), .agg (opV o).toArray] w fun e w' => e = .returned (.bool true) ∧ Pair w b rb F G (stepD D o) (M + 1) w' := by
  have hk6 : (o.kind : Int) % 6 = 4 := by omega
  have hk0 : (0 : Int) ≤ (o.kind : Int) := by omega
  have hk5 : (o.kind : Int) ≤ 255 := by have := ho.kind; omega
  obtain ⟨q0, q1, q2, q3⟩ := box_cells w o 50
  have hu0 : Upd (fun _ => False) w (w.alloc (.cells (opV o).toArray 50)) := (Upd.refl _ _).alloc _
  have hst : stepD D o = D.setFuel o.i := by rw [stepD, if_neg (by omega), if_neg (by omega), if_neg (by omega), if_pos hk]
  have Hst := Lib.hid hst
  have HD := Lib.hid (And.intro hD (And.intro hR (And.intro hdis (And.intro hM hwl))))
  have H1 := Lib.hid (And.intro (hD.upd hu0 (fun _ _ h => h)) (And.intro (hR.upd hu0 (fun _ _ h => h)) hu0))
  have Hoh := Lib.hid ho.hi
  clear hk hst hD hR hdis hM hwl ho hu0 hko
  go_enter Try.func31, Try.ntmps31
  go_wp2_with fail
  generalize hX : w.alloc (.cells (opV o).toArray 50) = X at *
  generalize hB : w.heap.size = B at *
  refine (fuel_disk H1.out.1 o.i Hoh.out).mono ?_
  rintro e w1 ⟨rfl, hD1, u1⟩
  dsimp only
  have hBF : ¬ F B := fun h => by have := HD.out.1.lt _ h; rw [← hB] at this; omega
  have q1 := u1.cell_some q1 hBF
  have HU1 := Lib.hid (And.intro hD1 u1)
  have hr1 := H1.out.2.1.upd u1 (fun k hk hf => HD.out.2.2.1 k hf hk)
  obtain ⟨hR2, u2⟩ := hr1.fuel_set o.i Hoh.out
  have HP : Hid (Pair w b rb F G (stepD D o) (M + 1) (w1.setCell ⟨rb, 3, none⟩ (.int .i64 (max o.i (-1))))) := by
    show Pair _ _ _ _ _ _ _ _
    rw [Hst.out]
    exact Pair.mk2 HD.out.2.1.lt HD.out.2.2.1 H1.out.2.2 HU1.out.1 HU1.out.2 (fun k h => .inl h) (hR2.more (by omega)) u2 (fun k h => .inl h)
  obtain ⟨_, _, _, dn, dv, wv, _, _, hrb, _⟩ := hr1
  obtain ⟨c0, c1, c2, c3, c4⟩ := five hrb
  have f3 := unfrozen hrb 3
  clear q0 q2 q3 u1 hD1 hBF u2 hR2 hrb c0 c1 c2 c4
  rcases (by omega : o.i < -1 ∨ -1 ≤ o.i) with hm | hm
  · have HP2 : Hid (Pair w b rb F G (stepD D o) (M + 1) (w1.setCell ⟨rb, 3, none⟩ (.int .i64 (-1)))) := by
      have := HP.out
      rw [show max o.i (-1) = -1 by omega] at this
      exact Lib.hid this
    clear HP
    go_wp2_with fail
    all_goals (first | (exfalso; omega) | (go_ret; exact ⟨by simp, HP2.out⟩))
  · have HP2 : Hid (Pair w b rb F G (stepD D o) (M + 1) (w1.setCell ⟨rb, 3, none⟩ (.int .i64 o.i))) := by
      have := HP.out
      rw [show max o.i (-1) = o.i by omega] at this
      exact Lib.hid this
    clear HP
    go_wp2_with fail
    all_goals (first | (exfalso; omega) | (go_ret; exact ⟨by simp, HP2.out⟩))

/-- Any Op. -/
theorem step_ok (hD : DiskAt w b D F) (hR : RefAt w rb D M G) (hdis : ∀ k, F k → ¬ G k) (hM : M < 999999999) (hwl : D.waits.length < 999999999) (o : OpR) (ho : o.Ok w) (hko : ∀ x, o.ka = some x → 0 < o.keep.length → ¬ F x.block ∧ ¬ G x.block) :
    Calls Try.prog 31 #[.pointer (some ⟨b, 0, none⟩), .pointer (some ⟨rb, 0, none⟩), .agg (opV o).toArray] w fun e w' => e = .returned (.bool true) ∧ Pair w b rb F G (stepD D o) (M + 1) w' := by
  rcases (by omega : o.kind % 6 = 0 ∨ o.kind % 6 = 1 ∨ o.kind % 6 = 2 ∨ o.kind % 6 = 3 ∨ o.kind % 6 = 4 ∨ o.kind % 6 = 5) with h | h | h | h | h | h
  · exact step_write hD hR hdis hM hwl o ho hko h
  · exact step_read hD hR hdis hM hwl o ho hko h
  · exact step_flush hD hR hdis hM hwl o ho hko h
  · exact step_crash hD hR hdis hM hwl o ho hko h
  · exact step_fuel hD hR hdis hM hwl o ho hko h
  · exact step_durable hD hR hdis hM hwl o ho hko h
theorem stepD_waits (D : DSt) (o : OpR) : (stepD D o).waits.length ≤ D.waits.length + 1 := by
  unfold stepD
  split
  · unfold DSt.write; repeat' split
    all_goals simp
  split
  · unfold DSt.flush; repeat' split
    all_goals simp
  split
  · simp [DSt.crash]
  split
  · simp [DSt.setFuel]
  · omega
end
end Go.Proofs.Ytlcbgcbocikkkaa
