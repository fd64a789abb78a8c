/- Contracts of docketref02, second part: the disk as a list of puts. -/
import Derived.Test.YtlcbgcbocikkkaaRef1
import Derived.Test.YtlcbgcbocikkkaaRegionC
namespace Go.Proofs.Ytlcbgcbocikkkaa
open Go.RowKit
set_option linter.unusedSimpArgs false
set_option linter.unusedVariables false
set_option maxRecDepth 100000

def RefAt (w : World) (b : Nat) (D : DSt) (M : Nat) (F : Nat → Prop) : Prop :=
  D.Ok ∧ F b ∧ (∀ k, F k → k < w.heap.size) ∧ ∃ dn dv wv,
    (∀ i, i < D.secs.length → D.secs.getD i [] = lastOf dn i zeros512) ∧ dn.length + D.waits.length ≤ M ∧
    w.heap[b]? = some (.cells #[.int .i64 D.secs.length, dv, wv, .int .i64 D.fuel, .bool D.dead] 60 (0, 0)) ∧
    w.ownsRow 0 98 2 dv dn.length (putsV dn) ∧ w.ownsRow 0 98 2 wv D.waits.length (putsV D.waits) ∧
    (∀ k, dv.ownBlock = some k → F k ∧ k ≠ b) ∧ (∀ k, wv.ownBlock = some k → F k ∧ k ≠ b) ∧ (∀ k, dv.ownBlock = some k → wv.ownBlock ≠ some k)

theorem RefAt.lt {w : World} {b : Nat} {D : DSt} {M : Nat} {F : Nat → Prop} (h : RefAt w b D M F) : ∀ k, F k → k < w.heap.size := h.2.2.1
theorem RefAt.upd {w w' : World} {b : Nat} {D : DSt} {M : Nat} {F G : Nat → Prop} (h : RefAt w b D M F) (hu : Upd G w w') (hf : ∀ k, F k → ¬ G k) : RefAt w' b D M F := by
  obtain ⟨h0, h1, h2, dn, dv, wv, a1, a2, a3, a4, a5, a6, a7, a8⟩ := h
  exact ⟨h0, h1, fun k hk => Nat.lt_of_lt_of_le (h2 k hk) hu.size, dn, dv, wv, a1, a2, hu.heap a3 (hf b h1), hu.row a4 (fun k hk => hf k (a6 k hk).1), hu.row a5 (fun k hk => hf k (a7 k hk).1), a6, a7, a8⟩
theorem five {w : World} {b : Nat} {v0 v1 v2 v3 v4 : Value} {t : TypeId} (h : w.heap[b]? = some (.cells #[v0, v1, v2, v3, v4] t (0, 0))) :
    w.cell? ⟨b, 0, none⟩ = some v0 ∧ w.cell? ⟨b, 1, none⟩ = some v1 ∧ w.cell? ⟨b, 2, none⟩ = some v2 ∧ w.cell? ⟨b, 3, none⟩ = some v3 ∧ w.cell? ⟨b, 4, none⟩ = some v4 := by
  simp [World.cell?, h]

theorem new_secs (n : Int) (i : Nat) (h : i < (DSt.new n).secs.length) : (DSt.new n).secs.getD i [] = zeros512 := by
  have h2 : i < (min (max n 1) 4096).toNat := by simpa [DSt.new] using h
  simp only [DSt.new, List.getD_eq_getElem?_getD, List.getElem?_replicate, if_pos h2, Option.getD_some]
theorem new_okD (n : Int) : (DSt.new n).Ok := by
  have hl : (DSt.new n).secs.length = (min (max n 1) 4096).toNat := by simp [DSt.new]
  refine ⟨by omega, by omega, fun x hx => ?_, (fun p hp => by cases hp), by show (-1 : Int) ≤ -1; omega, by show (-1 : Int) ≤ 9223372036854775807; omega⟩
  rw [DSt.new] at hx
  rw [List.eq_of_mem_replicate hx, zeros512_length]

theorem ref_new (n : Int) (w : World) :
    Calls Try.prog 29 #[.int .i64 n] w fun e w' => ∃ b F, e = .returned (.pointer (some ⟨b, 0, none⟩)) ∧ RefAt w' b (DSt.new n) 0 F ∧ Upd (fun _ => False) w w' ∧ (∀ k, F k → w.heap.size ≤ k) := by
  have hl : (DSt.new n).secs.length = (min (max n 1) 4096).toNat := by simp [DSt.new]
  have key : ∀ N : Int, N = min (max n 1) 4096 → (∃ b F, Ending.returned (.pointer (some ⟨w.heap.size, 0, none⟩)) = .returned (.pointer (some ⟨b, 0, none⟩)) ∧ RefAt (w.alloc (.cells #[.int .i64 N, .slice none 0 0, .slice none 0 0, .int .i64 (-1), .bool false] 60)) b (DSt.new n) 0 F ∧
      Upd (fun _ => False) w (w.alloc (.cells #[.int .i64 N, .slice none 0 0, .slice none 0 0, .int .i64 (-1), .bool false] 60)) ∧ (∀ k, F k → w.heap.size ≤ k)) := by
    intro N hN
    refine ⟨w.heap.size, fun k => k = w.heap.size, rfl, ⟨new_okD n, rfl, (fun k hk => by rw [hk]; simp), [], .slice none 0 0, .slice none 0 0, fun i hi => new_secs n i hi, Nat.le_refl _, ?_, ⟨by simp [putsV], .inl ⟨rfl, rfl⟩⟩, ⟨by simp [putsV, DSt.new], .inl ⟨rfl, rfl⟩⟩, (fun k hk => by cases hk), (fun k hk => by cases hk), (fun k hk => by cases hk)⟩, (Upd.refl _ _).alloc _, fun k hk => by rw [hk]; exact Nat.le_refl _⟩
    rw [heap_alloc_new, hl, hN]
    have : ((min (max n 1) 4096).toNat : Int) = min (max n 1) 4096 := by omega
    rw [this]
    rfl
  have Hk := Lib.hid key
  clear key hl
  go_enter Try.func29, Try.ntmps29
  rcases (by omega : n < 1 ∨ (1 ≤ n ∧ n ≤ 4096) ∨ 4096 < n) with h1 | ⟨h1, h2⟩ | h1
  · go_wp2_with fail
    go_ret
    exact Hk.out 1 (by omega)
  · go_wp2_with fail
    go_ret
    exact Hk.out n (by omega)
  · go_wp2_with fail
    go_ret
    exact Hk.out 4096 (by omega)

theorem full_nil (w : World) : Calls Try.prog 44 #[.string ⟨#[]⟩] w fun e w' => e = .returned (.string (strV zeros512)) ∧ Upd (fun _ => False) w w' := by
  have h := full_ok ⟨#[]⟩ w (by decide)
  have e : pad (⟨#[]⟩ : ByteArray).data.toList = zeros512 := by simp [pad, zeros512]
  rwa [e] at h

set_option maxHeartbeats 2000000 in
theorem ref_durable {w : World} {b : Nat} {D : DSt} {M : Nat} {F : Nat → Prop} (hD : RefAt w b D M F) (i : Int) {r : Bytes} {x : Int} (hr : D.durable i = (r, x)) :
    Calls Try.prog 48 #[.pointer (some ⟨b, 0, none⟩), .int .i64 i] w fun e w' => e = .returned (.tuple #[.string (strV r), .int .i64 x]) ∧ Upd (fun _ => False) w w' := by
  obtain ⟨hOk, hFb, hFlt, dn, dv, wv, hdn, hM, hb, hdv, hwv, _, _, _⟩ := id hD
  obtain ⟨c0, c1, c2, c3, c4⟩ := five hb
  by_cases hi : i < 0 ∨ (D.secs.length : Int) ≤ i
  · rw [DSt.durable, if_pos hi] at hr
    cases hr
    have hs0 : strV [] = ⟨#[]⟩ := rfl
    rw [hs0]
    clear hb hdv hwv hdn hM
    rcases (by omega : i < 0 ∨ 0 ≤ i ∧ (D.secs.length : Int) ≤ i) with h | ⟨h1, h2⟩
    · clear hi
      go_enter Try.func48, Try.ntmps48
      go_wp2_with fail
      go_ret2
      exact ⟨rfl, Upd.refl _ _⟩
    · clear hi
      go_enter Try.func48, Try.ntmps48
      go_wp2_with fail
      go_ret2
      exact ⟨rfl, Upd.refl _ _⟩
  · rw [DSt.durable, if_neg hi] at hr
    cases hr
    obtain ⟨n, rfl⟩ : ∃ n : Nat, i = n := ⟨i.toNat, by omega⟩
    have hn : n < D.secs.length := by omega
    have h1 : (0 : Int) ≤ (n : Int) := by omega
    have h2 : (n : Int) < (D.secs.length : Int) := by omega
    have e1 : D.secs.getD (n : Int).toNat [] = lastOf dn n zeros512 := by rw [Int.toNat_natCast]; exact hdn n hn
    rw [e1]
    obtain ⟨xa, xc, rfl⟩ := (sees_of_row hdv).shape
    have hse := sees_of_row hdv
    have HS0 := Lib.hid (And.intro c1 hse)
    clear hi hb hdv hwv hdn hM e1 hse hn c2 c3 c4 hD
    go_enter Try.func48, Try.ntmps48
    go_wp2_with fail
    have hd : Upd (fun _ => False) w w.drew := (Upd.refl _ _).drew
    have HS : w.drew.cell? ⟨b, 1, none⟩ = some (.slice xa dn.length xc) ∧ Sees w.drew 2 (.slice xa dn.length xc) dn.length (putsV dn) := ⟨c1, HS0.out.2.upd hd (fun _ _ _ h => h)⟩
    refine wp_region_planC (fun w' => w'.cell? ⟨b, 1, none⟩ = some (.slice xa dn.length xc) ∧ Sees w' 2 (.slice xa dn.length xc) dn.length (putsV dn)) 9 [(0, true), (1, true), (2, true), (3, true), (4, true), (5, false), (6, false), (7, true), (8, true)] (by kernel_rfl) (by kernel_rfl) (fun d _ _ _ _ h => by cases d <;> exact h) HS ?_
    iterate 5 (apply planC_held rfl rfl rfl (by simp) HS; (intro w' hS K hK; go_simp; exact hK))
    refine planC_op rfl rfl (fun K hK => ?_)
    go_simp
    refine (full_nil _).mono ?_
    rintro e w2 ⟨rfl, hu2⟩
    dsimp only
    have HS2 : Hid (w2.cell? ⟨b, 1, none⟩ = some (.slice xa dn.length xc) ∧ Sees w2 2 (.slice xa dn.length xc) dn.length (putsV dn)) := ⟨hu2.cell_some HS.1 (fun h => h), HS.2.upd hu2 (fun _ _ _ h => h)⟩
    have HU := Lib.hid (hd.trans hu2)
    refine hK _ _ (fun _ => HS2.out) ?_
    clear hK HS hu2 c1
    try (simp only [Act.put, List.setIfInBounds_toArray, List.set_cons_zero, List.set_cons_succ])
    refine planC_op rfl rfl (fun K hK => ?_)
    go_simp
    refine (last_ok _ _ dn n zeros512 _ HS2.out.2).mono ?_
    rintro e w' ⟨rfl, rfl⟩
    dsimp only
    refine hK _ _ (fun _ => HS2.out) ?_
    clear hK
    try (simp only [Act.put, List.setIfInBounds_toArray, List.set_cons_zero, List.set_cons_succ])
    obtain ⟨s, hs⟩ : ∃ s, strV (lastOf dn n zeros512) = s := ⟨_, rfl⟩
    rw [hs]
    have HS := HS2.out
    iterate 2 (apply planC_held rfl rfl rfl (by simp) HS; (intro w' hS K hK; go_simp; exact hK))
    refine planC_nil ?_
    clear HS
    go_wp2_with fail
    go_ret2
    exact ⟨by rw [hs]; rfl, HU.out⟩

theorem ref_read {w : World} {b : Nat} {D : DSt} {M : Nat} {F : Nat → Prop} (hD : RefAt w b D M F) (i : Int) {r : Bytes} {x : Int} (hr : D.read i = (r, x)) :
    Calls Try.prog 45 #[.pointer (some ⟨b, 0, none⟩), .int .i64 i] w fun e w' => e = .returned (.tuple #[.string (strV r), .int .i64 x]) ∧ Upd (fun _ => False) w w' := by
  obtain ⟨hOk, hFb, hFlt, dn, dv, wv, hdn, hM, hb, hdv, hwv, _, _, _⟩ := id hD
  obtain ⟨c0, c1, c2, c3, c4⟩ := five hb
  have hs0 : strV [] = ⟨#[]⟩ := rfl
  by_cases hd : D.dead = true
  · rw [DSt.read, if_pos hd] at hr
    cases hr
    rw [hs0]
    rw [hd] at c4
    clear hb hdv hwv hdn hM hd
    go_enter Try.func45, Try.ntmps45
    go_wp2_with fail
    go_ret2
    exact ⟨rfl, Upd.refl _ _⟩
  · have hd' : D.dead = false := by simpa using hd
    rw [hd'] at c4
    rw [DSt.read, if_neg hd] at hr
    by_cases hi : i < 0 ∨ (D.secs.length : Int) ≤ i
    · rw [if_pos hi] at hr
      cases hr
      have Hdu := Lib.hid (ref_durable hD i (r := []) (x := 1) (by rw [DSt.durable, if_pos hi]))
      rw [hs0] at Hdu
      rw [hs0]
      clear hb hdv hwv hdn hM hd hd' hi
      go_enter Try.func45, Try.ntmps45
      go_wp2_with fail
      refine Hdu.out.mono ?_
      rintro e w' ⟨rfl, hu⟩
      have HU := Lib.hid hu
      clear hu
      dsimp only
      go_wp2_with fail
      go_ret2
      exact ⟨rfl, HU.out⟩
    · rw [if_neg hi] at hr
      cases hr
      obtain ⟨n, rfl⟩ : ∃ n : Nat, i = n := ⟨i.toNat, by omega⟩
      have Hdu := Lib.hid (ref_durable hD n (r := D.secs.getD (n : Int).toNat []) (x := 0) (by rw [DSt.durable, if_neg hi]))
      rw [Int.toNat_natCast] at Hdu ⊢
      obtain ⟨was, hwas⟩ : ∃ was, D.secs.getD n [] = was := ⟨_, rfl⟩
      rw [hwas] at Hdu ⊢
      obtain ⟨s1, hs1⟩ : ∃ s1, strV was = s1 := ⟨_, rfl⟩
      obtain ⟨xa, xc, rfl⟩ := (sees_of_row hwv).shape
      have Hse := Lib.hid (And.intro c2 (sees_of_row hwv))
      rw [hs1] at Hdu
      clear hb hdv hwv hdn hM hd hd' hi hwas c0 c1 c2 c3
      go_enter Try.func45, Try.ntmps45
      go_wp2_with fail
      refine Hdu.out.mono ?_
      rintro e w1 ⟨rfl, hu⟩
      have c2 := hu.cell_some Hse.out.1 (fun h => h)
      have HL := Lib.hid (last_ok _ _ D.waits n was w1 (Hse.out.2.upd hu (fun _ _ _ h => h)))
      rw [hs1] at HL
      have HU := Lib.hid hu
      clear hu
      dsimp only
      go_wp2_with fail
      refine HL.out.mono ?_
      rintro e w' ⟨rfl, rfl⟩
      dsimp only
      go_wp2_with fail
      go_ret2
      exact ⟨rfl, HU.out⟩
end Go.Proofs.Ytlcbgcbocikkkaa
