/- docketref05: the answer's Map. -/
import Derived.Test.YtndhcimepgcfaaaSpr1
namespace Go.Proofs.Ytndhcimepgcfaaa
open Go Go.RowKit
set_option linter.unusedSimpArgs false
set_option linter.unusedVariables false
set_option maxRecDepth 100000
/-- Truths, one for each block. -/
def fnV (N : Nat) (f : Nat → Bool) : List Value := (List.range N).map fun c => .bool (f c)
theorem fnV_length (N : Nat) (f : Nat → Bool) : (fnV N f).length = N := by simp [fnV]
theorem fnV_get {N c : Nat} (f : Nat → Bool) (hc : c < N) : (fnV N f)[c]? = some (.bool (f c)) := by simp [fnV, hc]
theorem fnV_one (N : Nat) (f : Nat → Bool) : ∀ u ∈ fnV N f, u.oneCell' = true := by
  intro u hu
  simp only [fnV, List.mem_map] at hu
  obtain ⟨c, _, rfl⟩ := hu
  rfl
def turnF (f : Nat → Bool) (b : Nat) (v : Bool) : Nat → Bool := fun c => if c = b then v else f c
theorem fnV_set (N b : Nat) (f : Nat → Bool) (v : Bool) : (fnV N f).set b (.bool v) = fnV N (turnF f b v) := by
  apply List.ext_getElem?
  intro c
  rw [List.getElem?_set]
  by_cases hc : c < N
  · rw [fnV_get (turnF f b v) hc]
    by_cases e : b = c
    · subst e
      rw [if_pos rfl, if_pos (by rw [fnV_length]; exact hc)]
      simp [turnF]
    · have e2 : c ≠ b := fun h => e h.symm
      rw [if_neg e, fnV_get f hc]
      simp [turnF, e2]
  · rw [List.getElem?_eq_none (l := fnV N (turnF f b v)) (by rw [fnV_length]; omega), List.getElem?_eq_none (l := fnV N f) (by rw [fnV_length]; omega), fnV_length]
    by_cases e : b = c
    · rw [if_pos e, if_neg (by omega)]
    · rw [if_neg e]
theorem fnV_congr {N : Nat} {f g : Nat → Bool} (h : ∀ c, c < N → f c = g c) : fnV N f = fnV N g := by
  unfold fnV
  apply List.map_congr_left
  intro c hc
  rw [h c (List.mem_range.1 hc)]
/-- The answer's Map at block rb. -/
structure RefM (w : World) (rb nb ob N nc oc : Nat) (f g : Nat → Bool) : Prop where
  cells : CellsA w rb 49 [.slice (some ⟨nb, 0, none⟩) N nc, .slice (some ⟨ob, 0, none⟩) N oc]
  now : ∃ r, CellsA w nb 4 (fnV N f ++ r)
  old : ∃ r, CellsA w ob 4 (fnV N g ++ r)
  d1 : rb ≠ nb
  d2 : rb ≠ ob
  d3 : nb ≠ ob
def ownM (rb nb ob q : Nat) : Prop := q = rb ∨ q = nb ∨ q = ob
theorem RefM.upd {w w' : World} {rb nb ob N nc oc : Nat} {f g : Nat → Bool} {F : Nat → Prop} (h : RefM w rb nb ob N nc oc f g) (hu : Upd F w w') (hf : ∀ q, ownM rb nb ob q → ¬ F q) : RefM w' rb nb ob N nc oc f g := by
  obtain ⟨r1, h1⟩ := h.now
  obtain ⟨r2, h2⟩ := h.old
  exact ⟨h.cells.upd hu (hf _ (.inl rfl)), ⟨r1, h1.upd hu (hf _ (.inr (.inl rfl)))⟩, ⟨r2, h2.upd hu (hf _ (.inr (.inr rfl)))⟩, h.d1, h.d2, h.d3⟩
theorem RefM.lt {w : World} {rb nb ob N nc oc : Nat} {f g : Nat → Bool} (h : RefM w rb nb ob N nc oc f g) : rb < w.heap.size ∧ nb < w.heap.size ∧ ob < w.heap.size := by
  obtain ⟨r1, h1⟩ := h.now
  obtain ⟨r2, h2⟩ := h.old
  exact ⟨h.cells.lt, h1.lt, h2.lt⟩
theorem RefM.nowc {w : World} {rb nb ob N nc oc : Nat} {f g : Nat → Bool} (h : RefM w rb nb ob N nc oc f g) (c : Nat) (hc : c < N) : w.cell? ⟨nb, c, none⟩ = some (.bool (f c)) := by
  obtain ⟨r1, h1⟩ := h.now
  rw [h1.cell c, List.getElem?_append_left (by rw [fnV_length]; exact hc), fnV_get _ hc]
theorem RefM.oldc {w : World} {rb nb ob N nc oc : Nat} {f g : Nat → Bool} (h : RefM w rb nb ob N nc oc f g) (c : Nat) (hc : c < N) : w.cell? ⟨ob, c, none⟩ = some (.bool (g c)) := by
  obtain ⟨r1, h1⟩ := h.old
  rw [h1.cell c, List.getElem?_append_left (by rw [fnV_length]; exact hc), fnV_get _ hc]
theorem RefM.nowf {w : World} {rb nb ob N nc oc : Nat} {f g : Nat → Bool} (h : RefM w rb nb ob N nc oc f g) (c : Nat) : w.frozen? ⟨nb, c, none⟩ = false := by
  obtain ⟨r1, h1⟩ := h.now
  exact h1.frozen c
theorem RefM.oldf {w : World} {rb nb ob N nc oc : Nat} {f g : Nat → Bool} (h : RefM w rb nb ob N nc oc f g) (c : Nat) : w.frozen? ⟨ob, c, none⟩ = false := by
  obtain ⟨r1, h1⟩ := h.old
  exact h1.frozen c
theorem RefM.set {w : World} {rb nb ob N nc oc : Nat} {f g : Nat → Bool} (h : RefM w rb nb ob N nc oc f g) (b : Nat) (hb : b < N) (v : Bool) : RefM (w.setCell ⟨nb, b, none⟩ (.bool v)) rb nb ob N nc oc (turnF f b v) g := by
  obtain ⟨r1, h1⟩ := h.now
  obtain ⟨r2, h2⟩ := h.old
  have hset : Upd (fun q => q = nb) w (w.setCell ⟨nb, b, none⟩ (.bool v)) := (Upd.refl _ _).setCell _ (.inl rfl)
  refine ⟨h.cells.upd hset h.d1, ⟨r1, ?_⟩, ⟨r2, h2.upd hset (fun e => h.d3 e.symm)⟩, h.d1, h.d2, h.d3⟩
  have h3 := h1.set b (.bool v)
  rw [List.set_append_left _ _ (by rw [fnV_length]; exact hb), fnV_set] at h3
  exact h3
theorem RefM.setOld {w : World} {rb nb ob N nc oc : Nat} {f g : Nat → Bool} (h : RefM w rb nb ob N nc oc f g) (b : Nat) (hb : b < N) (v : Bool) : RefM (w.setCell ⟨ob, b, none⟩ (.bool v)) rb nb ob N nc oc f (turnF g b v) := by
  obtain ⟨r1, h1⟩ := h.now
  obtain ⟨r2, h2⟩ := h.old
  have hset : Upd (fun q => q = ob) w (w.setCell ⟨ob, b, none⟩ (.bool v)) := (Upd.refl _ _).setCell _ (.inl rfl)
  refine ⟨h.cells.upd hset h.d2, ⟨r1, h1.upd hset h.d3⟩, ⟨r2, ?_⟩, h.d1, h.d2, h.d3⟩
  have h3 := h2.set b (.bool v)
  rw [List.set_append_left _ _ (by rw [fnV_length]; exact hb), fnV_set] at h3
  exact h3
theorem RefM.congr {w : World} {rb nb ob N nc oc : Nat} {f g f' g' : Nat → Bool} (h : RefM w rb nb ob N nc oc f g) (hf : ∀ c, c < N → f c = f' c) (hg : ∀ c, c < N → g c = g' c) : RefM w rb nb ob N nc oc f' g' := by
  obtain ⟨r1, h1⟩ := h.now
  obtain ⟨r2, h2⟩ := h.old
  exact ⟨h.cells, ⟨r1, by rw [← fnV_congr hf]; exact h1⟩, ⟨r2, by rw [← fnV_congr hg]; exact h2⟩, h.d1, h.d2, h.d3⟩
set_option maxHeartbeats 2000000 in
theorem rtake_ok {w : World} {rb nb ob N nc oc : Nat} {f g : Nat → Bool} (h : RefM w rb nb ob N nc oc f g) (hN : N ≤ 4096) : Calls Try.prog 17 #[.pointer (some ⟨rb, 0, none⟩)] w fun e w' =>
    (∃ b, b < N ∧ f b = false ∧ g b = false ∧ (∀ c, c < b → f c = true ∨ g c = true) ∧ e = .returned (.tuple #[.int .i64 (b : Int), .int .i64 0]) ∧ RefM w' rb nb ob N nc oc (turnF f b true) g ∧ Upd (fun q => q = nb) w w') ∨
    ((∀ c, c < N → f c = true ∨ g c = true) ∧ e = .returned (.tuple #[.int .i64 0, .int .i64 12]) ∧ w = w') := by
  have hNI : (N : Int) ≤ 4096 := by omega
  have c0 := h.cells.cell 0
  have c1 := h.cells.cell 1
  simp only [List.getElem?_cons_zero, List.getElem?_cons_succ] at c0 c1
  have H := Lib.hid h
  clear h
  go_enter Try.func17, Try.ntmps17
  go_wp2_with fail
  go_loop [4] (fun i => ∃ k : Nat, k ≤ N ∧ i = .int .i64 k ∧ Hid (∀ c, c < k → f c = true ∨ g c = true)) (fun i => N - (intOf i).toNat)
  case atStart => exact ⟨0, Nat.zero_le _, rfl, fun c hc => by omega⟩
  case round =>
    obtain ⟨k, hk, rfl, HR⟩ := hrel
    by_cases hlt : k < N
    · have hkI : (k : Int) < (N : Int) := by omega
      have d0 := H.out.nowc k hlt
      have d1 := H.out.oldc k hlt
      have df := H.out.nowf k
      obtain ⟨fk, hfk⟩ : ∃ v, f k = v := ⟨_, rfl⟩
      obtain ⟨gk, hgk⟩ : ∃ v, g k = v := ⟨_, rfl⟩
      rw [hfk] at d0
      rw [hgk] at d1
      cases fk with
      | true =>
        have HRn : Hid (∀ c, c < k + 1 → f c = true ∨ g c = true) := fun c hc => by
          by_cases e : c = k
          · rw [e]; exact .inl hfk
          · exact HR.out c (by omega)
        clear HR hfk hgk
        go_wp2_with fail
        exact ⟨⟨k + 1, by omega, by go_num, HRn⟩, by simp [intOf]; omega⟩
      | false =>
        cases gk with
        | true =>
          have HRn : Hid (∀ c, c < k + 1 → f c = true ∨ g c = true) := fun c hc => by
            by_cases e : c = k
            · rw [e]; exact .inr hgk
            · exact HR.out c (by omega)
          clear HR hfk hgk
          go_wp2_with fail
          exact ⟨⟨k + 1, by omega, by go_num, HRn⟩, by simp [intOf]; omega⟩
        | false =>
          have HK := Lib.hid (And.intro hfk hgk)
          clear hfk hgk
          go_wp2_with fail
          go_ret2
          exact .inl ⟨k, by omega, HK.out.1, HK.out.2, HR.out, rfl, H.out.set k hlt true, (Upd.refl _ _).setCell _ (.inl rfl)⟩
    · obtain rfl : k = N := by omega
      clear hlt
      go_wp2_with fail
      go_ret2
      exact .inr ⟨HR.out, rfl, rfl⟩
def RFreePost (w : World) (rb nb ob N nc oc : Nat) (f g : Nat → Bool) (b r : Int) (w' : World) : Prop :=
  ((b < 2 ∨ (N : Int) ≤ b ∨ f b.toNat = false) ∧ r = 1 ∧ w = w') ∨
  (2 ≤ b ∧ b < (N : Int) ∧ f b.toNat = true ∧ r = 0 ∧ RefM w' rb nb ob N nc oc (turnF f b.toNat false) g ∧ Upd (fun q => q = nb) w w')
set_option maxHeartbeats 2000000 in
theorem rfree_ok {w : World} {rb nb ob N nc oc : Nat} {f g : Nat → Bool} (h : RefM w rb nb ob N nc oc f g) (hN : N ≤ 4096) (b : Int) : Calls Try.prog 18 #[.pointer (some ⟨rb, 0, none⟩), .int .i64 b] w fun e w' => ∃ r, e = .returned (.int .i64 r) ∧ RFreePost w rb nb ob N nc oc f g b r w' := by
  have hNI : (N : Int) ≤ 4096 := by omega
  have c0 := h.cells.cell 0
  simp only [List.getElem?_cons_zero] at c0
  have H := Lib.hid h
  clear h
  by_cases h2 : b < 2
  · have q1 : decide (b < 2) = true := by simpa using h2
    go_enter Try.func18, Try.ntmps18
    go_wp2_with fail
    go_ret
    exact ⟨1, rfl, .inl ⟨.inl h2, rfl, rfl⟩⟩
  have q1 : decide (b < 2) = false := by simpa using h2
  obtain ⟨k, rfl⟩ : ∃ k : Nat, b = k := ⟨b.toNat, by omega⟩
  by_cases h3 : N ≤ k
  · have q2 : decide ((k : Int) ≥ (N : Int)) = true := by simp; omega
    have q3 : decide (N ≤ k) = true := by simpa using h3
    go_enter Try.func18, Try.ntmps18
    go_wp2_with fail
    go_ret
    exact ⟨1, rfl, .inl ⟨.inr (.inl (by omega)), rfl, rfl⟩⟩
  have hkN : k < N := by omega
  have hkI : (k : Int) < (N : Int) := by omega
  have hk2 : (2 : Int) ≤ (k : Int) := by omega
  have q2 : decide ((k : Int) ≥ (N : Int)) = false := by simp; omega
  have q3 : decide (N ≤ k) = false := by simpa using h3
  have d0 := H.out.nowc k hkN
  have df := H.out.nowf k
  obtain ⟨fk, hfk⟩ : ∃ v, f k = v := ⟨_, rfl⟩
  rw [hfk] at d0
  have HK := Lib.hid hfk
  clear hfk h2 h3
  cases fk with
  | false =>
    go_enter Try.func18, Try.ntmps18
    go_wp2_with fail
    go_ret
    exact ⟨1, rfl, .inl ⟨.inr (.inr (by rw [Int.toNat_natCast]; exact HK.out)), rfl, rfl⟩⟩
  | true =>
    go_enter Try.func18, Try.ntmps18
    go_wp2_with fail
    go_ret
    exact ⟨0, rfl, .inr ⟨hk2, hkI, by rw [Int.toNat_natCast]; exact HK.out, rfl, by rw [Int.toNat_natCast]; exact H.out.set k hkN false, (Upd.refl _ _).setCell _ (.inl rfl)⟩⟩
theorem cnt_succ (p : Nat → Bool) (n : Nat) : cnt p (n + 1) = cnt p n + (if p n then 1 else 0) := rfl
set_option maxHeartbeats 2000000 in
theorem rused_ok {w : World} {rb nb ob N nc oc : Nat} {f g : Nat → Bool} (h : RefM w rb nb ob N nc oc f g) (hN : N ≤ 4096) : Calls Try.prog 23 #[.pointer (some ⟨rb, 0, none⟩)] w fun e w' => e = .returned (.int .i64 (cnt f N : Nat)) ∧ w = w' := by
  have hNI : (N : Int) ≤ 4096 := by omega
  have c0 := h.cells.cell 0
  simp only [List.getElem?_cons_zero] at c0
  have H := Lib.hid h
  clear h
  go_enter Try.func23, Try.ntmps23
  go_wp2_with fail
  go_loop [3, 4] (fun n i => ∃ k : Nat, k ≤ N ∧ i = .int .i64 k ∧ n = .int .i64 (cnt f k : Nat)) (fun _ i => N - (intOf i).toNat)
  case atStart => exact ⟨0, Nat.zero_le _, rfl, rfl⟩
  case round =>
    obtain ⟨k, hk, rfl, rfl⟩ := hrel
    have hcl := cnt_le f k
    obtain ⟨u, hu⟩ : ∃ u, cnt f k = u := ⟨_, rfl⟩
    rw [hu] at hcl ⊢
    have huI : (u : Int) ≤ 4096 := by omega
    by_cases hlt : k < N
    · have hkI : (k : Int) < (N : Int) := by omega
      have d0 := H.out.nowc k hlt
      obtain ⟨fk, hfk⟩ : ∃ v, f k = v := ⟨_, rfl⟩
      rw [hfk] at d0
      have hs := cnt_succ f k
      rw [hfk, hu] at hs
      have HK := Lib.hid hs
      clear hfk hs hu hcl
      cases fk with
      | true =>
        go_wp2_with fail
        exact ⟨⟨k + 1, by omega, by go_num, by rw [HK.out]; go_num⟩, by simp [intOf]; omega⟩
      | false =>
        go_wp2_with fail
        exact ⟨⟨k + 1, by omega, by go_num, by rw [HK.out]; go_num⟩, by simp [intOf]; omega⟩
    · obtain rfl : k = N := by omega
      have HK := Lib.hid hu
      clear hlt hu hcl
      go_wp2_with fail
      go_ret
      exact ⟨by rw [HK.out]; rfl, rfl⟩
end Go.Proofs.Ytndhcimepgcfaaa
