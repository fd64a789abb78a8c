/- Contracts of package disk: New, Size, Pending, Fuel, Dead, Clone. -/
import Derived.Test.YtocameknhglklaaDisk4
namespace Go.Proofs.Ytocameknhglklaa
open Go.RowKit
set_option linter.unusedSimpArgs false
set_option maxRecDepth 100000

theorem size_ok (b n c : Nat) (sa : Option Addr) (w : World) (h0 : w.cell? ⟨b, 0, none⟩ = some (.slice sa n c)) :
    Calls Try.prog 25 #[.pointer (some ⟨b, 0, none⟩)] w fun e w' => e = .returned (.int .i64 n) ∧ w = w' := by
  go_enter Try.func25, Try.ntmps25
  go_wp2_with fail
  go_ret
  exact ⟨rfl, rfl⟩
theorem dead_ok (b : Nat) (d : Bool) (w : World) (h0 : w.cell? ⟨b, 3, none⟩ = some (.bool d)) :
    Calls Try.prog 35 #[.pointer (some ⟨b, 0, none⟩)] w fun e w' => e = .returned (.bool d) ∧ w = w' := by
  go_enter Try.func35, Try.ntmps35
  go_wp2_with fail
  go_ret
  exact ⟨by simp, rfl⟩
theorem fuel_ok (b : Nat) (n : Int) (sv wv f d : Value) (w : World) (hb : w.heap[b]? = some (.cells #[sv, wv, f, d] 74 (0, 0))) :
    Calls Try.prog 26 #[.pointer (some ⟨b, 0, none⟩), .int .i64 n] w fun e w' => e = .returned (.tuple #[]) ∧ w' = w.setCell ⟨b, 2, none⟩ (.int .i64 (max n (-1))) := by
  obtain ⟨c0, c1, c2, c3⟩ := four hb
  have u2 := unfrozen hb 2
  go_enter Try.func26, Try.ntmps26
  go_wp2_with fail
  · go_end0
    exact ⟨rfl, by rw [show max n (-1) = -1 by omega]⟩
  · go_end0
    exact ⟨rfl, by rw [show max n (-1) = n by omega]⟩
theorem mk_secs (N : Int) (h0 : 0 ≤ N) (h1 : N ≤ 4096) (u : World) : (Instr.makeSlice 71 (.int .i64 N) (.int .i64 N)).run Try.prog u =
    .ok (.slice (some ⟨u.heap.size, 0, none⟩) N.toNat N.toNat) (u.alloc (.cells (madeCells (bvs zeros512).toArray (N.toNat * 512)) 118)) := by
  obtain ⟨i, hi, hz0, hz1, hz2⟩ := info_parts infoK
  have h := run_make (P := Try.prog) u 71 118 i _ Try.underlying71 hi hz0 .i64 .i64 N N h0 (Int.le_refl _) (by rw [hz2]; omega) (by omega)
  rw [hz1] at h
  exact h
theorem madeCells_flat (z : List Value) : ∀ (n : Nat), (madeCells z.toArray (n * z.length)).toList = (List.replicate n z).flatten := by
  intro n
  apply List.ext_getElem?
  intro k
  by_cases hz : z.length = 0
  · have : z = [] := List.eq_nil_of_length_eq_zero hz
    subst this
    simp [madeCells]
  · have hl : ((List.replicate n z).flatten).length = n * z.length := by simp
    by_cases hk : k < n * z.length
    · have h1 : (List.replicate n z).flatMap (fun x => x) = (List.replicate n z).flatten := by simp [List.flatMap]
      have hq : k / z.length < n := by rw [Nat.div_lt_iff_lt_mul (by omega)]; exact hk
      have h2 := flat_piece (fun x : List Value => x) z.length (List.replicate n z) (k / z.length) (by simpa using hq) (fun x hx => by rw [List.eq_of_mem_replicate hx])
      rw [h1] at h2
      simp only [List.getElem_replicate] at h2
      have hm : k % z.length < z.length := Nat.mod_lt _ (by omega)
      have h3 : ((List.replicate n z).flatten)[k]? = z[k % z.length]? := by
        rw [← h2, List.getElem?_take, if_pos (by rw [h2]; exact hm), List.getElem?_drop, h2]
        congr 1
        rw [Nat.mul_comm]; exact (Nat.div_add_mod k z.length).symm
      rw [h3]
      simp [madeCells, hk, hm]
    · rw [List.getElem?_eq_none (by simp [madeCells]; omega), List.getElem?_eq_none (by rw [hl]; omega)]
theorem secs_new (n : Nat) : (madeCells (bvs zeros512).toArray (n * 512)).toList = secsV (List.replicate n zeros512) := by
  have h := madeCells_flat (bvs zeros512) n
  rw [bvs_length, zeros512_length] at h
  rw [h, secsV, List.flatMap, List.map_replicate]
theorem new_core (n : Int) (w : World) (N : Nat) (hN : (N : Int) = min (max n 1) 4096) :
    Calls Try.prog 13 #[.int .i64 n] w fun e w' => e = .returned (.pointer (some ⟨w.heap.size + 1, 0, none⟩)) ∧
      w' = (w.alloc (.cells (madeCells (bvs zeros512).toArray (N * 512)) 118)).alloc (.cells #[.slice (some ⟨w.heap.size, 0, none⟩) N N, .slice none 0 0, .int .i64 (-1), .bool false] 74) := by
  by_cases h : n < 1
  · obtain rfl : N = 1 := by omega
    have hmk := mk_secs 1 (by decide) (by decide) w
    go_enter Try.func13, Try.ntmps13
    go_wp2_with fail
    go_ret
    exact ⟨rfl, rfl⟩
  · by_cases h2 : 4096 < n
    · obtain rfl : N = 4096 := by omega
      have hmk := mk_secs 4096 (by decide) (by decide) w
      go_enter Try.func13, Try.ntmps13
      go_wp2_with fail
      go_ret
      exact ⟨rfl, rfl⟩
    · obtain rfl : n = N := by omega
      have hmk := mk_secs N (by omega) (by omega) w
      clear hN
      have e : (N : Int).toNat = N := by omega
      rw [e] at hmk
      clear e
      go_enter Try.func13, Try.ntmps13
      go_wp2_with fail
      go_ret
      exact ⟨rfl, rfl⟩

/-! ### The disk as its callers see it -/
theorem new_disk (n : Int) (w : World) :
    Calls Try.prog 13 #[.int .i64 n] w fun e w' => ∃ b F, e = .returned (.pointer (some ⟨b, 0, none⟩)) ∧ DiskAt w' b (DSt.new n) F ∧ Upd (fun _ => False) w w' ∧ (∀ k, F k → w.heap.size ≤ k) := by
  obtain ⟨N, hN⟩ : ∃ N : Nat, (N : Int) = min (max n 1) 4096 := ⟨(min (max n 1) 4096).toNat, by omega⟩
  have e : (min (max n 1) 4096).toNat = N := by omega
  have e2 : (DSt.new n).secs.length = N := by rw [DSt.new, e, List.length_replicate]
  refine (new_core n w N hN).mono ?_
  rintro e' w' ⟨rfl, rfl⟩
  refine ⟨_, fun k => w.heap.size ≤ k ∧ k < w.heap.size + 2, rfl, ⟨⟨?_, ?_, ?_, ?_, ?_, ?_⟩, ?_, ?_, w.heap.size, N, madeCells (bvs zeros512).toArray (N * 512), .slice none 0 0, ?_, ⟨?_, ?_, ?_, ?_, ?_⟩, ?_, ?_, ?_, ?_⟩, ?_, ?_⟩
  · rw [e2]; omega
  · rw [e2]; omega
  · intro x hx
    rw [DSt.new] at hx
    rw [List.eq_of_mem_replicate hx, zeros512_length]
  · intro p hp; cases hp
  · show (-1 : Int) ≤ -1; omega
  · show (-1 : Int) ≤ 9223372036854775807; omega
  · exact ⟨by omega, by omega⟩
  · intro k hk; simp; omega
  · rw [e2]
    have h := heap_alloc_new (w.alloc (.cells (madeCells (bvs zeros512).toArray (N * 512)) 118)) (.cells #[.slice (some ⟨w.heap.size, 0, none⟩) N N, .slice none 0 0, .int .i64 (-1), .bool false] 74)
    rw [World.size_alloc] at h
    exact h
  · exact alloc_heap (heap_alloc_new w _) _
  · rw [e2]; exact Nat.le_refl _
  · unfold maxLen; omega
  · simp [madeCells]
  · rw [e2, DSt.new, e, secs_new]
    exact List.take_of_length_le (by rw [secsV_length (fun x hx => by rw [List.eq_of_mem_replicate hx, zeros512_length]), List.length_replicate]; exact Nat.le_refl _)
  · exact World.ownsRow_nil _ _ _ _
  · exact ⟨by omega, by omega⟩
  · omega
  · intro k hk; cases hk
  · exact ((Upd.refl _ _).alloc _).alloc _
  · intro k hk; exact hk.1

/-- What a caller must show of a slice that it hands in. -/
theorem write_disk {w : World} {b : Nat} {D : DSt} {F : Nat → Prop} (hD : DiskAt w b D F) (i : Int) (da : Option Addr) (dc : Nat) (data : Bytes) (hdv : Sees w 1 (.slice da data.length dc) data.length (bvs data)) (hdF : ∀ x, da = some x → 0 < data.length → ¬ F x.block) (hm : D.waits.length < 100000000000)
    {D' : DSt} {r : Int} (hr : D.write i data = (D', r)) :
    Calls Try.prog 42 #[.pointer (some ⟨b, 0, none⟩), .int .i64 i, .slice da data.length dc] w fun e w' => e = .returned (.int .i64 r) ∧
      ∃ F', DiskAt w' b D' F' ∧ Upd F w w' ∧ (∀ k, F' k → F k ∨ w.heap.size ≤ k) := by
  obtain ⟨hOk, hFb, hFlt, sb, sc, scur, wv, hb, hs, hwv, hFs, hbs, hFw⟩ := id hD
  obtain ⟨c0, c1, c2, c3⟩ := four hb
  have same : Calls Try.prog 42 #[.pointer (some ⟨b, 0, none⟩), .int .i64 i, .slice da data.length dc] w (fun e w' => e = .returned (.int .i64 r) ∧ w = w') → D' = D → Calls Try.prog 42 #[.pointer (some ⟨b, 0, none⟩), .int .i64 i, .slice da data.length dc] w fun e w' => e = .returned (.int .i64 r) ∧
      ∃ F', DiskAt w' b D' F' ∧ Upd F w w' ∧ (∀ k, F' k → F k ∨ w.heap.size ≤ k) := fun h e => by
    refine h.mono ?_
    rintro e' w' ⟨rfl, rfl⟩
    exact ⟨rfl, F, by rw [e]; exact hD, Upd.refl _ _, fun k hk => .inl hk⟩
  by_cases hd : D.dead = true
  · rw [DSt.write, if_pos hd] at hr
    cases hr
    rw [hd] at c3
    exact same (write_err b i 10 _ w rfl (check_dead b i w c3)) rfl
  · have hd' : D.dead = false := by simpa using hd
    rw [hd'] at c3 hb
    rw [DSt.write, if_neg hd] at hr
    by_cases hi : i < 0 ∨ (D.secs.length : Int) ≤ i
    · rw [if_pos hi] at hr
      cases hr
      rcases hi with hi | hi
      · exact same (write_err b i 1 _ w rfl (check_neg b i w c3 hi)) rfl
      · exact same (write_err b i 1 _ w rfl (check_big b _ _ _ i w c3 c0 (by omega) hi)) rfl
    · rw [if_neg hi] at hr
      have hchk := check_ok b _ _ _ i w c3 c0 (by omega) (by omega)
      by_cases hl : 512 < data.length
      · rw [if_pos hl] at hr
        cases hr
        exact same (write_long b i da _ dc w (by omega) hchk) rfl
      · rw [if_neg hl] at hr
        by_cases hf : D.fuel = 0
        · rw [if_pos hf] at hr
          cases hr
          refine (write_die b i da _ dc _ _ _ w hf hb (by omega) hchk).mono ?_
          rintro e' w' ⟨rfl, rfl⟩
          refine ⟨rfl, F, ⟨⟨hOk.one, hOk.most, hOk.secs, hOk.waits, hOk.fuel, hOk.fuelMax⟩, hFb, by simpa using hFlt, sb, sc, scur, wv, by rw [stored hb]; rfl, ⟨by rw [heap_setCell_other _ _ _ _ (fun e => hbs e.symm)]; exact hs.1, hs.2⟩, ?_, hFs, hbs, hFw⟩, (Upd.refl _ _).setCell _ (.inl hFb), fun k hk => .inl hk⟩
          exact Upd.row ((Upd.refl (fun k => k = b) w).setCell _ (.inl rfl)) hwv (fun k hk e => (hFw k hk).2.1 e)
        · rw [if_neg hf] at hr
          cases hr
          obtain ⟨j, rfl⟩ : ∃ j : Nat, i = j := ⟨i.toNat, by omega⟩
          refine (write_core b wv _ _ sc _ _ _ w hb hwv hm j da dc data hdv (fun x hx h0 e => hdF x hx h0 (by rw [e]; exact hFb)) (fun e => (hFw b e).2.1 rfl) (by omega) (by omega) (by omega) hf hOk.fuelMax).mono ?_
          rintro e' w' ⟨rfl, nv, h1, h2, h3, h4⟩
          have hlen : (D.waits ++ [((j : Int).toNat, pad data)]).length = D.waits.length + 1 := by simp
          have hval : waitsV (D.waits ++ [((j : Int).toNat, pad data)]) = waitsV D.waits ++ (.int .i64 j :: bvs (pad data)) := by
            rw [waitsV, List.flatMap_append]; simp [waitsV, waitV]
          have hFu : Upd F w w' := h3.mono (fun k hk h => by
            rcases h with h | h
            · rw [h]; exact hFb
            · exact (hFw k h).1)
          refine ⟨rfl, fun k => (F k ∨ w.heap.size ≤ k) ∧ k < w'.heap.size, ⟨⟨hOk.one, hOk.most, hOk.secs, ?_, ?_, ?_⟩, ⟨.inl hFb, lt_of_block h1⟩, fun k hk => hk.2, sb, sc, scur, nv, by rw [h1, hd'], ⟨?_, hs.2⟩, ?_, ⟨.inl hFs, ?_⟩, hbs, ?_⟩, hFu, fun k hk => hk.1⟩
          · intro p hp
            rcases List.mem_append.1 hp with hp | hp
            · exact hOk.waits p hp
            · simp at hp; subst hp; exact ⟨by simp; omega, pad_length (by omega)⟩
          · have := hOk.fuel; show -1 ≤ burnt D.fuel; unfold burnt; split <;> omega
          · have := hOk.fuelMax; show burnt D.fuel ≤ 9223372036854775807; unfold burnt; split <;> omega
          · exact h3.heap hs.1 (fun h => by rcases h with h | h; exact hbs h.symm; exact (hFw sb h).2.2 rfl)
          · rw [hlen, hval]; exact h2
          · exact Nat.lt_of_lt_of_le (lt_of_block hs.1) h3.size
          · intro k hk
            have hklt := (h2.lt k hk).2
            refine ⟨⟨?_, hklt⟩, ?_, ?_⟩
            · rcases h4 k hk with h | h
              · exact .inl (hFw k h).1
              · exact .inr h
            · rcases h4 k hk with h | h
              · exact (hFw k h).2.1
              · have := lt_of_block hb; omega
            · rcases h4 k hk with h | h
              · exact (hFw k h).2.2
              · have := lt_of_block hs.1; omega
end Go.Proofs.Ytocameknhglklaa
