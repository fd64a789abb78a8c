/- wal: check. -/
import Derived.Test.YtocameknhglklaaWal9
namespace Go.Proofs.Ytocameknhglklaa
open Go.RowKit
set_option linter.unusedSimpArgs false
set_option linter.unusedVariables false
set_option maxRecDepth 100000

theorem wcheck_nil (v : Value) (w : World) : Calls Try.prog 39 #[.pointer none, v] w fun e w' => e = .returned (.int .i64 2) ∧ w = w' := by
  go_enter Try.func39, Try.ntmps39
  go_wp2_with fail
  go_ret
  exact ⟨rfl, rfl⟩
theorem bytesOf_le (b : Batch) (h : ¬ ∃ r ∈ b, 600 < r.size) : bytesOf b ≤ 16 + b.length * 604 := by
  induction b with
  | nil => simp [bytesOf]
  | cons r t ih =>
    have h1 := ih (fun ⟨x, hx, hl⟩ => h ⟨x, List.mem_cons_of_mem _ hx, hl⟩)
    have h2 : ¬ 600 < r.size := fun hl => h ⟨r, List.mem_cons_self .., hl⟩
    rw [bytesOf_eq] at h1 ⊢
    have e : bodyB (r :: t) = (leB 4 r.size ++ r.data.toList) ++ bodyB t := by simp [bodyB]
    have : r.data.toList.length = r.size := by rw [Array.length_toList]; rfl
    rw [e, List.length_append, List.length_append, leB_length, List.length_cons]
    omega
/-- What check leaves: the world, or one draw. -/
def Drawn (w w' : World) : Prop := w' = w ∨ w' = w.drew
theorem Drawn.upd {w w' : World} (h : Drawn w w') : Upd (fun _ => False) w w' := by
  rcases h with rfl | rfl
  · exact Upd.refl _ _
  · exact (Upd.refl _ w).drew
theorem Drawn.size {w w' : World} (h : Drawn w w') : w'.heap.size = w.heap.size := by
  rcases h with rfl | rfl <;> rfl
set_option maxHeartbeats 1000000 in
theorem wcheck_ok {w : World} {lb : Nat} {L : LSt} {db : Nat} {lv : Value} (h : Cells9 w lb (preL L db lv)) (hOk : L.Ok) (xa : Option Addr) (xc : Nat) (b : Batch) (hb : Sees w 1 (.slice xa b.length xc) b.length (strsV b)) :
    Calls Try.prog 39 #[.pointer (some ⟨lb, 0, none⟩), .slice xa b.length xc] w fun e w' => e = .returned (.int .i64 (L.check b)) ∧ Drawn w w' := by
  obtain ⟨c0, c1, c2, c3, c4, c5, c6, c7, c8⟩ := nine h
  obtain ⟨de, hde⟩ : ∃ de, L.dead = de := ⟨_, rfl⟩
  have hroom := room_ok h hOk
  have hm := hb.2.1
  have hlm : (b.length : Int) ≤ 9223372036854775807 := by unfold maxLen at hm; omega
  rw [hde] at c8
  have Hb := Lib.hid (And.intro hb (And.intro hde hroom))
  have hun : L.check b = if de then 10 else if b.length = 0 ∨ 1024 < b.length then 1 else if ∃ r ∈ b, 600 < r.size then 1 else if L.room < needB b then 12 else 0 := by rw [LSt.check, hde]
  have Hun := Lib.hid hun
  clear h hOk hroom hb hm hde c0 c1 c2 c3 c4 c5 c6 c7 hun
  cases de with
  | true =>
    go_enter Try.func39, Try.ntmps39
    go_wp2_with fail
    go_ret
    rw [Hun.out]
    exact ⟨rfl, .inl rfl⟩
  | false =>
    by_cases h0 : b.length = 0
    · have q0 : ((b.length : Int) == 0) = true := by rw [h0]; rfl
      have H0 := Lib.hid h0
      clear h0
      go_enter Try.func39, Try.ntmps39
      go_wp2_with fail
      go_ret
      rw [Hun.out, if_neg (by decide), if_pos (.inl H0.out)]
      exact ⟨rfl, .inl rfl⟩
    · have q0 : ((b.length : Int) == 0) = false := by rw [beq_eq_false_iff_ne]; omega
      by_cases h1 : 1024 < b.length
      · have q1 : decide ((1024 : Int) < (b.length : Int)) = true := by simp; omega
        have H0 := Lib.hid (And.intro h0 h1)
        clear h0 h1
        go_enter Try.func39, Try.ntmps39
        go_wp2_with fail
        go_ret
        rw [Hun.out, if_neg (by decide), if_pos (.inr H0.out.2)]
        exact ⟨rfl, .inl rfl⟩
      · have q1 : decide ((1024 : Int) < (b.length : Int)) = false := by simp; omega
        have hun := Hun.out
        rw [if_neg (by decide), if_neg (by omega)] at hun
        have Hun := Lib.hid hun
        have H0 := Lib.hid (And.intro h0 h1)
        have hb1 : (b.length : Int) ≤ 1024 := by omega
        clear h0 h1 hun
        go_enter Try.func39, Try.ntmps39
        go_wp2_with fail
        go_loop [26] (fun i => ∃ k : Nat, k ≤ b.length ∧ i = .int .i64 k ∧ Hid (∀ j (hj : j < b.length), j < k → ¬ 600 < (b[j]).size)) (fun i => b.length - (intOf i).toNat)
        case atStart => exact ⟨0, Nat.zero_le _, rfl, Lib.hid (fun j _ hj => absurd hj (by omega))⟩
        case round =>
          obtain ⟨k, hk, rfl, Hk⟩ := hrel
          by_cases hlt : k < b.length
          · have hlt2 : (k : Int) < (b.length : Int) := by omega
            obtain ⟨r, hr⟩ : ∃ r, b[k] = r := ⟨_, rfl⟩
            obtain ⟨_, _, xo, cc, e', hc⟩ := Hb.out.1
            cases e'
            obtain ⟨g, off, rfl, hrr⟩ := hc (by omega)
            have hcell : w.cell? ⟨g, off + k, none⟩ = some (.string r) := hrr k _ (by simp [strsV, hlt, hr])
            by_cases h6 : 600 < r.size
            · have q2 : (600 : Int) < (r.size : Int) := by omega
              have hun := Hun.out
              rw [if_pos ⟨r, by rw [← hr]; exact List.getElem_mem hlt, h6⟩] at hun
              have Hun := Lib.hid hun
              clear hc hrr hr hun h6
              go_wp2_with fail
              go_ret
              rw [Hun.out]
              exact ⟨rfl, .inl rfl⟩
            · have q2 : (r.size : Int) ≤ (600 : Int) := by omega
              have Hk2 : Hid (∀ j (hj : j < b.length), j < k + 1 → ¬ 600 < (b[j]).size) := Lib.hid (fun j hj hjk => by
                by_cases e : j = k
                · subst e; rw [hr]; exact h6
                · exact Hk.out j hj (by omega))
              clear hc hrr hr h6
              go_wp2_with fail
              exact ⟨⟨k + 1, by omega, by go_num, Hk2⟩, by simp [intOf]; omega⟩
          · obtain rfl : k = b.length := by omega
            have hnone : ¬ ∃ r ∈ b, 600 < r.size := by
              rintro ⟨r, hr, h6⟩
              obtain ⟨j, hj, rfl⟩ := List.getElem_of_mem hr
              exact Hk.out j hj hj h6
            have hun := Hun.out
            rw [if_neg hnone] at hun
            have hby := bytesOf_le b hnone
            have Hun := Lib.hid hun
            have hneed := need_ok xa xc b w Hb.out.1 (by omega)
            have Hneed := Lib.hid hneed
            have Hroom := Lib.hid Hb.out.2.2
            have hnb : needB b ≤ 2000 := by unfold needB; omega
            obtain ⟨nb, hnb'⟩ : ∃ nb, needB b = nb := ⟨_, rfl⟩
            obtain ⟨ro, hro⟩ : ∃ ro, L.n - 1 - L.used = ro := ⟨_, rfl⟩
            have hro2 : L.room = ro := hro
            have hun := Hun.out
            rw [hro2, hnb'] at hun
            have Hun := Lib.hid hun
            have hneed := Hneed.out
            have hroom := Hroom.out
            rw [hnb'] at hneed hnb
            rw [hro] at hroom
            have Hneed := Lib.hid hneed
            have Hroom := Lib.hid hroom
            clear hun hneed hroom hby hnone hnb' hro hro2 hlt
            go_wp2_with fail
            refine Hneed.out.mono ?_
            rintro e w1 ⟨rfl, rfl⟩
            dsimp only
            go_wp2_with fail
            refine Hroom.out.mono ?_
            rintro e w1 ⟨rfl, rfl⟩
            dsimp only
            by_cases hc : ro < nb
            · have q3 : (ro : Int) < (nb : Int) := by omega
              have hun := Hun.out
              rw [if_pos hc] at hun
              have Hun := Lib.hid hun
              clear hc hun
              go_wp2_with fail
              go_ret
              rw [Hun.out]
              exact ⟨rfl, .inr rfl⟩
            · have q3 : (nb : Int) ≤ (ro : Int) := by omega
              have hun := Hun.out
              rw [if_neg hc] at hun
              have Hun := Lib.hid hun
              clear hc hun
              go_wp2_with fail
              go_ret
              rw [Hun.out]
              exact ⟨rfl, .inr rfl⟩
end Go.Proofs.Ytocameknhglklaa
