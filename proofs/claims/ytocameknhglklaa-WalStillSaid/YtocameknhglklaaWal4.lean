/- wal: First, Room, Last, Synced, region, Need. -/
import Derived.Test.YtocameknhglklaaWal3
namespace Go.Proofs.Ytocameknhglklaa
open Go.RowKit
set_option linter.unusedSimpArgs false
set_option linter.unusedVariables false
set_option maxRecDepth 100000

theorem first_ok {w : World} {lb : Nat} {L : LSt} {db : Nat} {lv : Value} (h : Cells9 w lb (preL L db lv)) (hm : Mid w 2 lv L.list.length (listV L.list)) (hOk : L.Ok) :
    Calls Try.prog 20 #[.pointer (some ⟨lb, 0, none⟩)] w fun e w' => e = .returned (.int .i64 (L.first : Nat)) ∧ w = w' := by
  obtain ⟨c0, c1, c2, c3, c4, c5, c6, c7, c8⟩ := nine h
  have hlast : (L.last : Int) < 1000000000000000000 := by have := hOk.last; omega
  obtain ⟨xa, xc, rfl⟩ := hm.sees.shape
  have hlen := hOk.length
  cases hl : L.list with
  | nil =>
    have hf : L.first = L.last + 1 := by rw [LSt.first, hl]
    rw [hf]
    rw [hl] at c5
    clear h hm hOk hlen hl hf
    go_enter Try.func20, Try.ntmps20
    go_wp2_with fail
    go_ret
    exact ⟨by simp, rfl⟩
  | cons p r =>
    have hf : L.first = p.1 := by rw [LSt.first, hl]
    rw [hf]
    rw [hl] at c5 hm hlen
    obtain ⟨_, ⟨h0, h1⟩ | ⟨g, off, cap, he, h1, h2, h3, h4, h5⟩⟩ := hm
    · cases h1
    · cases he
      have hc : w.cell? ⟨g, off, none⟩ = some (.int .i64 (p.1 : Nat)) := h4 0 _ rfl
      have hpp : 0 < (p :: r).length := Nat.succ_pos _
      have hpos : (0 : Int) < ((p :: r).length : Int) := by omega
      have hn0 : (((p :: r).length : Int) == 0) = false := by rw [beq_eq_false_iff_ne]; omega
      obtain ⟨m, hmm⟩ : ∃ m, (p :: r).length = m := ⟨_, rfl⟩
      rw [hmm] at c5 hpos hn0 hlen hpp
      have hlen2 : (m : Int) ≤ 4096 := by omega
      clear h hOk hlen hl hf h1 h2 h3 h4 h5 hmm hpp
      go_enter Try.func20, Try.ntmps20
      go_wp2_with fail
      go_ret
      exact ⟨rfl, rfl⟩

theorem room_ok {w : World} {lb : Nat} {L : LSt} {db : Nat} {lv : Value} (h : Cells9 w lb (preL L db lv)) (hOk : L.Ok) :
    Calls Try.prog 19 #[.pointer (some ⟨lb, 0, none⟩)] w fun e w' => e = .returned (.int .i64 ((L.n - 1 - L.used : Nat) : Int)) ∧ w' = w.drew := by
  obtain ⟨c0, c1, c2, c3, c4, c5, c6, c7, c8⟩ := nine h
  obtain ⟨n, hn⟩ : ∃ n, L.n = n := ⟨_, rfl⟩
  obtain ⟨u, hu⟩ : ∃ u, L.used = u := ⟨_, rfl⟩
  have h1 := hOk.two
  have h2 := hOk.fit
  have h3 := hOk.used
  rw [hn] at c2 h1 h2 h3
  rw [hu] at c4 h3
  have e1 : ((n - 1 - u : Nat) : Int) = (n : Int) - 1 - (u : Int) := by omega
  rw [hn, hu, e1]
  have f1 : IntKind.i64.wrap ((n : Int) - 1) = (n : Int) - 1 := by rw [IntKind.wrap_i64]; omega
  have f2 : IntKind.i64.wrap ((n : Int) - 1 - (u : Int)) = (n : Int) - 1 - (u : Int) := by rw [IntKind.wrap_i64]; omega
  have Hf := Lib.hid (And.intro f1 f2)
  clear h hOk hn hu h1 h2 h3 e1 c0 c1 c3 c5 c6 c7 c8 f1 f2
  go_enter Try.func19, Try.ntmps19
  go_wp2_with fail
  obtain ⟨f1, f2⟩ := Hf.out
  have HS : w.drew.cell? ⟨lb, 2, none⟩ = some (.int .i64 n) ∧ w.drew.cell? ⟨lb, 4, none⟩ = some (.int .i64 u) := ⟨c2, c4⟩
  refine wp_region_planD (fun w' => w'.cell? ⟨lb, 2, none⟩ = some (.int .i64 n) ∧ w'.cell? ⟨lb, 4, none⟩ = some (.int .i64 u)) 11 [(0, true), (1, true), (2, true), (3, true), (4, true), (5, true), (6, true), (7, true), (8, true), (9, true), (10, true)] (by kernel_rfl) (by kernel_rfl) (fun d _ _ _ _ h => by cases d <;> exact h) HS ?_
  iterate 11 (first | (apply planD_held rfl rfl rfl (by simp) HS; (intro w' hS K hK; go_simp; exact hK)) | (apply planD_wanted rfl rfl rfl (by simp) HS; (intro w' hS K hK; go_simp; exact hK)))
  refine planD_nil ?_
  clear HS f1 f2
  go_wp2_with fail
  go_ret
  exact ⟨rfl, rfl⟩

theorem last_ok9 {w : World} {lb : Nat} {L : LSt} {db : Nat} {lv : Value} (h : Cells9 w lb (preL L db lv)) :
    Calls Try.prog 22 #[.pointer (some ⟨lb, 0, none⟩)] w fun e w' => e = .returned (.int .i64 (L.last : Nat)) ∧ w = w' := by
  obtain ⟨c0, c1, c2, c3, c4, c5, c6, c7, c8⟩ := nine h
  clear h
  go_enter Try.func22, Try.ntmps22
  go_wp2_with fail
  go_ret
  exact ⟨rfl, rfl⟩
theorem synced_ok9 {w : World} {lb : Nat} {L : LSt} {db : Nat} {lv : Value} (h : Cells9 w lb (preL L db lv)) :
    Calls Try.prog 33 #[.pointer (some ⟨lb, 0, none⟩)] w fun e w' => e = .returned (.int .i64 (L.synced : Nat)) ∧ w = w' := by
  obtain ⟨c0, c1, c2, c3, c4, c5, c6, c7, c8⟩ := nine h
  clear h
  go_enter Try.func33, Try.ntmps33
  go_wp2_with fail
  go_ret
  exact ⟨rfl, rfl⟩

/-- What can be no region. -/
def badRegion (secs : Nat) (fr n : Int) : Bool := decide (fr < 0 ∨ n < 2 ∨ (secs : Int) < n ∨ (secs : Int) - n < fr)
theorem region_bad {w : World} {b : Nat} {D : DSt} {F : Nat → Prop} (hD : DiskAt w b D F) (fr n : Int) (hn : n ≤ 9223372036854775807) (h : fr < 0 ∨ 0 ≤ fr ∧ n < 2 ∨ 0 ≤ fr ∧ 2 ≤ n ∧ (D.secs.length : Int) < n ∨ 0 ≤ fr ∧ 2 ≤ n ∧ n ≤ (D.secs.length : Int) ∧ (D.secs.length : Int) - n < fr) :
    Calls Try.prog 37 #[.pointer (some ⟨b, 0, none⟩), .int .i64 fr, .int .i64 n] w fun e w' => e = .returned (.int .i64 1) ∧ w = w' := by
  have hs := size_disk hD
  have hm := hD.1.most
  obtain ⟨m, hmm⟩ : ∃ m, D.secs.length = m := ⟨_, rfl⟩
  rw [hmm] at hs h hm
  have hm2 : (m : Int) ≤ 4096 := by omega
  have Hs := Lib.hid hs
  clear hs hm hmm hD
  rcases h with h | ⟨h1, h2⟩ | ⟨h1, h2, h3⟩ | ⟨h1, h2, h3, h4⟩
  · go_enter Try.func37, Try.ntmps37
    go_wp2_with fail
    go_ret
    exact ⟨rfl, rfl⟩
  · go_enter Try.func37, Try.ntmps37
    go_wp2_with fail
    go_ret
    exact ⟨rfl, rfl⟩
  · go_enter Try.func37, Try.ntmps37
    go_wp2_with ((with_reducible refine Hs.out.mono ?_); rintro e w' ⟨rfl, rfl⟩; dsimp only)
    go_ret
    exact ⟨rfl, rfl⟩
  · go_enter Try.func37, Try.ntmps37
    go_wp2_with ((with_reducible refine Hs.out.mono ?_); rintro e w' ⟨rfl, rfl⟩; dsimp only)
    go_ret
    exact ⟨rfl, rfl⟩
theorem region_good {w : World} {b : Nat} {D : DSt} {F : Nat → Prop} (hD : DiskAt w b D F) (fr n : Int) (h1 : 0 ≤ fr) (h2 : 2 ≤ n) (h3 : fr + n ≤ (D.secs.length : Int)) :
    Calls Try.prog 37 #[.pointer (some ⟨b, 0, none⟩), .int .i64 fr, .int .i64 n] w fun e w' => e = .returned (.int .i64 0) ∧ w = w' := by
  have hs := size_disk hD
  have hm := hD.1.most
  obtain ⟨m, hmm⟩ : ∃ m, D.secs.length = m := ⟨_, rfl⟩
  rw [hmm] at hs h3 hm
  have hm2 : (m : Int) ≤ 4096 := by omega
  have h4 : n ≤ (m : Int) := by omega
  have h5 : fr ≤ (m : Int) - n := by omega
  have Hs := Lib.hid hs
  clear hs hm hmm hD h3
  go_enter Try.func37, Try.ntmps37
  go_wp2_with ((with_reducible refine Hs.out.mono ?_); rintro e w' ⟨rfl, rfl⟩; dsimp only)
  go_ret
  exact ⟨rfl, rfl⟩
theorem region_nil (fr n : Int) (w : World) :
    Calls Try.prog 37 #[.pointer none, .int .i64 fr, .int .i64 n] w fun e w' => e = .returned (.int .i64 2) ∧ w = w' := by
  go_enter Try.func37, Try.ntmps37
  go_wp2_with fail
  go_ret
  exact ⟨rfl, rfl⟩

/-! Need. -/
def strsV (b : Batch) : List Value := b.map .string
theorem strsV_length (b : Batch) : (strsV b).length = b.length := by simp [strsV]
def bytesFrom (b : Batch) : Nat := b.foldl (fun n r => n + (4 + r.size)) 16
theorem bytesOf_snoc (b : Batch) (r : ByteArray) : bytesOf (b ++ [r]) = bytesOf b + (4 + r.size) := by simp [bytesOf]
theorem bytesOf_take_le (b : Batch) (k : Nat) : bytesOf (b.take k) ≤ bytesOf b := by
  rw [bytesOf_eq, bytesOf_eq]
  have : bodyB b = bodyB (b.take k) ++ bodyB (b.drop k) := by
    rw [bodyB, bodyB, bodyB, ← List.flatMap_append, List.take_append_drop]
  rw [this, List.length_append]; omega

set_option maxHeartbeats 1000000 in
theorem need_ok (xa : Option Addr) (xc : Nat) (b : Batch) (w : World) (hb : Sees w 1 (.slice xa b.length xc) b.length (strsV b)) (hsz : bytesOf b ≤ 1000000000000000000) :
    Calls Try.prog 12 #[.slice xa b.length xc] w fun e w' => e = .returned (.int .i64 (needB b : Nat)) ∧ w = w' := by
  have hm := hb.2.1
  have hlm : (b.length : Int) ≤ 9223372036854775807 := by unfold maxLen at hm; omega
  have Hb := Lib.hid (And.intro hb hsz)
  clear hb hsz hm
  go_enter Try.func12, Try.ntmps12
  go_wp2_with fail
  go_loop [3, 8] (fun n i => ∃ k : Nat, k ≤ b.length ∧ i = .int .i64 k ∧ n = .int .i64 (bytesOf (b.take k) : Nat)) (fun _ i => b.length - (intOf i).toNat)
  case atStart => exact ⟨0, Nat.zero_le _, rfl, rfl⟩
  case round =>
    obtain ⟨k, hk, rfl, rfl⟩ := hrel
    obtain ⟨N, hN⟩ : ∃ N, bytesOf (b.take k) = N := ⟨_, rfl⟩
    have hle : N ≤ bytesOf b := by rw [← hN]; exact bytesOf_take_le b k
    have hN2 : (N : Int) ≤ 1000000000000000000 := by have := Hb.out.2; omega
    by_cases hlt : k < b.length
    · have hlt2 : (k : Int) < (b.length : Int) := by omega
      obtain ⟨r, hr⟩ : ∃ r, b[k] = r := ⟨_, rfl⟩
      have hsn : bytesOf (b.take (k + 1)) = N + (4 + r.size) := by rw [List.take_succ_eq_append_getElem hlt, bytesOf_snoc, hN, hr]
      have hle2 : bytesOf (b.take (k + 1)) ≤ bytesOf b := bytesOf_take_le b _
      obtain ⟨_, _, xo, cc, e', hc⟩ := Hb.out.1
      cases e'
      obtain ⟨g, off, rfl, hrr⟩ := hc (by omega)
      have hcell : w.cell? ⟨g, off + k, none⟩ = some (.string r) := hrr k _ (by simp [strsV, hlt, hr])
      have hr2 : (r.size : Int) ≤ 1000000000000000000 := by have := Hb.out.2; omega
      have hsum : (N : Int) + (4 + (r.size : Int)) ≤ 1000000000000000000 := by have := Hb.out.2; omega
      have Hsn := Lib.hid hsn
      rw [hN]
      clear hsn hle hle2 hc hrr hr hN
      go_wp2_with fail
      exact ⟨⟨k + 1, by omega, by go_num, by rw [Hsn.out]; go_num⟩, by simp [intOf]; omega⟩
    · obtain rfl : k = b.length := by omega
      rw [List.take_length] at hN
      have hfin : ((needB b : Nat) : Int) = ((N : Int) + 512 - 1) / 512 := by rw [needB, hN]; omega
      rw [List.take_length, hN]
      have Hfin := Lib.hid hfin
      clear hfin hN hle
      go_wp2_with fail
      go_ret
      exact ⟨by rw [Hfin.out]; simp, rfl⟩
end Go.Proofs.Ytocameknhglklaa
