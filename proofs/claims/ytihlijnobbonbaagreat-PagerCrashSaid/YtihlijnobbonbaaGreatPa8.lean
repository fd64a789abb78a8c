/- Package pager: its calls, what is inner left out. -/
import Derived.Test.YtihlijnobbonbaaGreatPa7
namespace Go.Proofs.YtihlijnobbonbaaGreat
open Go Go.RowKit
set_option linter.unusedSimpArgs false
set_option linter.unusedVariables false
set_option maxRecDepth 100000

/-- A pager that lives, no transaction open: the commits, up to where they are synced, the disk's fuel; K: its blocks. -/
def Pgr (w : World) (pb db skip N : Nat) (cs : List Img) (sy : Nat) (f : Int) (K : Nat → Prop) : Prop :=
  ∃ (lb fb : Nat) (L : LSt) (D : DSt) (es : Img) (F : Nat → Prop) (T : Nat), PgAt w pb db lb fb skip none false L D es F ∧ PInv L D skip N T cs es ∧ L.synced = sy ∧ D.fuel = f ∧ K = ownP pb fb F
/-- A transaction is open; ds: what it has written. -/
def Txr (w : World) (tb pb db skip N : Nat) (cs : List Img) (ds : Img) (sy : Nat) (f : Int) (K : Nat → Prop) : Prop :=
  ∃ (mb lb fb : Nat) (L : LSt) (D : DSt) (es : Img) (F : Nat → Prop) (T : Nat), TxP w tb mb pb db lb fb skip L D ds es F ∧ PInv L D skip N T cs es ∧ EsOk N ds ∧ L.synced = sy ∧ D.fuel = f ∧ K = ownTx tb mb pb fb F
/-- The disk has died. -/
def Pgd (w : World) (pb db skip N : Nat) (cs : List Img) (lo : Nat) (K : Nat → Prop) : Prop :=
  ∃ (lb fb : Nat) (L : LSt) (D : DSt) (es : Img) (F : Nat → Prop) (ot : Option Addr), PgAt w pb db lb fb skip ot true L D es F ∧ D.dead = true ∧ SafeP D skip N cs lo ∧ L.synced = lo ∧ (∀ c ∈ cs, EsOk N c) ∧ K = ownP pb fb F
section
variable {w w' : World} {tb pb db skip N sy : Nat} {cs : List Img} {ds : Img} {f : Int} {K H : Nat → Prop}
theorem Pgr.upd (h : Pgr w pb db skip N cs sy f K) (hu : Upd H w w') (hf : ∀ q, K q → ¬ H q) : Pgr w' pb db skip N cs sy f K := by
  obtain ⟨lb, fb, L, D, es, F, T, h1, h2, h3, h4, rfl⟩ := h
  exact ⟨lb, fb, L, D, es, F, T, h1.upd hu hf, h2, h3, h4, rfl⟩
theorem Pgr.lt (h : Pgr w pb db skip N cs sy f K) : ∀ q, K q → q < w.heap.size := by
  obtain ⟨lb, fb, L, D, es, F, T, h1, h2, h3, h4, rfl⟩ := h
  exact h1.lt
theorem Txr.upd (h : Txr w tb pb db skip N cs ds sy f K) (hu : Upd H w w') (hf : ∀ q, K q → ¬ H q) : Txr w' tb pb db skip N cs ds sy f K := by
  obtain ⟨mb, lb, fb, L, D, es, F, T, h1, h2, h3, h4, h5, rfl⟩ := h
  exact ⟨mb, lb, fb, L, D, es, F, T, h1.upd hu hf, h2, h3, h4, h5, rfl⟩
theorem Txr.lt (h : Txr w tb pb db skip N cs ds sy f K) : ∀ q, K q → q < w.heap.size := by
  obtain ⟨mb, lb, fb, L, D, es, F, T, h1, h2, h3, h4, h5, rfl⟩ := h
  exact h1.lt
theorem Txr.ok (h : Txr w tb pb db skip N cs ds sy f K) : EsOk N ds ∧ (∀ c ∈ cs, EsOk N c) ∧ cs.length < 1000000000000000000 ∧ sy ≤ cs.length := by
  obtain ⟨mb, lb, fb, L, D, es, F, T, h1, h2, h3, h4, h5, rfl⟩ := h
  have h6 := h2.inv.ok.last
  have h7 := h2.inv.last
  have h8 := h2.inv.high
  rw [List.length_map] at h7 h8
  exact ⟨h3, h2.okC, by omega, by omega⟩
theorem Pgr.ok (h : Pgr w pb db skip N cs sy f K) : (∀ c ∈ cs, EsOk N c) ∧ cs.length < 1000000000000000000 ∧ sy ≤ cs.length ∧ skip + N ≤ 4096 := by
  obtain ⟨lb, fb, L, D, es, F, T, h1, h2, h4, h5, rfl⟩ := h
  have h6 := h2.inv.ok.last
  have h7 := h2.inv.last
  have h8 := h2.inv.high
  rw [List.length_map] at h7 h8
  obtain ⟨G, hG, _⟩ := h1.wal.disk
  have h9 := hG.1.most
  have h10 := h2.secs
  exact ⟨h2.okC, by omega, by omega, by omega⟩
/-- Begin. -/
theorem qbegin_ok (h : Pgr w pb db skip N cs sy f K) : Calls Tryz.prog 13 #[.pointer (some ⟨pb, 0, none⟩)] w fun e w' =>
    ∃ tb K', e = .returned (.tuple #[.pointer (some ⟨tb, 0, none⟩), .int .i64 0]) ∧ Txr w' tb pb db skip N cs [] sy f K' ∧ Fut w w' K K' := by
  obtain ⟨lb, fb, L, D, es, F, T, h1, h2, h3, h4, rfl⟩ := h
  refine (pbegin_ok h1 h2.secs).mono ?_
  rintro e w' ⟨tb, mb, rfl, a1, a2, a3, a4⟩
  refine ⟨tb, _, rfl, ⟨mb, lb, fb, L, D, es, F, T, a3, h2, EsOk.nil N, h3, h4, rfl⟩, a4.mono (fun q _ hq => .inl hq), fun q hq => ?_⟩
  rcases hq with rfl | rfl | e
  · exact .inr a1
  · exact .inr a2
  · exact .inl e
theorem qbegin_busy (h : Txr w tb pb db skip N cs ds sy f K) : Calls Tryz.prog 13 #[.pointer (some ⟨pb, 0, none⟩)] w fun e w' => e = .returned (.tuple #[.pointer none, .int .i64 6]) ∧ w = w' := by
  obtain ⟨mb, lb, fb, L, D, es, F, T, h1, h2, h3, h4, h5, rfl⟩ := h
  exact pbegin_busy h1.pg
theorem qbegin_dead {lo : Nat} (h : Pgd w pb db skip N cs lo K) : Calls Tryz.prog 13 #[.pointer (some ⟨pb, 0, none⟩)] w fun e w' => e = .returned (.tuple #[.pointer none, .int .i64 10]) ∧ w = w' := by
  obtain ⟨lb, fb, L, D, es, F, ot, h1, h2, h3, h4, h5⟩ := h
  exact pbegin_dead h1
/-- Write. -/
theorem qwrite_ok (h : Txr w tb pb db skip N cs ds sy f K) (b : Int) (hb : -9223372036854775808 ≤ b) (hb2 : b ≤ 9223372036854775807) (xd : Option Addr) (xc : Nat) (dl : Bytes)
    (hs : Sees w 1 (.slice xd dl.length xc) dl.length (bvs dl)) : Calls Tryz.prog 15 #[.pointer (some ⟨tb, 0, none⟩), .int .i64 b, .slice xd dl.length xc] w fun e w' =>
      ((b < 0 ∨ (N : Int) ≤ b ∨ 512 < dl.length) ∧ e = .returned (.int .i64 1) ∧ Upd (fun _ => False) w w') ∨
      (0 ≤ b ∧ b < (N : Int) ∧ dl.length ≤ 512 ∧ e = .returned (.int .i64 0) ∧ Txr w' tb pb db skip N cs (putP ds b (pad dl)) sy f K ∧ Upd K w w') := by
  obtain ⟨mb, lb, fb, L, D, es, F, T, h1, h2, h3, h4, h5, rfl⟩ := h
  refine (pwrite_ok h1 h2.secs h3 b hb hb2 xd xc dl hs).mono ?_
  rintro e w' (⟨a1, a2, a3⟩ | ⟨a1, a2, a3, a4, a5, a6, a7⟩)
  · exact .inl ⟨a1, a2, a3⟩
  · exact .inr ⟨a1, a2, a3, a4, ⟨mb, lb, fb, L, D, es, F, T, a5, h2, a6, h4, h5, rfl⟩, a7.mono (fun q _ hq => .inr (.inl hq))⟩
/-- Read. -/
theorem qread_ok (h : Txr w tb pb db skip N cs ds sy f K) (b : Nat) (hb : b < N) :
    Calls Tryz.prog 23 #[.pointer (some ⟨tb, 0, none⟩), .int .i64 (b : Nat)] w fun e w' => ∃ (xa : Option Addr) (xc : Nat), e = .returned (.tuple #[.slice xa 512 xc, .int .i64 0]) ∧ Mid w' 1 (.slice xa 512 xc) 512 (bvs ((lookB ds (b : Int)).getD (atC cs (b : Int)))) ∧
      (∀ q, (Value.slice xa 512 xc).ownBlock = some q → w.heap.size ≤ q ∧ ∀ i, w'.frozen? ⟨q, i, none⟩ = false) ∧ Upd (fun _ => False) w w' := by
  obtain ⟨mb, lb, fb, L, D, es, F, T, h1, h2, h3, h4, h5, rfl⟩ := h
  exact pread_ok h1 h2 h3 b hb
theorem Txr.look_len (h : Txr w tb pb db skip N cs ds sy f K) (b : Int) : ((lookB ds b).getD (atC cs b)).length = 512 := by
  obtain ⟨h1, h2, _⟩ := h.ok
  cases hq : lookB ds b with
  | none => exact atC_length h2 b
  | some x => exact (h1.look hq).2.2
theorem qread_bad (h : Txr w tb pb db skip N cs ds sy f K) (b : Int) (hb : -9223372036854775808 ≤ b) (hb2 : b ≤ 9223372036854775807) (hbad : b < 0 ∨ (N : Int) ≤ b) :
    Calls Tryz.prog 23 #[.pointer (some ⟨tb, 0, none⟩), .int .i64 b] w fun e w' => e = .returned (.tuple #[.slice none 0 0, .int .i64 1]) ∧ Upd (fun _ => False) w w' := by
  obtain ⟨mb, lb, fb, L, D, es, F, T, h1, h2, h3, h4, h5, rfl⟩ := h
  obtain ⟨G, hS, hG⟩ := h1.s h2.secs (lens_of h3)
  have hus := usable_ok hS b hb hb2
  rw [if_pos hbad] at hus
  have Hus := Lib.hid hus
  clear hus h1 h2 h3 h4 h5 hS hG hbad
  go_enter Tryz.func23, Tryz.ntmps23
  go_wp2_with fail
  refine Hus.out.mono ?_
  rintro e w1 ⟨rfl, hu⟩
  dsimp only
  have Hu := Lib.hid hu
  clear hu
  go_wp2_with fail
  go_ret2
  exact ⟨rfl, Hu.out⟩
/-- Dirty, Done, Synced, Blocks. -/
theorem qdirty_ok (h : Txr w tb pb db skip N cs ds sy f K) : Calls Tryz.prog 26 #[.pointer (some ⟨tb, 0, none⟩)] w fun e w' => e = .returned (.int .i64 (ds.length : Nat)) ∧ w = w' := by
  obtain ⟨mb, lb, fb, L, D, es, F, T, h1, h2, h3, h4, h5, rfl⟩ := h
  exact pdirty_ok h1
theorem qdone_ok (h : Pgr w pb db skip N cs sy f K) : Calls Tryz.prog 14 #[.pointer (some ⟨pb, 0, none⟩)] w fun e w' => e = .returned (.int .i64 (cs.length : Nat)) ∧ w = w' := by
  obtain ⟨lb, fb, L, D, es, F, T, h1, h2, h3, h4, rfl⟩ := h
  have := pdone_ok h1
  rw [h2.inv.last, List.length_map] at this
  exact this
theorem qdone_tx (h : Txr w tb pb db skip N cs ds sy f K) : Calls Tryz.prog 14 #[.pointer (some ⟨pb, 0, none⟩)] w fun e w' => e = .returned (.int .i64 (cs.length : Nat)) ∧ w = w' := by
  obtain ⟨mb, lb, fb, L, D, es, F, T, h1, h2, h3, h4, h5, rfl⟩ := h
  have := pdone_ok h1.pg
  rw [h2.inv.last, List.length_map] at this
  exact this
theorem qsynced_ok (h : Pgr w pb db skip N cs sy f K) : Calls Tryz.prog 24 #[.pointer (some ⟨pb, 0, none⟩)] w fun e w' => e = .returned (.int .i64 (sy : Nat)) ∧ w = w' := by
  obtain ⟨lb, fb, L, D, es, F, T, h1, h2, h3, h4, rfl⟩ := h
  have := psynced_ok h1
  rw [h3] at this
  exact this
theorem qsynced_tx (h : Txr w tb pb db skip N cs ds sy f K) : Calls Tryz.prog 24 #[.pointer (some ⟨pb, 0, none⟩)] w fun e w' => e = .returned (.int .i64 (sy : Nat)) ∧ w = w' := by
  obtain ⟨mb, lb, fb, L, D, es, F, T, h1, h2, h3, h4, h5, rfl⟩ := h
  have := psynced_ok h1.pg
  rw [h4] at this
  exact this
theorem qsynced_dead {lo : Nat} (h : Pgd w pb db skip N cs lo K) : Calls Tryz.prog 24 #[.pointer (some ⟨pb, 0, none⟩)] w fun e w' => e = .returned (.int .i64 (lo : Nat)) ∧ w = w' := by
  obtain ⟨lb, fb, L, D, es, F, ot, h1, h2, h3, h4, h5⟩ := h
  have := psynced_ok h1
  rw [h4] at this
  exact this
theorem qblocks_tx (h : Txr w tb pb db skip N cs ds sy f K) : Calls Tryz.prog 27 #[.pointer (some ⟨pb, 0, none⟩)] w fun e w' => e = .returned (.int .i64 (N : Nat)) ∧ Upd (fun _ => False) w w' := by
  obtain ⟨mb, lb, fb, L, D, es, F, T, h1, h2, h3, h4, h5, rfl⟩ := h
  obtain ⟨G, hS, hG⟩ := h1.s h2.secs (lens_of h3)
  exact blocks_ok hS
/-- Abort. -/
theorem qabort_ok (h : Txr w tb pb db skip N cs ds sy f K) : Calls Tryz.prog 17 #[.pointer (some ⟨tb, 0, none⟩)] w fun e w' => ∃ K', e = .returned (.tuple #[]) ∧ Pgr w' pb db skip N cs sy f K' ∧ Fut w w' K K' := by
  obtain ⟨mb, lb, fb, L, D, es, F, T, h1, h2, h3, h4, h5, rfl⟩ := h
  refine (pabort_ok h1).mono ?_
  rintro e w' ⟨rfl, a1, a2⟩
  refine ⟨_, rfl, ⟨lb, fb, L, D, es, F, T, a1, h2, h4, h5, rfl⟩, a2.mono (fun q _ hq => ?_), fun q hq => .inl (.inr (.inr hq))⟩
  rcases hq with e | e
  · exact .inl e
  · exact .inr (.inr (.inl e))
def TooLong (skip : Nat) (ds : Img) : Prop := skip - 1 < needB (encC ds) ∨ 1024 < ds.length
/-- Commit. -/
def CmtPost (w : World) (pb db skip N : Nat) (cs : List Img) (ds : Img) (sy : Nat) (f : Int) (K : Nat → Prop) (a r : Int) (w' : World) : Prop :=
  ∃ K', Fut w w' K K' ∧
    ((ds.length = 0 ∧ a = (cs.length : Nat) ∧ r = 0 ∧ Pgr w' pb db skip N cs sy f K') ∨
     (ds.length ≠ 0 ∧ TooLong skip ds ∧ a = 0 ∧ r = 13 ∧ Pgr w' pb db skip N cs sy f K') ∨
     (ds.length ≠ 0 ∧ ¬ TooLong skip ds ∧ a = ((cs.length + 1 : Nat) : Int) ∧ r = 0 ∧ ∃ sy' f', sy ≤ sy' ∧ (f < 0 → f' = f) ∧ Pgr w' pb db skip N (cs ++ [ds]) sy' f' K') ∨
     (ds.length ≠ 0 ∧ ¬ TooLong skip ds ∧ a = 0 ∧ r = 10 ∧ (∃ lo, Pgd w' pb db skip N cs lo K') ∧ 0 ≤ f))
def CmtPost2 (w : World) (tb pb db skip N : Nat) (cs : List Img) (ds : Img) (sy : Nat) (f : Int) (K : Nat → Prop) (a r : Int) (w' : World) : Prop :=
  ∃ K', Fut w w' K K' ∧ Shut w' tb K' ∧
    ((ds.length = 0 ∧ a = (cs.length : Nat) ∧ r = 0 ∧ Pgr w' pb db skip N cs sy f K') ∨
     (ds.length ≠ 0 ∧ TooLong skip ds ∧ a = 0 ∧ r = 13 ∧ Pgr w' pb db skip N cs sy f K') ∨
     (ds.length ≠ 0 ∧ ¬ TooLong skip ds ∧ a = ((cs.length + 1 : Nat) : Int) ∧ r = 0 ∧ ∃ sy' f', sy ≤ sy' ∧ (f < 0 → f' = f) ∧ Pgr w' pb db skip N (cs ++ [ds]) sy' f' K') ∨
     (ds.length ≠ 0 ∧ ¬ TooLong skip ds ∧ a = 0 ∧ r = 10 ∧ (∃ lo, Pgd w' pb db skip N cs lo K') ∧ 0 ≤ f))
theorem qcommit2_ok (h : Txr w tb pb db skip N cs ds sy f K) (hN : 1 ≤ N) (hcl : cs.length + 1 < 1000000000000000000) :
    Calls Tryz.prog 16 #[.pointer (some ⟨tb, 0, none⟩)] w fun e w' => ∃ a r, e = .returned (.tuple #[.int .i64 a, .int .i64 r]) ∧ CmtPost2 w tb pb db skip N cs ds sy f K a r w' := by
  obtain ⟨mb, lb, fb, L, D, es, F, T, h1, h2, h3, h4, h5, rfl⟩ := h
  refine (pcommit_ok h1 h2 h3 hN hcl).mono ?_
  rintro e w' ⟨a, r, rfl, L', D', F', fb', es', g1, g2, g3⟩
  refine ⟨a, r, rfl, ownP pb fb' F', g2.1, g2.2, ?_⟩
  rcases g3 with ⟨a1, a2, rfl, rfl, rfl, a6⟩ | ⟨a1, a2, a3, rfl, rfl, rfl, a7⟩ | ⟨a1, a2, a3, a4, rfl, ⟨T', a6⟩, a7, a8⟩ | ⟨a1, a2, a3, a4, rfl, a6, a7, a8⟩
  · exact .inl ⟨a1, a2, rfl, lb, fb', _, _, es', F', T, g1, a6, h4, h5, rfl⟩
  · exact .inr (.inl ⟨a1, a2, a3, rfl, lb, fb', _, _, es', F', T, g1, a7, h4, h5, rfl⟩)
  · exact .inr (.inr (.inl ⟨a1, fun t => by rcases t with t | t <;> omega, a4, rfl, _, _, by rw [← h4]; exact a7, fun hf => by rw [a8 (by omega)]; exact h5, lb, fb', _, _, es', F', T', g1, a6, rfl, rfl, rfl⟩))
  · exact .inr (.inr (.inr ⟨a1, fun t => by rcases t with t | t <;> omega, a4, rfl, ⟨_, lb, fb', _, _, es', F', none, g1, a6, a7, rfl, h2.okC, rfl⟩, by omega⟩))
theorem qcommit_ok (h : Txr w tb pb db skip N cs ds sy f K) (hN : 1 ≤ N) (hcl : cs.length + 1 < 1000000000000000000) :
    Calls Tryz.prog 16 #[.pointer (some ⟨tb, 0, none⟩)] w fun e w' => ∃ a r, e = .returned (.tuple #[.int .i64 a, .int .i64 r]) ∧ CmtPost w pb db skip N cs ds sy f K a r w' := by
  refine (qcommit2_ok h hN hcl).mono ?_
  rintro e w' ⟨a, r, rfl, K', g1, g2, g3⟩
  exact ⟨a, r, rfl, K', g1, g3⟩
/-- Sync. -/
def SynPost (w : World) (pb db skip N : Nat) (cs : List Img) (sy : Nat) (f : Int) (K : Nat → Prop) (r : Int) (w' : World) : Prop :=
  ∃ K', Fut w w' K K' ∧ ((r = 0 ∧ ∃ f', (f < 0 → f' = f) ∧ Pgr w' pb db skip N cs cs.length f' K') ∨ (r = 10 ∧ Pgd w' pb db skip N cs sy K' ∧ 0 ≤ f))
theorem qsync_ok (h : Pgr w pb db skip N cs sy f K) : Calls Tryz.prog 22 #[.pointer (some ⟨pb, 0, none⟩)] w fun e w' => ∃ r, e = .returned (.int .i64 r) ∧ SynPost w pb db skip N cs sy f K r w' := by
  have hsk := h.ok.2.2.2
  obtain ⟨lb, fb, L, D, es, F, T, h1, h2, h3, h4, rfl⟩ := h
  refine (ppsync_ok h1 h2 (by omega)).mono ?_
  rintro e w' ⟨r, rfl, L', D', F', es', g1, g2, g3⟩
  refine ⟨r, rfl, ownP pb fb F', g2, ?_⟩
  rcases g3 with ⟨rfl, a2, a3, a4⟩ | ⟨rfl, a2, a3, a4, a5⟩
  · exact .inl ⟨rfl, _, fun hf => by rw [a4 (by omega)]; exact h4, lb, fb, _, _, es', F', T, g1, a2, a3, rfl, rfl⟩
  · refine .inr ⟨rfl, ⟨lb, fb, _, _, es', F', none, g1, a2, ?_, by rw [a4]; exact h3, h2.okC, rfl⟩, by omega⟩
    rw [← h3, ← a4]; exact a3
end
end Go.Proofs.YtihlijnobbonbaaGreat
