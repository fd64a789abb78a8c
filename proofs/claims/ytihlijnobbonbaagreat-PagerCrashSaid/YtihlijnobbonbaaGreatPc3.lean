/- docketlaw04.live. -/
import Derived.Test.YtihlijnobbonbaaGreatPc2
import Derived.Deep.DeepCutAuto
import Derived.Deep.CutBlock
import Derived.OwnWalk
namespace Go.Proofs.YtihlijnobbonbaaGreat
open Go Go.RowKit
set_option linter.unusedSimpArgs false
set_option linter.unusedVariables false
set_option maxRecDepth 100000

/-- In a life: n commits. -/
def LvA (G : Nat → Prop) (wb wr : World) (tb pb db xb rb skip N n b : Nat) : Prop :=
  ∃ (cs ct : List Img) (ds l : Img) (sy : Nat) (f : Int), TT G wb wr tb pb db xb rb skip N cs ct ds l sy f ∧ cs.length = n ∧ n ≤ b
def LvB (G : Nat → Prop) (wb wr : World) (tb pb db xb rb skip N n b dn : Nat) : Prop :=
  ∃ (cs ct : List Img) (ds l : Img) (sy : Nat) (f : Int), TT G wb wr tb pb db xb rb skip N cs ct ds l sy f ∧ cs.length = n ∧ n ≤ b ∧ ds.length = dn ∧ dn ≤ 4096
def LvD (G : Nat → Prop) (wb wr : World) (pb db rb skip N n b : Nat) : Prop :=
  ∃ (cs ct : List Img) (lo : Nat), PD G wb wr pb db rb skip N cs ct lo ∧ SameC cs ct ∧ cs.length = n ∧ n ≤ b
/-- At the end of the loop. -/
def LvE (G : Nat → Prop) (wb wr : World) (pb db rb skip N n : Nat) (e : Int) (b : Nat) : Prop :=
  ((e = 0 ∨ e = 6) ∧ ∃ tb xb, LvA G wb wr tb pb db xb rb skip N n b) ∨ (e = 10 ∧ LvD G wb wr pb db rb skip N n b)
/-- Behind the pager's Commit. -/
def LvC (G : Nat → Prop) (wb wr : World) (tb pb db xb rb skip N n b dn : Nat) (a r : Int) : Prop :=
  ∃ (cs ct : List Img) (ds l : Img) (sy : Nat) (f : Int), CM G wb tb pb db xb rb skip N cs ct ds l sy f a r wr ∧ cs.length = n ∧ n ≤ b ∧ ds.length = dn ∧ N ≤ 4096 ∧ skip ≤ 4096
/-- Behind both. -/
def LvP (G : Nat → Prop) (wb wr : World) (pb db rb skip N n b : Nat) : Prop :=
  ∃ (tb : Nat) (cs ct : List Img) (sy : Nat) (f : Int), PS G wb wr tb pb db rb skip N cs ct sy f ∧ cs.length = n ∧ n ≤ b
/-- Behind both, the disk dead. -/
def LvQ (G : Nat → Prop) (wb wr : World) (pb db rb skip N n b : Nat) : Prop :=
  ∃ (cs ct : List Img) (lo : Nat) (l : Img), PD G wb wr pb db rb skip N cs (ct ++ [l]) lo ∧ SameC cs ct ∧ cs.length = n ∧ n ≤ b
section
variable {G : Nat → Prop} {wb wr w' : World} {tb pb db xb rb skip N n b dn : Nat} {e a r : Int}
theorem LvA.upd0 (h : LvA G wb wr tb pb db xb rb skip N n b) : Upd G wb wr := let ⟨_, _, _, _, _, _, h, _⟩ := h; h.upd0
theorem LvE.upd0 (h : LvE G wb wr pb db rb skip N n e b) : Upd G wb wr := by
  rcases h with ⟨_, _, _, h⟩ | ⟨_, _, _, _, h, _⟩
  · exact h.upd0
  · exact h.upd0
theorem LvA.quiet (h : LvA G wb wr tb pb db xb rb skip N n b) (hu : Upd (fun _ => False) wr w') : LvA G wb w' tb pb db xb rb skip N n b :=
  let ⟨cs, ct, ds, l, sy, f, h, h2⟩ := h; ⟨cs, ct, ds, l, sy, f, h.quiet hu, h2⟩
theorem LvD.quiet (h : LvD G wb wr pb db rb skip N n b) (hu : Upd (fun _ => False) wr w') : LvD G wb w' pb db rb skip N n b :=
  let ⟨cs, ct, lo, h, h2⟩ := h; ⟨cs, ct, lo, h.quiet hu, h2⟩
theorem LvQ.quiet (h : LvQ G wb wr pb db rb skip N n b) (hu : Upd (fun _ => False) wr w') : LvQ G wb w' pb db rb skip N n b :=
  let ⟨cs, ct, lo, l, h, h2⟩ := h; ⟨cs, ct, lo, l, h.quiet hu, h2⟩
theorem LvA.le {m : Nat} (h : LvA G wb wr tb pb db xb rb skip N n b) (hm : b ≤ m) : LvA G wb wr tb pb db xb rb skip N n m :=
  let ⟨cs, ct, ds, l, sy, f, h, h2, h3⟩ := h; ⟨cs, ct, ds, l, sy, f, h, h2, Nat.le_trans h3 hm⟩
theorem LvD.le {m : Nat} (h : LvD G wb wr pb db rb skip N n b) (hm : b ≤ m) : LvD G wb wr pb db rb skip N n m :=
  let ⟨cs, ct, lo, h, h2, h3, h4⟩ := h; ⟨cs, ct, lo, h, h2, h3, Nat.le_trans h4 hm⟩
theorem LvE.le {m : Nat} (h : LvE G wb wr pb db rb skip N n e b) (hm : b ≤ m) : LvE G wb wr pb db rb skip N n e m := by
  rcases h with ⟨h1, tb, xb, h2⟩ | ⟨h1, h2⟩
  · exact .inl ⟨h1, tb, xb, h2.le hm⟩
  · exact .inr ⟨h1, h2.le hm⟩
theorem LvA.step (h : LvA G wb wr tb pb db xb rb skip N n b) (o : POp) (ho : o.Ok) (hb : b ≤ 5000000000000) :
    Calls Tryz.prog 34 #[.pointer (some ⟨tb, 0, none⟩), .pointer (some ⟨xb, 0, none⟩), .agg #[.int .u8 o.kind, .int .i64 o.b, .string o.data]] wr fun e w' => e = .returned (.bool true) ∧ LvA G wb w' tb pb db xb rb skip N n b := by
  obtain ⟨cs, ct, ds, l, sy, f, h1, h2, h3⟩ := h
  refine (step4_ok h1 o ho (by omega)).mono ?_
  rintro e w' ⟨rfl, ds', l', h⟩
  exact ⟨rfl, cs, ct, ds', l', sy, f, h, h2, h3⟩
theorem LvA.dirty (h : LvA G wb wr tb pb db xb rb skip N n b) : ∃ dn, LvB G wb wr tb pb db xb rb skip N n b dn ∧ Calls Tryz.prog 26 #[.pointer (some ⟨tb, 0, none⟩)] wr fun e w' => e = .returned (.int .i64 (dn : Nat)) ∧ wr = w' := by
  obtain ⟨cs, ct, ds, l, sy, f, h1, h2, h3⟩ := h
  exact ⟨ds.length, ⟨cs, ct, ds, l, sy, f, h1, h2, h3, rfl, by have := h1.ok.1.le; have := h1.ok.2.2.2.2.2; omega⟩, h1.dirty⟩
theorem LvB.commit (h : LvB G wb wr tb pb db xb rb skip N n b dn) (hN : 1 ≤ N) (hb : b ≤ 5000000000000) : Calls Tryz.prog 16 #[.pointer (some ⟨tb, 0, none⟩)] wr fun e w' => ∃ a r, e = .returned (.tuple #[.int .i64 a, .int .i64 r]) ∧ LvC G wb w' tb pb db xb rb skip N n b dn a r ∧ (r ≠ 10 ∨ (r = 10 ∧ 0 < dn)) := by
  obtain ⟨cs, ct, ds, l, sy, f, h1, h2, h3, h4, _⟩ := h
  have hm := h1.ok.2.2.2.2.2
  refine (h1.commit hN (by omega)).mono ?_
  rintro e w' ⟨a, r, rfl, h⟩
  refine ⟨a, r, rfl, ⟨cs, ct, ds, l, sy, f, h, h2, h3, h4, by omega, by omega⟩, ?_⟩
  obtain ⟨K, J, _, _, _, _, _, _, _, _, g | g | g | g⟩ := h
  · exact .inl (by rw [g.2.2.1]; decide)
  · exact .inl (by rw [g.2.2.2.1]; decide)
  · exact .inl (by rw [g.2.2.2.1]; decide)
  · exact .inr ⟨g.2.2.2.1, by have := g.1; omega⟩
theorem LvC.commit (h : LvC G wb wr tb pb db xb rb skip N n b dn a r) (hr : r ≠ 10) (hb : b ≤ 5000000000000) : Calls Tryz.prog 20 #[.pointer (some ⟨xb, 0, none⟩)] wr fun e w' => e = .returned (.tuple #[.int .i64 a, .int .i64 r]) ∧ ∃ m, m ≤ b + 1 ∧ LvP G wb w' pb db rb skip N m (b + 1) := by
  obtain ⟨cs, ct, ds, l, sy, f, h1, h2, h3, h4, h5, h6⟩ := h
  refine (h1.commit (by omega) h5 h6).mono ?_
  rintro e w' ⟨a', r', rfl, ⟨_, rfl, rfl, cs', ct', sy', f', h, h7, _⟩ | ⟨h, _⟩⟩
  · exact ⟨rfl, cs'.length, by omega, tb, cs', ct', sy', f', h, rfl, by omega⟩
  · exact absurd h hr
theorem LvC.commitD (h : LvC G wb wr tb pb db xb rb skip N n b dn a r) (hr : r = 10) (hb : b ≤ 5000000000000) : Calls Tryz.prog 20 #[.pointer (some ⟨xb, 0, none⟩)] wr fun e w' => (∃ a' r', e = .returned (.tuple #[.int .i64 a', .int .i64 r'])) ∧ LvQ G wb w' pb db rb skip N n b := by
  obtain ⟨cs, ct, ds, l, sy, f, h1, h2, h3, h4, h5, h6⟩ := h
  have hsc : SameC cs ct := let ⟨_, _, _, _, _, h, _⟩ := h1; h
  refine (h1.commit (by omega) h5 h6).mono ?_
  rintro e w' ⟨a', r', rfl, ⟨h, _⟩ | ⟨_, _, _, _, lo, l', h⟩⟩
  · exact absurd hr h
  · exact ⟨⟨a', r', rfl⟩, cs, ct, lo, l', h, hsc, h2, h3⟩
theorem LvA.cells (h : LvA G wb wr tb pb db xb rb skip N n b) : ∃ x c, wr.cell? ⟨rb, 2, none⟩ = some (.slice x n c) := by
  obtain ⟨cs, ct, ds, l, sy, f, h1, rfl, h3⟩ := h
  exact h1.cells.2.1
theorem LvP.cells (h : LvP G wb wr pb db rb skip N n b) : ∃ x c, wr.cell? ⟨rb, 2, none⟩ = some (.slice x n c) := by
  obtain ⟨tb, cs, ct, sy, f, h1, rfl, h3⟩ := h
  exact h1.pp.cells.2
theorem LvD.cells (h : LvD G wb wr pb db rb skip N n b) : ∃ x c, wr.cell? ⟨rb, 2, none⟩ = some (.slice x n c) := by
  obtain ⟨cs, ct, lo, h1, h2, rfl, h3⟩ := h
  rw [h2.1]
  exact h1.cells
theorem LvQ.look (h : LvQ G wb wr pb db rb skip N n b) : ∃ x c lo, wr.cell? ⟨rb, 2, none⟩ = some (.slice x (n + 1) c) ∧ Calls Tryz.prog 24 #[.pointer (some ⟨pb, 0, none⟩)] wr (fun e w' => e = .returned (.int .i64 (lo : Nat)) ∧ wr = w') ∧
    Calls Tryz.prog 36 #[.pointer (some ⟨db, 0, none⟩)] wr (fun e w' => e = .returned (.bool true) ∧ wr = w') ∧
    (∀ w, Upd (fun _ => False) w wb → (∀ q, G q → w.heap.size ≤ q) → ∃ cs ct, LV w wr db rb skip N cs ct lo ∧ cs.length ≤ n + 1) := by
  obtain ⟨cs, ct, lo, l, h1, h2, rfl, h3⟩ := h
  obtain ⟨x, c, hx⟩ := h1.cells
  rw [List.length_append, ← h2.1] at hx
  exact ⟨x, c, lo, hx, h1.synced, h1.dead, fun w hu hG => ⟨cs, _, (h1.base hu hG).lv h2, by omega⟩⟩
theorem LvP.begin (h : LvP G wb wr pb db rb skip N n b) : Calls Tryz.prog 13 #[.pointer (some ⟨pb, 0, none⟩)] wr fun e w' => ∃ tb', e = .returned (.tuple #[.pointer (some ⟨tb', 0, none⟩), .int .i64 0]) ∧ LvA G wb (w'.alloc (.cells #[.pointer (some ⟨rb, 0, none⟩), .slice none 0 0] 51)) tb' pb db w'.heap.size rb skip N n b := by
  obtain ⟨tb, cs, ct, sy, f, h1, h2, h3⟩ := h
  refine h1.pp.begin.mono ?_
  rintro e w' ⟨tb', rfl, h⟩
  exact ⟨tb', rfl, cs, ct, [], [], sy, f, h.new, h2, h3⟩
theorem LvA.busy (h : LvA G wb wr tb pb db xb rb skip N n b) : Calls Tryz.prog 13 #[.pointer (some ⟨pb, 0, none⟩)] wr fun e w' => e = .returned (.tuple #[.pointer none, .int .i64 6]) ∧ wr = w' := by
  obtain ⟨cs, ct, ds, l, sy, f, h1, _⟩ := h
  exact h1.busy
theorem LvD.begin (h : LvD G wb wr pb db rb skip N n b) : Calls Tryz.prog 13 #[.pointer (some ⟨pb, 0, none⟩)] wr fun e w' => e = .returned (.tuple #[.pointer none, .int .i64 10]) ∧ wr = w' := by
  obtain ⟨cs, ct, lo, h1, _⟩ := h
  exact h1.begin
theorem LvA.sync (h : LvA G wb wr tb pb db xb rb skip N n b) : Calls Tryz.prog 22 #[.pointer (some ⟨pb, 0, none⟩)] wr fun e w' => ∃ r, e = .returned (.int .i64 r) ∧
    ((r = 0 ∧ LvA G wb w' tb pb db xb rb skip N n b ∧ Calls Tryz.prog 24 #[.pointer (some ⟨pb, 0, none⟩)] w' (fun e w'' => e = .returned (.int .i64 (n : Nat)) ∧ w' = w'') ∧ Calls Tryz.prog 14 #[.pointer (some ⟨pb, 0, none⟩)] w' (fun e w'' => e = .returned (.int .i64 (n : Nat)) ∧ w' = w'') ∧
      Calls Tryz.prog 36 #[.pointer (some ⟨db, 0, none⟩)] w' (fun e w'' => e = .returned (.bool false) ∧ w' = w'')) ∨
     (r = 10 ∧ LvD G wb w' pb db rb skip N n b ∧ Calls Tryz.prog 36 #[.pointer (some ⟨db, 0, none⟩)] w' (fun e w'' => e = .returned (.bool true) ∧ w' = w''))) := by
  obtain ⟨cs, ct, ds, l, sy, f, h1, rfl, h3⟩ := h
  have hsc : SameC cs ct := let ⟨_, _, _, _, _, _, h⟩ := h1; h
  refine h1.sync.mono ?_
  rintro e w' ⟨r, rfl, ⟨rfl, f', h4, h5⟩ | ⟨rfl, h4, h5⟩⟩
  · exact ⟨_, rfl, .inl ⟨rfl, ⟨cs, ct, ds, l, _, f', h5, rfl, h3⟩, h5.synced, h5.done, h5.dead⟩⟩
  · exact ⟨_, rfl, .inr ⟨rfl, ⟨cs, ct, sy, h4, hsc, rfl, h3⟩, h4.dead⟩⟩
/-- What is asked at the end. -/
theorem LvE.look (h : LvE G wb wr pb db rb skip N n e b) : ∃ (lo : Nat) (dd : Bool), Calls Tryz.prog 24 #[.pointer (some ⟨pb, 0, none⟩)] wr (fun e w' => e = .returned (.int .i64 (lo : Nat)) ∧ wr = w') ∧
    Calls Tryz.prog 36 #[.pointer (some ⟨db, 0, none⟩)] wr (fun e w' => e = .returned (.bool dd) ∧ wr = w') ∧ ((e == 10) = dd) ∧
    (∀ w, Upd (fun _ => False) w wb → (∀ q, G q → w.heap.size ≤ q) → ∃ cs ct, LV w wr db rb skip N cs ct lo ∧ cs.length ≤ n) := by
  rcases h with ⟨he, tb, xb, cs, ct, ds, l, sy, f, h1, rfl, h3⟩ | ⟨rfl, cs, ct, lo, h1, h2, rfl, h3⟩
  · exact ⟨sy, false, h1.synced, h1.dead, by rcases he with rfl | rfl <;> rfl, fun w hu hG => ⟨cs, ct, (h1.base hu hG).lv, Nat.le_refl _⟩⟩
  · refine ⟨lo, true, h1.synced, h1.dead, rfl, fun w hu hG => ⟨cs, ct, ?_, Nat.le_refl _⟩⟩
    have := (PD.lv (l := []) (by rw [List.append_nil]; exact h1.base hu hG) h2)
    rwa [List.append_nil] at this
end
/-- What a life leaves. -/
def LivP (w0 : World) (db rb skip N B : Nat) (e : Ending) (w' : World) : Prop :=
  ∃ (cs ct : List Img) (lo n : Nat), e = .returned (.tuple #[.int .i64 (n : Nat), .int .i64 (lo : Nat), .bool true]) ∧ LV w0 w' db rb skip N cs ct lo ∧ cs.length ≤ n ∧ n ≤ B + 62
set_option maxHeartbeats 16000000 in
theorem live_ok {w0 w : World} {pb db rb skip N sy : Nat} {cs ct : List Img} (h : PP (fun _ => False) w0 w pb db rb skip N cs ct sy (-1)) (o : LifP) (ho : o.Ok w0) (hN : 1 ≤ N) (B : Nat) (hB : cs.length ≤ B) (hB2 : B ≤ 1000000) :
    Calls Tryz.prog 35 #[.pointer (some ⟨db, 0, none⟩), .pointer (some ⟨pb, 0, none⟩), .pointer (some ⟨rb, 0, none⟩), .agg #[.slice o.sa o.script.length o.sc, .int .u8 o.fuel, .slice o.ka o.keep.length o.kc, .slice o.aa o.again.length o.ac]] w fun e w' => LivP w0 db rb skip N B e w' := by
  obtain ⟨G, hst, hG⟩ := h.start
  have hu0 := h.upd0
  have hfb := ho.fuel
  obtain ⟨M, hM⟩ : ∃ M, o.script.length = M := ⟨_, rfl⟩
  have hMm := ho.script.1.2.1
  rw [hM] at hMm ⊢
  have hMI : (M : Int) ≤ 9223372036854775807 := by simp only [maxLen] at hMm; omega
  obtain ⟨fu, hfu⟩ : ∃ fu, o.fuel = fu := ⟨_, rfl⟩
  rw [hfu] at hfb ⊢
  have hfI : (fu : Int) ≤ 255 := by omega
  obtain ⟨n0, hn0⟩ : ∃ n0, cs.length = n0 := ⟨_, rfl⟩
  have hn0I : (n0 : Int) ≤ 1000000 := by omega
  have H := Lib.hid (And.intro ho (And.intro hM (And.intro hN (And.intro hB (And.intro hu0 (And.intro hG hn0))))))
  have ha : Upd (fun _ => False) w (w.alloc (.cells #[.slice o.sa M o.sc, .int .u8 fu, .slice o.ka o.keep.length o.kc, .slice o.aa o.again.length o.ac] 77)) := (Upd.refl _ w).alloc _
  have hP1 := hst.move ha
  have hc1 := CellsA.new w 77 [.slice o.sa M o.sc, .int .u8 fu, .slice o.ka o.keep.length o.kc, .slice o.aa o.again.length o.ac]
  have hGob : ¬ G w.heap.size := fun e => by have := (hG _ e).2; omega
  have H1 := Lib.hid (And.intro hP1 (And.intro ha (And.intro hc1 hGob)))
  have c1 := hc1.cell 1
  simp only [List.getElem?_cons_zero, List.getElem?_cons_succ] at c1
  clear h hst hu0 hfb hMm hfu ho hM hN hB hG hn0 ha hP1 hc1 hGob
  go_enter Tryz.func35, Tryz.ntmps35
  go_upto_if 25 with (fail)
  generalize w.alloc (.cells #[.slice o.sa M o.sc, .int .u8 fu, .slice o.ka o.keep.length o.kc, .slice o.aa o.again.length o.ac] 77) = wb at *
  generalize w.heap.size = ob at *
  go_cut [] (fun wr => ∃ f : Int, Hid (PP G wb wr pb db rb skip N cs ct sy f))
  case first =>
    by_cases h250 : fu < 250
    · have hfI2 : (fu : Int) < 250 := by omega
      go_wp2_with fail
      refine (H1.out.1.fuel fu (by omega)).mono ?_
      rintro e w1 ⟨rfl, h1⟩
      dsimp only
      have HP : Hid (PP G wb w1 pb db rb skip N cs ct sy fu) := h1
      clear h1
      go_wp2_with fail
      go_meet
      exact ⟨_, HP⟩
    · have hfI2 : (250 : Int) ≤ (fu : Int) := by omega
      go_wp2_with fail
      go_meet
      exact ⟨_, Lib.hid H1.out.1⟩
  case rest =>
    clear c1
    obtain ⟨f, HP⟩ := hcut
    obtain ⟨_, x0, c0, hx0⟩ := HP.out.cells
    rw [H.out.2.2.2.2.2.2] at hx0
    go_wp2_with fail
    refine HP.out.begin.mono ?_
    rintro e w2 ⟨tb, rfl, h2⟩
    dsimp only
    have H2 : Hid (TB G wb w2 tb pb db rb skip N cs ct sy f) := h2
    clear h2 HP hx0
    go_upto_block 0 with (fail)
    have H3 : Hid (LvA G wb (w2.alloc (.cells #[.pointer (some ⟨rb, 0, none⟩), .slice none 0 0] 51)) tb pb db w2.heap.size rb skip N n0 (B + 0)) := ⟨cs, ct, [], [], sy, f, H2.out.new, H.out.2.2.2.2.2.2, by have := H.out.2.2.2.1; have := H.out.2.2.2.2.2.2; omega⟩
    generalize w2.alloc (.cells #[.pointer (some ⟨rb, 0, none⟩), .slice none 0 0] 51) = w3 at *
    generalize w2.heap.size = xb at *
    clear H2
    have HBB : Hid (B ≤ 1000000) := hB2
    clear hB2
    go_cut [11, 13] (fun mv ev wr => ∃ (n : Nat) (e : Int), mv = .int .i64 n ∧ ev = .int .i64 e ∧ Hid (LvE G wb wr pb db rb skip N n e (B + 60)))
    case first =>
      go_wp2_with fail
      go_loopw [11, 12, 13, 14, 15] (fun mv tv ev xv iv wr => ∃ (k n : Nat) (e : Int), k ≤ M ∧ k ≤ 60 ∧ mv = .int .i64 n ∧ ev = .int .i64 e ∧ iv = .int .i64 k ∧ ((e = 0 ∧ ∃ tb xb : Nat, tv = .pointer (some ⟨tb, 0, none⟩) ∧ xv = .pointer (some ⟨xb, 0, none⟩) ∧ Hid (LvA G wb wr tb pb db xb rb skip N n (B + k))) ∨ (e ≠ 0 ∧ Hid (LvE G wb wr pb db rb skip N n e (B + 60))))) (fun _ _ _ _ iv _ => M - (intOf iv).toNat)
      case atStart => exact ⟨0, n0, 0, Nat.zero_le _, by decide, rfl, rfl, rfl, .inl ⟨rfl, tb, xb, rfl, rfl, H3⟩⟩
      case round =>
        clear H3
        obtain ⟨k, n, e0, hk, hk6, rfl, rfl, rfl, hrel⟩ := hrel
        have hk6I : (k : Int) ≤ 60 := by omega
        rcases hrel with ⟨rfl, tb, xb, rfl, rfl, HR⟩ | ⟨he0, HR⟩
        · have hob : wr.cell? ⟨ob, 0, none⟩ = some (.slice o.sa M o.sc) := (H1.out.2.2.1.upd HR.out.upd0 H1.out.2.2.2).cell 0
          by_cases hlt : k < M ∧ k < 60
          · have hkm : (k : Int) < (M : Int) := by omega
            have hk60 : (k : Int) < 60 := by omega
            have hkb : k < 60 ∧ B + k + 2 ≤ 2000000 := ⟨hlt.2, by have := HBB.out; omega⟩
            have hjl : k < o.script.length := by rw [H.out.2.1]; exact hlt.1
            obtain ⟨u, hu⟩ : ∃ u, o.script[k] = u := ⟨_, rfl⟩
            have hol : u ∈ o.script := hu ▸ List.getElem_mem _
            obtain ⟨xg, xo, hxx, hr⟩ := pop_at H.out.1.script.1 k hjl
            rw [hu] at hr
            rw [hxx] at hob
            have hxl : xg < w0.heap.size := H.out.1.script.2.2 _ hxx (by omega)
            have hro : wr.rangeAt xg (xo + k * 3) (popV u) := by
              have h1 := H.out.2.2.2.2.1.range hr (fun h => h)
              have h2 := H1.out.2.1.range h1 (fun h => h)
              exact HR.out.upd0.range h2 (fun e => by have := (H.out.2.2.2.2.2.1 _ e).1; omega)
            have Hok := Lib.hid (And.intro (H.out.1.script.2.1 u hol) hkb.2)
            have hal : Upd (fun _ => False) wr (wr.alloc (.cells #[.int .u8 u.kind, .int .i64 u.b, .string u.data] 36)) := (Upd.refl _ wr).alloc _
            have hcs := CellsA.new wr 36 [.int .u8 u.kind, .int .i64 u.b, .string u.data]
            have HT : Hid (LvA G wb (wr.alloc (.cells #[.int .u8 u.kind, .int .i64 u.b, .string u.data] 36)) tb pb db xb rb skip N n (B + k)) := HR.out.quiet hal
            have hc0 := hcs.cell 0
            simp only [List.getElem?_cons_zero, List.getElem?_cons_succ] at hc0
            have hrn : (wr.alloc (.cells #[.int .u8 u.kind, .int .i64 u.b, .string u.data] 36)).rangeAt wr.heap.size 0 [.int .u8 u.kind, .int .i64 u.b, .string u.data] := hcs.range
            rw [popV] at hro
            clear hr hol hu hal hcs HR hkb hjl hxl hxx
            obtain ⟨m, hm⟩ : ∃ m, u.kind % 6 = m := ⟨_, rfl⟩
            have hkI : (u.kind : Int) ≤ 255 := by have := Hok.out.1.kind; omega
            have q0 : (u.kind : Int) % 6 = (m : Int) := by omega
            have q1 : (u.kind : Int).tmod 6 = (m : Int) := by rw [Int.tmod_eq_emod_of_nonneg (by omega)]; exact q0
            have hm6 : m < 6 := by omega
            clear hm
            go_upto_block 2 with (first | ((with_reducible apply wpl_load_mid xg (xo + k * 3) [.int .u8 u.kind, .int .i64 u.b, .string u.data]); exact rfl; exact hro; exact Tryz.underlying36; exact rfl; exact sizePop4; try (simp only [Act.put, List.setIfInBounds_toArray, List.set_cons_zero, List.set_cons_succ])) | ((with_reducible apply wpl_store_new); exact rfl; exact rfl; exact sizePop4; exact rfl; exact rfl; try (simp only [Act.put, List.setIfInBounds_toArray, List.set_cons_zero, List.set_cons_succ])))
            clear hob
            generalize wr.alloc (.cells #[.int .u8 u.kind, .int .i64 u.b, .string u.data] 36) = w9 at *
            generalize wr.heap.size = ub at *
            rcases (by omega : m = 0 ∨ m = 1 ∨ m = 2 ∨ m = 3 ∨ m = 4 ∨ m = 5) with h0 | h1 | h2 | h3 | h4 | h5
            · obtain rfl : m = 0 := h0
              go_wp2_with (first | ((with_reducible apply wpl_load_mid ub 0 [.int .u8 u.kind, .int .i64 u.b, .string u.data]); exact rfl; exact hrn; exact Tryz.underlying36; exact rfl; exact sizePop4; try (simp only [Act.put, List.setIfInBounds_toArray, List.set_cons_zero, List.set_cons_succ])))
              refine (HT.out.step u Hok.out.1 (by have := Hok.out.2; omega)).mono ?_
              rintro e wa ⟨rfl, ha⟩
              dsimp only
              have HA : Hid (LvA G wb wa tb pb db xb rb skip N n (B + (k + 1))) := ha.le (by omega)
              clear ha HT hrn hc0 hro q0 q1 hm6
              go_wp2_with fail
              exact ⟨⟨k + 1, n, 0, by omega, by omega, rfl, rfl, by go_num, .inl ⟨rfl, tb, xb, rfl, rfl, HA⟩⟩, by simp [intOf]; omega⟩
            · obtain rfl : m = 1 := h1
              go_wp2_with (first | ((with_reducible apply wpl_load_mid ub 0 [.int .u8 u.kind, .int .i64 u.b, .string u.data]); exact rfl; exact hrn; exact Tryz.underlying36; exact rfl; exact sizePop4; try (simp only [Act.put, List.setIfInBounds_toArray, List.set_cons_zero, List.set_cons_succ])))
              refine (HT.out.step u Hok.out.1 (by have := Hok.out.2; omega)).mono ?_
              rintro e wa ⟨rfl, ha⟩
              dsimp only
              have HA : Hid (LvA G wb wa tb pb db xb rb skip N n (B + (k + 1))) := ha.le (by omega)
              clear ha HT hrn hc0 hro q0 q1 hm6
              go_wp2_with fail
              exact ⟨⟨k + 1, n, 0, by omega, by omega, rfl, rfl, by go_num, .inl ⟨rfl, tb, xb, rfl, rfl, HA⟩⟩, by simp [intOf]; omega⟩
            · obtain rfl : m = 2 := h2
              go_wp2_with fail
              obtain ⟨dn, hdb, hdc⟩ := HT.out.dirty
              have hdnI : (dn : Int) ≤ 4096 := by have := (let ⟨_, _, _, _, _, _, _, _, _, _, h⟩ := hdb; h : dn ≤ 4096); omega
              have HDB := Lib.hid hdb
              clear hdb HT hrn hc0 hro q0 q1 hm6
              refine hdc.mono ?_
              rintro e wa ⟨rfl, rfl⟩
              dsimp only
              clear hdc
              go_wp2_with fail
              refine (HDB.out.commit H.out.2.2.1 (by have := Hok.out.2; omega)).mono ?_
              rintro e wa ⟨a, r, rfl, ha, hr⟩
              dsimp only
              have HA : Hid (LvC G wb wa tb pb db xb rb skip N n (B + k) dn a r) := ha
              clear ha HDB
              rcases hr with hr | ⟨hr, hdp⟩
              · have hrb : (r == 10) = false := by simpa using hr
                have Hr := Lib.hid hr
                clear hr
                go_wp2_with fail
                refine (HA.out.commit Hr.out (by have := Hok.out.2; omega)).mono ?_
                rintro e wc ⟨rfl, m2, hm2, hc⟩
                dsimp only
                have hm2I : (m2 : Int) ≤ 2000000 := by have := Hok.out.2; omega
                obtain ⟨x2, c2, hx2⟩ := hc.cells
                have HC : Hid (LvP G wb wc pb db rb skip N m2 (B + k + 1)) := hc
                clear hc HA hrb
                go_wp2_with fail
                refine HC.out.begin.mono ?_
                rintro e wd ⟨tb2, rfl, hd⟩
                dsimp only
                have HD := Lib.hid hd
                clear hd HC hx2
                go_wp2_with fail
                exact ⟨⟨k + 1, m2, 0, by omega, by omega, rfl, rfl, by go_num, .inl ⟨rfl, tb2, _, rfl, rfl, Lib.hid (HD.out.le (by omega))⟩⟩, by simp [intOf]; omega⟩
              · subst hr
                have hdpI : (0 : Int) < (dn : Int) := by omega
                clear hdp
                go_wp2_with fail
                refine (HA.out.commitD rfl (by have := Hok.out.2; omega)).mono ?_
                rintro e wc ⟨⟨a', r', rfl⟩, hc⟩
                dsimp only
                have HC : Hid (LvQ G wb wc pb db rb skip N n (B + k)) := hc
                clear hc HA
                go_wp2_with fail
                have hcd := HC.out.quiet (Upd.refl (fun _ => False) wc).drew
                obtain ⟨x, c, lo, hx, hsy, hde, hlv⟩ := hcd.look
                have hnI : (n : Int) ≤ 2000000 := by have := (let ⟨_, _, _, _, _, _, _, h⟩ := hcd; h : n ≤ B + k); have := Hok.out.2; omega
                have hwr : IntKind.i64.wrap ((n : Int) + 1) = (n : Int) + 1 := by rw [IntKind.wrap_i64]; omega
                have hnb : Hid (n ≤ B + 60) := by have := (let ⟨_, _, _, _, _, _, _, h⟩ := hcd; h : n ≤ B + k); exact Nat.le_trans this (by omega)
                have HL := Lib.hid (And.intro hsy (And.intro hde hlv))
                have HS : wc.drew.cell? ⟨rb, 2, none⟩ = some (.slice x (n + 1) c) := hx
                clear hx hsy hde hlv hcd HC
                refine wp_region_planD (fun u => u.cell? ⟨rb, 2, none⟩ = some (.slice x (n + 1) c)) 19 [(0, true), (1, true), (2, true), (4, true), (3, false), (5, false), (6, true), (7, true), (8, true), (9, true), (10, true), (11, true), (12, true), (13, true), (14, true), (15, true), (16, true), (17, true), (18, true)] (by kernel_rfl) (by kernel_rfl) (fun d _ _ _ _ h => by cases d <;> exact h) HS ?_
                iterate 4 (first | (apply planD_held rfl rfl rfl (by simp) HS; (intro w' hS K hK; go_simp; exact hK)) | (apply planD_wanted rfl rfl rfl (by simp) HS; (intro w' hS K hK; go_simp; exact hK)))
                refine planD_op rfl rfl (fun K hK => ?_)
                go_simp
                refine HL.out.1.mono ?_
                rintro e wd ⟨rfl, rfl⟩
                dsimp only
                refine hK _ _ _ (fun u h => h) (fun _ => HS) ?_
                clear hK
                try (simp only [Act.put, List.setIfInBounds_toArray, List.set_cons_zero, List.set_cons_succ])
                refine planD_op rfl rfl (fun K hK => ?_)
                go_simp
                refine HL.out.2.1.mono ?_
                rintro e wd ⟨rfl, rfl⟩
                dsimp only
                refine hK _ _ _ (fun u h => h) (fun _ => HS) ?_
                clear hK
                try (simp only [Act.put, List.setIfInBounds_toArray, List.set_cons_zero, List.set_cons_succ])
                iterate 13 (first | (apply planD_held rfl rfl rfl (by simp) HS; (intro w' hS K hK; go_simp; exact hK)) | (apply planD_wanted rfl rfl rfl (by simp) HS; (intro w' hS K hK; go_simp; exact hK)))
                refine planD_nil ?_
                clear HS
                go_wp2_with fail
                go_ret3
                obtain ⟨cs9, ct9, hl9, hn9⟩ := HL.out.2.2 w0 (H.out.2.2.2.2.1.trans H1.out.2.1) (fun q hq => (H.out.2.2.2.2.2.1 q hq).1)
                refine ⟨cs9, ct9, lo, n + 1, ?_, hl9, hn9, by have := hnb.out; omega⟩
                simp [hwr]
            · obtain rfl : m = 3 := h3
              go_wp2_with fail
              obtain ⟨dn, hdb, hdc⟩ := HT.out.dirty
              have hdnI : (dn : Int) ≤ 4096 := by have := (let ⟨_, _, _, _, _, _, _, _, _, _, h⟩ := hdb; h : dn ≤ 4096); omega
              have HDB := Lib.hid hdb
              clear hdb HT hrn hc0 hro q0 q1 hm6
              refine hdc.mono ?_
              rintro e wa ⟨rfl, rfl⟩
              dsimp only
              clear hdc
              go_wp2_with fail
              refine (HDB.out.commit H.out.2.2.1 (by have := Hok.out.2; omega)).mono ?_
              rintro e wa ⟨a, r, rfl, ha, hr⟩
              dsimp only
              have HA : Hid (LvC G wb wa tb pb db xb rb skip N n (B + k) dn a r) := ha
              clear ha HDB
              rcases hr with hr | ⟨hr, hdp⟩
              · have hrb : (r == 10) = false := by simpa using hr
                have Hr := Lib.hid hr
                clear hr
                go_wp2_with fail
                refine (HA.out.commit Hr.out (by have := Hok.out.2; omega)).mono ?_
                rintro e wc ⟨rfl, m2, hm2, hc⟩
                dsimp only
                have hm2I : (m2 : Int) ≤ 2000000 := by have := Hok.out.2; omega
                obtain ⟨x2, c2, hx2⟩ := hc.cells
                have HC : Hid (LvP G wb wc pb db rb skip N m2 (B + k + 1)) := hc
                clear hc HA hrb
                go_wp2_with fail
                refine HC.out.begin.mono ?_
                rintro e wd ⟨tb2, rfl, hd⟩
                dsimp only
                have HD := Lib.hid hd
                clear hd HC hx2
                go_wp2_with fail
                exact ⟨⟨k + 1, m2, 0, by omega, by omega, rfl, rfl, by go_num, .inl ⟨rfl, tb2, _, rfl, rfl, Lib.hid (HD.out.le (by omega))⟩⟩, by simp [intOf]; omega⟩
              · subst hr
                have hdpI : (0 : Int) < (dn : Int) := by omega
                clear hdp
                go_wp2_with fail
                refine (HA.out.commitD rfl (by have := Hok.out.2; omega)).mono ?_
                rintro e wc ⟨⟨a', r', rfl⟩, hc⟩
                dsimp only
                have HC : Hid (LvQ G wb wc pb db rb skip N n (B + k)) := hc
                clear hc HA
                go_wp2_with fail
                have hcd := HC.out.quiet (Upd.refl (fun _ => False) wc).drew
                obtain ⟨x, c, lo, hx, hsy, hde, hlv⟩ := hcd.look
                have hnI : (n : Int) ≤ 2000000 := by have := (let ⟨_, _, _, _, _, _, _, h⟩ := hcd; h : n ≤ B + k); have := Hok.out.2; omega
                have hwr : IntKind.i64.wrap ((n : Int) + 1) = (n : Int) + 1 := by rw [IntKind.wrap_i64]; omega
                have hnb : Hid (n ≤ B + 60) := by have := (let ⟨_, _, _, _, _, _, _, h⟩ := hcd; h : n ≤ B + k); exact Nat.le_trans this (by omega)
                have HL := Lib.hid (And.intro hsy (And.intro hde hlv))
                have HS : wc.drew.cell? ⟨rb, 2, none⟩ = some (.slice x (n + 1) c) := hx
                clear hx hsy hde hlv hcd HC
                refine wp_region_planD (fun u => u.cell? ⟨rb, 2, none⟩ = some (.slice x (n + 1) c)) 19 [(0, true), (1, true), (2, true), (4, true), (3, false), (5, false), (6, true), (7, true), (8, true), (9, true), (10, true), (11, true), (12, true), (13, true), (14, true), (15, true), (16, true), (17, true), (18, true)] (by kernel_rfl) (by kernel_rfl) (fun d _ _ _ _ h => by cases d <;> exact h) HS ?_
                iterate 4 (first | (apply planD_held rfl rfl rfl (by simp) HS; (intro w' hS K hK; go_simp; exact hK)) | (apply planD_wanted rfl rfl rfl (by simp) HS; (intro w' hS K hK; go_simp; exact hK)))
                refine planD_op rfl rfl (fun K hK => ?_)
                go_simp
                refine HL.out.1.mono ?_
                rintro e wd ⟨rfl, rfl⟩
                dsimp only
                refine hK _ _ _ (fun u h => h) (fun _ => HS) ?_
                clear hK
                try (simp only [Act.put, List.setIfInBounds_toArray, List.set_cons_zero, List.set_cons_succ])
                refine planD_op rfl rfl (fun K hK => ?_)
                go_simp
                refine HL.out.2.1.mono ?_
                rintro e wd ⟨rfl, rfl⟩
                dsimp only
                refine hK _ _ _ (fun u h => h) (fun _ => HS) ?_
                clear hK
                try (simp only [Act.put, List.setIfInBounds_toArray, List.set_cons_zero, List.set_cons_succ])
                iterate 13 (first | (apply planD_held rfl rfl rfl (by simp) HS; (intro w' hS K hK; go_simp; exact hK)) | (apply planD_wanted rfl rfl rfl (by simp) HS; (intro w' hS K hK; go_simp; exact hK)))
                refine planD_nil ?_
                clear HS
                go_wp2_with fail
                go_ret3
                obtain ⟨cs9, ct9, hl9, hn9⟩ := HL.out.2.2 w0 (H.out.2.2.2.2.1.trans H1.out.2.1) (fun q hq => (H.out.2.2.2.2.2.1 q hq).1)
                refine ⟨cs9, ct9, lo, n + 1, ?_, hl9, hn9, by have := hnb.out; omega⟩
                simp [hwr]
            · obtain rfl : m = 4 := h4
              go_wp2_with fail
              refine HT.out.sync.mono ?_
              rintro e wa ⟨r, rfl, ⟨rfl, ha, hsy, hdo, hde⟩ | ⟨rfl, ha, hde⟩⟩
              · dsimp only
                have hnI : (n : Int) ≤ 2000000 := by have := (let ⟨_, _, _, _, _, _, _, _, h⟩ := ha; h : n ≤ B + k); have := Hok.out.2; omega
                obtain ⟨x2, c2, hx2⟩ := ha.cells
                have HA : Hid (LvA G wb wa tb pb db xb rb skip N n (B + k)) := ha
                have HL := Lib.hid (And.intro hsy (And.intro hdo hde))
                clear ha hsy hdo hde HT hrn hc0 hro q0 q1 hm6
                go_wp2_with fail
                refine HL.out.2.2.mono ?_
                rintro e wc ⟨rfl, rfl⟩
                dsimp only
                go_wp2_with fail
                refine HL.out.1.mono ?_
                rintro e wc ⟨rfl, rfl⟩
                dsimp only
                go_wp2_with fail
                refine HL.out.2.1.mono ?_
                rintro e wc ⟨rfl, rfl⟩
                dsimp only
                clear HL
                go_wp2_with fail
                refine HA.out.busy.mono ?_
                rintro e wc ⟨rfl, rfl⟩
                dsimp only
                have HB : Hid (LvE G wb (wa.alloc (.cells #[.pointer (some ⟨rb, 0, none⟩), .slice none 0 0] 51)) pb db rb skip N n 6 (B + 60)) := .inl ⟨.inr rfl, tb, xb, (HA.out.quiet ((Upd.refl _ wa).alloc _)).le (by omega)⟩
                clear HA hx2
                go_wp2_with fail
                exact ⟨⟨k + 1, n, 6, by omega, by omega, rfl, rfl, by go_num, .inr ⟨by decide, HB⟩⟩, by simp [intOf]; omega⟩
              · dsimp only
                have hnI : (n : Int) ≤ 2000000 := by have := (let ⟨_, _, _, _, _, _, h⟩ := ha; h : n ≤ B + k); have := Hok.out.2; omega
                obtain ⟨x2, c2, hx2⟩ := ha.cells
                have HA : Hid (LvD G wb wa pb db rb skip N n (B + k)) := ha
                have HL := Lib.hid hde
                clear ha hde HT hrn hc0 hro q0 q1 hm6
                go_wp2_with fail
                refine HL.out.mono ?_
                rintro e wc ⟨rfl, rfl⟩
                dsimp only
                clear HL
                go_wp2_with fail
                refine HA.out.begin.mono ?_
                rintro e wc ⟨rfl, rfl⟩
                dsimp only
                have HB : Hid (LvE G wb (wa.alloc (.cells #[.pointer (some ⟨rb, 0, none⟩), .slice none 0 0] 51)) pb db rb skip N n 10 (B + 60)) := .inr ⟨rfl, (HA.out.quiet ((Upd.refl _ wa).alloc _)).le (by omega)⟩
                clear HA hx2
                go_wp2_with fail
                exact ⟨⟨k + 1, n, 10, by omega, by omega, rfl, rfl, by go_num, .inr ⟨by decide, HB⟩⟩, by simp [intOf]; omega⟩
            · obtain rfl : m = 5 := h5
              go_wp2_with fail
              refine HT.out.sync.mono ?_
              rintro e wa ⟨r, rfl, ⟨rfl, ha, hsy, hdo, hde⟩ | ⟨rfl, ha, hde⟩⟩
              · dsimp only
                have hnI : (n : Int) ≤ 2000000 := by have := (let ⟨_, _, _, _, _, _, _, _, h⟩ := ha; h : n ≤ B + k); have := Hok.out.2; omega
                obtain ⟨x2, c2, hx2⟩ := ha.cells
                have HA : Hid (LvA G wb wa tb pb db xb rb skip N n (B + k)) := ha
                have HL := Lib.hid (And.intro hsy (And.intro hdo hde))
                clear ha hsy hdo hde HT hrn hc0 hro q0 q1 hm6
                go_wp2_with fail
                refine HL.out.2.2.mono ?_
                rintro e wc ⟨rfl, rfl⟩
                dsimp only
                go_wp2_with fail
                refine HL.out.1.mono ?_
                rintro e wc ⟨rfl, rfl⟩
                dsimp only
                go_wp2_with fail
                refine HL.out.2.1.mono ?_
                rintro e wc ⟨rfl, rfl⟩
                dsimp only
                clear HL
                go_wp2_with fail
                refine HA.out.busy.mono ?_
                rintro e wc ⟨rfl, rfl⟩
                dsimp only
                have HB : Hid (LvE G wb (wa.alloc (.cells #[.pointer (some ⟨rb, 0, none⟩), .slice none 0 0] 51)) pb db rb skip N n 6 (B + 60)) := .inl ⟨.inr rfl, tb, xb, (HA.out.quiet ((Upd.refl _ wa).alloc _)).le (by omega)⟩
                clear HA hx2
                go_wp2_with fail
                exact ⟨⟨k + 1, n, 6, by omega, by omega, rfl, rfl, by go_num, .inr ⟨by decide, HB⟩⟩, by simp [intOf]; omega⟩
              · dsimp only
                have hnI : (n : Int) ≤ 2000000 := by have := (let ⟨_, _, _, _, _, _, h⟩ := ha; h : n ≤ B + k); have := Hok.out.2; omega
                obtain ⟨x2, c2, hx2⟩ := ha.cells
                have HA : Hid (LvD G wb wa pb db rb skip N n (B + k)) := ha
                have HL := Lib.hid hde
                clear ha hde HT hrn hc0 hro q0 q1 hm6
                go_wp2_with fail
                refine HL.out.mono ?_
                rintro e wc ⟨rfl, rfl⟩
                dsimp only
                clear HL
                go_wp2_with fail
                refine HA.out.begin.mono ?_
                rintro e wc ⟨rfl, rfl⟩
                dsimp only
                have HB : Hid (LvE G wb (wa.alloc (.cells #[.pointer (some ⟨rb, 0, none⟩), .slice none 0 0] 51)) pb db rb skip N n 10 (B + 60)) := .inr ⟨rfl, (HA.out.quiet ((Upd.refl _ wa).alloc _)).le (by omega)⟩
                clear HA hx2
                go_wp2_with fail
                exact ⟨⟨k + 1, n, 10, by omega, by omega, rfl, rfl, by go_num, .inr ⟨by decide, HB⟩⟩, by simp [intOf]; omega⟩
          · have HE : Hid (LvE G wb wr pb db rb skip N n 0 (B + 60)) := .inl ⟨.inl rfl, tb, xb, HR.out.le (by omega)⟩
            clear HR
            rcases (by omega : (M : Int) ≤ (k : Int) ∨ (k : Int) < (M : Int) ∧ (60 : Int) ≤ (k : Int)) with h1 | ⟨h1, h2⟩
            · go_wp2_with fail
              go_meet
              exact ⟨n, 0, rfl, rfl, HE⟩
            · go_wp2_with fail
              go_meet
              exact ⟨n, 0, rfl, rfl, HE⟩
        · have hob : wr.cell? ⟨ob, 0, none⟩ = some (.slice o.sa M o.sc) := (H1.out.2.2.1.upd HR.out.upd0 H1.out.2.2.2).cell 0
          have heb : (e0 == 0) = false := by simpa using he0
          clear he0
          rcases (by omega : (M : Int) ≤ (k : Int) ∨ (k : Int) < (M : Int) ∧ (60 : Int) ≤ (k : Int) ∨ (k : Int) < (M : Int) ∧ (k : Int) < 60) with h1 | ⟨h1, h2⟩ | ⟨h1, h2⟩
          · go_wp2_with fail
            go_meet
            exact ⟨n, e0, rfl, rfl, HR⟩
          · go_wp2_with fail
            go_meet
            exact ⟨n, e0, rfl, rfl, HR⟩
          · go_wp2_with fail
            go_meet
            exact ⟨n, e0, rfl, rfl, HR⟩
    case rest =>
      clear H3
      obtain ⟨n, e0, rfl, rfl, HE⟩ := hcut
      obtain ⟨lo, dd, hsy, hde, hdd, hlv⟩ := HE.out.look
      have HL := Lib.hid (And.intro hsy (And.intro hde hlv))
      have hn : Hid (n ≤ B + 60) := by
        rcases HE.out with ⟨_, _, _, _, _, _, _, _, _, _, _, h⟩ | ⟨_, _, _, _, _, _, _, h⟩
        · exact h
        · exact h
      clear hsy hde hlv HE
      cases dd with
      | false =>
        go_wp2_with fail
        refine HL.out.1.mono ?_
        rintro e wa ⟨rfl, rfl⟩
        dsimp only
        go_wp2_with fail
        refine HL.out.2.1.mono ?_
        rintro e wa ⟨rfl, rfl⟩
        dsimp only
        go_wp2_with fail
        go_ret3
        obtain ⟨cs9, ct9, hl9, hn9⟩ := HL.out.2.2 w0 (H.out.2.2.2.2.1.trans H1.out.2.1) (fun q hq => (H.out.2.2.2.2.2.1 q hq).1)
        exact ⟨cs9, ct9, lo, n, rfl, hl9, hn9, by have := hn.out; omega⟩
      | true =>
        go_wp2_with fail
        refine HL.out.1.mono ?_
        rintro e wa ⟨rfl, rfl⟩
        dsimp only
        go_wp2_with fail
        refine HL.out.2.1.mono ?_
        rintro e wa ⟨rfl, rfl⟩
        dsimp only
        go_wp2_with fail
        go_ret3
        obtain ⟨cs9, ct9, hl9, hn9⟩ := HL.out.2.2 w0 (H.out.2.2.2.2.1.trans H1.out.2.1) (fun q hq => (H.out.2.2.2.2.2.1 q hq).1)
        exact ⟨cs9, ct9, lo, n, rfl, hl9, hn9, by have := hn.out; omega⟩
end Go.Proofs.YtihlijnobbonbaaGreat
