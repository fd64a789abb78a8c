/- cond: of, holds. -/
import Derived.Test.YtbhmeagliebfdaaDoorGc5
namespace Go.Proofs.YtbhmeagliebfdaaDoor
open Go Go.RowKit
set_option linter.unusedSimpArgs false
set_option linter.unusedVariables false
set_option maxRecDepth 100000
/-- Facts as they lie. -/
structure FctR where
  f : Fct
  xp : Option Addr
  cp : Nat
  xt : Option Addr
  ct : Nat
def fctV (r : FctR) : List Value := [.slice r.xp r.f.path.length r.cp, .string (bs r.f.etag), .slice r.xt r.f.toks.length r.ct]
theorem fctV_length (r : FctR) : (fctV r).length = 3 := rfl
def FctOk (w : World) (r : FctR) : Prop := Sees w 1 (.slice r.xp r.f.path.length r.cp) r.f.path.length (strsV r.f.path) ∧ Sees w 1 (.slice r.xt r.f.toks.length r.ct) r.f.toks.length (strsV r.f.toks)
theorem FctOk.upd {w w' : World} {r : FctR} (h : FctOk w r) (hu : Upd (fun _ => False) w w') : FctOk w' r := ⟨Sees.upd hu h.1 (fun _ _ _ h => h), Sees.upd hu h.2 (fun _ _ _ h => h)⟩
theorem sizeFct : (Tryd.prog.info? 31).map (·.size) = some 3 := by kernel_rfl
/-- Facts in a slice. -/
def FactsAt (w : World) (x : Option Addr) (n c : Nat) (rs : List FctR) : Prop := Sees w 3 (.slice x n c) n (rs.flatMap fctV) ∧ ∀ r ∈ rs, FctOk w r
theorem FactsAt.len {w : World} {x : Option Addr} {n c : Nat} {rs : List FctR} (h : FactsAt w x n c rs) : rs.length = n := by
  have h1 := h.1.1
  rw [flat_length fctV 3 rs (fun _ _ => rfl)] at h1
  omega
theorem FactsAt.upd {w w' : World} {x : Option Addr} {n c : Nat} {rs : List FctR} (h : FactsAt w x n c rs) (hu : Upd (fun _ => False) w w') : FactsAt w' x n c rs :=
  ⟨Sees.upd hu h.1 (fun _ _ _ h => h), fun r hr => (h.2 r hr).upd hu⟩
theorem FactsAt.at {w : World} {x : Option Addr} {n c : Nat} {rs : List FctR} (h : FactsAt w x n c rs) (i : Nat) (hi : i < rs.length) :
    ∃ g o, x = some ⟨g, o, none⟩ ∧ w.rangeAt g (o + i * 3) (fctV rs[i]) ∧ FctOk w rs[i] := by
  have hl := h.len
  obtain ⟨_, _, y, d, e, hc⟩ := h.1
  cases e
  obtain ⟨g, o, rfl, hr⟩ := hc (by omega)
  exact ⟨g, o, rfl, rangeAt.sub (w := w) (b := g) (off := o) hr (i * 3) (by rw [fctV_length]; exact flat_piece fctV 3 rs i hi (fun _ _ => rfl)), h.2 _ (List.getElem_mem hi)⟩
theorem findF_at : ∀ {fs : List FctR} {p : List By} {fr : FctR} {i : Nat} (hi : i < fs.length), fs[i] = fr → fr.f.path = p → (∀ j (hj : j < fs.length), j < i → fs[j].f.path ≠ p) → findF (fs.map (·.f)) p = fr.f
  | a :: r, p, fr, 0, _, h, he, _ => by
    simp only [List.getElem_cons_zero] at h
    subst h
    simp [findF, he]
  | a :: r, p, fr, i + 1, hi, h, he, hn => by
    have h0 : a.f.path ≠ p := hn 0 (by simp) (by omega)
    have ih := findF_at (fs := r) (p := p) (fr := fr) (i := i) (by simpa using hi) (by simpa using h) he (fun j hj hji => by
      have := hn (j + 1) (by simpa using hj) (by omega)
      simpa using this)
    unfold findF at ih ⊢
    rw [List.map_cons, List.find?_cons_of_neg (by simpa using h0)]
    exact ih
theorem findF_none {fs : List FctR} {p : List By} (h : ∀ j (hj : j < fs.length), fs[j].f.path ≠ p) : findF (fs.map (·.f)) p = ⟨[], [], []⟩ := by
  unfold findF
  rw [List.find?_eq_none.2]
  · rfl
  · intro f hf
    obtain ⟨r, hr, rfl⟩ := List.mem_map.1 hf
    obtain ⟨j, hj, e⟩ := List.getElem_of_mem hr
    have := h j hj
    rw [e] at this
    simpa using this
/-- What of answers. -/
def OfR (w : World) (f : Fct) (en : Ending) (w' : World) : Prop := ∃ fr : FctR, en = .returned (.agg (fctV fr).toArray) ∧ fr.f = f ∧ FctOk w' fr ∧ Upd (fun _ => False) w w'
theorem upd_set3' {w w' : World} {b : Nat} (h : Upd (fun _ => False) w w') (hb : w.heap.size ≤ b) (x y z : Value) : Upd (fun _ => False) w (w'.setCells b 0 [x, y, z]) :=
  ((h.setCell (p := ⟨b, 0, none⟩) x (.inr hb)).setCell (p := ⟨b, 1, none⟩) y (.inr hb)).setCell (p := ⟨b, 2, none⟩) z (.inr hb)
theorem OfR.ret {w w3 : World} {f : Fct} {fr : FctR} {tmps : Array Value} (hc : CellsA w3 (w.heap.size + 1) 31 [.slice none 0 0, .string ⟨#[]⟩, .slice none 0 0]) (hu : Upd (fun _ => False) w w3) (hok : FctOk w fr) (he : f = fr.f)
    (hp : tmps.getD 6 undef = .pointer (some ⟨w.heap.size + 1, 0, none⟩)) :
    bodyPost Tryd.prog Tryd.f25 (fun en w' => OfR w f en w') .ret ⟨tmps, []⟩ (w3.setCells (w.heap.size + 1) 0 (fctV fr)) := by
  have hset := CellsA.set3 hc rfl (.slice fr.xp fr.f.path.length fr.cp) (.string (bs fr.f.etag)) (.slice fr.xt fr.f.toks.length fr.ct)
  have hus := upd_set3' (w := w) (w' := w3) hu (Nat.le_succ _) (.slice fr.xp fr.f.path.length fr.cp) (.string (bs fr.f.etag)) (.slice fr.xt fr.f.toks.length fr.ct)
  refine bodyPost_ret (results_cell_row (fn := Tryd.f25) rfl _ _ (w.heap.size + 1) 31 (fctV fr).toArray (0, 0) _ hp hset Tryd.underlying31 rfl sizeFct) rfl ?_
  exact ⟨fr, rfl, he.symm, hok.upd hus, hus⟩
theorem OfR.nil {w w3 : World} {f : Fct} {tmps : Array Value} (hc : CellsA w3 (w.heap.size + 1) 31 [.slice none 0 0, .string ⟨#[]⟩, .slice none 0 0]) (hu : Upd (fun _ => False) w w3) (he : f = ⟨[], [], []⟩)
    (hp : tmps.getD 6 undef = .pointer (some ⟨w.heap.size + 1, 0, none⟩)) :
    bodyPost Tryd.prog Tryd.f25 (fun en w' => OfR w f en w') .ret ⟨tmps, []⟩ (w3.setCells (w.heap.size + 1) 0 [.slice none 0 0, .string ⟨#[]⟩, .slice none 0 0]) :=
  OfR.ret (fr := ⟨⟨[], [], []⟩, none, 0, none, 0⟩) hc hu ⟨Sees.zero _ _ _ _, Sees.zero _ _ _ _⟩ he hp
set_option maxHeartbeats 4000000 in
theorem of_ok {w : World} (r : GrR) {y : Option Addr} {m d : Nat} {self : List By} {x : Option Addr} {n c : Nat} {fs : List FctR} (hself : Sees w 1 (.slice y m d) m (strsV self)) (hf : FactsAt w x n c fs) (ht : r.g.tag.length ≤ 100000000) (hG : Glob w) :
    Calls Tryd.prog 25 #[.agg (grV r).toArray, .slice y m d, .slice x n c] w fun en w' => OfR w (ofP r.g self (fs.map (·.f))) en w' := by
  have hlen := hf.len
  have hnI : (n : Int) ≤ 9223372036854775807 := by have := hf.1.2.1; unfold maxLen at this; omega
  have hal : Upd (fun _ => False) w ((w.alloc (.cells (grV r).toArray 42)).alloc (.cells #[.slice none 0 0, .string ⟨#[]⟩, .slice none 0 0] 31)) := ((Upd.refl _ w).alloc _).alloc _
  have hcg : CellsA ((w.alloc (.cells (grV r).toArray 42)).alloc (.cells #[.slice none 0 0, .string ⟨#[]⟩, .slice none 0 0] 31)) w.heap.size 42 (grV r) := alloc_heap (CellsA.new w 42 (grV r)) _
  have hcf : CellsA ((w.alloc (.cells (grV r).toArray 42)).alloc (.cells #[.slice none 0 0, .string ⟨#[]⟩, .slice none 0 0] 31)) (w.heap.size + 1) 31 [.slice none 0 0, .string ⟨#[]⟩, .slice none 0 0] := by
    have := CellsA.new (w.alloc (.cells (grV r).toArray 42)) 31 [.slice none 0 0, .string ⟨#[]⟩, .slice none 0 0]
    simpa using this
  have hg0 := hcg.cell 0
  have hg1 := hcg.cell 1
  simp only [grV, List.getElem?_cons_zero, List.getElem?_cons_succ] at hg0 hg1
  have hpar := parse_ok r.g.tag ht (hG.upd hal)
  have Hp := Lib.hid hpar
  have H := Lib.hid (And.intro hal (And.intro hself (And.intro hf (And.intro hG (And.intro hcf hlen)))))
  clear hpar hal hself hf hG hcf hlen hcg
  simp only [grV] at Hp H ⊢
  cases htg : r.g.tagged
  · rw [htg] at hg0 Hp H
    have hof : ofP r.g self (fs.map (·.f)) = findF (fs.map (·.f)) self := by rw [ofP, htg]; rfl
    have Hof := Lib.hid hof
    clear hof
    go_enter Tryd.func25, Tryd.ntmps25
    obtain ⟨self2, rfl⟩ : ∃ s, s = self := ⟨_, rfl⟩
    have HS := Lib.hid (And.intro H.out.1 (And.intro (Sees.upd H.out.1 H.out.2.1 (fun _ _ _ h => h)) (And.intro (H.out.2.2.1.upd H.out.1) (And.intro H.out.2.2.2.1 (And.intro H.out.2.2.2.2.1 (And.intro Hof.out (And.intro H.out.2.2.1.2 H.out.2.2.2.2.2)))))))
    clear H Hof Hp htg
    go_wp2_with fail
    go_loopw [27] (fun iv wr => ∃ (i : Nat), i ≤ n ∧ iv = .int .i64 i ∧ Hid (Upd (fun _ => False) ((w.alloc (.cells #[.bool false, .string (bs r.g.tag), .slice r.x r.n r.c] 42)).alloc (.cells #[.slice none 0 0, .string ⟨#[]⟩, .slice none 0 0] 31)) wr ∧ ∀ j (hj : j < fs.length), j < i → fs[j].f.path ≠ self2)) (fun iv _ => n - (intOf iv).toNat)
    case atStart => exact ⟨0, Nat.zero_le _, rfl, Lib.hid ⟨Upd.refl _ _, fun j _ h => absurd h (Nat.not_lt_zero _)⟩⟩
    case round =>
      obtain ⟨i, hi, rfl, HR⟩ := hrel
      by_cases hlt : i < n
      · have hltI : (i : Int) < (n : Int) := by omega
        have hil : i < fs.length := by rw [HS.out.2.2.2.2.2.2.2]; exact hlt
        have hfr := HS.out.2.2.1.upd HR.out.1
        obtain ⟨g, o, rfl, hrg, hok⟩ := hfr.at i hil
        have hne := HR.out.2
        obtain ⟨fr, hfri⟩ : ∃ fr, fs[i] = fr := ⟨_, rfl⟩
        rw [hfri] at hrg hok
        have hal : Upd (fun _ => False) wr (wr.alloc (.cells (fctV fr).toArray 31)) := (Upd.refl _ wr).alloc _
        have hcs := CellsA.new wr 31 (fctV fr)
        have hrn := hcs.range
        have hf0 := hcs.cell 0
        simp only [fctV, List.getElem?_cons_zero] at hrg hrn hf0
        have heq := equal_ok (w := wr.alloc (.cells (fctV fr).toArray 31)) (Sees.upd hal hok.1 (fun _ _ _ h => h)) (Sees.upd (HR.out.1.trans hal) HS.out.2.1 (fun _ _ _ h => h))
        have H2 := Lib.hid (And.intro heq (And.intro hal (And.intro hcs (And.intro hok (And.intro hne (And.intro hfri HR.out.1))))))
        clear heq hal hcs hok hne hfri hfr
        go_wp2_with (first | ((with_reducible apply wpl_load_mid g (o + i * 3) [.slice fr.xp fr.f.path.length fr.cp, .string (bs fr.f.etag), .slice fr.xt fr.f.toks.length fr.ct]); exact rfl; exact hrg; exact Tryd.underlying31; exact rfl; exact sizeFct; try (simp only [Act.put, List.setIfInBounds_toArray, List.set_cons_zero, List.set_cons_succ])) | ((with_reducible apply wpl_store_new); exact rfl; exact rfl; exact sizeFct; exact rfl; exact rfl; try (simp only [Act.put, List.setIfInBounds_toArray, List.set_cons_zero, List.set_cons_succ])))
        refine H2.out.1.mono ?_
        rintro e w3 ⟨rfl, hu3⟩
        dsimp only
        by_cases heq : fr.f.path = self2
        · have hrn3 := (H2.out.2.2.1.upd hu3 (fun h => h)).range
          have hres : Hid (ofP r.g self2 (fs.map (·.f)) = fr.f) := Lib.hid (by
            rw [HS.out.2.2.2.2.2.1]
            exact findF_at hil H2.out.2.2.2.2.2.1 heq (fun j hj hji => H2.out.2.2.2.2.1 j hj hji))
          have hwu : Upd (fun _ => False) ((w.alloc (.cells #[.bool false, .string (bs r.g.tag), .slice r.x r.n r.c] 42)).alloc (.cells #[.slice none 0 0, .string ⟨#[]⟩, .slice none 0 0] 31)) w3 := (H2.out.2.2.2.2.2.2.trans H2.out.2.1).trans hu3
          have hcs6 := HS.out.2.2.2.2.1.upd hwu (fun h => h)
          have hth : w3.there (w.heap.size + 1) 0 3 := there_of_row hcs6 (Nat.le_refl 3)
          have hokf : FctOk w fr := HS.out.2.2.2.2.2.2.1 fr (H2.out.2.2.2.2.2.1 ▸ List.getElem_mem hil)
          have HF := Lib.hid (And.intro hcs6 (And.intro (HS.out.1.trans hwu) hokf))
          rw [decide_eq_true heq]
          simp only [fctV] at hrn3
          clear heq H2 hu3 hwu hcs6 hokf hrg hrn hf0
          go_wp2_with (first | ((with_reducible apply wpl_load_mid wr.heap.size 0 [.slice fr.xp fr.f.path.length fr.cp, .string (bs fr.f.etag), .slice fr.xt fr.f.toks.length fr.ct]); exact rfl; exact hrn3; exact Tryd.underlying31; exact rfl; exact sizeFct; try (simp only [Act.put, List.setIfInBounds_toArray, List.set_cons_zero, List.set_cons_succ])) | ((with_reducible apply wpl_store_mid (w.heap.size + 1) 0 [.slice fr.xp fr.f.path.length fr.cp, .string (bs fr.f.etag), .slice fr.xt fr.f.toks.length fr.ct]); exact rfl; exact rfl; exact hth; exact sizeFct; (intro u hu; simp at hu; rcases hu with rfl | rfl | rfl <;> rfl); try (simp only [Act.put, List.setIfInBounds_toArray, List.set_cons_zero, List.set_cons_succ])))
          exact OfR.ret HF.out.1 HF.out.2.1 HF.out.2.2 hres.out (by rfl)
        · have HJ : Hid (Upd (fun _ => False) ((w.alloc (.cells #[.bool false, .string (bs r.g.tag), .slice r.x r.n r.c] 42)).alloc (.cells #[.slice none 0 0, .string ⟨#[]⟩, .slice none 0 0] 31)) w3 ∧ ∀ j (hj : j < fs.length), j < i + 1 → fs[j].f.path ≠ self2) := Lib.hid ⟨(H2.out.2.2.2.2.2.2.trans H2.out.2.1).trans hu3, fun j hj hji => by
            rcases Nat.lt_or_ge j i with h | h
            · exact H2.out.2.2.2.2.1 j hj h
            · obtain rfl : j = i := by omega
              rw [H2.out.2.2.2.2.2.1]; exact heq⟩
          rw [decide_eq_false heq]
          clear heq H2 hu3 hrg hrn hf0
          go_wp2_with fail
          exact ⟨⟨i + 1, by omega, by go_num, HJ⟩, by simp [intOf] <;> omega⟩
      · obtain rfl : i = n := by omega
        have hres : Hid (ofP r.g self2 (fs.map (·.f)) = ⟨[], [], []⟩) := Lib.hid (by
          rw [HS.out.2.2.2.2.2.1]
          exact findF_none (fun j hj => HR.out.2 j hj (by have := HS.out.2.2.2.2.2.2.2; omega)))
        have hcs6 := HS.out.2.2.2.2.1.upd HR.out.1 (fun h => h)
        have hth : wr.there (w.heap.size + 1) 0 3 := there_of_row hcs6 (Nat.le_refl 3)
        have HF := Lib.hid (And.intro hcs6 (And.intro (HS.out.1.trans HR.out.1) hres.out))
        clear hres hcs6 HR
        go_wp2_with ((with_reducible apply wpl_store_mid (w.heap.size + 1) 0 [.slice none 0 0, .string ⟨#[]⟩, .slice none 0 0]); exact rfl; exact rfl; exact hth; exact sizeFct; (intro u hu; simp only [List.mem_cons, List.not_mem_nil, or_false] at hu; rcases hu with rfl | rfl | rfl <;> rfl); try (simp only [Act.put, List.setIfInBounds_toArray, List.set_cons_zero, List.set_cons_succ]))
        exact OfR.nil HF.out.1 HF.out.2.1 HF.out.2.2 (by rfl)
  · rw [htg] at hg0 Hp H
    have hof : ofP r.g self (fs.map (·.f)) = match uriP r.g.tag with | none => ⟨[], [], []⟩ | some p => findF (fs.map (·.f)) p := by rw [ofP, htg]; rfl
    have Hof := Lib.hid hof
    clear hof
    go_enter Tryd.func25, Tryd.ntmps25
    go_wp2_with fail
    refine Hp.out.mono ?_
    rintro e wB ⟨px, pn, pc, er, dd, self2, rfl, hsp, hcase, hup⟩
    dsimp only
    rcases hcase with ⟨rfl, hpu⟩ | ⟨her, hpu⟩
    · have HS := Lib.hid (And.intro (H.out.1.trans hup) (And.intro hsp (And.intro (H.out.2.2.1.upd (H.out.1.trans hup)) (And.intro (H.out.2.2.2.1) (And.intro (H.out.2.2.2.2.1.upd hup (fun h => h)) (And.intro (show ofP r.g self (fs.map (·.f)) = findF (fs.map (·.f)) self2 by rw [Hof.out, hpu]) (And.intro H.out.2.2.1.2 H.out.2.2.2.2.2)))))))
      clear H Hof Hp htg hsp hpu hup hg0 hg1
      go_wp2_with fail
      go_loopw [27] (fun iv wr => ∃ (i : Nat), i ≤ n ∧ iv = .int .i64 i ∧ Hid (Upd (fun _ => False) wB wr ∧ ∀ j (hj : j < fs.length), j < i → fs[j].f.path ≠ self2)) (fun iv _ => n - (intOf iv).toNat)
      case atStart => exact ⟨0, Nat.zero_le _, rfl, Lib.hid ⟨Upd.refl _ _, fun j _ h => absurd h (Nat.not_lt_zero _)⟩⟩
      case round =>
        obtain ⟨i, hi, rfl, HR⟩ := hrel
        by_cases hlt : i < n
        · have hltI : (i : Int) < (n : Int) := by omega
          have hil : i < fs.length := by rw [HS.out.2.2.2.2.2.2.2]; exact hlt
          have hfr := HS.out.2.2.1.upd HR.out.1
          obtain ⟨g, o, rfl, hrg, hok⟩ := hfr.at i hil
          have hne := HR.out.2
          obtain ⟨fr, hfri⟩ : ∃ fr, fs[i] = fr := ⟨_, rfl⟩
          rw [hfri] at hrg hok
          have hal : Upd (fun _ => False) wr (wr.alloc (.cells (fctV fr).toArray 31)) := (Upd.refl _ wr).alloc _
          have hcs := CellsA.new wr 31 (fctV fr)
          have hrn := hcs.range
          have hf0 := hcs.cell 0
          simp only [fctV, List.getElem?_cons_zero] at hrg hrn hf0
          have heq := equal_ok (w := wr.alloc (.cells (fctV fr).toArray 31)) (Sees.upd hal hok.1 (fun _ _ _ h => h)) (Sees.upd (HR.out.1.trans hal) HS.out.2.1 (fun _ _ _ h => h))
          have H2 := Lib.hid (And.intro heq (And.intro hal (And.intro hcs (And.intro hok (And.intro hne (And.intro hfri HR.out.1))))))
          clear heq hal hcs hok hne hfri hfr
          go_wp2_with (first | ((with_reducible apply wpl_load_mid g (o + i * 3) [.slice fr.xp fr.f.path.length fr.cp, .string (bs fr.f.etag), .slice fr.xt fr.f.toks.length fr.ct]); exact rfl; exact hrg; exact Tryd.underlying31; exact rfl; exact sizeFct; try (simp only [Act.put, List.setIfInBounds_toArray, List.set_cons_zero, List.set_cons_succ])) | ((with_reducible apply wpl_store_new); exact rfl; exact rfl; exact sizeFct; exact rfl; exact rfl; try (simp only [Act.put, List.setIfInBounds_toArray, List.set_cons_zero, List.set_cons_succ])))
          refine H2.out.1.mono ?_
          rintro e w3 ⟨rfl, hu3⟩
          dsimp only
          by_cases heq : fr.f.path = self2
          · have hrn3 := (H2.out.2.2.1.upd hu3 (fun h => h)).range
            have hres : Hid (ofP r.g self (fs.map (·.f)) = fr.f) := Lib.hid (by
              rw [HS.out.2.2.2.2.2.1]
              exact findF_at hil H2.out.2.2.2.2.2.1 heq (fun j hj hji => H2.out.2.2.2.2.1 j hj hji))
            have hwu : Upd (fun _ => False) wB w3 := (H2.out.2.2.2.2.2.2.trans H2.out.2.1).trans hu3
            have hcs6 := HS.out.2.2.2.2.1.upd hwu (fun h => h)
            have hth : w3.there (w.heap.size + 1) 0 3 := there_of_row hcs6 (Nat.le_refl 3)
            have hokf : FctOk w fr := HS.out.2.2.2.2.2.2.1 fr (H2.out.2.2.2.2.2.1 ▸ List.getElem_mem hil)
            have HF := Lib.hid (And.intro hcs6 (And.intro (HS.out.1.trans hwu) hokf))
            rw [decide_eq_true heq]
            simp only [fctV] at hrn3
            clear heq H2 hu3 hwu hcs6 hokf hrg hrn hf0
            go_wp2_with (first | ((with_reducible apply wpl_load_mid wr.heap.size 0 [.slice fr.xp fr.f.path.length fr.cp, .string (bs fr.f.etag), .slice fr.xt fr.f.toks.length fr.ct]); exact rfl; exact hrn3; exact Tryd.underlying31; exact rfl; exact sizeFct; try (simp only [Act.put, List.setIfInBounds_toArray, List.set_cons_zero, List.set_cons_succ])) | ((with_reducible apply wpl_store_mid (w.heap.size + 1) 0 [.slice fr.xp fr.f.path.length fr.cp, .string (bs fr.f.etag), .slice fr.xt fr.f.toks.length fr.ct]); exact rfl; exact rfl; exact hth; exact sizeFct; (intro u hu; simp at hu; rcases hu with rfl | rfl | rfl <;> rfl); try (simp only [Act.put, List.setIfInBounds_toArray, List.set_cons_zero, List.set_cons_succ])))
            exact OfR.ret HF.out.1 HF.out.2.1 HF.out.2.2 hres.out (by rfl)
          · have HJ : Hid (Upd (fun _ => False) wB w3 ∧ ∀ j (hj : j < fs.length), j < i + 1 → fs[j].f.path ≠ self2) := Lib.hid ⟨(H2.out.2.2.2.2.2.2.trans H2.out.2.1).trans hu3, fun j hj hji => by
              rcases Nat.lt_or_ge j i with h | h
              · exact H2.out.2.2.2.2.1 j hj h
              · obtain rfl : j = i := by omega
                rw [H2.out.2.2.2.2.2.1]; exact heq⟩
            rw [decide_eq_false heq]
            clear heq H2 hu3 hrg hrn hf0
            go_wp2_with fail
            exact ⟨⟨i + 1, by omega, by go_num, HJ⟩, by simp [intOf] <;> omega⟩
        · obtain rfl : i = n := by omega
          have hres : Hid (ofP r.g self (fs.map (·.f)) = ⟨[], [], []⟩) := Lib.hid (by
            rw [HS.out.2.2.2.2.2.1]
            exact findF_none (fun j hj => HR.out.2 j hj (by have := HS.out.2.2.2.2.2.2.2; omega)))
          have hcs6 := HS.out.2.2.2.2.1.upd HR.out.1 (fun h => h)
          have hth : wr.there (w.heap.size + 1) 0 3 := there_of_row hcs6 (Nat.le_refl 3)
          have HF := Lib.hid (And.intro hcs6 (And.intro (HS.out.1.trans HR.out.1) hres.out))
          clear hres hcs6 HR
          go_wp2_with ((with_reducible apply wpl_store_mid (w.heap.size + 1) 0 [.slice none 0 0, .string ⟨#[]⟩, .slice none 0 0]); exact rfl; exact rfl; exact hth; exact sizeFct; (intro u hu; simp only [List.mem_cons, List.not_mem_nil, or_false] at hu; rcases hu with rfl | rfl | rfl <;> rfl); try (simp only [Act.put, List.setIfInBounds_toArray, List.set_cons_zero, List.set_cons_succ]))
          exact OfR.nil HF.out.1 HF.out.2.1 HF.out.2.2 (by rfl)
    · have hne : ((er : Int) == 0) = false := by rw [beq_eq_false_iff_ne]; omega
      have hcs6 := H.out.2.2.2.2.1.upd hup (fun h => h)
      have hth : wB.there (w.heap.size + 1) 0 3 := there_of_row hcs6 (Nat.le_refl 3)
      have hres : ofP r.g self (fs.map (·.f)) = ⟨[], [], []⟩ := by rw [Hof.out, hpu]
      have HF := Lib.hid (And.intro hcs6 (And.intro (H.out.1.trans hup) hres))
      clear H Hof Hp htg hsp hpu hup hg0 hg1 hcs6 hres
      go_wp2_with ((with_reducible apply wpl_store_mid (w.heap.size + 1) 0 [.slice none 0 0, .string ⟨#[]⟩, .slice none 0 0]); exact rfl; exact rfl; exact hth; exact sizeFct; (intro u hu; simp only [List.mem_cons, List.not_mem_nil, or_false] at hu; rcases hu with rfl | rfl | rfl <;> rfl); try (simp only [Act.put, List.setIfInBounds_toArray, List.set_cons_zero, List.set_cons_succ]))
      exact OfR.nil HF.out.1 HF.out.2.1 HF.out.2.2 (by rfl)
end Go.Proofs.YtbhmeagliebfdaaDoor
