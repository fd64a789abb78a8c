/- Pools: the walk of All. -/
import Derived.Test.YtaceedenkmccdaaSi
namespace Go.Proofs.Ytaceedenkmccdaa
open Go Go.Conc Go.ConcN
set_option linter.unusedSimpArgs false
set_option linter.unusedVariables false
variable {X : Cx} {i : Nat} {L L' : Lo} {Post : Value → Lo → Prop}
set_option maxRecDepth 100000
set_option maxHeartbeats 8000000
def allCost (n : Nat) : Nat := 60000 + 17 * (kidCost n + 3000)
def left14 (a : Act) : Nat := match (a.tmps[14]? : Option Value) with | some (Value.int _ z) => ((16 : Int) - z).toNat | _ => 0
theorem left14_eq {a : Act} {z : Nat} (h : a.tmps[14]? = some (.int .i64 z)) : left14 a = 16 - z := by
  unfold left14
  rw [h]
  show ((16 : Int) - (z : Int)).toNat = 16 - z
  omega
theorem Sees.gathers {ap : Nat → Int → Int} {m : MainR} {A : AllG} {a : Addr} {v : Value} (h : Sees L a v) : Sees (L.gathers ap m A) a v := ⟨fun w x => h.know w x.1, h.acc.imp .inl id, h.nv⟩
theorem Has.gathers {ap : Nat → Int → Int} {m : MainR} {A : AllG} {a : Addr} {v : Value} (h : Has L a v) : Has (L.gathers ap m A) a v := ⟨fun w x => h.know w x.1, fun w x => h.froz w x.1, .inl h.own, h.nv⟩
/-- Main, a few steps on. -/
structure MS (L : Lo) (m : MainR) (L' : Lo) : Prop where
  sees : ∀ {a v}, Sees L a v → Sees L' a v
  has : ∀ {a v}, Has L a v → Has L' a v
  role : L'.role = .main m
  q : L'.q = none
  h : L'.h = .alive
  d : L'.d = 0
  vm : ∀ a, L'.V a → L'.M a
  acc : ∀ ad, L.M ad ∨ L.R ad → L'.M ad ∨ L'.R ad
theorem Boss.ms {m : MainR} (h : Boss L m) : MS L m L := ⟨fun x => x, fun x => x, h.role, h.q, h.h, h.d, h.vm, fun _ x => x⟩
theorem MS.fit {m : MainR} (h : MS L m L') : Fit L' := ⟨⟨h.h, fun wa zs f s e => by rw [h.role] at e; cases e⟩, h.vm⟩
theorem MS.adds [Inhabited Base] {m : MainR} (h : MS L m L') {bk : Nat} {cs : Array Value} {Vn : Nat → Prop} (hbk : ∀ ad, L'.M ad ∨ L'.R ad → ad.block < bk) : MS L m (L'.adds bk cs Vn) :=
  ⟨fun x => (h.sees x).adds (hbk _ (h.sees x).acc), fun x => (h.has x).adds (hbk _ (.inl (h.has x).own)), h.role, h.q, h.h, h.d, fun a ha => ha.elim (fun y => .inl (h.vm a y)) fun ⟨k, hk, e, _⟩ => .inr ⟨k, .inl hk, e⟩, fun ad x => (h.acc ad x).imp .inl id⟩
theorem MS.sets [Inhabited Base] {m : MainR} (h : MS L m L') {a : Addr} {v : Value} (hn : ¬ (L.M a ∨ L.R a)) : MS L m (L'.sets a v) :=
  ⟨fun x => (h.sees x).sets fun e => hn (e ▸ x.acc), fun x => (h.has x).other fun e => hn (.inl (e ▸ x.own)), h.role, h.q, h.h, h.d, h.vm, h.acc⟩
/-- What main has behind All. -/
structure AllAs (ap : Nat → Int → Int) (L : Lo) (m : MainR) (A : AllG) (so : Option Addr) (L' : Lo) (m' : MainR) : Prop where
  boss : Boss L' m'
  ps : m'.ps = m.ps
  cl : m'.cl = m.cl
  rd : m'.rd = m.rd
  fin : m'.fin = m.fin
  asks : m'.asks = fun b => if A.cl = false ∧ A.p.map (·.b) = some b then m.asks b + A.items.length else m.asks b
  sees : ∀ {a v}, Sees L a v → Sees L' a v
  has : ∀ {a v}, Has L a v → (∀ sb z, so = some sb → z < A.items.length → a ≠ sb.add z) → (∀ p, A.p = some p → a ≠ ⟨p.b, 1, none⟩ ∧ a ≠ ⟨p.b, 2, none⟩) → Has L' a v
  ans : ∀ z, z < A.items.length → Sees L' ⟨A.bo, z, none⟩ (.int .i64 (A.val ap (A.items.getD z 0)))
  far : ∀ ad, L.M ad ∨ L.R ad → ad.block < A.bo
theorem w_all [Inhabited Base] (hP : X.P = Try.prog) (hCW : X.CW = 10000) {m : MainR} (hb : Boss L m) {po : Option PoolG} {c : Bool} (hpo : ∀ p, po = some p → PoolAt L m p ∧ m.cl p.b = c) {items : List Int} {so : Option Addr} {cap : Nat} (hn : items.length * 8 ≤ 140737488355328) (hso : items.length ≠ 0 → ∃ sb, so = some sb)
    (hit : ∀ sb, so = some sb → ∀ z, z < items.length → Sees L (sb.add z) (.int .i64 (items.getD z 0))) (hbd : ∀ p, po = some p → c = false → m.asks p.b + items.length ≤ 1000000000000000) :
    CallsS X 0 10 #[.pointer (po.map fun p => ⟨p.b, 0, none⟩), .slice so items.length cap] (allCost items.length) L fun r L' => ∃ A m', r = .slice (some ⟨A.bo, 0, none⟩) items.length items.length ∧ A.p = po ∧ A.cl = c ∧ A.items = items ∧ AllAs X.ap L m A so L' m' := by
  have hf := hb.fit
  (obtain ⟨P, ap, SelAt, CI, CW, Q⟩ := X; dsimp only at hP; subst hP)
  dsimp only at hCW
  subst hCW
  (co_apply CallsS.more; co_apply callsS_of_wp Try.func10 rfl; simp only [Try.ntmps10, List.size_toArray, List.length_cons, List.length_nil, Nat.reduceAdd, Nat.reduceSub, Array.replicate, List.replicate, List.append_toArray, List.cons_append, List.nil_append, List.append_eq])
  · have w0 := hb.ms
    (co_apply wpS_seq)
    (co_apply wpS_region; simp only [List.size_toArray, List.length_cons, List.length_nil, Nat.reduceAdd, Nat.zero_add, List.range, List.range.loop])
    (co_apply opsS_add (cs := #[.pointer (po.map fun p => ⟨p.b, 0, none⟩)]) (r := fun bk => .pointer (some ⟨bk, 0, none⟩)) (ty := 24) (fun _ => False); (focus (rfl)); (focus (rfl)); (focus (exact (w0.fit).live)); (focus (exact (w0.fit).vm)); (focus (intro w hS; go_simp)); (focus (intro w hS; simp [listed, go_sem, execOp, Act.eval, seen_none])))
    intro bp hbp
    walk_nrm
    have w1 : MS L m (L.adds bp #[.pointer (po.map fun p => ⟨p.b, 0, none⟩)] fun _ => False) := w0.adds hbp
    have n1 : Has (L.adds bp #[.pointer (po.map fun p => ⟨p.b, 0, none⟩)] fun _ => False) ⟨bp, 0, none⟩ (.pointer (po.map fun p => ⟨p.b, 0, none⟩)) := has_new (k := 0) rfl (fun x => x) fun a ha => hbp a (.inl (w0.vm a ha))
    generalize (L.adds bp #[.pointer (po.map fun p => ⟨p.b, 0, none⟩)] fun _ => False) = L1 at n1 w1 ⊢
    (co_apply opsS_add (cs := #[.slice so items.length cap]) (r := fun bk => .pointer (some ⟨bk, 0, none⟩)) (ty := 22) (fun _ => False); (focus (rfl)); (focus (rfl)); (focus (exact (w1.fit).live)); (focus (exact (w1.fit).vm)); (focus (intro w hS; go_simp)); (focus (intro w hS; simp [listed, go_sem, execOp, Act.eval, seen_none])))
    intro bi hbi
    walk_nrm
    have lt1 : bp < bi := hbi ⟨bp, 0, none⟩ (.inl n1.own)
    have w2 : MS L m (L1.adds bi #[.slice so items.length cap] fun _ => False) := w1.adds hbi
    have n2 : Has (L1.adds bi #[.slice so items.length cap] fun _ => False) ⟨bi, 0, none⟩ (.slice so items.length cap) := has_new (k := 0) rfl (fun x => x) fun a ha => hbi a (.inl (w1.vm a ha))
    have n1 := n1.adds (bk := bi) (cs := #[.slice so items.length cap]) (Vn := fun _ => False) lt1
    generalize (L1.adds bi #[.slice so items.length cap] fun _ => False) = L2 at n1 n2 w2 ⊢
    (repeat (first | (co_apply wpS_region; simp only [List.size_toArray, List.length_cons, List.length_nil, Nat.reduceAdd, Nat.zero_add, List.range, List.range.loop]) | (co_apply opsS_pure; (focus (exact rfl)); (focus (exact rfl)); (focus (intro w; go_simp <;> exact rfl)); (focus (intro w; simp [go_sem, execOp, Act.eval]; done)); try walk_nrm) | (co_apply opsS_nil; try dsimp only) | co_apply wpS_seq | co_apply wpS_skip | (co_apply wpS_cond; (focus (exact rfl)); simp only [if_true, if_false, reduceIte, Bool.false_eq_true])))
    (co_apply opsS_read (.slice so items.length cap); (focus (rfl)); (focus (rfl)); (focus (exact (w2.fit).live)); (focus (exact (w2.fit).vm)); (focus (intro w hS; have hu := (n2.sees).know w hS; go_simp)); (focus (intro w hS e he; have hu := (n2.sees).know w hS; have hm := mem_listed he; simp [go_sem, execOp, Act.eval, hu] at hm; subst hm; exact (n2.sees).ev _)); try walk_nrm)
    (co_apply opsS_pure (v := (.int .i64 items.length)); (focus (exact rfl)); (focus (exact rfl)); (focus (intro w; go_simp <;> first | done | exact rfl | assumption | omega | ((simp only [IntKind.wrap_u64, IntKind.wrap_u32, IntKind.wrap_i32]); omega) | decide)); (focus (intro w; simp [go_sem, execOp, Act.eval, *]; done)); try walk_nrm)
    co_apply opsS_add (cs := Array.replicate items.length (.int .i64 0)) (r := fun bk => .slice (some ⟨bk, 0, none⟩) items.length items.length) (ty := 2) (fun _ => True)
    · rfl
    · rfl
    · exact w2.fit.live
    · exact w2.fit.vm
    · intro w hS
      have hm := (mkslice (P := Try.prog) (t := 22) (e := 2) (z := .int .i64 0) Try.underlying22 (by kernel_rfl) rfl items.length hn w).1
      simp [go_sem, execOp, Act.eval, hm]
    · intro w hS
      have hm := (mkslice (P := Try.prog) (t := 22) (e := 2) (z := .int .i64 0) Try.underlying22 (by kernel_rfl) rfl items.length hn w).2 #[]
      simp [listed, go_sem, execOp, Act.eval, hm, seen_none]
    intro bo hbo
    walk_nrm
    have lt2 : bi < bo := hbo ⟨bi, 0, none⟩ (.inl n2.own)
    have w3 : MS L m (L2.adds bo (Array.replicate items.length (.int .i64 0)) fun _ => True) := w2.adds hbo
    have n1 := n1.adds (bk := bo) (cs := Array.replicate items.length (.int .i64 0)) (Vn := fun _ => True) (hbo _ (.inl n1.own))
    have n2 := n2.adds (bk := bo) (cs := Array.replicate items.length (.int .i64 0)) (Vn := fun _ => True) lt2
    have n3 : ∀ z, z < items.length → New1 (L2.adds bo (Array.replicate items.length (.int .i64 0)) fun _ => True) ⟨bo, z, none⟩ (.int .i64 0) := fun z hz => new_new (k := z) (by simp [hz]) trivial
    have o3 : (L2.adds bo (Array.replicate items.length (.int .i64 0)) fun _ => True).M ⟨bo, 0, none⟩ := .inr ⟨0, .inr rfl, rfl⟩
    generalize (L2.adds bo (Array.replicate items.length (.int .i64 0)) fun _ => True) = L3 at n1 n2 n3 w3 o3 ⊢
    (co_apply opsS_add (cs := #[.slice none 0 0]) (r := fun bk => .pointer (some ⟨bk, 0, none⟩)) (ty := 22) (fun _ => False); (focus (rfl)); (focus (rfl)); (focus (exact (w3.fit).live)); (focus (exact (w3.fit).vm)); (focus (intro w hS; go_simp)); (focus (intro w hS; simp [listed, go_sem, execOp, Act.eval, seen_none])))
    intro bt hbt
    walk_nrm
    have lt3 : bo < bt := hbt ⟨bo, 0, none⟩ (.inl o3)
    have w4 : MS L m (L3.adds bt #[.slice none 0 0] fun _ => False) := w3.adds hbt
    have n1 := n1.adds (bk := bt) (cs := #[.slice none 0 0]) (Vn := fun _ => False) (hbt _ (.inl n1.own))
    have n2 := n2.adds (bk := bt) (cs := #[.slice none 0 0]) (Vn := fun _ => False) (hbt _ (.inl n2.own))
    have n3 : ∀ z, z < items.length → New1 (L3.adds bt #[.slice none 0 0] fun _ => False) ⟨bo, z, none⟩ (.int .i64 0) := fun z hz => (n3 z hz).adds
    have n4 : Has (L3.adds bt #[.slice none 0 0] fun _ => False) ⟨bt, 0, none⟩ (.slice none 0 0) := has_new (k := 0) rfl (fun x => x) fun a ha => hbt a (.inl (w3.vm a ha))
    generalize (L3.adds bt #[.slice none 0 0] fun _ => False) = L4 at n1 n2 n3 n4 w4 ⊢
    (co_apply opsS_put (v := .slice (some ⟨bo, 0, none⟩) items.length items.length) (r := undef) (n4); (focus (rfl)); (focus (rfl)); (focus (exact (w4.fit).live)); (focus (exact (w4.fit).vm)); (focus (intro w hu hz; refine .inr ⟨?_, rfl⟩; go_simp)); (focus (intro w hu hz e he; have hm := mem_listed he; simp [go_sem, execOp, Act.eval, hu, hz] at hm; try rw [events_store _ _ _ _ _ _ rfl] at hm; simp [hu, hz] at hm; subst hm; exact (n4).ev _ _)); try walk_nrm)
    have far4 : ¬ (L.M ⟨bt, 0, none⟩ ∨ L.R ⟨bt, 0, none⟩) := fun x => by
      have : bt < bp := hbp _ x
      omega
    have w5 : MS L m (L4.sets ⟨bt, 0, none⟩ (.slice (some ⟨bo, 0, none⟩) items.length items.length)) := w4.sets far4
    have n4 := n4.sets (.slice (some ⟨bo, 0, none⟩) items.length items.length)
    have n1 := n1.other (a := ⟨bt, 0, none⟩) (v := .slice (some ⟨bo, 0, none⟩) items.length items.length) (fun e => by cases e; omega)
    have n2 := n2.other (a := ⟨bt, 0, none⟩) (v := .slice (some ⟨bo, 0, none⟩) items.length items.length) (fun e => by cases e; omega)
    have n3 : ∀ z, z < items.length → New1 (L4.sets ⟨bt, 0, none⟩ (.slice (some ⟨bo, 0, none⟩) items.length items.length)) ⟨bo, z, none⟩ (.int .i64 0) := fun z hz => (n3 z hz).sets fun e => by cases e; omega
    generalize (L4.sets ⟨bt, 0, none⟩ (.slice (some ⟨bo, 0, none⟩) items.length items.length)) = L5 at n1 n2 n3 n4 w5 ⊢
    clear w1 w2 w3 w4 o3
    (repeat (first | (co_apply wpS_region; simp only [List.size_toArray, List.length_cons, List.length_nil, Nat.reduceAdd, Nat.zero_add, List.range, List.range.loop]) | (co_apply opsS_pure; (focus (exact rfl)); (focus (exact rfl)); (focus (intro w; go_simp <;> exact rfl)); (focus (intro w; simp [go_sem, execOp, Act.eval]; done)); try walk_nrm) | (co_apply opsS_nil; try dsimp only) | co_apply wpS_seq | co_apply wpS_skip | (co_apply wpS_cond; (focus (exact rfl)); simp only [if_true, if_false, reduceIte, Bool.false_eq_true])))
    (co_apply opsS_add (cs := #[.int .u64 0, .int .u32 0]) (r := fun bk => .pointer (some ⟨bk, 0, none⟩)) (ty := 47) (fun _ => True); (focus (rfl)); (focus (rfl)); (focus (exact (w5.fit).live)); (focus (exact (w5.fit).vm)); (focus (intro w hS; go_simp)); (focus (intro w hS; simp [listed, go_sem, execOp, Act.eval, seen_none])))
    intro bw hbw
    walk_nrm
    have lt4 : bt < bw := hbw ⟨bt, 0, none⟩ (.inl n4.own)
    have w6 : MS L m (L5.adds bw #[.int .u64 0, .int .u32 0] fun _ => True) := w5.adds hbw
    have n1 := n1.adds (bk := bw) (cs := #[.int .u64 0, .int .u32 0]) (Vn := fun _ => True) (hbw _ (.inl n1.own))
    have n2 := n2.adds (bk := bw) (cs := #[.int .u64 0, .int .u32 0]) (Vn := fun _ => True) (hbw _ (.inl n2.own))
    have n3 : ∀ z, z < items.length → New1 (L5.adds bw #[.int .u64 0, .int .u32 0] fun _ => True) ⟨bo, z, none⟩ (.int .i64 0) := fun z hz => (n3 z hz).adds
    have n4 := n4.adds (bk := bw) (cs := #[.int .u64 0, .int .u32 0]) (Vn := fun _ => True) lt4
    have n5 : New1 (L5.adds bw #[.int .u64 0, .int .u32 0] fun _ => True) ⟨bw, 0, none⟩ (.int .u64 0) := new_new (k := 0) rfl trivial
    have n6 : New1 (L5.adds bw #[.int .u64 0, .int .u32 0] fun _ => True) ⟨bw, 1, none⟩ (.int .u32 0) := new_new (k := 1) rfl trivial
    generalize (L5.adds bw #[.int .u64 0, .int .u32 0] fun _ => True) = L6 at n1 n2 n3 n4 n5 n6 w6 ⊢
    (repeat (first | (co_apply wpS_region; simp only [List.size_toArray, List.length_cons, List.length_nil, Nat.reduceAdd, Nat.zero_add, List.range, List.range.loop]) | (co_apply opsS_pure; (focus (exact rfl)); (focus (exact rfl)); (focus (intro w; go_simp <;> exact rfl)); (focus (intro w; simp [go_sem, execOp, Act.eval]; done)); try walk_nrm) | (co_apply opsS_nil; try dsimp only) | co_apply wpS_seq | co_apply wpS_skip | (co_apply wpS_cond; (focus (exact rfl)); simp only [if_true, if_false, reduceIte, Bool.false_eq_true])))
    (co_apply opsS_add (cs := #[.int .i64 0]) (r := fun bk => .pointer (some ⟨bk, 0, none⟩)) (ty := 57) (fun _ => True); (focus (rfl)); (focus (rfl)); (focus (exact (w6.fit).live)); (focus (exact (w6.fit).vm)); (focus (intro w hS; go_simp)); (focus (intro w hS; simp [listed, go_sem, execOp, Act.eval, seen_none])))
    intro bn hbn
    walk_nrm
    have lt5 : bw < bn := hbn ⟨bw, 0, none⟩ (.inl n5.own)
    have w7 : MS L m (L6.adds bn #[.int .i64 0] fun _ => True) := w6.adds hbn
    have n1 := n1.adds (bk := bn) (cs := #[.int .i64 0]) (Vn := fun _ => True) (hbn _ (.inl n1.own))
    have n2 := n2.adds (bk := bn) (cs := #[.int .i64 0]) (Vn := fun _ => True) (hbn _ (.inl n2.own))
    have n3 : ∀ z, z < items.length → New1 (L6.adds bn #[.int .i64 0] fun _ => True) ⟨bo, z, none⟩ (.int .i64 0) := fun z hz => (n3 z hz).adds
    have n4 := n4.adds (bk := bn) (cs := #[.int .i64 0]) (Vn := fun _ => True) (hbn _ (.inl n4.own))
    have n5 : New1 (L6.adds bn #[.int .i64 0] fun _ => True) ⟨bw, 0, none⟩ (.int .u64 0) := n5.adds
    have n6 : New1 (L6.adds bn #[.int .i64 0] fun _ => True) ⟨bw, 1, none⟩ (.int .u32 0) := n6.adds
    have n7 : New1 (L6.adds bn #[.int .i64 0] fun _ => True) ⟨bn, 0, none⟩ (.int .i64 0) := new_new (k := 0) rfl trivial
    generalize (L6.adds bn #[.int .i64 0] fun _ => True) = L7 at n1 n2 n3 n4 n5 n6 n7 w7 ⊢
    clear w5 w6
    (repeat (first | (co_apply opsS_nil; try dsimp only) | (co_apply wpS_region; simp only [List.size_toArray, List.length_cons, List.length_nil, Nat.reduceAdd, Nat.zero_add, List.range, List.range.loop]) | co_apply wpS_skip | (co_apply wpS_cond; (focus (exact rfl)); simp only [if_true, if_false, reduceIte, Bool.false_eq_true])))
    co_apply wpS_seq
    co_apply wpS_seq
    co_apply wpS_region_told (L' := (L7.gives (OfAll (⟨po, c, bw, bn, bo, items⟩ : AllG))).turn (.main (m.calls (⟨po, c, bw, bn, bo, items⟩ : AllG) 0)) none)
    · exact w7.fit.live.nl
    · intro n Γ w t hI hL hi
      have hS : L7.S w := by have := hI.know 0; rwa [hL] at this
      refine hI.newAll (A := (⟨po, c, bw, bn, bo, items⟩ : AllG)) (L' := (L7.gives (OfAll (⟨po, c, bw, bn, bo, items⟩ : AllG))).turn (.main (m.calls (⟨po, c, bw, bn, bo, items⟩ : AllG) 0)) none) hL w7.role rfl w7.q rfl (fun a ha => ha) (fun a ha => ha) (fun a ha => ⟨ha.1, w7.vm a ha.1, ha.2⟩) rfl rfl (gives_S hS) (fun a ha => ?_)
        ⟨⟨n5.know w hS, n5.froz w hS⟩, ⟨n6.know w hS, n6.froz w hS⟩, ⟨n7.know w hS, n7.froz w hS⟩⟩ (fun z hz => ⟨⟨_, (n3 z hz).know w hS⟩, (n3 z hz).froz w hS⟩) ⟨(by show bo ≠ bw; omega), (by show bo ≠ bn; omega)⟩ (by show items.length ≤ _; omega) hb.al hb.reg hb.pnd hb.dn (fun p hp => ?_)
      · rcases ha with rfl | rfl | rfl | ⟨z, hz, rfl⟩
        · exact n5.virg
        · exact n6.virg
        · exact n7.virg
        · exact (n3 z hz).virg
      · obtain ⟨h1, h2⟩ := hpo p hp
        exact ⟨h1.mem, h2, h1.rd⟩
    · intro _ _ _ _ _ _ _
      rw [w7.role]; rfl
    have nF : ∀ {a : Addr}, a.block < bo → ¬ OfAll (⟨po, c, bw, bn, bo, items⟩ : AllG) a := fun {a} h e => by
      rcases e with rfl | rfl | rfl | ⟨z, _, rfl⟩
      · have : bw < bo := h
        omega
      · have : bw < bo := h
        omega
      · have : bn < bo := h
        omega
      · exact Nat.lt_irrefl _ h
    have nT : ¬ OfAll (⟨po, c, bw, bn, bo, items⟩ : AllG) ⟨bt, 0, none⟩ := fun e => by
      rcases e with e | e | e | ⟨z, _, e⟩
      · have := congrArg Addr.block e; have : bt = bw := this; omega
      · have := congrArg Addr.block e; have : bt = bw := this; omega
      · have := congrArg Addr.block e; have : bt = bn := this; omega
      · have := congrArg Addr.block e; have : bt = bo := this; omega
    have far1 : ∀ {a : Addr}, (L.M a ∨ L.R a) → a.block < bp := fun {a} h => hbp a h
    have hN0 : ALoop L m (⟨po, c, bw, bn, bo, items⟩ : AllG) bi bp bt (so.getD dead) cap 0 ((L7.gives (OfAll (⟨po, c, bw, bn, bo, items⟩ : AllG))).turn (.main (m.calls (⟨po, c, bw, bn, bo, items⟩ : AllG) 0)) none) (m.calls (⟨po, c, bw, bn, bo, items⟩ : AllG) 0) := by
      have s8 : ∀ {a : Addr} {v : Value}, Sees L a v → Sees ((L7.gives (OfAll (⟨po, c, bw, bn, bo, items⟩ : AllG))).turn (.main (m.calls (⟨po, c, bw, bn, bo, items⟩ : AllG) 0)) none) a v := fun {a v} h => ((w7.sees h).gives (nF (by have := far1 h.acc; omega))).turn _ _
      have t2 : Sees ((L7.gives (OfAll (⟨po, c, bw, bn, bo, items⟩ : AllG))).turn (.main (m.calls (⟨po, c, bw, bn, bo, items⟩ : AllG) 0)) none) ⟨bi, 0, none⟩ (.slice so items.length cap) := (n2.sees.gives (nF (by show bi < bo; omega))).turn _ _
      have t1 : Sees ((L7.gives (OfAll (⟨po, c, bw, bn, bo, items⟩ : AllG))).turn (.main (m.calls (⟨po, c, bw, bn, bo, items⟩ : AllG) 0)) none) ⟨bp, 0, none⟩ (.pointer (po.map fun p => ⟨p.b, 0, none⟩)) := (n1.sees.gives (nF (by show bp < bo; omega))).turn _ _
      have t4 : Sees ((L7.gives (OfAll (⟨po, c, bw, bn, bo, items⟩ : AllG))).turn (.main (m.calls (⟨po, c, bw, bn, bo, items⟩ : AllG) 0)) none) ⟨bt, 0, none⟩ (.slice (some ⟨bo, 0, none⟩) items.length items.length) := (n4.sees.gives nT).turn _ _
      have hsb : items.length ≠ 0 → so = some (so.getD dead) := fun h => by obtain ⟨sb, e⟩ := hso h; rw [e]; rfl
      have ti : ∀ z, z < items.length → Sees ((L7.gives (OfAll (⟨po, c, bw, bn, bo, items⟩ : AllG))).turn (.main (m.calls (⟨po, c, bw, bn, bo, items⟩ : AllG) 0)) none) (((so.getD dead)).add z) (.int .i64 (items.getD z 0)) := fun z hz => s8 (hit _ (hsb (by omega)) z hz)
      have tp : ∀ p, po = some p → Sees ((L7.gives (OfAll (⟨po, c, bw, bn, bo, items⟩ : AllG))).turn (.main (m.calls (⟨po, c, bw, bn, bo, items⟩ : AllG) 0)) none) ⟨p.b, 1, none⟩ (.chan (some p.ci)) ∧ Sees ((L7.gives (OfAll (⟨po, c, bw, bn, bo, items⟩ : AllG))).turn (.main (m.calls (⟨po, c, bw, bn, bo, items⟩ : AllG) 0)) none) ⟨p.b, 2, none⟩ (.chan (some p.ce)) := fun p hp => ⟨s8 (hpo p hp).1.ci, s8 (hpo p hp).1.ce⟩
      have hk : ∀ a, KidR (⟨po, c, bw, bn, bo, items⟩ : AllG) bi bp bt (so.getD dead) a → ∃ v, Sees ((L7.gives (OfAll (⟨po, c, bw, bn, bo, items⟩ : AllG))).turn (.main (m.calls (⟨po, c, bw, bn, bo, items⟩ : AllG) 0)) none) a v := fun a ha => by
        rcases ha with rfl | rfl | rfl | ⟨z, hz, rfl⟩ | ⟨p, hp, rfl | rfl⟩
        · exact ⟨_, t2⟩
        · exact ⟨_, t1⟩
        · exact ⟨_, t4⟩
        · exact ⟨_, ti z hz⟩
        · exact ⟨_, (tp p hp).1⟩
        · exact ⟨_, (tp p hp).2⟩
      refine ⟨rfl, rfl, w7.h, w7.d, fun a ha => ⟨w7.vm a ha.1, ha.2⟩, ⟨rfl, rfl, rfl, rfl, rfl, rfl, hb.reg, hb.pnd, hb.dn, hb.nw⟩, s8, fun h _ => ((w7.has h).gives (nF (by have := far1 (.inl h.own); omega))).turn _ _, fun hne w hS => ?_, fun a ha => (let ⟨v, h⟩ := hk a ha; h.acc), fun a ha => (let ⟨v, h⟩ := hk a ha; h.nv), fun z hz x => x.2 (.inr (.inr (.inr ⟨z, hz, rfl⟩))), t4⟩
      exact ⟨by rw [t2.know w hS, hsb hne]; rfl, t1.know w hS, t4.know w hS, fun z hz => (ti z hz).know w hS, fun p hp => ⟨(tp p hp).1.know w hS, (tp p hp).2.know w hS⟩⟩
    have s2 : Sees ((L7.gives (OfAll (⟨po, c, bw, bn, bo, items⟩ : AllG))).turn (.main (m.calls (⟨po, c, bw, bn, bo, items⟩ : AllG) 0)) none) ⟨bi, 0, none⟩ (.slice so items.length cap) := (n2.sees.gives (nF (by show bi < bo; omega))).turn _ _
    generalize ((L7.gives (OfAll (⟨po, c, bw, bn, bo, items⟩ : AllG))).turn (.main (m.calls (⟨po, c, bw, bn, bo, items⟩ : AllG) 0)) none) = L8 at hN0 s2 ⊢
    clear n1 n2 n3 n4 n5 n6 n7 w7 nT
    simp only [List.size_toArray, List.length_cons, List.length_nil, Nat.reduceAdd, Nat.zero_add, List.range, List.range.loop]
    (co_apply opsS_read (.slice so items.length cap); (focus (rfl)); (focus (rfl)); (focus (exact (hN0.fit).live)); (focus (exact (hN0.fit).vm)); (focus (intro w hS; have hu := (s2).know w hS; go_simp)); (focus (intro w hS e he; have hu := (s2).know w hS; have hm := mem_listed he; simp [go_sem, execOp, Act.eval, hu] at hm; subst hm; exact (s2).ev _)); try walk_nrm)
    (co_apply opsS_pure (v := (.int .i64 items.length)); (focus (exact rfl)); (focus (exact rfl)); (focus (intro w; go_simp <;> first | done | exact rfl | assumption | omega | ((simp only [IntKind.wrap_u64, IntKind.wrap_u32, IntKind.wrap_i32]); omega) | decide)); (focus (intro w; simp [go_sem, execOp, Act.eval, *]; done)); try walk_nrm)
    co_apply opsS_pure (v := .int .i64 (if 16 < (items.length : Int) then 16 else items.length))
    · rfl
    · rfl
    · intro w; simp [go_sem, execOp, Act.eval, rn_min2]
    · intro w; simp [go_sem, execOp, Act.eval, ev_min2]
    walk_nrm
    obtain ⟨kk, hkk⟩ : ∃ kk : Int, kk = (if 16 < (items.length : Int) then 16 else (items.length : Int)) := ⟨_, rfl⟩
    rw [← hkk]
    have hk1 : 0 ≤ kk ∧ kk ≤ 16 ∧ kk ≤ items.length ∧ (items.length ≠ 0 → 1 ≤ kk) := by rw [hkk]; split <;> omega
    clear hkk s2
    replace hk1 : Hid (0 ≤ kk ∧ kk ≤ 16 ∧ kk ≤ items.length ∧ (items.length ≠ 0 → 1 ≤ kk)) := hk1
    (repeat (first | (co_apply wpS_region; simp only [List.size_toArray, List.length_cons, List.length_nil, Nat.reduceAdd, Nat.zero_add, List.range, List.range.loop]) | (co_apply opsS_pure; (focus (exact rfl)); (focus (exact rfl)); (focus (intro w; go_simp <;> exact rfl)); (focus (intro w; simp [go_sem, execOp, Act.eval]; done)); try walk_nrm) | (co_apply opsS_nil; try dsimp only) | co_apply wpS_seq | co_apply wpS_skip | (co_apply wpS_cond; (focus (exact rfl)); simp only [if_true, if_false, reduceIte, Bool.false_eq_true])))
    co_apply wpS_block
    co_apply wpS_loop (fun a L' => a.defers = [] ∧ a.tmps.size = 21 ∧ a.tmps[2]? = some (.pointer (some ⟨bp, 0, none⟩)) ∧ a.tmps[3]? = some (.pointer (some ⟨bi, 0, none⟩)) ∧ a.tmps[5]? = some (.pointer (some ⟨bt, 0, none⟩)) ∧ a.tmps[6]? = some (.pointer (some ⟨bw, 0, none⟩)) ∧ a.tmps[7]? = some (.pointer (some ⟨bn, 0, none⟩)) ∧ a.tmps[13]? = some (.int .i64 kk) ∧
        ∃ j : Nat, a.tmps[14]? = some (.int .i64 j) ∧ (j : Int) ≤ kk ∧ ∃ mm, ALoop L m (⟨po, c, bw, bn, bo, items⟩ : AllG) bi bp bt (so.getD dead) cap j L' mm) (fun a _ => left14 a) (kidCost items.length + 1500) 16
    · have : 0 ≤ kk := hk1.1
      exact ⟨rfl, rfl, rfl, rfl, rfl, rfl, rfl, rfl, 0, rfl, by omega, _, hN0⟩
    · rw [left14_eq (z := 0) rfl]
      decide
    · clear hN0
      rintro ⟨tmps, defers⟩ L3 ⟨k1, k2, k2', k3, k5, k6, k7, k13, j, k14, hj, mm, hN⟩
      dsimp only at k1 k2 k2' k3 k5 k6 k7 k13 k14
      subst k1
      obtain ⟨f2, hlit, hf2⟩ := lit tmps 21 k2
      have e2 := hf2 2 _ k2'
      have e3 := hf2 3 _ k3
      have e5 := hf2 5 _ k5
      have e6 := hf2 6 _ k6
      have e7 := hf2 7 _ k7
      have e13 := hf2 13 _ k13
      have e14 := hf2 14 _ k14
      subst hlit
      clear k2 k2' k3 k5 k6 k7 k13 k14 hf2
      simp only [List.range, List.range.loop, List.map, e2, e3, e5, e6, e7, e13, e14]
      clear e2 e3 e5 e6 e7 e13 e14
      by_cases hlt : (j : Int) < kk
      · have hk1' : 0 ≤ kk ∧ kk ≤ 16 ∧ kk ≤ items.length ∧ (items.length ≠ 0 → 1 ≤ kk) := hk1
        have hne0 : items.length ≠ 0 := by omega
        have hj16 : j < 16 := by omega
        clear hk1'
        co_apply wpS_more
        (repeat (first | (co_apply wpS_region; simp only [List.size_toArray, List.length_cons, List.length_nil, Nat.reduceAdd, Nat.zero_add, List.range, List.range.loop]) | (co_apply opsS_pure; (focus (exact rfl)); (focus (exact rfl)); (focus (intro w; go_simp <;> exact rfl)); (focus (intro w; simp [go_sem, execOp, Act.eval]; done)); try walk_nrm) | (co_apply opsS_nil; try dsimp only) | co_apply wpS_seq | co_apply wpS_skip | (co_apply wpS_cond; (focus (exact rfl)); simp only [if_true, if_false, reduceIte, Bool.false_eq_true])))
        co_apply wpS_block
        (repeat (first | (co_apply wpS_region; simp only [List.size_toArray, List.length_cons, List.length_nil, Nat.reduceAdd, Nat.zero_add, List.range, List.range.loop]) | (co_apply opsS_pure; (focus (exact rfl)); (focus (exact rfl)); (focus (intro w; go_simp <;> exact rfl)); (focus (intro w; simp [go_sem, execOp, Act.eval]; done)); try walk_nrm) | (co_apply opsS_nil; try dsimp only) | co_apply wpS_seq | co_apply wpS_skip | (co_apply wpS_cond; (focus (exact rfl)); simp only [if_true, if_false, reduceIte, Bool.false_eq_true])))
        (co_apply opsS_call; (focus (exact rfl)); (focus (exact rfl)); (focus (exact rfl)); (focus (exact Try.func15)); (focus (rfl)); (focus (rfl)); try simp only [List.map_toArray, List.map_cons, List.map_nil])
        · exact w_add1 (wa := ⟨bw, 0, none⟩) rfl hN.d ⟨hN.role, .inr ⟨(⟨po, c, bw, bn, bo, items⟩ : AllG), j, hN.r.al, rfl⟩, hN.r.reg, hN.r.pnd⟩
        rintro _ L4 ⟨rfl, hL4⟩
        rw [hN.q] at hL4
        walk_nrm
        (repeat (first | (co_apply wpS_region; simp only [List.size_toArray, List.length_cons, List.length_nil, Nat.reduceAdd, Nat.zero_add, List.range, List.range.loop]) | (co_apply opsS_pure; (focus (exact rfl)); (focus (exact rfl)); (focus (intro w; go_simp <;> exact rfl)); (focus (intro w; simp [go_sem, execOp, Act.eval]; done)); try walk_nrm) | (co_apply opsS_nil; try dsimp only) | co_apply wpS_seq | co_apply wpS_skip | (co_apply wpS_cond; (focus (exact rfl)); simp only [if_true, if_false, reduceIte, Bool.false_eq_true])))
        (co_apply opsS_pure (v := (.func (.func 17) #[] #[.pointer (some ⟨bw, 0, none⟩), .pointer (some ⟨bn, 0, none⟩), .pointer (some ⟨bi, 0, none⟩), .pointer (some ⟨bp, 0, none⟩), .pointer (some ⟨bt, 0, none⟩)])); (focus (exact rfl)); (focus (exact rfl)); (focus (intro w; simp [go_sem, execOp, Act.eval, Instr.makeFunc])); (focus (intro w; simp [go_sem, execOp, Act.eval, Instr.makeFunc])); try walk_nrm)
        co_apply opsS_go (d := { target := .fn (.func 17) #[.pointer (some ⟨bw, 0, none⟩), .pointer (some ⟨bn, 0, none⟩), .pointer (some ⟨bi, 0, none⟩), .pointer (some ⟨bp, 0, none⟩), .pointer (some ⟨bt, 0, none⟩)], args := #[] }) (f := .func 17) (cap := #[.pointer (some ⟨bw, 0, none⟩), .pointer (some ⟨bn, 0, none⟩), .pointer (some ⟨bi, 0, none⟩), .pointer (some ⟨bp, 0, none⟩), .pointer (some ⟨bt, 0, none⟩)]) (c2 := 1 + kidCost items.length + 1) (Lc := askLo (⟨po, c, bw, bn, bo, items⟩ : AllG) bi bp bt (so.getD dead) cap) (L' := (L4.lends (KidR (⟨po, c, bw, bn, bo, items⟩ : AllG) bi bp bt (so.getD dead))).turn (.main (nextR mm (⟨po, c, bw, bn, bo, items⟩ : AllG) j)) none)
        · rfl
        · rfl
        · intro w; go_simp
        · rfl
        · intro w; simp [listed, go_sem, execOp, Act.eval, seen_none]
        · rfl
        · subst hL4; exact fun ⟨⟨wa, zs, f, e⟩, _⟩ => by cases e
        · exact fun ⟨⟨wa, zs, f, e⟩, _⟩ => by cases e
        · exact fun ⟨⟨wa, zs, f, e⟩, _⟩ => by cases e
        · intro n Γ w t hI hL
          have hS : L4.S w := by have := hI.know 0; rwa [hL] at this
          subst hL4
          refine ⟨rfl, fun fn pos fn' pos' => ?_⟩
          exact hI.spawn (m := mm.at none (some (groupA (⟨po, c, bw, bn, bo, items⟩ : AllG))) none) (m' := nextR mm (⟨po, c, bw, bn, bo, items⟩ : AllG) j) (Lc := askLo (⟨po, c, bw, bn, bo, items⟩ : AllG) bi bp bt (so.getD dead) cap) (L' := ((L3.turn (.main (mm.at none (some (groupA (⟨po, c, bw, bn, bo, items⟩ : AllG))) none)) none).lends (KidR (⟨po, c, bw, bn, bo, items⟩ : AllG) bi bp bt (so.getD dead))).turn (.main (nextR mm (⟨po, c, bw, bn, bo, items⟩ : AllG) j)) none)
            hL rfl rfl (.inr ⟨(⟨po, c, bw, bn, bo, items⟩ : AllG), j, rfl, rfl, hN.r.al, hj16, rfl⟩) hN.d (fun a ha => ha.1) (fun a ha => ha.elim .inr fun x => .inl x.1) (fun a ha => ⟨ha.1, hN.vm a ha.1, ha.2⟩) rfl hN.d hS rfl
            (fun a h => h) (fun a ha => ⟨hN.acc a ha, fun x => x.2 ha⟩) (fun a h => h) (hN.know hne0 w hS) rfl rfl rfl fn pos fn' pos'
        · intro n hn0
          have hok : AskS (⟨po, c, bw, bn, bo, items⟩ : AllG) n (askLo (⟨po, c, bw, bn, bo, items⟩ : AllG) bi bp bt (so.getD dead) cap) bi bp bt (so.getD dead) cap := askLo_ok hn0 (by show bo ≠ bi; omega) (by show bo ≠ bp; omega) (by show bo ≠ bt; omega) (fun _ => by
            show bo ≠ ((so.getD dead)).block
            obtain ⟨sb, e⟩ := hso hne0
            have h0 := hit sb e 0 (by omega)
            have := far1 h0.acc
            rw [add_blk] at this
            have e2 : (so.getD dead) = sb := by rw [e]; rfl
            rw [e2]; omega) (fun p hp => by
            show bo ≠ p.b
            have := far1 (hpo p hp).1.ci.acc
            have : p.b < bp := this
            omega)
          refine safe_born (X := ⟨Try.prog, ap, SelAt, CI, 10000, Q⟩) Try.func17 rfl rfl ?_
          exact w_all1 (X := ⟨Try.prog, ap, SelAt, CI, 10000, Q⟩) rfl rfl hok rfl (bot Try.prog) [] 1 (.inr rfl) fun L' hL' => safe_bot (X := ⟨Try.prog, ap, SelAt, CI, 10000, Q⟩) hL'.1 hn0 hL'.2
        walk_nrm
        have hN2 : ALoop L m (⟨po, c, bw, bn, bo, items⟩ : AllG) bi bp bt (so.getD dead) cap (j + 1) ((L4.lends (KidR (⟨po, c, bw, bn, bo, items⟩ : AllG) bi bp bt (so.getD dead))).turn (.main (nextR mm (⟨po, c, bw, bn, bo, items⟩ : AllG) j)) none) (nextR mm (⟨po, c, bw, bn, bo, items⟩ : AllG) j) := by
          subst hL4
          exact hN.next _
        generalize ((L4.lends (KidR (⟨po, c, bw, bn, bo, items⟩ : AllG) bi bp bt (so.getD dead))).turn (.main (nextR mm (⟨po, c, bw, bn, bo, items⟩ : AllG) j)) none) = L5 at hN2 ⊢
        (repeat (first | (co_apply opsS_nil; try dsimp only) | co_apply wpS_seq | (co_apply wpS_region; simp only [List.size_toArray, List.length_cons, List.length_nil, Nat.reduceAdd, Nat.zero_add, List.range, List.range.loop]) | co_apply wpS_skip | (co_apply wpS_cond; (focus (exact rfl)); simp only [if_true, if_false, reduceIte, Bool.false_eq_true])))
        have hw := wrap_i64 ((j : Int) + 1) (by omega) (by omega)
        (co_apply opsS_pure (v := (.int .i64 ((j : Int) + 1))); (focus (exact rfl)); (focus (exact rfl)); (focus (intro w; go_simp <;> first | done | exact rfl | assumption | omega | ((simp only [IntKind.wrap_u64, IntKind.wrap_u32, IntKind.wrap_i32]); omega) | decide)); (focus (intro w; simp [go_sem, execOp, Act.eval, *]; done)); try walk_nrm)
        (co_apply opsS_pure (v := (.int .i64 ((j : Int) + 1))); (focus (exact rfl)); (focus (exact rfl)); (focus (intro w; go_simp <;> first | done | exact rfl | assumption | omega | ((simp only [IntKind.wrap_u64, IntKind.wrap_u32, IntKind.wrap_i32]); omega) | decide)); (focus (intro w; simp [go_sem, execOp, Act.eval, *]; done)); try walk_nrm)
        clear hw
        (repeat (first | (co_apply opsS_nil; try dsimp only) | co_apply wpS_seq | (co_apply wpS_region; simp only [List.size_toArray, List.length_cons, List.length_nil, Nat.reduceAdd, Nat.zero_add, List.range, List.range.loop]) | co_apply wpS_skip | (co_apply wpS_cond; (focus (exact rfl)); simp only [if_true, if_false, reduceIte, Bool.false_eq_true])))
        refine ⟨⟨rfl, rfl, rfl, rfl, rfl, rfl, rfl, rfl, j + 1, rfl, by omega, _, hN2⟩, ?_⟩
        rw [left14_eq (z := j + 1) rfl, left14_eq (z := j) rfl]
        omega
        omega
      · have hjk : kk = (j : Int) := by omega
        have hk1' : 0 ≤ kk ∧ kk ≤ 16 ∧ kk ≤ items.length ∧ (items.length ≠ 0 → 1 ≤ kk) := hk1
        have hj0 : items.length ≠ 0 → j ≠ 0 := fun h => by have := hk1'.2.2.2 h; omega
        clear hk1' 
        replace hjk : Hid (kk = (j : Int)) := hjk
        co_apply wpS_more
        co_apply wpS_seq
        (repeat (first | (co_apply wpS_region; simp only [List.size_toArray, List.length_cons, List.length_nil, Nat.reduceAdd, Nat.zero_add, List.range, List.range.loop]) | (co_apply opsS_pure; (focus (exact rfl)); (focus (exact rfl)); (focus (intro w; go_simp <;> exact rfl)); (focus (intro w; simp [go_sem, execOp, Act.eval]; done)); try walk_nrm) | (co_apply opsS_nil; try dsimp only) | co_apply wpS_skip | (co_apply wpS_cond; (focus (exact rfl)); simp only [if_true, if_false, reduceIte, Bool.false_eq_true])))
        co_apply wpS_seq (n₂ := 0)
        (repeat (first | (co_apply wpS_region; simp only [List.size_toArray, List.length_cons, List.length_nil, Nat.reduceAdd, Nat.zero_add, List.range, List.range.loop]) | (co_apply opsS_pure; (focus (exact rfl)); (focus (exact rfl)); (focus (intro w; go_simp <;> exact rfl)); (focus (intro w; simp [go_sem, execOp, Act.eval]; done)); try walk_nrm) | (co_apply opsS_nil; try dsimp only) | co_apply wpS_seq | co_apply wpS_skip | (co_apply wpS_cond; (focus (exact rfl)); simp only [if_true, if_false, reduceIte, Bool.false_eq_true])))
        co_apply wpS_exit
        try dsimp only
        try simp only [if_true, reduceIte]
        co_apply wpS_more (n' := 22000)
        (repeat (first | (co_apply wpS_region; simp only [List.size_toArray, List.length_cons, List.length_nil, Nat.reduceAdd, Nat.zero_add, List.range, List.range.loop]) | (co_apply opsS_pure; (focus (exact rfl)); (focus (exact rfl)); (focus (intro w; go_simp <;> exact rfl)); (focus (intro w; simp [go_sem, execOp, Act.eval]; done)); try walk_nrm) | (co_apply opsS_nil; try dsimp only) | co_apply wpS_seq | co_apply wpS_skip | (co_apply wpS_cond; (focus (exact rfl)); simp only [if_true, if_false, reduceIte, Bool.false_eq_true])))
        (co_apply opsS_call; (focus (exact rfl)); (focus (exact rfl)); (focus (exact rfl)); (focus (exact Try.func20)); (focus (rfl)); (focus (rfl)); try simp only [List.map_toArray, List.map_cons, List.map_nil])
        · exact w_wait (wa := ⟨bw, 0, none⟩) (m := mm) (P' := fun L' => L' = (L3.turn (.main (mm.at none none (some (⟨bw, 0, none⟩, 0)))) none).gathers ap (mm.at none none (some (⟨bw, 0, none⟩, 0))) (⟨po, c, bw, bn, bo, items⟩ : AllG)) rfl hN.d hN.r.dn ⟨hN.role, .inr ⟨(⟨po, c, bw, bn, bo, items⟩ : AllG), j, hN.r.al, rfl⟩, hN.r.reg, hN.r.pnd⟩ (.inl (.inr ⟨(⟨po, c, bw, bn, bo, items⟩ : AllG), j, hN.r.al, rfl⟩)) (fun e _ h => by
            have : (0 : Nat) = 3 := (ca_eq (b := bw) (i := 0) h).2
            omega) hN.q (mv_acqA (A := (⟨po, c, bw, bn, bo, items⟩ : AllG)) (sp := j) rfl hN.r.al rfl rfl rfl hj0 hN.d rfl fun p hp hc => by
              show mm.asks p.b + _ ≤ _
              rw [hN.r.asks]
              exact hbd p hp hc)
        rintro _ _ ⟨rfl, rfl⟩
        walk_nrm
        (repeat (first | (co_apply wpS_region; simp only [List.size_toArray, List.length_cons, List.length_nil, Nat.reduceAdd, Nat.zero_add, List.range, List.range.loop]) | (co_apply opsS_pure; (focus (exact rfl)); (focus (exact rfl)); (focus (intro w; go_simp <;> exact rfl)); (focus (intro w; simp [go_sem, execOp, Act.eval]; done)); try walk_nrm) | (co_apply opsS_nil; try dsimp only) | co_apply wpS_seq | co_apply wpS_skip | (co_apply wpS_cond; (focus (exact rfl)); simp only [if_true, if_false, reduceIte, Bool.false_eq_true])))
        have hf9 : Fit ((L3.turn (.main (mm.at none none (some (⟨bw, 0, none⟩, 0)))) none).gathers ap (mm.at none none (some (⟨bw, 0, none⟩, 0))) (⟨po, c, bw, bn, bo, items⟩ : AllG)) := ⟨⟨hN.h, fun wa zs f s e => by cases e⟩, fun a ha => .inl (hN.vm a ha)⟩
        (co_apply opsS_read (.slice (some ⟨bo, 0, none⟩) items.length items.length); (focus (rfl)); (focus (rfl)); (focus (exact (hf9).live)); (focus (exact (hf9).vm)); (focus (intro w hS; have hu := ((hN.st.turn (.main (mm.at none none (some (⟨bw, 0, none⟩, 0)))) none).gathers).know w hS; go_simp)); (focus (intro w hS e he; have hu := ((hN.st.turn (.main (mm.at none none (some (⟨bw, 0, none⟩, 0)))) none).gathers).know w hS; have hm := mem_listed he; simp [go_sem, execOp, Act.eval, hu] at hm; subst hm; exact ((hN.st.turn (.main (mm.at none none (some (⟨bw, 0, none⟩, 0)))) none).gathers).ev _)); try walk_nrm)
        (repeat (first | (co_apply wpS_region; simp only [List.size_toArray, List.length_cons, List.length_nil, Nat.reduceAdd, Nat.zero_add, List.range, List.range.loop]) | (co_apply opsS_pure; (focus (exact rfl)); (focus (exact rfl)); (focus (intro w; go_simp <;> exact rfl)); (focus (intro w; simp [go_sem, execOp, Act.eval]; done)); try walk_nrm) | (co_apply opsS_nil; try dsimp only) | co_apply wpS_seq | co_apply wpS_skip | (co_apply wpS_cond; (focus (exact rfl)); simp only [if_true, if_false, reduceIte, Bool.false_eq_true])))
        (first | (co_apply wpS_ret; refine ⟨_, fun w => ⟨results_tmp rfl _ _ _, events_results_tmp rfl _ _⟩, unwinds_nil ?_⟩) | (refine ⟨_, fun w => ⟨results_none rfl _ _ _, events_results_none rfl _ _⟩, unwinds_nil ?_⟩) | (co_apply wpS_ret; refine ⟨_, fun w => ⟨results_none rfl _ _ _, events_results_none rfl _ _⟩, unwinds_nil ?_⟩))
        refine ⟨(⟨po, c, bw, bn, bo, items⟩ : AllG), _, rfl, rfl, rfl, rfl, ⟨rfl, rfl, hN.h, hN.d, hf9.vm, rfl, rfl, rfl, rfl, hN.r.nw, fun b h => ?_⟩, hN.r.ps, hN.r.cl, hN.r.rd, hN.r.fin, ?_, fun h => ((hN.sees h).turn _ _).gathers, fun {a v} h h1 h2 => ((hN.has h fun hk => ?_).turn _ _).gathers, fun z hz => ⟨fun w x => x.2 z hz, .inl (.inr ⟨z, hz, rfl⟩), hN.nvo z hz⟩, fun ad h => ?_⟩
        · have h : mm.cl b = true := h
          rw [hN.r.cl] at h
          obtain ⟨e, x, y⟩ := hb.clb b h
          exact ⟨e, by show e ∈ mm.ps; rw [hN.r.ps]; exact x, y⟩
        · have e := hN.r.asks
          simp only [MainR.got, MainR.at, e]
        · rcases hk with e | e | e | ⟨z, hz, e⟩ | ⟨p, hp, e | e⟩
          · have := far1 (.inl h.own)
            rw [e] at this
            have : bi < bp := this
            omega
          · have := far1 (.inl h.own)
            rw [e] at this
            exact Nat.lt_irrefl _ this
          · have := far1 (.inl h.own)
            rw [e] at this
            have : bt < bp := this
            omega
          · obtain ⟨sb, e'⟩ := hso (by have : z < items.length := hz; omega)
            refine h1 sb z e' hz ?_
            rw [e, e']; rfl
          · exact (h2 p hp).1 e
          · exact (h2 p hp).2 e
        · have := far1 h
          show ad.block < bo
          omega
        decide
        omega
  · show _ ≤ allCost items.length
    unfold allCost
    omega
end Go.Proofs.Ytaceedenkmccdaa
