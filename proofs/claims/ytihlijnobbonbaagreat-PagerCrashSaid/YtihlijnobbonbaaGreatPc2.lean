/- docketlaw04: lives; what a crash leaves on both sides. -/
import Derived.Test.YtihlijnobbonbaaGreatPc1
namespace Go.Proofs.YtihlijnobbonbaaGreat
open Go Go.RowKit
set_option linter.unusedSimpArgs false
set_option linter.unusedVariables false
set_option maxRecDepth 100000

/-- A life of chapter 4. -/
structure LifP where
  sa : Option Addr
  sc : Nat
  script : List POp
  fuel : Nat
  ka : Option Addr
  kc : Nat
  keep : List Bool
  aa : Option Addr
  ac : Nat
  again : Bytes
instance : Inhabited LifP := ⟨⟨none, 0, [], 0, none, 0, [], none, 0, []⟩⟩
def lifP (o : LifP) : List Value := [.slice o.sa o.script.length o.sc, .int .u8 o.fuel, .slice o.ka o.keep.length o.kc, .slice o.aa o.again.length o.ac]
theorem lifP_length (o : LifP) : (lifP o).length = 4 := rfl
structure LifP.Ok (w : World) (o : LifP) : Prop where
  script : PopsAt w o.sa o.sc o.script
  fuel : o.fuel ≤ 255
  keep : Sees w 1 (.slice o.ka o.keep.length o.kc) o.keep.length (boolsV o.keep)
  klt : ∀ x, o.ka = some x → 0 < o.keep.length → x.block < w.heap.size
  again : Sees w 1 (.slice o.aa o.again.length o.ac) o.again.length (bvs o.again)
def LifesAt (W : World) (x : Option Addr) (c : Nat) (l : List LifP) : Prop :=
  Sees W 4 (.slice x l.length c) l.length (l.flatMap lifP) ∧ (∀ o ∈ l, o.Ok W) ∧ (∀ y, x = some y → 0 < l.length → y.block < W.heap.size)
theorem lifP_at {w : World} {xa : Option Addr} {xc : Nat} {l : List LifP} (h : Sees w 4 (.slice xa l.length xc) l.length (l.flatMap lifP)) (k : Nat) (hk : k < l.length) :
    ∃ xb xo, xa = some ⟨xb, xo, none⟩ ∧ w.rangeAt xb (xo + k * 4) (lifP l[k]) := by
  obtain ⟨_, _, x, c, hx, hc⟩ := h
  cases hx
  obtain ⟨b, o, rfl, hr⟩ := hc (by omega)
  exact ⟨b, o, rfl, rangeAt.sub (w := w) (b := b) (off := o) hr (k * 4) (by rw [lifP_length]; exact flat_piece lifP 4 l k hk (fun x _ => rfl))⟩
theorem sizeLifP : (Tryz.prog.info? 77).map (·.size) = some 4 := by kernel_rfl
theorem setFuel_inv4 {L : LSt} {D : DSt} {T : Nat} {all : List Batch} (h : Inv L D T all) (n : Int) : Inv L (D.setFuel n) T all := ⟨h.ok, h.alive, h.live, h.fit, h.list, h.last, h.used, h.low, h.good, h.vis, h.waits⟩
theorem PInv.fuel {L : LSt} {D : DSt} {skip N T : Nat} {cs : List Img} {es : Img} (h : PInv L D skip N T cs es) (n : Int) : PInv L (D.setFuel n) skip N T cs es :=
  ⟨setFuel_inv4 h.inv n, h.fr, h.n, h.secs, h.wr, h.wl, h.home, h.fresh, h.okC, h.okE⟩
/-- A disk, behind a life; lo: what is synced. -/
def LV (w wr : World) (db rb skip N : Nat) (cs ct : List Img) (lo : Nat) : Prop :=
  ∃ (D : DSt) (K J : Nat → Prop), DiskAt wr db D K ∧ SafeP D skip N cs lo ∧ Rpg wr rb N (skip - 1) ct J ∧ Sep (fun _ => False) w wr K J ∧ SameC cs (ct.take cs.length) ∧ cs.length ≤ ct.length ∧ (∀ c ∈ cs, EsOk N c)
/-- Behind a crash. -/
def LC (w wr : World) (db rb skip N : Nat) (cs ct : List Img) (lo : Nat) (f : Int) : Prop :=
  ∃ (D : DSt) (K J : Nat → Prop) (T s st : Nat), DiskAt wr db D K ∧ Opb D skip N cs T s st ∧ lo ≤ s ∧ D.fuel = f ∧ Rpg wr rb N (skip - 1) ct J ∧ Sep (fun _ => False) w wr K J ∧ SameC cs (ct.take cs.length) ∧ cs.length ≤ ct.length ∧ (∀ c ∈ cs, EsOk N c)
section
variable {w wr w' : World} {tb pb db xb rb skip N sy lo : Nat} {cs ct : List Img} {ds l : Img} {f : Int}
theorem Opb.fuel {D : DSt} {T s st : Nat} (h : Opb D skip N cs T s st) (n : Int) : Opb (D.setFuel n) skip N cs T s st := ⟨h.dead, h.wt, h.secs, h.good, h.ws, h.home, h.low, h.high⟩
theorem LV.upd0 (h : LV w wr db rb skip N cs ct lo) : Upd (fun _ => False) w wr := let ⟨_, _, _, _, _, _, h, _⟩ := h; h.upd
theorem LC.upd0 (h : LC w wr db rb skip N cs ct lo f) : Upd (fun _ => False) w wr := let ⟨_, _, _, _, _, _, _, _, _, _, _, h, _⟩ := h; h.upd
theorem LV.quiet (h : LV w wr db rb skip N cs ct lo) (hu : Upd (fun _ => False) wr w') : LV w w' db rb skip N cs ct lo :=
  let ⟨D, K, J, h1, h2, h3, h4, h5⟩ := h; ⟨D, K, J, h1.upd hu (fun _ _ h => h), h2, h3.upd hu (fun _ _ h => h), h4.quiet hu, h5⟩
theorem LC.quiet (h : LC w wr db rb skip N cs ct lo f) (hu : Upd (fun _ => False) wr w') : LC w w' db rb skip N cs ct lo f :=
  let ⟨D, K, J, T, s, st, h1, h2, h3, h4, h5, h6, h7⟩ := h; ⟨D, K, J, T, s, st, h1.upd hu (fun _ _ h => h), h2, h3, h4, h5.upd hu (fun _ _ h => h), h6.quiet hu, h7⟩
theorem SafeP.le {D : DSt} (h : SafeP D skip N cs lo) : lo ≤ cs.length := by
  obtain ⟨T, s, h1, h2, _⟩ := h.2 []
  have := h2.2.1
  rw [List.length_map] at this
  omega
theorem LV.le (h : LV w wr db rb skip N cs ct lo) : lo ≤ cs.length := let ⟨_, _, _, _, h, _⟩ := h; h.le
/-- Crash. -/
theorem LV.crash (h : LV w wr db rb skip N cs ct lo) (ka : Option Addr) (kc : Nat) (keep : List Bool) (hk : Sees w 1 (.slice ka keep.length kc) keep.length (boolsV keep)) (hkl : ∀ x, ka = some x → 0 < keep.length → x.block < w.heap.size) :
    Calls Tryz.prog 32 #[.pointer (some ⟨db, 0, none⟩), .slice ka keep.length kc] wr fun e w' => e = .returned (.tuple #[]) ∧ LC w w' db rb skip N cs ct lo (-1) := by
  obtain ⟨D, K, J, h1, h2, h3, h4, h5⟩ := h
  refine (crash_disk2 h1 ka kc keep (hk.upd h4.upd (fun _ _ _ h => h)) (fun x hx h0 hG => by have := hkl x hx h0; have := (h4.k _ hG).1.elim (fun e => e.elim) id; omega)).mono ?_
  rintro e w' ⟨rfl, hd, hu⟩
  obtain ⟨T, s, st, hs, ho⟩ := h2.crash keep
  exact ⟨rfl, D.crash keep, K, J, T, s, st, hd, ho, hs, rfl, h3.upd hu h4.jk, h4.left ⟨hu, fun q hq => .inl hq⟩ hd.lt, h5⟩
/-- Fuel, behind a crash. -/
theorem LC.fuel (h : LC w wr db rb skip N cs ct lo f) (n : Nat) (hn : n ≤ 255) :
    Calls Tryz.prog 30 #[.pointer (some ⟨db, 0, none⟩), .int .i64 (n : Nat)] wr fun e w' => e = .returned (.tuple #[]) ∧ LC w w' db rb skip N cs ct lo n := by
  obtain ⟨D, K, J, T, s, st, h1, h2, h3, h4, h5, h6, h7⟩ := h
  refine (fuel_disk h1 n (by omega)).mono ?_
  rintro e w' ⟨rfl, hd, hu⟩
  refine ⟨rfl, D.setFuel n, K, J, T, s, st, hd, h2.fuel n, h3, ?_, h5.upd hu h6.jk, h6.left ⟨hu, fun q hq => .inl hq⟩ hd.lt, h7⟩
  show max (n : Int) (-1) = n
  omega
theorem SameC.cut {s : Nat} (h : SameC cs (ct.take cs.length)) (hs : s ≤ cs.length) : SameC (cs.take s) (ct.take s) := by
  have := h.take s
  rwa [List.take_take, Nat.min_eq_left hs] at this
/-- What Open answers behind a crash. -/
def LO (w : World) (db rb skip N : Nat) (cs ct : List Img) (lo : Nat) (f : Int) (e : Ending) (w' : World) : Prop :=
  ∃ s, lo ≤ s ∧ s ≤ cs.length ∧
    ((∃ pb f', e = .returned (.tuple #[.pointer (some ⟨pb, 0, none⟩), .int .i64 0]) ∧ (f < 0 → f' = f) ∧ (∃ K J, Pgr w' pb db skip N (cs.take s) s f' K ∧ Rpg w' rb N (skip - 1) ct J ∧ Sep (fun _ => False) w w' K J ∧ SameC (cs.take s) (ct.take s) ∧ s ≤ ct.length)) ∨
     (e = .returned (.tuple #[.pointer none, .int .i64 10]) ∧ 0 ≤ f ∧ LV w w' db rb skip N (cs.take s) ct s ∧ Calls Tryz.prog 36 #[.pointer (some ⟨db, 0, none⟩)] w' (fun e w'' => e = .returned (.bool true) ∧ w' = w'')))
theorem LC.open (h : LC w wr db rb skip N cs ct lo f) (h2s : 2 ≤ skip) (hN : 1 ≤ N) (skI : Int) (hsk : skI = (skip : Nat)) :
    Calls Tryz.prog 29 #[.pointer (some ⟨db, 0, none⟩), .int .i64 skI] wr fun e w' => LO w db rb skip N cs ct lo f e w' := by
  obtain ⟨D, K, J, T, s, st, h1, h2, h3, h4, h5, h6, h7, h8, h9⟩ := h
  have hsl : s ≤ cs.length := h2.high
  refine (qopen_ok h1 h2 h2s hN h9 skI hsk).mono ?_
  rintro e w' (⟨pb, K', f', rfl, hp, hf, hft⟩ | ⟨D', F', rfl, hd, hdd, hsf, hft, hf⟩)
  · exact ⟨s, h3, hsl, .inl ⟨pb, f', rfl, fun h => (hf (by omega)).trans h4, K', J, hp, h5.upd hft.upd h6.jk, h6.left hft hp.lt, h7.cut hsl, by omega⟩⟩
  · refine ⟨s, h3, hsl, .inr ⟨rfl, by omega, ⟨D', F', J, hd, hsf, h5.upd hft.upd h6.jk, h6.left hft hd.lt, ?_, ?_, fun c hc => h9 c (List.mem_of_mem_take hc)⟩, ?_⟩⟩
    · rw [List.length_take, Nat.min_eq_left hsl]
      exact h7.cut hsl
    · rw [List.length_take]; omega
    · have := dead_disk hd
      rw [hdd] at this
      exact this
/-- The pager as its disk. -/
theorem Pgr.lv {K J : Nat → Prop} (h : Pgr wr pb db skip N cs sy f K) (hr : Rpg wr rb N (skip - 1) ct J) (hs : Sep (fun _ => False) w wr K J) (hc : SameC cs (ct.take cs.length)) (hl : cs.length ≤ ct.length) : LV w wr db rb skip N cs ct sy := by
  obtain ⟨D, G, T, st, d1, d2, d3, d4, d5⟩ := h.opb
  exact ⟨D, G, J, d1, d4, hr, ⟨hs.upd, fun q hq => hs.k q (d2 q hq), hs.j, fun q hq => hs.kl q (d2 q hq), hs.jl⟩, hc, hl, h.ok.1⟩
theorem SameC.whole (h : SameC cs ct) : SameC cs (ct.take cs.length) := by rw [h.1, List.take_length]; exact h
theorem TT.lv (h : TT (fun _ => False) w wr tb pb db xb rb skip N cs ct ds l sy f) : LV w wr db rb skip N cs ct sy := by
  obtain ⟨K, J, h1, h2, h3, h4, h5⟩ := h
  have hok := h1.ok.2.1
  obtain ⟨mb, lb, fb, L, D, es, F, T, g1, g2, g3, g4, g5, rfl⟩ := h1
  obtain ⟨G, hG, hGF⟩ := g1.pg.wal.disk
  have hs := g2.safe
  rw [g4] at hs
  have hGK : ∀ q, G q → ownTx tb mb pb fb F q := fun q hq => .inr (.inr (.inr (.inr (hGF q hq))))
  exact ⟨D, G, J, hG, hs, h2.pg, ⟨h3.upd, fun q hq => h3.k q (hGK q hq), h3.j, fun q hq => h3.kl q (hGK q hq), h3.jl⟩, h5.whole, by have := h5.1; omega, hok⟩
theorem PD.lv {l : List Img} (h : PD (fun _ => False) w wr pb db rb skip N cs (ct ++ l) lo) (hc : SameC cs ct) : LV w wr db rb skip N cs (ct ++ l) lo := by
  obtain ⟨K, J, h1, h2, h3⟩ := h
  obtain ⟨lb, fb, L, D, es, F, ot, g1, g2, g3, g4, g5, rfl⟩ := h1
  obtain ⟨G, hG, hGF⟩ := g1.wal.disk
  have hGK : ∀ q, G q → ownP pb fb F q := fun q hq => .inr (.inr (hGF q hq))
  refine ⟨D, G, J, hG, g3, h2, ⟨h3.upd, fun q hq => h3.k q (hGK q hq), h3.j, fun q hq => h3.kl q (hGK q hq), h3.jl⟩, ?_, ?_, g5⟩
  · rw [List.take_append_of_le_length (by have := hc.1; omega)]
    exact hc.whole
  · rw [List.length_append]; have := hc.1; omega
theorem TT.base {G : Nat → Prop} {w1 : World} (h : TT G w1 wr tb pb db xb rb skip N cs ct ds l sy f) (hu : Upd (fun _ => False) w w1) (hG : ∀ q, G q → w.heap.size ≤ q) : TT (fun _ => False) w wr tb pb db xb rb skip N cs ct ds l sy f :=
  let ⟨K, J, h1, h2, h3, h4⟩ := h; ⟨K, J, h1, h2, h3.base hu hG, h4⟩
theorem PD.base {G : Nat → Prop} {w1 : World} (h : PD G w1 wr pb db rb skip N cs ct lo) (hu : Upd (fun _ => False) w w1) (hG : ∀ q, G q → w.heap.size ≤ q) : PD (fun _ => False) w wr pb db rb skip N cs ct lo :=
  let ⟨K, J, h1, h2, h3⟩ := h; ⟨K, J, h1, h2, h3.base hu hG⟩
/-- A pager and the answer's, looked at from where they stand. -/
theorem PP.start (h : PP (fun _ => False) w wr pb db rb skip N cs ct sy f) : ∃ G, PP G wr wr pb db rb skip N cs ct sy f ∧ (∀ q, G q → w.heap.size ≤ q ∧ q < wr.heap.size) := by
  obtain ⟨K, J, h1, h2, h3, h4⟩ := h
  refine ⟨_, ⟨K, J, h1, h2, h3.start, h4⟩, fun q hq => ?_⟩
  rcases hq with e | e
  · exact ⟨(h3.k q e).1.elim (fun e => e.elim) id, h3.kl q e⟩
  · exact ⟨(h3.j q e).elim (fun e => e.elim) id, h3.jl q e⟩
theorem PP.move {G : Nat → Prop} {w1 : World} (h : PP G wr wr pb db rb skip N cs ct sy f) (hu : Upd (fun _ => False) wr w1) : PP G w1 w1 pb db rb skip N cs ct sy f := by
  obtain ⟨K, J, h1, h2, h3, h4⟩ := h
  have hk : ∀ q, K q → G q := fun q hq => (h3.k q hq).1.elim id (fun e => by have := h3.kl q hq; omega)
  have hj : ∀ q, J q → G q := fun q hq => (h3.j q hq).elim id (fun e => by have := h3.jl q hq; omega)
  exact ⟨K, J, h1.upd hu (fun _ _ h => h), h2.upd hu (fun _ _ h => h), ⟨Upd.refl _ _, fun q hq => ⟨.inl (hk q hq), (h3.k q hq).2⟩, fun q hq => .inl (hj q hq), fun q hq => Nat.lt_of_lt_of_le (h3.kl q hq) hu.size, fun q hq => Nat.lt_of_lt_of_le (h3.jl q hq) hu.size⟩, h4⟩
/-- Dead. -/
theorem TT.dead {G : Nat → Prop} (h : TT G w wr tb pb db xb rb skip N cs ct ds l sy f) : Calls Tryz.prog 36 #[.pointer (some ⟨db, 0, none⟩)] wr fun e w' => e = .returned (.bool false) ∧ wr = w' := by
  obtain ⟨K, J, h1, h2, h3, h4, h5⟩ := h
  obtain ⟨mb, lb, fb, L, D, es, F, T, g1, g2, g3, g4, g5, rfl⟩ := h1
  obtain ⟨G, hG, hGF⟩ := g1.pg.wal.disk
  have := dead_disk hG
  rw [g2.inv.live] at this
  exact this
theorem PD.dead {G : Nat → Prop} (h : PD G w wr pb db rb skip N cs ct lo) : Calls Tryz.prog 36 #[.pointer (some ⟨db, 0, none⟩)] wr fun e w' => e = .returned (.bool true) ∧ wr = w' := by
  obtain ⟨K, J, h1, h2, h3⟩ := h
  obtain ⟨lb, fb, L, D, es, F, ot, g1, g2, g3, g4, g5, rfl⟩ := h1
  obtain ⟨G, hG, hGF⟩ := g1.wal.disk
  have := dead_disk hG
  rw [g2] at this
  exact this
/-- Fuel, a pager on the disk. -/
theorem PP.fuel {G : Nat → Prop} (h : PP G w wr pb db rb skip N cs ct sy f) (n : Nat) (hn : n ≤ 255) :
    Calls Tryz.prog 30 #[.pointer (some ⟨db, 0, none⟩), .int .i64 (n : Nat)] wr fun e w' => e = .returned (.tuple #[]) ∧ PP G w w' pb db rb skip N cs ct sy n := by
  obtain ⟨K, J, h1, h2, h3, h4⟩ := h
  obtain ⟨lb, fb, L, D, es, F, T, g1, g2, g3, g4, rfl⟩ := h1
  obtain ⟨G, hG, hGF, hpost⟩ := g1.wal.onDisk
  refine (fuel_disk hG n (by omega)).mono ?_
  rintro e w' ⟨rfl, hd, hu⟩
  obtain ⟨F', p1, p2⟩ := g1.step (hpost w' (D.setFuel n) G hd hu (fun q hq => .inl hq))
  refine ⟨rfl, ownP pb fb F', J, ⟨lb, fb, L, D.setFuel n, es, F', T, p1, g2.fuel n, g3, ?_, rfl⟩, h2.upd p2.upd h3.jk, h3.left p2 p1.lt, h4⟩
  show max (n : Int) (-1) = n
  omega
/-- The answer's commits cut. -/
theorem Rpg.cut {J : Nat → Prop} {s rg : Nat} (h : Rpg wr rb N rg ct J) (hs : s ≤ ct.length) : ∃ (x : Option Addr) (c : Nat), wr.cell? ⟨rb, 2, none⟩ = some (.slice x ct.length c) ∧ ct.length ≤ c ∧ wr.frozen? ⟨rb, 2, none⟩ = false ∧ J rb ∧ (∀ w1, Upd (fun _ => False) wr w1 → Rpg (w1.setCell ⟨rb, 2, none⟩ (.slice x s c)) rb N rg (ct.take s) J) := by
  obtain ⟨x, c, vs, A, h1, h2, h3⟩ := h
  have hlen : (ct.take s).length = s := by rw [List.length_take]; omega
  have hcl : ct.length ≤ c := by
    obtain ⟨_, ⟨e, e2⟩ | ⟨g, o, cap, e, e1, _⟩⟩ := h1.mid
    · simp only [Value.slice.injEq] at e; omega
    · simp only [Value.slice.injEq] at e; omega
  refine ⟨x, c, h1.cells.cell 2, hcl, h1.cells.frozen 2, h2 _ (.inl rfl), fun w1 hu => ?_⟩
  have k1 := h1.upd hu (fun _ _ h => h)
  have hus : Upd (fun q => q = rb) w1 (w1.setCell ⟨rb, 2, none⟩ (.slice x s c)) := upd_set 2 _ (Upd.refl _ _)
  obtain ⟨m1, m2⟩ := k1.mid.cut k1.whole hs
  rw [Nat.mul_one] at m1
  have hne : ∀ q, (Value.slice x s c).ownBlock = some q → (Value.slice x ct.length c).ownBlock = some q := fun q hq => by cases x <;> exact hq
  refine ⟨x, c, vs.take s, A, ⟨?_, ?_, ?_, (k1.rows.take s).upd hus (fun q hq e => k1.na (e ▸ hq)), ?_, k1.na, fun p hp => k1.okC p (List.mem_of_mem_take hp), fun q hq => Nat.lt_of_lt_of_le (k1.alt q hq) hus.size⟩, ?_, fun q hq => Nat.lt_of_lt_of_le (h3 q hq) (Nat.le_trans hu.size hus.size)⟩
  · rw [hlen]; exact k1.cells.set 2 _
  · rw [hlen]; exact m1.upd hus (fun q hq e => (k1.nb q (hne q hq)).1 e)
  · rw [hlen]; exact m2.upd hus (fun q hq e => (k1.nb q (hne q hq)).1 e) m1.lt
  · rw [hlen]; exact fun q hq => k1.nb q (hne q hq)
  · rintro q (hq | hq | hq)
    · exact h2 q (.inl hq)
    · rw [hlen] at hq; exact h2 q (.inr (.inl (hne q hq)))
    · exact h2 q (.inr (.inr hq))
end
end Go.Proofs.YtihlijnobbonbaaGreat
