/- docketlaw05.SpacePlays: what is kept in its loop. -/
import Derived.Test.YtndhcimepgcfaaaSr4
namespace Go.Proofs.Ytndhcimepgcfaaa
open Go Go.RowKit
set_option linter.unusedSimpArgs false
set_option linter.unusedVariables false
set_option maxRecDepth 100000
section
variable {P : Program} {ops : Array Oper} {Q : Exit → Act → World → Prop} {rest : List Oper} {dst : Option Tmp} {ty : TypeId} {pos : String} {aft : Array Edge} {a : Act} {w : World} {K : Act → World → Prop} {next : Act → Prop}
theorem gives_bytes_stringG {gd : Option (Nat × Bool)} {src sty : TypeId} {x : Operand} (e : TypeId) (v : Value) (bs : List UInt8) (hs : P.underlying src = some (.slice e)) (he : P.underlying e = some (.int .u8)) (hd : P.underlying sty = some .string)
    (hx : a.eval x = v) (hv : Sees w 1 v bs.length (bvs bs)) (h : next (a.put dst (.string (strV bs)))) : Oper.gives P (⟨dst, .convert src sty x, ty, pos, aft, gd⟩ : Oper) a w next := by
  subst hx
  unfold Oper.gives execOp
  simp only [Sem.run_bind, run_bytes_string src e sty hs he hd _ bs hv, Result.andThen_ok, Sem.run_pure, Oper.givesUpon_value]
  exact h
end
/-- An Op of chapter 5. -/
structure SOp where
  kind : Nat
  b : Int
instance : Inhabited SOp := ⟨⟨0, 0⟩⟩
def sopV (o : SOp) : List Value := [.int .u8 o.kind, .int .i64 o.b]
theorem sopV_length (o : SOp) : (sopV o).length = 2 := rfl
structure SOp.Ok (o : SOp) : Prop where
  kind : o.kind ≤ 255
  lo : -9223372036854775808 ≤ o.b
  hi : o.b ≤ 9223372036854775807
/-- A script. -/
def SopsAt (W : World) (x : Option Addr) (c : Nat) (l : List SOp) : Prop :=
  Sees W 2 (.slice x l.length c) l.length (l.flatMap sopV) ∧ (∀ o ∈ l, o.Ok) ∧ (∀ y, x = some y → 0 < l.length → y.block < W.heap.size)
theorem sop_at {w : World} {xa : Option Addr} {xc : Nat} {l : List SOp} (h : Sees w 2 (.slice xa l.length xc) l.length (l.flatMap sopV)) (k : Nat) (hk : k < l.length) :
    ∃ xb xo, xa = some ⟨xb, xo, none⟩ ∧ w.rangeAt xb (xo + k * 2) (sopV l[k]) := by
  obtain ⟨_, _, x, c, hx, hc⟩ := h
  cases hx
  obtain ⟨b, o, rfl, hr⟩ := hc (by omega)
  exact ⟨b, o, rfl, rangeAt.sub (w := w) (b := b) (off := o) hr (k * 2) (by rw [sopV_length]; exact flat_piece sopV 2 l k hk (fun x _ => rfl))⟩
/-- The map, and the answer's. -/
structure PlaysS (w wr : World) (tb pb mb db lb fb N m rb nb ob nc oc : Nat) (ot : Option Addr) (D : DSt) (es : List (Int × Bytes)) (G : Nat → Prop) (now old : Bytes) : Prop where
  tx : TxS wr tb pb mb db lb fb 4 3 N ot D es G
  map : MapS wr m N now old
  ref : RefM wr rb nb ob N nc oc (hasB now) (hasB old)
  good : GoodM N now
  upd : Upd (fun _ => False) w wr
  lo : w.heap.size ≤ m
  far : ¬ ownT tb pb mb G m
  own : ∀ q, ownT tb pb mb G q → w.heap.size ≤ q
  rown : ∀ q, ownM rb nb ob q → w.heap.size ≤ q ∧ q ≠ m ∧ ¬ ownT tb pb mb G q
section
variable {w wr w1 w2 : World} {tb pb mb db lb fb N m rb nb ob nc oc : Nat} {ot : Option Addr} {D : DSt} {es : List (Int × Bytes)} {G : Nat → Prop} {now old : Bytes}
theorem PlaysS.step (h : PlaysS w wr tb pb mb db lb fb N m rb nb ob nc oc ot D es G now old) (hu : Upd (fun _ => False) wr w1) : PlaysS w w1 tb pb mb db lb fb N m rb nb ob nc oc ot D es G now old :=
  ⟨h.tx.upd hu (fun _ _ h => h), h.map.upd hu (fun h => h), h.ref.upd hu (fun _ _ h => h), h.good, h.upd.trans hu, h.lo, h.far, h.own, h.rown⟩
/-- Both have changed: the map, then the answer's. -/
theorem PlaysS.turn (h : PlaysS w wr tb pb mb db lb fb N m rb nb ob nc oc ot D es G now old) {now' : Bytes} (hM : MapS w1 m N now' old) (hu1 : Upd (fun q => q = m) wr w1)
    (hR : RefM w2 rb nb ob N nc oc (hasB now') (hasB old)) (hu2 : Upd (fun q => q = nb) w1 w2) (hg : GoodM N now') : PlaysS w w2 tb pb mb db lb fb N m rb nb ob nc oc ot D es G now' old := by
  have hn := h.rown nb (.inr (.inl rfl))
  have hlo := h.lo
  exact ⟨(h.tx.upd hu1 (fun q hq e => h.far (e ▸ hq))).upd hu2 (fun q hq e => hn.2.2 (e ▸ hq)), hM.upd hu2 (fun e => hn.2.1 e.symm), hR, hg, (h.upd.then hu1 (fun q hq => .inr (by omega))).then hu2 (fun q hq => .inr (by omega)), h.lo, h.far, h.own, h.rown⟩
theorem PlaysS.ref1 (h : PlaysS w wr tb pb mb db lb fb N m rb nb ob nc oc ot D es G now old) (hu : Upd (fun q => q = m) wr w1) : RefM w1 rb nb ob N nc oc (hasB now) (hasB old) :=
  h.ref.upd hu (fun q hq e => (h.rown q hq).2.1 e)
def RTakePost (w : World) (rb nb ob N nc oc : Nat) (f g : Nat → Bool) (a r : Int) (w' : World) : Prop :=
  (∃ b : Nat, b < N ∧ f b = false ∧ g b = false ∧ (∀ c, c < b → f c = true ∨ g c = true) ∧ a = b ∧ r = 0 ∧ RefM w' rb nb ob N nc oc (turnF f b true) g ∧ Upd (fun q => q = nb) w w') ∨
  ((∀ c, c < N → f c = true ∨ g c = true) ∧ a = 0 ∧ r = 12 ∧ w = w')
theorem rtake_ok' {f g : Nat → Bool} (h : RefM w rb nb ob N nc oc f g) (hN : N ≤ 4096) : Calls Try.prog 17 #[.pointer (some ⟨rb, 0, none⟩)] w fun e w' => ∃ a r, e = .returned (.tuple #[.int .i64 a, .int .i64 r]) ∧ RTakePost w rb nb ob N nc oc f g a r w' := by
  refine (rtake_ok h hN).mono ?_
  rintro e w' (⟨b, h1, h2, h3, h4, rfl, h5, h6⟩ | ⟨h1, rfl, rfl⟩)
  · exact ⟨_, _, rfl, .inl ⟨b, h1, h2, h3, h4, rfl, rfl, h5, h6⟩⟩
  · exact ⟨_, _, rfl, .inr ⟨h1, rfl, rfl, rfl⟩⟩
theorem TakePost.foot {a r : Int} (h : TakePost w m N now old a r w1) : Upd (fun q => q = m) w w1 := by
  rcases h with ⟨b, _, _, _, _, _, _, hu⟩ | ⟨_, _, _, hu⟩
  · exact hu
  · exact hu.mono (fun _ _ h => h.elim)
theorem FreePost.foot {b r : Int} (h : FreePost w m N now old b r w1) : Upd (fun q => q = m) w w1 := by
  rcases h with ⟨_, _, rfl⟩ | ⟨_, _, _, _, hu⟩
  · exact Upd.refl _ _
  · exact hu
theorem RFreePost.foot {f g : Nat → Bool} {b r : Int} (h : RFreePost w rb nb ob N nc oc f g b r w1) : Upd (fun q => q = nb) w w1 := by
  rcases h with ⟨_, _, rfl⟩ | ⟨_, _, _, _, _, hu⟩
  · exact Upd.refl _ _
  · exact hu
theorem good_set (hl : now.length = 512) (h : GoodM N now) {b : Nat} (hb : b < N) (hN : N ≤ 4096) : GoodM N (setB now b) := by
  refine ⟨?_, ?_, fun c h1 h2 => ?_⟩
  · rw [has_set now hl b 0 (by omega), h.1]; simp
  · rw [has_set now hl b 1 (by omega), h.2.1]; simp
  · rw [has_set now hl b c (by omega), h.2.2 c h1 h2]; simp; omega
theorem good_cut (hl : now.length = 512) (h : GoodM N now) {b : Nat} (h2 : 2 ≤ b) (hb : b < 4096) : GoodM N (cutB now b) := by
  refine ⟨?_, ?_, fun c h1 h2 => ?_⟩
  · rw [has_cut now hl b 0 hb, h.1]; simp; omega
  · rw [has_cut now hl b 1 hb, h.2.1]; simp; omega
  · rw [has_cut now hl b c hb, h.2.2 c h1 h2]; simp
theorem PlaysS.take (h : PlaysS w wr tb pb mb db lb fb N m rb nb ob nc oc ot D es G now old) (hN : N ≤ 4096) {a r a' r' : Int} (hp : TakePost wr m N now old a r w1) (hq : RTakePost w1 rb nb ob N nc oc (hasB now) (hasB old) a' r' w2) :
    a = a' ∧ r = r' ∧ ∃ now', PlaysS w w2 tb pb mb db lb fb N m rb nb ob nc oc ot D es G now' old := by
  have key : ∀ c, Free2 now old c = true ↔ hasB now c = false ∧ hasB old c = false := fun c => by simp [Free2]
  have key2 : ∀ c, Free2 now old c = false ↔ hasB now c = true ∨ hasB old c = true := fun c => by
    simp only [Free2]
    cases hasB now c <;> cases hasB old c <;> simp
  rcases hp with ⟨b, h1, h2, h3, rfl, rfl, hM, hu⟩ | ⟨h1, rfl, rfl, hu⟩
  · rcases hq with ⟨b', k1, k2, k3, k4, rfl, rfl, hR, hu2⟩ | ⟨k1, rfl, rfl, rfl⟩
    · have e : b = b' := by
        rcases Nat.lt_trichotomy b b' with hlt | he | hgt
        · have := k4 b hlt
          have := (key b).1 h2
          simp_all
        · exact he
        · have := (key2 b').1 (h3 b' hgt)
          simp_all
      subst e
      refine ⟨rfl, rfl, _, h.turn hM hu (hR.congr (fun c hc => ?_) (fun c _ => rfl)) hu2 (good_set h.map.l1 h.good h1 hN)⟩
      rw [has_set now h.map.l1 b c (by omega), turnF]
      by_cases e : c = b <;> simp [e]
    · have := k1 b h1
      have := (key b).1 h2
      simp_all
  · rcases hq with ⟨b', k1, k2, k3, k4, rfl, rfl, hR, hu2⟩ | ⟨k1, rfl, rfl, rfl⟩
    · have := (key2 b').1 (h1 b' k1)
      simp_all
    · exact ⟨rfl, rfl, _, h.step hu⟩
theorem PlaysS.free (h : PlaysS w wr tb pb mb db lb fb N m rb nb ob nc oc ot D es G now old) (hN : N ≤ 4096) {b r r' : Int} (hp : FreePost wr m N now old b r w1) (hq : RFreePost w1 rb nb ob N nc oc (hasB now) (hasB old) b r' w2) :
    r = r' ∧ ∃ now', PlaysS w w2 tb pb mb db lb fb N m rb nb ob nc oc ot D es G now' old := by
  rcases hp with ⟨h1, rfl, rfl⟩ | ⟨h1, h2, rfl, hM, hu⟩
  · rcases hq with ⟨k1, rfl, rfl⟩ | ⟨k1, k2, k3, rfl, hR, hu2⟩
    · exact ⟨rfl, _, h⟩
    · exfalso
      rcases h1 with h1 | h1
      · omega
      · simp [hasM, k3] at h1
        have := h1 (by omega)
        omega
  · simp [hasM] at h2
    obtain ⟨⟨h3, h4⟩, h5⟩ := h2
    rcases hq with ⟨k1, rfl, rfl⟩ | ⟨k1, k2, k3, rfl, hR, hu2⟩
    · exfalso
      rcases k1 with k1 | k1 | k1
      · omega
      · omega
      · simp_all
    · have hb : b.toNat < 4096 := by omega
      refine ⟨rfl, _, h.turn hM hu (hR.congr (fun c hc => ?_) (fun c _ => rfl)) hu2 (good_cut h.map.l1 h.good (by omega) hb)⟩
      rw [has_cut now h.map.l1 _ c hb, turnF]
      by_cases e : c = b.toNat <;> simp [e]
theorem PlaysS.stored (h : PlaysS w wr tb pb mb db lb fb N m rb nb ob nc oc ot D es G now old) {es' : List (Int × Bytes)} (hT : TxS w1 tb pb mb db lb fb 4 3 N ot D es' G) (hu : Upd (fun q => q = mb) wr w1) : PlaysS w w1 tb pb mb db lb fb N m rb nb ob nc oc ot D es' G now old := by
  have hmb : ownT tb pb mb G mb := .inr (.inr (.inl rfl))
  exact ⟨hT, h.map.upd hu (fun e => h.far (e ▸ hmb)), h.ref.upd hu (fun q hq e => (h.rown q hq).2.2 (e ▸ hmb)), h.good, h.upd.then hu (fun q hq => .inr (by rw [hq]; exact h.own mb hmb)), h.lo, h.far, h.own, h.rown⟩
/-- Stored, and loaded anew. -/
theorem PlaysS.again (h : PlaysS w wr tb pb mb db lb fb N m rb nb ob nc oc ot D es G now old) {m' rb' nb' ob' nc' oc' : Nat} (hM : MapS w1 m' N now now) (hlo : wr.heap.size ≤ m') (hu : Upd (fun _ => False) wr w1) (hA : NewM w1 w2 rb' nb' ob' N nc' oc' (hasB now) (hasB now)) :
    PlaysS w w2 tb pb mb db lb fb N m' rb' nb' ob' nc' oc' ot D es G now now := by
  have z1 := h.upd.size
  have z2 := hu.size
  have z3 := hM.cells.lt
  refine ⟨(h.tx.upd hu (fun _ _ h => h)).upd hA.2.1 (fun _ _ h => h), hM.upd hA.2.1 (fun h => h), hA.1, h.good, (h.upd.trans hu).trans hA.2.1, by omega, fun hq => ?_, h.own, fun q hq => ?_⟩
  · have := h.tx.lt _ hq
    omega
  · have := hA.2.2 q hq
    refine ⟨by omega, by omega, fun ht => ?_⟩
    have := h.tx.lt _ ht
    omega
end
end Go.Proofs.Ytndhcimepgcfaaa
