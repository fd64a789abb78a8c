/- docketlaw04: scripts; what a disk holds behind a crash. -/
import Derived.Test.YtihlijnobbonbaaGreatPb1
import Derived.Test.YtihlijnobbonbaaGreatPagerMakes
namespace Go.Proofs.YtihlijnobbonbaaGreat
open Go Go.RowKit
set_option linter.unusedSimpArgs false
set_option linter.unusedVariables false
set_option maxRecDepth 100000

section
variable {P : Program} {ops : Array Oper} {Q : Exit → Act → World → Prop} {rest : List Oper} {dst : Option Tmp} {ty : TypeId} {pos : String} {aft : Array Edge} {a : Act} {w : World} {gd : Option (Nat × Bool)}
/-- []byte(s), under a guard. -/
theorem wpl_string_bytesG {src dst' : TypeId} {x : Operand} (e : TypeId) (s : ByteArray) (hs : P.underlying src = some .string) (hd : P.underlying dst' = some (.slice e)) (he : P.underlying e = some (.int .u8)) (hx : a.eval x = .string s) (hm : s.size ≤ maxLen)
    (hw : Region.wanted (⟨dst, .convert src dst' x, ty, pos, aft, gd⟩ : Oper) (yielded ops a.tmps) = true)
    (h : ∀ c w', Upd (fun _ => False) w w' → w'.heap.size = w.heap.size + 1 → Sees w' 1 (.slice (some ⟨w.heap.size, 0, none⟩) s.size c) s.size (bvs s.data.toList) → wpList P ops Q rest (a.put dst (.slice (some ⟨w.heap.size, 0, none⟩) s.size c)) w') :
    wpList P ops Q (⟨dst, .convert src dst' x, ty, pos, aft, gd⟩ :: rest) a w := by
  refine wpList_step fun K hK => ?_
  rw [if_pos hw]
  obtain ⟨c, w', hr, h1, h2, h3, _⟩ := run_string_bytes (P := P) src dst' e s hs hd he hm w
  unfold Oper.wp execOp
  simp only [hx, Sem.run_bind, hr, Result.andThen_ok, Sem.run_pure]
  exact hK _ _ (h c w' h1 h2 h3)
end
/-- An Op of chapter 4. -/
structure POp where
  kind : Nat
  b : Int
  data : ByteArray
instance : Inhabited POp := ⟨⟨0, 0, ByteArray.empty⟩⟩
def popV (o : POp) : List Value := [.int .u8 o.kind, .int .i64 o.b, .string o.data]
theorem popV_length (o : POp) : (popV o).length = 3 := rfl
structure POp.Ok (o : POp) : Prop where
  kind : o.kind ≤ 255
  lo : -9223372036854775808 ≤ o.b
  hi : o.b ≤ 9223372036854775807
  data : o.data.size ≤ maxLen
/-- A script. -/
def PopsAt (W : World) (x : Option Addr) (c : Nat) (l : List POp) : Prop :=
  Sees W 3 (.slice x l.length c) l.length (l.flatMap popV) ∧ (∀ o ∈ l, o.Ok) ∧ (∀ y, x = some y → 0 < l.length → y.block < W.heap.size)
theorem pop_at {w : World} {xa : Option Addr} {xc : Nat} {l : List POp} (h : Sees w 3 (.slice xa l.length xc) l.length (l.flatMap popV)) (k : Nat) (hk : k < l.length) :
    ∃ xb xo, xa = some ⟨xb, xo, none⟩ ∧ w.rangeAt xb (xo + k * 3) (popV l[k]) := by
  obtain ⟨_, _, x, c, hx, hc⟩ := h
  cases hx
  obtain ⟨b, o, rfl, hr⟩ := hc (by omega)
  exact ⟨b, o, rfl, rangeAt.sub (w := w) (b := b) (off := o) hr (k * 3) (by rw [popV_length]; exact flat_piece popV 3 l k hk (fun x _ => rfl))⟩
theorem Sees.one {w : World} {n c : Nat} {xo : Option Addr} {xs : List Value} (h : Sees w 1 (.slice xo n c) n xs) (k : Nat) (hk : k < n) {v : Value} (hv : xs[k]? = some v) :
    ∃ g o, xo = some ⟨g, o, none⟩ ∧ w.cell? ⟨g, o + k, none⟩ = some v := by
  obtain ⟨_, _, x, c, hx, hc⟩ := h
  cases hx
  obtain ⟨b, o, rfl, hr⟩ := hc (by omega)
  exact ⟨b, o, rfl, hr k v hv⟩
/-- A disk that Open takes up, commits up to s. -/
structure Opb (D : DSt) (skip N : Nat) (cs : List Img) (T s st : Nat) : Prop where
  dead : D.dead = false
  wt : D.waits.length < 1000000
  secs : D.secs.length = skip + N
  good : Good D.secs 0 skip st (T + 1) s (seg (cs.map encC) T s)
  ws : ∀ p ∈ D.waits, p.1 < skip ∧ p.1 ≠ 0 ∧ ∀ i, i < needsB (seg (cs.map encC) T s) → p.1 ≠ ringAt 0 skip (st + i)
  home : HomeOK D.secs skip N T s cs
  low : T ≤ s
  high : s ≤ cs.length
theorem Pgr.opb {w : World} {pb db skip N sy : Nat} {cs : List Img} {f : Int} {K : Nat → Prop} (h : Pgr w pb db skip N cs sy f K) :
    ∃ (D : DSt) (G : Nat → Prop) (T st : Nat), DiskAt w db D G ∧ (∀ q, G q → K q) ∧ Opb D skip N cs T sy st ∧ SafeP D skip N cs sy ∧ D.fuel = f := by
  obtain ⟨lb, fb, L, D, es, F, T, h1, h2, h3, h4, rfl⟩ := h
  obtain ⟨G, hG, hGF⟩ := h1.wal.disk
  have h5 := h2.wl
  have h6 := h2.inv.ok.used
  have h7 := h2.n
  have h8 := hG.1.most
  have h9 := h2.secs
  have h10 := h2.inv.waits
  have h11 := h2.inv.good
  have h12 := h2.inv.high
  have h13 := h2.inv.low
  have h14 := h2.safe
  rw [List.length_map] at h12
  rw [h2.fr, h2.n, h3] at h10 h11
  rw [h3] at h14
  exact ⟨D, G, T, L.start, hG, fun q hq => .inr (.inr (hGF q hq)), ⟨h2.inv.live, by omega, h9, h11, fun p hp => ⟨h2.wr p hp, h10 p hp⟩, h2.home.weak _, by omega, by omega⟩, h14, h4⟩
theorem SafeP.crash {D : DSt} {skip N lo : Nat} {cs : List Img} (h : SafeP D skip N cs lo) (keep : List Bool) : ∃ T s st, lo ≤ s ∧ Opb (D.crash keep) skip N cs T s st := by
  obtain ⟨T, s, h1, ⟨h2, h3, st, h4⟩, h5⟩ := h.2 keep
  rw [List.length_map] at h3
  exact ⟨T, s, st, h1, rfl, by show (0 : Nat) < _; decide, by show (done _ _).length = _; rw [done_length]; exact h.1, h4, fun p hp => (by cases hp), h5, h2, h3⟩
theorem qopen_ok {w : World} {db : Nat} {D : DSt} {F0 : Nat → Prop} {skip N T s st : Nat} {cs : List Img} (hD : DiskAt w db D F0) (ho : Opb D skip N cs T s st) (h2 : 2 ≤ skip) (hN : 1 ≤ N) (hok : ∀ c ∈ cs, EsOk N c) (skI : Int) (hsk : skI = (skip : Nat)) :
    Calls Tryz.prog 29 #[.pointer (some ⟨db, 0, none⟩), .int .i64 skI] w fun e w' => OpnPost w db D F0 skip N cs s e w' := by
  subst hsk
  exact popen_ok hD ho.dead ho.wt skip N T s st cs ho.low ho.high h2 hN ho.secs ho.good ho.ws ho.home hok
end Go.Proofs.YtihlijnobbonbaaGreat
