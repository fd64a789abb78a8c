/- The disk of chapter 2 as plain data. No program here. -/
namespace Go.Proofs.Ytocameknhglklaa

abbrev Bytes := List UInt8
/-- Data and zeros behind it. -/
def pad (l : Bytes) : Bytes := l ++ List.replicate (512 - l.length) 0
theorem pad_length {l : Bytes} (h : l.length ≤ 512) : (pad l).length = 512 := by simp [pad]; omega
def zeros512 : Bytes := List.replicate 512 0
theorem zeros512_length : zeros512.length = 512 := List.length_replicate

structure DSt where
  secs : List Bytes
  waits : List (Nat × Bytes)
  fuel : Int
  dead : Bool

/-- Writes done, one behind the other. -/
def done (s : List Bytes) (ws : List (Nat × Bytes)) : List Bytes := ws.foldl (fun s p => s.set p.1 p.2) s
theorem done_length (ws : List (Nat × Bytes)) : ∀ s, (done s ws).length = s.length := by
  induction ws with
  | nil => intro s; rfl
  | cons p r ih => intro s; rw [done, List.foldl_cons]; exact (ih _).trans (by simp)
theorem done_append (s : List Bytes) (a b : List (Nat × Bytes)) : done s (a ++ b) = done (done s a) b := by simp [done]

structure DSt.Ok (D : DSt) : Prop where
  one : 1 ≤ D.secs.length
  most : D.secs.length ≤ 4096
  secs : ∀ x ∈ D.secs, x.length = 512
  waits : ∀ p ∈ D.waits, p.1 < D.secs.length ∧ p.2.length = 512
  fuel : -1 ≤ D.fuel
  fuelMax : D.fuel ≤ 9223372036854775807

theorem done_ok {s : List Bytes} {ws : List (Nat × Bytes)} (hs : ∀ x ∈ s, x.length = 512) (hw : ∀ p ∈ ws, p.2.length = 512) : ∀ x ∈ done s ws, x.length = 512 := by
  induction ws generalizing s with
  | nil => exact hs
  | cons p r ih =>
    rw [done, List.foldl_cons]
    refine ih (fun x hx => ?_) (fun q hq => hw q (List.mem_cons_of_mem _ hq))
    rcases List.mem_or_eq_of_mem_set hx with h | h
    · exact hs x h
    · rw [h]; exact hw p (List.mem_cons_self ..)

def DSt.new (n : Int) : DSt := ⟨List.replicate (min (max n 1) 4096).toNat zeros512, [], -1, false⟩
/-- The fuel behind one write or flush that is done. -/
def burnt (f : Int) : Int := if 0 < f then f - 1 else f
def DSt.write (D : DSt) (i : Int) (data : Bytes) : DSt × Int :=
  if D.dead then (D, 10)
  else if i < 0 ∨ (D.secs.length : Int) ≤ i then (D, 1)
  else if 512 < data.length then (D, 1)
  else if D.fuel = 0 then ({ D with dead := true }, 10)
  else ({ D with waits := D.waits ++ [(i.toNat, pad data)], fuel := burnt D.fuel }, 0)
def DSt.flush (D : DSt) : DSt × Int :=
  if D.dead then (D, 10)
  else if D.fuel = 0 then ({ D with dead := true }, 10)
  else ({ D with secs := done D.secs D.waits, waits := [], fuel := burnt D.fuel }, 0)
/-- What is kept of the writes that wait. -/
def kept : List (Nat × Bytes) → List Bool → List (Nat × Bytes)
  | [], _ => []
  | _ :: _, [] => []
  | p :: r, b :: k => if b then p :: kept r k else kept r k
def DSt.crash (D : DSt) (keep : List Bool) : DSt := { D with secs := done D.secs (kept D.waits keep), waits := [], fuel := -1, dead := false }
def DSt.setFuel (D : DSt) (n : Int) : DSt := { D with fuel := max n (-1) }
/-- The last write of a sector in a list, or what was there. -/
def lastOf (ws : List (Nat × Bytes)) (i : Nat) (was : Bytes) : Bytes := ws.foldl (fun b p => if p.1 = i then p.2 else b) was
def DSt.read (D : DSt) (i : Int) : Bytes × Int :=
  if D.dead then ([], 10)
  else if i < 0 ∨ (D.secs.length : Int) ≤ i then ([], 1)
  else (lastOf D.waits i.toNat (D.secs.getD i.toNat []), 0)
def DSt.durable (D : DSt) (i : Int) : Bytes × Int :=
  if i < 0 ∨ (D.secs.length : Int) ≤ i then ([], 1) else (D.secs.getD i.toNat [], 0)

theorem DSt.write_eq {D : DSt} {i : Int} {data : Bytes} (hd : D.dead = false) (h0 : 0 ≤ i) (h1 : i < D.secs.length) (hl : data.length ≤ 512) (hf : D.fuel ≠ 0) :
    D.write i data = ({ D with waits := D.waits ++ [(i.toNat, pad data)], fuel := burnt D.fuel }, 0) := by
  rw [DSt.write, if_neg (by rw [hd]; decide), if_neg (by omega), if_neg (by omega), if_neg hf]
theorem DSt.flush_eq {D : DSt} (hd : D.dead = false) (hf : D.fuel ≠ 0) : D.flush = ({ D with secs := done D.secs D.waits, waits := [], fuel := burnt D.fuel }, 0) := by
  rw [DSt.flush, if_neg (by rw [hd]; decide), if_neg hf]
theorem DSt.read_eq {D : DSt} {i : Int} (hd : D.dead = false) (h0 : 0 ≤ i) (h1 : i < D.secs.length) : D.read i = (lastOf D.waits i.toNat (D.secs.getD i.toNat []), 0) := by
  rw [DSt.read, if_neg (by rw [hd]; decide), if_neg (by omega)]
end Go.Proofs.Ytocameknhglklaa
