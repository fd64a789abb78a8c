/- Disk, sums and log in plain words. No program here. -/
import Derived.Test.YtmefbbmjamdnjaaKBase
set_option linter.unusedSimpArgs false
set_option linter.unusedVariables false
/- The disk of chapter 2 as plain data. No program here. -/
namespace Go.Proofs.Ytmefbbmjamdnjaa

abbrev Bytes := List UInt8
/-- Data and zeros behind it. -/
def pad (l : Bytes) : Bytes := l ++ List.replicate (512 - l.length) 0
theorem pad_length {l : Bytes} (h : l.length ≤ 512) : (pad l).length = 512 := by simp [pad]; omega
def zeros512 : Bytes := List.replicate 512 0
theorem zeros512_length : zeros512.length = 512 := List.length_replicate

structure DSt where
  secs : List Bytes
  waits : List (Nat × Bytes)
  fuel : Int
  dead : Bool

/-- Writes done, one behind the other. -/
def done (s : List Bytes) (ws : List (Nat × Bytes)) : List Bytes := ws.foldl (fun s p => s.set p.1 p.2) s
theorem done_length (ws : List (Nat × Bytes)) : ∀ s, (done s ws).length = s.length := by
  induction ws with
  | nil => intro s; rfl
  | cons p r ih => intro s; rw [done, List.foldl_cons]; exact (ih _).trans (by simp)
theorem done_append (s : List Bytes) (a b : List (Nat × Bytes)) : done s (a ++ b) = done (done s a) b := by simp [done]

structure DSt.Ok (D : DSt) : Prop where
  one : 1 ≤ D.secs.length
  most : D.secs.length ≤ 4096
  secs : ∀ x ∈ D.secs, x.length = 512
  waits : ∀ p ∈ D.waits, p.1 < D.secs.length ∧ p.2.length = 512
  fuel : -1 ≤ D.fuel
  fuelMax : D.fuel ≤ 9223372036854775807

theorem done_ok {s : List Bytes} {ws : List (Nat × Bytes)} (hs : ∀ x ∈ s, x.length = 512) (hw : ∀ p ∈ ws, p.2.length = 512) : ∀ x ∈ done s ws, x.length = 512 := by
  induction ws generalizing s with
  | nil => exact hs
  | cons p r ih =>
    rw [done, List.foldl_cons]
    refine ih (fun x hx => ?_) (fun q hq => hw q (List.mem_cons_of_mem _ hq))
    rcases List.mem_or_eq_of_mem_set hx with h | h
    · exact hs x h
    · rw [h]; exact hw p (List.mem_cons_self ..)

def DSt.new (n : Int) : DSt := ⟨List.replicate (min (max n 1) 4096).toNat zeros512, [], -1, false⟩
/-- The fuel behind one write or flush that is done. -/
def burnt (f : Int) : Int := if 0 < f then f - 1 else f
def DSt.write (D : DSt) (i : Int) (data : Bytes) : DSt × Int :=
  if D.dead then (D, 10)
  else if i < 0 ∨ (D.secs.length : Int) ≤ i then (D, 1)
  else if 512 < data.length then (D, 1)
  else if D.fuel = 0 then ({ D with dead := true }, 10)
  else ({ D with waits := D.waits ++ [(i.toNat, pad data)], fuel := burnt D.fuel }, 0)
def DSt.flush (D : DSt) : DSt × Int :=
  if D.dead then (D, 10)
  else if D.fuel = 0 then ({ D with dead := true }, 10)
  else ({ D with secs := done D.secs D.waits, waits := [], fuel := burnt D.fuel }, 0)
/-- What is kept of the writes that wait. -/
def kept : List (Nat × Bytes) → List Bool → List (Nat × Bytes)
  | [], _ => []
  | _ :: _, [] => []
  | p :: r, b :: k => if b then p :: kept r k else kept r k
def DSt.crash (D : DSt) (keep : List Bool) : DSt := { D with secs := done D.secs (kept D.waits keep), waits := [], fuel := -1, dead := false }
def DSt.setFuel (D : DSt) (n : Int) : DSt := { D with fuel := max n (-1) }
/-- The last write of a sector in a list, or what was there. -/
def lastOf (ws : List (Nat × Bytes)) (i : Nat) (was : Bytes) : Bytes := ws.foldl (fun b p => if p.1 = i then p.2 else b) was
def DSt.read (D : DSt) (i : Int) : Bytes × Int :=
  if D.dead then ([], 10)
  else if i < 0 ∨ (D.secs.length : Int) ≤ i then ([], 1)
  else (lastOf D.waits i.toNat (D.secs.getD i.toNat []), 0)
def DSt.durable (D : DSt) (i : Int) : Bytes × Int :=
  if i < 0 ∨ (D.secs.length : Int) ≤ i then ([], 1) else (D.secs.getD i.toNat [], 0)

theorem DSt.write_eq {D : DSt} {i : Int} {data : Bytes} (hd : D.dead = false) (h0 : 0 ≤ i) (h1 : i < D.secs.length) (hl : data.length ≤ 512) (hf : D.fuel ≠ 0) :
    D.write i data = ({ D with waits := D.waits ++ [(i.toNat, pad data)], fuel := burnt D.fuel }, 0) := by
  rw [DSt.write, if_neg (by rw [hd]; decide), if_neg (by omega), if_neg (by omega), if_neg hf]
theorem DSt.flush_eq {D : DSt} (hd : D.dead = false) (hf : D.fuel ≠ 0) : D.flush = ({ D with secs := done D.secs D.waits, waits := [], fuel := burnt D.fuel }, 0) := by
  rw [DSt.flush, if_neg (by rw [hd]; decide), if_neg hf]
theorem DSt.read_eq {D : DSt} {i : Int} (hd : D.dead = false) (h0 : 0 ≤ i) (h1 : i < D.secs.length) : D.read i = (lastOf D.waits i.toNat (D.secs.getD i.toNat []), 0) := by
  rw [DSt.read, if_neg (by rw [hd]; decide), if_neg (by omega)]
end Go.Proofs.Ytmefbbmjamdnjaa
/- The sums of layer 1, in plain words: the register as 32 bits. -/
namespace Go.Proofs.Ytmefbbmjamdnjaa
set_option linter.unusedSimpArgs false
set_option maxRecDepth 100000

def poly : BitVec 32 := 0x82F63B78#32
/-- One bit's worth. -/
def step1 (r : BitVec 32) : BitVec 32 := if r.getLsbD 0 then (r >>> 1) ^^^ poly else r >>> 1
def steps : Nat → BitVec 32 → BitVec 32
  | 0, r => r
  | n + 1, r => steps n (step1 r)
/-- One byte's worth, as the code has it. -/
def eat (r : BitVec 32) (b : UInt8) : BitVec 32 := steps 8 ((r &&& 255#32) ^^^ BitVec.ofNat 32 b.toNat) ^^^ (r >>> 8)
def regs (r : BitVec 32) (bs : List UInt8) : BitVec 32 := bs.foldl eat r
/-- Update. -/
def updB (s : BitVec 32) (bs : List UInt8) : BitVec 32 := ~~~ (regs (~~~ s) bs)

theorem regs_append (r : BitVec 32) (a b : List UInt8) : regs r (a ++ b) = regs (regs r a) b := by simp [regs]
theorem updB_append (s : BitVec 32) (a b : List UInt8) : updB s (a ++ b) = updB (updB s a) b := by simp [updB, regs_append]
theorem updB_nil (s : BitVec 32) : updB s [] = s := by simp [updB, regs]
theorem regs_take_succ (r : BitVec 32) (bs : List UInt8) (k : Nat) (hk : k < bs.length) : regs r (bs.take (k + 1)) = eat (regs r (bs.take k)) bs[k] := by
  rw [List.take_succ_eq_append_getElem hk, regs_append]; rfl

/-! Straight. -/
theorem step1_xor (x y : BitVec 32) : step1 (x ^^^ y) = step1 x ^^^ step1 y := by
  unfold step1
  rw [BitVec.getLsbD_xor, BitVec.ushiftRight_xor_distrib]
  cases x.getLsbD 0 <;> cases y.getLsbD 0 <;> simp
  · ac_rfl
  · ac_rfl
  · rw [show (x >>> 1 ^^^ poly) ^^^ (y >>> 1 ^^^ poly) = (x >>> 1 ^^^ y >>> 1) ^^^ (poly ^^^ poly) by ac_rfl]; simp
theorem steps_xor : ∀ (n : Nat) (x y : BitVec 32), steps n (x ^^^ y) = steps n x ^^^ steps n y
  | 0, _, _ => rfl
  | n + 1, x, y => by rw [steps, steps, steps, step1_xor, steps_xor n]
theorem step1_zero : step1 0#32 = 0#32 := by decide
theorem steps_zero : ∀ n, steps n 0#32 = 0#32
  | 0 => rfl
  | n + 1 => by rw [steps, step1_zero, steps_zero n]
theorem steps_add : ∀ (m n : Nat) (x : BitVec 32), steps (m + n) x = steps n (steps m x)
  | 0, n, x => by simp [steps]
  | m + 1, n, x => by rw [Nat.succ_add, steps, steps, steps_add m n]
theorem step1_eq_zero {x : BitVec 32} (h : step1 x = 0#32) : x = 0#32 := by
  unfold step1 at h
  cases h0 : x.getLsbD 0 with
  | true =>
    rw [h0, if_pos rfl] at h
    have := congrArg (fun z => z.getLsbD 31) h
    simp [poly, BitVec.getLsbD_xor] at this
  | false =>
    rw [h0] at h
    apply BitVec.eq_of_getLsbD_eq
    intro i hi
    cases i with
    | zero => simpa using h0
    | succ i =>
      have := congrArg (fun z => z.getLsbD i) h
      simp at this
      simp
      rw [Nat.add_comm] at this
      exact this
theorem steps_eq_zero : ∀ (n : Nat) {x : BitVec 32}, steps n x = 0#32 → x = 0#32
  | 0, _, h => h
  | n + 1, _, h => step1_eq_zero (steps_eq_zero n h)
/-- Where the low bits are none, a step is a shift. -/
theorem step1_shift (y : BitVec 32) (h : y.getLsbD 31 = false) : step1 (y <<< 1) = y := by
  unfold step1
  have h0 : (y <<< 1).getLsbD 0 = false := by simp
  rw [h0]
  simp only [Bool.false_eq_true, if_false]
  apply BitVec.eq_of_getLsbD_eq
  intro i hi
  rw [BitVec.getLsbD_ushiftRight, BitVec.getLsbD_shiftLeft]
  by_cases h31 : i = 31
  · subst h31; rw [h]; simp
  · rw [show 1 + i - 1 = i by omega]
    simp [show 1 + i < 32 by omega, show ¬ (1 + i < 1) by omega]
theorem steps_shift : ∀ (n : Nat) (y : BitVec 32), (∀ i, 32 - n ≤ i → y.getLsbD i = false) → n ≤ 32 → steps n (y <<< n) = y
  | 0, y, _, _ => by simp [steps]
  | n + 1, y, h, hn => by
    have e : y <<< (n + 1) = (y <<< n) <<< 1 := by rw [BitVec.shiftLeft_add]
    rw [steps, e, step1_shift, steps_shift n y (fun i hi => h i (by omega)) (by omega)]
    rw [BitVec.getLsbD_shiftLeft, h (31 - n) (by omega)]
    simp
theorem high_part (r : BitVec 32) : r = (r &&& 255#32) ^^^ ((r >>> 8) <<< 8) := by
  apply BitVec.eq_of_getLsbD_eq
  intro i hi
  have h255 : (255#32).getLsbD i = decide (i < 8) := by
    have : ∀ i : Fin 32, (255#32).getLsbD i.val = decide (i.val < 8) := by decide
    exact this ⟨i, hi⟩
  rw [BitVec.getLsbD_xor, BitVec.getLsbD_and, h255]
  by_cases h8 : i < 8
  · simp [h8]
  · simp [h8, hi, show 8 + (i - 8) = i by omega]
theorem eat_eq (r : BitVec 32) (b : UInt8) : eat r b = steps 8 (r ^^^ BitVec.ofNat 32 b.toNat) := by
  have h := steps_shift 8 (r >>> 8) (fun i hi => by simp; intros; exact BitVec.getLsbD_of_ge _ _ (by omega)) (by omega)
  conv => rhs; rw [high_part r]
  rw [show (r &&& 255#32) ^^^ ((r >>> 8) <<< 8) ^^^ BitVec.ofNat 32 b.toNat = ((r &&& 255#32) ^^^ BitVec.ofNat 32 b.toNat) ^^^ ((r >>> 8) <<< 8) by ac_rfl, steps_xor, h, eat]
end Go.Proofs.Ytmefbbmjamdnjaa
/- The log of chapter 3 in plain words: numbers as bytes, batches, the log's own sector. No program here. -/
namespace Go.Proofs.Ytmefbbmjamdnjaa
set_option linter.unusedSimpArgs false

/-- A number's bytes, the least first. -/
def leB : Nat → Nat → Bytes
  | 0, _ => []
  | k + 1, n => UInt8.ofNat (n % 256) :: leB k (n / 256)
def unB : Bytes → Nat
  | [] => 0
  | b :: r => b.toNat + 256 * unB r
theorem leB_length : ∀ k n, (leB k n).length = k
  | 0, _ => rfl
  | k + 1, n => by rw [leB, List.length_cons, leB_length k]
theorem unB_leB : ∀ k n, n < 256 ^ k → unB (leB k n) = n
  | 0, n, h => by simp at h; rw [h]; rfl
  | k + 1, n, h => by
    rw [leB, unB, unB_leB k (n / 256) (by rw [Nat.pow_succ] at h; exact Nat.div_lt_of_lt_mul (by omega))]
    have : (UInt8.ofNat (n % 256)).toNat = n % 256 := by simp
    rw [this]; omega
theorem leB_snoc : ∀ k n, leB (k + 1) n = leB k n ++ [UInt8.ofNat (n / 256 ^ k % 256)]
  | 0, n => by simp [leB]
  | k + 1, n => by
    rw [leB, leB_snoc k (n / 256), leB, List.cons_append, Nat.div_div_eq_div_mul, Nat.pow_succ, Nat.mul_comm 256]
theorem unB_lt : ∀ b : Bytes, unB b < 256 ^ b.length
  | [] => by simp [unB]
  | b :: r => by
    have h1 := unB_lt r
    have h2 := b.toNat_lt
    rw [unB, List.length_cons, Nat.pow_succ]
    omega
theorem unB_append : ∀ a b : Bytes, unB (a ++ b) = unB a + 256 ^ a.length * unB b
  | [], b => by simp [unB]
  | x :: r, b => by
    rw [List.cons_append, unB, unB, unB_append r b, List.length_cons, Nat.pow_succ, Nat.mul_add]
    have : 256 * (256 ^ r.length * unB b) = 256 ^ r.length * 256 * unB b := by rw [← Nat.mul_assoc, Nat.mul_comm 256]
    omega

abbrev Batch := List ByteArray
def bodyB (b : Batch) : Bytes := b.flatMap fun r => leB 4 r.size ++ r.data.toList
def bytesOf (b : Batch) : Nat := b.foldl (fun n r => n + (4 + r.size)) 16
def needB (b : Batch) : Nat := (bytesOf b + 511) / 512
def headB (num : Nat) (bd : Bytes) : Bytes := leB 4 (16 + bd.length) ++ leB 8 num ++ leB 4 (updB 0 bd).toNat
def encB (num : Nat) (b : Batch) : Bytes := headB num (bodyB b) ++ bodyB b
theorem bytesOf_from (b : Batch) : ∀ n, b.foldl (fun n r => n + (4 + r.size)) n = n + (bodyB b).length := by
  induction b with
  | nil => intro n; simp [bodyB]
  | cons r t ih =>
    intro n
    have e : bodyB (r :: t) = (leB 4 r.size ++ r.data.toList) ++ bodyB t := by simp [bodyB]
    have : r.data.toList.length = r.size := by rw [Array.length_toList]; rfl
    rw [List.foldl_cons, ih, e, List.length_append, List.length_append, leB_length, this]; omega
theorem bytesOf_eq (b : Batch) : bytesOf b = 16 + (bodyB b).length := bytesOf_from b 16
theorem headB_length (num : Nat) (bd : Bytes) : (headB num bd).length = 16 := by simp [headB, leB_length]
theorem encB_length (num : Nat) (b : Batch) : (encB num b).length = bytesOf b := by rw [encB, List.length_append, headB_length, bytesOf_eq]
def magicB : Bytes := [100, 111, 99, 107, 101, 116, 32, 108, 111, 103, 32, 49]
def fieldsB (fr n start first synced : Nat) : Bytes := magicB ++ leB 8 fr ++ leB 8 n ++ leB 8 start ++ leB 8 first ++ leB 8 synced
def markB (fr n start first synced : Nat) : Bytes := fieldsB fr n start first synced ++ leB 4 (updB 0 (fieldsB fr n start first synced)).toNat
theorem fieldsB_length (fr n start first synced : Nat) : (fieldsB fr n start first synced).length = 52 := by simp [fieldsB, magicB, leB_length]
theorem markB_length (fr n start first synced : Nat) : (markB fr n start first synced).length = 56 := by simp [markB, fieldsB_length, leB_length]

/-- The log as its struct has it. -/
structure LSt where
  fr : Nat
  n : Nat
  start : Nat
  used : Nat
  list : List (Nat × Nat)
  last : Nat
  synced : Nat
  dead : Bool
structure LSt.Ok (L : LSt) : Prop where
  two : 2 ≤ L.n
  fit : L.fr + L.n ≤ 4096
  start : L.start < L.n - 1
  used : L.used ≤ L.n - 1
  sum : (L.list.map (·.2)).foldr (· + ·) 0 = L.used
  needs : ∀ p ∈ L.list, 1 ≤ p.2
  nums : ∀ p ∈ L.list, p.1 ≤ L.last
  last : L.last < 1000000000000000000
  synced : L.synced ≤ L.last
def LSt.first (L : LSt) : Nat := match L.list with | [] => L.last + 1 | p :: _ => p.1
def LSt.ring (L : LSt) (i : Nat) : Nat := L.fr + 1 + i % (L.n - 1)
def LSt.mk_ (L : LSt) : Bytes := markB L.fr L.n L.start L.first L.synced
theorem LSt.Ok.first_le {L : LSt} (h : L.Ok) : L.first ≤ L.last + 1 := by
  unfold LSt.first
  split
  · exact Nat.le_refl _
  · rename_i p r he
    have := h.nums p (by rw [he]; exact List.mem_cons_self ..)
    omega
theorem sum_ge_length : ∀ l : List (Nat × Nat), (∀ p ∈ l, 1 ≤ p.2) → l.length ≤ (l.map (·.2)).foldr (· + ·) 0
  | [], _ => Nat.zero_le _
  | p :: r, h => by
    have h1 := sum_ge_length r (fun q hq => h q (List.mem_cons_of_mem _ hq))
    have h2 := h p (List.mem_cons_self ..)
    simp only [List.map_cons, List.foldr_cons, List.length_cons]
    omega
theorem sum_ge_mem : ∀ (l : List (Nat × Nat)) (p : Nat × Nat), p ∈ l → p.2 ≤ (l.map (·.2)).foldr (· + ·) 0
  | q :: r, p, h => by
    simp only [List.map_cons, List.foldr_cons]
    rcases List.mem_cons.1 h with rfl | h
    · omega
    · have := sum_ge_mem r p h; omega
theorem LSt.Ok.length {L : LSt} (h : L.Ok) : L.list.length ≤ 4096 := by
  have h1 := sum_ge_length L.list h.needs
  have h2 := h.sum
  have h3 := h.used
  have h4 := h.fit
  omega

/-- mark, fail. -/
def LSt.fail (L : LSt) (e : Int) : LSt × Int := if e = 0 then (L, 0) else ({ L with dead := true }, 10)
def LSt.mark (L : LSt) (D : DSt) : LSt × DSt × Int :=
  let w := D.write L.fr L.mk_
  if w.2 = 0 then
    let f := w.1.flush
    ((L.fail f.2).1, f.1, (L.fail f.2).2)
  else ((L.fail w.2).1, w.1, (L.fail w.2).2)
end Go.Proofs.Ytmefbbmjamdnjaa
/- The log of chapter 3 in plain words: what the calls do, and what lies on the disk. No program here. -/
namespace Go.Proofs.Ytmefbbmjamdnjaa
set_option linter.unusedSimpArgs false
set_option linter.unusedVariables false

def chunk (bs : Bytes) (j : Nat) : Bytes := (bs.drop (j * 512)).take 512
theorem chunk_le (bs : Bytes) (j : Nat) : (chunk bs j).length ≤ 512 := by rw [chunk, List.length_take]; omega
def ringAt (fr n i : Nat) : Nat := fr + 1 + i % (n - 1)
theorem LSt.ring_eq (L : LSt) (i : Nat) : L.ring i = ringAt L.fr L.n i := rfl
theorem ringAt_ne (fr n i : Nat) : ringAt fr n i ≠ fr := by unfold ringAt; omega
theorem ringAt_lt {n : Nat} (h : 2 ≤ n) (fr i : Nat) : ringAt fr n i < fr + n := by
  have := Nat.mod_lt i (show 0 < n - 1 by omega)
  unfold ringAt; omega
theorem ringAt_inj {fr n i j : Nat} (h2 : 2 ≤ n) (h : ringAt fr n i = ringAt fr n j) (hij : i ≤ j) (hlt : j - i < n - 1) : i = j := by
  have h1 : j % (n - 1) = i % (n - 1) := by unfold ringAt at h; omega
  have h3 := Nat.sub_mod_eq_zero_of_mod_eq h1
  rw [Nat.mod_eq_of_lt hlt] at h3
  omega
theorem ringAt_mod (fr n a j : Nat) : ringAt fr n (a % (n - 1) + j) = ringAt fr n (a + j) := by
  unfold ringAt
  rw [Nat.mod_add_mod]

def needsB (bs : List Batch) : Nat := (bs.map needB).foldr (· + ·) 0
theorem needsB_nil : needsB [] = 0 := rfl
theorem needsB_cons (b : Batch) (r : List Batch) : needsB (b :: r) = needB b + needsB r := rfl
theorem needsB_append (a b : List Batch) : needsB (a ++ b) = needsB a + needsB b := by
  induction a with
  | nil => simp [needsB_nil]
  | cons x r ih => rw [List.cons_append, needsB_cons, needsB_cons, ih]; omega
theorem needB_pos (b : Batch) : 1 ≤ needB b := by rw [needB, bytesOf_eq]; omega

/-- The batches bs lie in the ring of S, from place a on, the first with the number num. -/
def laid (S : List Bytes) (fr n : Nat) : Nat → Nat → List Batch → Prop
  | _, _, [] => True
  | a, num, b :: r => (∀ j, j < needB b → S[ringAt fr n (a + j)]? = some (pad (chunk (encB num b) j))) ∧ laid S fr n (a + needB b) (num + 1) r
theorem laid_append (S : List Bytes) (fr n : Nat) : ∀ (xs ys : List Batch) (a num : Nat), laid S fr n a num (xs ++ ys) ↔ laid S fr n a num xs ∧ laid S fr n (a + needsB xs) (num + xs.length) ys
  | [], ys, a, num => by simp [laid, needsB_nil]
  | x :: r, ys, a, num => by
    rw [List.cons_append, laid, laid, laid_append S fr n r ys, needsB_cons, List.length_cons, and_assoc, Nat.add_assoc, show num + 1 + r.length = num + (r.length + 1) by omega]
theorem laid_congr {S S' : List Bytes} {fr n : Nat} : ∀ (bs : List Batch) (a num : Nat), (∀ i, i < needsB bs → S'[ringAt fr n (a + i)]? = S[ringAt fr n (a + i)]?) → laid S fr n a num bs → laid S' fr n a num bs
  | [], _, _, _, _ => trivial
  | b :: r, a, num, h, H => by
    rw [needsB_cons] at h
    refine ⟨fun j hj => (h j (by omega)).trans (H.1 j hj), laid_congr r _ _ (fun i hi => ?_) H.2⟩
    rw [Nat.add_assoc]
    exact h _ (by omega)
theorem laid_mod (S : List Bytes) (fr n : Nat) : ∀ (bs : List Batch) (a num : Nat), laid S fr n a num bs → laid S fr n (a % (n - 1)) num bs
  | [], _, _, _ => trivial
  | b :: r, a, num, H => by
    refine ⟨fun j hj => by rw [ringAt_mod]; exact H.1 j hj, ?_⟩
    have h := laid_mod S fr n r _ _ H.2
    have e : ∀ x y, x % (n - 1) = y % (n - 1) → laid S fr n (x % (n - 1)) (num + 1) r → laid S fr n y (num + 1) r := fun x y hxy hh =>
      laid_congr' hxy r hh
    exact e _ _ (by rw [Nat.mod_add_mod]) h
where
  laid_congr' {S : List Bytes} {fr n num : Nat} {x y : Nat} (hxy : x % (n - 1) = y % (n - 1)) (r : List Batch) (hh : laid S fr n (x % (n - 1)) num r) : laid S fr n y num r := by
    have : ∀ (bs : List Batch) (a b num : Nat), a % (n - 1) = b % (n - 1) → laid S fr n a num bs → laid S fr n b num bs := by
      intro bs
      induction bs with
      | nil => intro _ _ _ _ _; trivial
      | cons c t ih =>
        intro a b num hab H
        refine ⟨fun j hj => ?_, ih _ _ _ ?_ H.2⟩
        · have := H.1 j hj
          unfold ringAt at this ⊢
          rwa [Nat.add_mod, hab, ← Nat.add_mod] at this
        · rw [Nat.add_mod, hab, ← Nat.add_mod]
    exact this r _ _ _ (by rw [Nat.mod_mod]; exact hxy) hh

theorem done_get_avoid (ws : List (Nat × Bytes)) : ∀ (S : List Bytes) (i : Nat), (∀ p ∈ ws, p.1 ≠ i) → (done S ws)[i]? = S[i]? := by
  induction ws with
  | nil => intro S i _; rfl
  | cons p r ih =>
    intro S i h
    show (done (S.set p.1 p.2) r)[i]? = _
    rw [ih _ i (fun q hq => h q (List.mem_cons_of_mem _ hq)), List.getElem?_set_ne (h p (List.mem_cons_self ..))]
theorem done_lastOf (ws : List (Nat × Bytes)) : ∀ (S : List Bytes) (i : Nat), i < S.length → (done S ws)[i]? = some (lastOf ws i (S.getD i [])) := by
  induction ws with
  | nil => intro S i h; simp [done, lastOf, h]
  | cons p r ih =>
    intro S i h
    show (done (S.set p.1 p.2) r)[i]? = _
    rw [ih _ i (by simpa using h), lastOf, lastOf, List.foldl_cons]
    congr 2
    by_cases e : p.1 = i
    · subst e; simp [h]
    · simp [e, List.getElem?_set_ne e]

/-- A log that can be opened: its own sector, and its batches bs (numbers first to synced). -/
structure Good (S : List Bytes) (fr n start first synced : Nat) (bs : List Batch) : Prop where
  mark : S[fr]? = some (pad (markB fr n start first synced))
  laid : laid S fr n start first bs
  len : bs.length + first = synced + 1
  pos : 1 ≤ first
  start : start < n - 1
  need : needsB bs ≤ n - 1
  two : 2 ≤ n
  fit : fr + n ≤ S.length
  big : synced < 1000000000000000000
theorem Good.avoid {S : List Bytes} {fr n start first synced : Nat} {bs : List Batch} (h : Good S fr n start first synced bs) (ws : List (Nat × Bytes)) (hw : ∀ p ∈ ws, p.1 ≠ fr ∧ ∀ i, i < needsB bs → p.1 ≠ ringAt fr n (start + i)) :
    Good (done S ws) fr n start first synced bs :=
  ⟨(done_get_avoid ws S fr (fun p hp => (hw p hp).1)).trans h.mark, laid_congr bs _ _ (fun i hi => done_get_avoid ws S _ (fun p hp => (hw p hp).2 i hi)) h.laid, h.len, h.pos, h.start, h.need, h.two, by rw [done_length]; exact h.fit, h.big⟩

def number : Nat → List Batch → List (Nat × Nat)
  | _, [] => []
  | k, b :: r => (k, needB b) :: number (k + 1) r
theorem number_append : ∀ (xs ys : List Batch) (k : Nat), number k (xs ++ ys) = number k xs ++ number (k + xs.length) ys
  | [], ys, k => by simp [number]
  | x :: r, ys, k => by rw [List.cons_append, number, number, number_append r ys, List.length_cons, List.cons_append, show k + 1 + r.length = k + (r.length + 1) by omega]
theorem number_length : ∀ (xs : List Batch) (k : Nat), (number k xs).length = xs.length
  | [], _ => rfl
  | x :: r, k => by rw [number, List.length_cons, List.length_cons, number_length r]
theorem number_sum : ∀ (xs : List Batch) (k : Nat), ((number k xs).map (·.2)).foldr (· + ·) 0 = needsB xs
  | [], _ => rfl
  | x :: r, k => by rw [number, List.map_cons, List.foldr_cons, number_sum r, needsB_cons]
theorem number_mem : ∀ (xs : List Batch) (k : Nat) (p : Nat × Nat), p ∈ number k xs → 1 ≤ p.2 ∧ k ≤ p.1 ∧ p.1 < k + xs.length
  | x :: r, k, p, h => by
    rw [number] at h
    rcases List.mem_cons.1 h with rfl | h
    · exact ⟨needB_pos _, Nat.le_refl _, by simp⟩
    · have := number_mem r (k + 1) p h
      simp only [List.length_cons]; omega

/-! The calls. -/
def LSt.room (L : LSt) : Nat := L.n - 1 - L.used
def LSt.writes (L : LSt) (bs : Bytes) : Nat → Nat → DSt → DSt × Int
  | 0, _, D => (D, 0)
  | k + 1, i, D =>
    let w := D.write (L.ring (L.start + L.used + i)) (chunk bs i)
    if w.2 = 0 then L.writes bs k (i + 1) w.1 else w
def LSt.check (L : LSt) (b : Batch) : Int :=
  if L.dead then 10 else if b.length = 0 ∨ 1024 < b.length then 1 else if ∃ r ∈ b, 600 < r.size then 1 else if L.room < needB b then 12 else 0
def LSt.append (L : LSt) (D : DSt) (b : Batch) : LSt × DSt × Int × Int :=
  if L.check b ≠ 0 then (L, D, 0, L.check b)
  else
    let w := L.writes (encB (L.last + 1) b) (needB b) 0 D
    if w.2 = 0 then ({ L with last := L.last + 1, used := L.used + needB b, list := L.list ++ [(L.last + 1, needB b)] }, w.1, (L.last : Int) + 1, 0)
    else ((L.fail w.2).1, w.1, 0, (L.fail w.2).2)
def LSt.sync (L : LSt) (D : DSt) : LSt × DSt × Int :=
  if L.dead then (L, D, 10)
  else
    let f := D.flush
    if f.2 = 0 then
      let m := ({ L with synced := L.last } : LSt).mark f.1
      if m.2.2 = 0 then m else ({ m.1 with synced := L.synced }, m.2.1, m.2.2)
    else ((L.fail f.2).1, f.1, (L.fail f.2).2)
def trimTo (n : Nat) (upto : Int) : Nat → Nat → List (Nat × Nat) → Nat × Nat × List (Nat × Nat)
  | start, used, [] => (start, used, [])
  | start, used, p :: r => if (p.1 : Int) ≤ upto then trimTo n upto ((start + p.2) % (n - 1)) (used - p.2) r else (start, used, p :: r)
def LSt.cut (L : LSt) (upto : Int) : LSt := let t := trimTo L.n upto L.start L.used L.list; { L with start := t.1, used := t.2.1, list := t.2.2 }
def LSt.trim (L : LSt) (D : DSt) (upto : Int) : LSt × DSt × Int :=
  if L.dead then (L, D, 10)
  else if upto < 0 ∨ (L.synced : Int) < upto then (L, D, 1)
  else
    let m := (L.cut upto).mark D
    if m.2.2 = 0 then m else ({ m.1 with start := L.start, used := L.used, list := L.list }, m.2.1, m.2.2)
def LSt.made (fr n : Nat) : LSt := ⟨fr, n, 0, 0, [], 0, 0, false⟩
def LSt.opened (fr n start first synced : Nat) (bs : List Batch) : LSt := ⟨fr, n, start, needsB bs, number first bs, synced, synced, false⟩

/-! The state of a log stays well. -/
theorem LSt.Ok.fail {L : LSt} (h : L.Ok) (e : Int) : (L.fail e).1.Ok := by
  unfold LSt.fail
  split
  · exact h
  · exact ⟨h.two, h.fit, h.start, h.used, h.sum, h.needs, h.nums, h.last, h.synced⟩
theorem LSt.Ok.mark {L : LSt} (h : L.Ok) (D : DSt) : (L.mark D).1.Ok := by
  unfold LSt.mark
  dsimp only
  split <;> exact h.fail _
theorem trimTo_ok (n : Nat) (hn : 2 ≤ n) (upto : Int) : ∀ (l : List (Nat × Nat)) (start used : Nat), start < n - 1 → (l.map (·.2)).foldr (· + ·) 0 = used →
    (trimTo n upto start used l).1 < n - 1 ∧ ((trimTo n upto start used l).2.2.map (·.2)).foldr (· + ·) 0 = (trimTo n upto start used l).2.1 ∧ (trimTo n upto start used l).2.1 ≤ used ∧ ∀ p ∈ (trimTo n upto start used l).2.2, p ∈ l
  | [], start, used, h1, h2 => ⟨h1, h2, Nat.le_refl _, fun p hp => hp⟩
  | q :: r, start, used, h1, h2 => by
    rw [trimTo]
    simp only [List.map_cons, List.foldr_cons] at h2
    split
    · obtain ⟨i1, i2, i3, i4⟩ := trimTo_ok n hn upto r ((start + q.2) % (n - 1)) (used - q.2) (Nat.mod_lt _ (by omega)) (by omega)
      exact ⟨i1, i2, by omega, fun p hp => List.mem_cons_of_mem _ (i4 p hp)⟩
    · exact ⟨h1, by simpa using h2, Nat.le_refl _, fun p hp => hp⟩
theorem LSt.Ok.cut {L : LSt} (h : L.Ok) (upto : Int) : (L.cut upto).Ok := by
  obtain ⟨h1, h2, h3, h4⟩ := trimTo_ok L.n h.two upto L.list L.start L.used h.start h.sum
  exact ⟨h.two, h.fit, h1, Nat.le_trans h3 h.used, h2, fun p hp => h.needs p (h4 p hp), fun p hp => h.nums p (h4 p hp), h.last, h.synced⟩
theorem LSt.Ok.grow {L : LSt} (h : L.Ok) (b : Batch) (hr : needB b ≤ L.room) (hl : L.last + 1 < 1000000000000000000) :
    ({ L with last := L.last + 1, used := L.used + needB b, list := L.list ++ [(L.last + 1, needB b)] } : LSt).Ok := by
  have hu := h.used
  unfold LSt.room at hr
  refine ⟨h.two, h.fit, h.start, ?_, ?_, ?_, ?_, hl, ?_⟩
  · show L.used + needB b ≤ L.n - 1; omega
  · show ((L.list ++ [(L.last + 1, needB b)]).map (·.2)).foldr (· + ·) 0 = L.used + needB b
    have : ∀ (l : List Nat) (x : Nat), (l ++ [x]).foldr (· + ·) 0 = l.foldr (· + ·) 0 + x := by
      intro l x
      induction l with
      | nil => simp
      | cons y t ih => simp only [List.cons_append, List.foldr_cons, ih]; omega
    rw [List.map_append, List.map_cons, List.map_nil, this, h.sum]
  · intro p hp
    rcases List.mem_append.1 hp with hp | hp
    · exact h.needs p hp
    · simp at hp; subst hp; exact needB_pos b
  · intro p hp
    show p.1 ≤ L.last + 1
    rcases List.mem_append.1 hp with hp | hp
    · have := h.nums p hp; omega
    · simp at hp; subst hp; exact Nat.le_refl _
  · show L.synced ≤ L.last + 1
    have := h.synced; omega
theorem LSt.Ok.synced_last {L : LSt} (h : L.Ok) : ({ L with synced := L.last } : LSt).Ok := ⟨h.two, h.fit, h.start, h.used, h.sum, h.needs, h.nums, h.last, Nat.le_refl _⟩
end Go.Proofs.Ytmefbbmjamdnjaa
/- The log of chapter 3 in plain words: what a log and its disk keep, call by call, and what a crash leaves. No program here. -/
namespace Go.Proofs.Ytmefbbmjamdnjaa
set_option linter.unusedSimpArgs false
set_option linter.unusedVariables false

theorem kept_sub : ∀ (W : List (Nat × Bytes)) (keep : List Bool), ∀ p ∈ kept W keep, p ∈ W
  | [], keep, p, h => by cases keep <;> simp [kept] at h
  | q :: r, [], p, h => by simp [kept] at h
  | q :: r, b :: k, p, h => by
    rw [kept] at h
    split at h
    · rcases List.mem_cons.1 h with rfl | h
      · exact List.mem_cons_self ..
      · exact List.mem_cons_of_mem _ (kept_sub r k p h)
    · exact List.mem_cons_of_mem _ (kept_sub r k p h)
theorem kept_snoc (p : Nat × Bytes) : ∀ (W : List (Nat × Bytes)) (keep : List Bool), kept (W ++ [p]) keep = kept W keep ++ (if keep.getD W.length false then [p] else [])
  | [], [] => by simp [kept]
  | [], b :: k => by cases b <;> simp [kept]
  | q :: r, [] => by simp [kept]
  | q :: r, b :: k => by
    have := kept_snoc p r k
    cases b <;> simp [kept, this]

/-- The batches number T+1 to s. -/
def seg (all : List Batch) (T s : Nat) : List Batch := (all.take s).drop T
theorem seg_length {all : List Batch} {T s : Nat} (h2 : s ≤ all.length) : (seg all T s).length = s - T := by rw [seg, List.length_drop, List.length_take, Nat.min_eq_left h2]
theorem seg_split {all : List Batch} {T s : Nat} (h1 : T ≤ s) (h2 : s ≤ all.length) : all.drop T = seg all T s ++ all.drop s := by
  have h : all.drop T = (all.take s ++ all.drop s).drop T := by rw [List.take_append_drop]
  rw [h, List.drop_append_of_le_length (by rw [List.length_take, Nat.min_eq_left h2]; exact h1), seg]
theorem seg_all (all : List Batch) (T : Nat) : seg all T all.length = all.drop T := by rw [seg, List.take_length]
theorem seg_split2 {all : List Batch} {T U s : Nat} (h1 : T ≤ U) (h2 : U ≤ s) (h3 : s ≤ all.length) : seg all T s = seg all T U ++ seg all U s := by
  have h := seg_split (all := all.take s) h1 (by rw [List.length_take, Nat.min_eq_left h3]; exact h2)
  rw [seg, h, seg, seg, seg, List.take_take, Nat.min_eq_left h2]
theorem seg_snoc {all : List Batch} {T s : Nat} (b : Batch) (h : s ≤ all.length) : seg (all ++ [b]) T s = seg all T s := by
  rw [seg, seg, List.take_append_of_le_length h]
theorem seg_take {all : List Batch} {T s u : Nat} (h : s ≤ u) : seg (all.take u) T s = seg all T s := by
  rw [seg, seg, List.take_take, Nat.min_eq_left h]

/-- A log L on a disk D: all batches that were appended, T of them trimmed. -/
structure Inv (L : LSt) (D : DSt) (T : Nat) (all : List Batch) : Prop where
  ok : L.Ok
  alive : L.dead = false
  live : D.dead = false
  fit : L.fr + L.n ≤ D.secs.length
  list : L.list = number (T + 1) (all.drop T)
  last : L.last = all.length
  used : L.used = needsB (all.drop T)
  low : T ≤ L.synced
  good : Good D.secs L.fr L.n L.start (T + 1) L.synced (seg all T L.synced)
  vis : laid (done D.secs D.waits) L.fr L.n L.start (T + 1) (all.drop T)
  waits : ∀ p ∈ D.waits, p.1 ≠ L.fr ∧ ∀ i, i < needsB (seg all T L.synced) → p.1 ≠ ringAt L.fr L.n (L.start + i)
theorem Inv.high {L : LSt} {D : DSt} {T : Nat} {all : List Batch} (h : Inv L D T all) : L.synced ≤ all.length := by rw [← h.last]; exact h.ok.synced
theorem Inv.first {L : LSt} {D : DSt} {T : Nat} {all : List Batch} (h : Inv L D T all) : L.first = T + 1 := by
  have hl := h.list
  have h1 := h.low
  have h2 := h.high
  cases hc : all.drop T with
  | nil =>
    rw [hc, number] at hl
    rw [LSt.first, hl]
    have h3 := List.drop_eq_nil_iff.1 hc
    have h4 := h.last
    show L.last + 1 = T + 1
    omega
  | cons b r =>
    rw [hc, number] at hl
    rw [LSt.first, hl]
theorem Inv.need {L : LSt} {D : DSt} {T : Nat} {all : List Batch} (h : Inv L D T all) : needsB (all.drop T) ≤ L.n - 1 := by rw [← h.used]; exact h.ok.used
theorem Inv.segle {L : LSt} {D : DSt} {T : Nat} {all : List Batch} (h : Inv L D T all) : needsB (seg all T L.synced) ≤ needsB (all.drop T) := by
  rw [seg_split h.low h.high, needsB_append]; omega

/-- What a crash leaves of T, s: a log that can be opened. -/
def Back (S : List Bytes) (fr n T s : Nat) (all : List Batch) : Prop := T ≤ s ∧ s ≤ all.length ∧ ∃ start, Good S fr n start (T + 1) s (seg all T s)
def Safe (D : DSt) (fr n : Nat) (all : List Batch) (ok : Nat → Nat → Prop) : Prop := ∀ keep, ∃ T s, ok T s ∧ Back (done D.secs (kept D.waits keep)) fr n T s all
theorem Inv.safe {L : LSt} {D : DSt} {T : Nat} {all : List Batch} (h : Inv L D T all) : Safe D L.fr L.n all (fun t s => t = T ∧ s = L.synced) := fun keep =>
  ⟨T, L.synced, ⟨rfl, rfl⟩, h.low, h.high, L.start, h.good.avoid _ (fun p hp => h.waits p (kept_sub _ _ p hp))⟩
theorem Safe.mono {D : DSt} {fr n : Nat} {all : List Batch} {ok ok' : Nat → Nat → Prop} (h : Safe D fr n all ok) (hk : ∀ t s, ok t s → ok' t s) : Safe D fr n all ok' := fun keep =>
  let ⟨T, s, h1, h2⟩ := h keep; ⟨T, s, hk T s h1, h2⟩

/-! mark. -/
theorem burnt_neg {f : Int} (h : f < 0) : burnt f = f := by rw [burnt, if_neg (by omega)]
theorem mark_spec (L : LSt) (D : DSt) (hd : D.dead = false) (hfr : L.fr < D.secs.length) :
    ((L.mark D).2.2 = 0 ∧ (L.mark D).1 = L ∧ (L.mark D).2.1.dead = false ∧ (L.mark D).2.1.secs = (done D.secs D.waits).set L.fr (pad L.mk_) ∧ (L.mark D).2.1.waits = [] ∧ (D.fuel < 0 → (L.mark D).2.1.fuel = D.fuel)) ∨
    ((L.mark D).2.2 = 10 ∧ (L.mark D).1 = { L with dead := true } ∧ (L.mark D).2.1.dead = true ∧ (L.mark D).2.1.secs = D.secs ∧ ((L.mark D).2.1.waits = D.waits ∨ (L.mark D).2.1.waits = D.waits ++ [(L.fr, pad L.mk_)]) ∧ 0 ≤ D.fuel) := by
  have hlen : L.mk_.length ≤ 512 := by rw [LSt.mk_, markB_length]; omega
  by_cases hf : D.fuel = 0
  · have hw : D.write (L.fr : Nat) L.mk_ = ({ D with dead := true }, 10) := by
      rw [DSt.write, if_neg (by rw [hd]; decide), if_neg (by omega), if_neg (by omega), if_pos hf]
    right
    simp only [LSt.mark, hw, LSt.fail]
    simp [hf]
  · have hw := DSt.write_eq (D := D) (i := (L.fr : Nat)) (data := L.mk_) hd (by omega) (by omega) hlen hf
    rw [Int.toNat_natCast] at hw
    by_cases hb : burnt D.fuel = 0
    · right
      have hfl : (D.write (L.fr : Nat) L.mk_).1.flush = ({ (D.write (L.fr : Nat) L.mk_).1 with dead := true }, 10) := by
        rw [DSt.flush, if_neg (by rw [hw]; simp [hd]), if_pos (by rw [hw]; exact hb)]
      simp only [LSt.mark, hfl, LSt.fail]
      rw [hw]
      simp only [if_true]
      refine ⟨by simp, by simp, by simp, by simp, .inr (by simp), ?_⟩
      unfold burnt at hb
      split at hb <;> omega
    · left
      have hfl : (D.write (L.fr : Nat) L.mk_).1.flush = ({ (D.write (L.fr : Nat) L.mk_).1 with secs := done (D.write (L.fr : Nat) L.mk_).1.secs (D.write (L.fr : Nat) L.mk_).1.waits, waits := [], fuel := burnt (D.write (L.fr : Nat) L.mk_).1.fuel }, 0) :=
        DSt.flush_eq (by rw [hw]; exact hd) (by rw [hw]; exact hb)
      simp only [LSt.mark, hfl, LSt.fail]
      rw [hw]
      simp only [if_true]
      refine ⟨by simp, by simp, by simpa using hd, ?_, by simp, fun h => ?_⟩
      · rw [done_append]; rfl
      · rw [burnt_neg h, burnt_neg h]

theorem set_get_self {S : List Bytes} {i : Nat} {x : Bytes} (h : i < S.length) : (S.set i x)[i]? = some x := by simp [h]

/-- Make. -/
theorem made_inv {fr n : Nat} {S : List Bytes} {D : DSt} (h2 : 2 ≤ n) (hfit : fr + n ≤ S.length) (hmax : S.length ≤ 4096) (hd : D.dead = false) (hs : D.secs = S.set fr (pad (LSt.made fr n).mk_)) (hw : D.waits = []) :
    Inv (LSt.made fr n) D 0 [] := by
  have hok : (LSt.made fr n).Ok := ⟨h2, by show fr + n ≤ 4096; omega, by show 0 < n - 1; omega, Nat.zero_le _, rfl, (fun p hp => by cases hp), (fun p hp => by cases hp), by show 0 < 1000000000000000000; decide, Nat.le_refl _⟩
  have hfit' : (LSt.made fr n).fr + (LSt.made fr n).n ≤ D.secs.length := by rw [hs, List.length_set]; exact hfit
  refine ⟨hok, rfl, hd, hfit', rfl, rfl, rfl, Nat.le_refl _, ⟨?_, trivial, rfl, Nat.le_refl _, by show 0 < n - 1; omega, Nat.zero_le _, h2, hfit', (by show 0 < 1000000000000000000; decide)⟩, trivial, fun p hp => by rw [hw] at hp; cases hp⟩
  rw [hs]
  exact set_get_self (by show fr < _; omega)

/-! Append. -/
def wrOf (L : LSt) (bs : Bytes) (j : Nat) : Nat × Bytes := (L.ring (L.start + L.used + j), pad (chunk bs j))
theorem writes_spec (L : LSt) (bs : Bytes) (h2 : 2 ≤ L.n) : ∀ (k i : Nat) (D : DSt), D.dead = false → L.fr + L.n ≤ D.secs.length →
    ((L.writes bs k i D).2 = 0 ∧ (L.writes bs k i D).1.dead = false ∧ (L.writes bs k i D).1.secs = D.secs ∧ (L.writes bs k i D).1.waits = D.waits ++ (List.range' i k).map (wrOf L bs) ∧ (D.fuel < 0 → (L.writes bs k i D).1.fuel = D.fuel)) ∨
    ((L.writes bs k i D).2 = 10 ∧ (L.writes bs k i D).1.dead = true ∧ (L.writes bs k i D).1.secs = D.secs ∧ (∃ m, m < k ∧ (L.writes bs k i D).1.waits = D.waits ++ (List.range' i m).map (wrOf L bs)) ∧ 0 ≤ D.fuel)
  | 0, i, D, hd, hf => .inl ⟨rfl, hd, rfl, by simp [LSt.writes], fun _ => rfl⟩
  | k + 1, i, D, hd, hf => by
    have hr := ringAt_lt h2 L.fr (L.start + L.used + i)
    rw [← LSt.ring_eq] at hr
    have hlen := chunk_le bs i
    by_cases h0 : D.fuel = 0
    · have hw : D.write (L.ring (L.start + L.used + i) : Nat) (chunk bs i) = ({ D with dead := true }, 10) := by
        rw [DSt.write, if_neg (by rw [hd]; decide), if_neg (by omega), if_neg (by omega), if_pos h0]
      right
      simp only [LSt.writes, hw]
      refine ⟨by simp, by simp, by simp, ⟨0, by omega, by simp⟩, by omega⟩
    · have hw := DSt.write_eq (D := D) (i := (L.ring (L.start + L.used + i) : Nat)) (data := chunk bs i) hd (by omega) (by omega) hlen h0
      rw [Int.toNat_natCast] at hw
      simp only [LSt.writes, hw, if_true]
      rcases writes_spec L bs h2 k (i + 1) { D with waits := D.waits ++ [(L.ring (L.start + L.used + i), pad (chunk bs i))], fuel := burnt D.fuel } hd hf with ⟨a1, a2, a3, a4, a5⟩ | ⟨a1, a2, a3, ⟨m, hm, a4⟩, a5⟩
      · refine .inl ⟨a1, a2, a3, ?_, fun h => ?_⟩
        · rw [a4, List.append_assoc]; rfl
        · rw [a5 (by show burnt D.fuel < 0; rw [burnt_neg h]; exact h)]; exact burnt_neg h
      · refine .inr ⟨a1, a2, a3, ⟨m + 1, by omega, ?_⟩, ?_⟩
        · rw [a4, List.append_assoc]; rfl
        · have : 0 ≤ burnt D.fuel := a5
          unfold burnt at this
          split at this <;> omega
theorem range_wr (L : LSt) (bs : Bytes) (k : Nat) (p : Nat × Bytes) (h : p ∈ (List.range' 0 k).map (wrOf L bs)) : ∃ j, j < k ∧ p = wrOf L bs j := by
  obtain ⟨j, hj, rfl⟩ := List.mem_map.1 h
  rw [List.mem_range'_1] at hj
  exact ⟨j, by omega, rfl⟩
theorem done_writes (V : List Bytes) (f : Nat → Nat) (g : Nat → Bytes) : ∀ (k : Nat), (∀ i j, i < k → j < k → f i = f j → i = j) → (∀ i, i < k → f i < V.length) → ∀ j, j < k → (done V ((List.range' 0 k).map fun j => (f j, g j)))[f j]? = some (g j)
  | 0, _, _, j, hj => by omega
  | k + 1, hi, hl, j, hj => by
    have e : (List.range' 0 (k + 1)).map (fun j => (f j, g j)) = (List.range' 0 k).map (fun j => (f j, g j)) ++ [(f k, g k)] := by rw [List.range'_concat]; simp
    rw [e, done_append]
    show ((done V ((List.range' 0 k).map fun j => (f j, g j))).set (f k) (g k))[f j]? = _
    by_cases hjk : j = k
    · subst hjk
      rw [List.getElem?_set_self (by rw [done_length]; exact hl j hj)]
    · rw [List.getElem?_set_ne (fun h => hjk (hi j k hj (by omega) h.symm))]
      exact done_writes V f g k (fun a b ha hb => hi a b (by omega) (by omega)) (fun a ha => hl a (by omega)) j (by omega)

theorem fail_dead (L : LSt) : L.fail 10 = ({ L with dead := true }, 10) := by rw [LSt.fail, if_neg (by decide)]

/-- What a call may leave: the log alive, as it should be; or the disk dead, and what a crash then leaves. -/
theorem append_inv {L : LSt} {D : DSt} {T : Nat} {all : List Batch} (h : Inv L D T all) (b : Batch) (hl : L.last + 1 < 1000000000000000000) :
    (L.check b ≠ 0 ∧ L.append D b = (L, D, 0, L.check b) ∧ L.check b ≠ 10) ∨
    (L.check b = 0 ∧ (L.append D b).2.2 = (((all.length + 1 : Nat) : Int), 0) ∧ Inv (L.append D b).1 (L.append D b).2.1 T (all ++ [b]) ∧ (L.append D b).1.synced = L.synced ∧ (L.append D b).1.fr = L.fr ∧ (L.append D b).1.n = L.n ∧ (L.append D b).1.used = L.used + needB b ∧ (D.fuel < 0 → (L.append D b).2.1.fuel = D.fuel)) ∨
    (L.check b = 0 ∧ (L.append D b).2.2 = (0, 10) ∧ (L.append D b).1 = { L with dead := true } ∧ (L.append D b).2.1.dead = true ∧ Safe (L.append D b).2.1 L.fr L.n all (fun t s => t = T ∧ s = L.synced) ∧ 0 ≤ D.fuel) := by
  by_cases hc : L.check b = 0
  · right
    have hroom : needB b ≤ L.room := by
      unfold LSt.check at hc
      rw [if_neg (by rw [h.alive]; decide)] at hc
      split at hc
      · cases hc
      · split at hc
        · cases hc
        · split at hc
          · cases hc
          · omega
    have hroom2 : L.used + needB b ≤ L.n - 1 := by have := h.ok.used; unfold LSt.room at hroom; omega
    have h2 := h.ok.two
    have hwp : ∀ k, k ≤ needB b → ∀ p ∈ (List.range' 0 k).map (wrOf L (encB (L.last + 1) b)), p.1 ≠ L.fr ∧ ∀ i, i < L.used → p.1 ≠ ringAt L.fr L.n (L.start + i) := by
      intro k hk p hp
      obtain ⟨j, hj, rfl⟩ := range_wr _ _ _ p hp
      refine ⟨ringAt_ne _ _ _, fun i hi e => ?_⟩
      have := ringAt_inj h2 e.symm (by omega) (by omega)
      omega
    have hseg := h.segle
    rw [← h.used] at hseg
    rcases writes_spec L (encB (L.last + 1) b) h2 (needB b) 0 D h.live h.fit with ⟨a1, a2, a3, a4, a5⟩ | ⟨a1, a2, a3, ⟨m, hm, a4⟩, a5⟩
    · left
      have happ : L.append D b = ({ L with last := L.last + 1, used := L.used + needB b, list := L.list ++ [(L.last + 1, needB b)] }, (L.writes (encB (L.last + 1) b) (needB b) 0 D).1, (L.last : Int) + 1, 0) := by
        unfold LSt.append
        rw [if_neg (by omega)]
        simp only [a1, if_true]
      have hdrop : (all ++ [b]).drop T = all.drop T ++ [b] := by rw [List.drop_append_of_le_length (Nat.le_trans h.low h.high)]
      have hnum : T + 1 + (all.drop T).length = L.last + 1 := by
        have := h.low; have := h.high; have := h.last
        rw [List.length_drop]; omega
      rw [happ]
      refine ⟨hc, ?_, ?_, rfl, rfl, rfl, rfl, a5⟩
      · show ((L.last : Int) + 1, (0 : Int)) = _
        rw [h.last]; rfl
      · dsimp only
        refine ⟨h.ok.grow b hroom hl, h.alive, a2, by rw [a3]; exact h.fit, ?_, ?_, ?_, h.low, ?_, ?_, ?_⟩
        · show L.list ++ [(L.last + 1, needB b)] = _
          rw [hdrop, number_append, h.list, hnum]; rfl
        · show L.last + 1 = _
          rw [h.last]; simp
        · show L.used + needB b = _
          rw [hdrop, needsB_append, h.used]; simp [needsB]
        · show Good _ L.fr L.n L.start (T + 1) L.synced (seg (all ++ [b]) T L.synced)
          rw [a3, seg_snoc b h.high]
          exact h.good
        · show laid _ L.fr L.n L.start (T + 1) ((all ++ [b]).drop T)
          rw [a3, a4, done_append, hdrop, laid_append]
          refine ⟨laid_congr _ _ _ (fun i hi => done_get_avoid _ _ _ (fun p hp => (hwp _ (Nat.le_refl _) p hp).2 i (by rw [h.used]; exact hi))) h.vis, ?_, trivial⟩
          intro j hj
          rw [← h.used, hnum]
          refine done_writes _ (fun j => ringAt L.fr L.n (L.start + L.used + j)) (fun j => pad (chunk (encB (L.last + 1) b) j)) (needB b) (fun i j hi hj e => ?_) (fun i hi => ?_) j hj
          · rcases Nat.le_total i j with hij | hij
            · have := ringAt_inj h2 e (by omega) (by omega); omega
            · have := ringAt_inj h2 e.symm (by omega) (by omega); omega
          · rw [done_length]
            have := ringAt_lt h2 L.fr (L.start + L.used + i)
            have := h.fit
            omega
        · show ∀ p ∈ (L.writes (encB (L.last + 1) b) (needB b) 0 D).1.waits, p.1 ≠ L.fr ∧ ∀ i, i < needsB (seg (all ++ [b]) T L.synced) → p.1 ≠ ringAt L.fr L.n (L.start + i)
          rw [a4, seg_snoc b h.high]
          intro p hp
          rcases List.mem_append.1 hp with hp | hp
          · exact h.waits p hp
          · have := hwp _ (Nat.le_refl _) p hp
            exact ⟨this.1, fun i hi => this.2 i (by omega)⟩
    · right
      have happ : L.append D b = ({ L with dead := true }, (L.writes (encB (L.last + 1) b) (needB b) 0 D).1, 0, 10) := by
        unfold LSt.append
        rw [if_neg (by omega)]
        simp only [a1, fail_dead]
        rfl
      rw [happ]
      refine ⟨hc, rfl, rfl, a2, fun keep => ⟨T, L.synced, ⟨rfl, rfl⟩, h.low, h.high, L.start, ?_⟩, a5⟩
      rw [a3]
      refine h.good.avoid _ (fun p hp => ?_)
      have hp := kept_sub _ _ p hp
      rw [a4] at hp
      rcases List.mem_append.1 hp with hp | hp
      · exact h.waits p hp
      · have := hwp m (by omega) p hp
        exact ⟨this.1, fun i hi => this.2 i (by omega)⟩
  · left
    refine ⟨hc, by rw [LSt.append, if_pos hc], fun h10 => ?_⟩
    unfold LSt.check at h10
    rw [if_neg (by rw [h.alive]; decide)] at h10
    split at h10
    · cases h10
    · split at h10
      · cases h10
      · split at h10 <;> cases h10
end Go.Proofs.Ytmefbbmjamdnjaa
/- The log of chapter 3 in plain words: Sync, Trim, and the log behind a crash. No program here. -/
namespace Go.Proofs.Ytmefbbmjamdnjaa
set_option linter.unusedSimpArgs false
set_option linter.unusedVariables false

theorem Inv.mk_eq {L : LSt} {D : DSt} {T : Nat} {all : List Batch} (h : Inv L D T all) : L.mk_ = markB L.fr L.n L.start (T + 1) L.synced := by rw [LSt.mk_, h.first]

/-- Sync. -/
theorem sync_inv {L : LSt} {D : DSt} {T : Nat} {all : List Batch} (h : Inv L D T all) :
    ((L.sync D).2.2 = 0 ∧ Inv (L.sync D).1 (L.sync D).2.1 T all ∧ (L.sync D).1 = { L with synced := all.length } ∧ (L.sync D).2.1.waits = [] ∧ (D.fuel < 0 → (L.sync D).2.1.fuel = D.fuel)) ∨
    ((L.sync D).2.2 = 10 ∧ (L.sync D).1 = { L with dead := true } ∧ (L.sync D).2.1.dead = true ∧ Safe (L.sync D).2.1 L.fr L.n all (fun t s => t = T ∧ (s = L.synced ∨ s = all.length)) ∧ 0 ≤ D.fuel) := by
  have h2 := h.ok.two
  have hfit := h.fit
  have hlow := h.low
  have hhigh := h.high
  by_cases hf : D.fuel = 0
  · right
    have hfl : D.flush = ({ D with dead := true }, 10) := by rw [DSt.flush, if_neg (by rw [h.live]; decide), if_pos hf]
    have hs : L.sync D = ({ L with dead := true }, { D with dead := true }, 10) := by
      unfold LSt.sync
      rw [if_neg (by rw [h.alive]; decide)]
      simp only [hfl, fail_dead]
      rfl
    rw [hs]
    refine ⟨rfl, rfl, rfl, ?_, by omega⟩
    intro keep
    obtain ⟨t, s, ⟨rfl, rfl⟩, hb⟩ := h.safe keep
    exact ⟨_, _, ⟨rfl, .inl rfl⟩, hb⟩
  · have hfl := DSt.flush_eq (D := D) h.live hf
    obtain ⟨D1, hD1⟩ : ∃ D1, ({ D with secs := done D.secs D.waits, waits := [], fuel := burnt D.fuel } : DSt) = D1 := ⟨_, rfl⟩
    obtain ⟨L1, hL1⟩ : ∃ L1, ({ L with synced := L.last } : LSt) = L1 := ⟨_, rfl⟩
    have e1 : D1.secs = done D.secs D.waits := by rw [← hD1]
    have e2 : D1.waits = [] := by rw [← hD1]
    have e3 : D1.dead = false := by rw [← hD1]; exact h.live
    have e4 : D1.fuel = burnt D.fuel := by rw [← hD1]
    have f1 : L1.fr = L.fr := by rw [← hL1]
    have f2 : L1.mk_ = markB L.fr L.n L.start (T + 1) all.length := by
      rw [← hL1, LSt.mk_]
      have : ({ L with synced := L.last } : LSt).first = L.first := rfl
      rw [this, h.first]
      show markB L.fr L.n L.start (T + 1) L.last = _
      rw [h.last]
    have hs0 : L.sync D = if (L1.mark D1).2.2 = 0 then L1.mark D1 else ({ (L1.mark D1).1 with synced := L.synced }, (L1.mark D1).2.1, (L1.mark D1).2.2) := by
      unfold LSt.sync
      rw [if_neg (by rw [h.alive]; decide)]
      simp only [hfl, if_true]
      rw [hL1, hD1]
    have goodOld : ∀ ws : List (Nat × Bytes), (∀ p ∈ ws, p.1 ≠ L.fr ∧ ∀ i, i < needsB (all.drop T) → p.1 ≠ ringAt L.fr L.n (L.start + i)) → Good (done (done D.secs D.waits) ws) L.fr L.n L.start (T + 1) L.synced (seg all T L.synced) := by
      intro ws hws
      refine Good.avoid (h.good.avoid _ h.waits) ws (fun p hp => ⟨(hws p hp).1, fun i hi => (hws p hp).2 i ?_⟩)
      have := h.segle; omega
    have goodNew : Good ((done D.secs D.waits).set L.fr (pad L1.mk_)) L.fr L.n L.start (T + 1) all.length (seg all T all.length) := by
      refine ⟨by rw [set_get_self (by rw [done_length]; omega), f2], ?_, ?_, Nat.le_add_left _ _, h.ok.start, by rw [seg_all]; exact h.need, h2, by rw [List.length_set, done_length]; exact hfit, by rw [← h.last]; exact h.ok.last⟩
      · rw [seg_all]
        exact laid_congr _ _ _ (fun i hi => List.getElem?_set_ne (ringAt_ne _ _ _).symm) h.vis
      · rw [seg_length (Nat.le_refl _)]; omega
    rcases mark_spec L1 D1 e3 (by rw [f1, e1, done_length]; omega) with ⟨a1, a2, a3, a4, a5, a6⟩ | ⟨a1, a2, a3, a4, a5, a6⟩
    · left
      rw [hs0, if_pos a1]
      refine ⟨a1, ?_, by rw [a2, ← hL1, h.last], a5, fun hh => by rw [a6 (by rw [e4, burnt_neg hh]; exact hh), e4, burnt_neg hh]⟩
      have g1 : (L1.mark D1).2.1.secs = (done D.secs D.waits).set L.fr (pad L1.mk_) := by rw [a4, e1, e2, f1]; rfl
      rw [a2]
      have hg : Good (L1.mark D1).2.1.secs L1.fr L1.n L1.start (T + 1) L1.synced (seg all T L1.synced) := by
        rw [g1]
        have : L1.synced = all.length := by rw [← hL1]; exact h.last
        rw [this, ← hL1]
        rw [← hL1] at goodNew
        exact goodNew
      refine ⟨by rw [← hL1]; exact h.ok.synced_last, by rw [← hL1]; exact h.alive, a3, ?_, by rw [← hL1]; exact h.list, by rw [← hL1]; exact h.last, by rw [← hL1]; exact h.used, ?_, hg, ?_, fun p hp => by rw [a5] at hp; cases hp⟩
      · rw [g1, List.length_set, done_length, ← hL1]; exact hfit
      · rw [← hL1]; show T ≤ L.last; rw [h.last]; omega
      · rw [a5]
        show laid (L1.mark D1).2.1.secs L1.fr L1.n L1.start (T + 1) (all.drop T)
        have := hg.laid
        have hsy : L1.synced = all.length := by rw [← hL1]; exact h.last
        rwa [hsy, seg_all] at this
    · right
      rw [hs0, if_neg (by rw [a1]; decide)]
      refine ⟨a1, by rw [a2, ← hL1], a3, ?_, ?_⟩
      · intro keep
        show ∃ t s, _ ∧ Back (done (L1.mark D1).2.1.secs (kept (L1.mark D1).2.1.waits keep)) L.fr L.n t s all
        rw [a4, e1]
        rcases a5 with a5 | a5
        · rw [a5, e2]
          have hk : kept [] keep = [] := by cases keep <;> rfl
          rw [hk]
          exact ⟨T, L.synced, ⟨rfl, .inl rfl⟩, hlow, hhigh, L.start, goodOld [] (fun p hp => by cases hp)⟩
        · rw [a5, e2, List.nil_append, show [(L1.fr, pad L1.mk_)] = [] ++ [(L1.fr, pad L1.mk_)] from rfl, kept_snoc]
          have hk : kept [] keep = [] := by cases keep <;> rfl
          rw [hk]
          split
          · refine ⟨T, all.length, ⟨rfl, .inr rfl⟩, by omega, Nat.le_refl _, L.start, ?_⟩
            rw [f1]
            exact goodNew
          · exact ⟨T, L.synced, ⟨rfl, .inl rfl⟩, hlow, hhigh, L.start, goodOld [] (fun p hp => by cases hp)⟩
      · rw [e4] at a6
        unfold burnt at a6
        split at a6 <;> omega

/-- The batches that a Trim takes off. -/
theorem trimTo_number (n : Nat) (hn : 2 ≤ n) (upto : Int) : ∀ (bs : List Batch) (k start used : Nat), start < n - 1 → used = needsB bs → ∀ c : Nat, (c : Int) = max 0 (upto + 1 - k) → c ≤ bs.length →
    trimTo n upto start used (number k bs) = ((start + needsB (bs.take c)) % (n - 1), needsB (bs.drop c), number (k + c) (bs.drop c))
  | [], k, start, used, hs, hu, c, hc, hl => by
    simp at hl
    subst hl
    subst hu
    simp [number, trimTo, needsB, Nat.mod_eq_of_lt hs]
  | b :: r, k, start, used, hs, hu, c, hc, hl => by
    rw [number, trimTo]
    by_cases hk : (k : Int) ≤ upto
    · rw [if_pos hk]
      obtain ⟨c, rfl⟩ : ∃ c', c = c' + 1 := ⟨c - 1, by omega⟩
      simp only [List.length_cons] at hl
      rw [trimTo_number n hn upto r (k + 1) _ _ (Nat.mod_lt _ (by omega)) (by rw [hu, needsB_cons]; show needB b + needsB r - needB b = _; omega) c (by push_cast at hc ⊢; omega) (by omega)]
      rw [List.take_succ_cons, List.drop_succ_cons, needsB_cons, Nat.mod_add_mod, Nat.add_assoc, show k + 1 + c = k + (c + 1) by omega]
    · rw [if_neg hk]
      obtain rfl : c = 0 := by omega
      simp [needsB_nil, Nat.mod_eq_of_lt hs, hu, number]

/-- Trim. -/
theorem trim_inv {L : LSt} {D : DSt} {T : Nat} {all : List Batch} (h : Inv L D T all) (upto : Int) :
    ((upto < 0 ∨ (L.synced : Int) < upto) ∧ L.trim D upto = (L, D, 1)) ∨
    (0 ≤ upto ∧ upto ≤ (L.synced : Int) ∧ (L.trim D upto).2.2 = 0 ∧ Inv (L.trim D upto).1 (L.trim D upto).2.1 (max T upto.toNat) all ∧ (L.trim D upto).1.synced = L.synced ∧ (L.trim D upto).1.fr = L.fr ∧ (L.trim D upto).1.n = L.n ∧ (L.trim D upto).2.1.waits = [] ∧ (D.fuel < 0 → (L.trim D upto).2.1.fuel = D.fuel)) ∨
    (0 ≤ upto ∧ upto ≤ (L.synced : Int) ∧ (L.trim D upto).2.2 = 10 ∧ (L.trim D upto).1 = { L with dead := true } ∧ (L.trim D upto).2.1.dead = true ∧ Safe (L.trim D upto).2.1 L.fr L.n all (fun t s => (t = T ∨ t = max T upto.toNat) ∧ s = L.synced) ∧ 0 ≤ D.fuel) := by
  by_cases hu : upto < 0 ∨ (L.synced : Int) < upto
  · left
    refine ⟨hu, ?_⟩
    rw [LSt.trim, if_neg (by rw [h.alive]; decide), if_pos hu]
  · right
    have h2 := h.ok.two
    have hfit := h.fit
    have hlow := h.low
    have hhigh := h.high
    obtain ⟨U, hU⟩ : ∃ U, max T upto.toNat = U := ⟨_, rfl⟩
    have hTU : T ≤ U := by omega
    have hUs : U ≤ L.synced := by omega
    have hct := trimTo_number L.n h2 upto (all.drop T) (T + 1) L.start L.used h.ok.start h.used (U - T) (by omega) (by rw [List.length_drop]; omega)
    rw [List.drop_drop, show T + (U - T) = U by omega, show T + 1 + (U - T) = U + 1 by omega] at hct
    have htk : (all.drop T).take (U - T) = seg all T U := by
      rw [seg_split (s := U) hTU (by omega), List.take_append_of_le_length (by rw [seg_length (by omega)]; exact Nat.le_refl _), List.take_of_length_le (by rw [seg_length (by omega)]; exact Nat.le_refl _)]
    rw [htk] at hct
    obtain ⟨L1, hL1⟩ : ∃ L1, L.cut upto = L1 := ⟨_, rfl⟩
    have hcut : L1 = { L with start := (L.start + needsB (seg all T U)) % (L.n - 1), used := needsB (all.drop U), list := number (U + 1) (all.drop U) } := by
      rw [← hL1, LSt.cut, h.list, hct]
    have hfirst : L1.first = U + 1 := by
      rw [hcut, LSt.first]
      cases hc : all.drop U with
      | nil =>
        have h3 := List.drop_eq_nil_iff.1 hc
        have h4 := h.last
        show L.last + 1 = U + 1
        omega
      | cons b r => rfl
    have f1 : L1.fr = L.fr := by rw [hcut]
    have f2 : L1.n = L.n := by rw [hcut]
    have f3 : L1.synced = L.synced := by rw [hcut]
    have hok1 : L1.Ok := by rw [← hL1]; exact h.ok.cut upto
    have e0 : L.trim D upto = if (L1.mark D).2.2 = 0 then L1.mark D else ({ (L1.mark D).1 with start := L.start, used := L.used, list := L.list }, (L1.mark D).2.1, (L1.mark D).2.2) := by
      rw [LSt.trim, if_neg (by rw [h.alive]; decide), if_neg hu, hL1]
    have hall : all.drop T = seg all T U ++ all.drop U := seg_split hTU (by omega)
    have hse : seg all T L.synced = seg all T U ++ seg all U L.synced := seg_split2 hTU hUs hhigh
    have hmk : L1.mk_ = markB L.fr L.n L1.start (U + 1) L.synced := by rw [LSt.mk_, hfirst, f1, f2, f3]
    have ring1 : ∀ i, ringAt L.fr L.n (L1.start + i) = ringAt L.fr L.n (L.start + (needsB (seg all T U) + i)) := by
      intro i
      rw [hcut]
      show ringAt L.fr L.n ((L.start + needsB (seg all T U)) % (L.n - 1) + i) = _
      rw [ringAt_mod, Nat.add_assoc]
    -- behind the mark: what lies there
    have goodNew : ∀ S : List Bytes, S.length = D.secs.length → S[L.fr]? = some (pad L1.mk_) → (∀ i, i < needsB (seg all T L.synced) → S[ringAt L.fr L.n (L.start + i)]? = D.secs[ringAt L.fr L.n (L.start + i)]?) → Good S L.fr L.n L1.start (U + 1) L.synced (seg all U L.synced) := by
      intro S hSl hS1 hS2
      have hl := h.good.laid
      rw [hse, laid_append] at hl
      have hl2 := hl.2
      rw [seg_length (by omega), show T + 1 + (U - T) = U + 1 by omega] at hl2
      refine ⟨by rw [hS1, hmk], ?_, by rw [seg_length hhigh]; omega, Nat.le_add_left _ _, by have := hok1.start; rwa [f2] at this, ?_, h2, by omega, by have := h.ok.last; have := h.ok.synced; omega⟩
      · have h3 := laid_mod _ _ _ _ _ _ hl2
        have h4 : L1.start = (L.start + needsB (seg all T U)) % (L.n - 1) := by rw [hcut]
        rw [h4]
        refine laid_congr _ _ _ (fun i hi => ?_) h3
        rw [ringAt_mod, Nat.add_assoc]
        exact hS2 _ (by rw [hse, needsB_append]; omega)
      · have := h.good.need
        rw [hse, needsB_append] at this
        omega
    have apart : ∀ p ∈ D.waits, p.1 ≠ L.fr ∧ ∀ i, i < needsB (seg all T L.synced) → p.1 ≠ ringAt L.fr L.n (L.start + i) := h.waits
    have goodKept : ∀ ws : List (Nat × Bytes), (∀ p ∈ ws, p ∈ D.waits) → Good ((done D.secs ws).set L.fr (pad L1.mk_)) L.fr L.n L1.start (U + 1) L.synced (seg all U L.synced) := by
      intro ws hws
      refine goodNew _ (by rw [List.length_set, done_length]) (set_get_self (by rw [done_length]; omega)) (fun i hi => ?_)
      rw [List.getElem?_set_ne (ringAt_ne _ _ _).symm]
      exact done_get_avoid _ _ _ (fun p hp => (apart p (hws p hp)).2 i hi)
    rw [hU]
    rcases mark_spec L1 D h.live (by rw [f1]; omega) with ⟨a1, a2, a3, a4, a5, a6⟩ | ⟨a1, a2, a3, a4, a5, a6⟩
    · left
      rw [e0, if_pos a1]
      refine ⟨by omega, by omega, a1, ?_, by rw [a2, f3], by rw [a2, f1], by rw [a2, f2], a5, a6⟩
      rw [a2]
      have hg : Good (L1.mark D).2.1.secs L1.fr L1.n L1.start (U + 1) L1.synced (seg all U L1.synced) := by
        rw [a4, f1, f2, f3]
        exact goodKept D.waits (fun p hp => hp)
      refine ⟨hok1, by rw [hcut]; exact h.alive, a3, by rw [a4, f1, f2, List.length_set, done_length]; exact hfit, by rw [hcut], by rw [hcut]; exact h.last, by rw [hcut], by rw [f3]; exact hUs, hg, ?_, fun p hp => by rw [a5] at hp; cases hp⟩
      rw [a5]
      show laid (L1.mark D).2.1.secs L1.fr L1.n L1.start (U + 1) (all.drop U)
      rw [a4, f1, f2]
      have hv := h.vis
      rw [hall, laid_append] at hv
      have hv2 := hv.2
      rw [seg_length (by omega), show T + 1 + (U - T) = U + 1 by omega] at hv2
      have h3 := laid_mod _ _ _ _ _ _ hv2
      have h4 : L1.start = (L.start + needsB (seg all T U)) % (L.n - 1) := by rw [hcut]
      rw [h4]
      exact laid_congr _ _ _ (fun i hi => List.getElem?_set_ne (ringAt_ne _ _ _).symm) h3
    · right
      rw [e0, if_neg (by rw [a1]; decide)]
      refine ⟨by omega, by omega, a1, by rw [a2, hcut], a3, ?_, a6⟩
      intro keep
      show ∃ t s, _ ∧ Back (done (L1.mark D).2.1.secs (kept (L1.mark D).2.1.waits keep)) L.fr L.n t s all
      rw [a4]
      have old : Back (done D.secs (kept D.waits keep)) L.fr L.n T L.synced all := ⟨hlow, hhigh, L.start, h.good.avoid _ (fun p hp => h.waits p (kept_sub _ _ p hp))⟩
      rcases a5 with a5 | a5
      · rw [a5]
        exact ⟨T, L.synced, ⟨.inl rfl, rfl⟩, old⟩
      · rw [a5, kept_snoc]
        split
        · refine ⟨U, L.synced, ⟨.inr rfl, rfl⟩, hUs, hhigh, L1.start, ?_⟩
          rw [done_append, f1]
          exact goodKept _ (kept_sub _ _)
        · rw [List.append_nil]
          exact ⟨T, L.synced, ⟨.inl rfl, rfl⟩, old⟩

/-- Open: what is read, on a disk that shows V. -/
theorem opened_inv {D : DSt} {fr n T s start : Nat} {all : List Batch} (hd : D.dead = false) (hT : T ≤ s) (hs : s ≤ all.length) (hm : fr + n ≤ 4096)
    (hg : Good D.secs fr n start (T + 1) s (seg all T s)) (hw : ∀ p ∈ D.waits, p.1 ≠ fr ∧ ∀ i, i < needsB (seg all T s) → p.1 ≠ ringAt fr n (start + i)) :
    Inv (LSt.opened fr n start (T + 1) s (seg all T s)) D T (all.take s) := by
  have e1 : (all.take s).drop T = seg all T s := rfl
  have e2 : (all.take s).length = s := by rw [List.length_take, Nat.min_eq_left hs]
  refine ⟨⟨hg.two, hm, hg.start, hg.need, number_sum _ _, fun p hp => (number_mem _ _ p hp).1, fun p hp => ?_, hg.big, Nat.le_refl _⟩, rfl, hd, hg.fit, by rw [e1]; rfl, e2.symm, by rw [e1]; rfl, hT, ?_, ?_, ?_⟩
  · have := (number_mem _ _ p hp).2.2
    rw [seg_length hs] at this
    show p.1 ≤ s
    omega
  · show Good _ fr n start (T + 1) s (seg (all.take s) T s)
    rw [seg_take (Nat.le_refl _)]; exact hg
  · rw [e1]
    exact laid_congr _ _ _ (fun i hi => done_get_avoid _ _ _ (fun p hp => (hw p hp).2 i hi)) hg.laid
  · show ∀ p ∈ D.waits, p.1 ≠ fr ∧ ∀ i, i < needsB (seg (all.take s) T s) → p.1 ≠ ringAt fr n (start + i)
    rw [seg_take (Nat.le_refl _)]; exact hw
/-- Behind a crash. -/
theorem crash_inv {D : DSt} {fr n : Nat} {all : List Batch} {ok : Nat → Nat → Prop} (hm : fr + n ≤ 4096) (h : Safe D fr n all ok) (keep : List Bool) :
    ∃ T s start, ok T s ∧ T ≤ s ∧ s ≤ all.length ∧ Good (D.crash keep).secs fr n start (T + 1) s (seg all T s) ∧ Inv (LSt.opened fr n start (T + 1) s (seg all T s)) (D.crash keep) T (all.take s) := by
  obtain ⟨T, s, h1, h2, h3, start, h4⟩ := h keep
  exact ⟨T, s, start, h1, h2, h3, h4, opened_inv rfl h2 h3 hm h4 (fun p hp => by cases hp)⟩
/-- A log that is opened anew, the disk alive. -/
theorem Inv.reopen {L : LSt} {D : DSt} {T : Nat} {all : List Batch} (h : Inv L D T all) :
    Good (done D.secs D.waits) L.fr L.n L.start (T + 1) L.synced (seg all T L.synced) ∧ Inv (LSt.opened L.fr L.n L.start (T + 1) L.synced (seg all T L.synced)) D T (all.take L.synced) :=
  ⟨h.good.avoid _ h.waits, opened_inv h.live h.low h.high h.ok.fit h.good h.waits⟩
end Go.Proofs.Ytmefbbmjamdnjaa
/- The log of chapter 3 in plain words: what is read back of a batch, and of the log's own sector. No program here. -/
namespace Go.Proofs.Ytmefbbmjamdnjaa
set_option linter.unusedSimpArgs false
set_option linter.unusedVariables false
set_option maxRecDepth 100000

theorem piece {α : Type} (a b c : List α) {i k : Nat} (hi : a.length = i) (hk : b.length = k) : ((a ++ (b ++ c)).drop i).take k = b := by
  subst hi; subst hk
  rw [List.drop_left, List.take_left]
theorem pad_take {l : Bytes} {k : Nat} (h : k ≤ l.length) : (pad l).take k = l.take k := by rw [pad, List.take_append_of_le_length h]
theorem pad_piece {l : Bytes} {i k : Nat} (h : i + k ≤ l.length) : ((pad l).drop i).take k = (l.drop i).take k := by
  rw [pad, List.drop_append_of_le_length (by omega), List.take_append_of_le_length (by rw [List.length_drop]; omega)]

/-! A batch. -/
theorem enc_body (num : Nat) (b : Batch) : (encB num b).drop 16 = bodyB b := by
  rw [encB]
  have h := headB_length num (bodyB b)
  rw [← h, List.drop_left]
theorem enc_size (num : Nat) (b : Batch) (h : bytesOf b < 4294967296) : unB ((encB num b).take 4) = bytesOf b := by
  have e : (encB num b).take 4 = leB 4 (16 + (bodyB b).length) := by
    rw [encB, headB, List.append_assoc, List.append_assoc]
    have := leB_length 4 (16 + (bodyB b).length)
    exact List.take_left' this
  rw [e, ← bytesOf_eq, unB_leB _ _ (by omega)]
theorem enc_num (num : Nat) (b : Batch) (h : num < 18446744073709551616) : unB (((encB num b).drop 4).take 8) = num := by
  have e : ((encB num b).drop 4).take 8 = leB 8 num := by
    rw [encB, headB, List.append_assoc, List.append_assoc]
    exact piece _ _ _ (leB_length _ _) (leB_length _ _)
  rw [e, unB_leB _ _ (by omega)]
theorem enc_sum (num : Nat) (b : Batch) : unB (((encB num b).drop 12).take 4) = (updB 0 (bodyB b)).toNat := by
  have e : ((encB num b).drop 12).take 4 = leB 4 (updB 0 (bodyB b)).toNat := by
    rw [encB, headB, List.append_assoc]
    exact piece _ _ _ (by rw [List.length_append, leB_length, leB_length]) (leB_length _ _)
  rw [e, unB_leB _ _ (by have := (updB 0 (bodyB b)).isLt; omega)]
theorem enc_ge (num : Nat) (b : Batch) : 16 ≤ (encB num b).length := by rw [encB_length, bytesOf_eq]; omega
theorem chunk0_take {e : Bytes} {k : Nat} (hk : k ≤ 512) : (chunk e 0).take k = e.take k := by
  rw [chunk, Nat.zero_mul, List.drop_zero, List.take_take, Nat.min_eq_left hk]
theorem chunk0_piece {e : Bytes} {i k : Nat} (hk : i + k ≤ 512) (hl : i + k ≤ e.length) : ((pad (chunk e 0)).drop i).take k = (e.drop i).take k := by
  have h1 : i + k ≤ (chunk e 0).length := by rw [chunk, Nat.zero_mul, List.drop_zero, List.length_take]; omega
  rw [pad_piece h1, chunk, Nat.zero_mul, List.drop_zero, List.drop_take, List.take_take, Nat.min_eq_left (by omega)]
/-- What was read of a batch: its sectors, one behind the other. -/
def catP (e : Bytes) (i : Nat) : Bytes := (List.range i).flatMap fun j => pad (chunk e j)
theorem catP_succ (e : Bytes) (i : Nat) : catP e (i + 1) = catP e i ++ pad (chunk e i) := by rw [catP, List.range_succ, List.flatMap_append]; simp [catP]
theorem catP_one (e : Bytes) : catP e 1 = pad (chunk e 0) := by simp [catP, List.range_succ]
theorem catP_length (e : Bytes) (i : Nat) : (catP e i).length = 512 * i := by
  induction i with
  | zero => rfl
  | succ i ih => rw [catP_succ, List.length_append, ih, pad_length (chunk_le _ _)]; omega
theorem chunk_pad (e : Bytes) (K j : Nat) (h1 : j * 512 ≤ e.length) (h2 : j * 512 + 512 ≤ e.length + K) : pad (chunk e j) = ((e ++ List.replicate K 0).drop (j * 512)).take 512 := by
  rw [List.drop_append_of_le_length h1, List.take_append, List.take_replicate, pad, chunk]
  have e1 : 512 - ((e.drop (j * 512)).take 512).length = min (512 - (e.drop (j * 512)).length) K := by
    rw [List.length_take, List.length_drop]; omega
  rw [e1]
theorem catP_eq (e : Bytes) (K i : Nat) (h : i * 512 ≤ e.length + K) (hj : ∀ j, j < i → j * 512 ≤ e.length) : catP e i = (e ++ List.replicate K 0).take (i * 512) := by
  induction i with
  | zero => simp [catP]
  | succ i ih =>
    have h0 : (i + 1) * 512 = i * 512 + 512 := Nat.succ_mul i 512
    rw [h0] at h ⊢
    have h1 := ih (by omega) (fun j hji => hj j (by omega))
    have h2 := chunk_pad e K i (hj i (by omega)) (by omega)
    have h3 := catP_succ e i
    rw [h3, h1, h2, List.take_add]
theorem catP_take {e : Bytes} {n : Nat} (hn : n = (e.length + 511) / 512) : (catP e n).take e.length = e := by
  rw [catP_eq e (n * 512 - e.length) n (by omega) (fun j hj => by omega), List.take_take, Nat.min_eq_left (by omega), List.take_append_of_le_length (Nat.le_refl _), List.take_length]

/-! The records of a body. -/
theorem body_cons (r : ByteArray) (t : Batch) : bodyB (r :: t) = leB 4 r.size ++ (r.data.toList ++ bodyB t) := by simp [bodyB]
theorem body_size (r : ByteArray) (t : Batch) (h : r.size < 4294967296) : unB ((bodyB (r :: t)).take 4) = r.size := by
  rw [body_cons, List.take_left' (leB_length _ _), unB_leB _ _ (by omega)]
theorem body_rec (r : ByteArray) (t : Batch) : ((bodyB (r :: t)).drop 4).take r.size = r.data.toList := by
  rw [body_cons]
  exact piece _ _ _ (leB_length _ _) (by rw [Array.length_toList]; rfl)
theorem body_rest (r : ByteArray) (t : Batch) : (bodyB (r :: t)).drop (4 + r.size) = bodyB t := by
  rw [body_cons, ← List.append_assoc]
  refine List.drop_left' ?_
  have : r.data.toList.length = r.size := by rw [Array.length_toList]; rfl
  rw [List.length_append, leB_length, this]
theorem body_length (r : ByteArray) (t : Batch) : (bodyB (r :: t)).length = 4 + r.size + (bodyB t).length := by
  have : r.data.toList.length = r.size := by rw [Array.length_toList]; rfl
  rw [body_cons, List.length_append, List.length_append, leB_length, this]; omega

/-! The log's own sector. -/
def fieldOf (m : Bytes) (i : Nat) : Nat := unB ((m.drop (12 + 8 * i)).take 8)
theorem mark_magic (fr n st fi sy : Nat) : (pad (markB fr n st fi sy)).take 12 = magicB := by
  rw [pad_take (by rw [markB_length]; omega), markB, fieldsB]
  simp only [List.append_assoc]
  exact List.take_left' rfl
theorem mark_piece (fr n st fi sy : Nat) {i k : Nat} (h : i + k ≤ 56) : ((pad (markB fr n st fi sy)).drop i).take k = ((markB fr n st fi sy).drop i).take k := pad_piece (by rw [markB_length]; exact h)
theorem mark_f0 (fr n st fi sy : Nat) (h : fr < 18446744073709551616) : fieldOf (pad (markB fr n st fi sy)) 0 = fr := by
  rw [fieldOf, mark_piece _ _ _ _ _ (by omega), markB, fieldsB]
  simp only [List.append_assoc]
  rw [piece (i := 12 + 8 * 0) magicB (leB 8 fr) _ rfl (leB_length _ _), unB_leB _ _ (by omega)]
theorem mark_f1 (fr n st fi sy : Nat) (h : n < 18446744073709551616) : fieldOf (pad (markB fr n st fi sy)) 1 = n := by
  rw [fieldOf, mark_piece _ _ _ _ _ (by omega), markB, fieldsB]
  have e : magicB ++ leB 8 fr ++ leB 8 n ++ leB 8 st ++ leB 8 fi ++ leB 8 sy ++ leB 4 (updB 0 (magicB ++ leB 8 fr ++ leB 8 n ++ leB 8 st ++ leB 8 fi ++ leB 8 sy)).toNat = (magicB ++ leB 8 fr) ++ (leB 8 n ++ (leB 8 st ++ leB 8 fi ++ leB 8 sy ++ leB 4 (updB 0 (magicB ++ leB 8 fr ++ leB 8 n ++ leB 8 st ++ leB 8 fi ++ leB 8 sy)).toNat)) := by simp only [List.append_assoc]
  rw [e, piece _ _ _ (by simp [magicB, leB_length]) (leB_length _ _), unB_leB _ _ (by omega)]
theorem mark_f2 (fr n st fi sy : Nat) (h : st < 18446744073709551616) : fieldOf (pad (markB fr n st fi sy)) 2 = st := by
  rw [fieldOf, mark_piece _ _ _ _ _ (by omega), markB, fieldsB]
  have e : magicB ++ leB 8 fr ++ leB 8 n ++ leB 8 st ++ leB 8 fi ++ leB 8 sy ++ leB 4 (updB 0 (magicB ++ leB 8 fr ++ leB 8 n ++ leB 8 st ++ leB 8 fi ++ leB 8 sy)).toNat = (magicB ++ leB 8 fr ++ leB 8 n) ++ (leB 8 st ++ (leB 8 fi ++ leB 8 sy ++ leB 4 (updB 0 (magicB ++ leB 8 fr ++ leB 8 n ++ leB 8 st ++ leB 8 fi ++ leB 8 sy)).toNat)) := by simp only [List.append_assoc]
  rw [e, piece _ _ _ (by simp [magicB, leB_length]) (leB_length _ _), unB_leB _ _ (by omega)]
theorem mark_f3 (fr n st fi sy : Nat) (h : fi < 18446744073709551616) : fieldOf (pad (markB fr n st fi sy)) 3 = fi := by
  rw [fieldOf, mark_piece _ _ _ _ _ (by omega), markB, fieldsB]
  have e : magicB ++ leB 8 fr ++ leB 8 n ++ leB 8 st ++ leB 8 fi ++ leB 8 sy ++ leB 4 (updB 0 (magicB ++ leB 8 fr ++ leB 8 n ++ leB 8 st ++ leB 8 fi ++ leB 8 sy)).toNat = (magicB ++ leB 8 fr ++ leB 8 n ++ leB 8 st) ++ (leB 8 fi ++ (leB 8 sy ++ leB 4 (updB 0 (magicB ++ leB 8 fr ++ leB 8 n ++ leB 8 st ++ leB 8 fi ++ leB 8 sy)).toNat)) := by simp only [List.append_assoc]
  rw [e, piece _ _ _ (by simp [magicB, leB_length]) (leB_length _ _), unB_leB _ _ (by omega)]
theorem mark_f4 (fr n st fi sy : Nat) (h : sy < 18446744073709551616) : fieldOf (pad (markB fr n st fi sy)) 4 = sy := by
  rw [fieldOf, mark_piece _ _ _ _ _ (by omega), markB, fieldsB]
  have e : magicB ++ leB 8 fr ++ leB 8 n ++ leB 8 st ++ leB 8 fi ++ leB 8 sy ++ leB 4 (updB 0 (magicB ++ leB 8 fr ++ leB 8 n ++ leB 8 st ++ leB 8 fi ++ leB 8 sy)).toNat = (magicB ++ leB 8 fr ++ leB 8 n ++ leB 8 st ++ leB 8 fi) ++ (leB 8 sy ++ leB 4 (updB 0 (magicB ++ leB 8 fr ++ leB 8 n ++ leB 8 st ++ leB 8 fi ++ leB 8 sy)).toNat) := by simp only [List.append_assoc]
  rw [e, piece _ _ _ (by simp [magicB, leB_length]) (leB_length _ _), unB_leB _ _ (by omega)]
theorem mark_sum (fr n st fi sy : Nat) : unB (((pad (markB fr n st fi sy)).drop 52).take 4) = (updB 0 ((pad (markB fr n st fi sy)).take 52)).toNat := by
  rw [mark_piece _ _ _ _ _ (by omega), pad_take (by rw [markB_length]; omega), markB]
  have h := fieldsB_length fr n st fi sy
  have e1 : (fieldsB fr n st fi sy ++ leB 4 (updB 0 (fieldsB fr n st fi sy)).toNat).take 52 = fieldsB fr n st fi sy := List.take_left' h
  have e2 : (fieldsB fr n st fi sy ++ leB 4 (updB 0 (fieldsB fr n st fi sy)).toNat).drop 52 = leB 4 (updB 0 (fieldsB fr n st fi sy)).toNat := List.drop_left' h
  rw [e1, e2, List.take_of_length_le (by rw [leB_length]; exact Nat.le_refl _), unB_leB _ _ (by have := (updB 0 (fieldsB fr n st fi sy)).isLt; omega)]
end Go.Proofs.Ytmefbbmjamdnjaa
