/- The log of chapter 3 in plain words: numbers as bytes, batches, the log's own sector. No program here. -/
import Derived.Test.YtocameknhglklaaDiskM
import Derived.Test.YtocameknhglklaaCrcM
namespace Go.Proofs.Ytocameknhglklaa
set_option linter.unusedSimpArgs false

/-- A number's bytes, the least first. -/
def leB : Nat → Nat → Bytes
  | 0, _ => []
  | k + 1, n => UInt8.ofNat (n % 256) :: leB k (n / 256)
def unB : Bytes → Nat
  | [] => 0
  | b :: r => b.toNat + 256 * unB r
theorem leB_length : ∀ k n, (leB k n).length = k
  | 0, _ => rfl
  | k + 1, n => by rw [leB, List.length_cons, leB_length k]
theorem unB_leB : ∀ k n, n < 256 ^ k → unB (leB k n) = n
  | 0, n, h => by simp at h; rw [h]; rfl
  | k + 1, n, h => by
    rw [leB, unB, unB_leB k (n / 256) (by rw [Nat.pow_succ] at h; exact Nat.div_lt_of_lt_mul (by omega))]
    have : (UInt8.ofNat (n % 256)).toNat = n % 256 := by simp
    rw [this]; omega
theorem leB_snoc : ∀ k n, leB (k + 1) n = leB k n ++ [UInt8.ofNat (n / 256 ^ k % 256)]
  | 0, n => by simp [leB]
  | k + 1, n => by
    rw [leB, leB_snoc k (n / 256), leB, List.cons_append, Nat.div_div_eq_div_mul, Nat.pow_succ, Nat.mul_comm 256]
theorem unB_lt : ∀ b : Bytes, unB b < 256 ^ b.length
  | [] => by simp [unB]
  | b :: r => by
    have h1 := unB_lt r
    have h2 := b.toNat_lt
    rw [unB, List.length_cons, Nat.pow_succ]
    omega
theorem unB_append : ∀ a b : Bytes, unB (a ++ b) = unB a + 256 ^ a.length * unB b
  | [], b => by simp [unB]
  | x :: r, b => by
    rw [List.cons_append, unB, unB, unB_append r b, List.length_cons, Nat.pow_succ, Nat.mul_add]
    have : 256 * (256 ^ r.length * unB b) = 256 ^ r.length * 256 * unB b := by rw [← Nat.mul_assoc, Nat.mul_comm 256]
    omega

abbrev Batch := List ByteArray
def bodyB (b : Batch) : Bytes := b.flatMap fun r => leB 4 r.size ++ r.data.toList
def bytesOf (b : Batch) : Nat := b.foldl (fun n r => n + (4 + r.size)) 16
def needB (b : Batch) : Nat := (bytesOf b + 511) / 512
def headB (num : Nat) (bd : Bytes) : Bytes := leB 4 (16 + bd.length) ++ leB 8 num ++ leB 4 (updB 0 bd).toNat
def encB (num : Nat) (b : Batch) : Bytes := headB num (bodyB b) ++ bodyB b
theorem bytesOf_from (b : Batch) : ∀ n, b.foldl (fun n r => n + (4 + r.size)) n = n + (bodyB b).length := by
  induction b with
  | nil => intro n; simp [bodyB]
  | cons r t ih =>
    intro n
    have e : bodyB (r :: t) = (leB 4 r.size ++ r.data.toList) ++ bodyB t := by simp [bodyB]
    have : r.data.toList.length = r.size := by rw [Array.length_toList]; rfl
    rw [List.foldl_cons, ih, e, List.length_append, List.length_append, leB_length, this]; omega
theorem bytesOf_eq (b : Batch) : bytesOf b = 16 + (bodyB b).length := bytesOf_from b 16
theorem headB_length (num : Nat) (bd : Bytes) : (headB num bd).length = 16 := by simp [headB, leB_length]
theorem encB_length (num : Nat) (b : Batch) : (encB num b).length = bytesOf b := by rw [encB, List.length_append, headB_length, bytesOf_eq]
def magicB : Bytes := [100, 111, 99, 107, 101, 116, 32, 108, 111, 103, 32, 49]
def fieldsB (fr n start first synced : Nat) : Bytes := magicB ++ leB 8 fr ++ leB 8 n ++ leB 8 start ++ leB 8 first ++ leB 8 synced
def markB (fr n start first synced : Nat) : Bytes := fieldsB fr n start first synced ++ leB 4 (updB 0 (fieldsB fr n start first synced)).toNat
theorem fieldsB_length (fr n start first synced : Nat) : (fieldsB fr n start first synced).length = 52 := by simp [fieldsB, magicB, leB_length]
theorem markB_length (fr n start first synced : Nat) : (markB fr n start first synced).length = 56 := by simp [markB, fieldsB_length, leB_length]

/-- The log as its struct has it. -/
structure LSt where
  fr : Nat
  n : Nat
  start : Nat
  used : Nat
  list : List (Nat × Nat)
  last : Nat
  synced : Nat
  dead : Bool
structure LSt.Ok (L : LSt) : Prop where
  two : 2 ≤ L.n
  fit : L.fr + L.n ≤ 4096
  start : L.start < L.n - 1
  used : L.used ≤ L.n - 1
  sum : (L.list.map (·.2)).foldr (· + ·) 0 = L.used
  needs : ∀ p ∈ L.list, 1 ≤ p.2
  nums : ∀ p ∈ L.list, p.1 ≤ L.last
  last : L.last < 1000000000000000000
  synced : L.synced ≤ L.last
def LSt.first (L : LSt) : Nat := match L.list with | [] => L.last + 1 | p :: _ => p.1
def LSt.ring (L : LSt) (i : Nat) : Nat := L.fr + 1 + i % (L.n - 1)
def LSt.mk_ (L : LSt) : Bytes := markB L.fr L.n L.start L.first L.synced
theorem LSt.Ok.first_le {L : LSt} (h : L.Ok) : L.first ≤ L.last + 1 := by
  unfold LSt.first
  split
  · exact Nat.le_refl _
  · rename_i p r he
    have := h.nums p (by rw [he]; exact List.mem_cons_self ..)
    omega
theorem sum_ge_length : ∀ l : List (Nat × Nat), (∀ p ∈ l, 1 ≤ p.2) → l.length ≤ (l.map (·.2)).foldr (· + ·) 0
  | [], _ => Nat.zero_le _
  | p :: r, h => by
    have h1 := sum_ge_length r (fun q hq => h q (List.mem_cons_of_mem _ hq))
    have h2 := h p (List.mem_cons_self ..)
    simp only [List.map_cons, List.foldr_cons, List.length_cons]
    omega
theorem sum_ge_mem : ∀ (l : List (Nat × Nat)) (p : Nat × Nat), p ∈ l → p.2 ≤ (l.map (·.2)).foldr (· + ·) 0
  | q :: r, p, h => by
    simp only [List.map_cons, List.foldr_cons]
    rcases List.mem_cons.1 h with rfl | h
    · omega
    · have := sum_ge_mem r p h; omega
theorem LSt.Ok.length {L : LSt} (h : L.Ok) : L.list.length ≤ 4096 := by
  have h1 := sum_ge_length L.list h.needs
  have h2 := h.sum
  have h3 := h.used
  have h4 := h.fit
  omega

/-- mark, fail. -/
def LSt.fail (L : LSt) (e : Int) : LSt × Int := if e = 0 then (L, 0) else ({ L with dead := true }, 10)
def LSt.mark (L : LSt) (D : DSt) : LSt × DSt × Int :=
  let w := D.write L.fr L.mk_
  if w.2 = 0 then
    let f := w.1.flush
    ((L.fail f.2).1, f.1, (L.fail f.2).2)
  else ((L.fail w.2).1, w.1, (L.fail w.2).2)
end Go.Proofs.Ytocameknhglklaa
