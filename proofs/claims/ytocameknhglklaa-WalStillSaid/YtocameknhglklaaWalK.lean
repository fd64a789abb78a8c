/- The log of chapter 3 in plain words: what is read back of a batch, and of the log's own sector. No program here. -/
import Derived.Test.YtocameknhglklaaWalJ
namespace Go.Proofs.Ytocameknhglklaa
set_option linter.unusedSimpArgs false
set_option linter.unusedVariables false
set_option maxRecDepth 100000

theorem piece {α : Type} (a b c : List α) {i k : Nat} (hi : a.length = i) (hk : b.length = k) : ((a ++ (b ++ c)).drop i).take k = b := by
  subst hi; subst hk
  rw [List.drop_left, List.take_left]
theorem pad_take {l : Bytes} {k : Nat} (h : k ≤ l.length) : (pad l).take k = l.take k := by rw [pad, List.take_append_of_le_length h]
theorem pad_piece {l : Bytes} {i k : Nat} (h : i + k ≤ l.length) : ((pad l).drop i).take k = (l.drop i).take k := by
  rw [pad, List.drop_append_of_le_length (by omega), List.take_append_of_le_length (by rw [List.length_drop]; omega)]

/-! A batch. -/
theorem enc_body (num : Nat) (b : Batch) : (encB num b).drop 16 = bodyB b := by
  rw [encB]
  have h := headB_length num (bodyB b)
  rw [← h, List.drop_left]
theorem enc_size (num : Nat) (b : Batch) (h : bytesOf b < 4294967296) : unB ((encB num b).take 4) = bytesOf b := by
  have e : (encB num b).take 4 = leB 4 (16 + (bodyB b).length) := by
    rw [encB, headB, List.append_assoc, List.append_assoc]
    have := leB_length 4 (16 + (bodyB b).length)
    exact List.take_left' this
  rw [e, ← bytesOf_eq, unB_leB _ _ (by omega)]
theorem enc_num (num : Nat) (b : Batch) (h : num < 18446744073709551616) : unB (((encB num b).drop 4).take 8) = num := by
  have e : ((encB num b).drop 4).take 8 = leB 8 num := by
    rw [encB, headB, List.append_assoc, List.append_assoc]
    exact piece _ _ _ (leB_length _ _) (leB_length _ _)
  rw [e, unB_leB _ _ (by omega)]
theorem enc_sum (num : Nat) (b : Batch) : unB (((encB num b).drop 12).take 4) = (updB 0 (bodyB b)).toNat := by
  have e : ((encB num b).drop 12).take 4 = leB 4 (updB 0 (bodyB b)).toNat := by
    rw [encB, headB, List.append_assoc]
    exact piece _ _ _ (by rw [List.length_append, leB_length, leB_length]) (leB_length _ _)
  rw [e, unB_leB _ _ (by have := (updB 0 (bodyB b)).isLt; omega)]
theorem enc_ge (num : Nat) (b : Batch) : 16 ≤ (encB num b).length := by rw [encB_length, bytesOf_eq]; omega
theorem chunk0_take {e : Bytes} {k : Nat} (hk : k ≤ 512) : (chunk e 0).take k = e.take k := by
  rw [chunk, Nat.zero_mul, List.drop_zero, List.take_take, Nat.min_eq_left hk]
theorem chunk0_piece {e : Bytes} {i k : Nat} (hk : i + k ≤ 512) (hl : i + k ≤ e.length) : ((pad (chunk e 0)).drop i).take k = (e.drop i).take k := by
  have h1 : i + k ≤ (chunk e 0).length := by rw [chunk, Nat.zero_mul, List.drop_zero, List.length_take]; omega
  rw [pad_piece h1, chunk, Nat.zero_mul, List.drop_zero, List.drop_take, List.take_take, Nat.min_eq_left (by omega)]
/-- What was read of a batch: its sectors, one behind the other. -/
def catP (e : Bytes) (i : Nat) : Bytes := (List.range i).flatMap fun j => pad (chunk e j)
theorem catP_succ (e : Bytes) (i : Nat) : catP e (i + 1) = catP e i ++ pad (chunk e i) := by rw [catP, List.range_succ, List.flatMap_append]; simp [catP]
theorem catP_one (e : Bytes) : catP e 1 = pad (chunk e 0) := by simp [catP, List.range_succ]
theorem catP_length (e : Bytes) (i : Nat) : (catP e i).length = 512 * i := by
  induction i with
  | zero => rfl
  | succ i ih => rw [catP_succ, List.length_append, ih, pad_length (chunk_le _ _)]; omega
theorem chunk_pad (e : Bytes) (K j : Nat) (h1 : j * 512 ≤ e.length) (h2 : j * 512 + 512 ≤ e.length + K) : pad (chunk e j) = ((e ++ List.replicate K 0).drop (j * 512)).take 512 := by
  rw [List.drop_append_of_le_length h1, List.take_append, List.take_replicate, pad, chunk]
  have e1 : 512 - ((e.drop (j * 512)).take 512).length = min (512 - (e.drop (j * 512)).length) K := by
    rw [List.length_take, List.length_drop]; omega
  rw [e1]
theorem catP_eq (e : Bytes) (K i : Nat) (h : i * 512 ≤ e.length + K) (hj : ∀ j, j < i → j * 512 ≤ e.length) : catP e i = (e ++ List.replicate K 0).take (i * 512) := by
  induction i with
  | zero => simp [catP]
  | succ i ih =>
    have h0 : (i + 1) * 512 = i * 512 + 512 := Nat.succ_mul i 512
    rw [h0] at h ⊢
    have h1 := ih (by omega) (fun j hji => hj j (by omega))
    have h2 := chunk_pad e K i (hj i (by omega)) (by omega)
    have h3 := catP_succ e i
    rw [h3, h1, h2, List.take_add]
theorem catP_take {e : Bytes} {n : Nat} (hn : n = (e.length + 511) / 512) : (catP e n).take e.length = e := by
  rw [catP_eq e (n * 512 - e.length) n (by omega) (fun j hj => by omega), List.take_take, Nat.min_eq_left (by omega), List.take_append_of_le_length (Nat.le_refl _), List.take_length]

/-! The records of a body. -/
theorem body_cons (r : ByteArray) (t : Batch) : bodyB (r :: t) = leB 4 r.size ++ (r.data.toList ++ bodyB t) := by simp [bodyB]
theorem body_size (r : ByteArray) (t : Batch) (h : r.size < 4294967296) : unB ((bodyB (r :: t)).take 4) = r.size := by
  rw [body_cons, List.take_left' (leB_length _ _), unB_leB _ _ (by omega)]
theorem body_rec (r : ByteArray) (t : Batch) : ((bodyB (r :: t)).drop 4).take r.size = r.data.toList := by
  rw [body_cons]
  exact piece _ _ _ (leB_length _ _) (by rw [Array.length_toList]; rfl)
theorem body_rest (r : ByteArray) (t : Batch) : (bodyB (r :: t)).drop (4 + r.size) = bodyB t := by
  rw [body_cons, ← List.append_assoc]
  refine List.drop_left' ?_
  have : r.data.toList.length = r.size := by rw [Array.length_toList]; rfl
  rw [List.length_append, leB_length, this]
theorem body_length (r : ByteArray) (t : Batch) : (bodyB (r :: t)).length = 4 + r.size + (bodyB t).length := by
  have : r.data.toList.length = r.size := by rw [Array.length_toList]; rfl
  rw [body_cons, List.length_append, List.length_append, leB_length, this]; omega

/-! The log's own sector. -/
def fieldOf (m : Bytes) (i : Nat) : Nat := unB ((m.drop (12 + 8 * i)).take 8)
theorem mark_magic (fr n st fi sy : Nat) : (pad (markB fr n st fi sy)).take 12 = magicB := by
  rw [pad_take (by rw [markB_length]; omega), markB, fieldsB]
  simp only [List.append_assoc]
  exact List.take_left' rfl
theorem mark_piece (fr n st fi sy : Nat) {i k : Nat} (h : i + k ≤ 56) : ((pad (markB fr n st fi sy)).drop i).take k = ((markB fr n st fi sy).drop i).take k := pad_piece (by rw [markB_length]; exact h)
theorem mark_f0 (fr n st fi sy : Nat) (h : fr < 18446744073709551616) : fieldOf (pad (markB fr n st fi sy)) 0 = fr := by
  rw [fieldOf, mark_piece _ _ _ _ _ (by omega), markB, fieldsB]
  simp only [List.append_assoc]
  rw [piece (i := 12 + 8 * 0) magicB (leB 8 fr) _ rfl (leB_length _ _), unB_leB _ _ (by omega)]
theorem mark_f1 (fr n st fi sy : Nat) (h : n < 18446744073709551616) : fieldOf (pad (markB fr n st fi sy)) 1 = n := by
  rw [fieldOf, mark_piece _ _ _ _ _ (by omega), markB, fieldsB]
  have e : magicB ++ leB 8 fr ++ leB 8 n ++ leB 8 st ++ leB 8 fi ++ leB 8 sy ++ leB 4 (updB 0 (magicB ++ leB 8 fr ++ leB 8 n ++ leB 8 st ++ leB 8 fi ++ leB 8 sy)).toNat = (magicB ++ leB 8 fr) ++ (leB 8 n ++ (leB 8 st ++ leB 8 fi ++ leB 8 sy ++ leB 4 (updB 0 (magicB ++ leB 8 fr ++ leB 8 n ++ leB 8 st ++ leB 8 fi ++ leB 8 sy)).toNat)) := by simp only [List.append_assoc]
  rw [e, piece _ _ _ (by simp [magicB, leB_length]) (leB_length _ _), unB_leB _ _ (by omega)]
theorem mark_f2 (fr n st fi sy : Nat) (h : st < 18446744073709551616) : fieldOf (pad (markB fr n st fi sy)) 2 = st := by
  rw [fieldOf, mark_piece _ _ _ _ _ (by omega), markB, fieldsB]
  have e : magicB ++ leB 8 fr ++ leB 8 n ++ leB 8 st ++ leB 8 fi ++ leB 8 sy ++ leB 4 (updB 0 (magicB ++ leB 8 fr ++ leB 8 n ++ leB 8 st ++ leB 8 fi ++ leB 8 sy)).toNat = (magicB ++ leB 8 fr ++ leB 8 n) ++ (leB 8 st ++ (leB 8 fi ++ leB 8 sy ++ leB 4 (updB 0 (magicB ++ leB 8 fr ++ leB 8 n ++ leB 8 st ++ leB 8 fi ++ leB 8 sy)).toNat)) := by simp only [List.append_assoc]
  rw [e, piece _ _ _ (by simp [magicB, leB_length]) (leB_length _ _), unB_leB _ _ (by omega)]
theorem mark_f3 (fr n st fi sy : Nat) (h : fi < 18446744073709551616) : fieldOf (pad (markB fr n st fi sy)) 3 = fi := by
  rw [fieldOf, mark_piece _ _ _ _ _ (by omega), markB, fieldsB]
  have e : magicB ++ leB 8 fr ++ leB 8 n ++ leB 8 st ++ leB 8 fi ++ leB 8 sy ++ leB 4 (updB 0 (magicB ++ leB 8 fr ++ leB 8 n ++ leB 8 st ++ leB 8 fi ++ leB 8 sy)).toNat = (magicB ++ leB 8 fr ++ leB 8 n ++ leB 8 st) ++ (leB 8 fi ++ (leB 8 sy ++ leB 4 (updB 0 (magicB ++ leB 8 fr ++ leB 8 n ++ leB 8 st ++ leB 8 fi ++ leB 8 sy)).toNat)) := by simp only [List.append_assoc]
  rw [e, piece _ _ _ (by simp [magicB, leB_length]) (leB_length _ _), unB_leB _ _ (by omega)]
theorem mark_f4 (fr n st fi sy : Nat) (h : sy < 18446744073709551616) : fieldOf (pad (markB fr n st fi sy)) 4 = sy := by
  rw [fieldOf, mark_piece _ _ _ _ _ (by omega), markB, fieldsB]
  have e : magicB ++ leB 8 fr ++ leB 8 n ++ leB 8 st ++ leB 8 fi ++ leB 8 sy ++ leB 4 (updB 0 (magicB ++ leB 8 fr ++ leB 8 n ++ leB 8 st ++ leB 8 fi ++ leB 8 sy)).toNat = (magicB ++ leB 8 fr ++ leB 8 n ++ leB 8 st ++ leB 8 fi) ++ (leB 8 sy ++ leB 4 (updB 0 (magicB ++ leB 8 fr ++ leB 8 n ++ leB 8 st ++ leB 8 fi ++ leB 8 sy)).toNat) := by simp only [List.append_assoc]
  rw [e, piece _ _ _ (by simp [magicB, leB_length]) (leB_length _ _), unB_leB _ _ (by omega)]
theorem mark_sum (fr n st fi sy : Nat) : unB (((pad (markB fr n st fi sy)).drop 52).take 4) = (updB 0 ((pad (markB fr n st fi sy)).take 52)).toNat := by
  rw [mark_piece _ _ _ _ _ (by omega), pad_take (by rw [markB_length]; omega), markB]
  have h := fieldsB_length fr n st fi sy
  have e1 : (fieldsB fr n st fi sy ++ leB 4 (updB 0 (fieldsB fr n st fi sy)).toNat).take 52 = fieldsB fr n st fi sy := List.take_left' h
  have e2 : (fieldsB fr n st fi sy ++ leB 4 (updB 0 (fieldsB fr n st fi sy)).toNat).drop 52 = leB 4 (updB 0 (fieldsB fr n st fi sy)).toNat := List.drop_left' h
  rw [e1, e2, List.take_of_length_le (by rw [leB_length]; exact Nat.le_refl _), unB_leB _ _ (by have := (updB 0 (fieldsB fr n st fi sy)).isLt; omega)]
end Go.Proofs.Ytocameknhglklaa
