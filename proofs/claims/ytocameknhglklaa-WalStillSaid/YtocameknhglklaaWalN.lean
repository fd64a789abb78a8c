/- The log of chapter 3 in plain words: what the calls do, and what lies on the disk. No program here. -/
import Derived.Test.YtocameknhglklaaWalM
namespace Go.Proofs.Ytocameknhglklaa
set_option linter.unusedSimpArgs false
set_option linter.unusedVariables false

def chunk (bs : Bytes) (j : Nat) : Bytes := (bs.drop (j * 512)).take 512
theorem chunk_le (bs : Bytes) (j : Nat) : (chunk bs j).length ≤ 512 := by rw [chunk, List.length_take]; omega
def ringAt (fr n i : Nat) : Nat := fr + 1 + i % (n - 1)
theorem LSt.ring_eq (L : LSt) (i : Nat) : L.ring i = ringAt L.fr L.n i := rfl
theorem ringAt_ne (fr n i : Nat) : ringAt fr n i ≠ fr := by unfold ringAt; omega
theorem ringAt_lt {n : Nat} (h : 2 ≤ n) (fr i : Nat) : ringAt fr n i < fr + n := by
  have := Nat.mod_lt i (show 0 < n - 1 by omega)
  unfold ringAt; omega
theorem ringAt_inj {fr n i j : Nat} (h2 : 2 ≤ n) (h : ringAt fr n i = ringAt fr n j) (hij : i ≤ j) (hlt : j - i < n - 1) : i = j := by
  have h1 : j % (n - 1) = i % (n - 1) := by unfold ringAt at h; omega
  have h3 := Nat.sub_mod_eq_zero_of_mod_eq h1
  rw [Nat.mod_eq_of_lt hlt] at h3
  omega
theorem ringAt_mod (fr n a j : Nat) : ringAt fr n (a % (n - 1) + j) = ringAt fr n (a + j) := by
  unfold ringAt
  rw [Nat.mod_add_mod]

def needsB (bs : List Batch) : Nat := (bs.map needB).foldr (· + ·) 0
theorem needsB_nil : needsB [] = 0 := rfl
theorem needsB_cons (b : Batch) (r : List Batch) : needsB (b :: r) = needB b + needsB r := rfl
theorem needsB_append (a b : List Batch) : needsB (a ++ b) = needsB a + needsB b := by
  induction a with
  | nil => simp [needsB_nil]
  | cons x r ih => rw [List.cons_append, needsB_cons, needsB_cons, ih]; omega
theorem needB_pos (b : Batch) : 1 ≤ needB b := by rw [needB, bytesOf_eq]; omega

/-- The batches bs lie in the ring of S, from place a on, the first with the number num. -/
def laid (S : List Bytes) (fr n : Nat) : Nat → Nat → List Batch → Prop
  | _, _, [] => True
  | a, num, b :: r => (∀ j, j < needB b → S[ringAt fr n (a + j)]? = some (pad (chunk (encB num b) j))) ∧ laid S fr n (a + needB b) (num + 1) r
theorem laid_append (S : List Bytes) (fr n : Nat) : ∀ (xs ys : List Batch) (a num : Nat), laid S fr n a num (xs ++ ys) ↔ laid S fr n a num xs ∧ laid S fr n (a + needsB xs) (num + xs.length) ys
  | [], ys, a, num => by simp [laid, needsB_nil]
  | x :: r, ys, a, num => by
    rw [List.cons_append, laid, laid, laid_append S fr n r ys, needsB_cons, List.length_cons, and_assoc, Nat.add_assoc, show num + 1 + r.length = num + (r.length + 1) by omega]
theorem laid_congr {S S' : List Bytes} {fr n : Nat} : ∀ (bs : List Batch) (a num : Nat), (∀ i, i < needsB bs → S'[ringAt fr n (a + i)]? = S[ringAt fr n (a + i)]?) → laid S fr n a num bs → laid S' fr n a num bs
  | [], _, _, _, _ => trivial
  | b :: r, a, num, h, H => by
    rw [needsB_cons] at h
    refine ⟨fun j hj => (h j (by omega)).trans (H.1 j hj), laid_congr r _ _ (fun i hi => ?_) H.2⟩
    rw [Nat.add_assoc]
    exact h _ (by omega)
theorem laid_mod (S : List Bytes) (fr n : Nat) : ∀ (bs : List Batch) (a num : Nat), laid S fr n a num bs → laid S fr n (a % (n - 1)) num bs
  | [], _, _, _ => trivial
  | b :: r, a, num, H => by
    refine ⟨fun j hj => by rw [ringAt_mod]; exact H.1 j hj, ?_⟩
    have h := laid_mod S fr n r _ _ H.2
    have e : ∀ x y, x % (n - 1) = y % (n - 1) → laid S fr n (x % (n - 1)) (num + 1) r → laid S fr n y (num + 1) r := fun x y hxy hh =>
      laid_congr' hxy r hh
    exact e _ _ (by rw [Nat.mod_add_mod]) h
where
  laid_congr' {S : List Bytes} {fr n num : Nat} {x y : Nat} (hxy : x % (n - 1) = y % (n - 1)) (r : List Batch) (hh : laid S fr n (x % (n - 1)) num r) : laid S fr n y num r := by
    have : ∀ (bs : List Batch) (a b num : Nat), a % (n - 1) = b % (n - 1) → laid S fr n a num bs → laid S fr n b num bs := by
      intro bs
      induction bs with
      | nil => intro _ _ _ _ _; trivial
      | cons c t ih =>
        intro a b num hab H
        refine ⟨fun j hj => ?_, ih _ _ _ ?_ H.2⟩
        · have := H.1 j hj
          unfold ringAt at this ⊢
          rwa [Nat.add_mod, hab, ← Nat.add_mod] at this
        · rw [Nat.add_mod, hab, ← Nat.add_mod]
    exact this r _ _ _ (by rw [Nat.mod_mod]; exact hxy) hh

theorem done_get_avoid (ws : List (Nat × Bytes)) : ∀ (S : List Bytes) (i : Nat), (∀ p ∈ ws, p.1 ≠ i) → (done S ws)[i]? = S[i]? := by
  induction ws with
  | nil => intro S i _; rfl
  | cons p r ih =>
    intro S i h
    show (done (S.set p.1 p.2) r)[i]? = _
    rw [ih _ i (fun q hq => h q (List.mem_cons_of_mem _ hq)), List.getElem?_set_ne (h p (List.mem_cons_self ..))]
theorem done_lastOf (ws : List (Nat × Bytes)) : ∀ (S : List Bytes) (i : Nat), i < S.length → (done S ws)[i]? = some (lastOf ws i (S.getD i [])) := by
  induction ws with
  | nil => intro S i h; simp [done, lastOf, h]
  | cons p r ih =>
    intro S i h
    show (done (S.set p.1 p.2) r)[i]? = _
    rw [ih _ i (by simpa using h), lastOf, lastOf, List.foldl_cons]
    congr 2
    by_cases e : p.1 = i
    · subst e; simp [h]
    · simp [e, List.getElem?_set_ne e]

/-- A log that can be opened: its own sector, and its batches bs (numbers first to synced). -/
structure Good (S : List Bytes) (fr n start first synced : Nat) (bs : List Batch) : Prop where
  mark : S[fr]? = some (pad (markB fr n start first synced))
  laid : laid S fr n start first bs
  len : bs.length + first = synced + 1
  pos : 1 ≤ first
  start : start < n - 1
  need : needsB bs ≤ n - 1
  two : 2 ≤ n
  fit : fr + n ≤ S.length
  big : synced < 1000000000000000000
theorem Good.avoid {S : List Bytes} {fr n start first synced : Nat} {bs : List Batch} (h : Good S fr n start first synced bs) (ws : List (Nat × Bytes)) (hw : ∀ p ∈ ws, p.1 ≠ fr ∧ ∀ i, i < needsB bs → p.1 ≠ ringAt fr n (start + i)) :
    Good (done S ws) fr n start first synced bs :=
  ⟨(done_get_avoid ws S fr (fun p hp => (hw p hp).1)).trans h.mark, laid_congr bs _ _ (fun i hi => done_get_avoid ws S _ (fun p hp => (hw p hp).2 i hi)) h.laid, h.len, h.pos, h.start, h.need, h.two, by rw [done_length]; exact h.fit, h.big⟩

def number : Nat → List Batch → List (Nat × Nat)
  | _, [] => []
  | k, b :: r => (k, needB b) :: number (k + 1) r
theorem number_append : ∀ (xs ys : List Batch) (k : Nat), number k (xs ++ ys) = number k xs ++ number (k + xs.length) ys
  | [], ys, k => by simp [number]
  | x :: r, ys, k => by rw [List.cons_append, number, number, number_append r ys, List.length_cons, List.cons_append, show k + 1 + r.length = k + (r.length + 1) by omega]
theorem number_length : ∀ (xs : List Batch) (k : Nat), (number k xs).length = xs.length
  | [], _ => rfl
  | x :: r, k => by rw [number, List.length_cons, List.length_cons, number_length r]
theorem number_sum : ∀ (xs : List Batch) (k : Nat), ((number k xs).map (·.2)).foldr (· + ·) 0 = needsB xs
  | [], _ => rfl
  | x :: r, k => by rw [number, List.map_cons, List.foldr_cons, number_sum r, needsB_cons]
theorem number_mem : ∀ (xs : List Batch) (k : Nat) (p : Nat × Nat), p ∈ number k xs → 1 ≤ p.2 ∧ k ≤ p.1 ∧ p.1 < k + xs.length
  | x :: r, k, p, h => by
    rw [number] at h
    rcases List.mem_cons.1 h with rfl | h
    · exact ⟨needB_pos _, Nat.le_refl _, by simp⟩
    · have := number_mem r (k + 1) p h
      simp only [List.length_cons]; omega

/-! The calls. -/
def LSt.room (L : LSt) : Nat := L.n - 1 - L.used
def LSt.writes (L : LSt) (bs : Bytes) : Nat → Nat → DSt → DSt × Int
  | 0, _, D => (D, 0)
  | k + 1, i, D =>
    let w := D.write (L.ring (L.start + L.used + i)) (chunk bs i)
    if w.2 = 0 then L.writes bs k (i + 1) w.1 else w
def LSt.check (L : LSt) (b : Batch) : Int :=
  if L.dead then 10 else if b.length = 0 ∨ 1024 < b.length then 1 else if ∃ r ∈ b, 600 < r.size then 1 else if L.room < needB b then 12 else 0
def LSt.append (L : LSt) (D : DSt) (b : Batch) : LSt × DSt × Int × Int :=
  if L.check b ≠ 0 then (L, D, 0, L.check b)
  else
    let w := L.writes (encB (L.last + 1) b) (needB b) 0 D
    if w.2 = 0 then ({ L with last := L.last + 1, used := L.used + needB b, list := L.list ++ [(L.last + 1, needB b)] }, w.1, (L.last : Int) + 1, 0)
    else ((L.fail w.2).1, w.1, 0, (L.fail w.2).2)
def LSt.sync (L : LSt) (D : DSt) : LSt × DSt × Int :=
  if L.dead then (L, D, 10)
  else
    let f := D.flush
    if f.2 = 0 then
      let m := ({ L with synced := L.last } : LSt).mark f.1
      if m.2.2 = 0 then m else ({ m.1 with synced := L.synced }, m.2.1, m.2.2)
    else ((L.fail f.2).1, f.1, (L.fail f.2).2)
def trimTo (n : Nat) (upto : Int) : Nat → Nat → List (Nat × Nat) → Nat × Nat × List (Nat × Nat)
  | start, used, [] => (start, used, [])
  | start, used, p :: r => if (p.1 : Int) ≤ upto then trimTo n upto ((start + p.2) % (n - 1)) (used - p.2) r else (start, used, p :: r)
def LSt.cut (L : LSt) (upto : Int) : LSt := let t := trimTo L.n upto L.start L.used L.list; { L with start := t.1, used := t.2.1, list := t.2.2 }
def LSt.trim (L : LSt) (D : DSt) (upto : Int) : LSt × DSt × Int :=
  if L.dead then (L, D, 10)
  else if upto < 0 ∨ (L.synced : Int) < upto then (L, D, 1)
  else
    let m := (L.cut upto).mark D
    if m.2.2 = 0 then m else ({ m.1 with start := L.start, used := L.used, list := L.list }, m.2.1, m.2.2)
def LSt.made (fr n : Nat) : LSt := ⟨fr, n, 0, 0, [], 0, 0, false⟩
def LSt.opened (fr n start first synced : Nat) (bs : List Batch) : LSt := ⟨fr, n, start, needsB bs, number first bs, synced, synced, false⟩

/-! The state of a log stays well. -/
theorem LSt.Ok.fail {L : LSt} (h : L.Ok) (e : Int) : (L.fail e).1.Ok := by
  unfold LSt.fail
  split
  · exact h
  · exact ⟨h.two, h.fit, h.start, h.used, h.sum, h.needs, h.nums, h.last, h.synced⟩
theorem LSt.Ok.mark {L : LSt} (h : L.Ok) (D : DSt) : (L.mark D).1.Ok := by
  unfold LSt.mark
  dsimp only
  split <;> exact h.fail _
theorem trimTo_ok (n : Nat) (hn : 2 ≤ n) (upto : Int) : ∀ (l : List (Nat × Nat)) (start used : Nat), start < n - 1 → (l.map (·.2)).foldr (· + ·) 0 = used →
    (trimTo n upto start used l).1 < n - 1 ∧ ((trimTo n upto start used l).2.2.map (·.2)).foldr (· + ·) 0 = (trimTo n upto start used l).2.1 ∧ (trimTo n upto start used l).2.1 ≤ used ∧ ∀ p ∈ (trimTo n upto start used l).2.2, p ∈ l
  | [], start, used, h1, h2 => ⟨h1, h2, Nat.le_refl _, fun p hp => hp⟩
  | q :: r, start, used, h1, h2 => by
    rw [trimTo]
    simp only [List.map_cons, List.foldr_cons] at h2
    split
    · obtain ⟨i1, i2, i3, i4⟩ := trimTo_ok n hn upto r ((start + q.2) % (n - 1)) (used - q.2) (Nat.mod_lt _ (by omega)) (by omega)
      exact ⟨i1, i2, by omega, fun p hp => List.mem_cons_of_mem _ (i4 p hp)⟩
    · exact ⟨h1, by simpa using h2, Nat.le_refl _, fun p hp => hp⟩
theorem LSt.Ok.cut {L : LSt} (h : L.Ok) (upto : Int) : (L.cut upto).Ok := by
  obtain ⟨h1, h2, h3, h4⟩ := trimTo_ok L.n h.two upto L.list L.start L.used h.start h.sum
  exact ⟨h.two, h.fit, h1, Nat.le_trans h3 h.used, h2, fun p hp => h.needs p (h4 p hp), fun p hp => h.nums p (h4 p hp), h.last, h.synced⟩
theorem LSt.Ok.grow {L : LSt} (h : L.Ok) (b : Batch) (hr : needB b ≤ L.room) (hl : L.last + 1 < 1000000000000000000) :
    ({ L with last := L.last + 1, used := L.used + needB b, list := L.list ++ [(L.last + 1, needB b)] } : LSt).Ok := by
  have hu := h.used
  unfold LSt.room at hr
  refine ⟨h.two, h.fit, h.start, ?_, ?_, ?_, ?_, hl, ?_⟩
  · show L.used + needB b ≤ L.n - 1; omega
  · show ((L.list ++ [(L.last + 1, needB b)]).map (·.2)).foldr (· + ·) 0 = L.used + needB b
    have : ∀ (l : List Nat) (x : Nat), (l ++ [x]).foldr (· + ·) 0 = l.foldr (· + ·) 0 + x := by
      intro l x
      induction l with
      | nil => simp
      | cons y t ih => simp only [List.cons_append, List.foldr_cons, ih]; omega
    rw [List.map_append, List.map_cons, List.map_nil, this, h.sum]
  · intro p hp
    rcases List.mem_append.1 hp with hp | hp
    · exact h.needs p hp
    · simp at hp; subst hp; exact needB_pos b
  · intro p hp
    show p.1 ≤ L.last + 1
    rcases List.mem_append.1 hp with hp | hp
    · have := h.nums p hp; omega
    · simp at hp; subst hp; exact Nat.le_refl _
  · show L.synced ≤ L.last + 1
    have := h.synced; omega
theorem LSt.Ok.synced_last {L : LSt} (h : L.Ok) : ({ L with synced := L.last } : LSt).Ok := ⟨h.two, h.fit, h.start, h.used, h.sum, h.needs, h.nums, h.last, Nat.le_refl _⟩
end Go.Proofs.Ytocameknhglklaa
