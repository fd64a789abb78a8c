/- The pager of chapter 4 in plain words: images, commits, what lies at home, what a crash leaves. No program here. -/
import Derived.Test.YtmefbbmjamdnjaaKPlain
namespace Go.Proofs.Ytmefbbmjamdnjaa
set_option linter.unusedSimpArgs false
set_option linter.unusedVariables false
set_option maxRecDepth 100000

/-- Blocks and their bytes: a map, its entries in some order. -/
abbrev Img := List (Int × Bytes)
def lookB : Img → Int → Option Bytes
  | [], _ => none
  | p :: r, b => if b = p.1 then some p.2 else lookB r b
def keysB (es : Img) : List Int := es.map (·.1)
def putP : Img → Int → Bytes → Img
  | [], k, x => [(k, x)]
  | p :: r, k, x => if k = p.1 then (k, x) :: r else p :: putP r k x
theorem lookB_putP (k : Int) (x : Bytes) (b : Int) : ∀ es : Img, lookB (putP es k x) b = if b = k then some x else lookB es b
  | [] => by simp [putP, lookB]
  | p :: r => by
    rw [putP]
    by_cases h : k = p.1
    · rw [if_pos h, lookB, lookB]
      by_cases hb : b = k
      · simp [hb]
      · simp [hb, h ▸ hb]
    · rw [if_neg h, lookB, lookB, lookB_putP k x b r]
      by_cases hb : b = p.1
      · have : b ≠ k := fun e => h (by rw [← e, hb])
        simp [hb, this]
        intro e; exact absurd e.symm h
      · simp [hb]
theorem mem_keysB_putP (k : Int) (x : Bytes) (b : Int) : ∀ es : Img, b ∈ keysB (putP es k x) ↔ b = k ∨ b ∈ keysB es
  | [] => by simp [putP, keysB]
  | p :: r => by
    have ih := mem_keysB_putP k x b r
    rw [putP]
    by_cases h : k = p.1
    · rw [if_pos h]
      simp only [keysB, List.map_cons, List.mem_cons, h]
      constructor
      · rintro (e | e)
        · exact .inl e
        · exact .inr (.inr e)
      · rintro (e | e | e)
        · exact .inl e
        · exact .inl e
        · exact .inr e
    · rw [if_neg h]
      simp only [keysB, List.map_cons, List.mem_cons] at ih ⊢
      rw [ih]
      constructor
      · rintro (e | e | e)
        · exact .inr (.inl e)
        · exact .inl e
        · exact .inr (.inr e)
      · rintro (e | e | e)
        · exact .inr (.inl e)
        · exact .inl e
        · exact .inr (.inr e)
theorem nodup_putP (k : Int) (x : Bytes) : ∀ es : Img, (keysB es).Nodup → (keysB (putP es k x)).Nodup
  | [], _ => by simp [putP, keysB]
  | p :: r, h => by
    have h' : p.1 ∉ keysB r ∧ (keysB r).Nodup := List.nodup_cons.1 h
    rw [putP]
    by_cases hk : k = p.1
    · rw [if_pos hk]
      show (k :: keysB r).Nodup
      rw [hk]
      exact h
    · rw [if_neg hk]
      show (p.1 :: keysB (putP r k x)).Nodup
      refine List.nodup_cons.2 ⟨fun hm => ?_, nodup_putP k x r h'.2⟩
      rcases (mem_keysB_putP k x p.1 r).1 hm with e | e
      · exact hk e.symm
      · exact h'.1 e
theorem lookB_none_iff (b : Int) : ∀ es : Img, lookB es b = none ↔ b ∉ keysB es
  | [] => by simp [lookB, keysB]
  | p :: r => by
    have ih := lookB_none_iff b r
    rw [lookB]
    by_cases h : b = p.1
    · simp [h, keysB]
    · rw [if_neg h, ih]
      simp only [keysB, List.map_cons, List.mem_cons, not_or]
      exact ⟨fun e => ⟨h, e⟩, fun e => e.2⟩
theorem lookB_mem {b : Int} {x : Bytes} : ∀ {es : Img}, lookB es b = some x → (b, x) ∈ es
  | [], h => by cases h
  | p :: r, h => by
    rw [lookB] at h
    split at h
    · rename_i e
      cases h
      rw [e]
      exact List.mem_cons_self ..
    · exact List.mem_cons_of_mem _ (lookB_mem h)
theorem lookB_of_mem {b : Int} {x : Bytes} : ∀ {es : Img}, (keysB es).Nodup → (b, x) ∈ es → lookB es b = some x
  | [], _, h => by cases h
  | p :: r, hn, h => by
    have h' : p.1 ∉ keysB r ∧ (keysB r).Nodup := List.nodup_cons.1 hn
    rw [lookB]
    rcases List.mem_cons.1 h with e | e
    · rw [← e]; simp
    · rw [if_neg, lookB_of_mem h'.2 e]
      intro hb
      exact h'.1 (hb ▸ List.mem_map.2 ⟨(b, x), e, rfl⟩)
theorem lookB_of_key {b : Int} {es : Img} (h : b ∈ keysB es) : ∃ x, lookB es b = some x := by
  cases hq : lookB es b with
  | none => exact absurd h ((lookB_none_iff b es).1 hq)
  | some x => exact ⟨x, rfl⟩
theorem keysB_length (es : Img) : (keysB es).length = es.length := List.length_map ..
/-- Keys apart, each a block's number, each with a block's bytes. -/
structure EsOk (N : Nat) (es : Img) : Prop where
  nd : (keysB es).Nodup
  rng : ∀ p ∈ es, 0 ≤ p.1 ∧ p.1 < (N : Int) ∧ p.2.length = 512
theorem EsOk.nil (N : Nat) : EsOk N [] := ⟨by simp [keysB], fun p h => by cases h⟩
theorem putP_mem {k : Int} {x : Bytes} {p : Int × Bytes} : ∀ {es : Img}, p ∈ putP es k x → p = (k, x) ∨ p ∈ es
  | [], h => by rw [putP] at h; exact .inl (List.mem_singleton.1 h)
  | q :: r, h => by
    rw [putP] at h
    split at h
    · rcases List.mem_cons.1 h with e | e
      · exact .inl e
      · exact .inr (List.mem_cons_of_mem _ e)
    · rcases List.mem_cons.1 h with e | e
      · exact .inr (e ▸ List.mem_cons_self ..)
      · rcases putP_mem e with e | e
        · exact .inl e
        · exact .inr (List.mem_cons_of_mem _ e)
theorem EsOk.put {N : Nat} {es : Img} (h : EsOk N es) {k : Int} {x : Bytes} (h0 : 0 ≤ k) (h1 : k < (N : Int)) (hx : x.length = 512) : EsOk N (putP es k x) :=
  ⟨nodup_putP k x es h.nd, fun p hp => by
    rcases putP_mem hp with e | e
    · rw [e]; exact ⟨h0, h1, hx⟩
    · exact h.rng p e⟩
theorem EsOk.look {N : Nat} {es : Img} (h : EsOk N es) {b : Int} {x : Bytes} (hl : lookB es b = some x) : 0 ≤ b ∧ b < (N : Int) ∧ x.length = 512 := h.rng _ (lookB_mem hl)
theorem nodup_le : ∀ (N : Nat) (l : List Int), l.Nodup → (∀ x ∈ l, 0 ≤ x ∧ x < (N : Int)) → l.length ≤ N
  | 0, l, _, h => by
    cases l with
    | nil => exact Nat.le_refl _
    | cons x r => have := h x (List.mem_cons_self ..); omega
  | N + 1, l, hn, h => by
    have h1 : (l.filter fun x => x != (N : Int)).length ≤ N := nodup_le N _ (hn.sublist List.filter_sublist) (fun x hx => by
      have h2 := List.mem_filter.1 hx
      have h3 := h x h2.1
      have h4 : x ≠ (N : Int) := by simpa using h2.2
      omega)
    have h2 : l.length ≤ (l.filter fun x => x != (N : Int)).length + (l.filter fun x => x == (N : Int)).length := by
      clear h1 h hn
      induction l with
      | nil => simp
      | cons x r ih =>
        rw [List.filter_cons, List.filter_cons]
        by_cases hx : x = (N : Int)
        · simp [hx]; omega
        · simp [hx]; omega
    have h3 : (l.filter fun x => x == (N : Int)).length ≤ 1 := by
      clear h1 h2 h
      induction l with
      | nil => simp
      | cons x r ih =>
        have hc := List.nodup_cons.1 hn
        rw [List.filter_cons]
        by_cases hx : x = (N : Int)
        · have : (r.filter fun x => x == (N : Int)) = [] := by
            rw [List.filter_eq_nil_iff]
            intro y hy
            have : y ≠ (N : Int) := fun e => hc.1 (by rw [hx, ← e]; exact hy)
            simpa using this
          simp [hx, this]
        · simp [hx]; exact ih hc.2
    omega
theorem EsOk.le {N : Nat} {es : Img} (h : EsOk N es) : es.length ≤ N := by
  rw [← keysB_length]
  refine nodup_le N _ h.nd (fun x hx => ?_)
  obtain ⟨p, hp, rfl⟩ := List.mem_map.1 hx
  exact ⟨(h.rng p hp).1, (h.rng p hp).2.1⟩

/-! A commit as a batch. -/
def sortK (es : Img) : List Int := (keysB es).mergeSort fun x y => decide (x ≤ y)
theorem sortK_perm (es : Img) : (sortK es).Perm (keysB es) := List.mergeSort_perm _ _
theorem sortK_length (es : Img) : (sortK es).length = es.length := by rw [(sortK_perm es).length_eq, keysB_length]
theorem sortK_mem (es : Img) (k : Int) : k ∈ sortK es ↔ k ∈ keysB es := (sortK_perm es).mem_iff
theorem sortK_nodup {es : Img} (h : (keysB es).Nodup) : (sortK es).Nodup := (sortK_perm es).nodup_iff.2 h
def dataAt (es : Img) (k : Int) : Bytes := (lookB es k).getD []
def recB (k : Int) (x : Bytes) : ByteArray := ⟨(leB 4 k.toNat ++ x).toArray⟩
def encC (c : Img) : Batch := (sortK c).map fun k => recB k (dataAt c k)
theorem encC_length (c : Img) : (encC c).length = c.length := by rw [encC, List.length_map, sortK_length]
theorem recB_size {k : Int} {x : Bytes} (h : x.length = 512) : (recB k x).size = 516 := by
  show (leB 4 k.toNat ++ x).toArray.size = 516
  simp [leB_length, h]
theorem EsOk.data {N : Nat} {es : Img} (h : EsOk N es) {k : Int} (hk : k ∈ keysB es) : 0 ≤ k ∧ k < (N : Int) ∧ (dataAt es k).length = 512 := by
  obtain ⟨x, hx⟩ := lookB_of_key hk
  have := h.look hx
  rw [dataAt, hx]
  exact this
theorem bytesOf_same (n : Nat) : ∀ (b : Batch), (∀ r ∈ b, r.size = n) → (bodyB b).length = b.length * (4 + n)
  | [], _ => by simp [bodyB]
  | r :: t, h => by
    rw [body_length, bytesOf_same n t (fun q hq => h q (List.mem_cons_of_mem _ hq)), h r (List.mem_cons_self ..), List.length_cons, Nat.add_mul]
    omega
theorem encC_size {N : Nat} {c : Img} (h : EsOk N c) : ∀ r ∈ encC c, r.size = 516 := by
  intro r hr
  obtain ⟨k, hk, rfl⟩ := List.mem_map.1 hr
  exact recB_size (h.data ((sortK_mem c k).1 hk)).2.2
theorem bytesOf_encC {N : Nat} {c : Img} (h : EsOk N c) : bytesOf (encC c) = 16 + c.length * 520 := by
  rw [bytesOf_eq, bytesOf_same 516 _ (encC_size h), encC_length]
theorem needB_encC {N : Nat} {c : Img} (h : EsOk N c) : needB (encC c) = (16 + c.length * 520 + 511) / 512 := by rw [needB, bytesOf_encC h]
theorem perm_of_look {c c' : Img} (h1 : (keysB c).Nodup) (h2 : (keysB c').Nodup) (h : ∀ b, lookB c b = lookB c' b) : (keysB c).Perm (keysB c') := by
  refine (List.perm_ext_iff_of_nodup h1 h2).2 (fun b => ?_)
  have e1 := lookB_none_iff b c
  have e2 := lookB_none_iff b c'
  rw [h b] at e1
  rw [e1] at e2
  exact ⟨fun a => Classical.byContradiction fun n => (e2.2 n) a, fun a => Classical.byContradiction fun n => (e2.1 n) a⟩
theorem sortI_of_perm {l l' : List Int} (h : l.Perm l') : l.mergeSort (fun x y => decide (x ≤ y)) = l'.mergeSort (fun x y => decide (x ≤ y)) := by
  have t : ∀ a b c : Int, decide (a ≤ b) = true → decide (b ≤ c) = true → decide (a ≤ c) = true := fun a b c h1 h2 => by simp at *; omega
  have u : ∀ a b : Int, (decide (a ≤ b) || decide (b ≤ a)) = true := fun a b => by simp; omega
  have p1 := List.pairwise_mergeSort t u l
  have p2 := List.pairwise_mergeSort t u l'
  refine List.Perm.eq_of_pairwise (le := fun x y => decide (x ≤ y) = true) (fun a b _ _ h1 h2 => by simp at h1 h2; omega) p1 p2 ?_
  exact (List.mergeSort_perm _ _).trans (h.trans (List.mergeSort_perm _ _).symm)
theorem encC_congr {c c' : Img} (h1 : (keysB c).Nodup) (h2 : (keysB c').Nodup) (h : ∀ b, lookB c b = lookB c' b) : encC c = encC c' := by
  rw [encC, encC, sortK, sortK, sortI_of_perm (perm_of_look h1 h2 h)]
  exact List.map_congr_left (fun k _ => by rw [dataAt, dataAt, h])

/-! Commits one behind the other. -/
def lastC (cs : List Img) (b : Int) : Option Bytes := cs.foldl (fun s c => (lookB c b).or s) none
theorem lastC_from (b : Int) : ∀ (cs : List Img) (s : Option Bytes), cs.foldl (fun s c => (lookB c b).or s) s = (lastC cs b).or s
  | [], s => by simp [lastC]
  | c :: r, s => by
    have e : lastC (c :: r) b = (lastC r b).or (lookB c b) := by
      show List.foldl _ ((lookB c b).or none) r = _
      rw [lastC_from b r, Option.or_none]
    rw [List.foldl_cons, lastC_from b r, e]
    cases lastC r b <;> simp
theorem lastC_append (b : Int) (xs ys : List Img) : lastC (xs ++ ys) b = (lastC ys b).or (lastC xs b) := by
  rw [lastC, List.foldl_append, lastC_from]; rfl
theorem lastC_one (b : Int) (c : Img) : lastC [c] b = lookB c b := by simp [lastC]
theorem lastC_cons (b : Int) (c : Img) (r : List Img) : lastC (c :: r) b = (lastC r b).or (lookB c b) := by
  rw [show c :: r = [c] ++ r from rfl, lastC_append, lastC_one]
theorem lastC_len {N : Nat} {b : Int} {x : Bytes} : ∀ {cs : List Img}, (∀ c ∈ cs, EsOk N c) → lastC cs b = some x → 0 ≤ b ∧ b < (N : Int) ∧ x.length = 512
  | [], _, h => by cases h
  | c :: r, hc, h => by
    rw [lastC_cons] at h
    cases hr : lastC r b with
    | none => rw [hr, Option.none_or] at h; exact (hc c (List.mem_cons_self ..)).look h
    | some y =>
      rw [hr, Option.some_or] at h
      cases h
      exact lastC_len (fun c hc' => hc c (List.mem_cons_of_mem _ hc')) hr
def atC (cs : List Img) (b : Int) : Bytes := (lastC cs b).getD zeros512
theorem atC_length {N : Nat} {cs : List Img} (h : ∀ c ∈ cs, EsOk N c) (b : Int) : (atC cs b).length = 512 := by
  rw [atC]
  cases hq : lastC cs b with
  | none => exact zeros512_length
  | some x => exact (lastC_len h hq).2.2
theorem atC_append (b : Int) (xs ys : List Img) : atC (xs ++ ys) b = (lastC ys b).getD (atC xs b) := by
  rw [atC, lastC_append, atC]
  cases lastC ys b <;> simp
theorem take_split (cs : List Img) {T s : Nat} (h : T ≤ s) : cs.take s = cs.take T ++ (cs.take s).drop T := by
  have h1 := (List.take_append_drop T (cs.take s)).symm
  rw [List.take_take, Nat.min_eq_left h] at h1
  exact h1

/-- What lies at home: the blocks behind the first T commits, as far as the commits up to s don't write them anew. -/
def HomeOK (S : List Bytes) (skip N T s : Nat) (cs : List Img) : Prop := ∀ b : Nat, b < N → lastC ((cs.take s).drop T) (b : Int) = none → S[skip + b]? = some (atC (cs.take T) (b : Int))
def FullH (S : List Bytes) (skip N : Nat) (cs : List Img) : Prop := ∀ b : Nat, b < N → S[skip + b]? = some (atC cs (b : Int))
theorem FullH.weak {S : List Bytes} {skip N T : Nat} {cs : List Img} (h : FullH S skip N (cs.take T)) (s : Nat) : HomeOK S skip N T s cs := fun b hb _ => h b hb
theorem FullH.old {S : List Bytes} {skip N T s : Nat} {cs : List Img} (h : FullH S skip N (cs.take s)) (hT : T ≤ s) : HomeOK S skip N T s cs := fun b hb hn => by
  rw [h b hb, take_split cs hT, atC_append, hn]; rfl
theorem HomeOK.congr {S S' : List Bytes} {skip N T s : Nat} {cs : List Img} (h : HomeOK S skip N T s cs) (he : ∀ b : Nat, b < N → lastC ((cs.take s).drop T) (b : Int) = none → S'[skip + b]? = S[skip + b]?) : HomeOK S' skip N T s cs := fun b hb hn => by
  rw [he b hb hn]; exact h b hb hn
theorem FullH.congr {S S' : List Bytes} {skip N : Nat} {cs : List Img} (h : FullH S skip N cs) (he : ∀ b : Nat, b < N → S'[skip + b]? = S[skip + b]?) : FullH S' skip N cs := fun b hb => (he b hb).trans (h b hb)

/-- What a crash may leave of a pager: a log that can be opened, and what lies at home beside it; none that is synced (lo) is missing. -/
def SafeP (D : DSt) (skip N : Nat) (cs : List Img) (lo : Nat) : Prop := D.secs.length = skip + N ∧ ∀ keep, ∃ T s, lo ≤ s ∧ Back (done D.secs (kept D.waits keep)) 0 skip T s (cs.map encC) ∧ HomeOK (done D.secs (kept D.waits keep)) skip N T s cs
/-- A pager that lives. -/
structure PInv (L : LSt) (D : DSt) (skip N T : Nat) (cs : List Img) (es : Img) : Prop where
  inv : Inv L D T (cs.map encC)
  fr : L.fr = 0
  n : L.n = skip
  secs : D.secs.length = skip + N
  wr : ∀ p ∈ D.waits, p.1 < skip
  wl : D.waits.length ≤ L.used
  home : FullH D.secs skip N (cs.take T)
  fresh : ∀ b : Int, lookB es b = lastC (cs.drop T) b
  okC : ∀ c ∈ cs, EsOk N c
  okE : EsOk N es
/-- As home() finds it: in Open, what lies at home may be newer here and there. -/
structure PreH (L : LSt) (D : DSt) (skip N T : Nat) (cs : List Img) (es : Img) : Prop where
  inv : Inv L D T (cs.map encC)
  fr : L.fr = 0
  n : L.n = skip
  secs : D.secs.length = skip + N
  wr : ∀ p ∈ D.waits, p.1 < skip
  h1 : HomeOK D.secs skip N T L.synced cs
  h2 : HomeOK D.secs skip N T cs.length cs
  fresh : ∀ b : Int, lookB es b = lastC (cs.drop T) b
  okC : ∀ c ∈ cs, EsOk N c
  okE : EsOk N es
theorem PInv.pre {L : LSt} {D : DSt} {skip N T : Nat} {cs : List Img} {es : Img} (h : PInv L D skip N T cs es) : PreH L D skip N T cs es :=
  ⟨h.inv, h.fr, h.n, h.secs, h.wr, h.home.weak _, h.home.weak _, h.fresh, h.okC, h.okE⟩
theorem out_get {D : DSt} {B : Nat} (hw : ∀ p ∈ D.waits, p.1 < B) (keep : List Bool) (i : Nat) (hi : B ≤ i) : (done D.secs (kept D.waits keep))[i]? = D.secs[i]? :=
  done_get_avoid _ _ _ (fun p hp => by have := hw p (kept_sub _ _ p hp); omega)
theorem PInv.seen {L : LSt} {D : DSt} {skip N T : Nat} {cs : List Img} {es : Img} (h : PInv L D skip N T cs es) (b : Nat) (hb : b < N) :
    atC cs (b : Int) = (lookB es (b : Int)).getD (atC (cs.take T) (b : Int)) ∧ D.read ((skip + b : Nat) : Int) = (atC (cs.take T) (b : Int), 0) := by
  refine ⟨?_, ?_⟩
  · rw [h.fresh]
    conv => lhs; rw [← List.take_append_drop T cs]
    exact atC_append _ _ _
  · have h1 := h.home b hb
    rw [DSt.read_eq h.inv.live (by omega) (by rw [h.secs]; omega), Int.toNat_natCast, lastOf_out]
    · rw [List.getD_eq_getElem?_getD, h1]; rfl
    · intro p hp
      have := h.wr p hp
      omega
where
  lastOf_out {ws : List (Nat × Bytes)} {i : Nat} {was : Bytes} (h : ∀ p ∈ ws, p.1 ≠ i) : lastOf ws i was = was := by
    induction ws generalizing was with
    | nil => rfl
    | cons p r ih =>
      rw [lastOf, List.foldl_cons, if_neg (h p (List.mem_cons_self ..))]
      exact ih (fun q hq => h q (List.mem_cons_of_mem _ hq))
/-- At rest: whatever a crash keeps. -/
theorem PInv.safe {L : LSt} {D : DSt} {skip N T : Nat} {cs : List Img} {es : Img} (h : PInv L D skip N T cs es) : SafeP D skip N cs L.synced := ⟨h.secs, fun keep => by
  obtain ⟨t, s, ⟨rfl, rfl⟩, hb⟩ := h.inv.safe keep
  rw [h.fr, h.n] at hb
  exact ⟨t, L.synced, Nat.le_refl _, hb, (h.home.weak _).congr (fun b _ _ => out_get h.wr keep _ (by omega))⟩⟩
theorem DSt.flush_cases (D : DSt) (hd : D.dead = false) : (D.flush.2 = 0 ∧ D.flush.1.dead = false ∧ D.flush.1.secs = done D.secs D.waits ∧ D.flush.1.waits = [] ∧ (D.fuel < 0 → D.flush.1.fuel = D.fuel)) ∨ (D.flush.2 = 10 ∧ D.flush.1 = { D with dead := true } ∧ D.fuel = 0) := by
  by_cases hf : D.fuel = 0
  · right
    rw [DSt.flush, if_neg (by rw [hd]; decide), if_pos hf]
    exact ⟨rfl, rfl, hf⟩
  · left
    rw [DSt.flush_eq hd hf]
    exact ⟨rfl, hd, rfl, rfl, fun h => burnt_neg h⟩
/-- The log's own sector alone is written; what lies behind the log stays. -/
theorem mark_frame (L : LSt) (D : DSt) (hd : D.dead = false) (B : Nat) (hB : L.fr < B) (hfr : L.fr < D.secs.length) (hw : ∀ p ∈ D.waits, p.1 < B) :
    (∀ p ∈ (L.mark D).2.1.waits, p.1 < B) ∧ (L.mark D).2.1.secs.length = D.secs.length ∧ ∀ i, B ≤ i → (L.mark D).2.1.secs[i]? = D.secs[i]? := by
  rcases mark_spec L D hd hfr with ⟨_, _, _, a4, a5, _⟩ | ⟨_, _, _, a4, a5, _⟩
  · rw [a4, a5]
    refine ⟨fun p hp => (by cases hp), by rw [List.length_set, done_length], fun i hi => ?_⟩
    rw [List.getElem?_set_ne (by omega)]
    exact done_get_avoid _ _ _ (fun p hp => by have := hw p hp; omega)
  · rw [a4]
    refine ⟨fun p hp => ?_, rfl, fun _ _ => rfl⟩
    rcases a5 with e | e
    · rw [e] at hp; exact hw p hp
    · rw [e] at hp
      rcases List.mem_append.1 hp with h | h
      · exact hw p h
      · rw [List.mem_singleton] at h; rw [h]; exact hB
theorem sync_frame {L : LSt} {D : DSt} {T : Nat} {all : List Batch} (h : Inv L D T all) (B : Nat) (hB : L.fr < B) (hw : ∀ p ∈ D.waits, p.1 < B) :
    (∀ p ∈ (L.sync D).2.1.waits, p.1 < B) ∧ (L.sync D).2.1.secs.length = D.secs.length ∧ ∀ i, B ≤ i → (L.sync D).2.1.secs[i]? = D.secs[i]? := by
  have hfit := h.fit
  have h2 := h.ok.two
  unfold LSt.sync
  rw [if_neg (by rw [h.alive]; decide)]
  rcases D.flush_cases h.live with ⟨a1, a2, a3, a4, _⟩ | ⟨a1, a2, _⟩
  · have hm := mark_frame ({ L with synced := L.last } : LSt) D.flush.1 a2 B hB (by rw [a3, done_length]; show L.fr < _; omega) (by rw [a4]; intro p hp; cases hp)
    rw [a3, done_length] at hm
    have hm' : (∀ p ∈ (({ L with synced := L.last } : LSt).mark D.flush.1).2.1.waits, p.1 < B) ∧ (({ L with synced := L.last } : LSt).mark D.flush.1).2.1.secs.length = D.secs.length ∧ ∀ i, B ≤ i → (({ L with synced := L.last } : LSt).mark D.flush.1).2.1.secs[i]? = D.secs[i]? :=
      ⟨hm.1, hm.2.1, fun i hi => (hm.2.2 i hi).trans (done_get_avoid _ _ _ (fun p hp => by have := hw p hp; omega))⟩
    dsimp only
    rw [if_pos a1]
    split
    · exact hm'
    · exact hm'
  · dsimp only
    rw [if_neg (by rw [a1]; decide), a2]
    exact ⟨hw, rfl, fun _ _ => rfl⟩
theorem trim_frame {L : LSt} {D : DSt} {T : Nat} {all : List Batch} (h : Inv L D T all) (upto : Int) (B : Nat) (hB : L.fr < B) (hw : ∀ p ∈ D.waits, p.1 < B) :
    (∀ p ∈ (L.trim D upto).2.1.waits, p.1 < B) ∧ (L.trim D upto).2.1.secs.length = D.secs.length ∧ ∀ i, B ≤ i → (L.trim D upto).2.1.secs[i]? = D.secs[i]? := by
  have hfit := h.fit
  have h2 := h.ok.two
  have hm := mark_frame (L.cut upto) D h.live B hB (by show L.fr < _; omega) hw
  unfold LSt.trim
  rw [if_neg (by rw [h.alive]; decide)]
  split
  · exact ⟨hw, rfl, fun _ _ => rfl⟩
  · dsimp only
    split
    · exact hm
    · exact hm
theorem append_frame {L : LSt} {D : DSt} {T : Nat} {all : List Batch} (h : Inv L D T all) (b : Batch) :
    (∀ p ∈ (L.append D b).2.1.waits, p ∈ D.waits ∨ p.1 < L.fr + L.n) ∧ (L.append D b).2.1.secs = D.secs := by
  have hs := writes_spec L (encB (L.last + 1) b) h.ok.two (needB b) 0 D h.live h.fit
  have hr : ∀ (m : Nat) (p : Nat × Bytes), p ∈ (List.range' 0 m).map (wrOf L (encB (L.last + 1) b)) → p.1 < L.fr + L.n := fun m p hp => by
    obtain ⟨j, _, rfl⟩ := range_wr _ _ _ _ hp
    exact ringAt_lt h.ok.two _ _
  have hq : (∀ p ∈ (L.writes (encB (L.last + 1) b) (needB b) 0 D).1.waits, p ∈ D.waits ∨ p.1 < L.fr + L.n) ∧ (L.writes (encB (L.last + 1) b) (needB b) 0 D).1.secs = D.secs := by
    rcases hs with ⟨_, _, a3, a4, _⟩ | ⟨_, _, a3, ⟨m, _, a4⟩, _⟩
    · refine ⟨fun p hp => ?_, a3⟩
      rw [a4] at hp
      exact (List.mem_append.1 hp).imp id (hr _ p)
    · refine ⟨fun p hp => ?_, a3⟩
      rw [a4] at hp
      exact (List.mem_append.1 hp).imp id (hr _ p)
  unfold LSt.append
  split
  · exact ⟨fun p hp => .inl hp, rfl⟩
  · dsimp only
    split
    · exact hq
    · exact hq
theorem Good.congr {S S' : List Bytes} {fr n st fi sy : Nat} {bs : List Batch} (h : Good S fr n st fi sy bs) (hl : S'.length = S.length) (he : ∀ i, i < fr + n → S'[i]? = S[i]?) : Good S' fr n st fi sy bs :=
  ⟨(he fr (by have := h.two; omega)).trans h.mark, laid_congr bs _ _ (fun i _ => he _ (ringAt_lt h.two _ _)) h.laid, h.len, h.pos, h.start, h.need, h.two, by rw [hl]; exact h.fit, h.big⟩
/-- Writes behind the log. -/
theorem Inv.out {L : LSt} {D D' : DSt} {T : Nat} {all : List Batch} (h : Inv L D T all) (hw0 : D.waits = []) (hd : D'.dead = false) (hl : D'.secs.length = D.secs.length) (hs : ∀ i, i < L.fr + L.n → D'.secs[i]? = D.secs[i]?)
    (hw : ∀ p ∈ D'.waits, L.fr + L.n ≤ p.1) : Inv L D' T all := by
  have h2 := h.ok.two
  refine ⟨h.ok, h.alive, hd, by rw [hl]; exact h.fit, h.list, h.last, h.used, h.low, h.good.congr hl hs, ?_, fun p hp => ?_⟩
  · have hv := h.vis
    rw [hw0] at hv
    refine laid_congr _ _ _ (fun i _ => ?_) hv
    have hr := ringAt_lt h2 L.fr (L.start + i)
    rw [done_get_avoid _ _ _ (fun p hp => by have := hw p hp; omega)]
    exact hs _ hr
  · have h3 := hw p hp
    refine ⟨by omega, fun i _ => ?_⟩
    have hr := ringAt_lt h2 L.fr (L.start + i)
    omega
end Go.Proofs.Ytmefbbmjamdnjaa
