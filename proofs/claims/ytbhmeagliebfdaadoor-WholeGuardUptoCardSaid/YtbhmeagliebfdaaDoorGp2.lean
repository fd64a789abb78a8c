/- If headers in plain words: a header that is made of locks is read as it was made; a target that is made of a path says that path. No program here. -/
import Derived.Test.YtbhmeagliebfdaaDoorGp1
import Derived.Lib.CountLaws
namespace Go.Proofs.YtbhmeagliebfdaaDoor
open Go
set_option linter.unusedSimpArgs false
set_option linter.unusedVariables false
set_option maxRecDepth 100000
theorem idx_app (t r : By) (e : UInt8) (h : ∀ c ∈ t, c ≠ e) : Lib.indexByte (t ++ e :: r) e = t.length := by
  induction t with
  | nil => simp [Lib.indexByte]
  | cons a t ih =>
    have h1 := ih (fun c hc => h c (List.mem_cons_of_mem _ hc))
    have h2 := h a (List.mem_cons_self ..)
    rw [List.cons_append, Lib.indexByte, if_neg (by simpa using h2), h1, if_neg (by rw [beq_iff_eq]; omega)]
    simp
theorem idx_no (t : By) (e : UInt8) (h : ∀ c ∈ t, c ≠ e) : Lib.indexByte t e = -1 := by
  induction t with
  | nil => rfl
  | cons a t ih =>
    have h1 := ih (fun c hc => h c (List.mem_cons_of_mem _ hc))
    have h2 := h a (List.mem_cons_self ..)
    rw [Lib.indexByte, if_neg (by simpa using h2), h1]
    rfl
theorem idx_one (e : UInt8) : ∀ (s : By), Lib.index s [e] = Lib.indexByte s e
  | [] => by rw [Lib.index]; rfl
  | a :: s => by
    rw [Lib.index, Lib.indexByte, idx_one e s]
    by_cases h : a = e
    · subst h; simp [List.isPrefixOf]
    · have h2 : (a == e) = false := beq_eq_false_iff_ne.2 h
      have h3 : (e == a) = false := beq_eq_false_iff_ne.2 (fun x => h x.symm)
      simp [List.isPrefixOf, h2, h3]
theorem cany_one (t : By) (e : UInt8) (h : ∀ c ∈ t, c ≠ e) : Lib.containsAny t [e] = false := by
  have : Lib.indexAny t [e] = -1 := Lib.indexAny_none (fun j b _ hb => by
    have hm := List.mem_of_getElem? hb
    simpa using h b hm)
  rw [Lib.containsAny, this]; rfl
theorem white_no (a : UInt8) (s : By) (h1 : a ≠ 32) (h2 : a ≠ 9) : whiteP (a :: s) = a :: s := by
  unfold whiteP Lib.trimLeftS
  rw [List.dropWhile_cons_of_neg]
  simp [h1, h2]
theorem white_nil : whiteP [] = [] := rfl
theorem white_sp (s : By) : whiteP (32 :: s) = whiteP s := by
  unfold whiteP Lib.trimLeftS
  rw [List.dropWhile_cons_of_pos]
  simp
theorem eat_hit (a : UInt8) (s : By) (h1 : a ≠ 32) (h2 : a ≠ 9) : eatP [a] (a :: s) = (true, s) := by
  unfold eatP
  rw [white_no a s h1 h2]
  simp [Lib.hasPrefix, Lib.trimPrefix]
theorem eat_miss (a b : UInt8) (w s : By) (h : b ≠ a) (h1 : a ≠ 32) (h2 : a ≠ 9) : eatP (b :: w) (a :: s) = (false, a :: s) := by
  unfold eatP
  rw [white_no a s h1 h2]
  have hb : (b == a) = false := beq_eq_false_iff_ne.2 h
  have hp : Lib.hasPrefix (a :: s) (b :: w) = false := by rw [Lib.hasPrefix, List.isPrefixOf, hb]; rfl
  rw [Lib.trimPrefix, hp]; rfl
theorem between_mk (t r : By) (h0 : t ≠ []) (h : ∀ c ∈ t, 33 ≤ c.toNat ∧ c.toNat ≤ 126 ∧ c ≠ 60 ∧ c ≠ 62) : betweenP 62 [60] 33 (t ++ 62 :: r) = some (t, r) := by
  have h1 := idx_app t r 62 (fun c hc => (h c hc).2.2.2)
  unfold betweenP
  rw [h1, if_neg (by omega), Int.toNat_natCast, List.take_left' rfl, if_neg h0, cany_one t 60 (fun c hc => (h c hc).2.2.1), if_neg (by decide), if_pos]
  · congr 2
    rw [← List.drop_drop, List.drop_left' rfl]; rfl
  · rw [List.all_eq_true]
    intro c hc
    exact decide_eq_true ⟨(h c hc).1, (h c hc).2.1⟩
/-! A path's form. -/
theorem hex_dig : ∀ n : Fin 16, digP (hexP n.val) = (n.val : Int) := by decide
theorem hex_fine : ∀ n : Fin 16, 48 ≤ (hexP n.val).toNat ∧ (hexP n.val).toNat ≤ 70 ∧ hexP n.val ≠ 60 ∧ hexP n.val ≠ 62 ∧ hexP n.val ≠ 63 := by decide
theorem byte_of (c : UInt8) : UInt8.ofNat (16 * (c.toNat / 16) + c.toNat % 16) = c := by
  rw [Nat.div_add_mod]; simp
theorem bare_fine (c : UInt8) (h : bareP c = true) : 45 ≤ c.toNat ∧ c.toNat ≤ 126 ∧ c ≠ 47 ∧ c ≠ 60 ∧ c ≠ 62 ∧ c ≠ 63 ∧ c ≠ 37 ∧ c ≠ 35 := by
  have key : ∀ n : Fin 256, bareP (UInt8.ofNat n.val) = true → 45 ≤ (UInt8.ofNat n.val).toNat ∧ (UInt8.ofNat n.val).toNat ≤ 126 ∧ UInt8.ofNat n.val ≠ 47 ∧ UInt8.ofNat n.val ≠ 60 ∧ UInt8.ofNat n.val ≠ 62 ∧ UInt8.ofNat n.val ≠ 63 ∧ UInt8.ofNat n.val ≠ 37 ∧ UInt8.ofNat n.val ≠ 35 := by decide
  have h1 := key ⟨c.toNat, c.toNat_lt⟩
  simp only [UInt8.ofNat_toNat] at h1
  exact h1 h
/-- What stands in a path's form. -/
def fineC (c : UInt8) : Prop := 33 ≤ c.toNat ∧ c.toNat ≤ 126 ∧ c ≠ 60 ∧ c ≠ 62 ∧ c ≠ 63 ∧ c ≠ 35
theorem enc_fine (c x : UInt8) (hx : x ∈ encP c) : fineC x ∧ x ≠ 47 := by
  unfold encP at hx
  split at hx
  · rename_i hb
    rw [List.mem_singleton] at hx
    subst hx
    have := bare_fine x hb
    exact ⟨⟨by omega, this.2.1, this.2.2.2.1, this.2.2.2.2.1, this.2.2.2.2.2.1, this.2.2.2.2.2.2.2⟩, this.2.2.1⟩
  · have hl := c.toNat_lt
    have h1 := hex_fine ⟨c.toNat / 16, by omega⟩
    have h2 := hex_fine ⟨c.toNat % 16, by omega⟩
    simp only [List.mem_cons, List.not_mem_nil, or_false] at hx
    rcases hx with rfl | rfl | rfl
    · exact ⟨⟨by decide, by decide, by decide, by decide, by decide, by decide⟩, by decide⟩
    · refine ⟨⟨by have := h1.1; simp only at this; omega, by have := h1.2.1; simp only at this; omega, h1.2.2.1, h1.2.2.2.1, h1.2.2.2.2, ?_⟩, ?_⟩ <;> (intro e; have := h1.1; simp only [e] at this; revert this; decide)
    · refine ⟨⟨by have := h2.1; simp only at this; omega, by have := h2.2.1; simp only at this; omega, h2.2.2.1, h2.2.2.2.1, h2.2.2.2.2, ?_⟩, ?_⟩ <;> (intro e; have := h2.1; simp only [e] at this; revert this; decide)
theorem dec_enc (c : UInt8) (r : By) : decP (encP c ++ r) = (decP r).map (c :: ·) := by
  unfold encP
  split
  · rename_i hb
    exact decP_other c r (bare_fine c hb).2.2.2.2.2.2.1
  · have hl := c.toNat_lt
    have h1 := hex_dig ⟨c.toNat / 16, by omega⟩
    have h2 := hex_dig ⟨c.toNat % 16, by omega⟩
    simp only at h1 h2
    rw [List.cons_append, List.cons_append, List.cons_append, List.nil_append, decP_pct, h1, h2, if_neg (by omega), Int.toNat_natCast, Int.toNat_natCast, byte_of]
theorem dec_flat : ∀ (s : By), decP (s.flatMap encP) = some s
  | [] => by simp [decP]
  | c :: s => by rw [List.flatMap_cons, dec_enc, dec_flat s]; rfl
theorem flat_fine (s : By) (x : UInt8) (hx : x ∈ s.flatMap encP) : fineC x ∧ x ≠ 47 := by
  obtain ⟨c, _, h⟩ := List.mem_flatMap.1 hx
  exact enc_fine c x h
theorem decode_enc (s : By) (h : segP s = true) : decodeP (s.flatMap encP) = some s := by
  unfold decodeP
  rw [dec_flat]
  simp only [segP, Bool.and_eq_true] at h
  simp only [h.2, if_true]
theorem step_seg (path : List By) (s : By) (h : segP s = true) : s.length ≤ 64 ∧ stepP path s = some (path ++ [s]) := by
  simp only [segP, Bool.and_eq_true, decide_eq_true_eq] at h
  obtain ⟨⟨⟨⟨h1, h2⟩, h3⟩, h4⟩, h5⟩ := h
  refine ⟨h4, ?_⟩
  unfold stepP
  rw [if_neg (by rintro (e | e); exact h1 e; exact h2 e), if_neg h3]
theorem fold_enc : ∀ (p path : List By), (∀ s ∈ p, segP s = true) → foldP (p.map (·.flatMap encP)) path = some (path ++ p)
  | [], path, _ => by simp [foldP]
  | s :: p, path, h => by
    have h1 := h s (List.mem_cons_self ..)
    obtain ⟨h2, h3⟩ := step_seg path s h1
    rw [List.map_cons, foldP, decode_enc s h1]
    simp only []
    rw [if_neg (by omega), h3]
    simp only []
    rw [fold_enc p _ (fun x hx => h x (List.mem_cons_of_mem _ hx))]
    simp
theorem split_no (s : By) (h : ∀ c ∈ s, c ≠ 47) : Lib.split s [47] = [s] := by
  unfold Lib.split
  rw [Lib.count_miss (by rw [idx_one, idx_no s 47 h])]
  rfl
theorem split_app (s r : By) (h : ∀ c ∈ s, c ≠ 47) : Lib.split (s ++ 47 :: r) [47] = s :: Lib.split r [47] := by
  have hi : Lib.index (s ++ 47 :: r) [47] = s.length := by rw [idx_one, idx_app s r 47 h]
  have hd : (s ++ 47 :: r).drop (s.length + ([47] : By).length) = r := by
    rw [← List.drop_drop, List.drop_left' rfl]; rfl
  unfold Lib.split
  rw [Lib.count_hit (by decide) hi, hd, Nat.add_comm, Lib.splitK, hi, if_neg (by rw [beq_iff_eq]; omega), Int.toNat_natCast, hd, Nat.add_zero, List.take_left' rfl]
theorem split_path : ∀ (s : By) (p : List By), Lib.split (s.flatMap encP ++ p.flatMap segE) [47] = (s :: p).map (·.flatMap encP)
  | s, [] => by
    rw [List.flatMap_nil, List.append_nil, split_no _ (fun c hc => (flat_fine s c hc).2)]; rfl
  | s, t :: p => by
    rw [List.flatMap_cons, segE, List.cons_append, split_app _ _ (fun c hc => (flat_fine s c hc).2), split_path t p]; rfl
theorem text_fine (p : List By) (h : pathP p = true) : textP p ≠ [] ∧ ∀ c ∈ textP p, fineC c := by
  unfold textP
  rw [if_pos h]
  split
  · refine ⟨by decide, ?_⟩
    intro c hc
    rw [List.mem_singleton] at hc
    subst hc
    exact ⟨by decide, by decide, by decide, by decide, by decide, by decide⟩
  · rename_i hp
    match p, hp with
    | s :: p, _ =>
      refine ⟨by rw [List.flatMap_cons, segE]; simp, ?_⟩
      intro c hc
      obtain ⟨t, _, ht⟩ := List.mem_flatMap.1 hc
      rw [segE] at ht
      rcases List.mem_cons.1 ht with rfl | ht
      · exact ⟨by decide, by decide, by decide, by decide, by decide, by decide⟩
      · exact (flat_fine t c ht).1
theorem text_head (p : List By) (h : pathP p = true) : ∃ r, textP p = 47 :: r := by
  unfold textP
  rw [if_pos h]
  split
  · exact ⟨[], rfl⟩
  · rename_i hp
    match p, hp with
    | s :: p, _ => exact ⟨s.flatMap encP ++ p.flatMap segE, by rw [List.flatMap_cons, segE]; rfl⟩
theorem uri_text (p : List By) (h : pathP p = true) : uriP (textP p) = some p := by
  obtain ⟨r, hr⟩ := text_head p h
  have hl : localP (textP p) = some (textP p) := by
    unfold localP
    rw [if_neg]
    rw [hr, httpP]
    simp [Lib.hasPrefix]
  have hpl : plainP (textP p) = true := by
    unfold plainP
    rw [List.all_eq_true]
    intro c hc
    have := (text_fine p h).2 c hc
    exact decide_eq_true ⟨this.1, this.2.1, this.2.2.2.2.1, this.2.2.2.2.2⟩
  have hpx : Lib.hasPrefix (textP p) [47] = true := by rw [hr]; simp [Lib.hasPrefix]
  unfold uriP
  rw [hl]
  simp only []
  rw [if_pos ⟨hpl, hpx⟩]
  have hp := h
  unfold pathP at hp
  rw [Bool.and_eq_true, List.all_eq_true, decide_eq_true_eq] at hp
  have hf : foldP (Lib.split ((textP p).drop 1) [47]) [] = some p := by
    unfold textP
    rw [if_pos h]
    match p, hp with
    | [], _ => decide
    | s :: q, hp =>
      rw [if_neg (by simp), List.flatMap_cons, segE, List.cons_append, List.drop_succ_cons, List.drop_zero, split_path, fold_enc _ _ hp.1]; rfl
  rw [hf]
  simp only []
  rw [if_neg (by omega)]
/-! A header. -/
def oneH (l : Lk) : By := 60 :: (textP l.path ++ 62 :: 32 :: 40 :: 60 :: (l.tok ++ [62, 41, 32]))
def headP (ls : List Lk) : By := ls.flatMap oneH
def grpOf (l : Lk) : Grp := ⟨true, textP l.path, [⟨false, l.tok, []⟩]⟩
theorem tok_fine {t : By} (h : tokP t = true) : t ≠ [] ∧ t.length ≤ 60 ∧ ∀ c ∈ t, 33 ≤ c.toNat ∧ c.toNat ≤ 126 ∧ c ≠ 60 ∧ c ≠ 62 := by
  simp only [tokP, Bool.and_eq_true, decide_eq_true_eq, List.all_eq_true] at h
  exact ⟨h.1.2, h.2, h.1.1⟩
theorem good_parts {l : Lk} (h : goodP l = true) : tokP l.tok = true ∧ pathP l.path = true := by
  simp only [goodP, Bool.and_eq_true] at h
  exact h.1
theorem list_mk (t r : By) (h : tokP t = true) (f : Nat) (hf : 2 ≤ f) : listP f (60 :: (t ++ 62 :: 41 :: r)) [] = some ([⟨false, t, []⟩], r) := by
  obtain ⟨g, rfl⟩ : ∃ g, f = g + 2 := ⟨f - 2, by omega⟩
  obtain ⟨h1, h2, h3⟩ := tok_fine h
  have hc : condiP (60 :: (t ++ 62 :: 41 :: r)) = some (⟨false, t, []⟩, 41 :: r) := by
    unfold condiP
    rw [eat_miss 60 78 [111, 116] _ (by decide) (by decide) (by decide)]
    simp only []
    rw [eat_hit 60 _ (by decide) (by decide)]
    simp only [if_true]
    rw [between_mk t _ h1 h3]
  rw [listP, eat_miss 60 41 [] _ (by decide) (by decide) (by decide)]
  simp only [Bool.false_eq_true, if_false]
  rw [hc]
  simp only []
  rw [listP, eat_hit 41 _ (by decide) (by decide)]
  simp
theorem head_white : ∀ (ls : List Lk), whiteP (headP ls) = headP ls
  | [] => rfl
  | l :: ls => by
    rw [headP, List.flatMap_cons, oneH, List.cons_append]
    exact white_no 60 _ (by decide) (by decide)
theorem oneH_app (l : Lk) (r : By) : oneH l ++ r = 60 :: (textP l.path ++ 62 :: 32 :: 40 :: 60 :: (l.tok ++ 62 :: 41 :: 32 :: r)) := by
  rw [oneH]; simp
theorem parse_mk : ∀ (ls : List Lk) (f : Nat) (out : List Grp) (tag : By) (tagged : Bool), (∀ l ∈ ls, goodP l = true) → (headP ls).length < f → (tagged = true ∨ out = []) →
    (ls ≠ [] ∨ out ≠ []) → parseP f (headP ls) out tag tagged false = some (out ++ ls.map grpOf)
  | [], f, out, tag, tagged, _, hf, _, hne => by
    obtain ⟨g, rfl⟩ : ∃ g, f = g + 1 := ⟨f - 1, by simp [headP] at hf; omega⟩
    have ho : out ≠ [] := hne.resolve_left (fun h => h rfl)
    rw [parseP, if_pos (by rfl), if_neg (by rintro (e | e); exact ho e; cases e)]
    simp
  | l :: ls, f, out, tag, tagged, hg, hf, ht, _ => by
    obtain ⟨h1, h2⟩ := good_parts (hg l (List.mem_cons_self ..))
    have ht2 := text_fine l.path h2
    rw [headP, List.flatMap_cons, oneH_app] at hf ⊢
    change _ = some (out ++ (grpOf l :: ls.map grpOf))
    have hfl : 2 ≤ f := by simp only [List.length_cons] at hf; omega
    obtain ⟨g, rfl⟩ : ∃ g, f = g + 2 := ⟨f - 2, by omega⟩
    rw [parseP, if_neg (by simp), eat_miss 60 40 [] _ (by decide) (by decide) (by decide)]
    simp only [Bool.false_eq_true, if_false]
    rw [eat_hit 60 _ (by decide) (by decide)]
    rw [if_pos (by simpa using ht)]
    simp only []
    rw [between_mk (textP l.path) _ ht2.1 (fun c hc => ⟨(ht2.2 c hc).1, (ht2.2 c hc).2.1, (ht2.2 c hc).2.2.1, (ht2.2 c hc).2.2.2.1⟩)]
    simp only []
    rw [white_sp, white_no 40 _ (by decide) (by decide), parseP, if_neg (by simp), eat_hit 40 _ (by decide) (by decide)]
    simp only [if_true]
    rw [list_mk l.tok _ h1 _ (by simp)]
    simp only []
    rw [white_sp]
    change parseP g (whiteP (headP ls)) _ _ _ _ = _
    rw [head_white, parse_mk ls g _ _ _ (fun x hx => hg x (List.mem_cons_of_mem _ hx)) ?_ (.inl rfl) (.inr (by simp))]
    · simp [grpOf]
    · have e : (ls.flatMap oneH).length = (headP ls).length := rfl
      simp only [List.length_cons, List.length_append, e] at hf
      omega
theorem cond_mk (ls : List Lk) (hg : ∀ l ∈ ls, goodP l = true) (hne : ls ≠ []) : condP (headP ls) = some (ls.map grpOf) := by
  unfold condP
  rw [head_white, parse_mk ls _ [] [] false hg (Nat.lt_succ_self _) (.inr rfl) (.inl hne)]
  rfl
/-! What the laws say. -/
/-- The facts of the statement. -/
def factOf (ls : List Lk) (p : List By) : Fct := ⟨p, [], (ls.filter fun l => coversP l p).map (·.tok)⟩
def factsP (ls : List Lk) (path : List By) : List Fct := ls.map (fun l => factOf ls l.path) ++ [factOf ls path]
theorem within_self (a : List By) : withinP a a = true := by
  simp [withinP]
theorem covers_self (l : Lk) : coversP l l.path = true := by
  simp [coversP, within_self]
theorem find_fact {ls : List Lk} {path : List By} {l : Lk} (hl : l ∈ ls) : findF (factsP ls path) l.path = factOf ls l.path := by
  unfold findF
  cases hf : (factsP ls path).find? (fun f => decide (f.path = l.path)) with
  | none =>
    have h1 := List.find?_eq_none.1 hf (factOf ls l.path) (by
      rw [factsP, List.mem_append]
      exact .inl (List.mem_map.2 ⟨l, hl, rfl⟩))
    simp [factOf] at h1
  | some f =>
    have h1 := List.find?_some hf
    have h2 := List.mem_of_find?_eq_some hf
    rw [decide_eq_true_eq] at h1
    rw [factsP, List.mem_append, List.mem_map, List.mem_singleton] at h2
    simp only [Option.getD_some]
    rcases h2 with ⟨k, _, rfl⟩ | rfl
    · change k.path = l.path at h1
      rw [h1]
    · change path = l.path at h1
      rw [h1]
theorem holds_mk {ls : List Lk} {path : List By} {l : Lk} (hg : goodP l = true) (hl : l ∈ ls) : holdsP (grpOf l) (ofP (grpOf l) path (factsP ls path)) = true := by
  obtain ⟨h1, h2⟩ := good_parts hg
  have hof : ofP (grpOf l) path (factsP ls path) = factOf ls l.path := by
    unfold ofP
    rw [if_pos (by rfl)]
    change (match uriP (textP l.path) with | none => _ | some p => findF _ p) = _
    rw [uri_text l.path h2]
    exact find_fact hl
  rw [hof]
  unfold holdsP
  rw [List.all_eq_true]
  intro c hc
  change c ∈ [(⟨false, l.tok, []⟩ : Cnd)] at hc
  rw [List.mem_singleton] at hc
  subst hc
  unfold isP
  rw [if_pos (tok_fine h1).1, decide_eq_true]
  · rfl
  · change l.tok ∈ (ls.filter fun k => coversP k l.path).map (·.tok)
    rw [List.mem_map]
    exact ⟨l, List.mem_filter.2 ⟨hl, covers_self l⟩, rfl⟩
theorem held_mk {ls : List Lk} (path : List By) (hg : ∀ l ∈ ls, goodP l = true) (hne : ls ≠ []) : heldP (ls.map grpOf) path (factsP ls path) = true := by
  match ls, hne with
  | l :: r, _ =>
    unfold heldP
    rw [List.any_eq_true]
    exact ⟨grpOf l, List.mem_map.2 ⟨l, List.mem_cons_self .., rfl⟩, holds_mk (hg l (List.mem_cons_self ..)) (List.mem_cons_self ..)⟩
theorem addT_keep (cs : List Cnd) : ∀ (out : List By) (t : By), t ∈ out → t ∈ cs.foldl addT out := by
  induction cs with
  | nil => exact fun _ _ h => h
  | cons c cs ih =>
    intro out t h
    rw [List.foldl_cons]
    refine ih _ t ?_
    unfold addT
    split
    · exact List.mem_append_left _ h
    · exact h
theorem addG_keep (self : List By) (fs : List Fct) (gs : List Grp) : ∀ (out : List By) (t : By), t ∈ out → t ∈ gs.foldl (addG self fs) out := by
  induction gs with
  | nil => exact fun _ _ h => h
  | cons g gs ih =>
    intro out t h
    rw [List.foldl_cons]
    refine ih _ t ?_
    unfold addG
    split
    · exact addT_keep _ out t h
    · exact h
theorem subm_mk {ls : List Lk} (path : List By) (hg : ∀ l ∈ ls, goodP l = true) : ∀ l ∈ ls, l.tok ∈ submP (ls.map grpOf) path (factsP ls path) := by
  have key : ∀ (ks : List Lk), (∀ k ∈ ks, k ∈ ls) → ∀ (out : List By), ∀ l ∈ ks, l.tok ∈ (ks.map grpOf).foldl (addG path (factsP ls path)) out := by
    intro ks
    induction ks with
    | nil => intro _ _ l hl; cases hl
    | cons k ks ih =>
      intro hk out l hl
      rw [List.map_cons, List.foldl_cons]
      rcases List.mem_cons.1 hl with rfl | hl
      · refine addG_keep _ _ _ _ _ ?_
        unfold addG
        rw [if_pos (holds_mk (hg l (hk l (List.mem_cons_self ..))) (hk l (List.mem_cons_self ..)))]
        change l.tok ∈ addT out ⟨false, l.tok, []⟩
        unfold addT
        by_cases hin : l.tok ∈ out
        · rw [if_neg (fun h => h.2.2 hin)]; exact hin
        · rw [if_pos ⟨(tok_fine (good_parts (hg l (hk l (List.mem_cons_self ..)))).1).1, rfl, hin⟩]
          exact List.mem_append_right _ (List.mem_singleton.2 rfl)
      · exact ih (fun x hx => hk x (List.mem_cons_of_mem _ hx)) _ l hl
  exact key ls (fun _ h => h) []
theorem free_mk {ls : List Lk} (path : List By) (hg : ∀ l ∈ ls, goodP l = true) : freeP ls path (submP (ls.map grpOf) path (factsP ls path)) = true := by
  unfold freeP
  rw [Bool.or_eq_true]
  by_cases h : (ls.any fun l => coversP l path) = true
  · left
    rw [List.any_eq_true] at h ⊢
    obtain ⟨l, hl, hc⟩ := h
    exact ⟨l, hl, by rw [hc, decide_eq_true (subm_mk path hg l hl)]; rfl⟩
  · right
    rw [Bool.not_eq_true] at h
    rw [h]; rfl
theorem addT_from (cs : List Cnd) : ∀ (out : List By) (t : By), t ∈ cs.foldl addT out → t ∈ out ∨ ∃ c ∈ cs, c.tok = t ∧ c.not = false := by
  induction cs with
  | nil => exact fun _ _ h => .inl h
  | cons c cs ih =>
    intro out t h
    rw [List.foldl_cons] at h
    rcases ih _ t h with h | ⟨d, hd, e⟩
    · unfold addT at h
      split at h
      · rename_i hc
        rcases List.mem_append.1 h with h | h
        · exact .inl h
        · rw [List.mem_singleton] at h
          exact .inr ⟨c, List.mem_cons_self .., h.symm, hc.2.1⟩
      · exact .inl h
    · exact .inr ⟨d, List.mem_cons_of_mem _ hd, e⟩
theorem addG_from (self : List By) (fs : List Fct) (gs : List Grp) : ∀ (out : List By) (t : By), t ∈ gs.foldl (addG self fs) out → t ∈ out ∨ ∃ g ∈ gs, ∃ c ∈ g.conds, c.tok = t ∧ c.not = false := by
  induction gs with
  | nil => exact fun _ _ h => .inl h
  | cons g gs ih =>
    intro out t h
    rw [List.foldl_cons] at h
    rcases ih _ t h with h | ⟨d, hd, e⟩
    · unfold addG at h
      split at h
      · rcases addT_from _ _ _ h with h | ⟨c, hc, e⟩
        · exact .inl h
        · exact .inr ⟨g, List.mem_cons_self .., c, hc, e⟩
      · exact .inl h
    · exact .inr ⟨d, List.mem_cons_of_mem _ hd, e⟩
/-- Where nothing names a covering lock's token, the path is no freer than with no tokens at all. -/
theorem free_named {ls : List Lk} {path : List By} {gs : List Grp} {fs : List Fct} (h0 : freeP ls path [] = false)
    (hn : ∀ l ∈ ls, coversP l path = true → ∀ g ∈ gs, ∀ c ∈ g.conds, ¬ (c.tok = l.tok ∧ c.not = false)) : freeP ls path (submP gs path fs) = false := by
  unfold freeP at h0 ⊢
  rw [Bool.or_eq_false_iff] at h0 ⊢
  refine ⟨?_, h0.2⟩
  rw [Bool.eq_false_iff, Ne, List.any_eq_true]
  rintro ⟨l, hl, hc⟩
  rw [Bool.and_eq_true, decide_eq_true_eq] at hc
  rcases addG_from path fs gs [] l.tok hc.2 with h | ⟨g, hg, c, hcc, e⟩
  · cases h
  · exact hn l hl hc.1 g hg c hcc e
end Go.Proofs.YtbhmeagliebfdaaDoor
