/- docketlaw05.SpaceCounts: what is kept in its loop. -/
import Derived.Test.YtndhcimepgcfaaaSp7
namespace Go.Proofs.Ytndhcimepgcfaaa
open Go Go.RowKit
set_option linter.unusedSimpArgs false
set_option linter.unusedVariables false
set_option maxRecDepth 100000
def intsV (l : List Nat) : List Value := l.map fun (b : Nat) => .int .i64 (b : Int)
theorem intsV_length (l : List Nat) : (intsV l).length = l.length := by simp [intsV]
theorem intsV_one (l : List Nat) : ∀ u ∈ intsV l, u.oneCell' = true := by
  intro u hu
  simp only [intsV, List.mem_map] at hu
  obtain ⟨b, _, rfl⟩ := hu
  rfl
theorem infoInt : (Try.prog.info? 3).map (fun i => (i.zero, i.size, i.bytes)) = some (some (.int .i64 0), 1, 8) := by kernel_rfl
structure CountsM (w wr : World) (mb N : Nat) (now : Bytes) (mine : List Nat) (ml : Nat) (x : Option Addr) (c : Nat) : Prop where
  map : MapS wr mb N now three
  len : mine.length = ml
  mid : Mid wr 1 (.slice x ml c) ml (intsV mine)
  has : ∀ c, c < 4096 → hasB now c = (decide (c < 2) || decide (c ∈ mine))
  nod : mine.Nodup
  rng : ∀ b ∈ mine, 2 ≤ b ∧ b < N
  used : usedB now = 2 + ml
  upd : Upd (fun _ => False) w wr
  lo : w.heap.size ≤ mb
  own : ∀ q, (Value.slice x ml c).ownBlock = some q → w.heap.size ≤ q ∧ q ≠ mb
section
variable {w wr w' : World} {mb N : Nat} {now : Bytes} {mine : List Nat} {ml : Nat} {x : Option Addr} {c : Nat}
theorem CountsM.start (hm : MapS wr mb N three three) (hu : Upd (fun _ => False) w wr) (hl : w.heap.size ≤ mb) : CountsM w wr mb N three [] 0 none 0 :=
  ⟨hm, rfl, Mid.nil _ _, fun c _ => by rw [has_three]; simp, List.nodup_nil, (fun b hb => by cases hb), used_three, hu, hl, fun q hq => by cases hq⟩
theorem CountsM.max (h : CountsM w wr mb N now mine ml x c) (hN2 : 2 ≤ N) (hN : N ≤ 4096) : 2 + ml ≤ N := by
  have h1 := used_N h.map.l1 hN (fun c hc hc2 => by
    rw [h.has c hc2]
    have : c ∉ mine := fun hm => by have := (h.rng c hm).2; omega
    simp [this]; omega)
  have h2 := cnt_le (hasB now) N
  rw [← h1, h.used] at h2
  exact h2
theorem CountsM.taken (h : CountsM w wr mb N now mine ml x c) (hN2 : 2 ≤ N) (hN : N ≤ 4096) {a r : Int} (hp : TakePost wr mb N now three a r w') :
    (2 + ml = N ∧ r = 12 ∧ Upd (fun _ => False) wr w') ∨ (2 + ml < N ∧ r = 0 ∧ ∃ b : Nat, a = b ∧ 2 ≤ b ∧ b < N ∧ b ∉ mine ∧ MapS w' mb N (setB now b) three ∧ Upd (fun q => q = mb) wr w') := by
  have hmax := h.max hN2 hN
  rcases hp with ⟨b, h1, h2, h3, h4, h5, h6, h7⟩ | ⟨h1, h2, h3, h4⟩
  · right
    simp only [Free2, Bool.and_eq_true, Bool.not_eq_true', has_three] at h2
    have hb := h.has b (by omega)
    rw [h2.1] at hb
    simp at hb
    have hm6 : CountsM w wr mb N now mine ml x c := h
    have hus := used_set h.map.l1 (b := b) (by omega) h2.1
    have h8 := used_N (l := setB now b) h6.l1 hN (fun c hc hc2 => by
      rw [has_set now h.map.l1 b c (by omega), h.has c hc2]
      have : c ∉ mine := fun hm => by have := (h.rng c hm).2; omega
      simp [this]; omega)
    have h9 := cnt_le (hasB (setB now b)) N
    rw [← h8, hus, h.used] at h9
    exact ⟨by omega, h5, b, h4, by omega, h1, hb.2, h6, h7⟩
  · left
    refine ⟨?_, h3, h4⟩
    have hall : ∀ i, i < N → hasB now i = true := fun i hi => by
      have := h1 i hi
      simp only [Free2, has_three] at this
      rw [h.has i (by omega)]
      by_cases h2 : i < 2
      · simp [h2]
      · rw [h.has i (by omega)] at this
        simp [h2] at this ⊢
        exact this
    have h8 := used_N h.map.l1 hN (fun c hc hc2 => by
      rw [h.has c hc2]
      have : c ∉ mine := fun hm => by have := (h.rng c hm).2; omega
      simp [this]; omega)
    rw [cnt_all hall, h.used] at h8
    exact h8
theorem CountsM.step (h : CountsM w wr mb N now mine ml x c) (hu : Upd (fun _ => False) wr w') : CountsM w w' mb N now mine ml x c :=
  ⟨h.map.upd hu (fun h => h), h.len, h.mid.upd hu (fun _ _ h => h), h.has, h.nod, h.rng, h.used, h.upd.trans hu, h.lo, h.own⟩
theorem CountsM.app (h : CountsM w wr mb N now mine ml x c) (hN : N ≤ 4096) {b : Nat} (h2 : 2 ≤ b) (hb : b < N) (hn : b ∉ mine) {w4 w5 : World} (hm : MapS w4 mb N (setB now b) three) (hu4 : Upd (fun q => q = mb) wr w4) {ob : Obj} {x' : Option Addr} {c' : Nat}
    (hmid : Mid w5 1 (.slice x' (ml + 1) c') (ml + 1) (intsV (mine ++ [b]))) (hu5 : Upd (fun q => (Value.slice x ml c).ownBlock = some q) (w4.alloc ob) w5)
    (hown : (Value.slice x' (ml + 1) c').ownBlock = (Value.slice x ml c).ownBlock ∨ (Value.slice x' (ml + 1) c').ownBlock = some (w4.alloc ob).heap.size) : CountsM w w5 mb N (setB now b) (mine ++ [b]) (ml + 1) x' c' := by
  have hal : Upd (fun _ => False) w4 (w4.alloc ob) := (Upd.refl _ w4).alloc ob
  have hz1 := h.upd.size
  have hz2 := hu4.size
  have hz3 := hal.size
  have hml := hm.cells.lt
  have hlo := h.lo
  have hbm : hasB now b = false := by
    rw [h.has b (by omega)]; simp [hn]; omega
  refine ⟨(hm.upd hal (fun h => h)).upd hu5 (fun e => (h.own _ e).2 rfl), by rw [List.length_append, h.len]; rfl, hmid, fun c hc => ?_, ?_, fun d hd => ?_, ?_, ((h.upd.then hu4 (fun q hq => .inr (by omega))).trans hal).then hu5 (fun q hq => .inr (h.own q hq).1), h.lo, fun q hq => ?_⟩
  · rw [has_set now h.map.l1 b c (by omega), h.has c hc]
    by_cases e : c = b <;> simp [e]
  · rw [List.nodup_append]
    exact ⟨h.nod, by simp, fun a ha d hd => by rw [List.mem_singleton] at hd; rw [hd]; exact fun e => hn (e ▸ ha)⟩
  · rcases List.mem_append.1 hd with e | e
    · exact h.rng d e
    · rw [List.mem_singleton] at e; rw [e]; exact ⟨h2, hb⟩
  · rw [used_set h.map.l1 (by omega) hbm, h.used]; omega
  · rcases hown with e | e
    · rw [e] at hq; exact h.own q hq
    · rw [e] at hq; cases hq; exact ⟨by omega, by omega⟩
/-- The first one given back. -/
theorem CountsM.back {b : Nat} {r : List Nat} (h : CountsM w wr mb N now (b :: r) (ml + 1) x c) (hN : N ≤ 4096) {g off : Nat} (hx : x = some ⟨g, off, none⟩) {w4 : World} (hm : MapS w4 mb N (cutB now b) three) (hu4 : Upd (fun q => q = mb) wr w4) {o' c' : Nat} (hc : c = c' + 1) (ho : (if c = 1 then off else off + 1) = o') :
    CountsM w w4 mb N (cutB now b) r ml (some ⟨g, o', none⟩) c' := by
  have hlo := h.lo
  have hb := h.rng b List.mem_cons_self
  have hnd := List.nodup_cons.1 h.nod
  have hmid := h.mid.upd hu4 (fun q hq => (h.own q hq).2)
  have hbt : hasB now b = true := by rw [h.has b (by omega)]; simp
  have huc := used_cut h.map.l1 (b := b) (by omega) hbt
  refine ⟨hm, by have := h.len; simpa using this, ?_, fun d hd => ?_, hnd.2, fun d hd => h.rng d (List.mem_cons_of_mem _ hd), by have := h.used; omega, h.upd.then hu4 (fun q hq => .inr (by omega)), h.lo, fun q hq => h.own q (by rw [hx]; exact hq)⟩
  · subst hx
    obtain ⟨m1, m2⟩ := hmid
    rcases m2 with ⟨e, _⟩ | ⟨g', off', cap, e, e1, e2, e3, e4, e5⟩
    · cases e
    · cases e
      have hl : (intsV r).length = ml := by have := h.len; rw [intsV_length]; simpa using this
      refine ⟨by rw [hl]; omega, .inr ⟨g, o', c', rfl, by omega, by omega, e3, ?_, ?_⟩⟩
      · by_cases hc1 : c = 1
        · rw [if_pos hc1] at ho
          have : ml = 0 := by omega
          have : intsV r = [] := List.eq_nil_of_length_eq_zero (by omega)
          rw [this]
          intro j v hj
          cases hj
        · rw [if_neg hc1] at ho
          subst ho
          intro j v hj
          have := e4 (j + 1) v (by simpa [intsV] using hj)
          rwa [show off + (j + 1) = off + 1 + j by omega] at this
      · intro j hj
        by_cases hc1 : c = 1
        · omega
        · rw [if_neg hc1] at ho
          subst ho
          have := e5 j (by omega)
          rwa [show off + (ml + 1) * 1 + j = off + 1 + ml * 1 + j by omega] at this
  · rw [has_cut now h.map.l1 b d (by omega), h.has d hd]
    by_cases e : d = b
    · subst e
      have : d ∉ r := hnd.1
      simp [this]; omega
    · simp [e]
end
end Go.Proofs.Ytndhcimepgcfaaa
