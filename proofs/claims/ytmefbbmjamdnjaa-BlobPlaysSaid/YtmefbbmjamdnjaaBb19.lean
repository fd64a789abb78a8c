/- docketlaw07: the state of BlobPlays. -/
import Derived.Test.YtmefbbmjamdnjaaBb18
import Derived.Test.YtmefbbmjamdnjaaOpenB7
namespace Go.Proofs.Ytmefbbmjamdnjaa
open Go Go.RowKit
set_option linter.unusedSimpArgs false
set_option linter.unusedVariables false
set_option maxRecDepth 100000

theorem sizeBop : (Try.prog.info? 38).map (·.size) = some 5 := by kernel_rfl
theorem part_none (f n : Nat) : (([] : Bytes).drop f).take n = [] := by simp
/-- In the middle of BlobPlays: the store, the blobs that are held. -/
def PlX (W : World) (most mb : Nat) (y : Option Addr) (n d k : Nat) (wr : World) : Prop :=
  ∃ (es : Img) (K : Nat → Prop) (all : List Bl), Upd (fun _ => False) W wr ∧ MemAt wr mb most es K ∧ (∀ q, K q → W.heap.size ≤ q) ∧ AllOk es all ∧ Mid wr 2 (.slice y n d) n (heldsV all) ∧
    (∀ q, (Value.slice y n d).ownBlock = some q → W.heap.size ≤ q ∧ ¬ K q) ∧ n ≤ k
section
variable {W wr : World} {most mb n d k : Nat} {y : Option Addr}
theorem PlX.new {K : Nat → Prop} (hu : Upd (fun _ => False) W wr) (hM : MemAt wr mb most [] K) (hK : ∀ q, K q → W.heap.size ≤ q) : PlX W most mb none 0 0 0 wr :=
  ⟨[], K, [], hu, hM, hK, AllOk.nil, Mid.nil _ _, (fun q hq => by cases hq), Nat.le_refl _⟩
theorem PlX.upd (h : PlX W most mb y n d k wr) : Upd (fun _ => False) W wr := let ⟨_, _, _, h, _⟩ := h; h
theorem PlX.le (h : PlX W most mb y n d k wr) : n ≤ k := let ⟨_, _, _, _, _, _, _, _, _, h⟩ := h; h
theorem PlX.quiet (h : PlX W most mb y n d k wr) {w' : World} (hu : Upd (fun _ => False) wr w') : PlX W most mb y n d k w' := by
  obtain ⟨es, K, all, h1, h2, h3, h4, h5, h6, h7⟩ := h
  exact ⟨es, K, all, h1.trans hu, h2.upd hu (fun _ _ h => h), h3, h4, h5.upd hu (fun _ _ h => h), h6, h7⟩
theorem PlX.mono (h : PlX W most mb y n d k wr) {k' : Nat} (hk : k ≤ k') : PlX W most mb y n d k' wr := by
  obtain ⟨es, K, all, h1, h2, h3, h4, h5, h6, h7⟩ := h
  exact ⟨es, K, all, h1, h2, h3, h4, h5, h6, by omega⟩
theorem PlX.of_put {es : Img} {K : Nat → Prop} (h1 : Upd (fun _ => False) W wr) (h2 : MemAt wr mb most es K) (h3 : ∀ q, K q → W.heap.size ≤ q) (h6 : ∀ q, (Value.slice y n d).ownBlock = some q → W.heap.size ≤ q ∧ ¬ K q) (h7 : n ≤ k) {e : Ending} {w' : World} (hp : PutR wr mb most K y n d e w') :
    ∃ (y' : Option Addr) (n' d' : Nat), e = .returned (.tuple #[.slice y' n' d', .bool true]) ∧ PlX W most mb y' n' d' (k + 1) w' := by
  obtain ⟨all', y', n', d', ef, K', rfl, g1, g2, g3, g4, g5, g6, g7⟩ := hp
  have hz := h1.size
  refine ⟨y', n', d', rfl, ef, K', all', h1.then g6 (fun q hq => .inr ?_), g2, fun q hq => ?_, g3, g1, fun q hq => ⟨?_, (g5 q hq).2⟩, by omega⟩
  · rcases hq with e | e
    · exact h3 q e
    · exact (h6 q e).1
  · rcases g4 q hq with e | e
    · exact h3 q e
    · omega
  · rcases (g5 q hq).1 with e | e
    · exact (h6 q e).1
    · omega
theorem PlX.put (h : PlX W most mb y n d k wr) (hk : k ≤ 100) (s : ByteArray) :
    Calls Try.prog 11 #[.pointer (some ⟨mb, 0, none⟩), .int .i64 (most : Nat), .slice y n d, .string s, .int .i64 (-1)] wr fun e w' => ∃ (y' : Option Addr) (n' d' : Nat), e = .returned (.tuple #[.slice y' n' d', .bool true]) ∧ PlX W most mb y' n' d' (k + 1) w' := by
  obtain ⟨es, K, all, h1, h2, h3, h4, h5, h6, h7⟩ := h
  exact (put_write h2 h4 h5 (fun q hq => (h6 q hq).2) (by omega) s).mono fun e w' hp => PlX.of_put h1 h2 h3 h6 h7 hp
/-- The blob number j. -/
theorem PlX.at (h : PlX W most mb y n d k wr) (hk : k ≤ 100) (j : Nat) (hj : j < n) : ∃ (g o hd : Nat) (s : ByteArray), y = some ⟨g, o, none⟩ ∧ wr.cell? ⟨g, o + j * 2, none⟩ = some (.int .i64 (hd : Nat)) ∧ wr.cell? ⟨g, o + j * 2 + 1, none⟩ = some (.string s) ∧ g < wr.heap.size ∧ hd ≤ 4096 ∧ s.size ≤ 49152 ∧
    Calls Try.prog 11 #[.pointer (some ⟨mb, 0, none⟩), .int .i64 (most : Nat), .slice y n d, .string s, .int .i64 (j : Nat)] wr (fun e w' => ∃ (y' : Option Addr) (n' d' : Nat), e = .returned (.tuple #[.slice y' n' d', .bool true]) ∧ PlX W most mb y' n' d' (k + 1) w') ∧
    (∀ wX, Upd (fun _ => False) wr wX → ∀ f m : Nat, f < 9223372036854775808 → m < 9223372036854775808 → Calls Try.prog 10 #[.iface 26 (.pointer (some ⟨mb, 0, none⟩)), .int .i64 (hd : Nat), .int .i64 (f : Nat), .int .i64 (m : Nat)] wX fun e w' => e = .returned (.tuple #[.string ⟨((s.data.toList.drop f).take m).toArray⟩, .int .i64 0]) ∧ Upd (fun _ => False) wX w') := by
  obtain ⟨es, K, all, h1, h2, h3, h4, h5, h6, h7⟩ := h
  have hlen := held_len h5
  have hja : j < all.length := by omega
  obtain ⟨g, o, e, c1, c2⟩ := held_cell h5 j hja
  have hb := h4.ok _ (List.getElem_mem hja)
  have hsm := hb.1.small
  have htl : all[j].s.data.toList.length = all[j].s.size := Array.length_toList
  refine ⟨g, o, _, _, e, c1, c2, h5.lt g (by rw [e]; rfl), hb.1.le, by omega, ?_, fun wX hu f m hf hm => readat_ok (h2.upd hu (fun _ _ h => h)) hb.1 f m hf hm⟩
  exact (put_clone h2 h4 h5 (fun q hq => (h6 q hq).2) (by omega) j hja _ rfl).mono fun e w' hp => PlX.of_put h1 h2 h3 h6 h7 hp
theorem heldsV_take (all : List Bl) (j : Nat) : (heldsV all).take (j * 2) = heldsV (all.take j) := by
  induction all generalizing j with
  | nil => simp [heldsV]
  | cons b r ih =>
    cases j with
    | zero => simp [heldsV]
    | succ j =>
      rw [show (j + 1) * 2 = j * 2 + 1 + 1 by omega, List.take_succ_cons]
      show (heldV b ++ heldsV r).take (j * 2 + 1 + 1) = heldV b ++ heldsV (r.take j)
      rw [heldV, List.cons_append, List.cons_append, List.nil_append, List.take_succ_cons, List.take_succ_cons, ih]; rfl
theorem heldsV_drop (all : List Bl) (j : Nat) : (heldsV all).drop (j * 2) = heldsV (all.drop j) := by
  induction all generalizing j with
  | nil => simp [heldsV]
  | cons b r ih =>
    cases j with
    | zero => simp [heldsV]
    | succ j =>
      rw [show (j + 1) * 2 = j * 2 + 1 + 1 by omega, List.drop_succ_cons]
      show (heldV b ++ heldsV r).drop (j * 2 + 1 + 1) = heldsV (r.drop j)
      rw [heldV, List.cons_append, List.cons_append, List.nil_append, List.drop_succ_cons, List.drop_succ_cons, ih]
/-- The blob number j is given back; it stands in the list still. -/
def PlD (W : World) (most mb g o n d j k : Nat) (l1 l2 : List Value) (wr : World) : Prop :=
  ∃ (es : Img) (K : Nat → Prop) (all : List Bl), Upd (fun _ => False) W wr ∧ MemAt wr mb most es K ∧ (∀ q, K q → W.heap.size ≤ q) ∧ AllOk es (all.take j ++ all.drop (j + 1)) ∧ l1 = heldsV (all.take j) ∧ l2 = heldsV (all.drop (j + 1)) ∧
    wr.rangeAt g o l1 ∧ wr.rangeAt g (o + (j + 1) * 2) l2 ∧ n ≤ k ∧ all.length = n
theorem PlX.free (h : PlX W most mb y n d k wr) (hk : k ≤ 100) (j : Nat) (hj : j < n) : ∃ (g o hd : Nat), y = some ⟨g, o, none⟩ ∧ n ≤ d ∧ d ≤ maxLen ∧ wr.cell? ⟨g, o + j * 2, none⟩ = some (.int .i64 (hd : Nat)) ∧
    Calls Try.prog 12 #[.iface 26 (.pointer (some ⟨mb, 0, none⟩)), .int .i64 (hd : Nat)] wr (fun e w' => e = .returned (.int .i64 0) ∧ ∃ l1 l2, l1.length = j * 2 ∧ l2.length = (n - (j + 1)) * 2 ∧ (∀ u ∈ l1, u.oneCell' = true) ∧ (∀ u ∈ l2, u.oneCell' = true) ∧ PlD W most mb g o n d j k l1 l2 w') := by
  obtain ⟨es, K, all, h1, h2, h3, h4, h5, h6, h7⟩ := h
  have hlen := held_len h5
  have hja : j < all.length := by omega
  obtain ⟨g, o, e, c1, c2⟩ := held_cell h5 j hja
  have hb := h4.ok _ (List.getElem_mem hja)
  obtain ⟨_, ⟨e0, _⟩ | ⟨g', o', cap, e', hcap, hmx, hgl, hr, _⟩⟩ := h5
  · cases e0; omega
  cases e
  cases e'
  refine ⟨g, o, _, rfl, hcap, hmx, c1, (free7_ok h2 hb.1 hb.2.1).mono ?_⟩
  rintro e w' ⟨es', rfl, g1, g2, g3⟩
  have hone : ∀ (l : List Bl), ∀ u ∈ heldsV l, u.oneCell' = true := fun l u hu => by
    obtain ⟨b, _, hb⟩ := List.mem_flatMap.1 hu
    simp [heldV] at hb
    rcases hb with rfl | rfl <;> rfl
  have hng : ¬ K g := (h6 g rfl).2
  have hr' : w'.rangeAt g o (heldsV all) := g2.range hr hng
  refine ⟨rfl, heldsV (all.take j), heldsV (all.drop (j + 1)), by rw [heldsV_length, List.length_take]; omega, by rw [heldsV_length, List.length_drop, hlen], hone _, hone _, es', K, all, h1.then g2 (fun q hq => .inr (h3 q hq)), g1, h3, ?_, rfl, rfl, ?_, ?_, h7, hlen⟩
  · have hsp : all = all.take j ++ all[j] :: all.drop (j + 1) := by
      rw [List.getElem_cons_drop, List.take_append_drop]
    rw [hsp] at h4
    exact h4.del g3
  · intro i v hv
    refine hr' i v ?_
    rw [← heldsV_take, List.getElem?_take] at hv
    split at hv
    · exact hv
    · cases hv
  · intro i v hv
    rw [← heldsV_drop, List.getElem?_drop] at hv
    have := hr' _ v hv
    rwa [← Nat.add_assoc] at this
/-- The list without it. -/
theorem PlD.done {g o j : Nat} {l1 l2 : List Value} (h : PlD W most mb g o n d j k l1 l2 wr) (hj : j < n) {w' : World} (hu : Upd (fun q => wr.heap.size ≤ q) wr w') {x : Option Addr} {c m : Nat} (hm : Mid w' 2 (.slice x m c) m (l1 ++ l2)) (ho : ∀ q, (Value.slice x m c).ownBlock = some q → wr.heap.size ≤ q) (hmn : m + 1 = n) : PlX W most mb x m c (k + 1) w' := by
  obtain ⟨es, K, all, h1, h2, h3, h4, rfl, rfl, h5, h6, h7, h8⟩ := h
  have hz := h1.size
  refine ⟨es, K, all.take j ++ all.drop (j + 1), h1.then hu (fun q hq => .inr (by omega)), h2.upd hu (fun q hq hw => by have := h2.lt q hq; omega), h3, h4, by rw [heldsV_append]; exact hm, fun q hq => ?_, by omega⟩
  have := ho q hq
  exact ⟨by omega, fun hk => by have := h2.lt q hk; omega⟩
theorem PlX.whole (h : PlX W most mb y n d k wr) (hk : k ≤ 100) : Calls Try.prog 14 #[.pointer (some ⟨mb, 0, none⟩), .slice y n d] wr fun e w' => e = .returned (.bool true) ∧ Upd (fun _ => False) wr w' := by
  obtain ⟨es, K, all, h1, h2, h3, h4, h5, h6, h7⟩ := h
  exact whole_ok h2 h4 h5 (by omega)
end
end Go.Proofs.Ytmefbbmjamdnjaa
