/- docketlaw07: all blobs of a store, in plain words. -/
import Derived.Test.YtmefbbmjamdnjaaBb14
namespace Go.Proofs.Ytmefbbmjamdnjaa
open Go Go.RowKit
set_option linter.unusedSimpArgs false
set_option linter.unusedVariables false
set_option maxRecDepth 100000

theorem BlobAt.keepB {es es' : Img} {head : Nat} {text : Bytes} {rs : List Run} (h : BlobAt es head text rs) (hk : ∀ t ∈ bkN head rs, lookB es' (t : Nat) = lookB es (t : Nat)) : BlobAt es' head text rs := by
  refine ⟨?_, h.le, fun i hi => ?_⟩
  · rcases h.top with e | hh
    · exact .inl e
    · have h1 := hh.one
      have hm : head ∈ bkN head rs := by rw [bkN, if_neg (by omega)]; simp
      exact .inr ⟨by rw [hk head hm]; exact hh.look, hh.one, hh.lo, hh.hi, hh.runs, hh.len⟩
  · have hm : (runsB rs)[i] ∈ bkN head rs := by
      rcases h.top with ⟨_, _, e⟩ | hh
      · subst e; cases hi
      · have h1 := hh.one
        rw [bkN, if_neg (by omega)]
        exact List.mem_append_left _ (List.getElem_mem _)
    rw [hk _ hm]; exact h.piece i hi
theorem BlobAt.needB {es : Img} {head : Nat} {text : Bytes} {rs : List Run} (h : BlobAt es head text rs) : (bkN head rs).length = needN text := by
  rcases h.top with ⟨e1, e2, e3⟩ | hh
  · rw [e1, e2]; rfl
  · have h1 := hh.one
    have h2 := hh.lo
    rw [bkN, if_neg (by omega), needN, if_neg (fun e => by rw [e] at h2; simp at h2), List.length_append, h.len]; simp; omega
/-- A blob that is held: its head, its text, its runs. -/
structure Bl where
  head : Nat
  s : ByteArray
  rs : List Run
def Bl.bk (b : Bl) : List Nat := bkN b.head b.rs
def Bl.need (b : Bl) : Nat := needN b.s.data.toList
/-- All blobs of a store. -/
structure AllOk (es : Img) (all : List Bl) : Prop where
  ok : ∀ b ∈ all, BlobAt es b.head b.s.data.toList b.rs ∧ b.bk.Nodup ∧ ∀ t ∈ b.bk, 1 ≤ t ∧ t ≤ 4096
  dis : all.Pairwise fun a b => ∀ t ∈ a.bk, t ∉ b.bk
  len : es.length = (all.map Bl.need).sum
theorem AllOk.nil : AllOk [] [] := ⟨(fun b h => by cases h), List.Pairwise.nil, rfl⟩
theorem AllOk.same {es ef : Img} {all : List Bl} (h : AllOk es all) (hk : ∀ k, lookB ef k = lookB es k) (hl : ef.length = es.length) : AllOk ef all :=
  ⟨fun b hb => ⟨(h.ok b hb).1.keepB (fun t _ => hk _), (h.ok b hb).2⟩, h.dis, by rw [hl]; exact h.len⟩
theorem AllOk.add {es ef : Img} {all : List Bl} (h : AllOk es all) {hd : Nat} {s : ByteArray} {rs : List Run} (ha : AddedP es s.data.toList hd rs ef) : AllOk ef (all ++ [⟨hd, s, rs⟩]) := by
  have hth : ∀ b ∈ all, ∀ t ∈ b.bk, t ∉ bkN hd rs := fun b hb t ht hn => (h.ok b hb).1.there t ht (ha.fresh t hn).2.2
  refine ⟨fun b hb => ?_, ?_, ?_⟩
  · rcases List.mem_append.1 hb with e | e
    · refine ⟨(h.ok b e).1.keepB (fun t ht => ha.other _ (fun u hu e2 => hth b e t ht (by rw [show t = u by omega]; exact hu))), (h.ok b e).2⟩
    · rw [List.mem_singleton] at e
      rw [e]
      exact ⟨ha.blob, ha.nd, fun t ht => ⟨(ha.fresh t ht).1, (ha.fresh t ht).2.1⟩⟩
  · rw [List.pairwise_append]
    exact ⟨h.dis, List.pairwise_singleton _ _, fun a ha2 b hb => by rw [List.mem_singleton] at hb; rw [hb]; exact hth a ha2⟩
  · rw [ha.len, h.len, List.map_append, List.sum_append]; simp [Bl.need]
theorem AllOk.del {es ef : Img} {l1 l2 : List Bl} {b : Bl} (h : AllOk es (l1 ++ b :: l2)) (hf : FreeP es b.bk ef) : AllOk ef (l1 ++ l2) := by
  have hp := List.pairwise_append.1 h.dis
  have hp2 := List.pairwise_cons.1 hp.2.1
  have hb := h.ok b (by simp)
  refine ⟨fun c hc => ?_, ?_, ?_⟩
  · have hcm : c ∈ l1 ++ b :: l2 := by
      rcases List.mem_append.1 hc with e | e
      · exact List.mem_append_left _ e
      · exact List.mem_append_right _ (List.mem_cons_of_mem _ e)
    refine ⟨(h.ok c hcm).1.keepB (fun t ht => hf.2.1 _ (fun u hu e => ?_)), (h.ok c hcm).2⟩
    have hut : u = t := by omega
    subst hut
    rcases List.mem_append.1 hc with e2 | e2
    · exact hp.2.2 c e2 b (List.mem_cons_self ..) u ht hu
    · exact hp2.1 c e2 u hu ht
  · rw [List.pairwise_append]
    exact ⟨hp.1, hp2.2, fun a ha c hc => hp.2.2 a ha c (List.mem_cons_of_mem _ hc)⟩
  · have h1 := hf.2.2
    have h2 := h.len
    have h3 := hb.1.needB
    rw [List.map_append, List.sum_append, List.map_cons, List.sum_cons] at h2
    rw [List.map_append, List.sum_append]
    have h4 : b.bk.length = b.need := h3
    omega
end Go.Proofs.Ytmefbbmjamdnjaa
