/- BlobClones: the walk. -/
import Derived.Test.YtmefbbmjamdnjaaBb10
namespace Go.Proofs.Ytmefbbmjamdnjaa
open Go Go.RowKit
set_option linter.unusedSimpArgs false
set_option linter.unusedVariables false
set_option maxRecDepth 100000

theorem mk_data (s : ByteArray) : (⟨s.data.toList.toArray⟩ : ByteArray) = s := by cases s; simp
theorem BlobAt.keep {es es' : Img} {head : Nat} {text : Bytes} {rs : List Run} (h : BlobAt es head text rs) (hk : ∀ t ∈ bkN head rs, lookB es' (t : Nat) = lookB es (t : Nat)) : BlobAt es' head text rs := by
  refine ⟨?_, h.le, fun i hi => ?_⟩
  · rcases h.top with e | hh
    · exact .inl e
    · have h1 := hh.one
      have hm : head ∈ bkN head rs := by rw [bkN, if_neg (by omega)]; simp
      exact .inr ⟨by rw [hk head hm]; exact hh.look, hh.one, hh.lo, hh.hi, hh.runs, hh.len⟩
  · have hm : (runsB rs)[i] ∈ bkN head rs := by
      rcases h.top with ⟨_, _, e⟩ | hh
      · subst e; cases hi
      · have h1 := hh.one
        rw [bkN, if_neg (by omega)]
        exact List.mem_append_left _ (List.getElem_mem _)
    rw [hk _ hm]; exact h.piece i hi
theorem BlobAt.need {es : Img} {head : Nat} {text : Bytes} {rs : List Run} (h : BlobAt es head text rs) : (bkN head rs).length = needN text := by
  rcases h.top with ⟨e1, e2, e3⟩ | hh
  · rw [e1, e2]; rfl
  · have h1 := hh.one
    have h2 := hh.lo
    rw [bkN, if_neg (by omega), needN, if_neg (fun e => by rw [e] at h2; simp at h2), List.length_append, h.len]; simp; omega
theorem needN_le (t : Bytes) (h : t.length ≤ 49152) : needN t ≤ 97 := by
  rw [needN]; split <;> omega
/-- Two blobs with the same text, apart. -/
structure TwoP (es : Img) (text : Bytes) (x y : Nat) (rx ry : List Run) : Prop where
  bx : BlobAt es x text rx
  yb : BlobAt es y text ry
  nx : (bkN x rx).Nodup
  ny : (bkN y ry).Nodup
  dis : ∀ t ∈ bkN x rx, t ∉ bkN y ry
  len : es.length = 2 * needN text
theorem TwoP.swap {es : Img} {text : Bytes} {x y : Nat} {rx ry : List Run} (h : TwoP es text x y rx ry) : TwoP es text y x ry rx :=
  ⟨h.yb, h.bx, h.ny, h.nx, fun t h1 h2 => h.dis t h2 h1, h.len⟩
theorem two_of {e1 e2 : Img} {text : Bytes} {a b : Nat} {ra rb : List Run} (h1 : AddedP [] text a ra e1) (h2 : AddedP e1 text b rb e2) : TwoP e2 text a b ra rb := by
  have hth := h1.blob.there
  have hd : ∀ t ∈ bkN a ra, t ∉ bkN b rb := fun t ht hb => hth t ht (h2.fresh t hb).2.2
  refine ⟨h1.blob.keep (fun t ht => h2.other _ (fun u hu e => hd t ht (by rw [show t = u by omega]; exact hu))), h2.blob, h1.nd, h2.nd, hd, ?_⟩
  rw [h2.len, h1.len]; simp; omega
theorem two_left {es es' : Img} {text : Bytes} {x y : Nat} {rx ry : List Run} (h : TwoP es text x y rx ry) (hf : FreeP es (bkN x rx) es') : BlobAt es' y text ry ∧ es'.length = needN text := by
  refine ⟨h.yb.keep (fun t ht => hf.2.1 _ (fun u hu e => h.dis u hu (by rw [show u = t by omega]; exact ht))), ?_⟩
  have h1 := hf.2.2
  have h2 := h.bx.need
  have h3 := h.len
  omega
theorem one_left {es es' : Img} {text : Bytes} {y : Nat} {ry : List Run} (h : BlobAt es y text ry) (hl : es.length = needN text) (hf : FreeP es (bkN y ry) es') : es'.length = 0 := by
  have h1 := hf.2.2
  have h2 := h.need
  omega
set_option maxHeartbeats 8000000 in
theorem blobClones_walk (s : ByteArray) (hs : s.size ≤ maxLen) (more : Nat) (hmore : more ≤ 65535) (first : Bool) (W : World) :
    Calls Try.prog 5 #[.string s, .int .u16 (more : Nat), .bool first] W fun e w' => e = .returned (.bool true) ∧ Below W.heap.size W w' := by
  have hmI : (more : Int) ≤ 65535 := by omega
  have hmw : IntKind.i64.wrap (more : Int) = (more : Int) := by rw [IntKind.wrap_i64]; omega
  have Hs := Lib.hid hs
  clear hs
  go_enter Try.func5, Try.ntmps5
  go_wp2_with fail
  refine (fixed_ok W).mono ?_
  rintro e w1 ⟨rfl, hu1⟩
  dsimp only
  have H1 := Lib.hid hu1
  clear hu1
  go_wp2_with fail
  refine (text_ok s Hs.out more hmore w1).mono ?_
  rintro e w2 ⟨t, rfl, hu2⟩
  dsimp only
  have H2 := Lib.hid (H1.out.trans hu2)
  clear hu2 H1 Hs
  by_cases hbig : 49152 < t.size
  · have hbI : (49152 : Int) < (t.size : Int) := by omega
    go_wp2_with fail
    go_ret
    exact ⟨rfl, H2.out.below0⟩
  · have hbI : (t.size : Int) ≤ 49152 := by omega
    have htl : t.data.toList.length = t.size := Array.length_toList
    obtain ⟨nd, hnd⟩ : ∃ nd, needN t.data.toList = nd := ⟨_, rfl⟩
    have hnd97 : nd ≤ 97 := by rw [← hnd]; exact needN_le _ (by omega)
    have hndI : (nd : Int) ≤ 97 := by omega
    have Hnd := Lib.hid hnd
    have Hne := Lib.hid (fun w => needs_ok t (by omega) w)
    clear htl hnd
    go_wp2_with fail
    refine (newmem_ok 400 (by decide) w2 400 rfl).mono ?_
    rintro e w3 ⟨mb, K, rfl, hM, hu, hK⟩
    dsimp only
    have H3 := Lib.hid (And.intro hM (And.intro hu hK))
    clear hM hu hK
    go_wp2_with fail
    refine (write_anyF H3.out.1 t (by omega) (by rw [Hnd.out]; simp; omega)).mono ?_
    rintro e w4 ⟨ha, ra, e1, K2, rfl, hM, hK, hu, hA⟩
    dsimp only
    have H4 := Lib.hid (And.intro hM (And.intro hA (And.intro (((H2.out.trans H3.out.2.1).then hu (fun q hq => .inr (Nat.le_trans H2.out.size (H3.out.2.2 q hq))))) (show ∀ q, K2 q → W.heap.size ≤ q from fun q hq => by
      have h1 := H2.out.size
      have h2 := H3.out.2.1.size
      rcases hK q hq with e | e
      · have := H3.out.2.2 q e; omega
      · omega))))
    clear hM hK hu hA H3 H2
    go_wp2_with fail
    refine (clone7_ok H4.out.1 H4.out.2.1.blob (by rw [H4.out.2.1.len, Hnd.out]; simp; omega)).mono ?_
    rintro e w5 ⟨hb, rb, e2, K3, rfl, hM, hK, hu, hA⟩
    dsimp only
    have H5 := Lib.hid (And.intro hM (And.intro (two_of H4.out.2.1 hA) (And.intro (H4.out.2.2.1.then hu (fun q hq => .inr (H4.out.2.2.2 q hq))) (show ∀ q, K3 q → W.heap.size ≤ q from fun q hq => by
      have h1 := H4.out.2.2.1.size
      rcases hK q hq with e | e
      · exact H4.out.2.2.2 q e
      · omega))))
    clear hM hK hu hA H4
    have hus := used_ok H5.out.1
    rw [H5.out.2.1.len, Hnd.out] at hus
    have Hus := Lib.hid hus
    clear hus
    go_wp2_with fail
    refine Hus.out.mono ?_
    rintro e w6 ⟨rfl, rfl⟩
    dsimp only
    clear Hus
    go_wp2_with fail
    have hn6 := Hne.out w5
    rw [Hnd.out] at hn6
    refine hn6.mono ?_
    rintro e w6 ⟨rfl, rfl⟩
    dsimp only
    clear hn6
    cases first
    · have HT := Lib.hid H5.out.2.1
      go_wp2_with fail
      refine (free7_ok H5.out.1 HT.out.bx HT.out.nx).mono ?_
      rintro e w7 ⟨e3, rfl, hM7, hu7, hF7⟩
      dsimp only
      have hl7 := two_left HT.out hF7
      have hus := used_ok hM7
      rw [hl7.2, Hnd.out] at hus
      have hrd := read_ok hM7 hl7.1
      rw [mk_data] at hrd
      have H7 := Lib.hid (And.intro hM7 (And.intro (H5.out.2.2.1.then hu7 (fun q hq => .inr (H5.out.2.2.2 q hq))) (And.intro hl7 (And.intro hus hrd))))
      clear hM7 hu7 hF7 hl7 hus hrd
      go_wp2_with fail
      refine H7.out.2.2.2.1.mono ?_
      rintro e w8 ⟨rfl, rfl⟩
      dsimp only
      go_wp2_with fail
      have hn7 := Hne.out w7
      rw [Hnd.out] at hn7
      refine hn7.mono ?_
      rintro e w8 ⟨rfl, rfl⟩
      dsimp only
      clear hn7
      go_wp2_with fail
      refine H7.out.2.2.2.2.mono ?_
      rintro e w8 ⟨rfl, hu8⟩
      dsimp only
      have H8 := Lib.hid (And.intro (H7.out.1.upd hu8 (fun _ _ h => h)) (H7.out.2.1.trans hu8))
      clear hu8
      go_wp2_with fail
      refine (free7_ok H8.out.1 H7.out.2.2.1.1 HT.out.ny).mono ?_
      rintro e w9 ⟨e4, rfl, hM9, hu9, hF9⟩
      dsimp only
      have hl9 := one_left H7.out.2.2.1.1 H7.out.2.2.1.2 hF9
      have hus9 := used_ok hM9
      rw [hl9] at hus9
      have H9 := Lib.hid (And.intro hus9 (H8.out.2.then hu9 (fun q hq => .inr (H5.out.2.2.2 q hq))))
      clear hM9 hu9 hF9 hl9 hus9
      go_wp2_with fail
      refine H9.out.1.mono ?_
      rintro e w10 ⟨rfl, rfl⟩
      dsimp only
      go_wp2_with fail
      go_ret
      exact ⟨rfl, H9.out.2.below0⟩
    · have HT := Lib.hid H5.out.2.1.swap
      go_wp2_with fail
      refine (free7_ok H5.out.1 HT.out.bx HT.out.nx).mono ?_
      rintro e w7 ⟨e3, rfl, hM7, hu7, hF7⟩
      dsimp only
      have hl7 := two_left HT.out hF7
      have hus := used_ok hM7
      rw [hl7.2, Hnd.out] at hus
      have hrd := read_ok hM7 hl7.1
      rw [mk_data] at hrd
      have H7 := Lib.hid (And.intro hM7 (And.intro (H5.out.2.2.1.then hu7 (fun q hq => .inr (H5.out.2.2.2 q hq))) (And.intro hl7 (And.intro hus hrd))))
      clear hM7 hu7 hF7 hl7 hus hrd
      go_wp2_with fail
      refine H7.out.2.2.2.1.mono ?_
      rintro e w8 ⟨rfl, rfl⟩
      dsimp only
      go_wp2_with fail
      have hn7 := Hne.out w7
      rw [Hnd.out] at hn7
      refine hn7.mono ?_
      rintro e w8 ⟨rfl, rfl⟩
      dsimp only
      clear hn7
      go_wp2_with fail
      refine H7.out.2.2.2.2.mono ?_
      rintro e w8 ⟨rfl, hu8⟩
      dsimp only
      have H8 := Lib.hid (And.intro (H7.out.1.upd hu8 (fun _ _ h => h)) (H7.out.2.1.trans hu8))
      clear hu8
      go_wp2_with fail
      refine (free7_ok H8.out.1 H7.out.2.2.1.1 HT.out.ny).mono ?_
      rintro e w9 ⟨e4, rfl, hM9, hu9, hF9⟩
      dsimp only
      have hl9 := one_left H7.out.2.2.1.1 H7.out.2.2.1.2 hF9
      have hus9 := used_ok hM9
      rw [hl9] at hus9
      have H9 := Lib.hid (And.intro hus9 (H8.out.2.then hu9 (fun q hq => .inr (H5.out.2.2.2 q hq))))
      clear hM9 hu9 hF9 hl9 hus9
      go_wp2_with fail
      refine H9.out.1.mono ?_
      rintro e w10 ⟨rfl, rfl⟩
      dsimp only
      go_wp2_with fail
      go_ret
      exact ⟨rfl, H9.out.2.below0⟩
end Go.Proofs.Ytmefbbmjamdnjaa
