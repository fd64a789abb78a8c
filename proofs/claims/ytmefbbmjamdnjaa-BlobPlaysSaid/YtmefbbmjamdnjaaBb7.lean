/- Package blob: Write where there is room. -/
import Derived.Test.YtmefbbmjamdnjaaBb6
namespace Go.Proofs.Ytmefbbmjamdnjaa
open Go Go.RowKit
set_option linter.unusedSimpArgs false
set_option linter.unusedVariables false
set_option maxRecDepth 100000

theorem meth_take (mb : Nat) (W : World) : (method 231 26 (.pointer (some ⟨mb, 0, none⟩)) "Take").run Try.prog W = .ok (69, .pointer (some ⟨mb, 0, none⟩)) W := by kernel_rfl
theorem meth_write (mb : Nat) (W : World) : (method 231 26 (.pointer (some ⟨mb, 0, none⟩)) "Write").run Try.prog W = .ok (70, .pointer (some ⟨mb, 0, none⟩)) W := by kernel_rfl
theorem meth_free (mb : Nat) (W : World) : (method 231 26 (.pointer (some ⟨mb, 0, none⟩)) "Free").run Try.prog W = .ok (66, .pointer (some ⟨mb, 0, none⟩)) W := by kernel_rfl
theorem nil_write (mb : Nat) (W : World) : (nilAhead 231 26 (.pointer (some ⟨mb, 0, none⟩)) "Write").run Try.prog W = .ok (some false) W := by kernel_rfl
/-- Blocks that were taken. -/
def TknP (es : Img) (ts : List Nat) (e' : Img) : Prop :=
  ts.Nodup ∧ (∀ t ∈ ts, 1 ≤ t ∧ t ≤ 4096 ∧ lookB es (t : Nat) = none) ∧ (∀ t ∈ ts, lookB e' (t : Nat) = some zeros512) ∧ (∀ k : Int, (∀ t ∈ ts, k ≠ ((t : Nat) : Int)) → lookB e' k = lookB es k) ∧ e'.length = es.length + ts.length
theorem TknP.nil (es : Img) : TknP es [] es := ⟨List.nodup_nil, (fun _ h => by cases h), (fun _ h => by cases h), fun _ _ => rfl, rfl⟩
theorem tkn_step {es e' : Img} {ts : List Nat} {b : Nat} (h : TknP es ts e') (hg : gapB e' b) (hl : e'.length < 4096) : TknP es (ts ++ [b]) (putP e' (b : Nat) zeros512) := by
  obtain ⟨h1, h2, h3, h4, h5⟩ := h
  obtain ⟨g1, g2, g3⟩ := hg
  have hb : b ∉ ts := fun hm => by rw [h3 b hm] at g2; cases g2
  have hle := gap_le g3
  refine ⟨?_, fun t ht => ?_, fun t ht => ?_, fun k hk => ?_, ?_⟩
  · rw [List.nodup_append]
    exact ⟨h1, by simp, fun a ha c hc => by rw [List.mem_singleton] at hc; rw [hc]; exact fun e => hb (e ▸ ha)⟩
  · rcases List.mem_append.1 ht with e | e
    · exact h2 t e
    · rw [List.mem_singleton] at e
      rw [e]
      refine ⟨g1, by omega, ?_⟩
      have hbt : ∀ t ∈ ts, ((b : Nat) : Int) ≠ ((t : Nat) : Int) := fun t ht e => hb (by rw [show b = t by omega]; exact ht)
      rw [← h4 (b : Nat) hbt]
      exact g2
  · rw [lookB_putP]
    rcases List.mem_append.1 ht with e | e
    · split
      · rfl
      · exact h3 t e
    · rw [List.mem_singleton] at e
      rw [e, if_pos rfl]
  · rw [lookB_putP, if_neg (hk b (by simp))]
    exact h4 k (fun t ht => hk t (List.mem_append_left _ ht))
  · rw [putP_len1 _ _ _ g2, h5, List.length_append, List.length_singleton]; omega
def pieceB (text : Bytes) (i : Nat) : Bytes := pad ((text.drop (i * 512)).take 512)
/-- Pieces that were written. -/
def WrP (e' : Img) (bl : List Nat) (text : Bytes) (i : Nat) (ei : Img) : Prop :=
  (∀ j (h : j < bl.length), j < i → lookB ei ((bl[j] : Nat) : Int) = some (pieceB text j)) ∧ (∀ k : Int, (∀ t ∈ bl, k ≠ ((t : Nat) : Int)) → lookB ei k = lookB e' k) ∧ (∀ t ∈ bl, lookB ei (t : Nat) ≠ none) ∧ ei.length = e'.length
theorem WrP.start {es e' : Img} {h : Nat} {bl : List Nat} (ht : TknP es (h :: bl) e') (text : Bytes) : WrP e' bl text 0 e' :=
  ⟨fun j _ h => absurd h (Nat.not_lt_zero _), fun _ _ => rfl, fun t hm => by rw [ht.2.2.1 t (List.mem_cons_of_mem _ hm)]; simp, rfl⟩
theorem nodup_idx : ∀ {l : List Nat}, l.Nodup → ∀ {i j : Nat} (hi : i < l.length) (hj : j < l.length), l[i] = l[j] → i = j
  | [], _, i, _, hi, _, _ => absurd hi (Nat.not_lt_zero _)
  | x :: r, h, i, j, hi, hj, e => by
    have hc := List.nodup_cons.1 h
    cases i with
    | zero =>
      cases j with
      | zero => rfl
      | succ j => exact absurd (by have e2 : x = r[j]'(by simpa using hj) := e; rw [e2]; exact List.getElem_mem _) hc.1
    | succ i =>
      cases j with
      | zero => exact absurd (by have e2 : r[i]'(by simpa using hi) = x := e; rw [← e2]; exact List.getElem_mem _) hc.1
      | succ j => rw [nodup_idx hc.2 (by simpa using hi) (by simpa using hj) e]
theorem wr_step {e' ei : Img} {bl : List Nat} {text : Bytes} {i : Nat} (h : WrP e' bl text i ei) (hn : bl.Nodup) (hi : i < bl.length) : WrP e' bl text (i + 1) (putP ei ((bl[i] : Nat) : Int) (pieceB text i)) := by
  obtain ⟨h1, h2, h3, h4⟩ := h
  refine ⟨fun j hj hji => ?_, fun k hk => ?_, fun t ht => ?_, ?_⟩
  · rw [lookB_putP]
    by_cases e : j = i
    · subst e; rw [if_pos rfl]
    · rw [if_neg, h1 j hj (by omega)]
      intro e2
      exact e (nodup_idx hn hj hi (by omega))
  · rw [lookB_putP, if_neg (hk _ (List.getElem_mem _))]
    exact h2 k hk
  · rw [lookB_putP]
    split
    · simp
    · exact h3 t ht
  · rw [putP_len _ _ _ (h3 _ (List.getElem_mem _)), h4]
/-- A blob that was written. -/
structure WroteP (es : Img) (text : Bytes) (head : Nat) (rs : List Run) (ef : Img) : Prop where
  blob : BlobAt ef head text rs
  nd : (head :: runsB rs).Nodup
  fresh : ∀ t ∈ head :: runsB rs, 1 ≤ t ∧ t ≤ 4096 ∧ lookB es (t : Nat) = none
  other : ∀ k : Int, (∀ t ∈ head :: runsB rs, k ≠ ((t : Nat) : Int)) → lookB ef k = lookB es k
  len : ef.length = es.length + (1 + (text.length + 511) / 512)
theorem wrote {es e' em : Img} {h : Nat} {bl : List Nat} {text : Bytes} {rs : List Run} (ht : TknP es (h :: bl) e') (hw : WrP e' bl text bl.length em) (hr : RunsOk rs) (hb : runsB rs = bl) (hl : bl.length = (text.length + 511) / 512) (h1 : 1 ≤ text.length) (h2 : text.length ≤ 49152) :
    WroteP es text h rs (putP em (h : Nat) (pad (encH text.length rs))) := by
  obtain ⟨t1, t2, t3, t4, t5⟩ := ht
  obtain ⟨w1, w2, w3, w4⟩ := hw
  have hnb : h ∉ bl := (List.nodup_cons.1 t1).1
  have hnk : ∀ t ∈ bl, ((h : Nat) : Int) ≠ ((t : Nat) : Int) := fun t ht e => hnb (by rw [show h = t by omega]; exact ht)
  have hlk : lookB em (h : Nat) ≠ none := by rw [w2 _ hnk, t3 h (List.mem_cons_self ..)]; simp
  have h0 := t2 h (List.mem_cons_self ..)
  refine ⟨⟨.inr ⟨by rw [lookB_putP, if_pos rfl], h0.1, h1, h2, hr, by rw [hb, hl]⟩, h0.2.1, fun i hi => ?_⟩, by rw [hb]; exact t1, by rw [hb]; exact t2, fun k hk => ?_, ?_⟩
  · subst hb
    rw [lookB_putP, if_neg, w1 i hi hi]
    · rfl
    · intro e
      exact hnk _ (List.getElem_mem _) e.symm
  · rw [hb] at hk
    rw [lookB_putP, if_neg (hk h (List.mem_cons_self ..)), w2 k (fun t ht => hk t (List.mem_cons_of_mem _ ht)), t4 k hk]
  · rw [putP_len _ _ _ hlk, w4, t5, List.length_cons, hl]; omega
/-- While blocks are taken. -/
def W1R (w wr : World) (mb most : Nat) (es : Img) (K : Nat → Prop) (tb sb : Nat) (i : Nat) (ts : List Nat) (y : Option Addr) (d : Nat) (e' : Img) (K' : Nat → Prop) : Prop :=
  CellsA wr tb 58 [.slice y i d] ∧ CellsA wr sb 57 [.iface 26 (.pointer (some ⟨mb, 0, none⟩))] ∧ Mid wr 1 (.slice y i d) i (intsV ts) ∧ (∀ q, (Value.slice y i d).ownBlock = some q → w.heap.size ≤ q ∧ q ≠ tb ∧ q ≠ sb ∧ ¬ K' q) ∧
    MemAt wr mb most e' K' ∧ (∀ q, K' q → K q ∨ w.heap.size ≤ q) ∧ ¬ K' tb ∧ ¬ K' sb ∧ Upd K w wr ∧ TknP es ts e' ∧ ts.length = i ∧ w.heap.size ≤ tb ∧ w.heap.size ≤ sb ∧ tb ≠ sb
theorem ext_list (s : ByteArray) (a b : Nat) : (s.extract a b).data.toList = (s.data.toList.drop a).take (b - a) := by
  simp [ByteArray.data_extract, Array.toList_extract, List.extract_eq_take_drop]
theorem ext_piece (s : ByteArray) (i hi : Nat) (hh : hi = min ((i + 1) * 512) s.size) (hlt : i * 512 ≤ s.size) : (s.extract (i * 512) hi).data.toList = (s.data.toList.drop (i * 512)).take 512 := by
  have hl : s.data.toList.length = s.size := Array.length_toList
  rw [ext_list]
  apply List.ext_getElem?
  intro j
  rw [List.getElem?_take, List.getElem?_take]
  split
  · rw [if_pos (by omega)]
  · split
    · rw [List.getElem?_eq_none (by rw [List.length_drop]; omega)]
    · rfl
/-- While pieces are written. -/
def W2R (w wr : World) (mb most : Nat) (K : Nat → Prop) (tb sb : Nat) (gy oy m d head : Nat) (bl : List Nat) (lb size : Nat) (text : Bytes) (e' : Img) (i : Nat) (rs : List Run) (x : Option Addr) (c : Nat) (ei : Img) (K' : Nat → Prop) : Prop :=
  CellsA wr tb 58 [.slice (some ⟨gy, oy, none⟩) (1 + m) d] ∧ CellsA wr sb 57 [.iface 26 (.pointer (some ⟨mb, 0, none⟩))] ∧ wr.rangeAt gy oy (intsV (head :: bl)) ∧
    MemAt wr mb most ei K' ∧ (∀ q, K' q → K q ∨ w.heap.size ≤ q) ∧ ¬ K' tb ∧ ¬ K' sb ∧ ¬ K' gy ∧ ListAt wr lb size rs x c ∧ (∀ q, ownL lb rs.length x c q → w.heap.size ≤ q ∧ q ≠ tb ∧ q ≠ sb ∧ q ≠ gy ∧ ¬ K' q) ∧
    Upd K w wr ∧ WrP e' bl text i ei ∧ runsB rs = bl.take i ∧ RunsOk rs ∧ gy < wr.heap.size
section
variable {w : World} {mb most : Nat} {es : Img} {K : Nat → Prop}
set_option maxHeartbeats 16000000 in
theorem write_ok (h : MemAt w mb most es K) (s : ByteArray) (h1 : 1 ≤ s.size) (h2 : s.size ≤ 49152) (hroom : es.length + (1 + (s.size + 511) / 512) ≤ most) :
    Calls Try.prog 9 #[.iface 26 (.pointer (some ⟨mb, 0, none⟩)), .string s] w fun e w' => ∃ (head : Nat) (rs : List Run) (ef : Img) (K' : Nat → Prop), e = .returned (.tuple #[.int .i64 (head : Nat), .int .i64 0]) ∧
      MemAt w' mb most ef K' ∧ (∀ q, K' q → K q ∨ w.heap.size ≤ q) ∧ Upd K w w' ∧ WroteP es s.data.toList head rs ef := by
  obtain ⟨size, hsz⟩ : ∃ size, s.size = size := ⟨_, rfl⟩
  obtain ⟨m, hm⟩ : ∃ m, (size + 511) / 512 = m := ⟨_, rfl⟩
  rw [hsz] at h1 h2 hroom
  rw [hm] at hroom
  have i1 : (1 : Int) ≤ (size : Int) := by omega
  have i2 : (size : Int) ≤ 49152 := by omega
  have i3 : (m : Int) ≤ 96 := by omega
  have hszI : (s.size : Int) = (size : Int) := by omega
  have p3 : ((size : Int) + 512 - 1).tdiv 512 = (m : Int) := by rw [Int.tdiv_eq_ediv_of_nonneg (by omega)]; omega
  have p4 : IntKind.i64.wrap (m : Int) = (m : Int) := by rw [IntKind.wrap_i64]; omega
  have hne : s.toList.isEmpty = false := by
    rw [ByteArray.toList_eq, List.isEmpty_eq_false_iff]
    intro e
    have e2 : s.data.toList.length = 0 := by rw [e]; rfl
    have e3 : s.size = s.data.toList.length := (Array.length_toList).symm
    omega
  have hne2 : (s = ByteArray.mk #[]) = False := by
    simp only [eq_iff_iff, iff_false]
    intro e
    rw [e] at hsz
    have : (ByteArray.mk #[]).size = 0 := rfl
    omega
  have H := Lib.hid (And.intro h (And.intro hsz (And.intro hm hroom)))
  have hmt := meth_take mb
  have hmw := meth_write mb
  have hnw := nil_write mb
  clear h hm hroom h1 h2
  go_enter Try.func9, Try.ntmps9
  go_wp2_with fail
  have hsz1 : ((w.alloc (.cells #[.iface 26 (.pointer (some ⟨mb, 0, none⟩))] 57)).alloc (.cells #[.slice none 0 0] 58)).heap.size = w.heap.size + 2 := by simp
  have HQ : Hid (∃ ts y d e' K', W1R w ((w.alloc (.cells #[.iface 26 (.pointer (some ⟨mb, 0, none⟩))] 57)).alloc (.cells #[.slice none 0 0] 58)) mb most es K (w.heap.size + 1) w.heap.size 0 ts y d e' K') := by
    have hal : Upd (fun _ => False) w ((w.alloc (.cells #[.iface 26 (.pointer (some ⟨mb, 0, none⟩))] 57)).alloc (.cells #[.slice none 0 0] 58)) := ((Upd.refl _ w).alloc _).alloc _
    have hs1 := CellsA.new w 57 [.iface 26 (.pointer (some ⟨mb, 0, none⟩))]
    have ht1 := CellsA.new (w.alloc (.cells #[.iface 26 (.pointer (some ⟨mb, 0, none⟩))] 57)) 58 [.slice none 0 0]
    have hz : (w.alloc (.cells #[.iface 26 (.pointer (some ⟨mb, 0, none⟩))] 57)).heap.size = w.heap.size + 1 := by simp
    rw [hz] at ht1
    have hlt := H.out.1.lt
    refine ⟨[], none, 0, es, K, ht1, hs1.upd ((Upd.refl (fun _ => False) _).alloc _) (fun h => h), Mid.nil _ _, (fun q hq => by cases hq), H.out.1.upd hal (fun _ _ h => h), fun q hq => .inl hq, fun hk => ?_, fun hk => ?_, hal.mono (fun _ _ h => h.elim), TknP.nil es, rfl, Nat.le_succ _, Nat.le_refl _, by omega⟩
    · have := hlt _ hk; omega
    · have := hlt _ hk; omega
  clear hsz1
  generalize (w.alloc (.cells #[.iface 26 (.pointer (some ⟨mb, 0, none⟩))] 57)).alloc (.cells #[.slice none 0 0] 58) = w2 at *
  generalize w.heap.size + 1 = tb at *
  obtain ⟨sb, hsb⟩ : ∃ sb, w.heap.size = sb := ⟨_, rfl⟩
  rw [hsb]
  simp only [hsb] at HQ
  clear hsb
  go_loopw [32] (fun iv wr => ∃ (i : Nat), i ≤ 1 + m ∧ iv = .int .i64 i ∧ Hid (∃ ts y d e' K', W1R w wr mb most es K tb sb i ts y d e' K')) (fun iv _ => (1 + m) - (intOf iv).toNat)
  case atStart => exact ⟨0, Nat.zero_le _, rfl, HQ⟩
  case round =>
    clear HQ
    obtain ⟨i, hi, rfl, HR⟩ := hrel
    obtain ⟨ts, y, d, e', K', HR⟩ := HR.out
    have HR := Lib.hid HR
    have c1 := HR.out.1.cell 0
    have c2 := HR.out.2.1.cell 0
    have f1 := HR.out.1.frozen 0
    simp only [List.getElem?_cons_zero, List.getElem?_cons_succ] at c1 c2
    by_cases hlt : i < 1 + m
    · have hltI : (i : Int) < 1 + (m : Int) := by omega
      have htk := Lib.hid (take_ok HR.out.2.2.2.2.1)
      clear c1 f1
      go_wp2_with fail
      refine htk.out.mono ?_
      rintro e w3 (⟨e1, _⟩ | ⟨hlm, b, hgb, rfl, g3, hg3, hM3, hu3⟩)
      · exfalso
        obtain ⟨-, -, -, -, -, -, -, -, -, r10, r11, -⟩ := HR.out
        have := r10.2.2.2.2
        have := H.out.2.2.2
        omega
      dsimp only
      have hbI : (b : Int) ≤ 4097 := by
        have := gap_le hgb.2.2
        have := HR.out.2.2.2.2.1.ok
        omega
      have hzr : wr.heap.size ≤ w3.heap.size := hu3.size
      have HT : Hid (CellsA w3 tb 58 [.slice y i d] ∧ CellsA w3 sb 57 [.iface 26 (.pointer (some ⟨mb, 0, none⟩))] ∧ Mid w3 1 (.slice y i d) i (intsV ts) ∧ (∀ q, (Value.slice y i d).ownBlock = some q → w.heap.size ≤ q ∧ q ≠ tb ∧ q ≠ sb ∧ ¬ (K' q ∨ q = g3)) ∧
          MemAt w3 mb most (putP e' (b : Nat) zeros512) (fun q => K' q ∨ q = g3) ∧ (∀ q, (K' q ∨ q = g3) → K q ∨ w.heap.size ≤ q) ∧ ¬ (K' tb ∨ tb = g3) ∧ ¬ (K' sb ∨ sb = g3) ∧ Upd K w w3 ∧ TknP es (ts ++ [b]) (putP e' (b : Nat) zeros512) ∧ (ts ++ [b]).length = i + 1 ∧ w.heap.size ≤ tb ∧ w.heap.size ≤ sb ∧ tb ≠ sb) := by
        obtain ⟨r1, r2, r3, r4, r5, r6, r7, r8, r9, r10, r11, r12, r13, r14⟩ := HR.out
        have hty := r3.lt
        have hz := r9.size
        have hok := r5.ok
        refine ⟨r1.upd hu3 r7, r2.upd hu3 r8, r3.upd hu3 (fun q hq => (r4 q hq).2.2.2), fun q hq => ⟨(r4 q hq).1, (r4 q hq).2.1, (r4 q hq).2.2.1, ?_⟩, hM3, ?_, ?_, ?_, r9.then hu3 r6, tkn_step r10 hgb (by omega), by rw [List.length_append, r11]; rfl, r12, r13, r14⟩
        · rintro (e | e)
          · exact (r4 q hq).2.2.2 e
          · have := hty q hq; omega
        · rintro q (e | e)
          · exact r6 q e
          · exact .inr (by omega)
        · rintro (e | e)
          · exact r7 e
          · have := r1.lt; omega
        · rintro (e | e)
          · exact r8 e
          · have := r2.lt; omega
      have d1 := HT.out.1.cell 0
      simp only [List.getElem?_cons_zero] at d1
      have hm4 := Lib.hid HT.out.2.2.1
      clear hM3 hu3 HR c2 hgb htk
      go_wp2_with ((with_reducible apply wpl_append_mid 3 1 8 _ (.slice y i d) i (intsV ts) 1 [.int .i64 (b : Nat)]))
      · exact Try.underlying58
      · exact infoInt
      · rfl
      · rfl
      · exact hm4.out.upd ((Upd.refl (fun _ => False) w3).alloc _) (fun _ _ h => h)
      · exact Sees.at rfl (by decide) (rangeAt_of_row (heap_alloc_new w3 (.cells ([.int .i64 (b : Nat)] : List Value).toArray 3)) rfl)
      · intro u hu; simp at hu; rw [hu]; rfl
      · unfold maxLen; omega
      · omega
      intro y' d' w4 hm5 hu5 hb5
      try (simp only [Act.put, List.setIfInBounds_toArray, List.set_cons_zero, List.set_cons_succ])
      have hu34 : Upd (fun q => (Value.slice y i d).ownBlock = some q) w3 w4 := ((Upd.refl (fun _ => False) w3).alloc _ |>.mono (fun _ _ h => h.elim)).trans hu5
      have hc4 : CellsA w4 tb 58 [.slice y i d] := HT.out.1.upd hu34 (fun e => (HT.out.2.2.2.1 tb e).2.1 rfl)
      have d4 := hc4.cell 0
      have f4 := hc4.frozen 0
      simp only [List.getElem?_cons_zero] at d4
      have HJ : Hid (∃ ts y d e' K', W1R w (w4.setCell ⟨tb, 0, none⟩ (.slice y' (i + 1) d')) mb most es K tb sb (i + 1) ts y d e' K') := by
        obtain ⟨r1, r2, r3, r4, r5, r6, r7, r8, r9, r10, r11, r12, r13, r14⟩ := HT.out
        have hzz : w3.heap.size ≤ w4.heap.size := hu34.size
        have hus : Upd (fun q => q = tb) w4 (w4.setCell ⟨tb, 0, none⟩ (.slice y' (i + 1) d')) := (Upd.refl _ w4).setCell _ (.inl rfl)
        have hown : ∀ q, (Value.slice y' (i + 1) d').ownBlock = some q → (Value.slice y i d).ownBlock = some q ∨ w3.heap.size ≤ q := fun q hq => by
          rcases hb5 with e | e
          · exact .inl (by rw [← e]; exact hq)
          · refine .inr ?_
            have e2 : (Value.slice y' (i + 1) d').ownBlock = some _ := e
            rw [e2] at hq
            cases hq
            simp
        have hz9 := r9.size
        have htl := r1.lt
        have hsl := r2.lt
        have hKl := r5.lt
        have hnew : ∀ q, (Value.slice y' (i + 1) d').ownBlock = some q → w.heap.size ≤ q ∧ q ≠ tb ∧ q ≠ sb ∧ ¬ (K' q ∨ q = g3) := fun q hq => by
          rcases hown q hq with e | e
          · exact r4 q e
          · exact ⟨by omega, by omega, by omega, fun e2 => by have := hKl q e2; omega⟩
        have hst : intsV ts ++ [.int .i64 (b : Nat)] = intsV (ts ++ [b]) := by simp [intsV]
        rw [hst] at hm5
        refine ⟨ts ++ [b], y', d', _, _, hc4.set 0 _, (r2.upd hu34 (fun e => (r4 sb e).2.2.1 rfl)).upd hus (fun e => r14 e.symm), hm5.upd hus (fun q hq e => (hnew q hq).2.1 e), hnew, (r5.upd hu34 (fun q hq e => (r4 q e).2.2.2 hq)).upd hus (fun q hq e => r7 (e ▸ hq)), r6, r7, r8, (r9.then hu34 (fun q hq => .inr (r4 q hq).1)).then hus (fun q hq => .inr (by rw [hq]; exact r12)), r10, r11, r12, r13, r14⟩
      clear hu34 hc4 hm5 hu5 hb5 HT hm4 d1
      go_wp2_with fail
      exact ⟨⟨i + 1, by omega, by go_num, HJ⟩, by simp [intOf]; omega⟩
    · obtain rfl : i = 1 + m := by omega
      have e32 : ((1 + m : Nat) : Int) = 1 + (m : Int) := by omega
      simp only [e32]
      clear e32
      obtain ⟨head, bl, hts⟩ : ∃ head bl, ts = head :: bl := by
        have := HR.out.2.2.2.2.2.2.2.2.2.2.1
        cases ts with
        | nil => simp at this; omega
        | cons a r => exact ⟨a, r, rfl⟩
      subst hts
      have hbl : bl.length = m := by
        have := HR.out.2.2.2.2.2.2.2.2.2.2.1
        rw [List.length_cons] at this; omega
      obtain ⟨gy, oy, rfl, hdm, hgl, hrg⟩ : ∃ gy oy, y = some ⟨gy, oy, none⟩ ∧ 1 + m ≤ d ∧ gy < wr.heap.size ∧ wr.rangeAt gy oy (intsV (head :: bl)) := by
        obtain ⟨_, ⟨e, e2⟩ | ⟨g, o, cap, e, e1, _, e3, hr, _⟩⟩ := HR.out.2.2.1
        · omega
        · cases e; exact ⟨g, o, rfl, e1, e3, hr⟩
      have hal : Upd (fun _ => False) wr (wr.alloc (.cells #[.int .i64 size, .slice none 0 0] 65)) := (Upd.refl _ wr).alloc _
      have hcl := CellsA.new wr 65 [.int .i64 size, .slice none 0 0]
      have e1 := hal.cell_some c1 (fun h => h)
      have HQ : Hid (W2R w (wr.alloc (.cells #[.int .i64 size, .slice none 0 0] 65)) mb most K tb sb gy oy m d head bl wr.heap.size size s.data.toList e' 0 [] none 0 e' K') := by
        obtain ⟨r1, r2, r3, r4, r5, r6, r7, r8, r9, r10, r11, r12, r13, r14⟩ := HR.out
        have hl1 := r1.lt
        have hl2 := r2.lt
        have hl5 := r5.lt
        have hz := r9.size
        refine ⟨r1.upd hal (fun h => h), r2.upd hal (fun h => h), hal.range hrg (fun h => h), r5.upd hal (fun _ _ h => h), r6, r7, r8, (r4 gy rfl).2.2.2, ⟨hcl, Mid.nil _ _, Whole.nil _ _, fun q hq => by cases hq⟩, fun q hq => ?_, r9.trans (hal.mono (fun _ _ h => h.elim)), WrP.start r10 _, rfl, (fun r hr => by cases hr), Nat.lt_of_lt_of_le hgl hal.size⟩
        rcases hq with e | e
        · exact ⟨by omega, by omega, by omega, by omega, fun hk => by have := hl5 q hk; omega⟩
        · cases e
      have HT := Lib.hid (And.intro HR.out.2.2.2.2.2.2.2.2.2.1 (And.intro hbl (HR.out.2.2.2.2.1.ok.2)))
      have hdI : (1 : Int) + (m : Int) ≤ (d : Int) := by omega
      have hdN : 1 ≤ 1 + m := by omega
      have hsl : 1 + m - 1 = m := by omega
      have hd1 : ¬ d = 1 := by have := H.out.2.2.1; omega
      clear c1 f1 c2 hgl hrg hal hcl HR hbl
      go_wp2_with fail
      generalize wr.alloc (.cells #[.int .i64 size, .slice none 0 0] 65) = w5 at *
      generalize wr.heap.size = lb at *
      clear e1 hsl hdN hdI hdm hd1
      go_loopw [58] (fun iv wq => ∃ (i : Nat), i ≤ m ∧ iv = .int .i64 i ∧ Hid (∃ rs x c ei K', W2R w wq mb most K tb sb gy oy m d head bl lb size s.data.toList e' i rs x c ei K')) (fun iv _ => m - (intOf iv).toNat)
      case atStart => exact ⟨0, Nat.zero_le _, rfl, ⟨_, _, _, _, _, HQ.out⟩⟩
      case round =>
        clear HQ
        obtain ⟨i, hi, rfl, HR⟩ := hrel
        obtain ⟨rs, x, c, ei, K2, HR⟩ := HR.out
        have HR := Lib.hid HR
        by_cases hlt : i < m
        · have hltI : (i : Int) < (m : Int) := by omega
          have hib : i < bl.length := by rw [HT.out.2.1]; exact hlt
          obtain ⟨blk, hblk⟩ : ∃ blk, bl[i] = blk := ⟨_, rfl⟩
          have hcb : wr.cell? ⟨gy, oy + 1 + i, none⟩ = some (.int .i64 blk) := by
            have := HR.out.2.2.1 (1 + i) (.int .i64 blk) (by
              rw [intsV, List.map_cons, show 1 + i = i + 1 by omega, List.getElem?_cons_succ, List.getElem?_map, List.getElem?_eq_getElem hib, hblk]; rfl)
            rw [show oy + 1 + i = oy + (1 + i) by omega]; exact this
          have c2 := HR.out.2.1.cell 0
          simp only [List.getElem?_cons_zero] at c2
          obtain ⟨hiN, hhi⟩ : ∃ hiN, min ((i + 1) * 512) size = hiN := ⟨_, rfl⟩
          have hmI := H.out.2.2.1
          have hiI : (i : Int) ≤ 96 := by omega
          have q1 : min (((i : Int) + 1) * 512) (size : Int) = (hiN : Int) := by omega
          have q2 : IntKind.i64.wrap ((i : Int) * 512) = (i : Int) * 512 := by rw [IntKind.wrap_i64]; omega
          have q3 : IntKind.i64.wrap ((i : Int) + 1) = (i : Int) + 1 := by rw [IntKind.wrap_i64]; omega
          have q4 : IntKind.i64.wrap (((i : Int) + 1) * 512) = ((i : Int) + 1) * 512 := by rw [IntKind.wrap_i64]; omega
          have q5 : ∀ W, (Instr.slice 9 (.string s) (some (.int .i64 ((i : Int) * 512))) (some (.int .i64 (hiN : Int))) none).run Try.prog W = .ok (.string (s.extract (i * 512) hiN)) W := fun W => by
            have := run_slice_string (P := Try.prog) (w := W) 9 s .i64 .i64 ((i : Int) * 512) (hiN : Int) Try.underlying9 (by omega) (by omega) (by omega)
            rw [show ((i : Int) * 512).toNat = i * 512 by omega, show ((hiN : Nat) : Int).toNat = hiN by omega] at this
            exact this
          have HS : wr.drew.cell? ⟨sb, 0, none⟩ = some (.iface 26 (.pointer (some ⟨mb, 0, none⟩))) := c2
          have HK := Lib.hid (And.intro hblk (And.intro hhi hlt))
          clear hmI hblk hhi
          go_wp2_with fail
          refine wp_region_planD (fun u => u.cell? ⟨sb, 0, none⟩ = some (.iface 26 (.pointer (some ⟨mb, 0, none⟩)))) 18 [(0, true), (1, true), (2, true), (3, true), (4, true), (5, true), (6, true), (7, true), (8, true), (9, true), (10, true), (11, true), (13, true), (14, true), (15, true), (12, false), (16, false), (17, true)] (by kernel_rfl) (by kernel_rfl) (fun d _ _ _ _ h => by cases d <;> exact h) HS ?_
          iterate 15 (first | (apply planD_held rfl rfl rfl (by simp) HS; (intro w' hS K hK; go_simp; exact hK)) | (apply planD_wanted rfl rfl rfl (by simp) HS; (intro w' hS K hK; go_simp; exact hK)))
          refine planD_op rfl rfl (fun KK hK => ?_)
          have hxs : (s.extract (i * 512) hiN).size ≤ 512 := by
            have := HK.out.2.1
            simp only [ByteArray.size_extract]; omega
          refine wp_string_bytes 5 (s.extract (i * 512) hiN) Try.underlying9 Try.underlying31 Try.underlying5 rfl (by unfold maxLen; omega) ?_
          intro cc w6 hu6 hz6 hs6
          have hdl : (s.extract (i * 512) hiN).data.toList.length = (s.extract (i * 512) hiN).size := Array.length_toList
          generalize (s.extract (i * 512) hiN).size = pl at *
          have hu06 : Upd (fun _ => False) wr w6 := (Upd.refl (fun _ => False) wr).drew.trans hu6
          have HS6 : w6.cell? ⟨sb, 0, none⟩ = some (.iface 26 (.pointer (some ⟨mb, 0, none⟩))) := hu6.cell_some HS (fun h => h)
          have hM6 : MemAt w6 mb most ei K2 := HR.out.2.2.2.1.upd hu06 (fun _ _ h => h)
          have hblk := HK.out.1
          obtain ⟨x0, hx0⟩ : ∃ x0, lookB ei (blk : Nat) = some x0 := by
            have := HR.out.2.2.2.2.2.2.2.2.2.2.2.1.2.2.1 blk (hblk ▸ List.getElem_mem _)
            cases hq : lookB ei (blk : Nat) with
            | none => exact absurd hq this
            | some x0 => exact ⟨x0, rfl⟩
          have hwr := mwrite_ok hM6 (blk : Nat) x0 hx0 _ cc (s.extract (i * 512) hiN).data.toList pl hdl hxs hs6
          have H6 := Lib.hid (And.intro hwr hu06)
          have Hblk := Lib.hid hblk
          clear hwr hu06 hM6 hx0 hs6 hu6 hz6 hblk hxs hdl
          refine hK _ _ _ (fun u h => h) (fun _ => HS6) ?_
          clear hK HS
          try (simp only [Act.put, List.setIfInBounds_toArray, List.set_cons_zero, List.set_cons_succ])
          refine planD_op rfl rfl (fun KK hK => ?_)
          go_simp
          refine H6.out.1.mono ?_
          rintro e w7 ⟨rfl, g7, hg7, hM7, hu7⟩
          dsimp only
          have HS7 : w7.cell? ⟨sb, 0, none⟩ = some (.iface 26 (.pointer (some ⟨mb, 0, none⟩))) := hu7.cell_some HS6 HR.out.2.2.2.2.2.2.1
          have hu17 : Upd K2 wr w7 := (H6.out.2.mono (fun _ _ h => h.elim)).trans hu7
          have hblk := Hblk.out
          have hpc : pad (s.extract (i * 512) hiN).data.toList = pieceB s.data.toList i := by
            rw [ext_piece s i hiN (by rw [← HK.out.2.1, hsz]) (by have := HK.out.2.2; have := H.out.2.2.1; omega)]; rfl
          rw [hpc] at hM7
          have hL7 : ListAt w7 lb size rs x c := HR.out.2.2.2.2.2.2.2.2.1.upd hu17 (fun q hq => (HR.out.2.2.2.2.2.2.2.2.2.1 q hq).2.2.2.2)
          have hok := HR.out.2.2.2.2.2.2.2.2.2.2.2.2.2.1
          have hrb := HR.out.2.2.2.2.2.2.2.2.2.2.2.2.1
          have hb4 : 1 ≤ blk ∧ blk ≤ 4096 := by
            have := HT.out.1.2.1 blk (List.mem_cons_of_mem _ (hblk ▸ List.getElem_mem _))
            exact ⟨this.1, this.2.1⟩
          have hrl : rs.length ≤ 100000 := by
            have h1 := runs_le rs hok
            rw [hrb, List.length_take] at h1
            omega
          have hadd := add_ok hL7 hok hrl blk hb4.2
          have hz67 : wr.heap.size ≤ w6.heap.size := H6.out.2.size
          have H7 := Lib.hid (And.intro hadd (And.intro hM7 (And.intro hu17 (And.intro (by omega : wr.heap.size ≤ g7) (And.intro hb4 (And.intro hL7 (And.intro hok hrb)))))))
          clear hadd hM7 hu17 hb4 hL7 hok hrb hrl hpc hu7 hg7 hz67 H6 HS6 hblk Hblk
          refine hK _ _ _ (fun u h => h) (fun _ => HS7) ?_
          clear hK
          try (simp only [Act.put, List.setIfInBounds_toArray, List.set_cons_zero, List.set_cons_succ])
          iterate 1 (first | (apply planD_held rfl rfl rfl (by simp) HS7; (intro w' hS K hK; go_simp; exact hK)) | (apply planD_wanted rfl rfl rfl (by simp) HS7; (intro w' hS K hK; go_simp; exact hK)))
          refine planD_nil ?_
          clear HS7
          go_wp2_with fail
          refine H7.out.1.mono ?_
          rintro e w8 ⟨rfl, x8, c8, hL8, hu8, ho8⟩
          dsimp only
          have HJ : Hid (∃ rs x c ei K', W2R w w8 mb most K tb sb gy oy m d head bl lb size s.data.toList e' (i + 1) rs x c ei K') := by
            obtain ⟨r1, r2, r3, r4, r5, r6, r7, r8, r9, r10, r11, r12, r13, r14, r15⟩ := HR.out
            obtain ⟨-, hM7, hu17, hg7, hb4, hL7, hok, hrb⟩ := H7.out
            have hz := r11.size
            have l1 := r1.lt
            have l2 := r2.lt
            have l9 := r9.lt
            have l7 := hL7.lt
            have hM7l := hM7.lt
            have hz7 := hu17.size
            have hu18 : Upd (fun q => K2 q ∨ ownL lb rs.length x c q) wr w8 := (hu17.mono (fun q _ h => .inl h)).trans (hu8.mono (fun q _ h => .inr h))
            have hno : ∀ q, ownL lb rs.length x c q → ¬ (K2 q ∨ q = g7) := fun q hq => by
              rintro (e | e)
              · exact (r10 q hq).2.2.2.2 e
              · have := l9 q hq; omega
            refine ⟨addR rs blk, x8, c8, putP ei (blk : Nat) (pieceB s.data.toList i), (fun q => K2 q ∨ q = g7), r1.upd hu18 ?_, r2.upd hu18 ?_, hu18.range r3 ?_, hM7.upd hu8 (fun q hq h => hno q h hq), ?_, ?_, ?_, ?_, hL8, fun q hq => ?_, r11.then hu18 ?_, ?_, ?_, addR_ok hok hb4.1 hb4.2, by have := hu18.size; omega⟩
            · rintro (e | e)
              · exact r6 e
              · exact (r10 _ e).2.1 rfl
            · rintro (e | e)
              · exact r7 e
              · exact (r10 _ e).2.2.1 rfl
            · rintro (e | e)
              · exact r8 e
              · exact (r10 _ e).2.2.2.1 rfl
            · rintro q (e | e)
              · exact r5 q e
              · exact .inr (by omega)
            · rintro (e | e)
              · exact r6 e
              · omega
            · rintro (e | e)
              · exact r7 e
              · omega
            · rintro (e | e)
              · exact r8 e
              · omega
            · rcases ho8 q hq with e | e
              · have := r10 q e
                exact ⟨this.1, this.2.1, this.2.2.1, this.2.2.2.1, hno q e⟩
              · exact ⟨by omega, by omega, by omega, by omega, fun h => by have := hM7l q h; omega⟩
            · rintro q (e | e)
              · exact r5 q e
              · exact .inr (r10 q e).1
            · have hw := wr_step r12 (by have := HT.out.1.1; exact (List.nodup_cons.1 this).2) hib
              rw [HK.out.1] at hw
              exact hw
            · rw [addR_runs, hrb, List.take_succ_eq_append_getElem hib, HK.out.1]
          clear hL8 hu8 ho8 H7 HK c2 hcb q1 q2 q3 q4 q5 HR hltI
          go_wp2_with fail
          exact ⟨⟨i + 1, by omega, by go_num, HJ⟩, by simp [intOf]; omega⟩
        · obtain rfl : i = m := by omega
          have hrb : runsB rs = bl := by
            have := HR.out.2.2.2.2.2.2.2.2.2.2.2.2.1
            rwa [List.take_of_length_le (by rw [HT.out.2.1]; exact Nat.le_refl _)] at this
          have hok := HR.out.2.2.2.2.2.2.2.2.2.2.2.2.2.1
          have him := H.out.2.2.1
          have hrl : rs.length ≤ 96 := by
            have h1 := runs_le rs hok
            rw [hrb, HT.out.2.1] at h1
            omega
          have hd0 : Upd (fun _ => False) wr wr.drew := (Upd.refl (fun _ => False) wr).drew
          have henc := encode_ok (HR.out.2.2.2.2.2.2.2.2.1.upd hd0 (fun _ _ h => h)) hok (by omega) (by omega)
          obtain ⟨nr, hnr⟩ : ∃ nr, 4 + rs.length * 3 = nr := ⟨_, rfl⟩
          rw [hnr] at henc
          have hhb : head ∉ bl := (List.nodup_cons.1 HT.out.1.1).1
          have hhk : ∀ t ∈ bl, ((head : Nat) : Int) ≠ ((t : Nat) : Int) := fun t ht e => hhb (by rw [show head = t by omega]; exact ht)
          have hlk : lookB ei (head : Nat) = some zeros512 := by
            rw [HR.out.2.2.2.2.2.2.2.2.2.2.2.1.2.1 _ hhk]
            exact HT.out.1.2.2.1 head (List.mem_cons_self ..)
          have hh4 := (HT.out.1.2.1 head (List.mem_cons_self ..)).2.1
          have hhI : (head : Int) ≤ 4096 := by omega
          have c1 := HR.out.1.cell 0
          have c2 := HR.out.2.1.cell 0
          have c3 := HR.out.2.2.1 0 (.int .i64 head) rfl
          simp only [List.getElem?_cons_zero, Nat.add_zero] at c1 c2 c3
          have hel := encH_length size rs
          have HK := Lib.hid (And.intro henc (And.intro hlk (And.intro hnr (And.intro hrb (And.intro hok (And.intro hd0 (And.intro hel hrl)))))))
          have HS : wr.drew.cell? ⟨sb, 0, none⟩ = some (.iface 26 (.pointer (some ⟨mb, 0, none⟩))) ∧ wr.drew.cell? ⟨tb, 0, none⟩ = some (.slice (some ⟨gy, oy, none⟩) (1 + i) d) ∧ wr.drew.cell? ⟨gy, oy, none⟩ = some (.int .i64 head) := ⟨c2, c1, c3⟩
          have h01 : (0 : Int) < 1 + (i : Int) := by omega
          clear henc hlk hnr hrb hok hd0 hhb hhk hh4 c1 c2 c3 hrl him hel
          go_wp2_with fail
          refine wp_region_planD (fun u => u.cell? ⟨sb, 0, none⟩ = some (.iface 26 (.pointer (some ⟨mb, 0, none⟩))) ∧ u.cell? ⟨tb, 0, none⟩ = some (.slice (some ⟨gy, oy, none⟩) (1 + i) d) ∧ u.cell? ⟨gy, oy, none⟩ = some (.int .i64 head)) 11 [(0, true), (1, true), (2, true), (3, true), (4, true), (6, true), (7, true), (8, true), (5, false), (9, false), (10, true)] (by kernel_rfl) (by kernel_rfl) (fun d _ _ _ _ h => by cases d <;> exact h) HS ?_
          iterate 8 (first | (apply planD_held rfl rfl rfl (by simp) HS; (intro w' hS K hK; go_simp; exact hK)) | (apply planD_wanted rfl rfl rfl (by simp) HS; (intro w' hS K hK; go_simp; exact hK)))
          refine planD_op rfl rfl (fun KK hK => ?_)
          go_simp
          refine HK.out.1.mono ?_
          rintro e w6 ⟨ye, de, rfl, hE⟩
          dsimp only
          have HS6 : w6.cell? ⟨sb, 0, none⟩ = some (.iface 26 (.pointer (some ⟨mb, 0, none⟩))) ∧ w6.cell? ⟨tb, 0, none⟩ = some (.slice (some ⟨gy, oy, none⟩) (1 + i) d) ∧ w6.cell? ⟨gy, oy, none⟩ = some (.int .i64 head) := ⟨hE.2.2.1.cell_some HS.1 (fun h => h), hE.2.2.1.cell_some HS.2.1 (fun h => h), hE.2.2.1.cell_some HS.2.2 (fun h => h)⟩
          have hu06 : Upd (fun _ => False) wr w6 := HK.out.2.2.2.2.2.1.trans hE.2.2.1
          have hwr := mwrite_ok (HR.out.2.2.2.1.upd hu06 (fun _ _ h => h)) (head : Nat) _ HK.out.2.1 ye de (encH size rs) nr (by rw [HK.out.2.2.2.2.2.2.1, HK.out.2.2.1]) (by have := HK.out.2.2.1; have := HK.out.2.2.2.2.2.2.2; omega) hE.1.sees
          have H6 := Lib.hid (And.intro hwr hu06)
          clear hwr hu06 hE
          refine hK _ _ _ (fun u h => h) (fun _ => HS6) ?_
          clear hK HS
          try (simp only [Act.put, List.setIfInBounds_toArray, List.set_cons_zero, List.set_cons_succ])
          refine planD_op rfl rfl (fun KK hK => ?_)
          go_simp
          refine H6.out.1.mono ?_
          rintro e w7 ⟨rfl, g7, hg7, hM7, hu7⟩
          dsimp only
          have HS7 : w7.cell? ⟨sb, 0, none⟩ = some (.iface 26 (.pointer (some ⟨mb, 0, none⟩))) ∧ w7.cell? ⟨tb, 0, none⟩ = some (.slice (some ⟨gy, oy, none⟩) (1 + i) d) ∧ w7.cell? ⟨gy, oy, none⟩ = some (.int .i64 head) := ⟨hu7.cell_some HS6.1 HR.out.2.2.2.2.2.2.1, hu7.cell_some HS6.2.1 HR.out.2.2.2.2.2.1, hu7.cell_some HS6.2.2 HR.out.2.2.2.2.2.2.2.1⟩
          have Hfin : Hid (∃ (rs : List Run) (ef : Img) (K' : Nat → Prop), MemAt w7 mb most ef K' ∧ (∀ q, K' q → K q ∨ w.heap.size ≤ q) ∧ Upd K w w7 ∧ WroteP es s.data.toList head rs ef) := by
            obtain ⟨r1, r2, r3, r4, r5, r6, r7, r8, r9, r10, r11, r12, r13, r14, r15⟩ := HR.out
            have hz := r11.size
            have hz6 := H6.out.2.size
            have htl : s.data.toList.length = size := by rw [← H.out.2.1]; exact Array.length_toList
            have hw := wrote HT.out.1 (text := s.data.toList) (rs := rs) (em := ei) (by rw [HT.out.2.1]; exact r12) r14 HK.out.2.2.2.1 (by rw [HT.out.2.1, htl]; exact H.out.2.2.1.symm) (by rw [htl]; omega) (by rw [htl]; omega)
            rw [htl] at hw
            refine ⟨rs, _, _, hM7, ?_, r11.then ((H6.out.2.mono (fun _ _ h => h.elim)).trans hu7) r5, hw⟩
            rintro q (e | e)
            · exact r5 q e
            · exact .inr (by omega)
          clear hM7 hu7 hg7 H6 HS6
          refine hK _ _ _ (fun u h => h) (fun _ => HS7) ?_
          clear hK
          try (simp only [Act.put, List.setIfInBounds_toArray, List.set_cons_zero, List.set_cons_succ])
          iterate 1 (first | (apply planD_held rfl rfl rfl (by simp) HS7; (intro w' hS K hK; go_simp; exact hK)) | (apply planD_wanted rfl rfl rfl (by simp) HS7; (intro w' hS K hK; go_simp; exact hK)))
          refine planD_nil ?_
          have c1 := HS7.2.1
          have c3 := HS7.2.2
          clear HS7
          go_wp2_with fail
          go_ret2
          obtain ⟨rs9, ef9, K9, h9⟩ := Hfin.out
          exact ⟨head, rs9, ef9, K9, rfl, h9⟩
end
end Go.Proofs.Ytmefbbmjamdnjaa
