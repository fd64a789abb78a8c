/- Package blob: ReadAt. -/
import Derived.Test.YtmefbbmjamdnjaaBb5
import Derived.Lib.MinMax
namespace Go.Proofs.Ytmefbbmjamdnjaa
open Go Go.RowKit
set_option linter.unusedSimpArgs false
set_option linter.unusedVariables false
set_option maxRecDepth 100000

/-- The bytes from a to b. -/
def sg (t : Bytes) (a b : Nat) : Bytes := (t.take b).drop a
theorem sg_get (t : Bytes) (a b j : Nat) : (sg t a b)[j]? = if a + j < b then t[a + j]? else none := by
  rw [sg, List.getElem?_drop, List.getElem?_take]
theorem sg_len (t : Bytes) (a b : Nat) (h : b ≤ t.length) : (sg t a b).length = b - a := by
  rw [sg, List.length_drop, List.length_take]; omega
theorem sg_none (t : Bytes) (a b : Nat) (h : b ≤ a) : sg t a b = [] := by
  rw [sg]; exact List.drop_eq_nil_of_le (by rw [List.length_take]; omega)
theorem sg_join (t : Bytes) (a b c : Nat) (h1 : a ≤ b) (h2 : b ≤ c) (h3 : c ≤ t.length) : sg t a b ++ sg t b c = sg t a c := by
  apply List.ext_getElem?
  intro j
  rw [List.getElem?_append, sg_len _ _ _ (by omega), sg_get, sg_get, sg_get]
  split
  · rw [if_pos (by omega), if_pos (by omega)]
  · rw [show b + (j - (b - a)) = a + j by omega]
theorem sg_of (t : Bytes) (a n : Nat) : sg t a (a + n) = (t.drop a).take n := by
  rw [sg, List.drop_take, Nat.add_sub_cancel_left]
/-- The piece of a block, from lo to hi. -/
theorem sg_pad (t : Bytes) (i lo hi : Nat) (h1 : hi ≤ 512) (h2 : i * 512 + hi ≤ t.length) : ((pad ((t.drop (i * 512)).take 512)).drop lo).take (hi - lo) = sg t (i * 512 + lo) (i * 512 + hi) := by
  apply List.ext_getElem?
  intro j
  rw [List.getElem?_take, sg_get, List.getElem?_drop]
  split
  · rw [if_pos (by omega), pad, List.getElem?_append_left (by rw [List.length_take, List.length_drop]; omega), List.getElem?_take, if_pos (by omega), List.getElem?_drop, show i * 512 + (lo + j) = i * 512 + lo + j by omega]
  · rw [if_neg (by omega)]
/-- What is read when i blocks are. -/
def rdSoFar (t : Bytes) (F E i : Nat) : Bytes := sg t F (min E (i * 512))
theorem rd_skip (t : Bytes) (F E i : Nat) (hE : E ≤ t.length) (h : E ≤ i * 512 ∨ i * 512 + 512 ≤ F ∨ E ≤ F) : rdSoFar t F E (i + 1) = rdSoFar t F E i := by
  rw [rdSoFar, rdSoFar]
  rcases h with h | h | h
  · rw [show min E ((i + 1) * 512) = min E (i * 512) by omega]
  · rw [sg_none _ _ _ (by omega), sg_none _ _ _ (by omega)]
  · rw [sg_none _ _ _ (by omega), sg_none _ _ _ (by omega)]
theorem rd_step (t : Bytes) (F E i lo hi : Nat) (hE : E ≤ t.length) (hlo : lo = F - i * 512) (hhi : i * 512 + hi = min E (i * 512 + 512)) (hlt : lo < hi) :
    rdSoFar t F E i ++ ((pad ((t.drop (i * 512)).take 512)).drop lo).take (hi - lo) = rdSoFar t F E (i + 1) := by
  rw [sg_pad t i lo hi (by omega) (by omega), rdSoFar, rdSoFar, hhi, show min E ((i + 1) * 512) = min E (i * 512 + 512) by omega]
  rcases Nat.le_total F (i * 512) with h | h
  · rw [show i * 512 + lo = min E (i * 512) by omega, sg_join _ _ _ _ (by omega) (by omega) (by omega)]
  · rw [sg_none t F (min E (i * 512)) (by omega), List.nil_append, show i * 512 + lo = F by omega]
/-- While it is read. -/
def RdR (w1 wr : World) (bb : Nat) (y : Option Addr) (m d : Nat) (bl : List Nat) (v : Value) (bs : Bytes) : Prop :=
  BldAt wr bb bb v bs ∧ Upd (fun _ => False) w1 wr ∧ w1.heap.size = bb ∧ Mid wr 1 (.slice y m d) m (intsV bl) ∧ (∀ q, (Value.slice y m d).ownBlock = some q → bb < q ∧ v.ownBlock ≠ some q)
section
variable {w : World} {mb most : Nat} {es : Img} {K : Nat → Prop}
set_option maxHeartbeats 16000000 in
theorem readat_ok (h : MemAt w mb most es K) {head : Nat} {text : Bytes} {rs : List Run} (hb : BlobAt es head text rs) (f n : Nat) (hf : f < 9223372036854775808) (hn : n < 9223372036854775808) :
    Calls Try.prog 10 #[.iface 26 (.pointer (some ⟨mb, 0, none⟩)), .int .i64 (head : Nat), .int .i64 (f : Nat), .int .i64 (n : Nat)] w fun e w' => e = .returned (.tuple #[.string ⟨((text.drop f).take n).toArray⟩, .int .i64 0]) ∧ Upd (fun _ => False) w w' := by
  have hld := load_any h hb
  have hlen := hb.len
  have hsm := hb.small
  obtain ⟨size, hsz⟩ : ∃ size, text.length = size := ⟨_, rfl⟩
  obtain ⟨m, hm⟩ : ∃ m, (runsB rs).length = m := ⟨_, rfl⟩
  rw [hsz] at hld hlen hsm
  rw [hm] at hlen
  obtain ⟨F, hF⟩ : ∃ F, min f size = F := ⟨_, rfl⟩
  obtain ⟨dd, hd⟩ : ∃ dd, min n (size - F) = dd := ⟨_, rfl⟩
  obtain ⟨E, hE⟩ : ∃ E, F + dd = E := ⟨_, rfl⟩
  have hres : (text.drop f).take n = rdSoFar text F E m := by
    rw [rdSoFar, show min E (m * 512) = E by omega, ← hE, sg_of]
    rcases Nat.le_total f size with h1 | h1
    · rw [show F = f by omega, ← hd]
      apply List.ext_getElem?
      intro j
      rw [List.getElem?_take, List.getElem?_take, List.getElem?_drop]
      split
      · split
        · rfl
        · rw [List.getElem?_eq_none (by omega)]
      · rw [if_neg (by omega)]
    · rw [List.drop_eq_nil_of_le (by omega), List.drop_eq_nil_of_le (by omega)]; simp
  have mF : min (f : Int) (size : Int) = (F : Int) := by omega
  have mD : min (n : Int) ((size : Int) - (F : Int)) = (dd : Int) := by omega
  have mE : (F : Int) + (dd : Int) = (E : Int) := by omega
  have hEs : E ≤ size := by omega
  have i1 : (size : Int) ≤ 49152 := by omega
  have i2 : (F : Int) ≤ (size : Int) := by omega
  have i3 : (E : Int) ≤ 49152 := by omega
  have i4 : (F : Int) ≤ 49152 := by omega
  have i5 : (dd : Int) ≤ 49152 := by omega
  have i6 : (m : Int) ≤ 96 := by omega
  have i7 : (f : Int) < 9223372036854775808 := by omega
  have i8 : (n : Int) < 9223372036854775808 := by omega
  have i9 : (head : Int) ≤ 4096 := by have := hb.le; omega
  have n1 : decide ((head : Int) < 0) = false := by simp
  have n2 : decide ((f : Int) < 0) = false := by simp
  have n3 : decide ((n : Int) < 0) = false := by simp
  have H := Lib.hid (And.intro h (And.intro hb (And.intro hld (And.intro hsz (And.intro hm (And.intro hres hEs))))))
  clear h hb hld hsz hm hres hEs hlen hsm hF hd hE hf hn
  go_enter Try.func10, Try.ntmps10
  go_wp2_with fail
  refine H.out.2.2.1.mono ?_
  rintro e w1 ⟨lb, x, c, rfl, hL, hu1, ho1⟩
  dsimp only
  have c0 := hL.cells.cell 0
  simp only [List.getElem?_cons_zero, List.getElem?_cons_succ] at c0
  have H1 := Lib.hid (And.intro hL (And.intro hu1 ho1))
  clear hL hu1 ho1
  go_wp2_with fail
  have hal1 : Upd (fun _ => False) w1 (w1.alloc (.cells #[.pointer none, .slice none 0 0] 73)) := (Upd.refl _ _).alloc _
  have hbk := blocks_ok (H1.out.1.upd hal1 (fun _ _ h => h)) H.out.2.1.runs (by have := H.out.2.1.len; have := H.out.2.1.small; omega)
  rw [H.out.2.2.2.2.1] at hbk
  refine hbk.mono ?_
  rintro e w3 ⟨y, d, rfl, hm3, ho3, hu3, hl3⟩
  dsimp only
  have hbz : (w1.alloc (.cells #[.pointer none, .slice none 0 0] 73)).heap.size = w1.heap.size + 1 := by simp
  have HQ : Hid (∃ v, RdR w1 w3 w1.heap.size y m d (runsB rs) v (rdSoFar text F E 0)) := by
    refine ⟨.slice none 0 0, ?_, hal1.trans hu3, rfl, hm3, fun q hq => ⟨?_, fun e => by cases e⟩⟩
    · rw [rdSoFar, sg_none _ _ _ (by omega)]
      exact (BldAt.new w1).upd hu3 (fun h => h) (fun _ _ h => h)
    · have := ho3 q hq; omega
  clear hm3 ho3 hu3 hl3 hbk hbz hal1 c0
  generalize w1.heap.size = bb at *
  go_wp2_with fail
  go_loopw [62] (fun iv wr => ∃ (i : Nat), i ≤ m ∧ iv = .int .i64 i ∧ Hid (∃ v, RdR w1 wr bb y m d (runsB rs) v (rdSoFar text F E i))) (fun iv _ => m - (intOf iv).toNat)
  case atStart => exact ⟨0, Nat.zero_le _, rfl, HQ⟩
  case round =>
    clear HQ
    obtain ⟨i, hi, rfl, HR⟩ := hrel
    by_cases hlt : i < m
    · have hltI : (i : Int) < (m : Int) := by omega
      obtain ⟨v, HR⟩ := HR.out
      have HR := Lib.hid HR
      obtain ⟨blk, hblk⟩ : ∃ blk, (runsB rs)[i]'(by rw [H.out.2.2.2.2.1]; exact hlt) = blk := ⟨_, rfl⟩
      obtain ⟨g2, o2, rfl, hc2⟩ : ∃ g2 o2, y = some ⟨g2, o2, none⟩ ∧ wr.cell? ⟨g2, o2 + i, none⟩ = some (.int .i64 blk) := by
        obtain ⟨_, ⟨e, e2⟩ | ⟨g, o, cap, e, _, _, _, hr, _⟩⟩ := HR.out.2.2.2.1
        · cases e; omega
        · cases e
          refine ⟨g, o, rfl, hr i _ ?_⟩
          rw [intsV, List.getElem?_map, List.getElem?_eq_getElem (by rw [H.out.2.2.2.2.1]; exact hlt), hblk]
          rfl
      obtain ⟨lo, hlo⟩ : ∃ lo, F - i * 512 = lo := ⟨_, rfl⟩
      obtain ⟨hi, hhi⟩ : ∃ hi : Int, min ((E : Int) - (i : Int) * 512) 512 = hi := ⟨_, rfl⟩
      have mlo : max ((F : Int) - (i : Int) * 512) 0 = (lo : Int) := by omega
      have q1 : (i : Int) * 512 ≤ 49152 := by omega
      by_cases hlh : hi ≤ (lo : Int)
      · have hsk := rd_skip text F E i (by rw [H.out.2.2.2.1]; exact H.out.2.2.2.2.2.2) (by omega)
        have HJ : Hid (∃ v, RdR w1 wr bb (some ⟨g2, o2, none⟩) m d (runsB rs) v (rdSoFar text F E (i + 1))) := by
          rw [hsk]; exact ⟨v, HR.out⟩
        clear hsk hblk HR hlo
        go_wp2_with fail
        exact ⟨⟨i + 1, by omega, by go_num, HJ⟩, by simp [intOf]; omega⟩
      · obtain ⟨h1, rfl⟩ : ∃ h1 : Nat, hi = (h1 : Int) := ⟨hi.toNat, by omega⟩
        have hltN : lo < h1 := by omega
        have hlhI : (lo : Int) < (h1 : Int) := by omega
        have hpc := H.out.2.1.piece i (by rw [H.out.2.2.2.2.1]; exact hlt)
        rw [hblk] at hpc
        have hM := H.out.1.upd (H1.out.2.1.trans HR.out.2.1) (fun _ _ h => h)
        have hrd := mread_ok hM (blk : Int) _ hpc
        have hst := rd_step text F E i lo h1 (by rw [H.out.2.2.2.1]; exact H.out.2.2.2.2.2.2) (by omega) (by omega) hltN
        have Hs := Lib.hid (And.intro hst (And.intro hrd hltN))
        have q2 : (h1 : Int) ≤ 512 := by omega
        have q4 : decide (h1 ≤ lo) = false := by simp; omega
        have q5 : decide ((h1 : Int) ≤ (lo : Int)) = false := by simp; omega
        have q6 : ¬ h1 ≤ lo := by omega
        have q7 : decide ((512 : Int) < (h1 : Int)) = false := by simp; omega
        have q8 : ¬ 512 < h1 := by omega
        have q9 : lo ≤ h1 := by omega
        clear hst hrd hM hpc hblk hlo hlh
        go_wp2_with fail
        refine Hs.out.2.1.mono ?_
        rintro e w4 ⟨x4, d4, rfl, hm4, hu4, hl4, ho4⟩
        dsimp only
        obtain ⟨g4, o4, rfl, hd4, hr4⟩ : ∃ g4 o4, x4 = some ⟨g4, o4, none⟩ ∧ 512 ≤ d4 ∧ w4.rangeAt g4 o4 (bvs (pad ((text.drop (i * 512)).take 512))) := by
          obtain ⟨_, ⟨e, e2⟩ | ⟨g, o, cap, e, e1, _, _, hr, _⟩⟩ := hm4
          · cases e
          · cases e; exact ⟨g, o, rfl, e1, hr⟩
        have hd4N : h1 ≤ d4 := by omega
        have H4 := Lib.hid (And.intro hu4 (And.intro hl4 (And.intro (ho4 g4 rfl) hr4)))
        clear hm4 hu4 hl4 ho4 hr4
        go_wp2_with fail
        have hnl : (((pad ((text.drop (i * 512)).take 512)).drop lo).take (h1 - lo)).length = h1 - lo := by
          rw [List.length_take, List.length_drop, H4.out.2.1]; omega
        have hrs : w4.rangeAt g4 (o4 + lo) (bvs (((pad ((text.drop (i * 512)).take 512)).drop lo).take (h1 - lo))) := by
          refine rangeAt.sub (w := w4) H4.out.2.2.2 lo ?_
          rw [bvs_length, hnl]
          simp only [bvs, List.map_drop, List.map_take]
        have hBl : BldAt w4 bb bb v (rdSoFar text F E i) := HR.out.1.upd H4.out.1 (fun h => h) (fun _ _ h => h)
        have hsz4 := H4.out.1.size
        have hbl := HR.out.1.lt
        have hwr := bwrite_ok hBl (by omega) (.slice (some ⟨g4, o4 + lo, none⟩) (h1 - lo) (d4 - lo)) (h1 - lo) _ hnl (by omega) (Sees.at (by rw [bvs_length, hnl]; omega) (by unfold maxLen; omega) hrs) (fun q hq => by have e : g4 = q := (Option.some.inj hq); have := H4.out.2.2.1; omega) (by rw [rdSoFar, sg_len _ _ _ (by rw [H.out.2.2.2.1]; have := H.out.2.2.2.2.2.2; omega)]; omega)
        rw [Hs.out.1] at hwr
        refine hwr.mono ?_
        rintro e w5 ⟨rfl, v5, hB5, hu5, ho5⟩
        dsimp only
        have HJ : Hid (∃ v, RdR w1 w5 bb (some ⟨g2, o2, none⟩) m d (runsB rs) v (rdSoFar text F E (i + 1))) := by
          obtain ⟨r1, r2, r3, r4, r5⟩ := HR.out
          have r4l := r4.lt
          have hu45 : Upd (fun q => q = bb ∨ v.ownBlock = some q) wr w5 := (H4.out.1.mono (fun _ _ h => h.elim)).trans hu5
          refine ⟨v5, hB5, (r2.trans H4.out.1).then hu5 (fun q hq => ?_), r3, r4.upd hu45 (fun q hq => ?_), fun q hq => ⟨(r5 q hq).1, ?_⟩⟩
          · rcases hq with e | e
            · rw [e]; exact .inr (by omega)
            · have := (r1.own q e).1; exact .inr (by omega)
          · rintro (e | e)
            · have := (r5 q hq).1; omega
            · exact (r5 q hq).2 e
          · intro e
            rcases ho5 with e2 | ⟨q2, e1, e2⟩
            · rw [e2] at e; exact (r5 q hq).2 e
            · rw [e2] at e; cases e
              have := r4l q hq
              omega
        clear hB5 hu5 ho5 hwr hbl hsz4 hBl hrs hnl H4 Hs q1 q2 q4 q5 q6 q7 q8 q9 hd4N hltN hlhI mlo hhi hc2 HR
        go_wp2_with fail
        exact ⟨⟨i + 1, by omega, by go_num, HJ⟩, by simp [intOf]; omega⟩
    · obtain rfl : i = m := by omega
      obtain ⟨v, HR⟩ := HR.out
      have hst := bstring_ok HR.1 (by rw [rdSoFar, sg_len _ _ _ (by rw [H.out.2.2.2.1]; have := H.out.2.2.2.2.2.2; omega)]; omega)
      rw [← H.out.2.2.2.2.2.1] at hst
      have Hst := Lib.hid (And.intro hst HR)
      clear hst HR
      go_wp2_with fail
      refine Hst.out.1.mono ?_
      rintro e w6 ⟨rfl, hu6⟩
      dsimp only
      have Hf : Hid (Upd (fun _ => False) w w6) := by
        obtain ⟨r1, r2, r3, r4, r5⟩ := Hst.out.2
        refine (H1.out.2.1.trans r2).then hu6 (fun q hq => .inr ?_)
        have := (r1.own q hq).1
        have := H1.out.2.1.size
        omega
      clear hu6
      go_wp2_with fail
      go_ret2
      exact ⟨rfl, Hf.out⟩
end
end Go.Proofs.Ytmefbbmjamdnjaa
