/- Package blob: load. -/
import Derived.Test.YtmefbbmjamdnjaaBb3
namespace Go.Proofs.Ytmefbbmjamdnjaa
open Go Go.RowKit
set_option linter.unusedSimpArgs false
set_option linter.unusedVariables false
set_option maxRecDepth 100000

theorem or_natB (a c : Nat) (ha : a < 4294967296) (hc : c < 4294967296) : bits BinOp.or IntKind.i64 (a : Int) (c : Int) = ((a ||| c : Nat) : Int) := by
  have h : (BitVec.ofInt 64 (a : Int) ||| BitVec.ofInt 64 (c : Int)).toNat = a ||| c := by
    rw [BitVec.ofInt_natCast, BitVec.ofInt_natCast, BitVec.toNat_or, BitVec.toNat_ofNat, BitVec.toNat_ofNat, Nat.mod_eq_of_lt (by omega), Nat.mod_eq_of_lt (by omega)]
  have hl : a ||| c < 4294967296 := Nat.or_lt_two_pow (n := 32) ha hc
  show IntKind.i64.wrap (((BitVec.ofInt 64 (a : Int) ||| BitVec.ofInt 64 (c : Int)).toNat : Nat) : Int) = _
  rw [h, IntKind.wrap_i64]
  omega
theorem or_two (a b n : Nat) (ha : n % 256 = a) (hb : n / 256 = b) (hn : n < 65536) : bits BinOp.or IntKind.i64 (a : Int) ((b : Int) * 256) = (n : Int) := by
  have h1 := or_natB a (b * 256) (by omega) (by omega)
  rw [Int.natCast_mul] at h1
  refine h1.trans ?_
  have h2 := Nat.shiftLeft_add_eq_or_of_lt (i := 8) (b := a) (by omega) b
  rw [Nat.shiftLeft_eq] at h2
  rw [Nat.or_comm, ← h2]
  omega
/-- A head's block. -/
structure HeadOk (es : Img) (head size : Nat) (rs : List Run) : Prop where
  look : lookB es (head : Int) = some (pad (encH size rs))
  one : 1 ≤ head
  lo : 1 ≤ size
  hi : size ≤ 49152
  runs : RunsOk rs
  len : (runsB rs).length = (size + 511) / 512
theorem HeadOk.few {es : Img} {head size : Nat} {rs : List Run} (h : HeadOk es head size rs) : rs.length ≤ 96 ∧ (runsB rs).length ≤ 96 := by
  have h1 := runs_le rs h.runs
  have h2 := h.len
  have h3 := h.hi
  omega
theorem pad_get {l : Bytes} {j : Nat} (h : j < l.length) : (bvs (pad l))[j]? = some (bv l[j]) := by
  rw [bvs, List.getElem?_map, pad, List.getElem?_append_left h, List.getElem?_eq_getElem h]; rfl
theorem enc_run {size : Nat} {rs : List Run} (k : Nat) (hk : k < rs.length) : (encH size rs).drop (4 + k * 3) = encR rs[k] ++ (encRs rs).drop ((k + 1) * 3) := by
  rw [encH, List.drop_append, List.drop_eq_nil_of_le (by simp [hdrB]), List.nil_append, show 4 + k * 3 - (hdrB size rs.length).length = k * 3 by simp [hdrB]]
  have h1 : encRs rs = encRs (rs.take k) ++ (encR rs[k] ++ encRs (rs.drop (k + 1))) := by
    conv => lhs; rw [← List.take_append_drop k rs, encRs_append]
    congr 1
    rw [List.drop_eq_getElem_cons hk]; rfl
  have h2 : encRs rs = encRs (rs.take (k + 1)) ++ encRs (rs.drop (k + 1)) := by rw [← encRs_append, List.take_append_drop]
  have l1 : (encRs (rs.take k)).length = k * 3 := by rw [encRs_length, List.length_take]; omega
  have l2 : (encRs (rs.take (k + 1))).length = (k + 1) * 3 := by rw [encRs_length, List.length_take]; omega
  have e2 : (encRs rs).drop ((k + 1) * 3) = encRs (rs.drop (k + 1)) := by
    conv => lhs; rw [h2]
    rw [List.drop_append, List.drop_eq_nil_of_le (by omega), l2, Nat.sub_self]; rfl
  rw [e2]
  conv => lhs; rw [h1]
  rw [List.drop_append, List.drop_eq_nil_of_le (by omega), l1, Nat.sub_self]; rfl
theorem enc_get {size : Nat} {rs : List Run} (k i : Nat) (hk : k < rs.length) (hi : i < 3) : (bvs (pad (encH size rs)))[4 + k * 3 + i]? = (bvs (encR rs[k]))[i]? := by
  have hl := encH_length size rs
  have h1 : (encH size rs)[4 + k * 3 + i]? = (encR rs[k])[i]? := by
    have := congrArg (fun l => l[i]?) (enc_run (size := size) k hk)
    simp only [List.getElem?_drop] at this
    rw [this, List.getElem?_append_left (by simp [encR]; omega)]
  rw [bvs, bvs, List.getElem?_map, List.getElem?_map, pad, List.getElem?_append_left (by omega), h1]
/-- What load answers. -/
def LodP (w : World) (mb most : Nat) (es : Img) (K : Nat → Prop) (size : Nat) (rs : List Run) (e : Ending) (w' : World) : Prop :=
  ∃ (lb : Nat) (x : Option Addr) (c : Nat), e = .returned (.tuple #[.pointer (some ⟨lb, 0, none⟩), .int .i64 0]) ∧ ListAt w' lb size rs x c ∧ Upd (fun _ => False) w w' ∧ (∀ q, ownL lb rs.length x c q → w.heap.size ≤ q)
/-- While it is read. -/
def LoR (w wr : World) (lb size : Nat) (rs : List Run) (x : Option Addr) (c : Nat) : Prop :=
  ListAt wr lb size rs x c ∧ Upd (fun _ => False) w wr ∧ (∀ q, ownL lb rs.length x c q → w.heap.size ≤ q)
theorem LoR.start (w : World) (size : Nat) : LoR w (w.alloc (.cells #[.int .i64 (size : Nat), .slice none 0 0] 65)).drew w.heap.size size [] none 0 := by
  have hc := CellsA.new w 65 [.int .i64 (size : Nat), .slice none 0 0]
  refine ⟨⟨hc, Mid.nil _ _, Whole.nil _ _, fun q hq => by cases hq⟩, ((Upd.refl _ w).alloc _).drew, fun q hq => ?_⟩
  rcases hq with e | e
  · omega
  · cases e
theorem list_push {w wr wn : World} {lb size : Nat} {rs : List Run} {x x' : Option Addr} {c c' : Nat} (r : Run) (h : LoR w wr lb size rs x c) (hu : Upd (fun q => (Value.slice x rs.length c).ownBlock = some q) wr wn) (hm : Mid wn 2 (.slice x' (rs.length + 1) c') (rs.length + 1) (runsV rs ++ [.int .i64 r.1, .int .i64 r.2])) (hw : Whole wn 2 (.slice x' (rs.length + 1) c'))
    (hb : (Value.slice x' (rs.length + 1) c').ownBlock = (Value.slice x rs.length c).ownBlock ∨ ∃ q, wr.heap.size ≤ q ∧ (Value.slice x' (rs.length + 1) c').ownBlock = some q) :
    LoR w (wn.setCell ⟨lb, 1, none⟩ (.slice x' (rs.length + 1) c')) lb size (rs ++ [r]) x' c' := by
  obtain ⟨h, hr, ho⟩ := h
  have hl : (rs ++ [r]).length = rs.length + 1 := by simp
  have hv : runsV (rs ++ [r]) = runsV rs ++ [.int .i64 r.1, .int .i64 r.2] := by rw [runsV_append]; rfl
  have hlt := h.cells.lt
  have hsz := hr.size
  have hcn : CellsA wn lb 65 [.int .i64 size, .slice x rs.length c] := h.cells.upd hu (fun e => h.ne _ e rfl)
  have hus : Upd (fun q => q = lb) wn (wn.setCell ⟨lb, 1, none⟩ (.slice x' (rs.length + 1) c')) := (Upd.refl _ _).setCell _ (.inl rfl)
  have hne : ∀ q, (Value.slice x' (rs.length + 1) c').ownBlock = some q → q ≠ lb := fun q hq => by
    rcases hb with e | ⟨q', e1, e2⟩
    · rw [e] at hq; exact h.ne q hq
    · rw [e2] at hq; cases hq; omega
  refine ⟨⟨?_, ?_, ?_, ?_⟩, (hr.then hu (fun q e => .inr (ho q (.inr e)))).then hus (fun q e => .inr (ho q (.inl e))), ?_⟩
  · rw [hl]; exact hcn.set 1 _
  · rw [hl, hv]; exact hm.upd hus (fun q hq e => hne q hq e)
  · rw [hl]; exact hw.upd hus (fun q hq e => hne q hq e) hm.lt
  · rw [hl]; exact hne
  · rw [hl]
    rintro q (e | e)
    · exact ho q (.inl e)
    · rcases hb with e1 | ⟨q', e1, e2⟩
      · rw [e1] at e; exact ho q (.inr e)
      · rw [e2] at e; cases e; omega
section
variable {w w' : World} {mb most : Nat} {es : Img} {K : Nat → Prop}
theorem load_zero (h : MemAt w mb most es K) : Calls Try.prog 23 #[.iface 26 (.pointer (some ⟨mb, 0, none⟩)), .int .i64 0] w fun e w' => LodP w mb most es K 0 [] e w' := by
  clear h
  go_enter Try.func23, Try.ntmps23
  go_wp2_with fail
  go_ret2
  have hc := CellsA.new w 65 [.int .i64 0, .slice none 0 0]
  refine ⟨w.heap.size, none, 0, rfl, ⟨hc, Mid.nil _ _, Whole.nil _ _, fun q hq => by cases hq⟩, (Upd.refl _ w).alloc _, fun q hq => ?_⟩
  rcases hq with e | e
  · omega
  · cases e
set_option maxHeartbeats 16000000 in
theorem lod_ok (h : MemAt w mb most es K) (head size : Nat) (rs : List Run) (hh : HeadOk es head size rs) (hhb : head ≤ 4096) : Calls Try.prog 23 #[.iface 26 (.pointer (some ⟨mb, 0, none⟩)), .int .i64 (head : Nat)] w fun e w' => LodP w mb most es K size rs e w' := by
  have hf := hh.few
  have hone := hh.one
  have hrd := mread_ok h (head : Int) _ hh.look
  obtain ⟨n, hn⟩ : ∃ n, rs.length = n := ⟨_, rfl⟩
  have hlo := hh.lo
  have hhi := hh.hi
  have hI1 : (1 : Int) ≤ (head : Int) := by omega
  have hI2 : (head : Int) ≤ 4096 := by omega
  have hnI : (n : Int) ≤ 96 := by omega
  have hs1 : (1 : Int) ≤ (size : Int) := by omega
  have hs2 : (size : Int) ≤ 49152 := by omega
  have h0 : ((head : Int) == 0) = false := by simp; omega
  obtain ⟨s0, hs0⟩ : ∃ s0, size % 256 = s0 := ⟨_, rfl⟩
  obtain ⟨t1, ht1⟩ : ∃ t1, size / 256 = t1 := ⟨_, rfl⟩
  have hl := encH_length size rs
  have b0 : (bvs (pad (encH size rs)))[0]? = some (.int .u8 177) := pad_get (by omega)
  have b1 : (bvs (pad (encH size rs)))[1]? = some (.int .u8 s0) := (pad_get (j := 1) (by omega)).trans (by
    show some (bv (UInt8.ofNat (size % 256))) = _
    rw [bv_ofNat, hs0])
  have b2 : (bvs (pad (encH size rs)))[2]? = some (.int .u8 t1) := (pad_get (j := 2) (by omega)).trans (by
    show some (bv (UInt8.ofNat (size / 256 % 256))) = _
    rw [bv_ofNat, ht1, Nat.mod_eq_of_lt (by omega)])
  have b3 : (bvs (pad (encH size rs)))[3]? = some (.int .u8 n) := (pad_get (j := 3) (by omega)).trans (by
    show some (bv (UInt8.ofNat (rs.length % 256))) = _
    rw [bv_ofNat, hn, Nat.mod_eq_of_lt (by omega)])
  have hor := or_two s0 t1 size hs0 ht1 (by omega)
  have H := Lib.hid (And.intro hh (And.intro hn (And.intro b0 (And.intro b1 (And.intro b2 (And.intro b3 hor))))))
  have hs0I : (s0 : Int) ≤ 255 := by omega
  have ht1I : (t1 : Int) ≤ 255 := by omega
  have Hrd := Lib.hid hrd
  clear h hh hf hone hrd hn hlo hhi hs0 ht1 hl b0 b1 b2 b3 hor
  go_enter Try.func23, Try.ntmps23
  go_wp2_with fail
  refine Hrd.out.mono ?_
  rintro e w1 ⟨y, d, rfl, hm, hu, hl, -⟩
  dsimp only
  obtain ⟨g, o, rfl, hrg⟩ : ∃ g o, y = some ⟨g, o, none⟩ ∧ w1.rangeAt g o (bvs (pad (encH size rs))) := by
    obtain ⟨_, ⟨e, e2⟩ | ⟨g, o, cap, e, _, _, _, hr, _⟩⟩ := hm
    · cases e2
    · cases e; exact ⟨g, o, rfl, hr⟩
  have H1 := Lib.hid (And.intro hm (And.intro hu (And.intro hl hrg)))
  clear hm hu hl hrg
  have hal : Upd (fun _ => False) w1 (w1.alloc (.cells #[.int .i64 0, .slice none 0 0] 65)) := (Upd.refl _ _).alloc _
  have hrg2 := hal.range H1.out.2.2.2 (fun h => h)
  have e0 : (w1.alloc (.cells #[.int .i64 0, .slice none 0 0] 65)).cell? ⟨g, o, none⟩ = some (.int .u8 177) := hrg2 0 _ H.out.2.2.1
  have e3 : (w1.alloc (.cells #[.int .i64 0, .slice none 0 0] 65)).cell? ⟨g, o + 3, none⟩ = some (.int .u8 n) := hrg2 3 _ H.out.2.2.2.2.2.1
  go_wp2_with fail
  have e1 : (w1.alloc (.cells #[.int .i64 0, .slice none 0 0] 65)).drew.cell? ⟨g, o + 1, none⟩ = some (.int .u8 s0) := hrg2 1 _ H.out.2.2.2.1
  have e2 : (w1.alloc (.cells #[.int .i64 0, .slice none 0 0] 65)).drew.cell? ⟨g, o + 2, none⟩ = some (.int .u8 t1) := hrg2 2 _ H.out.2.2.2.2.1
  have hcs := CellsA.new w1 65 [.int .i64 0, .slice none 0 0]
  have hlc : (w1.alloc (.cells #[.int .i64 0, .slice none 0 0] 65)).drew.cell? ⟨w1.heap.size, 0, none⟩ = some (.int .i64 0) := hcs.cell 0
  have hlf : (w1.alloc (.cells #[.int .i64 0, .slice none 0 0] 65)).drew.frozen? ⟨w1.heap.size, 0, none⟩ = false := hcs.frozen 0
  have hor := H.out.2.2.2.2.2.2
  have q0 : IntKind.i64.wrap (s0 : Int) = (s0 : Int) := by rw [IntKind.wrap_i64]; omega
  have q1 : IntKind.i64.wrap (t1 : Int) = (t1 : Int) := by rw [IntKind.wrap_i64]; omega
  have q2 : IntKind.i64.wrap ((t1 : Int) * 256) = (t1 : Int) * 256 := by rw [IntKind.wrap_i64]; omega
  have HS : (w1.alloc (.cells #[.int .i64 0, .slice none 0 0] 65)).drew.cell? ⟨g, o + 1, none⟩ = some (.int .u8 s0) ∧ (w1.alloc (.cells #[.int .i64 0, .slice none 0 0] 65)).drew.cell? ⟨g, o + 2, none⟩ = some (.int .u8 t1) := ⟨e1, e2⟩
  have HL := Lib.hid (LoR.start w1 size)
  clear e0 e1 e2 hrg2 hal hcs
  refine wp_region_planD (fun u => u.cell? ⟨g, o + 1, none⟩ = some (.int .u8 s0) ∧ u.cell? ⟨g, o + 2, none⟩ = some (.int .u8 t1)) 13 [(0, true), (1, true), (2, true), (3, true), (4, true), (5, true), (6, true), (7, true), (8, true), (9, true), (10, true), (11, true), (12, true), (13, false)] (by kernel_rfl) (by kernel_rfl) (fun d _ _ _ _ h => by cases d <;> exact h) HS ?_
  iterate 13 (first | (apply planD_held rfl rfl rfl (by simp) HS; (intro w' hS K hK; go_simp; exact hK)) | (apply planD_wanted rfl rfl rfl (by simp) HS; (intro w' hS K hK; go_simp; exact hK)))
  refine planD_op rfl rfl (fun KK hK => ?_)
  go_simp
  refine hK _ _ _ (fun u h => h) (fun h => absurd rfl h) ?_
  refine planD_nil ?_
  clear hK HS q0 q1 q2 hor hlc hlf
  generalize (w1.alloc (.cells #[.int .i64 size, .slice none 0 0] 65)).drew = w3 at *
  have e3 : w3.cell? ⟨g, o + 3, none⟩ = some (.int .u8 n) := HL.out.2.1.range H1.out.2.2.2 (fun h => h) 3 _ H.out.2.2.2.2.2.1
  have HQ : Hid (LoR w1 w3 w1.heap.size size (rs.take 0) none 0) := HL.out
  clear HL
  generalize w1.heap.size = lb at *
  have hd512 : (512 : Int) ≤ (d : Int) := by
    obtain ⟨_, ⟨e, e2⟩ | ⟨g', o', cap, e, e1, _⟩⟩ := H1.out.1
    · cases e
    · cases e; omega
  go_wp2_with fail
  clear e3
  go_loopw [70] (fun iv wr => ∃ (k c : Nat) (x : Option Addr), k ≤ n ∧ iv = .int .i64 k ∧ Hid (LoR w1 wr lb size (rs.take k) x c)) (fun iv _ => n - (intOf iv).toNat)
  case atStart => exact ⟨0, 0, none, Nat.zero_le _, rfl, HQ⟩
  case round =>
    clear HQ
    obtain ⟨k, c, x, hk, rfl, HR⟩ := hrel
    by_cases hlt : k < n
    · have hltI : (k : Int) < (n : Int) := by omega
      have hkl : k < rs.length := by rw [H.out.2.1]; exact hlt
      obtain ⟨r, hr⟩ : ∃ r, rs[k] = r := ⟨_, rfl⟩
      have hro := H.out.1.runs r (hr ▸ List.getElem_mem _)
      have hrw := HR.out.2.1.range H1.out.2.2.2 (fun h => h)
      go_wp2_with fail
      have htk : (rs.take k).length = k := by rw [List.length_take]; omega
      have hL1 := HR.out.1
      have c1 := hL1.cells.cell 1
      simp only [List.getElem?_cons_zero, List.getElem?_cons_succ] at c1
      rw [htk] at c1
      obtain ⟨f1, hf1⟩ : ∃ f1, r.1 = f1 := ⟨_, rfl⟩
      obtain ⟨n1, hn1⟩ : ∃ n1, r.2 = n1 := ⟨_, rfl⟩
      obtain ⟨a0, ha0⟩ : ∃ a0, f1 % 256 = a0 := ⟨_, rfl⟩
      obtain ⟨a1, ha1⟩ : ∃ a1, f1 / 256 = a1 := ⟨_, rfl⟩
      have henc : bvs (encR rs[k]) = [.int .u8 a0, .int .u8 a1, .int .u8 n1] := by
        rw [hr]
        show [bv _, bv _, bv _] = _
        rw [hf1, hn1] at hro
        rw [hf1, hn1, bv_ofNat, bv_ofNat, bv_ofNat, ha0, ha1, Nat.mod_eq_of_lt (by omega : n1 < 256), Nat.mod_eq_of_lt (by omega : a1 < 256)]
      have eget : ∀ i (hi : i < 3) v, ([.int .u8 a0, .int .u8 a1, .int .u8 n1] : List Value)[i]? = some v → wr.cell? ⟨g, o + (4 + 3 * k) + i, none⟩ = some v := fun i hi v hv => by
        have := hrw (4 + k * 3 + i) v ((enc_get k i hkl hi).trans (by rw [henc]; exact hv))
        rw [show o + (4 + 3 * k) + i = o + (4 + k * 3 + i) by omega]
        exact this
      obtain ⟨p, hp⟩ : ∃ p, o + (4 + 3 * k) = p := ⟨_, rfl⟩
      obtain ⟨z, hz⟩ : ∃ z, 512 - (4 + 3 * k) = z := ⟨_, rfl⟩
      rw [hp] at eget
      rw [hf1, hn1] at hro
      have g0 := eget 0 (by decide) _ rfl
      have g1 := eget 1 (by decide) _ rfl
      have g2 := eget 2 (by decide) _ rfl
      simp only [Nat.add_zero] at g0
      have hz2 : (2 : Int) < (z : Int) := by omega
      have hz1 : (1 : Int) < (z : Int) := by omega
      have hz0 : 0 < z := by omega
      have hor := or_two a0 a1 f1 ha0 ha1 (by omega)
      have ha0I : (a0 : Int) ≤ 255 := by omega
      have ha1I : (a1 : Int) ≤ 255 := by omega
      have hn1I : (n1 : Int) ≤ 255 := by omega
      have q0 : IntKind.i64.wrap (a0 : Int) = (a0 : Int) := by rw [IntKind.wrap_i64]; omega
      have q1 : IntKind.i64.wrap (a1 : Int) = (a1 : Int) := by rw [IntKind.wrap_i64]; omega
      have q2 : IntKind.i64.wrap ((a1 : Int) * 256) = (a1 : Int) * 256 := by rw [IntKind.wrap_i64]; omega
      have q3 : IntKind.i64.wrap (n1 : Int) = (n1 : Int) := by rw [IntKind.wrap_i64]; omega
      have hst : rs.take (k + 1) = rs.take k ++ [(f1, n1)] := by rw [List.take_succ_eq_append_getElem hkl, hr, ← hf1, ← hn1]
      have HK := Lib.hid (And.intro hst (And.intro htk (And.intro hro hrw)))
      have HS : wr.drew.cell? ⟨lb, 1, none⟩ = some (.slice x k c) ∧ wr.drew.cell? ⟨g, p, none⟩ = some (.int .u8 a0) ∧ wr.drew.cell? ⟨g, p + 1, none⟩ = some (.int .u8 a1) ∧ wr.drew.cell? ⟨g, p + 2, none⟩ = some (.int .u8 n1) := ⟨c1, g0, g1, g2⟩
      simp only [hp, hz]
      generalize d - (4 + 3 * k) = d2 at *
      clear hr hf1 hn1 hro htk hrw hkl eget henc ha0 ha1 hp hz c1 g0 g1 g2 hL1 hst
      refine wp_region_planD (fun u => u.cell? ⟨lb, 1, none⟩ = some (.slice x k c) ∧ u.cell? ⟨g, p, none⟩ = some (.int .u8 a0) ∧ u.cell? ⟨g, p + 1, none⟩ = some (.int .u8 a1) ∧ u.cell? ⟨g, p + 2, none⟩ = some (.int .u8 n1)) 24 [(0, true), (1, true), (2, true), (3, true), (4, true), (5, true), (6, true), (7, true), (8, true), (9, true), (10, true), (11, true), (12, true), (13, true), (14, true), (15, true), (16, true), (17, true), (18, true), (19, true), (20, false), (21, false), (22, true), (23, true), (24, false)] (by kernel_rfl) (by kernel_rfl) (fun d _ _ _ _ h => by cases d <;> exact h) HS ?_
      iterate 20 (first | (apply planD_held rfl rfl rfl (by simp) HS; (intro w' hS K hK; go_simp; exact hK)) | (apply planD_wanted rfl rfl rfl (by simp) HS; (intro w' hS K hK; go_simp; exact hK)))
      refine planD_op rfl rfl (fun KK hK => ?_)
      go_simp
      have hald : Upd (fun _ => False) wr (wr.alloc (.cells #[.int .i64 f1, .int .i64 n1] 86)).drew := ((Upd.refl _ wr).alloc _).drew
      have HS2 : (wr.alloc (.cells #[.int .i64 f1, .int .i64 n1] 86)).drew.cell? ⟨lb, 1, none⟩ = some (.slice x k c) ∧ (wr.alloc (.cells #[.int .i64 f1, .int .i64 n1] 86)).drew.cell? ⟨g, p, none⟩ = some (.int .u8 a0) ∧ (wr.alloc (.cells #[.int .i64 f1, .int .i64 n1] 86)).drew.cell? ⟨g, p + 1, none⟩ = some (.int .u8 a1) ∧ (wr.alloc (.cells #[.int .i64 f1, .int .i64 n1] 86)).drew.cell? ⟨g, p + 2, none⟩ = some (.int .u8 n1) :=
        ⟨hald.cell_some HS.1 (fun h => h), hald.cell_some HS.2.1 (fun h => h), hald.cell_some HS.2.2.1 (fun h => h), hald.cell_some HS.2.2.2 (fun h => h)⟩
      have hal2 := hald
      have hrow : (wr.alloc (.cells #[.int .i64 f1, .int .i64 n1] 86)).drew.rangeAt wr.heap.size 0 [.int .i64 f1, .int .i64 n1] := (CellsA.new wr 86 [.int .i64 f1, .int .i64 n1]).range
      refine hK _ _ _ (fun u h => h) (fun _ => HS2) ?_
      clear hK HS hald
      try (simp only [Act.put, List.setIfInBounds_toArray, List.set_cons_zero, List.set_cons_succ])
      generalize (wr.alloc (.cells #[.int .i64 f1, .int .i64 n1] 86)).drew = w3 at *
      refine planD_op rfl rfl (fun KK hK => ?_)
      refine wp_append_whole 86 2 16 _ (.slice x k c) k (runsV (rs.take k)) 1 [.int .i64 f1, .int .i64 n1] ?_ infoRun ?_ ?_ ?_ ?_ ?_ ?_ ?_ ?_ ?_
      · exact Try.underlying63
      · rfl
      · rfl
      · have := HR.out.1.mid.upd hal2 (fun _ _ h => h)
        rw [HK.out.2.1] at this
        exact this
      · have := HR.out.1.whole.upd hal2 (fun _ _ h => h) HR.out.1.mid.lt
        rw [HK.out.2.1] at this
        exact this
      · exact Sees.at rfl (by decide) hrow
      · intro u hu; simp at hu; rcases hu with rfl | rfl <;> rfl
      · unfold maxLen; omega
      · omega
      intro x' c' w4 hm4 hu4 hb4 hw4
      have hu14 : Upd (fun q => (Value.slice x (rs.take k).length c).ownBlock = some q) wr w4 := by
        rw [HK.out.2.1]; exact (hal2.mono (fun _ _ h => h.elim)).trans hu4
      have hgw : g < w1.heap.size := by
        obtain ⟨_, ⟨e, e2⟩ | ⟨g', o', cap, e, _, _, e3, _⟩⟩ := H1.out.1
        · cases e
        · cases e; exact e3
      have hgo : ¬ (Value.slice x k c).ownBlock = some g := fun e => by
        have := HR.out.2.2 g (.inr (by rw [HK.out.2.1]; exact e))
        omega
      have hlo : ¬ (Value.slice x k c).ownBlock = some lb := fun e => by
        have := HR.out.1.ne lb (by rw [HK.out.2.1]; exact e)
        exact this rfl
      have HS4 : w4.cell? ⟨lb, 1, none⟩ = some (.slice x k c) ∧ w4.cell? ⟨g, p, none⟩ = some (.int .u8 a0) ∧ w4.cell? ⟨g, p + 1, none⟩ = some (.int .u8 a1) ∧ w4.cell? ⟨g, p + 2, none⟩ = some (.int .u8 n1) :=
        ⟨hu4.cell_some HS2.1 hlo, hu4.cell_some HS2.2.1 hgo, hu4.cell_some HS2.2.2.1 hgo, hu4.cell_some HS2.2.2.2 hgo⟩
      have hfz : w4.frozen? ⟨lb, 1, none⟩ = false := (HR.out.1.cells.upd hu14 (fun e => HR.out.1.ne _ e rfl)).frozen 1
      have hcx := HS4.1
      have hpost := list_push (f1, n1) HR.out hu14 (by rw [HK.out.2.1]; exact hm4) (by rw [HK.out.2.1]; exact hw4) (by
        rw [HK.out.2.1]
        rcases hb4 with e | e
        · exact .inl e
        · exact .inr ⟨_, hal2.size, e⟩)
      rw [HK.out.2.1, ← HK.out.1] at hpost
      have Hpost := Lib.hid hpost
      clear hpost hgw hgo hlo hu14 hm4 hu4 hb4 hw4 hal2 hrow HS2
      refine hK _ _ _ (fun u h => h) (fun _ => HS4) ?_
      clear hK
      try (simp only [Act.put, List.setIfInBounds_toArray, List.set_cons_zero, List.set_cons_succ])
      iterate 2 (first | (apply planD_held rfl rfl rfl (by simp) HS4; (intro w' hS K hK; go_simp; exact hK)) | (apply planD_wanted rfl rfl rfl (by simp) HS4; (intro w' hS K hK; go_simp; exact hK)))
      refine planD_op rfl rfl (fun KK hK => ?_)
      go_simp
      refine hK _ _ _ (fun u h => h) (fun h => absurd rfl h) ?_
      clear hK HS4
      refine planD_nil ?_
      try (simp only [Act.put, List.setIfInBounds_toArray, List.set_cons_zero, List.set_cons_succ])
      generalize w4.setCell ⟨lb, 1, none⟩ (.slice x' (k + 1) c') = w5 at *
      clear hfz hcx q0 q1 q2 q3 hor
      go_wp2_with fail
      exact ⟨⟨k + 1, c', x', by omega, by go_num, Hpost⟩, by simp [intOf]; omega⟩
    · obtain rfl : k = n := by omega
      have HL : Hid (LoR w1 wr lb size rs x c) := by
        have := HR.out
        rwa [List.take_of_length_le (by rw [H.out.2.1]; exact Nat.le_refl _)] at this
      have c0 := HL.out.1.cells.cell 0
      simp only [List.getElem?_cons_zero, List.getElem?_cons_succ] at c0
      clear HR
      go_wp2_with fail
      obtain ⟨m, hm⟩ : ∃ m, (runsB rs).length = m := ⟨_, rfl⟩
      have hm2 : m = (size + 511) / 512 := by rw [← hm]; exact H.out.1.len
      have hmI : (m : Int) ≤ 96 := by omega
      have hbk := blocks_ok (HL.out.1.upd (Upd.refl (fun _ => False) wr).drew (fun _ _ h => h)) H.out.1.runs (by omega)
      rw [hm] at hbk
      have Hbk := Lib.hid hbk
      have p0 : ((size : Int) == 0) = false := by simp; omega
      have p1 : IntKind.i64.wrap ((size : Int) + 512) = (size : Int) + 512 := by rw [IntKind.wrap_i64]; omega
      have p2 : IntKind.i64.wrap ((size : Int) + 512 - 1) = (size : Int) + 512 - 1 := by rw [IntKind.wrap_i64]; omega
      have p3 : ((size : Int) + 512 - 1).tdiv 512 = (m : Int) := by rw [Int.tdiv_eq_ediv_of_nonneg (by omega)]; omega
      have p4 : IntKind.i64.wrap (m : Int) = (m : Int) := by rw [IntKind.wrap_i64]; omega
      have HS : wr.drew.cell? ⟨lb, 0, none⟩ = some (.int .i64 size) := c0
      clear hm hm2 hbk c0
      refine wp_region_planD (fun u => u.cell? ⟨lb, 0, none⟩ = some (.int .i64 size)) 18 [(0, true), (1, true), (2, true), (3, true), (4, true), (5, true), (6, true), (9, true), (10, true), (11, true), (12, true), (13, true), (14, true), (15, true), (7, false), (8, true), (16, true), (17, true)] (by kernel_rfl) (by kernel_rfl) (fun d _ _ _ _ h => by cases d <;> exact h) HS ?_
      iterate 14 (first | (apply planD_held rfl rfl rfl (by simp) HS; (intro w' hS K hK; go_simp; exact hK)) | (apply planD_wanted rfl rfl rfl (by simp) HS; (intro w' hS K hK; go_simp; exact hK)))
      refine planD_op rfl rfl (fun KK hK => ?_)
      go_simp
      refine Hbk.out.mono ?_
      rintro e w6 ⟨y, d6, rfl, hb6⟩
      dsimp only
      have HS6 : w6.cell? ⟨lb, 0, none⟩ = some (.int .i64 size) := hb6.2.2.1.cell_some HS (fun h => h)
      have Hfin : Hid (ListAt w6 lb size rs x c ∧ Upd (fun _ => False) w w6 ∧ ∀ q, ownL lb rs.length x c q → w.heap.size ≤ q) := by
        obtain ⟨r1, r2, r3⟩ := HL.out
        have hu6 : Upd (fun _ => False) wr w6 := (Upd.refl (fun _ => False) wr).drew.trans hb6.2.2.1
        exact ⟨r1.upd hu6 (fun _ _ h => h), (H1.out.2.1.trans r2).trans hu6, fun q hq => Nat.le_trans H1.out.2.1.size (r3 q hq)⟩
      clear hb6 HS
      refine hK _ _ _ (fun u h => h) (fun _ => HS6) ?_
      clear hK
      try (simp only [Act.put, List.setIfInBounds_toArray, List.set_cons_zero, List.set_cons_succ])
      iterate 3 (first | (apply planD_held rfl rfl rfl (by simp) HS6; (intro w' hS K hK; go_simp; exact hK)) | (apply planD_wanted rfl rfl rfl (by simp) HS6; (intro w' hS K hK; go_simp; exact hK)))
      refine planD_nil ?_
      clear HS6
      go_wp2_with fail
      go_ret2
      exact ⟨lb, x, c, rfl, Hfin.out⟩
/-- A blob: its text, its head, its runs. -/
structure BlobAt (es : Img) (head : Nat) (text : Bytes) (rs : List Run) : Prop where
  top : (head = 0 ∧ text = [] ∧ rs = []) ∨ HeadOk es head text.length rs
  le : head ≤ 4096
  piece : ∀ i (h : i < (runsB rs).length), lookB es ((runsB rs)[i] : Nat) = some (pad ((text.drop (i * 512)).take 512))
theorem BlobAt.len {head : Nat} {text : Bytes} {rs : List Run} (h : BlobAt es head text rs) : (runsB rs).length = (text.length + 511) / 512 := by
  rcases h.top with ⟨_, e, e2⟩ | h
  · rw [e, e2]; rfl
  · exact h.len
theorem BlobAt.small {head : Nat} {text : Bytes} {rs : List Run} (h : BlobAt es head text rs) : text.length ≤ 49152 := by
  rcases h.top with ⟨_, e, e2⟩ | h
  · rw [e]; decide
  · exact h.hi
theorem BlobAt.runs {head : Nat} {text : Bytes} {rs : List Run} (h : BlobAt es head text rs) : RunsOk rs := by
  rcases h.top with ⟨_, e, e2⟩ | h
  · rw [e2]; intro r hr; cases hr
  · exact h.runs
theorem load_any (h : MemAt w mb most es K) {head : Nat} {text : Bytes} {rs : List Run} (hb : BlobAt es head text rs) : Calls Try.prog 23 #[.iface 26 (.pointer (some ⟨mb, 0, none⟩)), .int .i64 (head : Nat)] w fun e w' => LodP w mb most es K text.length rs e w' := by
  rcases hb.top with ⟨e, e1, e2⟩ | hh
  · rw [e, e1, e2]; exact load_zero h
  · exact lod_ok h head _ rs hh hb.le
end
end Go.Proofs.Ytmefbbmjamdnjaa
