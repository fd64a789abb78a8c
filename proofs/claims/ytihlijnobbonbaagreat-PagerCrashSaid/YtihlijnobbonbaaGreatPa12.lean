/- docketlaw04: size; step, on both sides. -/
import Derived.Test.YtihlijnobbonbaaGreatPa11
namespace Go.Proofs.YtihlijnobbonbaaGreat
open Go Go.RowKit
set_option linter.unusedSimpArgs false
set_option linter.unusedVariables false
set_option maxRecDepth 100000

theorem sizePop4 : (Tryz.prog.info? 36).map (·.size) = some 3 := by kernel_rfl
def szL (log : Nat) : Nat := 2 + log % 24
def szN (sectors : Nat) : Nat := 1 + sectors % 24
theorem size4_ok (sectors log : Nat) (hs : sectors ≤ 255) (hl : log ≤ 255) (w : World) : Calls Tryz.prog 33 #[.int .u8 sectors, .int .u8 log] w fun e w' => e = .returned (.tuple #[.int .i64 ((szL log + szN sectors : Nat) : Int), .int .i64 (szL log : Nat)]) ∧ Upd (fun _ => False) w w' := by
  have h1 : (sectors : Int) ≤ 255 := by omega
  have h2 : (log : Int) ≤ 255 := by omega
  obtain ⟨a, ha⟩ : ∃ a, log % 24 = a := ⟨_, rfl⟩
  obtain ⟨b, hb⟩ : ∃ b, sectors % 24 = b := ⟨_, rfl⟩
  have q1 : (log : Int) % 24 = (a : Int) := by omega
  have q2 : (log : Int).tmod 24 = (a : Int) := by rw [Int.tmod_eq_emod_of_nonneg (by omega)]; exact q1
  have q3 : (sectors : Int) % 24 = (b : Int) := by omega
  have q4 : (sectors : Int).tmod 24 = (b : Int) := by rw [Int.tmod_eq_emod_of_nonneg (by omega)]; exact q3
  have haI : (a : Int) ≤ 23 := by omega
  have hbI : (b : Int) ≤ 23 := by omega
  have e1 : ((szL log + szN sectors : Nat) : Int) = 2 + (a : Int) + 1 + (b : Int) := by unfold szL szN; omega
  have e2 : ((szL log : Nat) : Int) = 2 + (a : Int) := by unfold szL; omega
  rw [e1, e2]
  clear ha hb e1 e2
  go_enter Tryz.func33, Tryz.ntmps33
  go_wp2_with fail
  go_ret2
  exact ⟨rfl, Upd.refl _ _⟩
/-- What step leaves. -/
def StP (G : Nat → Prop) (w : World) (tb pb db xb rb skip N : Nat) (cs ct : List Img) (sy : Nat) (f : Int) (w' : World) : Prop := ∃ ds l, TT G w w' tb pb db xb rb skip N cs ct ds l sy f
section
variable {G : Nat → Prop} {w wr : World} {tb pb db xb rb skip N sy : Nat} {cs ct : List Img} {ds l : Img} {f : Int}
/-- Behind the pager's Write. -/
def WM (G : Nat → Prop) (w : World) (B : Nat) (tb pb db xb rb skip N : Nat) (cs ct : List Img) (ds l : Img) (sy : Nat) (f : Int) (o : POp) (r : Int) (w' : World) : Prop :=
  ∃ (K J : Nat → Prop) (ds' : Img), Txr w' tb pb db skip N cs ds' sy f K ∧ Rtx w' xb rb N (skip - 1) ct l J ∧ Sep G w w' K J ∧ SameI ds l ∧ SameC cs ct ∧ (∀ q, J q → q < B) ∧ N ≤ 4096 ∧
    ((r = 0 ∧ 0 ≤ o.b ∧ o.b < (N : Int) ∧ o.data.size ≤ 512 ∧ ds' = putP ds o.b (pad o.data.data.toList)) ∨ (r = 1 ∧ (o.b < 0 ∨ (N : Int) ≤ o.b ∨ 512 < o.data.size) ∧ ds' = ds))
theorem TT.write {X : World} (h : TT G w wr tb pb db xb rb skip N cs ct ds l sy f) (hX : Upd (fun _ => False) wr X) (o : POp) (ho : o.Ok) (xa : Option Addr) (xc : Nat) (hs : Sees X 1 (.slice xa o.data.size xc) o.data.size (bvs o.data.data.toList)) :
    Calls Tryz.prog 15 #[.pointer (some ⟨tb, 0, none⟩), .int .i64 o.b, .slice xa o.data.size xc] X fun e w' => ∃ r : Int, e = .returned (.int .i64 r) ∧ WM G w wr.heap.size tb pb db xb rb skip N cs ct ds l sy f o r w' ∧ Upd (fun q => q < wr.heap.size) X w' := by
  have hm := h.ok.2.2.2.2.2
  obtain ⟨K, J, h1, h2, h3, h4, h5⟩ := h
  have hsl : o.data.data.toList.length = o.data.size := by rw [Array.length_toList]; rfl
  have := qwrite_ok (h1.upd hX (fun _ _ h => h)) o.b ho.lo ho.hi xa xc o.data.data.toList (by rw [hsl]; exact hs)
  rw [hsl] at this
  refine this.mono ?_
  rintro e w' (⟨hb, rfl, hu⟩ | ⟨hb1, hb2, hb3, rfl, ht, hu⟩)
  · exact ⟨1, rfl, ⟨K, J, ds, (h1.upd hX (fun _ _ h => h)).upd hu (fun _ _ h => h), (h2.upd hX (fun _ _ h => h)).upd hu (fun _ _ h => h), (h3.quiet hX).quiet hu, h4, h5, h3.jl, by omega, .inr ⟨rfl, hb, rfl⟩⟩, hu.mono (fun _ _ h => h.elim)⟩
  · exact ⟨0, rfl, ⟨K, J, _, ht, (h2.upd hX (fun _ _ h => h)).upd hu h3.jk, (h3.quiet hX).left ⟨hu, fun q hq => .inl hq⟩ ht.lt, h4, h5, h3.jl, by omega, .inl ⟨rfl, hb1, hb2, hb3, rfl⟩⟩, hu.mono (fun q _ hq => h3.kl q hq)⟩
theorem WM.write {B : Nat} {o : POp} {r : Int} (h : WM G w B tb pb db xb rb skip N cs ct ds l sy f o r wr) (ho : o.Ok) :
    Calls Tryz.prog 19 #[.pointer (some ⟨xb, 0, none⟩), .int .i64 o.b, .string o.data] wr fun e w' => e = .returned (.int .i64 r) ∧ StP G w tb pb db xb rb skip N cs ct sy f w' ∧ Upd (fun q => q < B) wr w' := by
  obtain ⟨K, J, ds', h1, h2, h3, h4, h5, h6, h7, h8⟩ := h
  refine (rqwrite_ok h2 (by omega) o.b o.data ho.data).mono ?_
  rintro e w' ⟨r', rfl, ⟨hb, rfl, rfl⟩ | ⟨hb1, hb2, hb3, rfl, J', ht, hf⟩⟩
  · rcases h8 with ⟨rfl, a1, a2, a3, rfl⟩ | ⟨rfl, a1, rfl⟩
    · omega
    · exact ⟨rfl, ⟨_, _, K, J, h1, h2, h3, h4, h5⟩, Upd.refl _ _⟩
  · rcases h8 with ⟨rfl, a1, a2, a3, rfl⟩ | ⟨rfl, a1, rfl⟩
    · refine ⟨rfl, ⟨_, _, K, J', h1.upd hf.upd h3.kj, ht, h3.right hf ht.lt, fun j => ?_, h5⟩, hf.upd.mono (fun q _ hq => h6 q hq)⟩
      rw [lookB_putP, look_wrR, h4 j]
    · omega
set_option maxHeartbeats 4000000 in
theorem step_read (h : TT G w wr tb pb db xb rb skip N cs ct ds l sy f) (o : POp) (ho : o.Ok) (hcl : cs.length ≤ 5000000000000) (hk : o.kind % 6 ≠ 0) :
    Calls Tryz.prog 34 #[.pointer (some ⟨tb, 0, none⟩), .pointer (some ⟨xb, 0, none⟩), .agg #[.int .u8 o.kind, .int .i64 o.b, .string o.data]] wr fun e w' => e = .returned (.bool true) ∧ TT G w w' tb pb db xb rb skip N cs ct ds l sy f := by
  obtain ⟨kd, hkd⟩ : ∃ kd, o.kind = kd := ⟨_, rfl⟩
  obtain ⟨b, hb⟩ : ∃ b, o.b = b := ⟨_, rfl⟩
  obtain ⟨s, hs⟩ : ∃ s, o.data = s := ⟨_, rfl⟩
  have hblo := ho.lo
  have hbhi := ho.hi
  have hkb := ho.kind
  have hsd := ho.data
  rw [hkd] at hk hkb ⊢
  rw [hb] at hblo hbhi ⊢
  rw [hs] at hsd ⊢
  have hkI : (kd : Int) ≤ 255 := by omega
  have q0 : ((kd : Int) % 6 == 0) = false := by simp; omega
  have q1 : ((kd : Int).tmod 6 == 0) = false := by rw [Int.tmod_eq_emod_of_nonneg (by omega)]; exact q0
  have hok := h.ok
  have H := Lib.hid (And.intro h (And.intro hcl hok))
  clear h hcl hok hk hkb ho hkd hb hs
  go_enter Tryz.func34, Tryz.ntmps34
  go_wp2_with fail
  have ha : Upd (fun _ => False) wr (wr.alloc (.cells #[.int .u8 kd, .int .i64 b, .string s] 36)) := (Upd.refl _ wr).alloc _
  have hT := H.out.1.quiet ha
  have hc := CellsA.new wr 36 [.int .u8 kd, .int .i64 b, .string s]
  have HT := Lib.hid hT
  have HC := Lib.hid hc
  clear ha hT hc
  generalize wr.alloc (.cells #[.int .u8 kd, .int .i64 b, .string s] 36) = w1 at *
  generalize wr.heap.size = ob at *
  have c1 := HC.out.cell 1
  have c0 := HC.out.cell 0
  simp only [List.getElem?_cons_zero, List.getElem?_cons_succ] at c0 c1
  obtain ⟨K, J, g1, g2, g3, g4, g5⟩ := HT.out
  have hcc := g5.1
  have hrr := rqread_ok g2 (by have := H.out.2.2.2.2.2.2.2; omega) (by have := H.out.2.1; omega) b
  by_cases hbad : b < 0 ∨ (N : Int) ≤ b
  · have hrd := qread_bad g1 b hblo hbhi hbad
    rw [if_pos hbad] at hrr
    have hrr2 : ∀ w2, Upd (fun _ => False) w1 w2 → Calls Tryz.prog 58 #[.pointer (some ⟨xb, 0, none⟩), .int .i64 b] w2 fun e w' => e = .returned (.tuple #[.string ⟨#[]⟩, .int .i64 1]) ∧ Upd (fun _ => False) w2 w' := fun w2 hu2 => by
      have := rqread_ok (g2.upd hu2 (fun _ _ h => h)) (by have := H.out.2.2.2.2.2.2.2; omega) (by have := H.out.2.1; omega) b
      rw [if_pos hbad] at this
      exact this
    have Hrr := Lib.hid hrr2
    clear hrr hrr2 g1 g2 g3 g4 g5 hcc hbad
    refine hrd.mono ?_
    rintro e w2 ⟨rfl, hu2⟩
    dsimp only
    have hx2 : w2.cell? ⟨ob, 1, none⟩ = some (.int .i64 b) := hu2.cell_some c1 (fun h => h)
    have Hu2 := Lib.hid hu2
    clear hu2 hrd c0 c1
    go_wp2_with fail
    refine (Hrr.out w2 Hu2.out).mono ?_
    rintro e w3 ⟨rfl, hu3⟩
    dsimp only
    have HT3 : Hid (TT G w w3 tb pb db xb rb skip N cs ct ds l sy f) := (HT.out.quiet Hu2.out).quiet hu3
    have hcv0 : (convert 38 9 (.slice none 0 0)).run Tryz.prog w3 = .ok (.string ⟨#[]⟩) w3 := conv_mid (.slice none 0 0) [] w3 (Sees.zero _ _ _ _)
    clear hu3 Hrr Hu2 hx2 HT
    go_wp2_with fail
    go_ret
    exact ⟨rfl, HT3.out⟩
  · obtain ⟨bn, rfl⟩ : ∃ bn : Nat, b = (bn : Int) := ⟨b.toNat, by omega⟩
    have hbN : bn < N := by omega
    have hrd := qread_ok g1 bn hbN
    have hlen := g1.look_len (bn : Int)
    have hsame : (lookB l (bn : Int)).getD (atC ct (bn : Int)) = (lookB ds (bn : Int)).getD (atC cs (bn : Int)) := by rw [g4 (bn : Int), g5.at]
    rw [if_neg hbad, hsame] at hrr
    obtain ⟨y, hy⟩ : ∃ y, (lookB ds (bn : Int)).getD (atC cs (bn : Int)) = y := ⟨_, rfl⟩
    rw [hy] at hrd hlen hrr hsame
    have hrr2 : ∀ w2, Upd (fun _ => False) w1 w2 → Calls Tryz.prog 58 #[.pointer (some ⟨xb, 0, none⟩), .int .i64 (bn : Int)] w2 fun e w' => e = .returned (.tuple #[.string (strV y), .int .i64 0]) ∧ Upd (fun _ => False) w2 w' := fun w2 hu2 => by
      have := rqread_ok (g2.upd hu2 (fun _ _ h => h)) (by have := H.out.2.2.2.2.2.2.2; omega) (by have := H.out.2.1; omega) (bn : Int)
      rw [if_neg hbad, hsame] at this
      exact this
    have Hrr := Lib.hid hrr2
    have Hlen := Lib.hid hlen
    clear hrr hrr2 g1 g2 g3 g4 g5 hcc hbad hlen hsame hy
    refine hrd.mono ?_
    rintro e w2 ⟨xa, xc, rfl, hm, hnw, hu2⟩
    dsimp only
    have hx2 : w2.cell? ⟨ob, 1, none⟩ = some (.int .i64 (bn : Int)) := hu2.cell_some c1 (fun h => h)
    have Hu2 := Lib.hid (And.intro hu2 hm)
    clear hu2 hrd c0 c1 hm hnw
    go_wp2_with fail
    refine (Hrr.out w2 Hu2.out.1).mono ?_
    rintro e w3 ⟨rfl, hu3⟩
    dsimp only
    have HT3 : Hid (TT G w w3 tb pb db xb rb skip N cs ct ds l sy f) := (HT.out.quiet Hu2.out.1).quiet hu3
    have hcv := conv_mid (.slice xa 512 xc) y w3 (by rw [Hlen.out]; exact (Hu2.out.2.upd hu3 (fun _ _ h => h)).sees)
    obtain ⟨z, hz⟩ : ∃ z, strV y = z := ⟨_, rfl⟩
    rw [hz] at hcv ⊢
    clear hu3 Hrr Hu2 hx2 HT hz Hlen
    go_wp2_with fail
    go_ret
    exact ⟨rfl, HT3.out⟩
set_option maxHeartbeats 4000000 in
theorem step_write (h : TT G w wr tb pb db xb rb skip N cs ct ds l sy f) (o : POp) (ho : o.Ok) (hcl : cs.length ≤ 5000000000000) (hk : o.kind % 6 = 0) :
    Calls Tryz.prog 34 #[.pointer (some ⟨tb, 0, none⟩), .pointer (some ⟨xb, 0, none⟩), .agg #[.int .u8 o.kind, .int .i64 o.b, .string o.data]] wr fun e w' => e = .returned (.bool true) ∧ StP G w tb pb db xb rb skip N cs ct sy f w' := by
  obtain ⟨kd, hkd⟩ : ∃ kd, o.kind = kd := ⟨_, rfl⟩
  have hkb := ho.kind
  rw [hkd] at hk hkb ⊢
  have hkI : (kd : Int) ≤ 255 := by omega
  have q0 : (kd : Int) % 6 = 0 := by omega
  have q1 : (kd : Int).tmod 6 = 0 := by rw [Int.tmod_eq_emod_of_nonneg (by omega)]; exact q0
  have hok := h.ok
  have H := Lib.hid (And.intro h (And.intro hcl (And.intro ho hok)))
  clear h hcl hok hk hkb ho hkd
  go_enter Tryz.func34, Tryz.ntmps34
  go_wp2_with fail
  have ha : Upd (fun _ => False) wr (wr.alloc (.cells #[.int .u8 kd, .int .i64 o.b, .string o.data] 36)) := (Upd.refl _ wr).alloc _
  have hT := H.out.1.quiet ha
  have hc := CellsA.new wr 36 [.int .u8 kd, .int .i64 o.b, .string o.data]
  have hcl : CellsA (wr.alloc (.cells #[.int .u8 kd, .int .i64 o.b, .string o.data] 36)).drew wr.heap.size 36 [.int .u8 kd, .int .i64 o.b, .string o.data] := hc.upd (Upd.refl (fun _ => False) _).drew (fun h => h)
  have HS : (wr.alloc (.cells #[.int .u8 kd, .int .i64 o.b, .string o.data] 36)).drew.cell? ⟨wr.heap.size, 1, none⟩ = some (.int .i64 o.b) ∧ (wr.alloc (.cells #[.int .u8 kd, .int .i64 o.b, .string o.data] 36)).drew.cell? ⟨wr.heap.size, 2, none⟩ = some (.string o.data) := ⟨hcl.cell 1, hcl.cell 2⟩
  have Hu1 := Lib.hid ha.drew
  obtain ⟨ob, hob⟩ : ∃ ob, wr.heap.size = ob := ⟨_, rfl⟩
  have Hob := Lib.hid hob
  rw [hob] at HS
  clear ha hT hc hcl
  simp only [hob]
  generalize (wr.alloc (.cells #[.int .u8 kd, .int .i64 o.b, .string o.data] 36)) = w1 at *
  clear hob
  refine wp_region_planD (fun u => u.cell? ⟨ob, 1, none⟩ = some (.int .i64 o.b) ∧ u.cell? ⟨ob, 2, none⟩ = some (.string o.data)) 25 [(0, true), (1, true), (2, true), (3, true), (4, true), (7, true), (8, true), (9, true), (10, true), (11, true), (5, false), (6, false), (12, false), (13, true), (14, true), (15, true), (17, true), (18, true), (19, true), (20, true), (21, true), (16, false), (22, true), (23, true), (24, true)] (by kernel_rfl) (by kernel_rfl) (fun d _ _ _ _ h => by cases d <;> exact h) HS ?_
  iterate 10 (first | (apply planD_held rfl rfl rfl (by simp) HS; (intro w' hS K hK; go_simp; exact hK)) | (apply planD_wanted rfl rfl rfl (by simp) HS; (intro w' hS K hK; go_simp; exact hK)))
  refine planD_op rfl rfl (fun K hK => ?_)
  refine wp_string_bytes 5 o.data Tryz.underlying9 Tryz.underlying38 Tryz.underlying5 rfl H.out.2.2.1.data (fun c8 X hX hXs hXe => ?_)
  have HS8 : X.cell? ⟨ob, 1, none⟩ = some (.int .i64 o.b) ∧ X.cell? ⟨ob, 2, none⟩ = some (.string o.data) := ⟨hX.cell_some HS.1 (fun h => h), hX.cell_some HS.2 (fun h => h)⟩
  have Hw := Lib.hid (H.out.1.write (Hu1.out.trans hX) o H.out.2.2.1 _ c8 hXe)
  refine hK _ _ _ (fun u h => h) (fun _ => HS8) ?_
  clear hK hXe hXs hX HS
  try (simp only [Act.put, List.setIfInBounds_toArray, List.set_cons_zero, List.set_cons_succ])
  refine planD_op rfl rfl (fun K hK => ?_)
  go_simp
  refine Hw.out.mono ?_
  rintro e w7 ⟨r7, rfl, h7, hu7⟩
  dsimp only
  have HS7 : w7.cell? ⟨ob, 1, none⟩ = some (.int .i64 o.b) ∧ w7.cell? ⟨ob, 2, none⟩ = some (.string o.data) := ⟨hu7.cell_some HS8.1 (by have := Hob.out; show ¬ (ob < _); omega), hu7.cell_some HS8.2 (by have := Hob.out; show ¬ (ob < _); omega)⟩
  have Hv := Lib.hid (h7.write H.out.2.2.1)
  refine hK _ _ _ (fun u h => h) (fun _ => HS7) ?_
  clear hK h7 hu7 HS8 Hw
  try (simp only [Act.put, List.setIfInBounds_toArray, List.set_cons_zero, List.set_cons_succ])
  refine planD_op rfl rfl (fun K hK => ?_)
  go_simp
  refine Hv.out.mono ?_
  rintro e w9 ⟨rfl, h9, hu9⟩
  dsimp only
  have HS9 : w9.cell? ⟨ob, 1, none⟩ = some (.int .i64 o.b) ∧ w9.cell? ⟨ob, 2, none⟩ = some (.string o.data) := ⟨hu9.cell_some HS7.1 (by have := Hob.out; show ¬ (ob < _); omega), hu9.cell_some HS7.2 (by have := Hob.out; show ¬ (ob < _); omega)⟩
  obtain ⟨ds9, l9, h9⟩ := h9
  obtain ⟨_, _, y9, d9, hy9⟩ := h9.cells
  have hnb : ds9.length ≤ 4096 := by have := h9.ok.1.le; have := h9.ok.2.2.2.2.2; omega
  have hdt := h9.dirty
  obtain ⟨dn, hdn⟩ : ∃ dn, ds9.length = dn := ⟨_, rfl⟩
  rw [hdn] at hy9 hnb hdt
  have hdnI : (dn : Int) ≤ 4096 := by omega
  have Hd9 := Lib.hid (And.intro hdt h9)
  clear hdt h9 hdn hnb
  have HS10 : (w9.cell? ⟨ob, 1, none⟩ = some (.int .i64 o.b) ∧ w9.cell? ⟨ob, 2, none⟩ = some (.string o.data)) ∧ w9.cell? ⟨xb, 1, none⟩ = some (.slice y9 dn d9) := ⟨HS9, hy9⟩
  refine hK (fun u => (u.cell? ⟨ob, 1, none⟩ = some (.int .i64 o.b) ∧ u.cell? ⟨ob, 2, none⟩ = some (.string o.data)) ∧ u.cell? ⟨xb, 1, none⟩ = some (.slice y9 dn d9)) _ _ (fun u h => h.1) (fun _ => HS10) ?_
  clear hK hu9 HS7 Hv HS9 hy9
  try (simp only [Act.put, List.setIfInBounds_toArray, List.set_cons_zero, List.set_cons_succ])
  iterate 8 (first | (apply planD_held rfl rfl rfl (by simp) HS10; (intro w' hS K hK; go_simp; exact hK)) | (apply planD_wanted rfl rfl rfl (by simp) HS10; (intro w' hS K hK; go_simp; exact hK)))
  refine planD_op rfl rfl (fun K hK => ?_)
  go_simp
  refine Hd9.out.1.mono ?_
  rintro e w10 ⟨rfl, rfl⟩
  dsimp only
  refine hK _ _ _ (fun u h => h) (fun _ => HS10) ?_
  clear hK
  try (simp only [Act.put, List.setIfInBounds_toArray, List.set_cons_zero, List.set_cons_succ])
  iterate 3 (first | (apply planD_held rfl rfl rfl (by simp) HS10; (intro w' hS K hK; go_simp; exact hK)) | (apply planD_wanted rfl rfl rfl (by simp) HS10; (intro w' hS K hK; go_simp; exact hK)))
  refine planD_nil ?_
  clear HS10
  go_wp2_with fail
  go_ret
  exact ⟨rfl, ds9, l9, Hd9.out.2⟩
theorem step4_ok (h : TT G w wr tb pb db xb rb skip N cs ct ds l sy f) (o : POp) (ho : o.Ok) (hcl : cs.length ≤ 5000000000000) :
    Calls Tryz.prog 34 #[.pointer (some ⟨tb, 0, none⟩), .pointer (some ⟨xb, 0, none⟩), .agg #[.int .u8 o.kind, .int .i64 o.b, .string o.data]] wr fun e w' => e = .returned (.bool true) ∧ StP G w tb pb db xb rb skip N cs ct sy f w' := by
  by_cases hk : o.kind % 6 = 0
  · exact step_write h o ho hcl hk
  · refine (step_read h o ho hcl hk).mono ?_
    rintro e w' ⟨rfl, h⟩
    exact ⟨rfl, _, _, h⟩
end
end Go.Proofs.YtihlijnobbonbaaGreat
