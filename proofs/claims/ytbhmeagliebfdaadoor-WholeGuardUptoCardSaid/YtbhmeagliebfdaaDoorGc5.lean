/- cond: Parse. -/
import Derived.Test.YtbhmeagliebfdaaDoorGc4
namespace Go.Proofs.YtbhmeagliebfdaaDoor
open Go Go.RowKit
set_option linter.unusedSimpArgs false
set_option linter.unusedVariables false
set_option maxRecDepth 100000
/-- A group as it lies. -/
structure GrR where
  g : Grp
  x : Option Addr
  n : Nat
  c : Nat
def grV (r : GrR) : List Value := [.bool r.g.tagged, .string (bs r.g.tag), .slice r.x r.n r.c]
theorem grV_length (r : GrR) : (grV r).length = 3 := rfl
def GrOk (w : World) (r : GrR) : Prop := Sees w 3 (.slice r.x r.n r.c) r.n (r.g.conds.flatMap cndV)
/-- Groups in a slice. -/
def GroupsAt (w : World) (x : Option Addr) (n c : Nat) (rs : List GrR) : Prop := Sees w 3 (.slice x n c) n (rs.flatMap grV) ∧ ∀ r ∈ rs, GrOk w r
theorem sizeGr : (Tryd.prog.info? 42).map (·.size) = some 3 := by kernel_rfl
theorem infoGr : (Tryd.prog.info? 42).map (fun i => (i.zero, i.size, i.bytes)) = some (some (.agg #[.bool false, .string .empty, .slice none 0 0]), 3, 48) := by kernel_rfl
theorem sees_own {w : World} {k n c : Nat} {x : Option Addr} {xs : List Value} (h : Sees w k (.slice x n c) n xs) (hk : 0 < k) (hn : 0 < n) : ∃ q, (Value.slice x n c).ownBlock = some q ∧ q < w.heap.size := by
  obtain ⟨hl, _, y, d, e, hc⟩ := h
  cases e
  obtain ⟨g, o, rfl, hr⟩ := hc hn
  refine ⟨g, rfl, ?_⟩
  have h0 : 0 < xs.length := by rw [hl]; exact Nat.mul_pos hn hk
  exact World.block_lt_of_cell? w ⟨g, o + 0, none⟩ (hr 0 _ (List.getElem?_eq_getElem h0))
/-- What Parse answers. -/
def ParR (w : World) (h : By) (en : Ending) (w' : World) : Prop :=
  ∃ (x : Option Addr) (n c : Nat) (rs : List GrR) (e : Int), en = .returned (.tuple #[.slice x n c, .int .i64 e]) ∧ Upd (fun _ => False) w w' ∧ ((e = 0 ∧ condP h = some (rs.map (·.g)) ∧ GroupsAt w' x n c rs) ∨ (e = 50 ∧ condP h = none))
/-- In the middle of Parse. -/
def PrmR (w : World) (h : By) (x : Option Addr) (n c : Nat) (tag : By) (tagged fresh : Bool) (wr : World) : Prop :=
  ∃ (f : Nat) (s' : By) (rs : List GrR), s'.length < f ∧ s'.length + n ≤ h.length ∧ condP h = parseP f s' (rs.map (·.g)) tag tagged fresh ∧ RdAt wr w.heap.size s' ∧ Mid wr 3 (.slice x n c) n (rs.flatMap grV) ∧ Whole wr 3 (.slice x n c) ∧
    (∀ q, (Value.slice x n c).ownBlock = some q → w.heap.size < q) ∧ Upd (fun _ => False) w wr ∧ rs.length = n ∧ (∀ r ∈ rs, GrOk wr r ∧ ∀ q, (Value.slice r.x r.n r.c).ownBlock = some q → 0 < r.n → q ≠ w.heap.size ∧ (Value.slice x n c).ownBlock ≠ some q)
theorem eat_lt {w s : By} (h : (eatP w s).1 = true) : (eatP w s).2.length + w.length ≤ s.length := by
  have h1 := whiteP_le s
  unfold eatP at h ⊢
  simp only [Lib.trimPrefix] at h ⊢
  rw [if_pos h, List.length_drop]
  have h2 := (List.isPrefixOf_iff_prefix.1 h).length_le
  omega
theorem list_lt : ∀ (f : Nat) (s : By) (out cs : List Cnd) (r : By), listP f s out = some (cs, r) → r.length < s.length
  | 0, _, _, _, _, h => by cases h
  | f + 1, s, out, cs, r, h => by
    rw [listP] at h
    split at h
    · rename_i he
      have := eat_lt he
      split at h
      · cases h
      · cases h
        simp only [List.length_cons, List.length_nil] at this
        omega
    · have h1 := eatP_le [41] s
      split at h
      · cases h
      · rename_i c r' hc
        have h2 := condi_lt hc
        have h3 := list_lt f _ _ _ _ h
        omega
theorem grs_upd {w w' : World} {rb : Nat} {rs : List GrR} {P : Nat → Prop} (hu : Upd (fun q => q = rb) w w') (k : ∀ r ∈ rs, GrOk w r ∧ ∀ q, (Value.slice r.x r.n r.c).ownBlock = some q → 0 < r.n → q ≠ rb ∧ P q) :
    ∀ r ∈ rs, GrOk w' r ∧ ∀ q, (Value.slice r.x r.n r.c).ownBlock = some q → 0 < r.n → q ≠ rb ∧ P q :=
  fun r hr => ⟨Sees.upd hu (k r hr).1 (fun q hq h0 e => ((k r hr).2 q hq h0).1 e), (k r hr).2⟩
set_option maxHeartbeats 4000000 in
theorem parse_cond {w : World} (h : By) (hs : h.length ≤ 1000000000) (hG : Glob w) (hw : 3 ≤ w.heap.size) :
    Calls Tryd.prog 8 #[.string (bs h)] w fun en w' => ParR w h en w' := by
  have hal : Upd (fun _ => False) w (w.alloc (.cells #[.string (bs h)] 62)) := (Upd.refl (fun _ => False) w).alloc _
  have hrd : RdAt (w.alloc (.cells #[.string (bs h)] 62)) w.heap.size h := CellsA.new w 62 [.string (bs h)]
  have hwh := rwhite_ok hrd
  have H := Lib.hid (And.intro hwh (And.intro hG (And.intro hw hal)))
  clear hwh hG hw hal hrd
  go_enter Tryd.func8, Tryd.ntmps8
  go_wp2_with fail
  refine H.out.1.mono ?_
  rintro en w1 ⟨rfl, h1, hu1⟩
  dsimp only
  have hu01 : Upd (fun _ => False) w w1 := H.out.2.2.2.then hu1 (fun i hi => .inr (by omega))
  have HR0 : Hid (PrmR w h none 0 0 [] false false w1) := Lib.hid ⟨h.length + 1, whiteP h, [], by have := whiteP_le h; omega, by have := whiteP_le h; omega, rfl, h1, Mid.nil _ _, Whole.nil _ _, (fun q hq => by cases hq), hu01, rfl, by simp⟩
  have HG := Lib.hid (And.intro H.out.2.1 H.out.2.2.1)
  clear H h1 hu1 hu01
  go_wp2_with fail
  go_loopw [5, 6, 7, 8] (fun ov tv gv fv wr => ∃ (x : Option Addr) (n c : Nat) (tag : By) (tagged fresh : Bool), ov = .slice x n c ∧ tv = .string (bs tag) ∧ gv = .bool tagged ∧ fv = .bool fresh ∧ Hid (PrmR w h x n c tag tagged fresh wr)) (fun _ _ _ _ wr => rdLen wr w.heap.size)
  case atStart => exact ⟨none, 0, 0, [], false, false, rfl, rfl, rfl, rfl, HR0⟩
  case round =>
    obtain ⟨x, n, c, tag, tagged, fresh, rfl, rfl, rfl, rfl, HR⟩ := hrel
    clear HR0
    obtain ⟨f, s', rs, k1, k2, k3, k4, k5, k6, k7, k8, k9, k10⟩ := HR.out
    obtain ⟨g, rfl⟩ : ∃ g, f = g + 1 := ⟨f - 1, by omega⟩
    have hnI : (n : Int) ≤ 1000000000 := by omega
    have hrl := k4.len
    have c0 := CellsA.cell k4 0
    simp only [List.getElem?_cons_zero] at c0
    have hse : (bs s').toList.isEmpty = s'.isEmpty := by rw [bs_toList]
    have hea := eat_ok k4 [40]
    obtain ⟨S, hS⟩ : ∃ S, bs s' = S := ⟨_, rfl⟩
    rw [hS] at c0 hse
    by_cases he : s' = []
    · subst he
      simp only [List.isEmpty_nil] at hse
      have hres : condP h = if (rs.map (·.g)) = [] ∨ fresh = true then none else some (rs.map (·.g)) := by rw [k3, parseP]; rfl
      have HF := Lib.hid (And.intro hres (And.intro k8 (And.intro k5.sees (And.intro k10 k9))))
      clear hres k1 k2 k3 k4 k5 k6 k7 k8 k9 k10 hrl hea HR hS
      by_cases hn0 : n = 0
      · have hnz : ((n : Int) == 0) = true := by rw [beq_iff_eq]; omega
        go_wp2_with fail
        go_ret2
        refine ⟨none, 0, 0, [], 50, rfl, HF.out.2.1, .inr ⟨rfl, ?_⟩⟩
        have hnil : rs.map (·.g) = [] := by
          rw [List.map_eq_nil_iff]
          exact List.eq_nil_of_length_eq_zero (by rw [HF.out.2.2.2.2, hn0])
        rw [HF.out.1, if_pos (.inl hnil)]
      · have hnz : ((n : Int) == 0) = false := by rw [beq_eq_false_iff_ne]; omega
        have hrn : (rs.map (·.g)) ≠ [] := fun e => hn0 (by rw [List.map_eq_nil_iff] at e; have := HF.out.2.2.2.2; rw [e] at this; simpa using this.symm)
        cases fresh
        · have hres : Hid (condP h = some (rs.map (·.g))) := Lib.hid (by rw [HF.out.1, if_neg (by rintro (h | h); exact hrn h; cases h)])
          clear hrn hn0
          go_wp2_with fail
          go_ret2
          exact ⟨x, n, c, rs, 0, rfl, HF.out.2.1, .inl ⟨rfl, hres.out, HF.out.2.2.1, fun r hr => (HF.out.2.2.2.1 r hr).1⟩⟩
        · have hres : Hid (condP h = none) := Lib.hid (by rw [HF.out.1, if_pos (.inr rfl)])
          clear hrn hn0
          go_wp2_with fail
          go_ret2
          exact ⟨none, 0, 0, [], 50, rfl, HF.out.2.1, .inr ⟨rfl, hres.out⟩⟩
    · have hse' : S.toList.isEmpty = false := by rw [hse]; cases s' with | nil => exact absurd rfl he | cons => rfl
      clear hse
      have hle := eatP_le [40] s'
      have hk3 : condP h = if (eatP [40] s').1 = true then
          match listP ((eatP [40] s').2.length + 1) (eatP [40] s').2 [] with
          | none => none
          | some (cs, r) => parseP g (whiteP r) (rs.map (·.g) ++ [⟨tagged, tag, cs⟩]) tag tagged false
        else if (eatP [60] (eatP [40] s').2).1 = true ∧ fresh = false ∧ (tagged = true ∨ rs.map (·.g) = []) then
          match betweenP 62 [60] 33 (eatP [60] (eatP [40] s').2).2 with
          | none => none
          | some (t, r) => parseP g (whiteP r) (rs.map (·.g)) t true true
        else none := by rw [k3, parseP, if_neg he]; rfl
      obtain ⟨a, ha⟩ : ∃ a, (eatP [40] s').1 = a := ⟨_, rfl⟩
      obtain ⟨s1, hs1⟩ : ∃ s1, (eatP [40] s').2 = s1 := ⟨_, rfl⟩
      rw [ha, hs1] at hea hk3
      rw [hs1] at hle
      have HA := Lib.hid (And.intro hea (And.intro hk3 (And.intro hle (And.intro k1 (And.intro k2 (And.intro k5 (And.intro k6 (And.intro k7 (And.intro k8 (And.intro k9 (And.intro k10 hrl)))))))))))
      clear hea hk3 hle k1 k2 k3 k4 k5 k6 k7 k8 k9 k10 ha hs1 hrl HR hS he
      cases a
      · go_wp2_with fail
        refine HA.out.1.mono ?_
        rintro en w3 ⟨rfl, h3, hu3⟩
        dsimp only
        obtain ⟨-, hk3, hle, hrest⟩ := HA.out
        simp only [Bool.false_eq_true, if_false] at hk3
        have hu03 : Upd (fun _ => False) w w3 := hrest.2.2.2.2.2.1.then hu3 (fun i hi => .inr (by omega))
        have he2 := eat_ok h3 [60]
        have hle2 := eatP_le [60] s1
        obtain ⟨a2, ha2⟩ : ∃ a, (eatP [60] s1).1 = a := ⟨_, rfl⟩
        obtain ⟨s2, hs2⟩ : ∃ s, (eatP [60] s1).2 = s := ⟨_, rfl⟩
        rw [ha2, hs2] at he2 hk3
        rw [hs2] at hle2
        have hnil : (rs.map (·.g)) = [] ↔ n = 0 := by
          rw [List.map_eq_nil_iff, ← List.length_eq_zero_iff, hrest.2.2.2.2.2.2.1]
        simp only [hnil] at hk3
        have hnI : (n : Int) ≤ 1000000000 := by have := hrest.2.1; omega
        have HB := Lib.hid (And.intro he2 (And.intro hk3 (And.intro hu03 (And.intro (HG.out.1.upd hu03) (And.intro hle2 (And.intro hu3 (And.intro hle hrest)))))))
        clear he2 hk3 hu03 hle2 hu3 hle hrest h3 ha2 hs2 HA hnil
        cases a2
        · have hres : Hid (condP h = none) := Lib.hid (by rw [HB.out.2.1, if_neg (by simp)])
          go_wp2_with fail
          refine HB.out.1.mono ?_
          rintro en w4 ⟨rfl, h4, hu4⟩
          dsimp only
          have HU : Hid (Upd (fun _ => False) w w4) := Lib.hid (HB.out.2.2.1.then hu4 (fun i hi => .inr (by omega)))
          clear h4 hu4 HB
          go_wp2_with fail
          go_ret2
          exact ⟨none, 0, 0, [], 50, rfl, HU.out, .inr ⟨rfl, hres.out⟩⟩
        cases fresh
        rotate_left
        · have hres : Hid (condP h = none) := Lib.hid (by rw [HB.out.2.1, if_neg (by simp)])
          go_wp2_with fail
          refine HB.out.1.mono ?_
          rintro en w4 ⟨rfl, h4, hu4⟩
          dsimp only
          have HU : Hid (Upd (fun _ => False) w w4) := Lib.hid (HB.out.2.2.1.then hu4 (fun i hi => .inr (by omega)))
          clear h4 hu4 HB
          go_wp2_with fail
          go_ret2
          exact ⟨none, 0, 0, [], 50, rfl, HU.out, .inr ⟨rfl, hres.out⟩⟩
        cases tagged
        · by_cases hn0 : n = 0
          · have hnz : ((n : Int) == 0) = true := by rw [beq_iff_eq]; omega
            have HK : Hid (condP h = match betweenP 62 [60] 33 s2 with
              | none => none
              | some (t, r) => parseP g (whiteP r) (rs.map (·.g)) t true true) := Lib.hid (by rw [HB.out.2.1, if_pos ⟨rfl, rfl, .inr hn0⟩])
            clear hn0
            go_wp2_with fail
            refine HB.out.1.mono ?_
            rintro en w4 ⟨rfl, h4, hu4⟩
            dsimp only
            obtain ⟨-, hk4, hu03, hG3, hle2, hu3, hle, hrest⟩ := HB.out
            have hu04 : Upd (fun _ => False) w w4 := hu03.then hu4 (fun i hi => .inr (by omega))
            have hlt : s2.length ≤ 1000000000 := by have := hrest.2.1; omega
            have HC := Lib.hid (And.intro h4 (And.intro hu04 (And.intro hlt (And.intro (HG.out.1.upd hu04) (And.intro HK.out (And.intro hu4 (And.intro hle2 (And.intro hu3 (And.intro hle hrest)))))))))
            clear h4 hu4 hk4 hu03 hG3 hle2 hu3 hle hrest hu04 hlt HB HK
            go_wp2_with fail
            refine (between_ok HC.out.1 HC.out.2.2.1 HC.out.2.2.2.1 HG.out.2 62 [60] 33 (by decide) cany_lt).mono ?_
            rintro en w5 ⟨t, r, ok, rfl, h5, hu5, hcs⟩
            dsimp only
            have hu05 := HC.out.2.1.then hu5 (fun i hi => .inr (by omega))
            rcases hcs with ⟨rfl, hb⟩ | ⟨rfl, hb⟩
            · have hk : condP h = parseP g (whiteP r) (rs.map (·.g)) t true true := by rw [HC.out.2.2.2.2.1, hb]
              have hrt := between_lt hb
              have HD := Lib.hid (And.intro (rwhite_ok h5) (And.intro hk (And.intro hrt (And.intro hu5 HC.out))))
              clear h5 hu5 hb hu05 hk hrt HC
              go_wp2_with fail
              refine HD.out.1.mono ?_
              rintro en w6 ⟨rfl, h6, hu6⟩
              dsimp only
              obtain ⟨-, hk, hrt, hu5, h4, hu04, hl2, hG4, hk4, hu34, hle2, hu3, hle, k1, k2, k5, k6, k7, k8, k9, k10, hrl⟩ := HD.out
              have hu6' := ((hu3.trans hu34).trans hu5).trans hu6
              have hno : ∀ q, (Value.slice x n c).ownBlock = some q → ¬ q = w.heap.size := fun q hq e => by have := k7 q hq; omega
              have hwl := whiteP_le r
              have HJ : Hid (PrmR w h x n c t true true w6 ∧ rdLen w6 w.heap.size < rdLen wr w.heap.size) := Lib.hid ⟨⟨g, whiteP r, rs, by omega, by omega, hk, h6, k5.upd hu6' hno, k6.upd hu6' hno k5.lt, k7, k8.then hu6' (fun i hi => .inr (by omega)), k9, grs_upd hu6' k10⟩, by rw [h6.len, hrl]; omega⟩
              clear hk hrt hu5 h4 hu04 hl2 hG4 hk4 hu34 hle2 hu3 hle k1 k2 k5 k6 k7 k8 k9 k10 hrl hu6' hno hwl h6 hu6 HD
              go_wp2_with fail
              exact ⟨⟨x, n, c, t, true, true, rfl, rfl, rfl, rfl, Lib.hid HJ.out.1⟩, HJ.out.2⟩
            · have hk : Hid (condP h = none) := Lib.hid (by rw [HC.out.2.2.2.2.1, hb])
              have HU := Lib.hid hu05
              clear hb h5 hu5 hu05 HC
              go_wp2_with fail
              go_ret2
              exact ⟨none, 0, 0, [], 50, rfl, HU.out, .inr ⟨rfl, hk.out⟩⟩
          · have hnz : ((n : Int) == 0) = false := by rw [beq_eq_false_iff_ne]; omega
            have hres : Hid (condP h = none) := Lib.hid (by rw [HB.out.2.1, if_neg (by rintro ⟨_, _, e | e⟩; cases e; exact hn0 e)])
            go_wp2_with fail
            refine HB.out.1.mono ?_
            rintro en w4 ⟨rfl, h4, hu4⟩
            dsimp only
            have HU : Hid (Upd (fun _ => False) w w4) := Lib.hid (HB.out.2.2.1.then hu4 (fun i hi => .inr (by omega)))
            clear h4 hu4 HB
            go_wp2_with fail
            go_ret2
            exact ⟨none, 0, 0, [], 50, rfl, HU.out, .inr ⟨rfl, hres.out⟩⟩
        · have HK : Hid (condP h = match betweenP 62 [60] 33 s2 with
              | none => none
              | some (t, r) => parseP g (whiteP r) (rs.map (·.g)) t true true) := Lib.hid (by rw [HB.out.2.1, if_pos ⟨rfl, rfl, .inl rfl⟩])
          · go_wp2_with fail
            refine HB.out.1.mono ?_
            rintro en w4 ⟨rfl, h4, hu4⟩
            dsimp only
            obtain ⟨-, hk4, hu03, hG3, hle2, hu3, hle, hrest⟩ := HB.out
            have hu04 : Upd (fun _ => False) w w4 := hu03.then hu4 (fun i hi => .inr (by omega))
            have hlt : s2.length ≤ 1000000000 := by have := hrest.2.1; omega
            have HC := Lib.hid (And.intro h4 (And.intro hu04 (And.intro hlt (And.intro (HG.out.1.upd hu04) (And.intro HK.out (And.intro hu4 (And.intro hle2 (And.intro hu3 (And.intro hle hrest)))))))))
            clear h4 hu4 hk4 hu03 hG3 hle2 hu3 hle hrest hu04 hlt HB HK
            go_wp2_with fail
            refine (between_ok HC.out.1 HC.out.2.2.1 HC.out.2.2.2.1 HG.out.2 62 [60] 33 (by decide) cany_lt).mono ?_
            rintro en w5 ⟨t, r, ok, rfl, h5, hu5, hcs⟩
            dsimp only
            have hu05 := HC.out.2.1.then hu5 (fun i hi => .inr (by omega))
            rcases hcs with ⟨rfl, hb⟩ | ⟨rfl, hb⟩
            · have hk : condP h = parseP g (whiteP r) (rs.map (·.g)) t true true := by rw [HC.out.2.2.2.2.1, hb]
              have hrt := between_lt hb
              have HD := Lib.hid (And.intro (rwhite_ok h5) (And.intro hk (And.intro hrt (And.intro hu5 HC.out))))
              clear h5 hu5 hb hu05 hk hrt HC
              go_wp2_with fail
              refine HD.out.1.mono ?_
              rintro en w6 ⟨rfl, h6, hu6⟩
              dsimp only
              obtain ⟨-, hk, hrt, hu5, h4, hu04, hl2, hG4, hk4, hu34, hle2, hu3, hle, k1, k2, k5, k6, k7, k8, k9, k10, hrl⟩ := HD.out
              have hu6' := ((hu3.trans hu34).trans hu5).trans hu6
              have hno : ∀ q, (Value.slice x n c).ownBlock = some q → ¬ q = w.heap.size := fun q hq e => by have := k7 q hq; omega
              have hwl := whiteP_le r
              have HJ : Hid (PrmR w h x n c t true true w6 ∧ rdLen w6 w.heap.size < rdLen wr w.heap.size) := Lib.hid ⟨⟨g, whiteP r, rs, by omega, by omega, hk, h6, k5.upd hu6' hno, k6.upd hu6' hno k5.lt, k7, k8.then hu6' (fun i hi => .inr (by omega)), k9, grs_upd hu6' k10⟩, by rw [h6.len, hrl]; omega⟩
              clear hk hrt hu5 h4 hu04 hl2 hG4 hk4 hu34 hle2 hu3 hle k1 k2 k5 k6 k7 k8 k9 k10 hrl hu6' hno hwl h6 hu6 HD
              go_wp2_with fail
              exact ⟨⟨x, n, c, t, true, true, rfl, rfl, rfl, rfl, Lib.hid HJ.out.1⟩, HJ.out.2⟩
            · have hk : Hid (condP h = none) := Lib.hid (by rw [HC.out.2.2.2.2.1, hb])
              have HU := Lib.hid hu05
              clear hb h5 hu5 hu05 HC
              go_wp2_with fail
              go_ret2
              exact ⟨none, 0, 0, [], 50, rfl, HU.out, .inr ⟨rfl, hk.out⟩⟩
      · go_wp2_with fail
        refine HA.out.1.mono ?_
        rintro en w3 ⟨rfl, h3, hu3⟩
        dsimp only
        obtain ⟨-, hk3, hle, k1, k2, k5, k6, k7, k8, k9, k10, hrl⟩ := HA.out
        have hu03 : Upd (fun _ => False) w w3 := k8.then hu3 (fun i hi => .inr (by omega))
        simp only [if_true] at hk3
        have hal : Upd (fun _ => False) w3 (w3.alloc (.cells #[.bool tagged, .string (bs tag), .slice none 0 0] 42)) := (Upd.refl (fun _ => False) w3).alloc _
        have hcs := CellsA.new w3 42 [.bool tagged, .string (bs tag), .slice none 0 0]
        have hli := list_ok (RdAt.upd h3 hal (fun h => h)) (by omega) ((HG.out.1.upd hu03).upd hal) HG.out.2
        have HB := Lib.hid (And.intro hli (And.intro hu3 (And.intro hu03 (And.intro hal (And.intro hcs (And.intro hk3 (And.intro (And.intro h3.lt hu3.size) HA.out.2.2)))))))
        clear h3 hu3 hu03 hk3 hal hcs hli HA hle k1 k2 k5 k6 k7 k8 k9 k10 hrl
        go_wp2_with ((with_reducible apply wpl_store_new); exact rfl; exact rfl; exact sizeGr; exact rfl; exact rfl; try (simp only [Act.put, List.setIfInBounds_toArray, List.set_cons_zero, List.set_cons_succ]))
        refine HB.out.1.mono ?_
        rintro en w4 ⟨x1, n1, c1, cs, r, ok, rfl, hse4, h4, hu4, hx1, hcase⟩
        dsimp only
        obtain ⟨-, hu3, hu03, hal, hcs, hk3, hlt3, hle, k1, k2, k5, k6, k7, k8, k9, k10, hrl⟩ := HB.out
        have hcs4 := hcs.upd hu4 (fun e => by omega)
        have cg := hcs4.cell 2
        have fg := hcs4.frozen 2
        simp only [List.getElem?_cons_succ, List.getElem?_cons_zero] at cg
        have hcs5 : CellsA (w4.setCell ⟨w3.heap.size, 2, none⟩ (.slice x1 n1 c1)) w3.heap.size 42 [.bool tagged, .string (bs tag), .slice x1 n1 c1] := hcs4.set 2 _
        have hrg := hcs5.range
        have hsz3 := hu3.size
        have hlo := k5.lt
        have hu4' : Upd (fun q => q = w.heap.size) wr w4 := (hu3.then hal (fun _ h => h.elim)).then hu4 (fun i hi => .inl hi)
        have hu5 : Upd (fun q => q = w.heap.size) wr (w4.setCell ⟨w3.heap.size, 2, none⟩ (.slice x1 n1 c1)) := hu4'.setCell _ (.inr hsz3)
        have hno : ∀ q, (Value.slice x n c).ownBlock = some q → ¬ q = w.heap.size := fun q hq e => by have := k7 q hq; omega
        have hsz4 : w3.heap.size + 1 ≤ w4.heap.size := by have := hu4.size; simpa using this
        have hsee5 : Sees (w4.setCell ⟨w3.heap.size, 2, none⟩ (.slice x1 n1 c1)) 3 (.slice x1 n1 c1) n1 (cs.flatMap cndV) := Sees.upd (F := fun q => q = w3.heap.size) ((Upd.refl _ w4).setCell (p := ⟨w3.heap.size, 2, none⟩) _ (.inl rfl)) hse4 (fun q hq _ e => by have := hx1 q hq; simp at this; omega)
        have hrd5 : RdAt (w4.setCell ⟨w3.heap.size, 2, none⟩ (.slice x1 n1 c1)) w.heap.size r := RdAt.upd (F := fun q => q = w3.heap.size) h4 ((Upd.refl _ w4).setCell (p := ⟨w3.heap.size, 2, none⟩) _ (.inl rfl)) (fun e => by omega)
        have hs5 : (w4.setCell ⟨w3.heap.size, 2, none⟩ (.slice x1 n1 c1)).heap.size = w4.heap.size := by simp
        have HC := Lib.hid (And.intro hsee5 (And.intro hrd5 (And.intro hu5 (And.intro hcase (And.intro hk3 (And.intro hlt3 (And.intro hsz4 (And.intro hx1 (And.intro hno (And.intro hs5 HB.out.2.2.2.2.2.2.2))))))))))
        clear hse4 h4 hu4 hx1 hcase hu3 hu03 hal hcs hk3 hlt3 hle k1 k2 k5 k6 k7 k8 k9 k10 hrl hcs4 hcs5 hsz3 hlo hu4' hu5 hno hsz4 hsee5 hrd5 HB hs5
        go_wp2_with (first | ((with_reducible apply wpl_load_mid w3.heap.size 0 [.bool tagged, .string (bs tag), .slice x1 n1 c1]); exact rfl; exact hrg; exact Tryd.underlying42; exact rfl; exact sizeGr; try (simp only [Act.put, List.setIfInBounds_toArray, List.set_cons_zero, List.set_cons_succ])) | (at_builtin; refine wpl_append_whole 42 3 48 (.agg #[.bool false, .string .empty, .slice none 0 0]) (.slice x n c) n (rs.flatMap grV) 1 [.bool tagged, .string (bs tag), .slice x1 n1 c1] ?c1 ?c2 ?c3 ?c4 ?c5 ?c6 ?c7 ?c8 ?c9 ?c10 ?_))
        case c1 => exact Tryd.underlying33
        case c2 => exact infoGr
        case c3 => rfl
        try case c4 => rfl
        case c5 => exact HC.out.2.2.2.2.2.2.2.2.2.2.2.2.2.1.upd (HC.out.2.2.1.alloc _) HC.out.2.2.2.2.2.2.2.2.1
        case c6 => exact HC.out.2.2.2.2.2.2.2.2.2.2.2.2.2.2.1.upd (HC.out.2.2.1.alloc _) HC.out.2.2.2.2.2.2.2.2.1 HC.out.2.2.2.2.2.2.2.2.2.2.2.2.2.1.lt
        case c7 =>
          have hn := (CellsA.new (w4.setCell ⟨w3.heap.size, 2, none⟩ (.slice x1 n1 c1)) 42 [.bool tagged, .string (bs tag), .slice x1 n1 c1]).range
          rw [HC.out.2.2.2.2.2.2.2.2.2.1] at hn
          exact Sees.at rfl (by decide) hn
        case c8 =>
          intro u hu
          simp only [List.mem_cons, List.not_mem_nil, or_false] at hu
          rcases hu with rfl | rfl | rfl <;> rfl
        case c9 => unfold maxLen; omega
        case c10 => omega
        intro x' c' w7 hm7 hu7 hb7 hW7
        try (simp only [Act.put, List.setIfInBounds_toArray, List.set_cons_zero, List.set_cons_succ])
        obtain ⟨hsee5, hrd5, hu5, hcase, hk3, hlt3, hsz4, hx1, hno, hs5, hle, k1, k2, k5, k6, k7, k8, k9, k10, hrl⟩ := HC.out
        have hrd7 := (hrd5.upd ((Upd.refl (fun _ => False) _).alloc (.cells #[.bool tagged, .string (bs tag), .slice x1 n1 c1] 42)) (fun h => h)).upd hu7 (fun e => hno _ e rfl)
        have hu07 : Upd (fun _ => False) w w7 := ((k8.then hu5 (fun i hi => .inr (by omega))).alloc _).then hu7 (fun i hi => .inr (by have := k7 i hi; omega))
        rcases hcase with ⟨rfl, hls⟩ | ⟨rfl, hls⟩
        · have hwt := rwhite_ok hrd7
          have hk : condP h = parseP g (whiteP r) (rs.map (·.g) ++ [⟨tagged, tag, cs⟩]) tag tagged false := by rw [hk3, hls]
          have HD := Lib.hid (And.intro hwt (And.intro hk (And.intro hls (And.intro hm7 (And.intro hu7 (And.intro hb7 (And.intro hW7 (And.intro hu07 HC.out))))))))
          clear hsee5 hrd5 hu5 hk3 hlt3 hsz4 hx1 hno hs5 hle k1 k2 k5 k6 k7 k8 k9 k10 hrl hrd7 hu07 hls hm7 hu7 hb7 hW7 hwt hk HC hrg cg fg
          go_wp2_with fail
          refine HD.out.1.mono ?_
          rintro en w8 ⟨rfl, h8, hu8⟩
          dsimp only
          obtain ⟨-, hk, hls, hm7, hu7, hb7, hW7, hu07, hsee5, hrd5, hu5, hcase, hk3, hlt3, hsz4, hx1, hno, hs5, hle, k1, k2, k5, k6, k7, k8, k9, k10, hrl⟩ := HD.out
          have hal5 := (Upd.refl (fun _ => False) (w4.setCell ⟨w3.heap.size, 2, none⟩ (.slice x1 n1 c1))).alloc (.cells #[.bool tagged, .string (bs tag), .slice x1 n1 c1] 42)
          have hsz5 : ((w4.setCell ⟨w3.heap.size, 2, none⟩ (.slice x1 n1 c1)).alloc (.cells #[.bool tagged, .string (bs tag), .slice x1 n1 c1] 42)).heap.size = w4.heap.size + 1 := by simp
          have hlow := k5.lt
          have hwr3 : wr.heap.size ≤ w3.heap.size := hlt3.2
          have hown' : ∀ q, (Value.slice x' (n + 1) c').ownBlock = some q → w.heap.size < q := fun q hq => by
            rcases hb7 with e | e
            · exact k7 q (e ▸ hq)
            · rw [hq] at e
              simp only [Option.some.injEq] at e
              omega
          have hrl2 := list_lt _ _ _ _ _ hls
          have hwl := whiteP_le r
          have hw7 := whiteP_le r
          have hno' : ∀ q, (Value.slice x' (n + 1) c').ownBlock = some q → ¬ q = w.heap.size := fun q hq e => by have := hown' q hq; omega
          have HJ : Hid (PrmR w h x' (n + 1) c' tag tagged false w8 ∧ rdLen w8 w.heap.size < rdLen wr w.heap.size) := Lib.hid ⟨⟨g, whiteP r, rs ++ [⟨⟨tagged, tag, cs⟩, x1, n1, c1⟩], by omega, by omega, by rw [List.map_append]; exact hk, h8, by
            rw [List.flatMap_append, List.flatMap_cons, List.flatMap_nil, List.append_nil]
            exact hm7.upd hu8 hno', hW7.upd hu8 hno' hm7.lt, hown', hu07.then hu8 (fun i hi => .inr (by omega)), by simp [k9], by
              have hold : ∀ r ∈ rs, GrOk w7 r ∧ ∀ q, (Value.slice r.x r.n r.c).ownBlock = some q → 0 < r.n → q ≠ w.heap.size ∧ (Value.slice x' (n + 1) c').ownBlock ≠ some q := fun r hr => by
                obtain ⟨h1, h2⟩ := k10 r hr
                refine ⟨Sees.upd hu7 (Sees.upd hal5 (Sees.upd hu5 h1 (fun q hq h0 e => (h2 q hq h0).1 e)) (fun _ _ _ h => h)) (fun q hq h0 e => (h2 q hq h0).2 e), fun q hq h0 => ⟨(h2 q hq h0).1, fun e => ?_⟩⟩
                rcases hb7 with e2 | e2
                · exact (h2 q hq h0).2 (e2 ▸ e)
                · obtain ⟨q2, hq2, hl2⟩ := sees_own h1 (by decide) h0
                  rw [hq] at hq2
                  cases hq2
                  rw [e] at e2
                  simp only [Option.some.injEq] at e2
                  omega
              have hnew : GrOk w7 ⟨⟨tagged, tag, cs⟩, x1, n1, c1⟩ ∧ ∀ q, (Value.slice x1 n1 c1).ownBlock = some q → 0 < n1 → q ≠ w.heap.size ∧ (Value.slice x' (n + 1) c').ownBlock ≠ some q := by
                have hq1 : ∀ q, (Value.slice x1 n1 c1).ownBlock = some q → w3.heap.size + 1 ≤ q := fun q hq => by have := hx1 q hq; simpa using this
                refine ⟨Sees.upd hu7 (Sees.upd hal5 hsee5 (fun _ _ _ h => h)) (fun q hq h0 e => by have := hq1 q hq; have := hlow q e; omega), fun q hq h0 => ⟨fun e => by have := hq1 q hq; omega, fun e => ?_⟩⟩
                have h3 := hq1 q hq
                rcases hb7 with e2 | e2
                · have := hlow q (e2 ▸ e); omega
                · obtain ⟨q2, hq2, hl2⟩ := sees_own hsee5 (by decide) h0
                  rw [hq] at hq2
                  cases hq2
                  rw [e] at e2
                  simp only [Option.some.injEq] at e2
                  omega
              refine grs_upd hu8 (fun y hy => ?_)
              rcases List.mem_append.1 hy with hy | hy
              · exact hold y hy
              · rw [List.mem_singleton] at hy
                subst hy
                exact hnew⟩, by rw [h8.len, hrl]; omega⟩
          clear hk hls hm7 hu7 hb7 hW7 hu07 hsee5 hrd5 hu5 hcase hk3 hlt3 hsz4 hx1 hno hs5 hle k1 k2 k5 k6 k7 k8 k9 k10 hrl hal5 hsz5 hlow hwr3 hown' hrl2 hwl hw7 hno' HD h8 hu8
          go_wp2_with fail
          exact ⟨⟨x', n + 1, c', tag, tagged, false, rfl, rfl, rfl, rfl, Lib.hid HJ.out.1⟩, HJ.out.2⟩
        · have hk : Hid (condP h = none) := Lib.hid (by rw [hk3, hls])
          have HD := Lib.hid hu07
          clear hsee5 hrd5 hu5 hk3 hlt3 hsz4 hx1 hno hs5 hle k1 k2 k5 k6 k7 k8 k9 k10 hrl hrd7 hu07 hls hm7 hu7 hb7 hW7 HC hrg cg fg
          go_wp2_with fail
          go_ret2
          exact ⟨none, 0, 0, [], 50, rfl, HD.out, .inr ⟨rfl, hk.out⟩⟩
end Go.Proofs.YtbhmeagliebfdaaDoor
