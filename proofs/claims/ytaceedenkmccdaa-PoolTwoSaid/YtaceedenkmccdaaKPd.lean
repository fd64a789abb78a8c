/- Pools: what main does; single operations. -/
import Derived.Test.YtaceedenkmccdaaKPc
import Derived.Conc.CompanyMem
/- Pools: main counts up, looks, registers, is let go. -/
namespace Go.Proofs.Ytaceedenkmccdaa
open Go Go.Conc Go.ConcN
set_option linter.unusedSimpArgs false
set_option linter.unusedVariables false
variable {ap : Nat → Int → Int} {n : Nat} {Γ Γ' : Nat → Lo} {w w' : World} {t u : Trace}
/-- Main, that is at no group. -/
structure Free (L : Lo) (m : MainR) (wa : Addr) : Prop where
  role : L.role = .main m
  wa : IsWa (.main m) wa
  reg : m.reg = none
  pnd : m.pnd = none
theorem Free.isWa {L : Lo} {m : MainR} {wa : Addr} (f : Free L m wa) (hL : Γ 0 = L) : IsWa (Γ 0).role wa := by rw [hL, f.role]; exact f.wa
theorem IsWa.le16 [Inhabited Base] (h : Inv ap n Γ w t) {wa : Addr} (x : IsWa (Γ 0).role wa) : (cnt n fun j => (Γ j).role.holds wa) ≤ 16 := holds_le16 h x
theorem no_last [Inhabited Base] (h : Inv ap n Γ w t) (hreg : (Γ 0).role.m.reg = none) : ∀ j wa zs f s, (Γ j).role = .left wa zs f s → s = 0 := fun j wa zs f s hj => by
  rcases Nat.eq_zero_or_pos s with e | e
  · exact e
  · have := h.lst j wa zs f s hj e
    rw [hreg] at this; cases this
/-- How a group stands where main is not registered. -/
theorem free_at [Inhabited Base] (h : Inv ap n Γ w t) {L : Lo} {m : MainR} {wa : Addr} (hL : Γ 0 = L) (f : Free L m wa) : CellI w wa .u64 ((cnt n fun j => (Γ j).role.holds wa : Nat) * KW) ∧ CellI w (sem wa) .u32 0 := by
  obtain ⟨_, _, st, sm, v, c1, c2, c3, c4⟩ := (f.isWa hL).ok h
  have hm : (Γ 0).role.m = m := by rw [hL, f.role]; rfl
  rw [hm, f.pnd] at c3
  rw [hm, f.reg] at c4
  simp only [reduceCtorEq, if_false, Nat.add_zero] at c3
  rcases c4 with ⟨_, _, d3, d4⟩ | ⟨d1, _⟩ | ⟨d1, _⟩ | ⟨d1, _⟩
  · rw [← c3, ← d3]; rw [d4] at c2; exact ⟨c1, c2⟩
  · cases d1
  · cases d1
  · cases d1
theorem boss_ops [Inhabited Base] {L : Lo} {wa : Addr} (h : Inv ap n Γ w t) (hwa : IsWa (Γ 0).role wa) {ad : Addr} (had : ad = wa ∨ ad = sem wa) {es : Array Event} (hes : ∀ e ∈ es, SyncEv ad e) (fn : FuncId) (pos : String) :
    ∀ op ∈ MemOp.ofEvents 0 fn pos es, op.g = 0 ∧ OpOk L.M L.R (AT (Γ 0).role) 0 w.heap.size op.act ∧ ∀ x, op.act.touch? = some x → ∀ a, x.loc = .cell a → a = wa ∨ a = sem wa := fun op hop => by
  obtain ⟨hat1, hat2, _⟩ := hwa.ok h
  have hat : AT (Γ 0).role ad := by rcases had with rfl | rfl <;> assumption
  obtain ⟨h1, h2⟩ := opOk_sync (M := L.M) (R := L.R) hat hes (h.blkA ad hat) fn pos op hop
  refine ⟨h1, h2, fun x hx a hl => ?_⟩
  obtain ⟨e, he, rfl⟩ := Go.Conc.mem_ofEvents hop
  have := ((hes e he).touch hx).1
  rw [this] at hl
  cases hl
  exact had
theorem main_lst [Inhabited Base] {m : MainR} {L : Lo} {r p : Option Addr} {d : Option (Addr × Nat)} (hL : Γ 0 = L) (hr : L.role = .main m) (wa : Addr) (j : Nat) : (upd Γ 0 (L.turn (.main (m.at r p d)) L.q) j).role.lastS wa = (Γ j).role.lastS wa ∧ (upd Γ 0 (L.turn (.main (m.at r p d)) L.q) j).role.holds wa = (Γ j).role.holds wa := by
  rcases upd_eq Γ 0 (L.turn (.main (m.at r p d)) L.q) j with ⟨e, rfl⟩ | ⟨e, _⟩
  · rw [e, hL, hr]; exact ⟨rfl, rfl⟩
  · rw [e]; exact ⟨rfl, rfl⟩
theorem no_last' [Inhabited Base] (h : Inv ap n Γ w t) (hreg : (Γ 0).role.m.reg = none) (wa : Addr) (j : Nat) : (Γ j).role.lastS wa = 0 := by
  cases hj : (Γ j).role with
  | left wa' zs f s =>
    have := no_last h hreg j wa' zs f s hj
    subst this
    simp [Role.lastS]
  | _ => rfl
/-- Main counts up for one who is not started yet. -/
theorem Inv.countUp [Inhabited Base] (h : Inv ap n Γ w t) {L : Lo} {m : MainR} {wa : Addr} (hL : Γ 0 = L) (f : Free L m wa) :
    ∃ v : Nat, v ≤ 16 ∧ CellI w wa .u64 (v * KW) ∧ IntKind.u64.wrap ((v : Int) * KW + KW) = ((v + 1 : Nat) : Int) * KW ∧ ∀ w', But wa w w' → CellI w' wa .u64 (((v + 1 : Nat) : Int) * KW) → ∀ fn pos,
      Inv ap n (upd Γ 0 (L.turn (.main (m.at none (some wa) none)) L.q)) w' (t ++ MemOp.ofEvents 0 fn pos #[⟨.cell wa, false, true⟩, ⟨.cell wa, true, true⟩]) := by
  have hwa := f.isWa hL
  obtain ⟨c1, c2⟩ := free_at h hL f
  have h16 := hwa.le16 h
  have hm : (Γ 0).role.m = m := by rw [hL, f.role]; rfl
  have hreg : (Γ 0).role.m.reg = none := by rw [hm]; exact f.reg
  refine ⟨_, h16, c1, ?_, fun w' hb hc fn pos => ?_⟩
  · have hx : ∀ x : Int, 0 ≤ x → x ≤ 100 * KW → IntKind.u64.wrap x = x := fun x h1 h2 => by
      unfold KW at h2
      simp [IntKind.wrap, IntKind.signed, IntKind.bits]
      omega
    rw [hx _ (by unfold KW; omega) (by unfold KW; omega)]
    unfold KW
    omega
  · have e0 : (upd Γ 0 (L.turn (.main (m.at none (some wa) none)) L.q) 0).role.m = m.at none (some wa) none := by rw [upd_same]; rfl
    refine h.boss hL f.role hwa (.inl rfl) hb (boss_ops h hwa (.inl rfl) sync2 fn pos) (by rw [Deaf_own, h.deaf, hL, deaf2]) ?_ (fun wa' hne => ⟨?_, ?_⟩) (fun wa' x => by cases x) (fun j wa' zs ff s hj hs => ?_) (fun wa' k x => by cases x)
    · refine ⟨_, 0, (cnt n fun j => (Γ j).role.holds wa) + 1, hc, hb.cellI (fun e => ?_) c2, ?_, .inl ⟨by rw [e0]; simp [MainR.at], fun j => ?_, rfl, rfl⟩⟩
      · have := congrArg Addr.off e
        simp [sem] at this
      · rw [e0, cnt_congr fun j _ => (main_lst hL f.role wa j).2]
        simp [MainR.at]
      · rw [(main_lst hL f.role wa j).1]; exact no_last' h hreg wa j
    · rw [f.pnd]; simp [Ne.symm hne]
    · rw [f.reg]
    · have := no_last h hreg j wa' zs ff s hj
      omega
/-- Main looks at a group. -/
theorem Inv.look [Inhabited Base] (h : Inv ap n Γ w t) {L : Lo} {m : MainR} {wa : Addr} (hL : Γ 0 = L) (f : Free L m wa) (fn : FuncId) (pos : String) :
    ∃ v : Nat, v ≤ 16 ∧ CellI w wa .u64 (v * KW) ∧ (∀ k, m.dn = some (wa, k) → v ≤ k) ∧ Inv ap n (upd Γ 0 (L.turn (.main (m.at none none (some (wa, v)))) L.q)) w (t ++ MemOp.ofEvents 0 fn pos #[⟨.cell wa, false, true⟩]) := by
  have hwa := f.isWa hL
  obtain ⟨c1, c2⟩ := free_at h hL f
  have h16 := hwa.le16 h
  have hm : (Γ 0).role.m = m := by rw [hL, f.role]; rfl
  have hreg : (Γ 0).role.m.reg = none := by rw [hm]; exact f.reg
  have e0 : (upd Γ 0 (L.turn (.main (m.at none none (some (wa, cnt n fun j => (Γ j).role.holds wa)))) L.q) 0).role.m = m.at none none (some (wa, cnt n fun j => (Γ j).role.holds wa)) := by rw [upd_same]; rfl
  have hs1 : ∀ e ∈ (#[⟨.cell wa, false, true⟩] : Array Event), SyncEv wa e := fun e he => by
    simp only [List.mem_toArray, List.mem_cons, List.not_mem_nil, or_false] at he
    rw [he]; exact .inl ⟨_, rfl⟩
  refine ⟨_, h16, c1, fun k hk => (h.wld.dns wa k (by rw [hm]; exact hk)).2.2, ?_⟩
  refine h.boss hL f.role hwa (.inl rfl) (But.refl wa w) (boss_ops h hwa (.inl rfl) hs1 fn pos) (by rw [Deaf_own, h.deaf, hL]; simp [deafBehind]) ?_ (fun wa' hne => ⟨by rw [f.pnd], by rw [f.reg]⟩) (fun wa' x => by cases x) (fun j wa' zs ff s hj hs => ?_) (fun wa' k x => ?_)
  · refine ⟨_, 0, _, c1, c2, ?_, .inl ⟨by rw [e0]; simp [MainR.at], fun j => ?_, rfl, rfl⟩⟩
    · rw [e0, cnt_congr fun j _ => (main_lst hL f.role wa j).2]
      simp [MainR.at]
    · rw [(main_lst hL f.role wa j).1]; exact no_last' h hreg wa j
  · have := no_last h hreg j wa' zs ff s hj
    omega
  · cases x
    exact ⟨rfl, rfl, Nat.le_refl _⟩
/-- Main registers, or finds that the group has been counted down. -/
theorem Inv.register [Inhabited Base] (h : Inv ap n Γ w t) {L : Lo} {m : MainR} {wa : Addr} {v : Nat} (hL : Γ 0 = L) (f : Free L m wa) (hdn : m.dn = some (wa, v)) (hv : 1 ≤ v) (hopen : OpenWa (Γ 0).role wa) (hcl : ∀ e ∈ m.ps, wa = handsA e → m.cl e.b = true) :
    ∃ x : Int, CellI w wa .u64 x ∧ ((x = v * KW ∧ ∀ w', But wa w w' → CellI w' wa .u64 ((v : Int) * KW + 1) → ∀ fn pos, Inv ap n (upd Γ 0 (L.turn (.main (m.at (some wa) none none)) L.q)) w' (t ++ MemOp.ofEvents 0 fn pos #[⟨.cell wa, false, true⟩, ⟨.cell wa, true, true⟩])) ∨
      (x ≠ v * KW ∧ ∀ fn pos, Inv ap n (upd Γ 0 (L.turn (.main (m.at none none (some (wa, v - 1)))) L.q)) w (t ++ MemOp.ofEvents 0 fn pos #[⟨.cell wa, false, true⟩]))) := by
  have hwa := f.isWa hL
  obtain ⟨c1, c2⟩ := free_at h hL f
  have hm : (Γ 0).role.m = m := by rw [hL, f.role]; rfl
  have hreg : (Γ 0).role.m.reg = none := by rw [hm]; exact f.reg
  have hle := (h.wld.dns wa v (by rw [hm]; exact hdn)).2.2
  have hs1 : ∀ e ∈ (#[⟨.cell wa, false, true⟩] : Array Event), SyncEv wa e := fun e he => by
    simp only [List.mem_toArray, List.mem_cons, List.not_mem_nil, or_false] at he
    rw [he]; exact .inl ⟨_, rfl⟩
  refine ⟨_, c1, ?_⟩
  by_cases hc : (cnt n fun j => (Γ j).role.holds wa) = v
  · refine .inl ⟨by rw [hc], fun w' hb hc' fn pos => ?_⟩
    have e0 : (upd Γ 0 (L.turn (.main (m.at (some wa) none none)) L.q) 0).role.m = m.at (some wa) none none := by rw [upd_same]; rfl
    refine h.boss hL f.role hwa (.inl rfl) hb (boss_ops h hwa (.inl rfl) sync2 fn pos) (by rw [Deaf_own, h.deaf, hL, deaf2]) ?_ (fun wa' hne => ⟨by rw [f.pnd], ?_⟩) (fun wa' x => ?_) (fun j wa' zs ff s hj hs => ?_) (fun wa' k x => by cases x)
    · refine ⟨_, 0, v, hc', hb.cellI (fun e => ?_) c2, ?_, .inr (.inl ⟨by rw [e0]; rfl, fun j => ?_, hv, rfl, rfl⟩)⟩
      · have := congrArg Addr.off e
        simp [sem] at this
      · rw [e0, cnt_congr fun j _ => (main_lst hL f.role wa j).2, hc]
        simp [MainR.at]
      · rw [(main_lst hL f.role wa j).1]; exact no_last' h hreg wa j
    · rw [f.reg]; simp [Ne.symm hne]
    · cases x
      exact ⟨rfl, hopen, hcl⟩
    · have := no_last h hreg j wa' zs ff s hj
      omega
  · refine .inr ⟨fun e => hc ?_, fun fn pos => ?_⟩
    · unfold KW at e; omega
    · have e0 : (upd Γ 0 (L.turn (.main (m.at none none (some (wa, v - 1)))) L.q) 0).role.m = m.at none none (some (wa, v - 1)) := by rw [upd_same]; rfl
      refine h.boss hL f.role hwa (.inl rfl) (But.refl wa w) (boss_ops h hwa (.inl rfl) hs1 fn pos) (by rw [Deaf_own, h.deaf, hL]; simp [deafBehind]) ?_ (fun wa' hne => ⟨by rw [f.pnd], by rw [f.reg]⟩) (fun wa' x => by cases x) (fun j wa' zs ff s hj hs => ?_) (fun wa' k x => ?_)
      · refine ⟨_, 0, _, c1, c2, ?_, .inl ⟨by rw [e0]; simp [MainR.at], fun j => ?_, rfl, rfl⟩⟩
        · rw [e0, cnt_congr fun j _ => (main_lst hL f.role wa j).2]
          simp [MainR.at]
        · rw [(main_lst hL f.role wa j).1]; exact no_last' h hreg wa j
      · have := no_last h hreg j wa' zs ff s hj
        omega
      · cases x
        exact ⟨rfl, rfl, by omega⟩
/-- Main takes the semaphore. -/
theorem Inv.taken [Inhabited Base] (h : Inv ap n Γ w t) {L : Lo} {m : MainR} {wa : Addr} (hL : Γ 0 = L) (hr : L.role = .main m) (hreg : m.reg = some wa) (hs : CellI w (sem wa) .u32 1) :
    IsWa (Γ 0).role wa ∧ ∀ w', But (sem wa) w w' → CellI w' (sem wa) .u32 0 → ∀ fn pos, Inv ap n (upd Γ 0 (L.turn (.main (m.at none none (some (wa, 0)))) L.q)) w' (t ++ MemOp.ofEvents 0 fn pos (semEvents (sem wa))) := by
  have hm : (Γ 0).role.m = m := by rw [hL, hr]; rfl
  obtain ⟨hwa, _, _, ⟨st, sm, v, c1, c2, c3, c4⟩, _⟩ := regs_group h (wa := wa) (by rw [hm]; exact hreg)
  refine ⟨hwa, fun w' hb hc fn pos => ?_⟩
  have hpn := (h.regs wa (by rw [hm]; exact hreg)).1
  rw [hpn] at c3
  simp only [reduceCtorEq, if_false, Nat.add_zero] at c3
  have e0 : (upd Γ 0 (L.turn (.main (m.at none none (some (wa, 0)))) L.q) 0).role.m = m.at none none (some (wa, 0)) := by rw [upd_same]; rfl
  have hsm : sm = 1 := by
    have := c2.1.symm.trans hs.1
    cases this; rfl
  have hs4 : ∀ e ∈ semEvents (sem wa), SyncEv (sem wa) e := fun e he => by
    simp only [semEvents, List.mem_toArray, List.mem_cons, List.not_mem_nil, or_false] at he
    rcases he with rfl | rfl | rfl | rfl
    · exact .inr (.inl rfl)
    · exact .inl ⟨_, rfl⟩
    · exact .inl ⟨_, rfl⟩
    · exact .inr (.inr rfl)
  rcases c4 with ⟨d1, _⟩ | ⟨_, _, _, _, d5⟩ | ⟨_, _, _, d5⟩ | ⟨d1, d2, d3, d4, d5⟩
  · exact absurd (by rw [hm]; exact hreg) d1
  · omega
  · omega
  · refine h.boss hL hr hwa (.inr rfl) hb (boss_ops h hwa (.inr rfl) hs4 fn pos) (by rw [Deaf_own, h.deaf, hL]; simp [semEvents, deafBehind]) ?_ (fun wa' hne => ⟨?_, ?_⟩) (fun wa' x => by cases x) (fun j wa' zs ff s hj hs' => ?_) (fun wa' k x => ?_)
    · refine ⟨st, 0, 0, hb.cellI (fun e => ?_) c1, hc, ?_, .inl ⟨by rw [e0]; simp [MainR.at], fun j => ?_, by rw [d4]; rfl, rfl⟩⟩
      · have := congrArg Addr.off e
        simp [sem] at this
      · rw [e0, cnt_congr fun j _ => (main_lst hL hr wa j).2]
        simp [MainR.at]
        omega
      · rw [(main_lst hL hr wa j).1]; exact d3 j
    · rw [hm] at hpn; rw [hpn]
    · rw [hreg]; simp [Ne.symm hne]
    · have := h.lst j wa' zs ff s hj hs'
      rw [d1] at this
      cases this
      have hz := d3 j
      rw [hj] at hz
      simp [Role.lastS] at hz
      omega
    · cases x
      exact ⟨rfl, rfl, by omega⟩
/-- A word of main's to the detector about a group's semaphore. -/
theorem Inv.told [Inhabited Base] (h : Inv ap n Γ w t) {L : Lo} {m : MainR} {wa : Addr} (hL : Γ 0 = L) (hr : L.role = .main m) (hwa : IsWa (Γ 0).role wa) {mk : Mark} (hmk : mk = .read (sem wa) ∨ mk = .write (sem wa)) (fn : FuncId) (pos : String) :
    Inv ap n Γ w (t ++ MemOp.ofEvents 0 fn pos #[⟨.mark mk, false, true⟩]) := by
  have hm : (Γ 0).role.m = m := by rw [hL, hr]; rfl
  have hid : upd Γ 0 (L.turn (.main (m.at m.reg m.pnd m.dn)) L.q) = Γ := by
    funext j
    rcases upd_eq Γ 0 (L.turn (.main (m.at m.reg m.pnd m.dn)) L.q) j with ⟨e, rfl⟩ | ⟨e, _⟩
    · rw [e, hL]
      have : L.turn (.main (m.at m.reg m.pnd m.dn)) L.q = L.turn L.role L.q := by rw [hr]; rfl
      rw [this]; rfl
    · rw [e]
  obtain ⟨hat1, hat2, hwg⟩ := hwa.ok h
  have := h.boss (L := L) (m := m) (wa := wa) (ad := sem wa) (r := m.reg) (p := m.pnd) (d := m.dn) (w' := w) (u := MemOp.ofEvents 0 fn pos #[⟨.mark mk, false, true⟩]) hL hr hwa (.inr rfl) (But.refl _ w) (fun op hop => ?_) ?_ (by rw [hid]; exact hwg) (fun wa' hne => ⟨Iff.rfl, Iff.rfl⟩) (fun wa' x => ?_) (fun j wa' zs ff s hj hs' => ?_) (fun wa' k x => ?_)
  · rw [hid] at this; exact this
  · obtain ⟨e, he, rfl⟩ := Go.Conc.mem_ofEvents hop
    simp only [List.mem_toArray, List.mem_cons, List.not_mem_nil, or_false] at he
    subst he
    rcases hmk with rfl | rfl
    · refine ⟨rfl, ⟨fun y hy => ?_, fun a x => (by cases x), h.blkA _ hat2⟩, fun x hx a hl => ?_⟩
      · simp only [MemAct.ofEvent, MemAct.touch?, Option.some.injEq] at hy
        subst hy
        exact .inr (.inr ⟨hat2, .inr ⟨rfl, rfl⟩⟩)
      · simp only [MemAct.ofEvent, MemAct.touch?, Option.some.injEq] at hx
        subst hx
        cases hl
        exact .inr rfl
    · refine ⟨rfl, ⟨fun y hy => ?_, fun a x => (by cases x), h.blkA _ hat2⟩, fun x hx a hl => ?_⟩
      · simp only [MemAct.ofEvent, MemAct.touch?, Option.some.injEq] at hy
        subst hy
        exact .inr (.inr ⟨hat2, .inr ⟨rfl, rfl⟩⟩)
      · simp only [MemAct.ofEvent, MemAct.touch?, Option.some.injEq] at hx
        subst hx
        cases hl
        exact .inr rfl
  · rw [Deaf_own, h.deaf, hL]
    rcases hmk with rfl | rfl <;> simp [deafBehind]
  · rw [← hm] at x
    obtain ⟨h1, h2⟩ := h.regs wa' x
    rw [hm] at h1
    refine ⟨h1, (regs_group h x).2.2.2.2, fun e he hw => ?_⟩
    rw [hm] at h2
    rcases h2 with ⟨e', he', _, hw', hc⟩ | ⟨A, sp, hA, hw'⟩
    · rw [hw] at hw'
      have : e = e' := h.wld.same e (by rw [hm]; exact he) e' (by rw [hm]; exact he') (.inl (ca_inj hw').1)
      rw [this]; exact hc
    · rw [hw] at hw'; exact absurd hw' (ca_ne (by decide))
  · rw [← hm]; exact h.lst j wa' zs ff s hj hs'
  · have := h.wld.dns wa' k (by rw [hm]; exact x)
    rw [hm] at this; exact this
end Go.Proofs.Ytaceedenkmccdaa
/- Pools: main is through with a group. -/
namespace Go.Proofs.Ytaceedenkmccdaa
open Go Go.Conc Go.ConcN
set_option linter.unusedSimpArgs false
set_option linter.unusedVariables false
variable {ap : Nat → Int → Int} {n : Nat} {Γ Γ' : Nat → Lo} {w w' : World} {t u : Trace}
/-- One that main is through with. -/
def Lo.gone (L : Lo) : Lo := ⟨fun _ => False, fun _ => False, fun _ => False, fun _ => True, fun _ _ _ _ _ => trivial, .over, L.d, .left dead [] false 0, L.q⟩
open Classical in
/-- Behind main's acquire. -/
noncomputable def through (Γ : Nat → Lo) (wa : Addr) (L' : Lo) : Nat → Lo := fun j => if j = 0 then L' else if ∃ r, (Γ j).h = .rel wa r then (Γ j).gone else Γ j
theorem through0 (wa : Addr) (L' : Lo) : through Γ wa L' 0 = L' := by simp [through]
theorem through_eq (wa : Addr) (L' : Lo) (j : Nat) : (j = 0 ∧ through Γ wa L' j = L') ∨ (j ≠ 0 ∧ (∃ r, (Γ j).h = .rel wa r) ∧ through Γ wa L' j = (Γ j).gone) ∨ (j ≠ 0 ∧ (¬ ∃ r, (Γ j).h = .rel wa r) ∧ through Γ wa L' j = Γ j) := by
  by_cases h0 : j = 0
  · exact .inl ⟨h0, by simp [through, h0]⟩
  · by_cases h1 : ∃ r, (Γ j).h = .rel wa r
    · exact .inr (.inl ⟨h0, h1, by simp only [through, if_neg h0, if_pos h1]⟩)
    · exact .inr (.inr ⟨h0, h1, by simp only [through, if_neg h0, if_neg h1]⟩)
theorem IsWa.alive {r : Role} {wa : Addr} (x : IsWa r wa) : wa ≠ dead := by
  rcases x with ⟨p, _, rfl⟩ | ⟨A, _, _, rfl⟩
  · exact fun e => by have := congrArg Addr.off e; simp [handsA, ca, dead] at this
  · exact fun e => by have := congrArg Addr.off e; simp [groupA, ca, dead] at this
structure Thru (n : Nat) (Γ : Nat → Lo) (w : World) (L L' : Lo) (m m' : MainR) (wa : Addr) : Prop where
  eL : Γ 0 = L
  free : Free L m wa
  dn : m.dn = some (wa, 0)
  d : L.d = 0
  q : L.q = none
  role : L'.role = .main m'
  M : ∀ a, L'.M a → L.M a ∨ ∃ j r, (Γ j).h = .rel wa r ∧ (Γ j).M a
  R : L'.R = L.R
  V : L'.V = L.V
  MV : ∀ a, L.M a → L'.M a
  h : L'.h = .alive
  d' : L'.d = 0
  q' : L'.q = none
  S : L'.S w
  ps : m'.ps = m.ps ∧ m'.cl = m.cl ∧ m'.rd = m.rd ∧ m'.nw = m.nw ∧ m'.ws = m.ws
  reg : m'.reg = none ∧ m'.pnd = none ∧ m'.dn = none ∧ m'.al = none
  fin : ∀ b, m'.fin b = true → m.fin b = true ∨ ∃ p ∈ m.ps, b = p.b ∧ wa = handsA p ∧ m.cl p.b = true
  opens : ∀ wa', wa' ≠ wa → OpenWa (.main m) wa' → OpenWa (.main m') wa'
  asks : ∀ e ∈ m.ps, m'.asks e.b = m.asks e.b + under n Γ w e ∧ 0 ≤ m'.asks e.b ∧ m'.asks e.b ≤ 1000000000000000
  noall : ∀ j A zs cur f, (Γ j).role ≠ .asker A zs cur f
/-- Who has released there is one that has left. -/
theorem rel_left [Inhabited Base] (h : Inv ap n Γ w t) {L : Lo} {m : MainR} {wa : Addr} (hL : Γ 0 = L) (f : Free L m wa) (hdn : m.dn = some (wa, 0)) {j r : Nat} (hj : (Γ j).h = .rel wa r) : j ≠ 0 ∧ j < n ∧ (∃ zs f, (Γ j).role = .left wa zs f 0) ∧ (Γ j).q = none := by
  have hm : (Γ 0).role.m = m := by rw [hL, f.role]; rfl
  have h0 : j ≠ 0 := fun e => by
    rw [e] at hj
    have := h.main0.symm.trans hj
    cases this
  have hlt : j < n := by
    rcases Nat.lt_or_ge j n with x | x
    · exact x
    · rw [h.beyond j x] at hj; cases hj
  have hc := (h.wld.dns wa 0 (by rw [hm]; exact hdn)).2.2
  have hl : ∃ zs f s, (Γ j).role = .left wa zs f s := by
    rcases h.rels j wa r hj with hh | x
    · have := cnt_pos (f := fun j => (Γ j).role.holds wa) hlt hh
      omega
    · exact x
  obtain ⟨zs, ff, s, hr⟩ := hl
  have hs := no_last h (by rw [hm]; exact f.reg) j wa zs ff s hr
  subst hs
  refine ⟨h0, hlt, ⟨zs, ff, hr⟩, ?_⟩
  cases hq : (Γ j).q with
  | none => rfl
  | some Q =>
    rcases h.wld.qwho j Q hq with e | ⟨A, zs', cur, f', hr'⟩
    · exact absurd e h0
    · rw [hr] at hr'; cases hr'
theorem Inv.acquire [Inhabited Base] (h : Inv ap n Γ w t) {L L' : Lo} {m m' : MainR} {wa : Addr} (k : Thru n Γ w L L' m m' wa) (fn : FuncId) (pos : String) :
    Inv ap n (through Γ wa L') w (t ++ MemOp.ofEvents 0 fn pos #[⟨.mark (.acquire wa), false, true⟩]) ∧ Others Γ (through Γ wa L') 0 := by
  have hm : (Γ 0).role.m = m := by rw [k.eL, k.free.role]; rfl
  have hrel := fun {j r : Nat} (hj : (Γ j).h = .rel wa r) => rel_left h k.eL k.free k.dn hj
  have hwa := k.free.isWa k.eL
  obtain ⟨hat1, hat2, hwg⟩ := hwa.ok h
  have hm' : (through Γ wa L' 0).role.m = m' := by rw [through0, k.role]; rfl
  have hno : ∀ op ∈ MemOp.ofEvents 0 fn pos #[⟨.mark (.acquire wa), false, true⟩], op.g = 0 ∧ op.act.touch? = none := fun op hop => by
    obtain ⟨e, he, rfl⟩ := Go.Conc.mem_ofEvents hop
    simp only [List.mem_toArray, List.mem_cons, List.not_mem_nil, or_false] at he
    subst he
    exact ⟨rfl, rfl⟩
  have hAT : ∀ a, AT (through Γ wa L' 0).role a → AT (Γ 0).role a := fun a ha => by
    simp only [AT, hm', k.ps.1, k.reg.2.2.2] at ha
    simp only [AT, hm]
    rcases ha with ha | ⟨A, sp, hA, _⟩
    · exact .inl ha
    · cases hA
  have hR : ∀ j a, (through Γ wa L' j).R a → (Γ j).R a := fun j a hj => by
    rcases through_eq (Γ := Γ) wa L' j with ⟨rfl, e⟩ | ⟨_, _, e⟩ | ⟨_, _, e⟩
    · rw [e, k.R] at hj; rw [k.eL]; exact hj
    · rw [e] at hj; exact hj.elim
    · rw [e] at hj; exact hj
  have hMj : ∀ j a, j ≠ 0 → (through Γ wa L' j).M a → (Γ j).M a ∧ ¬ ∃ r, (Γ j).h = .rel wa r := fun j a h0 hj => by
    rcases through_eq (Γ := Γ) wa L' j with ⟨e0, e⟩ | ⟨_, _, e⟩ | ⟨_, hnr, e⟩
    · exact absurd e0 h0
    · rw [e] at hj; exact hj.elim
    · rw [e] at hj; exact ⟨hj, hnr⟩
  have hM0 : ∀ a, L'.M a → ∃ j, (Γ j).M a ∧ (j = 0 ∨ ∃ r, (Γ j).h = .rel wa r) := fun a ha => by
    rcases k.M a ha with x | ⟨j, r, hj, hm⟩
    · exact ⟨0, by rw [k.eL]; exact x, .inl rfl⟩
    · exact ⟨j, hm, .inr ⟨r, hj⟩⟩
  have hold : ∀ wa' j, (through Γ wa L' j).role.holds wa' = (Γ j).role.holds wa' := fun wa' j => by
    rcases through_eq (Γ := Γ) wa L' j with ⟨rfl, e⟩ | ⟨_, ⟨r, hj⟩, e⟩ | ⟨_, _, e⟩
    · rw [e, k.role, k.eL, k.free.role]; rfl
    · obtain ⟨_, _, ⟨zs, f, hr⟩, _⟩ := hrel hj
      rw [e, hr]; rfl
    · rw [e]
  have hpend : ∀ e' j, (through Γ wa L' j).role.pend e' = (Γ j).role.pend e' := fun e' j => by
    rcases through_eq (Γ := Γ) wa L' j with ⟨rfl, e⟩ | ⟨_, ⟨r, hj⟩, e⟩ | ⟨_, _, e⟩
    · rw [e, k.role, k.eL, k.free.role]; rfl
    · obtain ⟨_, _, ⟨zs, f, hr⟩, _⟩ := hrel hj
      rw [e, hr]; rfl
    · rw [e]
  have hreg : (Γ 0).role.m.reg = none := by rw [hm]; exact k.free.reg
  have hls : ∀ wa' j, (through Γ wa L' j).role.lastS wa' = (Γ j).role.lastS wa' := fun wa' j => by
    rcases through_eq (Γ := Γ) wa L' j with ⟨rfl, e⟩ | ⟨_, ⟨r, hj⟩, e⟩ | ⟨_, _, e⟩
    · rw [e, k.role, k.eL, k.free.role]; rfl
    · obtain ⟨_, _, ⟨zs, f, hr⟩, _⟩ := hrel hj
      rw [e, hr]
      simp [Lo.gone, Role.lastS]
    · rw [e]
  have hwk : ∀ j p job, (through Γ wa L' j).role = .worker p job ↔ (Γ j).role = .worker p job := fun j p job => by
    rcases through_eq (Γ := Γ) wa L' j with ⟨rfl, e⟩ | ⟨_, ⟨r, hj⟩, e⟩ | ⟨_, _, e⟩
    · rw [e, k.role, k.eL, k.free.role]; simp
    · obtain ⟨_, _, ⟨zs, f, hr⟩, _⟩ := hrel hj
      rw [e, hr]; simp [Lo.gone]
    · rw [e]
  have hask : ∀ j A zs cur f, (through Γ wa L' j).role ≠ .asker A zs cur f := fun j A zs cur f hr => by
    rcases through_eq (Γ := Γ) wa L' j with ⟨rfl, e⟩ | ⟨_, ⟨r, hj⟩, e⟩ | ⟨_, _, e⟩
    · rw [e, k.role] at hr; cases hr
    · rw [e] at hr; cases hr
    · rw [e] at hr; exact k.noall j A zs cur f hr
  have hqq : ∀ j, (through Γ wa L' j).q = (Γ j).q := fun j => by
    rcases through_eq (Γ := Γ) wa L' j with ⟨rfl, e⟩ | ⟨_, ⟨r, hj⟩, e⟩ | ⟨_, _, e⟩
    · rw [e, k.q', k.eL, k.q]
    · rw [e]; rfl
    · rw [e]
  have hH : ∀ j, (through Γ wa L' j).h = (match (Γ j).h with | .rel b' r => if b' = wa then .over else .rel b' r | x => x) := fun j => by
    rcases through_eq (Γ := Γ) wa L' j with ⟨rfl, e⟩ | ⟨_, ⟨r, hj⟩, e⟩ | ⟨_, hnr, e⟩
    · rw [e, k.h, h.main0]
    · rw [e, hj]; simp [Lo.gone]
    · rw [e]
      cases hh : (Γ j).h with
      | alive => rfl
      | over => rfl
      | rel b r =>
        have : b ≠ wa := fun x => hnr ⟨r, by rw [hh, x]⟩
        simp [this]
  have hdeafj : ∀ j, (through Γ wa L' j).d = (Γ j).d := fun j => by
    rcases through_eq (Γ := Γ) wa L' j with ⟨rfl, e⟩ | ⟨_, _, e⟩ | ⟨_, _, e⟩
    · rw [e, k.d', k.eL, k.d]
    · rw [e]; rfl
    · rw [e]
  have hleftj : ∀ j wa' zs f s, (through Γ wa L' j).role = .left wa' zs f s → (wa' = dead ∧ zs = [] ∧ s = 0 ∧ (through Γ wa L' j).h = .over) ∨ ((Γ j).role = .left wa' zs f s ∧ through Γ wa L' j = Γ j ∧ ¬ ∃ r, (Γ j).h = .rel wa r) := fun j wa' zs f s hr => by
    rcases through_eq (Γ := Γ) wa L' j with ⟨rfl, e⟩ | ⟨_, _, e⟩ | ⟨_, hnr, e⟩
    · rw [e, k.role] at hr; cases hr
    · rw [e] at hr
      simp only [Lo.gone, Role.left.injEq] at hr
      exact .inl ⟨hr.1.symm, hr.2.1.symm, hr.2.2.2.symm, by rw [e]; rfl⟩
    · rw [e] at hr; exact .inr ⟨hr, e, hnr⟩
  have htr := h.tr.acquire h.pos h.main0 (h.blkA wa hat1) (by rw [h.deaf, k.eL, k.d]) fn pos
  refine ⟨⟨h.pos, h.old, ?_, ⟨fun i j a hi hj => ?_, fun i j a hi hj => ?_, fun i a ha => ?_⟩, fun j => ?_, fun j a hj => ?_, fun a ha => h.blkA a (hAT a ha), fun j a hj => ?_, fun j => ?_, fun j hj => ?_, fun j => ?_, by rw [through0]; exact k.h, fun j wa' zs f s h0 hj hr => ?_, fun j wa' h0 hr => ?_, fun j wa' r hr => ?_, fun wa' hw => (by rw [hm', k.reg.1] at hw; cases hw), fun j wa' zs f s hr hs => ?_, fun A sp hA => (by rw [hm', k.reg.2.2.2] at hA; cases hA), ?_⟩, fun j hj => ?_⟩
  · have e3 : (fun j => (through Γ wa L' j).h) = (fun j => match (Γ j).h with | .rel b' r => if b' = wa then .over else .rel b' r | x => x) := funext hH
    rw [e3]
    refine htr.relabel (fun i a hi => ?_) (fun i a hi => htr.read i a (hR i a hi)) (fun a ha => htr.shared a (hAT a ha)) fun j b r a hj ha => ?_
    · by_cases h0 : i = 0
      · subst h0
        rw [through0] at hi
        rcases k.M a hi with x | ⟨j, r, hj, hm⟩
        · exact htr.mine 0 a (.inl (by rw [k.eL]; exact x))
        · exact htr.mine 0 a (.inr ⟨rfl, j, r, hj, hm⟩)
      · exact htr.mine i a (.inl (hMj i a h0 hi).1)
    · by_cases h0 : j = 0
      · subst h0
        rw [h.main0] at hj; cases hj
      · exact htr.relM j b r a hj (.inl (hMj j a h0 ha).1)
  · try dsimp only at hi hj
    by_cases hi0 : i = 0 <;> by_cases hj0 : j = 0
    · rw [hi0, hj0]
    · subst hi0
      rw [through0] at hi
      obtain ⟨j', hm1, hx⟩ := hM0 a hi
      obtain ⟨hm2, hnr⟩ := hMj j a hj0 hj
      have := h.apart.own j' j a hm1 hm2
      subst this
      exact (hx.elim (fun e => absurd e hj0) fun e => absurd e hnr)
    · subst hj0
      rw [through0] at hj
      obtain ⟨j', hm1, hx⟩ := hM0 a hj
      obtain ⟨hm2, hnr⟩ := hMj i a hi0 hi
      have := h.apart.own j' i a hm1 hm2
      subst this
      exact (hx.elim (fun e => absurd e hi0) fun e => absurd e hnr)
    · exact h.apart.own i j a (hMj i a hi0 hi).1 (hMj j a hj0 hj).1
  · try dsimp only at hi hj
    have hj' := hR j a hj
    by_cases hi0 : i = 0
    · subst hi0
      rw [through0] at hi
      obtain ⟨j', hm1, hx⟩ := hM0 a hi
      have := h.apart.read j' j a hm1 hj'
      subst this
      rcases hx with e | ⟨r, hr⟩
      · exact e.symm
      · rcases through_eq (Γ := Γ) wa L' j' with ⟨e, _⟩ | ⟨_, _, e⟩ | ⟨_, hnr, _⟩
        · exact e.symm
        · rw [e] at hj; exact hj.elim
        · exact absurd ⟨r, hr⟩ hnr
    · exact h.apart.read i j a (hMj i a hi0 hi).1 hj'
  · try dsimp only
    have hs := fun j => h.apart.shared j a (hAT a ha)
    refine ⟨fun hi => ?_, fun hi => (hs i).2 (hR i a hi)⟩
    by_cases hi0 : i = 0
    · subst hi0
      rw [through0] at hi
      obtain ⟨j', hm1, _⟩ := hM0 a hi
      exact (hs j').1 hm1
    · exact (hs i).1 (hMj i a hi0 hi).1
  · rw [hdeafj, ← h.deaf j]
    by_cases h0 : j = 0
    · subst h0
      rw [Deaf_own]; simp [deafBehind]
    · exact Deaf_other t (Ne.symm h0) _ fun op hop => (hno op hop).1
  · rcases hj with hj | hj
    · by_cases h0 : j = 0
      · subst h0
        rw [through0] at hj
        obtain ⟨j', hm1, _⟩ := hM0 a hj
        exact h.blk j' a (.inl hm1)
      · exact h.blk j a (.inl (hMj j a h0 hj).1)
    · exact h.blk j a (.inr (hR j a hj))
  · have hvj : (Γ j).V a ∧ (through Γ wa L' j).M a := by
      rcases through_eq (Γ := Γ) wa L' j with ⟨rfl, e⟩ | ⟨_, _, e⟩ | ⟨_, hnr, e⟩
      · rw [e, k.V] at hj
        have hv : (Γ 0).V a := by rw [k.eL]; exact hj
        refine ⟨hv, ?_⟩
        have := (h.virg 0 a hv).1
        rw [k.eL] at this
        rw [e]; exact k.MV a this
      · rw [e] at hj; exact hj.elim
      · rw [e] at hj ⊢; exact ⟨hj, (h.virg j a hj).1⟩
    exact ⟨hvj.2, fun idx x hx => (touch_old_or hx).elim (fun y => (h.virg j a hvj.1).2 idx x y.2) fun ⟨_, op, hop, hxo, _⟩ => by rw [(hno op hop).2] at hxo; cases hxo⟩
  · rcases through_eq (Γ := Γ) wa L' j with ⟨rfl, e⟩ | ⟨_, _, e⟩ | ⟨_, hnr, e⟩
    · rw [e]; exact k.S
    · rw [e]; trivial
    · rw [e]; exact h.know j
  · rcases through_eq (Γ := Γ) wa L' j with ⟨rfl, e⟩ | ⟨_, ⟨r, hr⟩, e⟩ | ⟨_, hnr, e⟩
    · have := h.pos; omega
    · have := (hrel hr).2.1; omega
    · rw [e]; exact h.beyond j hj
  · rcases through_eq (Γ := Γ) wa L' j with ⟨rfl, e⟩ | ⟨h0, _, e⟩ | ⟨_, hnr, e⟩
    · rw [e, k.role]; exact ⟨fun _ => rfl, fun _ => ⟨_, rfl⟩⟩
    · rw [e]; exact ⟨fun ⟨m, x⟩ => (by cases x), fun x => absurd x h0⟩
    · rw [e]; exact h.main j
  · rcases hleftj j wa' zs f s hr with ⟨e1, e2, _, e3⟩ | ⟨hr', e, hnr⟩
    · exact .inl ⟨e3, e1, e2⟩
    · rw [e]
      refine (h.left j wa' zs f s h0 hj hr').imp id fun ⟨x, y⟩ => ⟨x, ?_⟩
      have hne : wa' ≠ wa := fun x' => hnr (by rw [← x']; exact x)
      rw [through0, k.role]
      rw [k.eL, k.free.role] at y
      exact k.opens wa' hne y
  · rw [hold] at hr
    have hh := h.held j wa' h0 hr
    rcases through_eq (Γ := Γ) wa L' j with ⟨rfl, e⟩ | ⟨_, ⟨r, hj⟩, e⟩ | ⟨_, hnr, e⟩
    · omega
    · obtain ⟨_, _, ⟨zs, f, hr'⟩, _⟩ := hrel hj
      rw [hr'] at hr; cases hr
    · rw [e]; exact hh
  · rw [hold]
    have hnr : (Γ j).h = .rel wa' r ∧ through Γ wa L' j = Γ j := by
      rcases through_eq (Γ := Γ) wa L' j with ⟨rfl, e⟩ | ⟨_, _, e⟩ | ⟨_, _, e⟩
      · rw [e, k.h] at hr; cases hr
      · rw [e] at hr; cases hr
      · rw [e] at hr; exact ⟨hr, e⟩
    rw [hnr.2]
    exact h.rels j wa' r hnr.1
  · rcases hleftj j wa' zs f s hr with ⟨_, _, e2, _⟩ | ⟨hr', _, _⟩
    · omega
    · have := no_last h hreg j wa' zs f s hr'
      omega
  · have hw := h.wld
    refine ⟨fun e he => ?_, by rw [hm', k.ps.1]; have := hw.same; rw [hm] at this; exact this, by rw [hm', k.ps.1]; have := hw.chans; rw [hm] at this; exact this, by rw [hm', k.ps.1]; have := hw.fns; rw [hm] at this; exact this, fun A sp hA => (by rw [hm', k.reg.2.2.2] at hA; cases hA), fun _ j A zs cur f => hask j A zs cur f, fun j p job hj => ?_, fun k' p c v b hk => ?_, fun k1 k2 p1 p2 c v v' b b' hk hk' => hw.jobs k1 k2 p1 p2 c v v' b b' ((hwk _ _ _).1 hk) ((hwk _ _ _).1 hk'), fun j Q hQ => ?_, fun j j' Q Q' hQ hQ' => ?_, fun j Q hQ => ?_, ?_, ?_, fun wa' k' hw' => (by rw [hm', k.reg.2.2.1] at hw'; cases hw'), fun A sp hA => (by rw [hm', k.reg.2.2.2] at hA; cases hA)⟩
    · rw [hm', k.ps.1] at he
      have he' : e ∈ (Γ 0).role.m.ps := by rw [hm]; exact he
      obtain ⟨⟨s1, r1, p1⟩, ⟨s2, r2, p2⟩, p3, p3', ⟨T, p4, p5, p6⟩, p7, p8, p9⟩ := hw.pools e he'
      rw [hm] at p2 p6 p8 p9
      obtain ⟨q1, q2, q3⟩ := k.asks e he
      have hu : under n (through Γ wa L') w e = 0 := by
        unfold under
        rw [hm', k.reg.2.2.2]
      refine ⟨⟨s1, r1, p1⟩, ⟨s2, r2, by rw [hm', k.ps.2.1]; exact p2⟩, by rw [hm']; exact q2, by rw [hm']; exact q3, ⟨T, p4, p5, ?_⟩, ?_, ?_, fun hf => ?_⟩
      · rw [hu, hm', cnt_congr fun j _ => hpend e j, q1]; omega
      · refine (But.refl (ca e.b 8) w).wg (Ne.symm (ca_ne (by decide))) (Ne.symm (ca_ne (i := 8) (i' := 4) (by decide))) p7 (cnt_congr fun j _ => hold _ j) ?_ ?_ (hls _)
        · rw [hm', k.reg.2.1, hm, k.free.pnd]
        · rw [hm', k.reg.1, hm, k.free.reg]
      · rw [hm', k.ps.2.1, k.ps.2.2.1, cnt_congr fun j _ => hold _ j]; exact p8
      · rw [hm'] at hf ⊢
        rw [k.ps.2.1, cnt_congr fun j _ => hold _ j]
        rcases k.fin _ hf with x | ⟨p, hp, e1, e2, e3⟩
        · exact p9 x
        · obtain rfl := hw.same e he' p (by rw [hm]; exact hp) (.inl e1)
          have := (hw.dns wa 0 (by rw [hm]; exact k.dn)).2.2
          rw [e2] at this
          exact ⟨e3, by omega⟩
    · rw [hm', k.ps.1, k.ps.2.1]
      have := hw.work j p job ((hwk _ _ _).1 hj)
      rw [hm] at this; exact this
    · obtain ⟨h1, h2⟩ := hw.job k' p c v b ((hwk _ _ _).1 hk)
      exact ⟨h1, h2.imp fun j hj => by rw [hqq]; exact hj⟩
    · rw [hqq] at hQ
      rw [hm', k.ps.1, k.ps.2.1, k.ps.2.2.1]
      obtain ⟨q1, q2, q3⟩ := hw.q j Q hQ
      rw [hm] at q1
      exact ⟨q1, q2, fun x => (q3 x).imp (fun ⟨k', b, hk⟩ => ⟨k', b, (hwk _ _ _).2 hk⟩) id⟩
    · rw [hqq] at hQ hQ'; exact hw.qs j j' Q Q' hQ hQ'
    · rw [hqq] at hQ
      rcases hw.qwho j Q hQ with e | ⟨A, zs, cur, f, hr⟩
      · exact .inl e
      · exact absurd hr (k.noall j A zs cur f)
    · rw [hm', k.ps.1, k.ps.2.2.2.1]
      have := hw.mks; rw [hm] at this; exact this
    · rw [hm', k.ps.1, k.ps.2.2.2.2]
      intro e he
      have := hw.wss e (by rw [hm]; exact he)
      rw [hm] at this
      rw [cnt_congr fun j _ => hold _ j]; exact this
  · rcases through_eq (Γ := Γ) wa L' j with ⟨rfl, e⟩ | ⟨_, ⟨r, hr⟩, e⟩ | ⟨_, hnr, e⟩
    · exact absurd rfl hj
    · obtain ⟨_, _, ⟨zs, f, hr'⟩, hq⟩ := hrel hr
      exact .inr ⟨⟨⟨wa, zs, f, hr'⟩, hq⟩, by rw [e]; exact ⟨⟨_, _, _, rfl⟩, hq⟩, by rw [e]; rfl⟩
    · exact .inl e
end Go.Proofs.Ytaceedenkmccdaa
/- Pools: main is through with the workers of a pool; with the askers. -/
namespace Go.Proofs.Ytaceedenkmccdaa
open Go Go.Conc Go.ConcN
set_option linter.unusedSimpArgs false
set_option linter.unusedVariables false
variable {ap : Nat → Int → Int} {n : Nat} {Γ Γ' : Nat → Lo} {w w' : World} {t u : Trace}
def MainR.done (m : MainR) (p : PoolG) : MainR := { m with dn := none, fin := fun b => if b = p.b then true else m.fin b }
theorem under_none {e : PoolG} (h : (Γ 0).role.m.al = none) : under n Γ w e = 0 := by unfold under; rw [h]
theorem thru_hands [Inhabited Base] (h : Inv ap n Γ w t) {L : Lo} {m : MainR} {p : PoolG} (hL : Γ 0 = L) (hr : L.role = .main m) (hp : p ∈ m.ps) (hreg : m.reg = none) (hpnd : m.pnd = none) (hdn : m.dn = some (handsA p, 0)) (hal : m.al = none) (hcl : m.cl p.b = true) (hd : L.d = 0) (hq : L.q = none) :
    Thru n Γ w L (L.turn (.main (m.done p)) none) m (m.done p) (handsA p) := by
  have hm : (Γ 0).role.m = m := by rw [hL, hr]; rfl
  have hk := h.know 0
  rw [hL] at hk
  have hh := h.main0
  rw [hL] at hh
  refine ⟨hL, ⟨hr, .inl ⟨p, hp, rfl⟩, hreg, hpnd⟩, hdn, hd, hq, rfl, fun a ha => .inl ha, rfl, rfl, fun a ha => ha, hh, hd, rfl, hk, ⟨rfl, rfl, rfl, rfl, rfl⟩, ⟨hreg, hpnd, rfl, hal⟩, fun b hb => ?_, fun wa' hne ho => ?_, fun e he => ?_, fun j A zs cur f hr' => ?_⟩
  · simp only [MainR.done] at hb
    split at hb
    · rename_i e
      exact .inr ⟨p, hp, e, rfl, hcl⟩
    · exact .inl hb
  · rcases ho with ⟨e, he, hf, rfl⟩ | ⟨A, sp, hA, _⟩
    · refine .inl ⟨e, he, ?_, rfl⟩
      have : e.b ≠ p.b := hands_ne hne
      simp only [MainR.done, Role.m, if_neg this]
      exact hf
    · simp only [Role.m] at hA
      rw [hal] at hA; cases hA
  · have hu := under_none (n := n) (w := w) (e := e) (by rw [hm]; exact hal)
    obtain ⟨_, _, p3, p3', _⟩ := h.wld.pools e (by rw [hm]; exact he)
    rw [hm] at p3 p3'
    rw [hu]
    exact ⟨by simp [MainR.done], p3, p3'⟩
  · exact h.wld.noall (by rw [hm]; exact hal) j A zs cur f hr'
def MainR.got (m : MainR) (A : AllG) : MainR := { m with dn := none, al := none, asks := fun b => if A.cl = false ∧ A.p.map (·.b) = some b then m.asks b + A.items.length else m.asks b }
/-- Main has the answers. -/
def Lo.gathers (L : Lo) (ap : Nat → Int → Int) (m : MainR) (A : AllG) : Lo :=
  { L with M := fun a => L.M a ∨ ∃ z : Nat, z < A.items.length ∧ a = ca A.bo z, S := fun w => L.S w ∧ ∀ z : Nat, z < A.items.length → w.cell? (ca A.bo z) = some (.int .i64 (A.val ap (A.items.getD z 0))), role := .main (m.got A), q := none,
           sup := fun w w' hc hs h => ⟨L.sup w w' (fun a ha => hc a (ha.imp .inl id)) hs h.1, fun z hz => by rw [(hc _ (.inl (.inr ⟨z, hz, rfl⟩))).1]; exact h.2 z hz⟩ }
theorem thru_all [Inhabited Base] (h : Inv ap n Γ w t) {L : Lo} {m : MainR} {A : AllG} {sp : Nat} (hL : Γ 0 = L) (hr : L.role = .main m) (hal : m.al = some (A, sp)) (hreg : m.reg = none) (hpnd : m.pnd = none) (hdn : m.dn = some (groupA A, 0)) (hsp : A.items.length ≠ 0 → sp ≠ 0) (hd : L.d = 0) (hq : L.q = none)
    (hbd : ∀ p, A.p = some p → A.cl = false → m.asks p.b + A.items.length ≤ 1000000000000000) :
    Thru n Γ w L (L.gathers ap m A) m (m.got A) (groupA A) := by
  have hm : (Γ 0).role.m = m := by rw [hL, hr]; rfl
  have hA : (Γ 0).role.m.al = some (A, sp) := by rw [hm]; exact hal
  have hk := h.know 0
  rw [hL] at hk
  have hh := h.main0
  rw [hL] at hh
  obtain ⟨a1, a2, ⟨zi, a3, a4, a5⟩, a6, a7, a8, a9, a10, a11, a12, a13⟩ := h.wld.all A sp hA
  have hc0 := (h.wld.dns (groupA A) 0 (by rw [hm]; exact hdn)).2.2
  have hno : ∀ j A' zs cur f, (Γ j).role ≠ .asker A' zs cur f := fun j A' zs cur f hr' => by
    obtain rfl := a8 j A' zs cur f hr'
    have hlt : j < n := by
      rcases Nat.lt_or_ge j n with x | x
      · exact x
      · rw [h.beyond j x] at hr'; cases hr'
    have := cnt_pos (f := fun j => (Γ j).role.holds (groupA A')) hlt (by simp only [hr', Role.holds, decide_true])
    omega
  have hnx : nextOf w A = zi := by unfold nextOf; rw [a3.1]
  have hdr : drawn w A = A.items.length := by
    by_cases h0 : A.items.length = 0
    · unfold drawn; rw [hnx]; omega
    · obtain ⟨j, hj, hin⟩ := cnt_some (n := n) (f := fun j => (Γ j).role.inAll A) (by rw [a6]; have := hsp h0; omega)
      cases hrj : (Γ j).role with
      | left wa zs f s =>
        simp only [hrj, Role.inAll, decide_eq_true_eq] at hin
        subst hin
        have := (a12 j zs f s hrj).1
        unfold drawn; omega
      | asker A' zs cur f => exact absurd hrj (hno j A' zs cur f)
      | main m => simp [hrj, Role.inAll] at hin
      | worker p job => simp [hrj, Role.inAll] at hin
  have hus : (cnt n fun j => (Γ j).role.unsent) = 0 := cnt_none fun j hj => by
    cases hrj : (Γ j).role with
    | asker A' zs cur f => exact absurd hrj (hno j A' zs cur f)
    | _ => rfl
  have hun : ∀ e, under n Γ w e = if A.cl = false ∧ A.p.map (·.b) = some e.b then (A.items.length : Int) else 0 := fun e => by
    unfold under
    rw [hA]
    simp only [hdr, hus]
    split <;> simp
  have hwho : ∀ z : Nat, z < A.items.length → ∃ j r, (Γ j).h = .rel (groupA A) r ∧ (Γ j).M (ca A.bo z) ∧ w.cell? (ca A.bo z) = some (.int .i64 (A.val ap (A.items.getD z 0))) := fun z hz => by
    obtain ⟨j, hj, hzj⟩ := a10 z (by rw [hdr]; omega)
    have hM := (a13 j z hzj).2
    cases hrj : (Γ j).role with
    | left wa zs f s =>
      rw [hrj] at hzj
      simp only [Role.zs] at hzj
      split at hzj
      · rename_i e
        subst e
        have h0 : 0 < j := by
          rcases Nat.eq_zero_or_pos j with e | e
          · rw [e, hL, hr] at hrj; cases hrj
          · exact e
        rcases h.left j _ zs f s h0 hj hrj with ⟨_, e, _⟩ | ⟨⟨r, hr'⟩, _⟩
        · exact absurd e (IsWa.alive (r := (Γ 0).role) (.inr ⟨A, sp, hA, rfl⟩))
        · exact ⟨j, r, hr', hM, (a12 j zs f s hrj).2 z hzj w (h.know j)⟩
      · cases hzj
    | asker A' zs cur f => exact absurd hrj (hno j A' zs cur f)
    | main m => rw [hrj] at hzj; cases hzj
    | worker p job => rw [hrj] at hzj; cases hzj
  have hMM : ∀ a, (L.gathers ap m A).M a → L.M a ∨ ∃ j r, (Γ j).h = .rel (groupA A) r ∧ (Γ j).M a := fun a ha => by
    rcases ha with ha | ⟨z, hz, e⟩
    · exact .inl ha
    · obtain ⟨j, r, h1, h2, _⟩ := hwho z hz
      exact .inr ⟨j, r, h1, by rw [e]; exact h2⟩
  refine ⟨hL, ⟨hr, .inr ⟨A, sp, hal, rfl⟩, hreg, hpnd⟩, hdn, hd, hq, rfl, hMM, rfl, rfl, fun a ha => .inl ha, hh, hd, rfl, ⟨hk, fun z hz => ?_⟩, ⟨rfl, rfl, rfl, rfl, rfl⟩, ⟨hreg, hpnd, rfl, rfl⟩, fun b hb => .inl hb, fun wa' hne ho => ?_, fun e he => ?_, hno⟩
  · obtain ⟨j, r, _, _, h3⟩ := hwho z hz
    exact h3
  · rcases ho with ⟨e, he, hf, rfl⟩ | ⟨A', sp', hA', rfl⟩
    · exact .inl ⟨e, he, hf, rfl⟩
    · simp only [Role.m] at hA'
      rw [hal] at hA'
      cases hA'
      exact absurd rfl hne
  · obtain ⟨_, _, p3, p3', _⟩ := h.wld.pools e (by rw [hm]; exact he)
    rw [hm] at p3 p3'
    rw [hun]
    simp only [MainR.got]
    by_cases hc : A.cl = false ∧ A.p.map (·.b) = some e.b
    · rw [if_pos hc, if_pos hc]
      refine ⟨rfl, by omega, ?_⟩
      cases hp : A.p with
      | none => rw [hp] at hc; cases hc.2
      | some p =>
        rw [hp] at hc
        have e' : p.b = e.b := by have := hc.2; simpa using this
        have := hbd p hp hc.1
        rw [e'] at this; exact this
    · rw [if_neg hc, if_neg hc]
      exact ⟨by omega, p3, p3'⟩
end Go.Proofs.Ytaceedenkmccdaa
/- Pools: channels are made and closed; the count is read. -/
namespace Go.Proofs.Ytaceedenkmccdaa
open Go Go.Conc Go.ConcN
set_option linter.unusedSimpArgs false
set_option linter.unusedVariables false
variable {ap : Nat → Int → Int} {n : Nat} {Γ Γ' : Nat → Lo} {w w' : World} {t u : Trace}
/-- A step that turns no cell that stands, nor whose anything is. -/
theorem Inv.aside [Inhabited Base] (h : Inv ap n Γ w t) {i : Nat} {L : Lo} {ro : Role} {q : Option QSt} (hi : i < n) (hL : Γ i = L) (hal : L.h = .alive) (hsz : w.heap.size ≤ w'.heap.size) (hc : ∀ a : Addr, a.block < w.heap.size → w'.cell? a = w.cell? a ∧ w'.frozen? a = w.frozen? a) (hsh : ∀ c, ShutCh w c → ShutCh w' c)
    (hu : ∀ op ∈ u, op.g = i ∧ OpOk L.M L.R (AT (Γ 0).role) i w'.heap.size op.act ∧ ∀ x, op.act.touch? = some x → ∀ a, x.loc ≠ .cell a) (hd : Deaf (t ++ u) i = L.d)
    (hm : ro.m.ps = L.role.m.ps ∧ ro.m.al = L.role.m.al ∧ ro.m.fin = L.role.m.fin ∧ ro.m.reg = L.role.m.reg ∧ ro.m.pnd = L.role.m.pnd ∧ ∀ b, L.role.m.cl b = true → ro.m.cl b = true)
    (hmain : (∃ m, ro = .main m) ↔ ∃ m, L.role = .main m) (hleft : ∀ wa zs f s, ro = .left wa zs f s ↔ L.role = .left wa zs f s) (hhold : ∀ wa, ro.holds wa = L.role.holds wa) (hw : Wld ap n (upd Γ i (L.turn ro q)) w') : Inv ap n (upd Γ i (L.turn ro q)) w' (t ++ u) := by
  have eM : ∀ j, (upd Γ i (L.turn ro q) j).M = (Γ j).M ∧ (upd Γ i (L.turn ro q) j).R = (Γ j).R ∧ (upd Γ i (L.turn ro q) j).h = (Γ j).h := fun j => by
    rcases upd_eq Γ i (L.turn ro q) j with ⟨e, rfl⟩ | ⟨e, _⟩
    · rw [e, hL]; exact ⟨rfl, rfl, rfl⟩
    · rw [e]; exact ⟨rfl, rfl, rfl⟩
  have hm0 : (upd Γ i (L.turn ro q) 0).role.m.ps = (Γ 0).role.m.ps ∧ (upd Γ i (L.turn ro q) 0).role.m.al = (Γ 0).role.m.al ∧ (upd Γ i (L.turn ro q) 0).role.m.fin = (Γ 0).role.m.fin ∧ (upd Γ i (L.turn ro q) 0).role.m.reg = (Γ 0).role.m.reg ∧ (upd Γ i (L.turn ro q) 0).role.m.pnd = (Γ 0).role.m.pnd ∧ ∀ b, (Γ 0).role.m.cl b = true → (upd Γ i (L.turn ro q) 0).role.m.cl b = true := by
    rcases upd_eq Γ i (L.turn ro q) 0 with ⟨e, ei⟩ | ⟨e, _⟩
    · rw [e, ei, hL]; exact hm
    · rw [e]; exact ⟨rfl, rfl, rfl, rfl, rfl, fun _ x => x⟩
  obtain ⟨m1, m2, m3, m4, m5, m6⟩ := hm0
  have hAT : AT (upd Γ i (L.turn ro q) 0).role = AT (Γ 0).role := by funext a; simp only [AT, m1, m2]
  have hOp : ∀ wa, OpenWa (upd Γ i (L.turn ro q) 0).role wa ↔ OpenWa (Γ 0).role wa := fun wa => by simp only [OpenWa, m1, m2, m3]
  have hon : OnAT (AT (Γ 0).role) i u := fun op hop => ⟨(hu op hop).1, fun x hx a hl => absurd hl ((hu op hop).2.2 x hx a)⟩
  have hK : ∀ j wa zs f s, (upd Γ i (L.turn ro q) j).role = .left wa zs f s ↔ (Γ j).role = .left wa zs f s := fun j wa zs f s => by
    rcases upd_eq Γ i (L.turn ro q) j with ⟨e, rfl⟩ | ⟨e, _⟩
    · rw [e, hL]; exact hleft wa zs f s
    · rw [e]
  refine h.one hi ⟨hon, ?_, ?_, by rw [hd]; rfl, fun a ha => Nat.lt_of_lt_of_le (h.blk i a (by rw [hL]; exact ha)) hsz, hsz, fun a ha => by rw [hAT] at ha; exact Nat.lt_of_lt_of_le (h.blkA a ha) hsz, fun a ha => ?_, ?_, fun j hj a ha => hc a (h.blk j a ha), hsh, ?_, fun e => ?_, fun wa ho => (hOp wa).2 ho, fun wa zs f s h0 hr => ?_, fun wa h0 hr => ?_, fun wa r hr => ?_, fun wa hr => ?_, fun j wa zs f s hj hs => ?_, fun A sp hA z hz hdz => ?_, hw⟩
  · have e1 : (fun j => (upd Γ i (L.turn ro q) j).M) = fun j => (Γ j).M := funext fun j => (eM j).1
    have e2 : (fun j => (upd Γ i (L.turn ro q) j).R) = fun j => (Γ j).R := funext fun j => (eM j).2.1
    have e3 : (fun j => (upd Γ i (L.turn ro q) j).h) = fun j => (Γ j).h := funext fun j => (eM j).2.2
    rw [hAT, e1, e2, e3]
    exact h.tr.step h.apart hi (by rw [hL]; exact hal) hsz fun op hop => ⟨(hu op hop).1, by rw [hL]; exact (hu op hop).2.1⟩
  · have e1 : (fun j => (upd Γ i (L.turn ro q) j).M) = fun j => (Γ j).M := funext fun j => (eM j).1
    have e2 : (fun j => (upd Γ i (L.turn ro q) j).R) = fun j => (Γ j).R := funext fun j => (eM j).2.1
    rw [hAT, e1, e2]; exact h.apart
  · obtain ⟨v1, v2⟩ := h.virg i a (by rw [hL]; exact ha)
    exact ⟨by rw [hL] at v1; exact v1, untouched v2 hon fun hat => (h.apart.shared i a hat).1 v1⟩
  · have hk := h.know i
    rw [hL] at hk
    exact L.sup w w' (fun a ha => hc a (h.blk i a (by rw [hL]; exact ha))) hsh hk
  · have := h.main i
    rw [hL] at this
    exact hmain.trans this
  · have := h.main0
    rw [← e, hL] at this; exact this
  · have hr' : (Γ i).role = .left wa zs f s := by rw [hL]; exact (hleft _ _ _ _).1 hr
    refine (h.left i wa zs f s h0 hi hr').imp (fun ⟨x, y⟩ => ⟨by rw [hL] at x; exact x, y⟩) fun ⟨x, y⟩ => ⟨by rw [hL] at x; exact x, (hOp wa).2 y⟩
  · have := h.held i wa h0 (by rw [hL, ← hhold]; exact hr)
    rw [hL] at this; exact this
  · have := h.rels i wa r (by rw [hL]; exact hr)
    rw [hL] at this
    exact this.imp (fun x => by rw [← hhold] at x; exact x) fun ⟨zs, f, s, x⟩ => ⟨zs, f, s, (hleft _ _ _ _).2 x⟩
  · rw [m4] at hr
    rw [m5, m1, m2, m3]
    obtain ⟨h1, h2⟩ := h.regs wa hr
    exact ⟨h1, h2.imp (fun ⟨e, he, a1, a2, a3⟩ => ⟨e, he, a1, a2, m6 _ a3⟩) id⟩
  · rw [m4]
    exact h.lst j wa zs f s ((hK j wa zs f s).1 hj) hs
  · rw [m2] at hA
    rw [hAT]
    have hdr : drawn w' A = drawn w A := by
      have := (hc (ca A.bn 0) (h.blkA _ (.inr ⟨A, sp, hA, .inr (.inr rfl)⟩))).1
      unfold drawn nextOf
      rw [this]
    rw [hdr] at hdz
    obtain ⟨v1, v2, v3⟩ := h.virgin A sp hA z hz hdz
    exact ⟨v1, v2, untouched v3 hon v2⟩
/-- What the protocol says behind it, where the roles stay (but for what New and Close turn). -/
theorem Wld.aside [Inhabited Base] (h : Inv ap n Γ w t) {i : Nat} {L : Lo} {ro : Role} {q : Option QSt} (hi : i < n) (hL : Γ i = L) (hsz : w.heap.size ≤ w'.heap.size) (hc : ∀ a : Addr, a.block < w.heap.size → w'.cell? a = w.cell? a ∧ w'.frozen? a = w.frozen? a)
    (hF : ∀ {α : Type} (f : Role → α), (∀ m m', f (.main m) = f (.main m')) → f ro = f L.role)
    (hm : ro.m.ps = L.role.m.ps ∧ ro.m.al = L.role.m.al ∧ ro.m.fin = L.role.m.fin ∧ ro.m.reg = L.role.m.reg ∧ ro.m.pnd = L.role.m.pnd ∧ ro.m.rd = L.role.m.rd ∧ ro.m.ws = L.role.m.ws ∧ ro.m.dn = L.role.m.dn ∧ ro.m.asks = L.role.m.asks ∧ ∀ b, L.role.m.cl b = true → ro.m.cl b = true)
    (hcl : ∀ e ∈ (Γ 0).role.m.ps, (∃ s r, IsCh w' e.ci 0 #[] false s r) ∧ (∃ s r, IsCh w' e.ce 0 #[] ((upd Γ i (L.turn ro q) 0).role.m.cl e.b) s r))
    (hcc : ∀ A sp p, (Γ 0).role.m.al = some (A, sp) → A.p = some p → (upd Γ i (L.turn ro q) 0).role.m.cl p.b = (Γ 0).role.m.cl p.b)
    (hjc : ∀ k p job, (Γ k).role = .worker p job → job ≠ none → (upd Γ i (L.turn ro q) 0).role.m.cl p.b = false) (hbuf : ∀ c buf s r, IsCh w c 1 buf false s r → IsCh w' c 1 buf false s r)
    (hq : ∀ j Q, (upd Γ i (L.turn ro q) j).q = some Q → ((Γ j).q = some Q ∧ (upd Γ i (L.turn ro q) 0).role.m.cl Q.p.b = false) ∨ (j = i ∧ Q.sent = false ∧ (Q.p ∈ (Γ 0).role.m.ps ∧ (upd Γ i (L.turn ro q) 0).role.m.cl Q.p.b = false ∧ (Γ 0).role.m.rd Q.p.b = true) ∧ IsCh w' Q.c 1 #[] false 0 0 ∧ (∀ j' Q', (Γ j').q = some Q' → Q'.c ≠ Q.c) ∧ (i = 0 ∨ ∃ A zs cur f, L.role = .asker A zs cur f)))
    (hqk : ∀ j Q, (Γ j).q = some Q → Q.sent = true → (upd Γ i (L.turn ro q) j).q = some Q)
    (hnw : ∀ c ∈ (upd Γ i (L.turn ro q) 0).role.m.nw, IsCh w' c 0 #[] false 0 0 ∧ ∀ e ∈ (Γ 0).role.m.ps, e.ci ≠ c ∧ e.ce ≠ c) : Wld ap n (upd Γ i (L.turn ro q)) w' := by
  have hw := h.wld
  have hG : ∀ {α : Type} (f : Role → α), (∀ m m', f (.main m) = f (.main m')) → ∀ j, f (upd Γ i (L.turn ro q) j).role = f (Γ j).role := fun f hf j => by
    rcases upd_eq Γ i (L.turn ro q) j with ⟨e, rfl⟩ | ⟨e, _⟩
    · rw [e, hL]; exact hF f hf
    · rw [e]
  have hm0 : (upd Γ i (L.turn ro q) 0).role.m.ps = (Γ 0).role.m.ps ∧ (upd Γ i (L.turn ro q) 0).role.m.al = (Γ 0).role.m.al ∧ (upd Γ i (L.turn ro q) 0).role.m.fin = (Γ 0).role.m.fin ∧ (upd Γ i (L.turn ro q) 0).role.m.reg = (Γ 0).role.m.reg ∧ (upd Γ i (L.turn ro q) 0).role.m.pnd = (Γ 0).role.m.pnd ∧ (upd Γ i (L.turn ro q) 0).role.m.rd = (Γ 0).role.m.rd ∧ (upd Γ i (L.turn ro q) 0).role.m.ws = (Γ 0).role.m.ws ∧ (upd Γ i (L.turn ro q) 0).role.m.dn = (Γ 0).role.m.dn ∧ (upd Γ i (L.turn ro q) 0).role.m.asks = (Γ 0).role.m.asks ∧ ∀ b, (Γ 0).role.m.cl b = true → (upd Γ i (L.turn ro q) 0).role.m.cl b = true := by
    rcases upd_eq Γ i (L.turn ro q) 0 with ⟨e, ei⟩ | ⟨e, _⟩
    · rw [e, ei, hL]; exact hm
    · rw [e]; exact ⟨rfl, rfl, rfl, rfl, rfl, rfl, rfl, rfl, rfl, fun _ x => x⟩
  obtain ⟨m1, m2, m3, m4, m5, m6, m7, m8, m9, m10⟩ := hm0
  have eM : ∀ j, (upd Γ i (L.turn ro q) j).M = (Γ j).M ∧ (upd Γ i (L.turn ro q) j).R = (Γ j).R ∧ (upd Γ i (L.turn ro q) j).S = (Γ j).S := fun j => by
    rcases upd_eq Γ i (L.turn ro q) j with ⟨e, rfl⟩ | ⟨e, _⟩
    · rw [e, hL]; exact ⟨rfl, rfl, rfl⟩
    · rw [e]; exact ⟨rfl, rfl, rfl⟩
  have hh := fun wa => hG (fun ρ => ρ.holds wa) fun _ _ => rfl
  have hls := fun wa => hG (fun ρ => ρ.lastS wa) fun _ _ => rfl
  have hus := hG (fun ρ => ρ.unsent) fun _ _ => rfl
  have hpd := fun e => hG (fun ρ => ρ.pend e) fun _ _ => rfl
  have hfa := hG (fun ρ => ρ.failed) fun _ _ => rfl
  have hin := fun A => hG (fun ρ => ρ.inAll A) fun _ _ => rfl
  have hzs := fun A => hG (fun ρ => ρ.zs A) fun _ _ => rfl
  have hwk : ∀ j p job, (upd Γ i (L.turn ro q) j).role = .worker p job ↔ (Γ j).role = .worker p job := fun j p job => by
    have := hG (fun ρ => ρ = .worker p job) (fun _ _ => by simp) j
    exact iff_of_eq this
  have hak : ∀ j A zs cur f, (upd Γ i (L.turn ro q) j).role = .asker A zs cur f ↔ (Γ j).role = .asker A zs cur f := fun j A zs cur f => by
    have := hG (fun ρ => ρ = .asker A zs cur f) (fun _ _ => by simp) j
    exact iff_of_eq this
  have hlk : ∀ j wa zs f s, (upd Γ i (L.turn ro q) j).role = .left wa zs f s ↔ (Γ j).role = .left wa zs f s := fun j wa zs f s => by
    have := hG (fun ρ => ρ = .left wa zs f s) (fun _ _ => by simp) j
    exact iff_of_eq this
  have hcA : ∀ a, AT (Γ 0).role a → w'.cell? a = w.cell? a ∧ w'.frozen? a = w.frozen? a := fun a ha => hc a (h.blkA a ha)
  obtain ⟨hpool, hall⟩ := h.groups
  have hwg : ∀ wa, AT (Γ 0).role wa → AT (Γ 0).role (sem wa) → WgOk n Γ w wa → WgOk n (upd Γ i (L.turn ro q)) w' wa := fun wa h1 h2 hx => by
    obtain ⟨st, sm, v, a1, a2, a3, a4⟩ := hx
    refine ⟨st, sm, v, a1.keep (hcA _ h1), a2.keep (hcA _ h2), ?_, ?_⟩
    · rw [cnt_congr fun j _ => hh wa j, m5]; exact a3
    · simp only [hls wa, m4]; exact a4
  have hnx : ∀ A sp, (Γ 0).role.m.al = some (A, sp) → nextOf w' A = nextOf w A := fun A sp hA => by
    unfold nextOf
    rw [(hcA _ (hall A sp hA).2.2.1).1]
  have hdr : ∀ A sp, (Γ 0).role.m.al = some (A, sp) → drawn w' A = drawn w A := fun A sp hA => by unfold drawn; rw [hnx A sp hA]
  refine ⟨fun e he => ?_, by rw [m1]; exact hw.same, by rw [m1]; exact hw.chans, by rw [m1]; exact hw.fns, fun A sp hA => ?_, fun hA j A zs cur f hj => ?_, fun j p job hj => ?_, fun k p c v b hk => ?_, fun k1 k2 p1 p2 c v v' b b' hk hk' => hw.jobs k1 k2 p1 p2 c v v' b b' ((hwk _ _ _).1 hk) ((hwk _ _ _).1 hk'), fun j Q hQ => ?_, fun j j' Q Q' hQ hQ' e => ?_, fun j Q hQ => ?_, by rw [m1]; exact hnw, ?_, fun wa k hk => ?_, fun A sp hA j zs cur hj => ?_⟩
  · rw [m1] at he
    obtain ⟨_, _, p3, p3', ⟨T, p4, p5, p6⟩, p7, p8, p9⟩ := hw.pools e he
    obtain ⟨g1, g2, g3, _⟩ := hpool e he
    have hcle : (upd Γ i (L.turn ro q) 0).role.m.cl e.b = false → (Γ 0).role.m.cl e.b = false := fun x => by
      cases hx : (Γ 0).role.m.cl e.b with
      | false => rfl
      | true => rw [m10 _ hx] at x; cases x
    refine ⟨(hcl e he).1, (hcl e he).2, by rw [m9]; exact p3, by rw [m9]; exact p3', ⟨T, p4.keep (hcA _ g3), p5, ?_⟩, hwg _ g1 g2 p7, fun x y => ?_, fun hf => ?_⟩
    · rw [m9, under_next (Γ := Γ) (w := w) m2 fun A sp hA => by rw [hdr A sp hA, cnt_congr fun j _ => hus j], cnt_congr fun j _ => hpd e j]; exact p6
    · rw [m6] at y
      rw [cnt_congr fun j _ => hh _ j]; exact p8 (hcle x) y
    · rw [m3] at hf
      rw [cnt_congr fun j _ => hh _ j]
      exact ⟨m10 _ (p9 hf).1, (p9 hf).2⟩
  · rw [m2] at hA
    obtain ⟨a1, a2, ⟨z, a3, a4, a5⟩, a6, a7, a8, a9, a10, a11, a12, a13⟩ := hw.all A sp hA
    obtain ⟨g1, g2, g3, _⟩ := hall A sp hA
    refine ⟨a1, a2, ⟨z, a3.keep (hcA _ g3), a4, ?_⟩, ?_, hwg _ g1 g2 a7, fun j A' zs cur f hj => a8 j A' zs cur f ((hak _ _ _ _ _).1 hj), fun p hp => ?_, fun z hz => ?_, fun z hz hd => ?_, fun j zs f s hj => ?_, fun j z hz => ?_⟩
    · rw [cnt_congr fun j _ => by rw [hfa j, hin A j]]; exact a5
    · rw [cnt_congr fun j _ => hin A j]; exact a6
    · rw [m1, m6, hcc A sp p hA hp]; exact a9 p hp
    · rw [hdr A sp hA] at hz
      obtain ⟨j, hj, hmm⟩ := a10 z hz
      exact ⟨j, hj, by rw [hzs A j]; exact hmm⟩
    · rw [hdr A sp hA] at hd
      obtain ⟨⟨v, b1⟩, b2, b3⟩ := a11 z hz hd
      have hlt : (ca A.bo z).block < w.heap.size := by
        unfold World.cell? at b1
        rcases Nat.lt_or_ge (ca A.bo z).block w.heap.size with hb | hb
        · exact hb
        · rw [Array.getElem?_eq_none hb] at b1; simp at b1
      exact ⟨⟨v, (hc _ hlt).1.trans b1⟩, (hc _ hlt).2.trans b2, fun j => by rw [(eM j).1, (eM j).2.1]; exact b3 j⟩
    · rw [hnx A sp hA, (eM j).2.2]
      exact a12 j zs f s ((hlk _ _ _ _ _).1 hj)
    · rw [hzs A j] at hz
      rw [(eM j).1]; exact a13 j z hz
  · rw [m2] at hA
    exact hw.noall hA j A zs cur f ((hak _ _ _ _ _).1 hj)
  · rw [m1]
    have hj' := (hwk _ _ _).1 hj
    exact ⟨(hw.work j p job hj').1, fun hne => hjc j p job hj' hne⟩
  · obtain ⟨h1, j, h2⟩ := hw.job k p c v b ((hwk _ _ _).1 hk)
    exact ⟨hbuf _ _ _ _ h1, j, hqk j _ h2 rfl⟩
  · rw [m1, m6]
    rcases hq j Q hQ with ⟨hQ', hcq⟩ | ⟨rfl, hs, q1, q2, _⟩
    · obtain ⟨q1, q2, q3⟩ := hw.q j Q hQ'
      exact ⟨⟨q1.1, hcq, q1.2.2⟩, fun x => hbuf _ _ _ _ (q2 x), fun x => (q3 x).imp (fun ⟨k, b, hk⟩ => ⟨k, b, (hwk _ _ _).2 hk⟩) fun y => hbuf _ _ _ _ y⟩
    · exact ⟨q1, fun _ => q2, fun x => by rw [hs] at x; cases x⟩
  · rcases hq j Q hQ with ⟨h1, _⟩ | ⟨rfl, _, _, _, h1, _⟩ <;> rcases hq j' Q' hQ' with ⟨h2, _⟩ | ⟨rfl, _, _, _, h2, _⟩
    · exact hw.qs j j' Q Q' h1 h2 e
    · exact absurd e (h2 j Q h1)
    · exact absurd e.symm (h1 j' Q' h2)
    · rfl
  · rcases hq j Q hQ with ⟨h1, _⟩ | ⟨rfl, _, _, _, _, h1⟩
    · exact (hw.qwho j Q h1).imp id fun ⟨A, zs, cur, f, hr⟩ => ⟨A, zs, cur, f, (hak _ _ _ _ _).2 hr⟩
    · exact h1.imp id fun ⟨A, zs, cur, f, hr⟩ => ⟨A, zs, cur, f, (hak _ _ _ _ _).2 (by rw [hL]; exact hr)⟩
  · rw [m1, m7]
    intro e he
    rw [cnt_congr fun j _ => hh _ j]; exact hw.wss e he
  · rw [m8] at hk
    rw [m5, m4, cnt_congr fun j _ => hh _ j]
    exact hw.dns wa k hk
  · rw [m2] at hA
    rw [hnx A sp hA]
    exact hw.fls A sp hA j zs cur ((hak _ _ _ _ _).1 hj)
end Go.Proofs.Ytaceedenkmccdaa
/- Pools: channels are made and closed; the count is read: each. -/
namespace Go.Proofs.Ytaceedenkmccdaa
open Go Go.Conc Go.ConcN
set_option linter.unusedSimpArgs false
set_option linter.unusedVariables false
variable {ap : Nat → Int → Int} {n : Nat} {Γ Γ' : Nat → Lo} {w w' : World} {t u : Trace}
theorem alloc_heap (w : World) (o : Obj) : (w.alloc o).heap = w.heap.push o := rfl
theorem alloc_old [Inhabited Base] (w : World) (o : Obj) {c : Nat} (h : c < w.heap.size) : (w.alloc o).heap[c]? = w.heap[c]? := by
  rw [alloc_heap, Array.getElem?_push, if_neg (Nat.ne_of_lt h)]
theorem alloc_new [Inhabited Base] (w : World) (o : Obj) : (w.alloc o).heap[w.heap.size]? = some o := by rw [alloc_heap, Array.getElem?_push, if_pos rfl]
theorem alloc_size [Inhabited Base] (w : World) (o : Obj) : (w.alloc o).heap.size = w.heap.size + 1 := by rw [alloc_heap, Array.size_push]
theorem lt_of_some {w : World} {c : Nat} {o : Obj} (h : w.heap[c]? = some o) : c < w.heap.size := by
  rcases Nat.lt_or_ge c w.heap.size with x | x
  · exact x
  · rw [Array.getElem?_eq_none x] at h; cases h
theorem alloc_keep [Inhabited Base] (w : World) (o : Obj) {c : Nat} {o' : Obj} (h : w.heap[c]? = some o') : (w.alloc o).heap[c]? = some o' := by rw [alloc_old w o (lt_of_some h)]; exact h
theorem alloc_ch [Inhabited Base] (w : World) (o : Obj) {c cap : Nat} {buf : Array Value} {cl : Bool} {s r : Nat} (h : IsCh w c cap buf cl s r) : IsCh (w.alloc o) c cap buf cl s r := let ⟨tm, e⟩ := h; ⟨tm, alloc_keep w o e⟩
theorem alloc_cell [Inhabited Base] (w : World) (o : Obj) (a : Addr) (h : a.block < w.heap.size) : (w.alloc o).cell? a = w.cell? a ∧ (w.alloc o).frozen? a = w.frozen? a := by
  have := alloc_old w o h
  simp [World.cell?, World.frozen?, this]
theorem alloc_fill [Inhabited Base] (w : World) {cap : Nat} : NoFill w (w.alloc (.chan cap #[] false 0 0 false)) := .mk (Aged.alloc _ _) fun c v s r ⟨tm, e⟩ => by
  by_cases h : c = w.heap.size
  · subst h; rw [alloc_new] at e; cases e
  · refine ⟨tm, ?_⟩
    rw [← e]
    by_cases hlt : c < w.heap.size
    · exact (alloc_old w _ hlt).symm
    · have h1 := lt_of_some e
      rw [alloc_size] at h1
      omega
theorem no_jobs [Inhabited Base] (h : Inv ap n Γ w t) (hal : (Γ 0).role.m.al = none) (hq : (Γ 0).q = none) : (∀ k p c v b, (Γ k).role ≠ .worker p (some (c, v, b))) ∧ ∀ j, (Γ j).q = none := by
  have hqn : ∀ j, (Γ j).q = none := fun j => by
    cases hj : (Γ j).q with
    | none => rfl
    | some Q =>
      rcases h.wld.qwho j Q hj with rfl | ⟨A, zs, cur, f, hr⟩
      · rw [hq] at hj; cases hj
      · exact absurd hr (h.wld.noall hal j A zs cur f)
  refine ⟨fun k p c v b hr => ?_, hqn⟩
  obtain ⟨_, j, hj⟩ := h.wld.job k p c v b hr
  rw [hqn j] at hj; cases hj
def MainR.makes (m : MainR) (c : Nat) : MainR := { m with nw := c :: m.nw }
/-- New makes a channel. -/
theorem Inv.makes [Inhabited Base] (h : Inv ap n Γ w t) {L : Lo} {m : MainR} (hL : Γ 0 = L) (hr : L.role = .main m) :
    (∀ c ∈ m.nw, c ≠ w.heap.size) ∧ Inv ap n (upd Γ 0 (L.turn (.main (m.makes w.heap.size)) L.q)) (w.alloc (.chan 0 #[] false 0 0 false)) t := by
  have hm : (Γ 0).role.m = m := by rw [hL, hr]; rfl
  have hal := h.main0
  rw [hL] at hal
  have e0 : (upd Γ 0 (L.turn (.main (m.makes w.heap.size)) L.q) 0).role.m = m.makes w.heap.size := by rw [upd_same]; rfl
  have hnw : ∀ c ∈ m.nw, c ≠ w.heap.size := fun c hc e => by
    obtain ⟨⟨tm, x⟩, _⟩ := h.wld.mks c (by rw [hm]; exact hc)
    have := lt_of_some x
    omega
  have eq : ∀ j, (upd Γ 0 (L.turn (.main (m.makes w.heap.size)) L.q) j).q = (Γ j).q := fun j => by
    rcases upd_eq Γ 0 (L.turn (.main (m.makes w.heap.size)) L.q) j with ⟨e, rfl⟩ | ⟨e, _⟩
    · rw [e, hL]; rfl
    · rw [e]
  refine ⟨hnw, ?_⟩
  have := h.aside (i := 0) (L := L) (ro := .main (m.makes w.heap.size)) (q := L.q) (w' := w.alloc (.chan 0 #[] false 0 0 false)) (u := #[]) h.pos hL hal (by rw [alloc_size]; omega) (fun a ha => alloc_cell w _ a ha) (fun c ⟨a1, a2, a3, a4, a5, e⟩ => ⟨a1, a2, a3, a4, a5, alloc_keep w _ e⟩) (fun op hop => by simp at hop) (by rw [Array.append_empty, h.deaf, hL])
    (by rw [hr]; exact ⟨rfl, rfl, rfl, rfl, rfl, fun _ x => x⟩) (by rw [hr]; exact ⟨fun _ => ⟨_, rfl⟩, fun _ => ⟨_, rfl⟩⟩) (fun wa zs f s => by rw [hr]; exact ⟨fun x => (by cases x), fun x => (by cases x)⟩) (fun wa => by rw [hr]; rfl)
    (Wld.aside h h.pos hL (by rw [alloc_size]; omega) (fun a ha => alloc_cell w _ a ha) (fun f hf => by rw [hr]; exact hf _ _) (by rw [hr]; exact ⟨rfl, rfl, rfl, rfl, rfl, rfl, rfl, rfl, rfl, fun _ x => x⟩) (fun e he => ?_) (fun A sp p _ _ => by rw [e0, hm]; rfl) (fun k p job hj hne => ?_) (fun c buf s r x => alloc_ch w _ x) (fun j Q hQ => .inl ?_) (fun j Q hQ _ => by rw [eq]; exact hQ) (fun c hc => ?_))
  · rw [Array.append_empty] at this; exact this
  · obtain ⟨⟨s1, r1, p1⟩, ⟨s2, r2, p2⟩, _⟩ := h.wld.pools e he
    rw [hm] at p2
    exact ⟨⟨s1, r1, alloc_ch w _ p1⟩, s2, r2, by rw [e0]; exact alloc_ch w _ p2⟩
  · have := (h.wld.work k p job hj).2 hne
    rw [hm] at this
    rw [e0]; exact this
  · rw [eq] at hQ
    refine ⟨hQ, ?_⟩
    have := (h.wld.q j Q hQ).1.2.1
    rw [hm] at this
    rw [e0]; exact this
  · rw [e0] at hc
    simp only [MainR.makes, List.mem_cons] at hc
    rcases hc with rfl | hc
    · refine ⟨⟨⟨false, h.old⟩, alloc_new w _⟩, fun e he => ?_⟩
      obtain ⟨⟨s1, r1, tm1, p1⟩, ⟨s2, r2, tm2, p2⟩, _⟩ := h.wld.pools e he
      have := lt_of_some p1
      have := lt_of_some p2
      exact ⟨by omega, by omega⟩
    · obtain ⟨h1, h2⟩ := h.wld.mks c (by rw [hm]; exact hc)
      exact ⟨alloc_ch w _ h1, h2⟩
/-- Ask makes the channel for the answer. -/
theorem Inv.asks [Inhabited Base] (h : Inv ap n Γ w t) {i : Nat} {L : Lo} {p : PoolG} {v : Int} (hi : i < n) (hL : Γ i = L) (hal : L.h = .alive) (hq : L.q = none) (hp : p ∈ (Γ 0).role.m.ps) (hcl : (Γ 0).role.m.cl p.b = false) (hrd : (Γ 0).role.m.rd p.b = true) (hwho : i = 0 ∨ ∃ A zs cur f, L.role = .asker A zs cur f) :
    Inv ap n (upd Γ i (L.turn L.role (some ⟨p, w.heap.size, v, false⟩))) (w.alloc (.chan 1 #[] false 0 0 false)) t := by
  have er : ∀ j, (upd Γ i (L.turn L.role (some ⟨p, w.heap.size, v, false⟩)) j).role = (Γ j).role := fun j => by
    rcases upd_eq Γ i (L.turn L.role (some ⟨p, w.heap.size, v, false⟩)) j with ⟨e, rfl⟩ | ⟨e, _⟩
    · rw [e, hL]; rfl
    · rw [e]
  have := h.aside (i := i) (L := L) (ro := L.role) (q := some ⟨p, w.heap.size, v, false⟩) (w' := w.alloc (.chan 1 #[] false 0 0 false)) (u := #[]) hi hL hal (by rw [alloc_size]; omega) (fun a ha => alloc_cell w _ a ha) (fun c ⟨a1, a2, a3, a4, a5, e⟩ => ⟨a1, a2, a3, a4, a5, alloc_keep w _ e⟩) (fun op hop => by simp at hop) (by rw [Array.append_empty, h.deaf, hL])
    ⟨rfl, rfl, rfl, rfl, rfl, fun _ x => x⟩ Iff.rfl (fun wa zs f s => Iff.rfl) (fun wa => rfl)
    (Wld.aside h hi hL (by rw [alloc_size]; omega) (fun a ha => alloc_cell w _ a ha) (fun f hf => rfl) ⟨rfl, rfl, rfl, rfl, rfl, rfl, rfl, rfl, rfl, fun _ x => x⟩ (fun e he => ?_) (fun A sp p _ _ => by rw [er]) (fun k p job hj hne => ?_) (fun c buf s r x => alloc_ch w _ x) (fun j Q hQ => ?_) (fun j Q hQ hs => ?_) (fun c hc => ?_))
  · rw [Array.append_empty] at this; exact this
  · obtain ⟨⟨s1, r1, p1⟩, ⟨s2, r2, p2⟩, _⟩ := h.wld.pools e he
    exact ⟨⟨s1, r1, alloc_ch w _ p1⟩, s2, r2, by rw [er]; exact alloc_ch w _ p2⟩
  · rw [er]; exact (h.wld.work k p job hj).2 hne
  · rw [er]
    rcases upd_eq Γ i (L.turn L.role (some ⟨p, w.heap.size, v, false⟩)) j with ⟨e, rfl⟩ | ⟨e, _⟩
    · rw [e] at hQ
      cases hQ
      refine .inr ⟨rfl, rfl, ⟨hp, hcl, hrd⟩, ⟨⟨false, h.old⟩, alloc_new w _⟩, fun j' Q' hQ' e' => ?_, hwho⟩
      obtain ⟨_, q2, q3⟩ := h.wld.q j' Q' hQ'
      have hlt : Q'.c < w.heap.size := by
        cases hs : Q'.sent with
        | false => obtain ⟨tm, x⟩ := q2 hs; exact lt_of_some x
        | true =>
          rcases q3 hs with ⟨k, b, hk⟩ | ⟨tm, x⟩
          · obtain ⟨⟨tm, x⟩, _⟩ := h.wld.job k _ _ _ b hk
            exact lt_of_some x
          · exact lt_of_some x
      simp only at e'
      omega
    · rw [e] at hQ
      exact .inl ⟨hQ, (h.wld.q j Q hQ).1.2.1⟩
  · rcases upd_eq Γ i (L.turn L.role (some ⟨p, w.heap.size, v, false⟩)) j with ⟨e, rfl⟩ | ⟨e, _⟩
    · rw [hL, hq] at hQ; cases hQ
    · rw [e]; exact hQ
  · rw [er] at hc
    obtain ⟨h1, h2⟩ := h.wld.mks c hc
    exact ⟨alloc_ch w _ h1, h2⟩
def MainR.closes (m : MainR) (p : PoolG) : MainR := { m with cl := fun b => if b = p.b then true else m.cl b }
/-- Main closes a pool. -/
theorem Inv.closes [Inhabited Base] (h : Inv ap n Γ w t) {L : Lo} {m : MainR} {p : PoolG} (hL : Γ 0 = L) (hr : L.role = .main m) (hp : p ∈ m.ps) (hcl : m.cl p.b = false) (hal0 : m.al = none) (hq : L.q = none) :
    ∃ s r tm, w.heap[p.ce]? = some (.chan 0 #[] false s r tm) ∧ ∀ w', (w'.os = w.os ∧ w'.output = w.output ∧ w'.tape = w.tape) → w'.heap.size = w.heap.size → w'.heap[p.ce]? = some (.chan 0 #[] true s r tm) → (∀ c, c ≠ p.ce → w'.heap[c]? = w.heap[c]?) → ∀ fn pos,
      Inv ap n (upd Γ 0 (L.turn (.main (m.closes p)) none)) w' (t ++ MemOp.ofEvents 0 fn pos #[⟨.obj p.ce, false, true⟩, ⟨.obj p.ce, true, true⟩]) ∧ NoFill w w' := by
  have hm : (Γ 0).role.m = m := by rw [hL, hr]; rfl
  have hp' : p ∈ (Γ 0).role.m.ps := by rw [hm]; exact hp
  have hal := h.main0
  rw [hL] at hal
  obtain ⟨_, ⟨s, r, ⟨tm, hceB⟩, hce⟩, _⟩ := h.wld.pools p hp'
  dsimp only at hce
  rw [hm, hcl] at hce
  obtain ⟨nj, nq⟩ := no_jobs h (by rw [hm]; exact hal0) (by rw [hL]; exact hq)
  refine ⟨s, r, tm, hce, fun w' hos hsz hnew hoth fn pos => ?_⟩
  have e0 : (upd Γ 0 (L.turn (.main (m.closes p)) none) 0).role.m = m.closes p := by rw [upd_same]; rfl
  have hcell : ∀ a : Addr, w'.cell? a = w.cell? a ∧ w'.frozen? a = w.frozen? a := fun a => by
    by_cases e : a.block = p.ce
    · simp [World.cell?, World.frozen?, e, hce, hnew]
    · have := hoth a.block e
      simp [World.cell?, World.frozen?, this]
  have hfill : NoFill w w' := .mk (Aged.but hos hceB hoth) fun c v s' r' ⟨tm', e⟩ => by
    by_cases ec : c = p.ce
    · subst ec; rw [hnew] at e; cases e
    · exact ⟨tm', by rw [← hoth c ec]; exact e⟩
  have hch : ∀ {c cap : Nat} {buf : Array Value} {cl : Bool} {s r : Nat}, c ≠ p.ce → IsCh w c cap buf cl s r → IsCh w' c cap buf cl s r := fun {c cap buf cl s r} hne ⟨tm', e⟩ => ⟨tm', by rw [hoth c hne]; exact e⟩
  have hq0 : ∀ j, (upd Γ 0 (L.turn (.main (m.closes p)) none) j).q = none := fun j => by
    rcases upd_eq Γ 0 (L.turn (.main (m.closes p)) none) j with ⟨e, rfl⟩ | ⟨e, _⟩
    · rw [e]; rfl
    · rw [e]; exact nq j
  have hmono : ∀ b, m.cl b = true → (m.closes p).cl b = true := fun b x => by
    by_cases e : b = p.b
    · simp [MainR.closes, e]
    · simp [MainR.closes, e, x]
  have hwld : Wld ap n (upd Γ 0 (L.turn (.main (m.closes p)) none)) w' := by
    refine Wld.aside h h.pos hL (by omega) (fun a _ => hcell a) (fun f hf => by rw [hr]; exact hf _ _) (by rw [hr]; exact ⟨rfl, rfl, rfl, rfl, rfl, rfl, rfl, rfl, rfl, hmono⟩) (fun e he => ?_) (fun A sp p' hA _ => ?_) (fun k p' job hj hne => ?_) (fun c buf s r x => hch (fun e => ?_) x) (fun j Q hQ => ?_) (fun j Q hQ _ => ?_) (fun c hc => ?_)
    · obtain ⟨⟨s1, r1, p1⟩, ⟨s2, r2, p2⟩, _⟩ := h.wld.pools e he
      rw [e0]
      refine ⟨⟨s1, r1, hch (fun x => h.wld.chans p hp' e he x.symm) p1⟩, ?_⟩
      by_cases hb : e.b = p.b
      · obtain rfl := h.wld.same e he p hp' (.inl hb)
        exact ⟨s, r, ⟨tm, hceB⟩, by simp [MainR.closes]; exact hnew⟩
      · rw [hm] at p2
        refine ⟨s2, r2, ?_⟩
        simp only [MainR.closes, if_neg hb]
        exact hch (fun x => hb (by rw [h.wld.same e he p hp' (.inr (.inl x))])) p2
    · rw [hm, hal0] at hA; cases hA
    · cases job with
      | none => exact absurd rfl hne
      | some x => obtain ⟨c, v, b⟩ := x; exact absurd hj (nj k p' c v b)
    · obtain ⟨tm', x⟩ := x.obj e
      rw [hce] at x; cases x
    · rw [hq0] at hQ; cases hQ
    · rw [nq] at hQ; cases hQ
    · rw [e0] at hc
      obtain ⟨h1, h2⟩ := h.wld.mks c (by rw [hm]; exact hc)
      exact ⟨hch (fun x => (h2 p hp').2 x.symm) h1, h2⟩
  refine ⟨h.aside (i := 0) (L := L) (ro := .main (m.closes p)) (q := none) (w' := w') (u := MemOp.ofEvents 0 fn pos #[⟨.obj p.ce, false, true⟩, ⟨.obj p.ce, true, true⟩]) h.pos hL hal (by omega) (fun a _ => hcell a) (fun c ⟨a1, a2, a3, a4, a5, e⟩ => ?_) (fun op hop => ?_) (by rw [Deaf_own, h.deaf, hL]; simp [deafBehind])
    (by rw [hr]; exact ⟨rfl, rfl, rfl, rfl, rfl, hmono⟩) (by rw [hr]; exact ⟨fun _ => ⟨_, rfl⟩, fun _ => ⟨_, rfl⟩⟩) (fun wa zs f s => by rw [hr]; exact ⟨fun x => (by cases x), fun x => (by cases x)⟩) (fun wa => by rw [hr]; rfl) hwld, hfill⟩
  · by_cases ec : c = p.ce
    · rw [ec]; exact ⟨_, _, _, _, _, hnew⟩
    · exact ⟨a1, a2, a3, a4, a5, by rw [hoth c ec]; exact e⟩
  · obtain ⟨e, he, rfl⟩ := Go.Conc.mem_ofEvents hop
    simp only [List.mem_toArray, List.mem_cons, List.not_mem_nil, or_false] at he
    have hlt := lt_of_some hnew
    rcases he with rfl | rfl
    · refine ⟨rfl, ⟨fun y hy => ?_, fun a x => (by cases x), hlt⟩, fun x hx a hl => ?_⟩
      · simp only [MemAct.ofEvent, MemAct.touch?, if_true, Option.some.injEq] at hy
        subst hy; rfl
      · simp only [MemAct.ofEvent, MemAct.touch?, if_true, Option.some.injEq] at hx
        subst hx; cases hl
    · refine ⟨rfl, ⟨fun y hy => ?_, fun a x => (by cases x), hlt⟩, fun x hx a hl => ?_⟩
      · simp [MemAct.ofEvent, MemAct.touch?] at hy
      · simp [MemAct.ofEvent, MemAct.touch?] at hx
/-- Main reads how many questions a pool has taken. -/
theorem Inv.asked [Inhabited Base] (h : Inv ap n Γ w t) {L : Lo} {m : MainR} {p : PoolG} (hL : Γ 0 = L) (hr : L.role = .main m) (hp : p ∈ m.ps) (hal0 : m.al = none) (hq : L.q = none) (fn : FuncId) (pos : String) :
    CellI w (ca p.b 8) .i64 (m.asks p.b) ∧ Inv ap n Γ w (t ++ MemOp.ofEvents 0 fn pos #[⟨.cell (ca p.b 8), false, true⟩]) := by
  have hm : (Γ 0).role.m = m := by rw [hL, hr]; rfl
  have hp' : p ∈ (Γ 0).role.m.ps := by rw [hm]; exact hp
  obtain ⟨nj, nq⟩ := no_jobs h (by rw [hm]; exact hal0) (by rw [hL]; exact hq)
  obtain ⟨_, _, _, _, ⟨T, p4, p5, p6⟩, _⟩ := h.wld.pools p hp'
  have hpd : (cnt n fun j => (Γ j).role.pend p) = 0 := cnt_none fun j hj => by
    cases hrj : (Γ j).role with
    | worker p' job =>
      cases job with
      | none => rfl
      | some x => obtain ⟨c, v, b⟩ := x; exact absurd hrj (nj j p' c v b)
    | _ => rfl
  rw [under_none (by rw [hm]; exact hal0), hpd, hm] at p6
  have hT : T = m.asks p.b := by omega
  refine ⟨by rw [← hT]; exact p4, ?_⟩
  have hat : AT (Γ 0).role (ca p.b 8) := .inl ⟨p, hp', .inr (.inr rfl)⟩
  have hs1 : ∀ e ∈ (#[⟨.cell (ca p.b 8), false, true⟩] : Array Event), SyncEv (ca p.b 8) e := fun e he => by
    simp only [List.mem_toArray, List.mem_cons, List.not_mem_nil, or_false] at he
    rw [he]; exact .inl ⟨_, rfl⟩
  have hid : upd Γ 0 L = Γ := by
    funext j
    rcases upd_eq Γ 0 L j with ⟨e, rfl⟩ | ⟨e, _⟩
    · rw [e, hL]
    · rw [e]
  have hal := h.main0
  rw [hL] at hal
  have := h.loc (u := MemOp.ofEvents 0 fn pos #[⟨.cell (ca p.b 8), false, true⟩]) (w' := w) (L := L) (L' := L) h.pos hL hal (fun wa zs f s x => by rw [hr] at x; cases x) rfl rfl rfl ⟨Nat.le_refl _, fun _ _ _ => ⟨rfl, rfl⟩, fun _ _ _ _ _ _ _ x => x, ⟨Aged.refl _, fun _ _ _ _ x => x⟩⟩ (fun a x => .inl x) (fun a x => .inl x) (fun _ _ _ x => x) (fun a x => h.blk 0 a (.inl (by rw [hL]; exact x)))
    (fun a x => ⟨by have := (h.virg 0 a (by rw [hL]; exact x)).1; rw [hL] at this; exact this, .inl x, fun op hop y hy hl => ?_⟩) (by have := h.know 0; rw [hL] at this; exact this) (fun op hop => ?_) (by rw [Deaf_own, h.deaf, hL]; simp [deafBehind])
  · rw [hid] at this; exact this
  · obtain ⟨e, he, rfl⟩ := Go.Conc.mem_ofEvents hop
    rw [((hs1 e he).touch hy).1] at hl
    cases hl
    exact (h.apart.shared 0 _ hat).1 (h.virg 0 _ (by rw [hL]; exact x)).1
  · exact opOk_sync hat hs1 (h.blkA _ hat) fn pos op hop
end Go.Proofs.Ytaceedenkmccdaa
/- Pools: a new pool, a new call of All. -/
namespace Go.Proofs.Ytaceedenkmccdaa
open Go Go.Conc Go.ConcN
set_option linter.unusedSimpArgs false
set_option linter.unusedVariables false
variable {ap : Nat → Int → Int} {n : Nat} {Γ Γ' : Nat → Lo} {w w' : World} {t u : Trace}
theorem Inv.reg [Inhabited Base] (h : Inv ap n Γ w t) {L L' : Lo} {m m' : MainR} (hL : Γ 0 = L) (hr : L.role = .main m) (hr' : L'.role = .main m') (hM : ∀ a, L'.M a → L.M a) (hR : ∀ a, L'.R a → L.R a) (hV : ∀ a, L'.V a → L.V a ∧ L'.M a) (hh : L'.h = L.h) (hd : L'.d = L.d) (hS : L'.S w)
    (hAT : ∀ a, AT (.main m') a → AT (.main m) a ∨ (L.V a ∧ ¬ L'.M a ∧ ¬ L'.R a)) (hop : ∀ wa, OpenWa (.main m) wa → OpenWa (.main m') wa) (hreg : m'.reg = none) (hreg0 : m.reg = none)
    (hvg : ∀ A sp, m'.al = some (A, sp) → ∀ z : Nat, z < A.items.length → drawn w A ≤ z → ca A.bo z ≠ ca A.bn 0 ∧ ¬ AT (.main m') (ca A.bo z) ∧ ∀ idx x, touchAt t idx = some x → x.loc ≠ .cell (ca A.bo z)) (hw : Wld ap n (upd Γ 0 L') w) : Inv ap n (upd Γ 0 L') w t := by
  have hm : (Γ 0).role = .main m := by rw [hL, hr]
  have e0 : (upd Γ 0 L' 0).role = .main m' := by rw [upd_same]; exact hr'
  have hal := h.main0
  rw [hL] at hal
  have hMM : ∀ j a, (upd Γ 0 L' j).M a → (Γ j).M a := fun j a hj => by
    rcases upd_eq Γ 0 L' j with ⟨e, rfl⟩ | ⟨e, _⟩
    · rw [e] at hj; rw [hL]; exact hM a hj
    · rw [e] at hj; exact hj
  have hRR : ∀ j a, (upd Γ 0 L' j).R a → (Γ j).R a := fun j a hj => by
    rcases upd_eq Γ 0 L' j with ⟨e, rfl⟩ | ⟨e, _⟩
    · rw [e] at hj; rw [hL]; exact hR a hj
    · rw [e] at hj; exact hj
  have hon : OnAT (AT (Γ 0).role) 0 (#[] : Trace) := fun op hop => by simp at hop
  have hnew : ∀ a, AT (.main m') a → ¬ AT (.main m) a → ∀ idx x, touchAt t idx = some x → x.loc ≠ .cell a := fun a h1 h2 => by
    rcases hAT a h1 with x | ⟨x, _⟩
    · exact absurd x h2
    · exact (h.virg 0 a (by rw [hL]; exact x)).2
  have hblkA : ∀ a, AT (.main m') a → a.block < w.heap.size := fun a ha => by
    rcases hAT a ha with x | ⟨x, _⟩
    · exact h.blkA a (by rw [hm]; exact x)
    · exact h.blk 0 a (.inl (h.virg 0 a (by rw [hL]; exact x)).1)
  have hk := h.one (u := #[]) (w' := w) (L' := L') h.pos ⟨hon, ?_, ⟨fun i j a hi hj => h.apart.own i j a (hMM i a hi) (hMM j a hj), fun i j a hi hj => h.apart.read i j a (hMM i a hi) (hRR j a hj), fun j a ha => ?_⟩, by rw [Array.append_empty, h.deaf, hL, hd], fun a ha => h.blk 0 a (by rw [hL]; exact ha.imp (hM a) (hR a)), Nat.le_refl _, fun a ha => hblkA a (by rw [e0] at ha; exact ha), fun a ha => ?_, hS, fun j _ a _ => ⟨rfl, rfl⟩, fun c x => x, ⟨fun _ => rfl, fun _ => ⟨_, hr'⟩⟩, fun _ => hh.trans hal, fun wa ho => by rw [e0]; rw [hm] at ho; exact hop wa ho, fun wa zs f s h0 _ => absurd h0 (Nat.lt_irrefl 0), fun wa h0 _ => absurd h0 (Nat.lt_irrefl 0), fun wa r x => ?_, fun wa x => ?_, fun j wa zs f s hj hs => ?_, fun A sp hA z hz hdz => ?_, hw⟩
  · rw [Array.append_empty] at hk; exact hk
  · rw [e0, Array.append_empty]
    have := h.tr
    rw [hm] at this
    refine this.relabel' (fun i a hi => this.mine i a (hMM i a hi)) (fun i a hi => this.read i a (hRR i a hi)) (fun a ha => ?_) (fun j b r a hj ha => ?_) fun j => ?_
    · by_cases x : AT (.main m) a
      · exact this.shared a x
      · exact fun idx y hy hl => absurd hl (hnew a ha x idx y hy)
    · have hj' : (Γ j).h = .rel b r := by
        rcases upd_eq Γ 0 L' j with ⟨e, rfl⟩ | ⟨e, _⟩
        · rw [e, hh, hal] at hj; cases hj
        · rw [e] at hj; exact hj
      exact this.relM j b r a hj' (hMM j a ha)
    · rcases upd_eq Γ 0 L' j with ⟨e, rfl⟩ | ⟨e, _⟩
      · rw [e, hh, hL]
      · rw [e]
  · try dsimp only
    rw [e0] at ha
    rcases hAT a ha with x | ⟨x, x1, x2⟩
    · have := h.apart.shared j a (by rw [hm]; exact x)
      exact ⟨fun y => this.1 (hMM j a y), fun y => this.2 (hRR j a y)⟩
    · have hM0 := (h.virg 0 a (by rw [hL]; exact x)).1
      refine ⟨fun y => ?_, fun y => ?_⟩
      · have := h.apart.own 0 j a hM0 (hMM j a y)
        subst this
        rw [upd_same] at y; exact x1 y
      · have := h.apart.read 0 j a hM0 (hRR j a y)
        subst this
        rw [upd_same] at y; exact x2 y
  · obtain ⟨v1, v2⟩ := hV a ha
    rw [Array.append_empty]
    exact ⟨v2, (h.virg 0 a (by rw [hL]; exact v1)).2⟩
  · have := (hh.trans hal).symm.trans x
    cases this
  · rw [e0] at x
    have : m'.reg = some wa := x
    rw [hreg] at this; cases this
  · rcases upd_eq Γ 0 L' j with ⟨e, rfl⟩ | ⟨e, _⟩
    · rw [e, hr'] at hj; cases hj
    · rw [e] at hj
      have := h.lst j wa zs f s hj hs
      rw [hm] at this
      have : m.reg = some wa := this
      rw [hreg0] at this; cases this
  · rw [e0] at hA ⊢
    rw [Array.append_empty]
    exact hvg A sp hA z hz hdz
def MainR.adds (m : MainR) (p : PoolG) : MainR := { m with ps := p :: m.ps, nw := [], cl := fun b => if b = p.b then false else m.cl b, rd := fun b => if b = p.b then false else m.rd b, fin := fun b => if b = p.b then false else m.fin b, asks := fun b => if b = p.b then 0 else m.asks b, ws := fun b => if b = p.b then 0 else m.ws b }
theorem Inv.newPool [Inhabited Base] (h : Inv ap n Γ w t) {L L' : Lo} {m : MainR} {p : PoolG} (hL : Γ 0 = L) (hr : L.role = .main m) (hr' : L'.role = .main (m.adds p)) (hq' : L'.q = L.q) (hM : ∀ a, L'.M a → L.M a ∧ a ≠ ca p.b 3 ∧ a ≠ ca p.b 4 ∧ a ≠ ca p.b 8) (hR : ∀ a, L'.R a → L.R a ∧ a ≠ ca p.b 3 ∧ a ≠ ca p.b 4 ∧ a ≠ ca p.b 8) (hV : ∀ a, L'.V a → L.V a ∧ L'.M a) (hh : L'.h = L.h) (hd : L'.d = L.d) (hS : L'.S w)
    (hv : L.V (ca p.b 3) ∧ L.V (ca p.b 4) ∧ L.V (ca p.b 8)) (hc : CellI w (ca p.b 3) .u64 0 ∧ CellI w (ca p.b 4) .u32 0 ∧ CellI w (ca p.b 8) .i64 0) (hnw : p.ci ∈ m.nw ∧ p.ce ∈ m.nw ∧ p.ce ≠ p.ci) (hal : m.al = none) (hreg : m.reg = none) (hpnd : m.pnd = none) (hdn : m.dn = none) (hfn : p.fn = 9 ∨ p.fn = 14) :
    Inv ap n (upd Γ 0 L') w t := by
  have hm : (Γ 0).role.m = m := by rw [hL, hr]; rfl
  have hro : (Γ 0).role = .main m := by rw [hL, hr]
  have e0 : (upd Γ 0 L' 0).role.m = m.adds p := by rw [upd_same, hr']; rfl
  obtain ⟨hpool, hall⟩ := h.groups
  have hMv : ∀ a, L.V a → (Γ 0).M a := fun a ha => (h.virg 0 a (by rw [hL]; exact ha)).1
  have hnb : ∀ e ∈ m.ps, e.b ≠ p.b := fun e he x => by
    have h1 := (hpool e (by rw [hm]; exact he)).1
    have h2 := hMv _ hv.1
    rw [← x] at h2
    exact (h.apart.shared 0 _ h1).1 h2
  have hwk : ∀ j q job, (Γ j).role = .worker q job → q ∈ m.ps := fun j q job hj => by
    have := (h.wld.work j q job hj).1
    rw [hm] at this; exact this
  have hno : ∀ j A zs cur f, (Γ j).role ≠ .asker A zs cur f := h.wld.noall (by rw [hm]; exact hal)
  have hG : ∀ {α : Type} (f : Role → α), (∀ m m', f (.main m) = f (.main m')) → ∀ j, f (upd Γ 0 L' j).role = f (Γ j).role := fun f hf j => by
    rcases upd_eq Γ 0 L' j with ⟨e, rfl⟩ | ⟨e, _⟩
    · rw [e, hr', hro]; exact hf _ _
    · rw [e]
  have hhold := fun wa => hG (fun ρ => ρ.holds wa) fun _ _ => rfl
  have hls := fun wa => hG (fun ρ => ρ.lastS wa) fun _ _ => rfl
  have hpd := fun e => hG (fun ρ => ρ.pend e) fun _ _ => rfl
  have hwkk : ∀ j q job, (upd Γ 0 L' j).role = .worker q job ↔ (Γ j).role = .worker q job := fun j q job => iff_of_eq (hG (fun ρ => ρ = .worker q job) (fun _ _ => by simp) j)
  have hakk : ∀ j A zs cur f, (upd Γ 0 L' j).role = .asker A zs cur f ↔ (Γ j).role = .asker A zs cur f := fun j A zs cur f => iff_of_eq (hG (fun ρ => ρ = .asker A zs cur f) (fun _ _ => by simp) j)
  have eq : ∀ j, (upd Γ 0 L' j).q = (Γ j).q := fun j => by
    rcases upd_eq Γ 0 L' j with ⟨e, rfl⟩ | ⟨e, _⟩
    · rw [e, hq', hL]
    · rw [e]
  have hne : ∀ e ∈ m.ps, ∀ b, b = e.b → ¬ b = p.b := fun e he b hb x => hnb e he (hb ▸ x)
  have hun : ∀ e, under n (upd Γ 0 L') w e = 0 ∧ under n Γ w e = 0 := fun e => ⟨under_none (by rw [e0]; exact hal), under_none (by rw [hm]; exact hal)⟩
  have hcp : (cnt n fun j => (upd Γ 0 L' j).role.holds (handsA p)) = 0 := cnt_none fun j hj => by
    rw [hhold]
    cases hrj : (Γ j).role with
    | worker q job =>
      simp only [Role.holds, decide_eq_false_iff_not]
      exact fun x => hnb q (hwk j q job hrj) (ca_inj x).1
    | asker A zs cur f => exact absurd hrj (hno j A zs cur f)
    | _ => rfl
  have hw := h.wld
  have hregΓ : (Γ 0).role.m.reg = none := by rw [hm]; exact hreg
  refine h.reg hL hr hr' (fun a ha => (hM a ha).1) (fun a ha => (hR a ha).1) hV hh hd hS (fun a ha => ?_) (fun wa ho => ?_) hreg hreg (fun A sp hA => ?_) ?_
  · rcases ha with ⟨e, he, ha⟩ | ⟨A, sp, hA, _⟩
    · rcases List.mem_cons.1 he with rfl | he
      · refine .inr ⟨?_, fun x => ?_, fun x => ?_⟩
        · rcases ha with rfl | rfl | rfl
          · exact hv.1
          · exact hv.2.1
          · exact hv.2.2
        · obtain ⟨_, x1, x2, x3⟩ := hM a x
          rcases ha with y | y | y
          · exact x1 y
          · exact x2 y
          · exact x3 y
        · obtain ⟨_, x1, x2, x3⟩ := hR a x
          rcases ha with y | y | y
          · exact x1 y
          · exact x2 y
          · exact x3 y
      · exact .inl (.inl ⟨e, he, ha⟩)
    · have : m.al = some (A, sp) := hA
      rw [hal] at this; cases this
  · rcases ho with ⟨e, he, hf, rfl⟩ | ⟨A, sp, hA, _⟩
    · refine .inl ⟨e, List.mem_cons_of_mem _ he, ?_, rfl⟩
      simp only [Role.m, MainR.adds, if_neg (hnb e he)]
      exact hf
    · have : m.al = some (A, sp) := hA
      rw [hal] at this; cases this
  · have : m.al = some (A, sp) := hA
    rw [hal] at this; cases this
  · refine ⟨fun e he => ?_, ?_, ?_, ?_, fun A sp hA => ?_, fun _ j A zs cur f hj => hno j A zs cur f ((hakk _ _ _ _ _).1 hj), fun j q job hj => ?_, fun k q c v b hk => ?_, fun k1 k2 p1 p2 c v v' b b' hk hk' => hw.jobs k1 k2 p1 p2 c v v' b b' ((hwkk _ _ _).1 hk) ((hwkk _ _ _).1 hk'), fun j Q hQ => ?_, fun j j' Q Q' hQ hQ' => ?_, fun j Q hQ => ?_, fun c hc' => ?_, fun e he => ?_, fun wa k hk => ?_, fun A sp hA => ?_⟩
    · rw [e0] at he
      rcases List.mem_cons.1 he with rfl | he
      · obtain ⟨k1, k1'⟩ := hw.mks e.ci (by rw [hm]; exact hnw.1)
        obtain ⟨k2, k2'⟩ := hw.mks e.ce (by rw [hm]; exact hnw.2.1)
        refine ⟨⟨0, 0, k1⟩, ⟨0, 0, by rw [e0]; simp only [MainR.adds, if_true]; exact k2⟩, by rw [e0]; simp [MainR.adds], by rw [e0]; simp [MainR.adds], ⟨0, hc.2.2, Int.le_refl _, ?_⟩, ?_, fun _ x => ?_, fun x => ?_⟩
        · rw [(hun e).1, e0]
          have : (cnt n fun j => (upd Γ 0 L' j).role.pend e) = 0 := cnt_none fun j hj => by
            rw [hpd]
            cases hrj : (Γ j).role with
            | worker q job =>
              have := hnb q (hwk j q job hrj)
              cases job with
              | none => rfl
              | some x =>
                obtain ⟨c, v, b⟩ := x
                cases b with
                | true => rfl
                | false => simp [Role.pend, this]
            | _ => rfl
          rw [this]; simp [MainR.adds]
        · refine ⟨0, 0, 0, hc.1, hc.2.1, ?_, .inl ⟨by rw [e0]; show ¬ m.reg = _; rw [hreg]; simp, fun j => ?_, by simp, rfl⟩⟩
          · rw [hcp, e0]
            show _ = 0 + (if m.pnd = some (handsA e) then 1 else 0)
            rw [hpnd]; simp
          · rw [hls]; exact no_last' h hregΓ _ j
        · rw [e0] at x; simp [MainR.adds] at x
        · rw [e0] at x; simp [MainR.adds] at x
      · have he' : e ∈ (Γ 0).role.m.ps := by rw [hm]; exact he
        obtain ⟨p1, ⟨s2, r2, p2⟩, p3, p3', ⟨T, p4, p5, p6⟩, p7, p8, p9⟩ := hw.pools e he'
        have hb := hnb e he
        rw [hm] at p2 p3 p3' p6 p8 p9
        refine ⟨p1, ⟨s2, r2, by rw [e0]; simp only [MainR.adds, if_neg hb]; exact p2⟩, by rw [e0]; simp only [MainR.adds, if_neg hb]; exact p3, by rw [e0]; simp only [MainR.adds, if_neg hb]; exact p3', ⟨T, p4, p5, ?_⟩, ?_, ?_, ?_⟩
        · rw [(hun e).1, cnt_congr fun j _ => hpd e j, e0]
          rw [(hun e).2] at p6
          simp only [MainR.adds, if_neg hb]; exact p6
        · refine (But.refl (ca e.b 8) w).wg (Ne.symm (ca_ne (by decide))) (Ne.symm (ca_ne (i := 8) (i' := 4) (by decide))) p7 (cnt_congr fun j _ => hhold _ j) ?_ ?_ (hls _)
          · rw [e0, hm]; exact Iff.rfl
          · rw [e0, hm]; exact Iff.rfl
        · rw [e0, cnt_congr fun j _ => hhold _ j]
          simp only [MainR.adds, if_neg hb]; exact p8
        · rw [e0, cnt_congr fun j _ => hhold _ j]
          simp only [MainR.adds, if_neg hb]; exact p9
    · rw [e0]
      intro e he e' he' hx
      obtain ⟨_, k1'⟩ := hw.mks p.ci (by rw [hm]; exact hnw.1)
      obtain ⟨_, k2'⟩ := hw.mks p.ce (by rw [hm]; exact hnw.2.1)
      rw [hm] at k1' k2'
      rcases List.mem_cons.1 he with rfl | hx1 <;> rcases List.mem_cons.1 he' with rfl | hx2
      · rfl
      · rcases hx with x | x | x
        · exact absurd x.symm (hnb e' hx2)
        · exact absurd x.symm (k2' e' hx2).2
        · exact absurd x.symm (k1' e' hx2).1
      · rcases hx with x | x | x
        · exact absurd x (hnb e hx1)
        · exact absurd x (k2' e hx1).2
        · exact absurd x (k1' e hx1).1
      · have := hw.same e (by rw [hm]; exact hx1) e' (by rw [hm]; exact hx2) hx
        exact this
    · rw [e0]
      intro e he e' he'
      obtain ⟨_, k1'⟩ := hw.mks p.ci (by rw [hm]; exact hnw.1)
      obtain ⟨_, k2'⟩ := hw.mks p.ce (by rw [hm]; exact hnw.2.1)
      rw [hm] at k1' k2'
      rcases List.mem_cons.1 he with rfl | hx1 <;> rcases List.mem_cons.1 he' with rfl | hx2
      · exact hnw.2.2
      · exact fun x => (k2' e' hx2).1 x.symm
      · exact (k1' e hx1).2
      · exact hw.chans e (by rw [hm]; exact hx1) e' (by rw [hm]; exact hx2)
    · rw [e0]
      intro e he
      rcases List.mem_cons.1 he with rfl | he
      · exact hfn
      · exact hw.fns e (by rw [hm]; exact he)
    · rw [e0] at hA
      have : m.al = some (A, sp) := hA
      rw [hal] at this; cases this
    · have hj' := (hwkk _ _ _).1 hj
      have hb := hnb q (hwk j q job hj')
      have := (hw.work j q job hj').2
      rw [hm] at this
      rw [e0]
      exact ⟨List.mem_cons_of_mem _ (hwk j q job hj'), fun x => by simp only [MainR.adds, if_neg hb]; exact this x⟩
    · obtain ⟨h1, h2⟩ := hw.job k q c v b ((hwkk _ _ _).1 hk)
      exact ⟨h1, h2.imp fun j hj => by rw [eq]; exact hj⟩
    · rw [eq] at hQ
      obtain ⟨q1, q2, q3⟩ := hw.q j Q hQ
      rw [hm] at q1
      have hb := hnb Q.p q1.1
      rw [e0]
      exact ⟨⟨List.mem_cons_of_mem _ q1.1, by simp only [MainR.adds, if_neg hb]; exact q1.2.1, by simp only [MainR.adds, if_neg hb]; exact q1.2.2⟩, q2, fun x => (q3 x).imp (fun ⟨k, b, hk⟩ => ⟨k, b, (hwkk _ _ _).2 hk⟩) id⟩
    · rw [eq] at hQ hQ'; exact hw.qs j j' Q Q' hQ hQ'
    · rw [eq] at hQ
      exact (hw.qwho j Q hQ).imp id fun ⟨A, zs, cur, f, hr⟩ => ⟨A, zs, cur, f, (hakk _ _ _ _ _).2 hr⟩
    · rw [e0] at hc'; simp [MainR.adds] at hc'
    · rw [e0] at he ⊢
      rcases List.mem_cons.1 he with rfl | he
      · rw [hcp]; simp [MainR.adds]
      · have := hw.wss e (by rw [hm]; exact he)
        rw [hm] at this
        rw [cnt_congr fun j _ => hhold _ j]
        simp only [MainR.adds, if_neg (hnb e he)]; exact this
    · rw [e0] at hk
      have : m.dn = some (wa, k) := hk
      rw [hdn] at this; cases this
    · rw [e0] at hA
      have : m.al = some (A, sp) := hA
      rw [hal] at this; cases this
end Go.Proofs.Ytaceedenkmccdaa
/- Pools: a new call of All. -/
namespace Go.Proofs.Ytaceedenkmccdaa
open Go Go.Conc Go.ConcN
set_option linter.unusedSimpArgs false
set_option linter.unusedVariables false
variable {ap : Nat → Int → Int} {n : Nat} {Γ Γ' : Nat → Lo} {w w' : World} {t u : Trace}
def MainR.calls (m : MainR) (A : AllG) (sp : Nat) : MainR := { m with al := some (A, sp) }
/-- The cells that All shares. -/
def OfAll (A : AllG) (a : Addr) : Prop := a = ca A.bw 0 ∨ a = ca A.bw 1 ∨ a = ca A.bn 0 ∨ ∃ z : Nat, z < A.items.length ∧ a = ca A.bo z
theorem Inv.newAll [Inhabited Base] (h : Inv ap n Γ w t) {L L' : Lo} {m : MainR} {A : AllG} (hL : Γ 0 = L) (hr : L.role = .main m) (hr' : L'.role = .main (m.calls A 0)) (hq : L.q = none) (hq' : L'.q = none) (hM : ∀ a, L'.M a → L.M a ∧ ¬ OfAll A a) (hR : ∀ a, L'.R a → L.R a ∧ ¬ OfAll A a) (hV : ∀ a, L'.V a → L.V a ∧ L'.M a) (hh : L'.h = L.h) (hd : L'.d = L.d) (hS : L'.S w)
    (hv : ∀ a, OfAll A a → L.V a) (hc : CellI w (ca A.bw 0) .u64 0 ∧ CellI w (ca A.bw 1) .u32 0 ∧ CellI w (ca A.bn 0) .i64 0) (hbo : ∀ z : Nat, z < A.items.length → (∃ v, w.cell? (ca A.bo z) = some v) ∧ w.frozen? (ca A.bo z) = false) (hne : A.bo ≠ A.bw ∧ A.bo ≠ A.bn) (hlen : A.items.length ≤ 1000000000000000)
    (hal : m.al = none) (hreg : m.reg = none) (hpnd : m.pnd = none) (hdn : m.dn = none) (hp : ∀ p, A.p = some p → p ∈ m.ps ∧ m.cl p.b = A.cl ∧ m.rd p.b = true) : Inv ap n (upd Γ 0 L') w t := by
  have hm : (Γ 0).role.m = m := by rw [hL, hr]; rfl
  have hro : (Γ 0).role = .main m := by rw [hL, hr]
  have e0 : (upd Γ 0 L' 0).role.m = m.calls A 0 := by rw [upd_same, hr']; rfl
  obtain ⟨hpool, hall⟩ := h.groups
  have hMv : ∀ a, L.V a → (Γ 0).M a := fun a ha => (h.virg 0 a (by rw [hL]; exact ha)).1
  have hno : ∀ j A zs cur f, (Γ j).role ≠ .asker A zs cur f := h.wld.noall (by rw [hm]; exact hal)
  have hG : ∀ {α : Type} (f : Role → α), (∀ m m', f (.main m) = f (.main m')) → ∀ j, f (upd Γ 0 L' j).role = f (Γ j).role := fun f hf j => by
    rcases upd_eq Γ 0 L' j with ⟨e, rfl⟩ | ⟨e, _⟩
    · rw [e, hr', hro]; exact hf _ _
    · rw [e]
  have hhold := fun wa => hG (fun ρ => ρ.holds wa) fun _ _ => rfl
  have hls := fun wa => hG (fun ρ => ρ.lastS wa) fun _ _ => rfl
  have hpd := fun e => hG (fun ρ => ρ.pend e) fun _ _ => rfl
  have hus := hG (fun ρ => ρ.unsent) fun _ _ => rfl
  have hin := hG (fun ρ => ρ.inAll A) fun _ _ => rfl
  have hfa := hG (fun ρ => ρ.failed) fun _ _ => rfl
  have hzs := fun A => hG (fun ρ => ρ.zs A) fun _ _ => rfl
  have hwkk : ∀ j q job, (upd Γ 0 L' j).role = .worker q job ↔ (Γ j).role = .worker q job := fun j q job => iff_of_eq (hG (fun ρ => ρ = .worker q job) (fun _ _ => by simp) j)
  have hakk : ∀ j A zs cur f, (upd Γ 0 L' j).role = .asker A zs cur f ↔ (Γ j).role = .asker A zs cur f := fun j A zs cur f => iff_of_eq (hG (fun ρ => ρ = .asker A zs cur f) (fun _ _ => by simp) j)
  have hlkk : ∀ j wa zs f s, (upd Γ 0 L' j).role = .left wa zs f s ↔ (Γ j).role = .left wa zs f s := fun j wa zs f s => iff_of_eq (hG (fun ρ => ρ = .left wa zs f s) (fun _ _ => by simp) j)
  have eq : ∀ j, (upd Γ 0 L' j).q = (Γ j).q := fun j => by
    rcases upd_eq Γ 0 L' j with ⟨e, rfl⟩ | ⟨e, _⟩
    · rw [e, hq', hL, hq]
    · rw [e]
  have hnl : ∀ j zs f s, (Γ j).role ≠ .left (groupA A) zs f s := fun j zs f s hj => by
    rcases Nat.lt_or_ge j n with hlt | hge
    · rcases Nat.eq_zero_or_pos j with e | e
      · rw [e, hro] at hj; cases hj
      · rcases h.left j _ zs f s e hlt hj with ⟨_, x, _⟩ | ⟨_, ⟨e', _, _, x⟩ | ⟨A', sp, x, _⟩⟩
        · have := congrArg Addr.off x; simp [groupA, ca, dead] at this
        · exact ca_ne (by decide) x
        · rw [hm, hal] at x; cases x
    · rw [h.beyond j hge] at hj
      have : dead = groupA A := (Role.left.inj hj).1
      have := congrArg Addr.off this
      simp [groupA, ca, dead] at this
  have hio : ∀ j, (Γ j).role.inAll A = false := fun j => by
    cases hrj : (Γ j).role with
    | left wa zs f s =>
      simp only [Role.inAll, decide_eq_false_iff_not]
      intro x
      rw [x] at hrj
      exact hnl j zs f s hrj
    | asker A' zs cur f => exact absurd hrj (hno j A' zs cur f)
    | _ => rfl
  have hzo : ∀ j, (Γ j).role.zs A = [] := fun j => by
    cases hrj : (Γ j).role with
    | left wa zs f s =>
      simp only [Role.zs]
      rw [if_neg]
      intro x
      rw [x] at hrj
      exact hnl j zs f s hrj
    | asker A' zs cur f => exact absurd hrj (hno j A' zs cur f)
    | _ => rfl
  have hu0 : (cnt n fun j => (upd Γ 0 L' j).role.unsent) = 0 := cnt_none fun j hj => by
    rw [hus]
    cases hrj : (Γ j).role with
    | asker A' zs cur f => exact absurd hrj (hno j A' zs cur f)
    | _ => rfl
  have hnx : nextOf w A = 0 := by unfold nextOf; rw [hc.2.2.1]
  have hdr : drawn w A = 0 := by unfold drawn; rw [hnx]; omega
  have hun : ∀ e, under n (upd Γ 0 L') w e = 0 := fun e => by
    unfold under
    rw [e0]
    simp only [MainR.calls, hdr, hu0]
    split <;> rfl
  have hun0 : ∀ e, under n Γ w e = 0 := fun e => under_none (by rw [hm]; exact hal)
  have hch : (cnt n fun j => (Γ j).role.holds (groupA A)) = 0 := cnt_none fun j hj => by
    cases hrj : (Γ j).role with
    | worker q job => simp only [Role.holds, decide_eq_false_iff_not]; exact ca_ne (by decide)
    | asker A' zs cur f => exact absurd hrj (hno j A' zs cur f)
    | _ => rfl
  have hw := h.wld
  have hregΓ : (Γ 0).role.m.reg = none := by rw [hm]; exact hreg
  have hboA : ∀ z : Nat, z < A.items.length → ca A.bo z ≠ ca A.bn 0 ∧ ¬ AT (.main (m.calls A 0)) (ca A.bo z) := fun z hz => by
    refine ⟨ca_ne' hne.2, fun x => ?_⟩
    rcases x with ⟨e, he, x⟩ | ⟨A', sp, hA', x⟩
    · have hat : AT (Γ 0).role (ca A.bo z) := .inl ⟨e, by rw [hm]; exact he, x⟩
      exact (h.apart.shared 0 _ hat).1 (hMv _ (hv _ (.inr (.inr (.inr ⟨z, hz, rfl⟩)))))
    · simp only [Role.m, MainR.calls, Option.some.injEq, Prod.mk.injEq] at hA'
      obtain ⟨rfl, _⟩ := hA'
      rcases x with x | x | x
      · exact ca_ne' hne.1 x
      · exact ca_ne' hne.1 x
      · exact ca_ne' hne.2 x
  have hgone : ∀ a, OfAll A a → ∀ j, ¬ (upd Γ 0 L' j).M a ∧ ¬ (upd Γ 0 L' j).R a := fun a ha j => by
    have h0 := hMv a (hv a ha)
    rcases upd_eq Γ 0 L' j with ⟨e, rfl⟩ | ⟨e, hj⟩
    · rw [e]; exact ⟨fun x => (hM a x).2 ha, fun x => (hR a x).2 ha⟩
    · rw [e]; exact ⟨fun x => hj (h.apart.own 0 j a h0 x).symm, fun x => hj (h.apart.read 0 j a h0 x).symm⟩
  refine h.reg hL hr hr' (fun a ha => (hM a ha).1) (fun a ha => (hR a ha).1) hV hh hd hS (fun a ha => ?_) (fun wa ho => ?_) hreg hreg (fun A' sp hA' z hz hdz => ?_) ?_
  · rcases ha with ha | ⟨A', sp, hA', x⟩
    · exact .inl (.inl ha)
    · simp only [Role.m, MainR.calls, Option.some.injEq, Prod.mk.injEq] at hA'
      obtain ⟨rfl, _⟩ := hA'
      have ho : OfAll A a := by
        rcases x with x | x | x
        · exact .inl x
        · exact .inr (.inl x)
        · exact .inr (.inr (.inl x))
      exact .inr ⟨hv a ho, fun y => (hM a y).2 ho, fun y => (hR a y).2 ho⟩
  · rcases ho with ho | ⟨A', sp, hA', _⟩
    · exact .inl ho
    · have : m.al = some (A', sp) := hA'
      rw [hal] at this; cases this
  · have : A = A' := by
      simp only [MainR.calls, Option.some.injEq, Prod.mk.injEq] at hA'
      exact hA'.1
    subst this
    exact ⟨(hboA z hz).1, (hboA z hz).2, (h.virg 0 _ (by rw [hL]; exact hv _ (.inr (.inr (.inr ⟨z, hz, rfl⟩))))).2⟩
  · refine ⟨fun e he => ?_, by rw [e0]; have := hw.same; rw [hm] at this; exact this, by rw [e0]; have := hw.chans; rw [hm] at this; exact this, by rw [e0]; have := hw.fns; rw [hm] at this; exact this, fun A' sp hA' => ?_, fun hA' => ?_, fun j q job hj => ?_, fun k q c v b hk => ?_, fun k1 k2 p1 p2 c v v' b b' hk hk' => hw.jobs k1 k2 p1 p2 c v v' b b' ((hwkk _ _ _).1 hk) ((hwkk _ _ _).1 hk'), fun j Q hQ => ?_, fun j j' Q Q' hQ hQ' => ?_, fun j Q hQ => ?_, ?_, ?_, fun wa k hk => ?_, fun A' sp hA' j zs cur hj => absurd ((hakk _ _ _ _ _).1 hj) (hno _ _ _ _ _)⟩
    · rw [e0] at he
      have he1 : e ∈ m.ps := he
      obtain ⟨p1, ⟨s2, r2, p2⟩, p3, p3', ⟨T, p4, p5, p6⟩, p7, p8, p9⟩ := hw.pools e (by rw [hm]; exact he1)
      rw [hm] at p2 p3 p3' p6 p8 p9
      refine ⟨p1, ⟨s2, r2, by rw [e0]; exact p2⟩, by rw [e0]; exact p3, by rw [e0]; exact p3', ⟨T, p4, p5, ?_⟩, ?_, ?_, ?_⟩
      · rw [hun, cnt_congr fun j _ => hpd e j, e0]
        rw [hun0] at p6
        exact p6
      · refine (But.refl (ca e.b 8) w).wg (Ne.symm (ca_ne (by decide))) (Ne.symm (ca_ne (i := 8) (i' := 4) (by decide))) p7 (cnt_congr fun j _ => hhold _ j) ?_ ?_ (hls _)
        · rw [e0, hm]; exact Iff.rfl
        · rw [e0, hm]; exact Iff.rfl
      · rw [e0, cnt_congr fun j _ => hhold _ j]; exact p8
      · rw [e0, cnt_congr fun j _ => hhold _ j]; exact p9
    · rw [e0] at hA'
      simp only [MainR.calls, Option.some.injEq, Prod.mk.injEq] at hA'
      obtain ⟨rfl, rfl⟩ := hA'
      refine ⟨by omega, hlen, ⟨0, hc.2.2, Int.le_refl _, by omega⟩, ?_, ?_, fun j A' zs cur f hj => absurd ((hakk _ _ _ _ _).1 hj) (hno _ _ _ _ _), fun p hpp => by rw [e0]; exact hp p hpp, fun z hz => ?_, fun z hz hdz => ⟨(hbo z hz).1, (hbo z hz).2, fun j => hgone _ (.inr (.inr (.inr ⟨z, hz, rfl⟩))) j⟩, fun j zs f s hj => absurd ((hlkk _ _ _ _ _).1 hj) (hnl _ _ _ _), fun j z hz => ?_⟩
      · exact cnt_none fun j _ => by rw [hin]; exact hio j
      · refine ⟨0, 0, 0, hc.1, hc.2.1, ?_, .inl ⟨by rw [e0]; show ¬ m.reg = _; rw [hreg]; simp, fun j => ?_, by simp, rfl⟩⟩
        · rw [cnt_congr fun j _ => hhold _ j, hch, e0]
          show _ = 0 + (if m.pnd = some (groupA A) then 1 else 0)
          rw [hpnd]; simp
        · rw [hls]; exact no_last' h hregΓ _ j
      · rw [hdr] at hz; omega
      · rw [hzs, hzo] at hz; cases hz
    · rw [e0] at hA'; simp [MainR.calls] at hA'
    · rw [e0]
      have := hw.work j q job ((hwkk _ _ _).1 hj)
      rw [hm] at this; exact this
    · obtain ⟨h1, h2⟩ := hw.job k q c v b ((hwkk _ _ _).1 hk)
      exact ⟨h1, h2.imp fun j hj => by rw [eq]; exact hj⟩
    · rw [eq] at hQ
      obtain ⟨q1, q2, q3⟩ := hw.q j Q hQ
      rw [hm] at q1
      rw [e0]
      exact ⟨q1, q2, fun x => (q3 x).imp (fun ⟨k, b, hk⟩ => ⟨k, b, (hwkk _ _ _).2 hk⟩) id⟩
    · rw [eq] at hQ hQ'; exact hw.qs j j' Q Q' hQ hQ'
    · rw [eq] at hQ
      exact (hw.qwho j Q hQ).imp id fun ⟨A, zs, cur, f, hr⟩ => ⟨A, zs, cur, f, (hakk _ _ _ _ _).2 hr⟩
    · rw [e0]
      have := hw.mks; rw [hm] at this; exact this
    · rw [e0]
      intro e he
      have := hw.wss e (by rw [hm]; exact he)
      rw [hm] at this
      rw [cnt_congr fun j _ => hhold _ j]; exact this
    · rw [e0] at hk
      have : m.dn = some (wa, k) := hk
      rw [hdn] at this; cases this
end Go.Proofs.Ytaceedenkmccdaa
/- Pools: a goroutine is started. -/
namespace Go.Proofs.Ytaceedenkmccdaa
open Go Go.Conc Go.ConcN
set_option linter.unusedSimpArgs false
set_option linter.unusedVariables false
variable {ap : Nat → Int → Int} {n : Nat} {Γ Γ' : Nat → Lo} {w w' : World} {t u : Trace}
/-- What is started: a worker, or an asker. -/
def Starts (m m' : MainR) (ro : Role) : Prop :=
  (∃ p, ro = .worker p none ∧ p ∈ m.ps ∧ m.pnd = some (handsA p) ∧ m.al = none ∧ m.ws p.b < 16 ∧ m.fin p.b = false ∧ m' = { m with pnd := none, rd := fun b => if b = p.b then true else m.rd b, ws := fun b => if b = p.b then m.ws b + 1 else m.ws b }) ∨
  (∃ A sp, ro = .asker A [] none false ∧ m.pnd = some (groupA A) ∧ m.al = some (A, sp) ∧ sp < 16 ∧ m' = { m with pnd := none, al := some (A, sp + 1) })
theorem Inv.spawn [Inhabited Base] (h : Inv ap n Γ w t) {L L' Lc : Lo} {m m' : MainR} (hL : Γ 0 = L) (hr : L.role = .main m) (hr' : L'.role = .main m') (hst : Starts m m' Lc.role) (hd : L.d = 0) (hM : ∀ a, L'.M a → L.M a) (hR : ∀ a, L'.R a → L.M a ∨ L.R a) (hV : ∀ a, L'.V a → L.V a ∧ L'.M a) (hh : L'.h = L.h) (hd' : L'.d = 0) (hS : L'.S w) (hq' : L'.q = L.q)
    (cM : ∀ a, ¬ Lc.M a) (cR : ∀ a, Lc.R a → (L.M a ∨ L.R a) ∧ ¬ L'.M a) (cV : ∀ a, ¬ Lc.V a) (cS : Lc.S w) (ch : Lc.h = .alive) (cd : Lc.d = 0) (cq : Lc.q = none) (fn : FuncId) (pos : String) (fn' : FuncId) (pos' : String) :
    Inv ap (n + 1) (upd (upd Γ 0 L') n Lc) w (t ++ #[{ g := 0, fn := fn, pos := pos, act := .go n }, { g := n, fn := fn', pos := pos', act := .start }]) := by
  have hn0 := h.pos
  have hm : (Γ 0).role.m = m := by rw [hL, hr]; rfl
  have hro : (Γ 0).role = .main m := by rw [hL, hr]
  have hal := h.main0
  rw [hL] at hal
  obtain ⟨hpool, hall⟩ := h.groups
  have g0 : upd (upd Γ 0 L') n Lc 0 = L' := by rw [upd_ne _ _ (by omega), upd_same]
  have gn : upd (upd Γ 0 L') n Lc n = Lc := upd_same _ _ _
  have go : ∀ j, j ≠ 0 → j ≠ n → upd (upd Γ 0 L') n Lc j = Γ j := fun j h1 h2 => by rw [upd_ne _ _ h2, upd_ne _ _ h1]
  have e0 : (upd (upd Γ 0 L') n Lc 0).role.m = m' := by rw [g0, hr']; rfl
  have hbn : Γ n = Lo.nil := h.beyond n (Nat.le_refl n)
  generalize hΓ : upd (upd Γ 0 L') n Lc = Γ2 at g0 gn go e0 ⊢
  -- what a start turns of main
  have hpn : ∃ wa, m.pnd = some wa := by
    rcases hst with ⟨p, _, _, x, _⟩ | ⟨A, sp, _, x, _⟩ <;> exact ⟨_, x⟩
  have hdn : m.dn = none := by
    cases hx : m.dn with
    | none => rfl
    | some y =>
      obtain ⟨wa, k⟩ := y
      have := (h.wld.dns wa k (by rw [hm]; exact hx)).1
      obtain ⟨wa', hp⟩ := hpn
      rw [hm, hp] at this; cases this
  have hreg : m.reg = none := by
    cases hx : m.reg with
    | none => rfl
    | some wa =>
      have := (h.regs wa (by rw [hm]; exact hx)).1
      obtain ⟨wa', hp⟩ := hpn
      rw [hm, hp] at this; cases this
  have hsame : m'.ps = m.ps ∧ m'.cl = m.cl ∧ m'.fin = m.fin ∧ m'.asks = m.asks ∧ m'.nw = m.nw ∧ m'.reg = m.reg ∧ m'.pnd = none ∧ m'.dn = m.dn ∧ (∀ A, (∃ sp, m'.al = some (A, sp)) ↔ ∃ sp, m.al = some (A, sp)) := by
    rcases hst with ⟨p, _, _, _, _, _, _, rfl⟩ | ⟨A, sp, _, _, x, _, rfl⟩
    · exact ⟨rfl, rfl, rfl, rfl, rfl, rfl, rfl, rfl, fun _ => Iff.rfl⟩
    · refine ⟨rfl, rfl, rfl, rfl, rfl, rfl, rfl, rfl, fun A' => ⟨fun ⟨sp', e⟩ => ?_, fun ⟨sp', e⟩ => ?_⟩⟩
      · simp only [Option.some.injEq, Prod.mk.injEq] at e
        obtain ⟨rfl, _⟩ := e
        exact ⟨sp, x⟩
      · rw [x] at e
        cases e
        exact ⟨sp + 1, rfl⟩
  obtain ⟨s1, s2, s3, s4, s5, s6, s7, s8, s9⟩ := hsame
  have hATe : AT (Γ2 0).role = AT (Γ 0).role := by
    funext a
    apply propext
    simp only [AT, e0, hm, s1]
    constructor
    · rintro (x | ⟨A, sp, x, y⟩)
      · exact .inl x
      · obtain ⟨sp', x'⟩ := (s9 A).1 ⟨sp, x⟩
        exact .inr ⟨A, sp', x', y⟩
    · rintro (x | ⟨A, sp, x, y⟩)
      · exact .inl x
      · obtain ⟨sp', x'⟩ := (s9 A).2 ⟨sp, x⟩
        exact .inr ⟨A, sp', x', y⟩
  have hOp : ∀ wa, OpenWa (Γ 0).role wa → OpenWa (Γ2 0).role wa := fun wa ho => by
    simp only [OpenWa, e0, s1, s3]
    simp only [OpenWa, hm] at ho
    rcases ho with x | ⟨A, sp, x, y⟩
    · exact .inl x
    · obtain ⟨sp', x'⟩ := (s9 A).2 ⟨sp, x⟩
      exact .inr ⟨A, sp', x', y⟩
  have hcase : ∀ j, (j = 0 ∧ Γ2 j = L') ∨ (j = n ∧ Γ2 j = Lc) ∨ (j ≠ 0 ∧ j ≠ n ∧ Γ2 j = Γ j) := fun j => by
    by_cases h1 : j = 0
    · subst h1; exact .inl ⟨rfl, g0⟩
    · by_cases h2 : j = n
      · subst h2; exact .inr (.inl ⟨rfl, gn⟩)
      · exact .inr (.inr ⟨h1, h2, go j h1 h2⟩)
  have hcnt : ∀ f : Role → Bool, (∀ m m', f (.main m) = f (.main m')) → (cnt (n + 1) fun j => f (Γ2 j).role) = (cnt n fun j => f (Γ j).role) + (if f Lc.role = true then 1 else 0) := fun f hf => by
    rw [cnt_succ, gn]
    congr 1
    refine cnt_congr fun j hj => ?_
    rcases hcase j with ⟨rfl, e⟩ | ⟨rfl, _⟩ | ⟨_, _, e⟩
    · rw [e, hr', hro]; exact hf _ _
    · omega
    · rw [e]
  have hcl : ∀ (j : Nat) (ρ : Role), (∀ m, ρ ≠ .main m) → (Γ2 j).role = ρ → (j = n ∧ Lc.role = ρ) ∨ (j ≠ 0 ∧ j ≠ n ∧ Γ2 j = Γ j ∧ (Γ j).role = ρ) := fun j ρ hρ hj => by
    rcases hcase j with ⟨rfl, e⟩ | ⟨rfl, e⟩ | ⟨h1, h2, e⟩
    · rw [e, hr'] at hj; exact absurd hj.symm (hρ _)
    · rw [e] at hj; exact .inl ⟨rfl, hj⟩
    · rw [e] at hj; exact .inr ⟨h1, h2, e, hj⟩
  have hold : ∀ (j : Nat) (ρ : Role), (∀ m, ρ ≠ .main m) → j < n → (Γ j).role = ρ → Γ2 j = Γ j := fun j ρ hρ hlt hj => by
    rcases hcase j with ⟨rfl, e⟩ | ⟨rfl, e⟩ | ⟨_, _, e⟩
    · rw [hro] at hj; exact absurd hj.symm (hρ _)
    · omega
    · exact e
  have hMR : ∀ j a, (Γ2 j).M a → (Γ j).M a ∧ j ≠ n := fun j a hj => by
    rcases hcase j with ⟨rfl, e⟩ | ⟨rfl, e⟩ | ⟨_, h2, e⟩
    · rw [e] at hj; exact ⟨by rw [hL]; exact hM a hj, by omega⟩
    · rw [e] at hj; exact absurd hj (cM a)
    · rw [e] at hj; exact ⟨hj, h2⟩
  have hRR : ∀ j a, (Γ2 j).R a → ((j = 0 ∨ j = n) ∧ ((Γ 0).M a ∨ (Γ 0).R a)) ∨ (j ≠ 0 ∧ j ≠ n ∧ (Γ j).R a) := fun j a hj => by
    rcases hcase j with ⟨rfl, e⟩ | ⟨rfl, e⟩ | ⟨h1, h2, e⟩
    · rw [e] at hj; exact .inl ⟨.inl rfl, by rw [hL]; exact hR a hj⟩
    · rw [e] at hj; exact .inl ⟨.inr rfl, by rw [hL]; exact (cR a hj).1⟩
    · rw [e] at hj; exact .inr ⟨h1, h2, hj⟩
  have hts : ∀ op ∈ (#[{ g := 0, fn := fn, pos := pos, act := .go n }, { g := n, fn := fn', pos := pos', act := .start }] : Trace), op.act.touch? = none ∧ ∀ g d, deafStep g d op = d := fun op hop => by
    simp only [List.mem_toArray, List.mem_cons, List.not_mem_nil, or_false] at hop
    rcases hop with rfl | rfl
    · exact ⟨rfl, fun g d => rfl⟩
    · exact ⟨rfl, fun g d => rfl⟩
  have hunt : ∀ a, (∀ idx x, touchAt t idx = some x → x.loc ≠ .cell a) → ∀ idx x, touchAt (t ++ #[{ g := 0, fn := fn, pos := pos, act := .go n }, { g := n, fn := fn', pos := pos', act := .start }]) idx = some x → x.loc ≠ .cell a := fun a hv idx x hx => by
    rcases touch_old_or hx with ⟨_, y⟩ | ⟨_, op, hop, hxo, _⟩
    · exact hv idx x y
    · rw [(hts op hop).1] at hxo; cases hxo
  have hdf : ∀ j, Deaf (t ++ #[{ g := 0, fn := fn, pos := pos, act := .go n }, { g := n, fn := fn', pos := pos', act := .start }]) j = Deaf t j := fun j => Deaf_quiet fun op hop d => (hts op hop).2 j d
  refine ⟨by omega, h.old, ?_, ⟨fun i j a hi hj => h.apart.own i j a (hMR i a hi).1 (hMR j a hj).1, fun i j a hi hj => ?_, fun j a ha => ?_⟩, fun j => ?_, fun j a hj => ?_, fun a ha => by rw [hATe] at ha; exact h.blkA a ha, fun j a hj => ?_, fun j => ?_, fun j hj => ?_, fun j => ?_, by rw [g0, hh]; exact hal, fun j wa zs f s h0 hj hr1 => ?_, fun j wa h0 hr1 => ?_, fun j wa r hr1 => ?_, fun wa hw => (by rw [e0, s6, hreg] at hw; cases hw), fun j wa zs f s hj hs => ?_, fun A sp hA z hz hdz => ?_, ?_⟩
  · rw [hATe]
    refine Tr.fork (M := fun j => (Γ j).M) (R := fun j => (Γ j).R) (H := fun j => (Γ2 j).h) ?_ hn0 ⟨rfl, rfl⟩ ⟨rfl, rfl⟩ (by rw [h.deaf, hL]; exact hd) (fun i a hi => .inl (h.tr.mine i a (hMR i a hi).1)) (fun i a hi => ?_) (by rw [gn]; exact ch) (fun j b r a hj ha => (hMR j a ha).1)
    · have hHe : ∀ j, (Γ2 j).h = (Γ j).h := fun j => by
        rcases hcase j with ⟨rfl, e⟩ | ⟨rfl, e⟩ | ⟨_, _, e⟩
        · rw [e, hh, hL]
        · rw [e, ch, hbn]; rfl
        · rw [e]
      exact h.tr.relabel' h.tr.mine h.tr.read h.tr.shared (fun j b r a hj ha => h.tr.relM j b r a (by rw [← hHe]; exact hj) ha) hHe
    · have hW : ∀ a, (Γ 0).M a ∨ (Γ 0).R a → PermW t 0 (.cell a) := fun a x => x.elim (fun y => PermW.of (h.tr.mine 0 a y)) fun y => h.tr.read 0 a y
      rcases hRR i a hi with ⟨rfl | rfl, x⟩ | ⟨_, _, x⟩
      · exact .inl (hW a x)
      · exact .inr ⟨rfl, hW a x⟩
      · exact .inl (h.tr.read i a x)
  · try dsimp only at hi hj
    obtain ⟨hi', hin⟩ := hMR i a hi
    rcases hRR j a hj with ⟨hj', x⟩ | ⟨_, _, x⟩
    · have hi0 : i = 0 := x.elim (fun y => h.apart.own i 0 a hi' y) fun y => h.apart.read i 0 a hi' y
      subst hi0
      rcases hj' with rfl | rfl
      · rfl
      · rw [gn] at hj
        rw [g0] at hi
        exact absurd hi (cR a hj).2
    · exact h.apart.read i j a hi' x
  · try dsimp only
    rw [hATe] at ha
    refine ⟨fun x => (h.apart.shared j a ha).1 (hMR j a x).1, fun x => ?_⟩
    rcases hRR j a x with ⟨_, y⟩ | ⟨_, _, y⟩
    · exact y.elim (h.apart.shared 0 a ha).1 (h.apart.shared 0 a ha).2
    · exact (h.apart.shared j a ha).2 y
  · rw [hdf]
    rcases hcase j with ⟨rfl, e⟩ | ⟨rfl, e⟩ | ⟨_, _, e⟩
    · rw [e, h.deaf, hL, hd, hd']
    · rw [e, h.deaf, hbn, cd]; rfl
    · rw [e]; exact h.deaf j
  · rcases hj with hj | hj
    · exact h.blk j a (.inl (hMR j a hj).1)
    · rcases hRR j a hj with ⟨_, y⟩ | ⟨_, _, y⟩
      · exact h.blk 0 a y
      · exact h.blk j a (.inr y)
  · rcases hcase j with ⟨rfl, e⟩ | ⟨rfl, e⟩ | ⟨_, _, e⟩
    · rw [e] at hj ⊢
      obtain ⟨v1, v2⟩ := hV a hj
      exact ⟨v2, hunt a (h.virg 0 a (by rw [hL]; exact v1)).2⟩
    · rw [e] at hj; exact absurd hj (cV a)
    · rw [e] at hj ⊢
      obtain ⟨v1, v2⟩ := h.virg j a hj
      exact ⟨v1, hunt a v2⟩
  · rcases hcase j with ⟨rfl, e⟩ | ⟨rfl, e⟩ | ⟨_, _, e⟩
    · rw [e]; exact hS
    · rw [e]; exact cS
    · rw [e]; exact h.know j
  · rw [go j (by omega) (by omega)]; exact h.beyond j (by omega)
  · rcases hcase j with ⟨rfl, e⟩ | ⟨rfl, e⟩ | ⟨h1, _, e⟩
    · rw [e, hr']; exact ⟨fun _ => rfl, fun _ => ⟨_, rfl⟩⟩
    · rw [e]
      refine ⟨fun ⟨m1, x⟩ => ?_, fun x => by omega⟩
      rcases hst with ⟨p, y, _⟩ | ⟨A, sp, y, _⟩ <;> rw [y] at x <;> cases x
    · rw [e]; exact h.main j
  · rcases hcl j _ (fun m => by simp) hr1 with ⟨_, x⟩ | ⟨_, _, e, x⟩
    · rcases hst with ⟨p, y, _⟩ | ⟨A, sp, y, _⟩ <;> rw [y] at x <;> cases x
    · rw [e]
      exact (h.left j wa zs f s h0 (by omega) x).imp id fun ⟨a, b⟩ => ⟨a, hOp wa b⟩
  · rcases hcase j with ⟨rfl, e⟩ | ⟨rfl, e⟩ | ⟨_, _, e⟩
    · omega
    · rw [e]; exact .inl ch
    · rw [e] at hr1 ⊢; exact h.held j wa h0 hr1
  · rcases hcase j with ⟨rfl, e⟩ | ⟨rfl, e⟩ | ⟨_, _, e⟩
    · rw [e, hh, hal] at hr1; cases hr1
    · rw [e, ch] at hr1; cases hr1
    · rw [e] at hr1 ⊢; exact h.rels j wa r hr1
  · rcases hcl j _ (fun m => by simp) hj with ⟨_, x⟩ | ⟨_, _, e, x⟩
    · rcases hst with ⟨p, y, _⟩ | ⟨A, sp, y, _⟩ <;> rw [y] at x <;> cases x
    · have := h.lst j wa zs f s x hs
      rw [hm, hreg] at this; cases this
  · rw [e0] at hA
    obtain ⟨sp', hA'⟩ := (s9 A).1 ⟨sp, hA⟩
    rw [hATe]
    obtain ⟨v1, v2, v3⟩ := h.virgin A sp' (by rw [hm]; exact hA') z hz hdz
    exact ⟨v1, v2, hunt _ v3⟩
  · have hw := h.wld
    have hhold := fun wa => hcnt (fun ρ => ρ.holds wa) fun _ _ => rfl
    have hpd : ∀ e, (cnt (n + 1) fun j => (Γ2 j).role.pend e) = cnt n fun j => (Γ j).role.pend e := fun e => by
      rw [hcnt (fun ρ => ρ.pend e) fun _ _ => rfl]
      rcases hst with ⟨p, y, _⟩ | ⟨A, sp, y, _⟩ <;> rw [y] <;> simp [Role.pend]
    have hus : (cnt (n + 1) fun j => (Γ2 j).role.unsent) = cnt n fun j => (Γ j).role.unsent := by
      rw [hcnt (fun ρ => ρ.unsent) fun _ _ => rfl]
      rcases hst with ⟨p, y, _⟩ | ⟨A, sp, y, _⟩ <;> rw [y] <;> simp [Role.unsent]
    have hls : ∀ wa j, (Γ2 j).role.lastS wa = (Γ j).role.lastS wa ∨ (Γ2 j).role.lastS wa = 0 := fun wa j => by
      rcases hcase j with ⟨rfl, e⟩ | ⟨rfl, e⟩ | ⟨_, _, e⟩
      · rw [e, hr']; exact .inr rfl
      · rw [e]; right
        rcases hst with ⟨p, y, _⟩ | ⟨A, sp, y, _⟩ <;> rw [y] <;> rfl
      · rw [e]; exact .inl rfl
    have hregΓ : (Γ 0).role.m.reg = none := by rw [hm]; exact hreg
    have hls0 : ∀ wa j, (Γ2 j).role.lastS wa = 0 := fun wa j => (hls wa j).elim (fun e => e.trans (no_last' h hregΓ wa j)) id
    have hwg : ∀ wa, WgOk n Γ w wa → (∀ wa', m.pnd = some wa' → ((Lc.role.holds wa = true ↔ wa' = wa))) → WgOk (n + 1) Γ2 w wa := fun wa hx hp => by
      obtain ⟨st, sm, v, c1, c2, c3, c4⟩ := hx
      obtain ⟨wa', hpp⟩ := hpn
      refine ⟨st, sm, v, c1, c2, ?_, .inl ⟨by rw [e0, s6, hreg]; simp, hls0 wa, ?_⟩⟩
      · rw [hhold, e0, s7, c3, hm, hpp]
        have := hp wa' hpp
        by_cases hw' : wa' = wa
        · have := this.2 hw'
          simp [this, hw']
        · have h2 : ¬ Lc.role.holds wa = true := fun x => hw' (this.1 x)
          simp [h2, hw']
      · rcases c4 with ⟨_, _, d3, d4⟩ | ⟨d1, _⟩ | ⟨d1, _⟩ | ⟨d1, _⟩
        · exact ⟨d3, d4⟩
        · rw [hm, hreg] at d1; cases d1
        · rw [hm, hreg] at d1; cases d1
        · rw [hm, hreg] at d1; cases d1
    have hholdc : ∀ wa wa', m.pnd = some wa' → IsWa (Γ 0).role wa → (Lc.role.holds wa = true ↔ wa' = wa) := fun wa wa' hp _ => by
      rcases hst with ⟨p, y, _, hp', _⟩ | ⟨A, sp, y, hp', _⟩
      · rw [y]; rw [hp] at hp'; cases hp'
        simp [Role.holds]
      · rw [y]; rw [hp] at hp'; cases hp'
        simp [Role.holds]
    have hun : ∀ e, under (n + 1) Γ2 w e = under n Γ w e := fun e => by
      unfold under
      rw [e0, hm, hus]
      rcases hst with ⟨p, _, _, _, _, _, _, rfl⟩ | ⟨A, sp, _, _, x, _, rfl⟩
      · rfl
      · simp only [x]
    have hqq : ∀ j, (Γ2 j).q = (Γ j).q := fun j => by
      rcases hcase j with ⟨rfl, e⟩ | ⟨rfl, e⟩ | ⟨_, _, e⟩
      · rw [e, hq', hL]
      · rw [e, cq, hbn]; rfl
      · rw [e]
    have hjob : ∀ k p c v b, (Γ2 k).role = .worker p (some (c, v, b)) ↔ (Γ k).role = .worker p (some (c, v, b)) := fun k p c v b => by
      rcases hcase k with ⟨rfl, e⟩ | ⟨rfl, e⟩ | ⟨_, _, e⟩
      · rw [e, hr', hro]; simp
      · rw [e, hbn]
        rcases hst with ⟨p', y, _⟩ | ⟨A, sp, y, _⟩ <;> rw [y] <;> simp [Lo.nil]
      · rw [e]
    refine ⟨fun e he => ?_, by rw [e0, s1]; have := hw.same; rw [hm] at this; exact this, by rw [e0, s1]; have := hw.chans; rw [hm] at this; exact this, by rw [e0, s1]; have := hw.fns; rw [hm] at this; exact this, fun A sp hA => ?_, fun hA j A zs cur f hj => ?_, fun j p job hj => ?_, fun k p c v b hk => ?_, fun k1 k2 p1 p2 c v v' b b' hk hk' => hw.jobs k1 k2 p1 p2 c v v' b b' ((hjob _ _ _ _ _).1 hk) ((hjob _ _ _ _ _).1 hk'), fun j Q hQ => ?_, fun j j' Q Q' hQ hQ' => ?_, fun j Q hQ => ?_, by rw [e0, s5, s1]; have := hw.mks; rw [hm] at this; exact this, fun e he => ?_, fun wa k hk => (by rw [e0, s8, hdn] at hk; cases hk), fun A sp hA j zs cur hj => ?_⟩
    · rw [e0, s1] at he
      have he' : e ∈ (Γ 0).role.m.ps := by rw [hm]; exact he
      obtain ⟨p1, ⟨s2', r2, p2⟩, p3, p3', ⟨T, p4, p5, p6⟩, p7, p8, p9⟩ := hw.pools e he'
      rw [hm] at p2 p3 p3' p6 p8 p9
      refine ⟨p1, ⟨s2', r2, by rw [e0, s2]; exact p2⟩, by rw [e0, s4]; exact p3, by rw [e0, s4]; exact p3', ⟨T, p4, p5, by rw [e0, s4, hun, hpd]; exact p6⟩, hwg _ p7 fun wa' hp => hholdc _ wa' hp (.inl ⟨e, he', rfl⟩), fun x y => ?_, fun hf => ?_⟩
      · rw [e0, s2] at x
        rw [hhold]
        rcases hst with ⟨p, y', hp, _, _, _, _, rfl⟩ | ⟨A, sp, y', _, _, _, rfl⟩
        · by_cases hb : e.b = p.b
          · obtain rfl := hw.same e he' p (by rw [hm]; exact hp) (.inl hb)
            rw [y']; simp [Role.holds]
          · rw [e0] at y
            simp only [if_neg hb] at y
            have := p8 x y
            omega
        · rw [e0] at y
          have := p8 x y
          omega
      · rw [e0, s3] at hf
        rw [e0, s2, hhold]
        obtain ⟨f1, f2⟩ := p9 hf
        refine ⟨f1, ?_⟩
        rcases hst with ⟨p, y', hp, _, _, _, hfp, rfl⟩ | ⟨A, sp, y', _, _, _, rfl⟩
        · have hb : ¬ handsA p = handsA e := fun x => by
            have := (ca_inj x).1
            rw [← this, hfp] at hf; cases hf
          rw [y']
          simp [Role.holds, hb]
          exact f2
        · have hb : ¬ groupA A = handsA e := ca_ne (by decide)
          rw [y']
          simp [Role.holds, hb]
          exact f2
    · rw [e0] at hA
      rcases hst with ⟨p, _, _, _, hn, _, _, rfl⟩ | ⟨A1, sp1, y', hp1, x, hlt, rfl⟩
      · have : m.al = some (A, sp) := hA
        rw [hn] at this; cases this
      · simp only [Option.some.injEq, Prod.mk.injEq] at hA
        obtain ⟨rfl, rfl⟩ := hA
        have hA' : (Γ 0).role.m.al = some (A1, sp1) := by rw [hm]; exact x
        obtain ⟨a1, a2, ⟨z, a3, a4, a5⟩, a6, a7, a8, a9, a10, a11, a12, a13⟩ := hw.all A1 sp1 hA'
        refine ⟨by omega, a2, ⟨z, a3, a4, ?_⟩, ?_, hwg _ a7 fun wa' hp => hholdc _ wa' hp (.inr ⟨A1, sp1, hA', rfl⟩), fun j A' zs cur f hj => ?_, fun p hp => ?_, fun z hz => ?_, fun z hz hdz => ?_, fun j zs f s hj => ?_, fun j z hz => ?_⟩
        · have := hcnt (fun ρ => ρ.failed && ρ.inAll A1) fun _ _ => rfl
          rw [this, y']
          simp only [Role.failed, Bool.false_and, Bool.false_eq_true, if_false, Nat.add_zero]
          exact a5
        · have := hcnt (fun ρ => ρ.inAll A1) fun _ _ => rfl
          rw [this, y', a6]
          simp [Role.inAll]
        · rcases hcl j _ (fun m => by simp) hj with ⟨_, x'⟩ | ⟨_, _, _, x'⟩
          · rw [y'] at x'; cases x'; rfl
          · exact a8 j A' zs cur f x'
        · rw [e0]
          have := a9 p hp
          rw [hm] at this; exact this
        · obtain ⟨j, hj, hzj⟩ := a10 z hz
          refine ⟨j, by omega, ?_⟩
          rcases hcase j with ⟨rfl, e⟩ | ⟨rfl, e⟩ | ⟨_, _, e⟩
          · rw [hro] at hzj; cases hzj
          · omega
          · rw [e]; exact hzj
        · obtain ⟨b1, b2, b3⟩ := a11 z hz hdz
          refine ⟨b1, b2, fun j => ⟨fun y => (b3 j).1 (hMR j _ y).1, fun y => ?_⟩⟩
          rcases hRR j _ y with ⟨_, y⟩ | ⟨_, _, y⟩
          · exact y.elim (b3 0).1 (b3 0).2
          · exact (b3 j).2 y
        · rcases hcl j _ (fun m => by simp) hj with ⟨_, x'⟩ | ⟨_, _, e, x'⟩
          · rw [y'] at x'; cases x'
          · rw [e]; exact a12 j zs f s x'
        · rcases hcase j with ⟨rfl, e⟩ | ⟨rfl, e⟩ | ⟨_, _, e⟩
          · rw [e, hr'] at hz; cases hz
          · rw [e, y'] at hz
            simp [Role.zs] at hz
          · rw [e] at hz ⊢; exact a13 j z hz
    · rw [e0] at hA
      rcases hst with ⟨p, y', _, _, hn, _, _, rfl⟩ | ⟨A1, sp1, y', hp1, x, hlt, rfl⟩
      · rcases hcl j _ (fun m => by simp) hj with ⟨_, x'⟩ | ⟨_, _, _, x'⟩
        · rw [y'] at x'; cases x'
        · exact hw.noall (by rw [hm]; exact hn) j A zs cur f x'
      · cases hA
    · rw [e0, s1, s2]
      rcases hcl j _ (fun m => by simp) hj with ⟨_, x'⟩ | ⟨_, _, _, x'⟩
      · rcases hst with ⟨p', y', hp, _⟩ | ⟨A1, sp1, y', _⟩
        · rw [y'] at x'; cases x'
          exact ⟨hp, fun x => absurd rfl x⟩
        · rw [y'] at x'; cases x'
      · have := hw.work j p job x'
        rw [hm] at this; exact this
    · obtain ⟨h1, h2⟩ := hw.job k p c v b ((hjob _ _ _ _ _).1 hk)
      exact ⟨h1, h2.imp fun j hj => by rw [hqq]; exact hj⟩
    · rw [hqq] at hQ
      obtain ⟨q1, q2, q3⟩ := hw.q j Q hQ
      rw [hm] at q1
      rw [e0, s1, s2]
      refine ⟨⟨q1.1, q1.2.1, ?_⟩, q2, fun x => (q3 x).imp (fun ⟨k, b, hk⟩ => ⟨k, b, (hjob _ _ _ _ _).2 hk⟩) id⟩
      rcases hst with ⟨p, _, _, _, _, _, _, rfl⟩ | ⟨A, sp, _, _, _, _, rfl⟩
      · by_cases hb : Q.p.b = p.b
        · simp [hb]
        · simp only [if_neg hb]; exact q1.2.2
      · exact q1.2.2
    · rw [hqq] at hQ hQ'; exact hw.qs j j' Q Q' hQ hQ'
    · rw [hqq] at hQ
      refine (hw.qwho j Q hQ).imp id fun ⟨A, zs, cur, f, hr2⟩ => ⟨A, zs, cur, f, ?_⟩
      rcases Nat.lt_or_ge j n with hlt | hge
      · rw [hold j _ (fun m => by simp) hlt hr2]; exact hr2
      · rw [h.beyond j hge] at hr2; cases hr2
    · rw [e0, s1] at he
      have := hw.wss e (by rw [hm]; exact he)
      rw [hm] at this
      rw [hhold, e0]
      rcases hst with ⟨p, y', hp, _, _, hws, _, rfl⟩ | ⟨A, sp, y', _, _, _, rfl⟩
      · by_cases hb : e.b = p.b
        · have : (handsA p = handsA e) := by unfold handsA; rw [hb]
          have hx : Lc.role.holds (handsA e) = true := by rw [y']; simp [Role.holds, this]
          rw [hx, if_pos rfl]
          simp only [if_pos hb]
          rw [← hb] at hws
          omega
        · have hne : ¬ handsA p = handsA e := fun x => hb (ca_inj x).1.symm
          rw [y']
          simp only [Role.holds, hne, decide_false, Bool.false_eq_true, if_false, Nat.add_zero, if_neg hb]
          exact this
      · have hne : ¬ groupA A = handsA e := ca_ne (by decide)
        rw [y']
        simp only [Role.holds, hne, decide_false, Bool.false_eq_true, if_false, Nat.add_zero]
        exact this
    · rw [e0] at hA
      rcases hcl j _ (fun m => by simp) hj with ⟨_, x'⟩ | ⟨_, _, _, x'⟩
      · rcases hst with ⟨p', y', _⟩ | ⟨A1, sp1, y', _⟩
        · rw [y'] at x'; cases x'
        · rw [y'] at x'; cases x'
      · obtain ⟨sp', hA'⟩ := (s9 A).1 ⟨sp, hA⟩
        exact hw.fls A sp' (by rw [hm]; exact hA') j zs cur x'
end Go.Proofs.Ytaceedenkmccdaa
/- Pools: the walk: communications, starts, the semaphore. -/
namespace Go.Proofs.Ytaceedenkmccdaa
open Go Go.Conc Go.ConcN
set_option linter.unusedSimpArgs false
set_option linter.unusedVariables false
section
variable {X : Cx} {i : Nat} {fn : FuncId} {Q' Q'' : Exit → Act → Lo → Prop} {a : Act} {L L' Lc : Lo} {w w' : World} {Post : Value → Lo → Prop}
theorem safe_in [Inhabited Base] {c : Nat} {g : Goroutine} (h : X.safe i c g L) (hnl : ¬ Lefty L) : Safe X.P X.ap X.SelAt X.CI X.CW X.Q i c g L := h.elim (fun x => x.2) fun x => absurd x.1 hnl
section
variable {ops : Array Oper} {j : Nat} {rest : List Nat} {o : Oper} {k : Nat}
theorem comm_fin (P : Program) (ho : ops[j]? = some o) (b : Frame) (kk : List Item) (cs : List Frame) (cc : Array CommCase) (sh : CommShape) (n : Int) (v : Value) (ok : Bool) :
    (G (b.at a (.inRegion ops (j :: rest) :: kk)) cs).finishComm P cc sh n v ok = G (b.at (a.put o.dst (commResult cc sh n v ok)) (.inRegion ops rest :: kk)) cs := by
  have : (G (b.at a (.inRegion ops (j :: rest) :: kk)) cs).finishComm P cc sh n v ok = Go.Conc.served (G (b.at a (.inRegion ops (j :: rest) :: kk)) cs) (commResult cc sh n v ok) := rfl
  rw [this, served_G, ho]; rfl
/-- A look whether a pool is closed. -/
theorem opsS_peek [Inhabited Base] {p : PoolG} {z : Value} (c : Bool) (ho : ops[j]? = some o) (hw : Region.wanted o (yielded ops a.tmps) = true) (hnl : ¬ Lefty L) (hr : ∀ w, (execOp a.eval o).run X.P w = .ok (.comm #[rcase p.ce z] false .select) w) (he : ∀ w, listed X.P fn a o w = #[])
    (hp : ∀ n Γ w t, Inv X.ap n Γ w t → Γ i = L → i < n → p ∈ (Γ 0).role.m.ps ∧ (Γ 0).role.m.cl p.b = c)
    (h : OpsS X i fn ops rest k Q' (a.put o.dst (if c then commResult #[rcase p.ce z] .select 0 z false else commResult #[rcase p.ce z] .select (-1) undef false)) L) : OpsS X i fn ops (j :: rest) (k + 1) Q' a L := by
  intro b kk cs m hb hk hc
  refine .inl ⟨hnl, ?_⟩
  rw [Safe]
  refine .inr ⟨rfl, hnl, fun n Γ w t hI hL hi => ?_⟩
  obtain ⟨h1, h2⟩ := hp n Γ w t hI hL hi
  refine .inr (.inr (.inr (.inl ⟨G (b.at a (.inRegion ops (j :: rest) :: kk)) cs, z, p, h1, ?_, m + k, by omega, ?_⟩)))
  · exact (stepG_comm (k := kk) (cs := cs) (b := b) (rest := rest) ho hw hk (hr w)).trans (by rw [hb, he])
  · have := safe_in (h b kk cs m hb hk hc) hnl
    rw [h2]
    cases c with
    | true => rw [if_pos rfl, comm_fin X.P ho]; exact this
    | false => rw [if_neg (by simp), comm_fin X.P ho]; exact this
/-- A question is put. -/
theorem opsS_ask [Inhabited Base] {p : PoolG} {cb : Nat} {v : Int} {z zq : Value} (ho : ops[j]? = some o) (hw : Region.wanted o (yielded ops a.tmps) = true) (hnl : ¬ Lefty L) (hnl' : ¬ Lefty (sentL p L)) (hr : ∀ w, (execOp a.eval o).run X.P w = .ok (.comm #[scase p.ci (qval v cb) zq, rcase p.ce z] true .select) w) (he : ∀ w, listed X.P fn a o w = #[])
    (hq : L.q = some ⟨p, cb, v, false⟩) (hmay : MayAsk L p) (h : OpsS X i fn ops rest k Q' (a.put o.dst (commResult #[scase p.ci (qval v cb) zq, rcase p.ce z] .select 0 undef false)) (sentL p L)) : OpsS X i fn ops (j :: rest) (k + X.CW + 1) Q' a L := by
  intro b kk cs m hb hk hc
  refine .inl ⟨hnl, ?_⟩
  rw [Safe]
  refine .inr ⟨rfl, hnl, fun n Γ w t hI hL hi => ?_⟩
  refine .inr (.inr (.inr (.inr (.inl ⟨G (b.at a (.inRegion ops (j :: rest) :: kk)) cs, z, zq, p, cb, v, ?_, hq, hmay, m + k, by omega, ?_⟩))))
  · exact (stepG_comm (k := kk) (cs := cs) (b := b) (rest := rest) ho hw hk (hr w)).trans (by rw [hb, he])
  · rw [comm_fin X.P ho]; exact safe_in (h b kk cs m hb hk hc) hnl'
/-- The answer is fetched. -/
theorem opsS_fetch [Inhabited Base] {p : PoolG} {cb : Nat} {v : Int} {z : Value} (ho : ops[j]? = some o) (hw : Region.wanted o (yielded ops a.tmps) = true) (hnl : ¬ Lefty L) (hnl' : ¬ Lefty (L.turn L.role none)) (hr : ∀ w, (execOp a.eval o).run X.P w = .ok (.comm #[rcase cb z] true (.recv false)) w) (he : ∀ w, listed X.P fn a o w = #[])
    (hq : L.q = some ⟨p, cb, v, true⟩) (h : OpsS X i fn ops rest k Q' (a.put o.dst (.int .i64 (X.ap p.fn v))) (L.turn L.role none)) : OpsS X i fn ops (j :: rest) (k + 1) Q' a L := by
  intro b kk cs m hb hk hc
  refine .inl ⟨hnl, ?_⟩
  rw [Safe]
  refine .inr ⟨rfl, hnl, fun n Γ w t hI hL hi => ?_⟩
  refine .inr (.inr (.inr (.inr (.inr (.inl ⟨G (b.at a (.inRegion ops (j :: rest) :: kk)) cs, z, p, cb, v, ?_, hq, m + k, by omega, ?_⟩)))))
  · exact (stepG_comm (k := kk) (cs := cs) (b := b) (rest := rest) ho hw hk (hr w)).trans (by rw [hb, he])
  · rw [comm_fin X.P ho]; exact safe_in (h b kk cs m hb hk hc) hnl'
/-- An answer is given. -/
theorem opsS_answer [Inhabited Base] {p : PoolG} {cb : Nat} {v : Int} {z : Value} (ho : ops[j]? = some o) (hw : Region.wanted o (yielded ops a.tmps) = true) (hr : ∀ w, (execOp a.eval o).run X.P w = .ok (.comm #[scase cb (.int .i64 (X.ap p.fn v)) z] true .send) w) (he : ∀ w, listed X.P fn a o w = #[])
    (hro : L.role = .worker p (some (cb, v, true))) (hq : L.q = none) (h : OpsS X i fn ops rest k Q' (a.put o.dst undef) (L.turn (.worker p none) none)) : OpsS X i fn ops (j :: rest) (k + 1) Q' a L := by
  have hnl : ¬ Lefty L := fun ⟨⟨wa, zs, f, e⟩, _⟩ => by rw [hro] at e; cases e
  have hnl' : ¬ Lefty (L.turn (.worker p none) none) := fun ⟨⟨wa, zs, f, e⟩, _⟩ => by cases e
  intro b kk cs m hb hk hc
  refine .inl ⟨hnl, ?_⟩
  rw [Safe]
  refine .inr ⟨rfl, hnl, fun n Γ w t hI hL hi => ?_⟩
  refine .inr (.inr (.inr (.inr (.inr (.inr (.inl ⟨G (b.at a (.inRegion ops (j :: rest) :: kk)) cs, z, p, cb, v, ?_, hro, hq, m + k, by omega, ?_⟩))))))
  · exact (stepG_comm (k := kk) (cs := cs) (b := b) (rest := rest) ho hw hk (hr w)).trans (by rw [hb, he])
  · rw [comm_fin X.P ho]; exact safe_in (h b kk cs m hb hk hc) hnl'
/-- A go statement. -/
theorem opsS_go [Inhabited Base] {d : Deferred} {f : Fn} {cap : Array Value} {c2 : Nat} (ho : ops[j]? = some o) (hw : Region.wanted o (yielded ops a.tmps) = true) (hr : ∀ w, (execOp a.eval o).run X.P w = .ok (.spawn d) w) (hd : d.target = .fn f cap) (he : ∀ w, listed X.P fn a o w = #[]) (hi0 : i = 0) (hnl : ¬ Lefty L) (hnl' : ¬ Lefty L') (hnlc : ¬ Lefty Lc)
    (hs : ∀ n Γ w t, Inv X.ap n Γ w t → Γ 0 = L → (L'.role.m.cl = L.role.m.cl) ∧ ∀ fn pos fn' pos', Inv X.ap (n + 1) (upd (upd Γ 0 L') n Lc) w (t ++ #[{ g := 0, fn := fn, pos := pos, act := .go n }, { g := n, fn := fn', pos := pos', act := .start }]))
    (hch : ∀ n, n ≠ 0 → X.safe n c2 (born X.P d) Lc) (h : OpsS X i fn ops rest k Q' (a.put o.dst undef) L') : OpsS X i fn ops (j :: rest) (k + c2 + 1) Q' a L := by
  intro b kk cs m hb hk hc
  refine .inl ⟨hnl, ?_⟩
  rw [Safe]
  refine .inr ⟨rfl, hnl, fun n Γ w t hI hL hi => ?_⟩
  subst hi0
  obtain ⟨hcl, hs⟩ := hs n Γ w t hI hL
  have hn : n ≠ 0 := by omega
  have e0 : upd (upd Γ 0 L') n Lc 0 = L' := by rw [upd_ne _ _ (Ne.symm hn), upd_same]
  have en : upd (upd Γ 0 L') n Lc n = Lc := upd_same _ _ _
  refine .inr (.inr (.inl ⟨rfl, G (b.at (a.put o.dst undef) (.inRegion ops rest :: kk)) cs, born X.P d, w, #[], upd (upd Γ 0 L') n Lc, (stepG_spawn (main := true) (b := b) (k := kk) (cs := cs) ho hw hk (hr w) hd).trans (by rw [hb, he]), ?_, fun j h1 h2 => by rw [upd_ne _ _ h2, upd_ne _ _ h1], by rw [e0, hL, hcl], ⟨Aged.refl _, fun _ _ _ _ x => x⟩, by rw [e0]; exact hnl', by rw [en]; exact hnlc, m + k, c2, by omega, ?_, ?_⟩))
  · rw [opsOf_nil]
    exact hs _ _ _ _
  · rw [e0]; exact safe_in (h b kk cs m hb hk hc) hnl'
  · rw [en]; exact safe_in (hch n hn) hnlc
/-- The region ends, and what is held is told anew. -/
theorem opsS_told [Inhabited Base] (hnl : ¬ Lefty L) (hs : ∀ n Γ w t, Inv X.ap n Γ w t → Γ i = L → i < n → Inv X.ap n (upd Γ i L') w t) (hm : L'.role.m.cl = L.role.m.cl ∧ (L.role.m.reg ≠ none → True)) (h : Q' .normal a L') : OpsS X i fn ops [] 1 Q' a L := by
  intro b kk cs m hb hk hc
  refine safe_step (c := m) rfl hnl fun n Γ w t hI hL hi => ⟨G (b.at a kk) cs, w, #[], upd Γ i L', stepG_region_end, by rw [opsOf_nil, Array.append_empty]; exact hs n Γ w t hI hL hi, fun j hj => .inl (upd_ne _ _ hj), .inr ⟨?_, fun _ _ x => x⟩, fun b' hb' => ?_, ⟨Aged.refl _, fun _ _ _ _ x => x⟩, by rw [upd_same]; exact hc _ _ _ h⟩
  · rcases upd_eq Γ i L' 0 with ⟨e, ei⟩ | ⟨e, _⟩
    · rw [e, ei, hL]; exact hm.1
    · rw [e]
  · rcases upd_eq Γ i L' 0 with ⟨e, ei⟩ | ⟨e, _⟩
    · rw [e, hm.1]; rw [← hL, ← ei]; exact hb'
    · rw [e]; exact hb'
end
/-- Main waits at the semaphore. -/
theorem opsS_sem [Inhabited Base] {f : FuncId} {fnn : Func} {ops : Array Oper} {j : Nat} {rest : List Nat} {o : Oper} {k : Nat} {ats : Array TypeId} {ars : Array Operand} {m0 : MainR} {wa : Addr} (ho : ops[j]? = some o) (hw : Region.wanted o (yielded ops a.tmps) = true) (hop : o.op = .call { callee := .value (.func f), args := ars, argTypes := ats })
    (hf : X.P.funcs[f]? = some fnn) (hname : (fnn.name == "runtime.NumGoroutine") = false) (hb : fnn.body.isNone = true) (hn : Extern.findNext fnn = none) (he : Extern.find fnn = some Extern.Sync.semacquire) (hx : (ars.map a.eval)[0]? = some (.pointer (some (sem wa)))) (hi0 : i = 0)
    (hro : L.role = .main m0) (hreg : m0.reg = some wa) (hq : L.q = none) (h : OpsS X i fn ops rest k Q' (a.put o.dst (.tuple #[])) (L.turn (.main (m0.at none none (some (wa, 0)))) L.q)) : OpsS X i fn ops (j :: rest) (k + 1) Q' a L := by
  have hnl : ¬ Lefty L := fun ⟨⟨wa, zs, f, e⟩, _⟩ => by rw [hro] at e; cases e
  have hnl' : ¬ Lefty (L.turn (.main (m0.at none none (some (wa, 0)))) L.q) := fun ⟨⟨wa, zs, f, e⟩, _⟩ => by cases e
  subst hi0
  intro b kk cs m hbf hk hc
  refine .inl ⟨hnl, ?_⟩
  rw [Safe]
  refine .inr ⟨rfl, hnl, fun n Γ w t hI hL hi => ?_⟩
  refine .inr (.inr (.inr (.inr (.inr (.inr (.inr (.inl ⟨rfl, wa, by rw [hro]; exact hreg, hq, fun w hc0 => ?_, fun n Γ w t hI hL hc1 => ?_⟩)))))))
  · exact stepG_semacquire_wait (main := true) ho hw hop hf hname hb hn he hx hc0.1
  · obtain ⟨_, htk⟩ := hI.taken hL hro hreg hc1
    obtain ⟨hbut, hcell⟩ := setCell_but (y := 0) hc1
    refine ⟨G (b.at (a.put o.dst (.tuple #[])) (.inRegion ops rest :: kk)) cs, w.setCell (sem wa) (.int .u32 0), semEvents (sem wa), upd Γ 0 (L.turn (.main (m0.at none none (some (wa, 0)))) L.q), stepG_semacquire (main := true) ho hw hk hop hf hname hb hn he hx hc1.1 (by decide) hc1.2, htk _ hbut hcell _ _, fun j hj => .inl (upd_ne _ _ hj), ?_, hbut.fill, by rw [upd_same]; exact hnl', m + k, by omega, ?_⟩
    · rw [upd_same, hL, hro]; rfl
    · rw [upd_same]; exact safe_in (h b kk cs m hbf hk hc) hnl'
end
end Go.Proofs.Ytaceedenkmccdaa
/- Pools: the walk: what each entry does. -/
namespace Go.Proofs.Ytaceedenkmccdaa
open Go Go.Conc Go.ConcN
set_option linter.unusedSimpArgs false
set_option linter.unusedVariables false
section
variable {X : Cx} {i : Nat} {L L' : Lo} {w w' : World}
theorem nl_of {r : Role} (h : L.role = r) (hr : ∀ wa zs f, r ≠ .left wa zs f 0) : ¬ Lefty L := fun ⟨⟨wa, zs, f, e⟩, _⟩ => hr wa zs f (h.symm.trans e)
theorem upd_self [Inhabited Base] {Γ : Nat → Lo} (h : Γ i = L) : upd Γ i L = Γ := by
  funext j
  rcases upd_eq Γ i L j with ⟨e, rfl⟩ | ⟨e, _⟩
  · rw [e, h]
  · rw [e]
theorem kid_cl {Γ : Nat → Lo} (h0 : i ≠ 0) : ∀ b, (Γ 0).role.m.cl b = true → (upd Γ i L' 0).role.m.cl b = true := fun b hb => by rw [upd_ne _ _ (Ne.symm h0)]; exact hb
theorem others_upd {Γ : Nat → Lo} : Others Γ (upd Γ i L') i := fun j hj => .inl (upd_ne _ _ hj)
theorem sync_ok [Inhabited Base] {ad : Addr} {es : Array Event} (h : ∀ e ∈ es, SyncEv ad e) : ∀ x ∈ es, x.sync = true ∧ ∀ g, x.loc ≠ .mark (.extern g) := fun x hx => (h x hx).sync
/-- The entries, in the form of a move. -/
theorem ent_add (P : Program) {ad : Addr} {k : IntKind} {x d y : Int} (h : CellI w ad k x) (hy : k.wrap (x + d) = y) : ((Extern.Atomic.update (Op.intArith .add) k true #[.pointer (some ad), .int k d]).run P w = .ok (.int k y) (w.setCell ad (.int k y))) ∧ ∀ es0, (Extern.Atomic.update (Op.intArith .add) k true #[.pointer (some ad), .int k d]).events P w es0 = es0 ++ #[⟨.cell ad, false, true⟩, ⟨.cell ad, true, true⟩] :=
  ⟨by rw [run_add_entry h.1 h.2, hy], fun es0 => by rw [events_add_entry h.1 h.2]; apply Array.ext'; simp⟩
theorem ent_load (P : Program) {ad : Addr} {k : IntKind} {x : Int} (h : CellI w ad k x) : ((Extern.Atomic.loadT (.int k) #[.pointer (some ad)]).run P w = .ok (.int k x) w) ∧ ∀ es0, (Extern.Atomic.loadT (.int k) #[.pointer (some ad)]).events P w es0 = es0 ++ #[⟨.cell ad, false, true⟩] := by
  constructor
  · change Sem.run P (do Extern.Atomic.read (.int k) (← asAddr (.pointer (some ad)))) w = _
    simp [Extern.Atomic.read, asAddr, h.1]
  · intro es0
    change Sem.events P (do Extern.Atomic.read (.int k) (← asAddr (.pointer (some ad)))) w es0 = _
    simp [Extern.Atomic.read, asAddr, h.1, events_load]
theorem ent_store (P : Program) {ad : Addr} {k : IntKind} {x y : Int} (h : CellI w ad k x) : ((Extern.Atomic.storeT #[.pointer (some ad), .int k y]).run P w = .ok (.tuple #[]) (w.setCell ad (.int k y))) ∧ ∀ es0, (Extern.Atomic.storeT #[.pointer (some ad), .int k y]).events P w es0 = es0 ++ #[⟨.cell ad, true, true⟩] := by
  constructor
  · change Sem.run P (do
      store (← asAddr (.pointer (some ad))) (.int k y) .atomic
      pure Extern.Atomic.none_) w = _
    simp [asAddr, h.1, h.2, run_store P w ad (.int k y) .atomic rfl, Result.andThen, Extern.Atomic.none_]
  · intro es0
    change Sem.events P (do
      store (← asAddr (.pointer (some ad))) (.int k y) .atomic
      pure Extern.Atomic.none_) w es0 = _
    simp [asAddr, h.1, h.2, events_store P w _ ad (.int k y) .atomic rfl]
theorem ent_semrel (P : Program) {ad : Addr} {x y : Int} {rest : List Value} (h : CellI w ad .u32 x) (hy : IntKind.u32.wrap (x + 1) = y) : ((Extern.Sync.semrelease (Value.pointer (some ad) :: rest).toArray).run P w = .ok (.tuple #[]) (w.setCell ad (.int .u32 y))) ∧ ∀ es0, (Extern.Sync.semrelease (Value.pointer (some ad) :: rest).toArray).events P w es0 = es0 ++ semEvents ad := by
  subst hy
  constructor
  · simp [Extern.Sync.semrelease, Extern.Sync.count, h.1, h.2, Extern.Sync.none_, Op.intArith, run_store P w ad (.int .u32 (IntKind.u32.wrap (x + 1))) .atomic rfl, Result.andThen]
  · intro es0
    apply Array.ext'
    simp [Extern.Sync.semrelease, Extern.Sync.count, h.1, h.2, semEvents, Op.intArith, events_load, events_store P w _ ad (.int .u32 (IntKind.u32.wrap (x + 1))) .atomic rfl, run_store P w ad (.int .u32 (IntKind.u32.wrap (x + 1))) .atomic rfl, Result.evThen]
theorem ent_mark (P : Program) (mk : Addr → Mark) {ad : Addr} : ((Extern.Race.marked mk #[.pointer (some ad)]).run P w = .ok (.tuple #[]) w) ∧ ∀ es0, (Extern.Race.marked mk #[.pointer (some ad)]).events P w es0 = es0 ++ #[⟨.mark (mk ad), false, true⟩] :=
  ⟨by simp [Extern.Race.marked, Extern.Race.at_, Extern.Race.none_], fun es0 => by simp [Extern.Race.marked, Extern.Race.at_]⟩
/-! ### kids -/
theorem mv_says [Inhabited Base] {wa : Addr} (h0 : i ≠ 0) (hal : L.h = .alive) (hd : L.d = 0) (hh : L.role.holds wa = true) : Move X i L (Extern.Race.marked .releaseMerge #[.pointer (some wa)]) fun _ L' => ∃ r, L' = L.says wa r := by
  refine ⟨fun ⟨⟨wa', zs, f, e⟩, _⟩ => (by rw [e] at hh; cases hh), fun n Γ w t hI hL hi => ?_⟩
  obtain ⟨h1, h2⟩ := ent_mark (w := w) X.P .releaseMerge (ad := wa)
  exact ⟨_, w, _, _, h1, h2, fun x hx => by
    simp only [List.mem_toArray, List.mem_cons, List.not_mem_nil, or_false] at hx
    subst hx
    exact ⟨rfl, fun g e => by cases e⟩, fun fn pos => hI.says hi h0 hL hal hd hh fn pos, others_upd, kid_cl h0, ⟨Aged.refl _, fun _ _ _ _ x => x⟩, _, upd_same _ _ _⟩
theorem mv_done [Inhabited Base] {wa : Addr} {zs : List Nat} {f : Bool} (h0 : i ≠ 0) (hm : MayLeave X.ap L wa zs f) (hq : L.q = none) (hrel : ∃ r, L.h = .rel wa r) (hd : 0 < L.d) : Move X i L (Extern.Atomic.update (Op.intArith .add) .u64 true #[.pointer (some wa), .int .u64 DD]) fun r L' =>
    ∃ (v s : Nat) (y : Int), r = .int .u64 y ∧ L' = L.turn (.left wa zs f s) none ∧ v ≤ 16 ∧ ((s = 0 ∧ (y = v * KW ∨ (y = v * KW + 1 ∧ 1 ≤ v))) ∨ (s = 2 ∧ y = 1)) := by
  refine ⟨fun ⟨⟨wa', zs, f, e⟩, _⟩ => (by rcases hm with ⟨p, x, _⟩ | ⟨A, x, _⟩ <;> rw [x] at e <;> cases e), fun n Γ w t hI hL hi => ?_⟩
  obtain ⟨x, s, h1, h2, ⟨v, h3, h4⟩, h5, h6⟩ := hI.done hi h0 hL hm hq hrel hd
  obtain ⟨e1, e2⟩ := ent_add (w := w) X.P h1 h2
  obtain ⟨hb, hc⟩ := setCell_but (y := x - KW) h1
  exact ⟨_, _, _, _, e1, e2, sync_ok sync2, h6 _ hb hc, others_upd, kid_cl h0, hb.fill, v, s, x - KW, rfl, upd_same _ _ _, h3, h4⟩
theorem mv_last [Inhabited Base] {wa : Addr} {zs : List Nat} {f : Bool} (h0 : i ≠ 0) (hr : L.role = .left wa zs f 2) (hq : L.q = none) (hrel : ∃ r, L.h = .rel wa r) (hd : 0 < L.d) : Move X i L (Extern.Atomic.loadT (.int .u64) #[.pointer (some wa)]) fun r L' => r = .int .u64 1 ∧ L' = L := by
  refine ⟨nl_of hr fun wa zs f => by simp, fun n Γ w t hI hL hi => ?_⟩
  obtain ⟨g1, g2, g3, g4, g5, g6⟩ := stage_at hI hL hr (.inl rfl)
  rw [if_pos rfl] at g2
  obtain ⟨e1, e2⟩ := ent_load (w := w) X.P g2
  have hid : L.turn (.left wa zs f 2) none = L := by rw [← hr, ← hq]; rfl
  have hs1 : ∀ e ∈ (#[⟨.cell wa, false, true⟩] : Array Event), SyncEv wa e := fun e he => by
    simp only [List.mem_toArray, List.mem_cons, List.not_mem_nil, or_false] at he
    rw [he]; exact .inl ⟨_, rfl⟩
  refine ⟨_, w, _, upd Γ i L, e1, e2, sync_ok hs1, fun fn pos => ?_, others_upd, kid_cl h0, ⟨Aged.refl _, fun _ _ _ _ x => x⟩, rfl, upd_same _ _ _⟩
  have := hI.stage (s' := 2) hi h0 hL hr hq hrel (by decide) (.inl rfl) (But.refl wa w) hs1 (fun j e he _ => ?_) (by simp [deafBehind]) (by rw [hid, upd_self hL]; exact (regs_group hI g1).2.2.2.1) fn pos
  · rw [hid] at this; exact this
  · have hlt : j < 1 := by
      obtain ⟨h', _⟩ := Array.getElem?_eq_some_iff.1 he
      simpa using h'
    match j, hlt with
    | 0, _ => simpa [deafBehind_nil] using hd
theorem mv_zero [Inhabited Base] {wa : Addr} {zs : List Nat} {f : Bool} (h0 : i ≠ 0) (hr : L.role = .left wa zs f 2) (hq : L.q = none) (hrel : ∃ r, L.h = .rel wa r) (hd : 0 < L.d) : Move X i L (Extern.Atomic.storeT #[.pointer (some wa), .int .u64 0]) fun r L' => r = .tuple #[] ∧ L' = L.turn (.left wa zs f 1) none := by
  refine ⟨nl_of hr fun wa zs f => by simp, fun n Γ w t hI hL hi => ?_⟩
  obtain ⟨g1, g2, g3, g4, g5, g6⟩ := stage_at hI hL hr (.inl rfl)
  rw [if_pos rfl] at g2
  obtain ⟨e1, e2⟩ := ent_store (w := w) (y := 0) X.P g2
  obtain ⟨hb, hc⟩ := setCell_but (y := 0) g2
  have hs1 : ∀ e ∈ (#[⟨.cell wa, true, true⟩] : Array Event), SyncEv wa e := fun e he => by
    simp only [List.mem_toArray, List.mem_cons, List.not_mem_nil, or_false] at he
    rw [he]; exact .inl ⟨_, rfl⟩
  refine ⟨_, _, _, _, e1, e2, sync_ok hs1, fun fn pos => hI.stage (s' := 1) hi h0 hL hr hq hrel (by decide) (.inl rfl) hb hs1 (fun j e he _ => ?_) (by simp [deafBehind]) (wg_stage hI hi h0 hL hr (.inl rfl) hc (hb.cellI (fun e => ?_) g3) (.inl ⟨rfl, rfl, rfl⟩)) fn pos, others_upd, kid_cl h0, hb.fill, rfl, upd_same _ _ _⟩
  · have hlt : j < 1 := by
      obtain ⟨h', _⟩ := Array.getElem?_eq_some_iff.1 he
      simpa using h'
    match j, hlt with
    | 0, _ => simpa [deafBehind_nil] using hd
  · have := congrArg Addr.off e
    simp [sem] at this
theorem mv_free [Inhabited Base] {wa : Addr} {zs : List Nat} {f : Bool} {rest : List Value} (h0 : i ≠ 0) (hr : L.role = .left wa zs f 1) (hq : L.q = none) (hrel : ∃ r, L.h = .rel wa r) (hd : 0 < L.d) : Move X i L (Extern.Sync.semrelease (Value.pointer (some (sem wa)) :: rest).toArray) fun r L' => r = .tuple #[] ∧ L' = L.turn (.left wa zs f 0) none := by
  refine ⟨nl_of hr fun wa zs f => by simp, fun n Γ w t hI hL hi => ?_⟩
  obtain ⟨g1, g2, g3, g4, g5, g6⟩ := stage_at hI hL hr (.inr rfl)
  rw [if_neg (by decide)] at g2
  obtain ⟨e1, e2⟩ := ent_semrel (w := w) (y := 1) (rest := rest) X.P g3 (by decide)
  obtain ⟨hb, hc⟩ := setCell_but (y := 1) g3
  have hs4 : ∀ e ∈ semEvents (sem wa), SyncEv (sem wa) e := fun e he => by
    simp only [semEvents, List.mem_toArray, List.mem_cons, List.not_mem_nil, or_false] at he
    rcases he with rfl | rfl | rfl | rfl
    · exact .inr (.inl rfl)
    · exact .inl ⟨_, rfl⟩
    · exact .inl ⟨_, rfl⟩
    · exact .inr (.inr rfl)
  refine ⟨_, _, _, _, e1, e2, sync_ok hs4, fun fn pos => hI.stage (s' := 0) hi h0 hL hr hq hrel (by decide) (.inr rfl) hb hs4 (fun j e he _ => ?_) (by simp [semEvents, deafBehind]) (wg_stage hI hi h0 hL hr (.inr rfl) (hb.cellI (fun e => ?_) g2) hc (.inr ⟨rfl, rfl, rfl⟩)) fn pos, others_upd, kid_cl h0, hb.fill, rfl, upd_same _ _ _⟩
  · have hlt : j < 4 := by
      obtain ⟨h', _⟩ := Array.getElem?_eq_some_iff.1 he
      simpa [semEvents] using h'
    match j, hlt with
    | 0, _ => simpa [deafBehind_nil] using hd
    | 1, _ => simp [semEvents, deafBehind]
    | 2, _ => simp [semEvents, deafBehind]
    | 3, _ => simp [semEvents, deafBehind]
  · have := congrArg Addr.off e
    simp [sem] at this
theorem mv_counted [Inhabited Base] {p : PoolG} {c : Nat} {v : Int} (h0 : i ≠ 0) (hr : L.role = .worker p (some (c, v, false))) (hq : L.q = none) (hal : L.h = .alive) : Move X i L (Extern.Atomic.update (Op.intArith .add) .i64 true #[.pointer (some (ca p.b 8)), .int .i64 1]) fun _ L' => L' = L.turn (.worker p (some (c, v, true))) none := by
  refine ⟨nl_of hr fun wa zs f => by simp, fun n Γ w t hI hL hi => ?_⟩
  obtain ⟨T, h1, h2, h3⟩ := hI.counted hi h0 hL hr hq hal
  obtain ⟨e1, e2⟩ := ent_add (w := w) X.P h1 h2
  obtain ⟨hb, hc⟩ := setCell_but (y := T + 1) h1
  exact ⟨_, _, _, _, e1, e2, sync_ok sync2, h3 _ hb hc, others_upd, kid_cl h0, hb.fill, upd_same _ _ _⟩
theorem mv_draw [Inhabited Base] {A : AllG} {zs : List Nat} (h0 : i ≠ 0) (hr : L.role = .asker A zs none false) (hq : L.q = none) (hal : L.h = .alive) : Move X i L (Extern.Atomic.update (Op.intArith .add) .i64 true #[.pointer (some (ca A.bn 0)), .int .i64 1]) fun r L' =>
    ∃ z : Nat, r = .int .i64 ((z : Int) + 1) ∧ (z : Int) ≤ 2000000000000000 ∧ ((z < A.items.length ∧ L' = L.draws A zs z) ∨ (A.items.length ≤ z ∧ L' = L.turn (.asker A zs none true) none)) := by
  refine ⟨nl_of hr fun wa zs f => by simp, fun n Γ w t hI hL hi => ?_⟩
  obtain ⟨z, h1, h2, h2', h3⟩ := hI.draw hi h0 hL hr hq hal
  obtain ⟨e1, e2⟩ := ent_add (w := w) X.P h1 h2
  obtain ⟨hb, hc⟩ := setCell_but (y := (z : Int) + 1) h1
  rcases Nat.lt_or_ge z A.items.length with hlt | hge
  · exact ⟨_, _, _, _, e1, e2, sync_ok sync2, fun fn pos => (h3 _ hb hc fn pos).1 hlt, others_upd, kid_cl h0, hb.fill, z, rfl, h2', .inl ⟨hlt, upd_same _ _ _⟩⟩
  · exact ⟨_, _, _, _, e1, e2, sync_ok sync2, fun fn pos => (h3 _ hb hc fn pos).2 hge, others_upd, kid_cl h0, hb.fill, z, rfl, h2', .inr ⟨hge, upd_same _ _ _⟩⟩
end
end Go.Proofs.Ytaceedenkmccdaa
/- Pools: the walk: what main's entries do. -/
namespace Go.Proofs.Ytaceedenkmccdaa
open Go Go.Conc Go.ConcN
set_option linter.unusedSimpArgs false
set_option linter.unusedVariables false
section
variable {X : Cx} {i : Nat} {L L' : Lo} {w w' : World} {m : MainR} {wa : Addr}
theorem main_cl {Γ : Nat → Lo} {m' : MainR} {q : Option QSt} (hL : Γ 0 = L) (hr : L.role = .main m) (hc : ∀ b, m.cl b = true → m'.cl b = true) : ∀ b, (Γ 0).role.m.cl b = true → (upd Γ 0 (L.turn (.main m') q) 0).role.m.cl b = true := fun b hb => by
  rw [upd_same]
  rw [hL, hr] at hb
  exact hc b hb
theorem ent_cas_hit (P : Program) {ad : Addr} {k : IntKind} {v y : Int} (h : CellI w ad k v) : ((Extern.Atomic.casT (.int k) #[.pointer (some ad), .int k v, .int k y]).run P w = .ok (.bool true) (w.setCell ad (.int k y))) ∧ ∀ es0, (Extern.Atomic.casT (.int k) #[.pointer (some ad), .int k v, .int k y]).events P w es0 = es0 ++ #[⟨.cell ad, false, true⟩, ⟨.cell ad, true, true⟩] :=
  ⟨by rw [casT_eq, run_cas_hit_entry h.1 h.2], fun es0 => by rw [casT_eq, events_cas_hit_entry h.1 h.2]; apply Array.ext'; simp⟩
theorem ent_cas_miss (P : Program) {ad : Addr} {k : IntKind} {x v y : Int} (h : CellI w ad k x) (hne : x ≠ v) : ((Extern.Atomic.casT (.int k) #[.pointer (some ad), .int k v, .int k y]).run P w = .ok (.bool false) w) ∧ ∀ es0, (Extern.Atomic.casT (.int k) #[.pointer (some ad), .int k v, .int k y]).events P w es0 = es0 ++ #[⟨.cell ad, false, true⟩] :=
  ⟨by rw [casT_eq, run_cas_miss_entry h.1 h.2 hne], fun es0 => by rw [casT_eq, events_cas_miss_entry h.1 h.2 hne]; apply Array.ext'; simp⟩
theorem sync1 {ad : Addr} {wr : Bool} : ∀ e ∈ (#[⟨.cell ad, wr, true⟩] : Array Event), SyncEv ad e := fun e he => by
  simp only [List.mem_toArray, List.mem_cons, List.not_mem_nil, or_false] at he
  rw [he]; exact .inl ⟨_, rfl⟩
theorem mark_ok {mk : Mark} (h : ∀ g, mk ≠ .extern g) : ∀ x ∈ (#[⟨.mark mk, false, true⟩] : Array Event), x.sync = true ∧ ∀ g, x.loc ≠ .mark (.extern g) := fun x hx => by
  simp only [List.mem_toArray, List.mem_cons, List.not_mem_nil, or_false] at hx
  subst hx
  exact ⟨rfl, fun g e => h g (Loc.mark.inj e)⟩
theorem mv_up [Inhabited Base] (f : Free L m wa) : Move X 0 L (Extern.Atomic.update (Op.intArith .add) .u64 true #[.pointer (some wa), .int .u64 KW]) fun r L' => ∃ v : Nat, v ≤ 16 ∧ r = .int .u64 (((v + 1 : Nat) : Int) * KW) ∧ L' = L.turn (.main (m.at none (some wa) none)) L.q := by
  refine ⟨nl_of f.role fun wa zs f => by simp, fun n Γ w t hI hL hi => ?_⟩
  obtain ⟨v, h1, h2, h3, h4⟩ := hI.countUp hL f
  obtain ⟨e1, e2⟩ := ent_add (w := w) X.P h2 h3
  obtain ⟨hb, hc⟩ := setCell_but (y := ((v + 1 : Nat) : Int) * KW) h2
  exact ⟨_, _, _, _, e1, e2, sync_ok sync2, h4 _ hb hc, others_upd, main_cl hL f.role fun _ x => x, hb.fill, v, h1, rfl, upd_same _ _ _⟩
theorem mv_told [Inhabited Base] (hr : L.role = .main m) (hwa : IsWa (.main m) wa) (mk : Addr → Mark) (hmk : mk (sem wa) = .read (sem wa) ∨ mk (sem wa) = .write (sem wa)) : Move X 0 L (Extern.Race.marked mk #[.pointer (some (sem wa))]) fun _ L' => L' = L := by
  refine ⟨nl_of hr fun wa zs f => by simp, fun n Γ w t hI hL hi => ?_⟩
  obtain ⟨e1, e2⟩ := ent_mark (w := w) X.P mk (ad := sem wa)
  exact ⟨_, w, _, Γ, e1, e2, mark_ok fun g e => (by rcases hmk with x | x <;> rw [x] at e <;> cases e), fun fn pos => hI.told hL hr (by rw [hL, hr]; exact hwa) hmk fn pos, fun j _ => .inl rfl, fun _ x => x, ⟨Aged.refl _, fun _ _ _ _ x => x⟩, hL⟩
theorem mv_look [Inhabited Base] (f : Free L m wa) : Move X 0 L (Extern.Atomic.loadT (.int .u64) #[.pointer (some wa)]) fun r L' => ∃ v : Nat, v ≤ 16 ∧ r = .int .u64 (v * KW) ∧ (∀ k, m.dn = some (wa, k) → v ≤ k) ∧ L' = L.turn (.main (m.at none none (some (wa, v)))) L.q := by
  refine ⟨nl_of f.role fun wa zs f => by simp, fun n Γ w t hI hL hi => ?_⟩
  obtain ⟨v, h1, h2, h3, _⟩ := hI.look hL f 0 ""
  obtain ⟨e1, e2⟩ := ent_load (w := w) X.P h2
  refine ⟨_, w, _, upd Γ 0 (L.turn (.main (m.at none none (some (wa, v)))) L.q), e1, e2, sync_ok sync1, fun fn pos => ?_, others_upd, main_cl hL f.role fun _ x => x, ⟨Aged.refl _, fun _ _ _ _ x => x⟩, v, h1, rfl, h3, upd_same _ _ _⟩
  obtain ⟨v', _, h2', _, h4⟩ := hI.look hL f fn pos
  have : v = v' := by
    have := h2.1.symm.trans h2'.1
    simp only [Option.some.injEq, Value.int.injEq, true_and] at this
    unfold KW at this
    omega
  rw [this]; exact h4
theorem mv_cas [Inhabited Base] {v : Nat} (f : Free L m wa) (hdn : m.dn = some (wa, v)) (hv : 1 ≤ v) (hopen : OpenWa (.main m) wa) (hcl : ∀ e ∈ m.ps, wa = handsA e → m.cl e.b = true) : Move X 0 L (Extern.Atomic.casT (.int .u64) #[.pointer (some wa), .int .u64 (v * KW), .int .u64 ((v : Int) * KW + 1)]) fun r L' =>
    (r = .bool true ∧ L' = L.turn (.main (m.at (some wa) none none)) L.q) ∨ (r = .bool false ∧ L' = L.turn (.main (m.at none none (some (wa, v - 1)))) L.q) := by
  refine ⟨nl_of f.role fun wa zs f => by simp, fun n Γ w t hI hL hi => ?_⟩
  obtain ⟨x, h1, ⟨rfl, h2⟩ | ⟨hne, h2⟩⟩ := hI.register hL f hdn hv (by rw [hL, f.role]; exact hopen) hcl
  · obtain ⟨e1, e2⟩ := ent_cas_hit (w := w) (y := (v : Int) * KW + 1) X.P h1
    obtain ⟨hb, hc⟩ := setCell_but (y := (v : Int) * KW + 1) h1
    exact ⟨_, _, _, _, e1, e2, sync_ok sync2, h2 _ hb hc, others_upd, main_cl hL f.role fun _ x => x, hb.fill, .inl ⟨rfl, upd_same _ _ _⟩⟩
  · obtain ⟨e1, e2⟩ := ent_cas_miss (w := w) (y := (v : Int) * KW + 1) X.P h1 hne
    exact ⟨_, _, _, _, e1, e2, sync_ok sync1, h2, others_upd, main_cl hL f.role fun _ x => x, ⟨Aged.refl _, fun _ _ _ _ x => x⟩, .inr ⟨rfl, upd_same _ _ _⟩⟩
theorem mv_acqH [Inhabited Base] {p : PoolG} (hr : L.role = .main m) (hp : p ∈ m.ps) (hreg : m.reg = none) (hpnd : m.pnd = none) (hdn : m.dn = some (handsA p, 0)) (hal : m.al = none) (hcl : m.cl p.b = true) (hd : L.d = 0) (hq : L.q = none) : Move X 0 L (Extern.Race.marked .acquire #[.pointer (some (handsA p))]) fun _ L' => L' = L.turn (.main (m.done p)) none := by
  refine ⟨nl_of hr fun wa zs f => by simp, fun n Γ w t hI hL hi => ?_⟩
  have hk := thru_hands hI hL hr hp hreg hpnd hdn hal hcl hd hq
  obtain ⟨e1, e2⟩ := ent_mark (w := w) X.P .acquire (ad := handsA p)
  exact ⟨_, w, _, through Γ (handsA p) (L.turn (.main (m.done p)) none), e1, e2, mark_ok fun g e => (by cases e), fun fn pos => (hI.acquire hk fn pos).1, (hI.acquire hk 0 "").2, fun b hb => by rw [through0]; rw [hL, hr] at hb; exact hb, ⟨Aged.refl _, fun _ _ _ _ x => x⟩, through0 _ _⟩
theorem mv_acqA [Inhabited Base] {A : AllG} {sp : Nat} (hr : L.role = .main m) (hal : m.al = some (A, sp)) (hreg : m.reg = none) (hpnd : m.pnd = none) (hdn : m.dn = some (groupA A, 0)) (hsp : A.items.length ≠ 0 → sp ≠ 0) (hd : L.d = 0) (hq : L.q = none) (hbd : ∀ p, A.p = some p → A.cl = false → m.asks p.b + A.items.length ≤ 1000000000000000) : Move X 0 L (Extern.Race.marked .acquire #[.pointer (some (groupA A))]) fun _ L' => L' = L.gathers X.ap m A := by
  refine ⟨nl_of hr fun wa zs f => by simp, fun n Γ w t hI hL hi => ?_⟩
  have hk := thru_all hI hL hr hal hreg hpnd hdn hsp hd hq hbd
  obtain ⟨e1, e2⟩ := ent_mark (w := w) X.P .acquire (ad := groupA A)
  exact ⟨_, w, _, through Γ (groupA A) (L.gathers X.ap m A), e1, e2, mark_ok fun g e => (by cases e), fun fn pos => (hI.acquire hk fn pos).1, (hI.acquire hk 0 "").2, fun b hb => by rw [through0]; rw [hL, hr] at hb; exact hb, ⟨Aged.refl _, fun _ _ _ _ x => x⟩, through0 _ _⟩
theorem mv_asked [Inhabited Base] {p : PoolG} (hr : L.role = .main m) (hp : p ∈ m.ps) (hal : m.al = none) (hq : L.q = none) : Move X 0 L (Extern.Atomic.loadT (.int .i64) #[.pointer (some (ca p.b 8))]) fun r L' => r = .int .i64 (m.asks p.b) ∧ L' = L := by
  refine ⟨nl_of hr fun wa zs f => by simp, fun n Γ w t hI hL hi => ?_⟩
  obtain ⟨h1, _⟩ := hI.asked hL hr hp hal hq 0 ""
  obtain ⟨e1, e2⟩ := ent_load (w := w) X.P h1
  exact ⟨_, w, _, Γ, e1, e2, sync_ok sync1, fun fn pos => (hI.asked hL hr hp hal hq fn pos).2, fun j _ => .inl rfl, fun _ x => x, ⟨Aged.refl _, fun _ _ _ _ x => x⟩, rfl, hL⟩
/-! ### what is one's own -/
theorem move_loc [Inhabited Base] {e : Sem Value} {Post : Value → Lo → Prop} (hlv : Live L) (h : ∀ w, L.S w → (∀ ad, L.M ad ∨ L.R ad → ad.block < w.heap.size) → ∃ (v : Value) (w' : World) (es : Array Event) (L' : Lo), e.run X.P w = .ok v w' ∧ (∀ es0, e.events X.P w es0 = es0 ++ es) ∧ (∀ x ∈ es, x.sync = true ∧ ∀ g, x.loc ≠ .mark (.extern g)) ∧ LocOK L L' w w' es ∧ Post v L') : Move X i L e Post := by
  refine ⟨hlv.nl, fun n Γ w t hI hL hi => ?_⟩
  obtain ⟨v, w', es, L', h1, h2, h3, h4, h5⟩ := h w (by have := hI.know i; rwa [hL] at this) (fun ad had => hI.blk i ad (by rw [hL]; exact had))
  refine ⟨v, w', es, upd Γ i L', h1, h2, h3, fun fn pos => inv_loc hI hi hL hlv.1 hlv.2 h4 fn pos, others_upd, fun b hb => ?_, h4.keep.fill, by rw [upd_same]; exact h5⟩
  rcases upd_eq Γ i L' 0 with ⟨e, ei⟩ | ⟨e, _⟩
  · rw [e, h4.role]; rw [← hL, ← ei]; exact hb
  · rw [e]; exact hb
/-- A word about a place of one's own. -/
theorem mv_mute [Inhabited Base] (hlv : Live L) {ad : Addr} (had : L.M ad ∨ L.R ad) (mk : Addr → Mark) (hmk : mk ad = .acquire ad ∨ mk ad = .releaseMerge ad) : Move X i L (Extern.Race.marked mk #[.pointer (some ad)]) fun _ L' => L' = L := by
  refine ⟨hlv.nl, fun n Γ w t hI hL hi => ?_⟩
  obtain ⟨e1, e2⟩ := ent_mark (w := w) X.P mk (ad := ad)
  have hb : ad.block < w.heap.size := hI.blk i ad (by rw [hL]; exact had)
  have hself : upd Γ i ((Γ i).deafen L.d) = Γ := by
    have : (Γ i).deafen L.d = L := by rw [hL]; rfl
    rw [this]; exact upd_self hL
  refine ⟨_, w, _, Γ, e1, e2, mark_ok fun g e => (by rcases hmk with x | x <;> rw [x] at e <;> cases e), fun fn pos => ?_, fun j _ => .inl rfl, fun _ x => x, ⟨Aged.refl _, fun _ _ _ _ x => x⟩, hL⟩
  have := hI.mute (i := i) (d' := L.d) (u := MemOp.ofEvents i fn pos #[⟨.mark (mk ad), false, true⟩]) hi (fun op hop => ?_) (by rw [Deaf_own, hI.deaf, hL]; rcases hmk with x | x <;> rw [x] <;> simp [deafBehind])
  · rw [hself] at this; exact this
  · obtain ⟨e, he, rfl⟩ := Go.Conc.mem_ofEvents hop
    simp only [List.mem_toArray, List.mem_cons, List.not_mem_nil, or_false] at he
    subst he
    rcases hmk with x | x
    · rw [x]; exact ⟨rfl, rfl, fun a e => (by cases e), hb⟩
    · rw [x]; exact ⟨rfl, rfl, fun a e => (by cases e), hb⟩
end
end Go.Proofs.Ytaceedenkmccdaa
/- Pools: the walk: own memory, channels made and closed, regions that draw their order. -/
namespace Go.Proofs.Ytaceedenkmccdaa
open Go Go.Conc Go.ConcN
set_option linter.unusedSimpArgs false
set_option linter.unusedVariables false
/-- One's state, told by what its cells hold. -/
def own (M R V : Addr → Prop) (F : Addr → Value → Prop) (W : Addr → Prop) (h : HSt) (d : Nat) (role : Role) (q : Option QSt) : Lo :=
  ⟨M, R, V, fun w => (∀ a v, F a v → M a ∨ R a → w.cell? a = some v) ∧ ∀ a, W a → M a → w.frozen? a = false, fun w w' hc _ h => ⟨fun a v hf hm => by rw [(hc a hm).1]; exact h.1 a v hf hm, fun a hw hm => by rw [(hc a (.inl hm)).2]; exact h.2 a hw hm⟩, h, d, role, q⟩
section
variable {X : Cx} {i : Nat} {fn : FuncId} {Q' Q'' : Exit → Act → Lo → Prop} {a : Act} {L L' Lc : Lo} {w w' : World} {Post : Value → Lo → Prop}
section
variable {ops : Array Oper} {j : Nat} {rest : List Nat} {o : Oper} {k : Nat}
/-- An operation that only reads. -/
theorem opsS_read [Inhabited Base] (v : Value) (ho : ops[j]? = some o) (hw : Region.wanted o (yielded ops a.tmps) = true) (hlv : Live L) (hv : ∀ ad, L.V ad → L.M ad) (hr : ∀ w, L.S w → (execOp a.eval o).run X.P w = .ok (.value v) w) (he : ∀ w, L.S w → ∀ e ∈ listed X.P fn a o w, EvLoc L e)
    (h : OpsS X i fn ops rest k Q' (a.put o.dst v) L) : OpsS X i fn ops (j :: rest) (k + 1) Q' a L :=
  opsS_loc ho hw hlv fun w hS _ => ⟨_, v, w, L, hr w hS, .inl rfl, LocOK.refl hS (Keeps.refl _ _) (he w hS) hv, h⟩
theorem keeps_set [Inhabited Base] {M : Addr → Prop} {ad : Addr} {u v : Value} (h : w.cell? ad = some u) (hm : M ad) : Keeps M w (w.setCell ad v) := by
  have hb : ∃ cs el fr, w.heap[ad.block]? = some (.cells cs el fr) := by
    unfold World.cell? at h
    cases hb : w.heap[ad.block]? with
    | none => rw [hb] at h; cases h
    | some o => rw [hb] at h; cases o <;> simp at h ⊢
  obtain ⟨cs, el, fr, hb⟩ := hb
  have hoth : ∀ c, c ≠ ad.block → (w.setCell ad v).heap[c]? = w.heap[c]? := fun c hc => by
    simp [World.setCell, Array.getElem?_modify, Ne.symm hc]
  have hself : ∃ cs', (w.setCell ad v).heap[ad.block]? = some (.cells cs' el fr) := by
    simp [World.setCell, Array.getElem?_modify, hb]
  refine ⟨by simp [World.setCell], fun a _ hn => ⟨World.cell?_setCell_other _ _ _ _ fun e => hn (e ▸ hm), World.frozen?_setCell _ _ _ _⟩, fun c cap buf cl s r tm e => ?_, Aged.setCell _ _ _, fun c v' s r ⟨tm, e⟩ => ?_⟩
  · rw [hoth c fun x => by rw [x, hb] at e; cases e]; exact e
  · by_cases x : c = ad.block
    · obtain ⟨cs', y⟩ := hself
      subst x; rw [y] at e; cases e
    · exact ⟨tm, by rw [← hoth c x]; exact e⟩
/-- A store into a cell of one's own. -/
theorem opsS_set [Inhabited Base] {ad : Addr} {v r : Value} (ho : ops[j]? = some o) (hw : Region.wanted o (yielded ops a.tmps) = true) (hlv : Live L) (hM : L.M ad) (hV : ∀ a, L.V a → L.M a ∧ a ≠ ad) (hcell : ∀ w, L.S w → ∃ u, w.cell? ad = some u) (hr : ∀ w, L.S w → (execOp a.eval o).run X.P w = .ok (.value r) (w.setCell ad v) ∨ (execOp a.eval o).run X.P w = .ok .skip (w.setCell ad v) ∧ r = undef)
    (he : ∀ w, L.S w → ∀ e ∈ listed X.P fn a o w, EvLoc L e) (hL' : L'.role = L.role ∧ L'.q = L.q ∧ L'.h = L.h ∧ L'.d = L.d ∧ L'.M = L.M ∧ L'.R = L.R ∧ L'.V = L.V) (hS : ∀ w, L.S w → L'.S (w.setCell ad v))
    (h : OpsS X i fn ops rest k Q' (a.put o.dst r) L') : OpsS X i fn ops (j :: rest) (k + 1) Q' a L := by
  obtain ⟨l1, l2, l3, l4, l5, l6, l7⟩ := hL'
  refine opsS_loc ho hw hlv fun w hSw _ => ?_
  obtain ⟨u, hu⟩ := hcell w hSw
  have hloc : LocOK L L' w (w.setCell ad v) (listed X.P fn a o w) := ⟨l1, l2, l3, l4, keeps_set hu hM, fun a ha => .inl (l5 ▸ ha), fun a ha => .inl (l6 ▸ ha), fun A z _ ha => l5 ▸ ha, fun a ha => ⟨l5 ▸ (hV a (l7 ▸ ha)).1, .inl (l7 ▸ ha)⟩, hS w hSw, he w hSw⟩
  rcases hr w hSw with h1 | ⟨h1, h2⟩
  · exact ⟨_, r, _, L', h1, .inl rfl, hloc, h⟩
  · exact ⟨_, r, _, L', h1, .inr ⟨rfl, h2⟩, hloc, h⟩
theorem keeps_new [Inhabited Base] {M : Addr → Prop} (w : World) (cs : Array Value) (ty : TypeId) : Keeps M w (w.alloc (.cells cs ty)) := by
  refine ⟨by rw [alloc_size]; omega, fun a ha _ => alloc_cell w _ a ha, fun c cap buf cl s r tm e => alloc_keep w _ e, Aged.alloc _ _, fun c v s r ⟨tm, e⟩ => ?_⟩
  by_cases x : c = w.heap.size
  · subst x; rw [alloc_new] at e; cases e
  · refine ⟨tm, ?_⟩
    have hlt := lt_of_some e
    rw [alloc_size] at hlt
    rw [← e]
    exact (alloc_old w _ (by omega)).symm
/-- A new block of one's own. -/
theorem opsS_new [Inhabited Base] {Ln : Nat → Lo} {r : Nat → Value} {cs : Array Value} {ty : TypeId} (ho : ops[j]? = some o) (hw : Region.wanted o (yielded ops a.tmps) = true) (hlv : Live L) (hV : ∀ a, L.V a → L.M a) (hr : ∀ w, L.S w → (execOp a.eval o).run X.P w = .ok (.value (r w.heap.size)) (w.alloc (.cells cs ty)))
    (he : ∀ w, L.S w → listed X.P fn a o w = #[]) (hL' : ∀ bk, (Ln bk).role = L.role ∧ (Ln bk).q = L.q ∧ (Ln bk).h = L.h ∧ (Ln bk).d = L.d ∧ (∀ a, (Ln bk).M a → L.M a ∨ a.block = bk) ∧ (∀ a, L.M a → (Ln bk).M a) ∧ (∀ a, (Ln bk).R a → L.R a ∨ L.M a) ∧ ∀ a, (Ln bk).V a → (Ln bk).M a ∧ (L.V a ∨ a.block = bk))
    (hS : ∀ w, L.S w → (∀ ad, L.M ad ∨ L.R ad → ad.block < w.heap.size) → (Ln w.heap.size).S (w.alloc (.cells cs ty)))
    (h : ∀ bk, (∀ ad, L.M ad ∨ L.R ad → ad.block < bk) → OpsS X i fn ops rest k Q' (a.put o.dst (r bk)) (Ln bk)) : OpsS X i fn ops (j :: rest) (k + 1) Q' a L := by
  refine opsS_loc ho hw hlv fun w hSw hbk => ?_
  obtain ⟨l1, l2, l3, l4, l5, l5', l6, l7⟩ := hL' w.heap.size
  refine ⟨_, r w.heap.size, w.alloc (.cells cs ty), Ln w.heap.size, hr w hSw, .inl rfl, ⟨l1, l2, l3, l4, keeps_new w cs ty, fun a ha => (l5 a ha).imp id fun e => ⟨by omega, by rw [alloc_size]; omega⟩, l6, fun A z _ ha => l5' _ ha, fun a ha => ⟨(l7 a ha).1, (l7 a ha).2.imp id fun e => by omega⟩, hS w hSw hbk, fun e hin => ?_⟩, h _ hbk⟩
  rw [he w hSw] at hin
  simp at hin
/-- New makes a channel. -/
theorem opsS_mk0 [Inhabited Base] {m : MainR} (ho : ops[j]? = some o) (hw : Region.wanted o (yielded ops a.tmps) = true) (hi0 : i = 0) (hro : L.role = .main m) (hr : ∀ w, (execOp a.eval o).run X.P w = .ok (.value (.chan (some w.heap.size))) (w.alloc (.chan 0 #[] false 0 0 false))) (he : ∀ w, listed X.P fn a o w = #[])
    (h : ∀ c, (∀ c' ∈ m.nw, c' ≠ c) → OpsS X i fn ops rest k Q' (a.put o.dst (.chan (some c))) (L.turn (.main (m.makes c)) L.q)) : OpsS X i fn ops (j :: rest) (k + 1) Q' a L := by
  subst hi0
  refine opsS_op ho hw (nl_of hro fun wa zs f => by simp) fun n Γ w t hI hL hi => ?_
  obtain ⟨h1, h2⟩ := hI.makes hL hro
  refine ⟨_, _, w.alloc (.chan 0 #[] false 0 0 false), upd Γ 0 (L.turn (.main (m.makes w.heap.size)) L.q), hr w, .inl rfl, fun pos => ?_, others_upd, fun b kk cs => .inr ⟨?_, fun wa _ hc => hc.keep (alloc_cell w _ _ ?_)⟩, main_cl hL hro fun _ x => x, alloc_fill w, by rw [upd_same]; exact h _ h1⟩
  · rw [he, ofEvents_nil, Array.append_empty]; exact h2
  · rw [upd_same, hL, hro]; rfl
  · have := hc.1
    unfold World.cell? at this
    rcases Nat.lt_or_ge (sem wa).block w.heap.size with x | x
    · exact x
    · rw [Array.getElem?_eq_none x] at this; cases this
/-- Ask makes a channel. -/
theorem opsS_mk1 [Inhabited Base] {p : PoolG} (v : Int) (ho : ops[j]? = some o) (hw : Region.wanted o (yielded ops a.tmps) = true) (hlv : Live L) (hq : L.q = none) (hwho : i = 0 ∨ ∃ A zs cur f, L.role = .asker A zs cur f) (hp : ∀ n Γ w t, Inv X.ap n Γ w t → Γ i = L → i < n → p ∈ (Γ 0).role.m.ps ∧ (Γ 0).role.m.cl p.b = false ∧ (Γ 0).role.m.rd p.b = true)
    (hr : ∀ w, (execOp a.eval o).run X.P w = .ok (.value (.chan (some w.heap.size))) (w.alloc (.chan 1 #[] false 0 0 false))) (he : ∀ w, listed X.P fn a o w = #[])
    (h : ∀ c, OpsS X i fn ops rest k Q' (a.put o.dst (.chan (some c))) (L.turn L.role (some ⟨p, c, v, false⟩))) : OpsS X i fn ops (j :: rest) (k + 1) Q' a L := by
  refine opsS_op ho hw hlv.nl fun n Γ w t hI hL hi => ?_
  obtain ⟨p1, p2, p3⟩ := hp n Γ w t hI hL hi
  have h2 := hI.asks (v := v) hi hL hlv.1 hq p1 p2 p3 hwho
  have er : (upd Γ i (L.turn L.role (some ⟨p, w.heap.size, v, false⟩)) 0).role = (Γ 0).role := by
    rcases upd_eq Γ i (L.turn L.role (some ⟨p, w.heap.size, v, false⟩)) 0 with ⟨e, ei⟩ | ⟨e, _⟩
    · rw [e, ei, hL]; rfl
    · rw [e]
  refine ⟨_, _, w.alloc (.chan 1 #[] false 0 0 false), upd Γ i (L.turn L.role (some ⟨p, w.heap.size, v, false⟩)), hr w, .inl rfl, fun pos => ?_, others_upd, fun b kk cs => .inr ⟨by rw [er], fun wa _ hc => hc.keep (alloc_cell w _ _ ?_)⟩, fun b hb => by rw [er]; exact hb, alloc_fill w, by rw [upd_same]; exact h _⟩
  · rw [he, ofEvents_nil, Array.append_empty]; exact h2
  · have := hc.1
    unfold World.cell? at this
    rcases Nat.lt_or_ge (sem wa).block w.heap.size with x | x
    · exact x
    · rw [Array.getElem?_eq_none x] at this; cases this
/-- Close. -/
theorem opsS_close [Inhabited Base] {m : MainR} {p : PoolG} {r : Value} (ho : ops[j]? = some o) (hw : Region.wanted o (yielded ops a.tmps) = true) (hop : ∃ bi ars ats, o.op = .call { callee := .builtin bi, args := ars, argTypes := ats }) (hi0 : i = 0) (hro : L.role = .main m) (hp : p ∈ m.ps) (hcl : m.cl p.b = false) (hal : m.al = none) (hq : L.q = none)
    (hr : ∀ w s rc tm, w.heap[p.ce]? = some (.chan 0 #[] false s rc tm) → (execOp a.eval o).run X.P w = .ok (.value r) { w with heap := w.heap.setIfInBounds p.ce (.chan 0 #[] true s rc tm) } ∧ listed X.P fn a o w = #[⟨.obj p.ce, false, true⟩, ⟨.obj p.ce, true, true⟩])
    (h : OpsS X i fn ops rest k Q' (a.put o.dst r) (L.turn (.main (m.closes p)) none)) : OpsS X i fn ops (j :: rest) (k + 1) Q' a L := by
  subst hi0
  refine opsS_op ho hw (nl_of hro fun wa zs f => by simp) fun n Γ w t hI hL hi => ?_
  obtain ⟨s, rc, tm, h1, h2⟩ := hI.closes hL hro hp hcl hal hq
  obtain ⟨h3, h4⟩ := hr w s rc tm h1
  have hlt := lt_of_some h1
  have h5 := h2 { w with heap := w.heap.setIfInBounds p.ce (.chan 0 #[] true s rc tm) } ⟨rfl, rfl, rfl⟩ (by simp) (by simp [hlt]) (fun c hc => by simp [Array.getElem?_setIfInBounds_ne (Ne.symm hc)])
  refine ⟨_, _, _, upd Γ 0 (L.turn (.main (m.closes p)) none), h3, .inl rfl, fun pos => by rw [h4]; exact (h5 fn pos).1, others_upd, fun b kk cs => .inl ?_, main_cl hL hro fun b x => ?_, (h5 0 "").2, by rw [upd_same]; exact h⟩
  · obtain ⟨bi, ars, ats, hop⟩ := hop
    simp [mayWake, G, Frame.at, ho, hop]
  · by_cases e : b = p.b
    · simp [MainR.closes, e]
    · simp [MainR.closes, e, x]
end
/-! ### regions that draw their order -/
theorem wpS_region_draw [Inhabited Base] {id n : Nat} {ops : Array Oper} (h : ∀ t, OpsS X i fn ops (Region.schedule (X.P.follows .mixedOrders) ops t) n Q' a L) (hnl : ¬ Lefty L) : wpS X i fn (.region id ops true) (n + 1) Q' a L := fun b k cs m hb hk hc => by
  refine safe_step (c := m + n) rfl hnl fun n' Γ w t hI hL hi => ⟨_, { w with drawn := w.drawn + 1 }, #[], Γ, stepG_region_draw, ?_, fun j _ => .inl rfl, .inr ⟨rfl, fun _ _ x => x⟩, fun _ x => x, ⟨Aged.at _ _, fun _ _ _ _ x => x⟩, ?_⟩
  · rw [opsOf_nil]
    exact hI.words (u := #[]) (fun op hop => by simp at hop) (w.drawn + 1)
  · rw [hL]; exact h _ b k cs m hb hk hc
/-- An operation that may come up, within C steps. -/
def OpS [Inhabited Base] (X : Cx) (i : Nat) (fn : FuncId) (ops : Array Oper) (j C : Nat) (K : Act → Lo → Prop) (a : Act) (L : Lo) : Prop :=
  ∀ (rest : List Nat) (n : Nat) (Q' : Exit → Act → Lo → Prop), (∀ a' L', K a' L' → OpsS X i fn ops rest n Q' a' L') → OpsS X i fn ops (j :: rest) (n + C) Q' a L
theorem getD_set [Inhabited Base] (d : Array Bool) {j : Nat} (hj : j < d.size) : (fun x => (d.setIfInBounds j true).getD x false) = upd (fun x => d.getD x false) j true := by
  funext x
  rcases upd_eq (fun x => d.getD x false) j true x with ⟨e, rfl⟩ | ⟨e, hx⟩
  · rw [e]; simp [hj]
  · rw [e]; simp [Array.getElem?_setIfInBounds_ne (Ne.symm hx)]
theorem getD_ff {d : Array Bool} {j : Nat} (hj : j < d.size) (h : d.getD j true = false) : d.getD j false = false := by
  simp [hj] at h ⊢
  exact h
/-- Whatever order: an invariant over what has come up. -/
theorem opsS_any [Inhabited Base] {ops : Array Oper} {md : Region.Mode} (J : Array Bool → Act → Lo → Prop) (C : Nat) (step : ∀ done j a L, done.size = ops.size → j ∈ Region.ready md ops done → J done a L → OpS X i fn ops j C (fun a' L' => J (done.setIfInBounds j true) a' L') a L) (fin : ∀ done a L, done.size = ops.size → Region.ready md ops done = [] → J done a L → Q' .normal a L) :
    ∀ (fuel t : Nat) (done : Array Bool) (a : Act) (L : Lo), done.size = ops.size → (cnt ops.size fun x => done.getD x false) + fuel = ops.size → J done a L → OpsS X i fn ops (Region.linearise.go md ops fuel t done []) (fuel * C + 1) Q' a L := by
  have hfull : ∀ done : Array Bool, done.size = ops.size → (cnt ops.size fun x => done.getD x false) = ops.size → Region.ready md ops done = [] := fun done hs hc => by
    cases hr : Region.ready md ops done with
    | nil => rfl
    | cons x xs =>
      exfalso
      have hx : x ∈ Region.ready md ops done := by rw [hr]; exact List.mem_cons_self
      obtain ⟨h1, o, ho, _⟩ := mem_ready.1 hx
      have hlt : x < ops.size := (Array.getElem?_eq_some_iff.1 ho).1
      have h1 := getD_ff (by omega) h1
      have := cnt_upd (fun x => done.getD x false) true (fun b => b) (i := x) (n := ops.size) hlt
      simp only [h1, if_true, Bool.false_eq_true, if_false] at this
      have h2 := cnt_le (n := ops.size) (f := fun a => upd (fun x => done.getD x false) x true a) (g := fun _ => true) (fun _ _ _ => rfl)
      have h3 : (cnt ops.size fun _ => true) = ops.size := by
        generalize ops.size = N
        clear h2 this hlt hc
        induction N with
        | zero => rfl
        | succ N ih => rw [cnt_succ, ih]; rfl
      omega
  intro fuel
  induction fuel with
  | zero =>
    intro t done a L hs hc hJ
    have : Region.linearise.go md ops 0 t done [] = [] := by simp [Region.linearise.go]
    rw [this]
    exact opsS_more (opsS_nil (fin done a L hs (hfull done hs (by omega)) hJ)) (by omega)
  | succ fuel ih =>
    intro t done a L hs hc hJ
    simp only [Region.linearise.go]
    change OpsS X i fn ops (match (Region.ready md ops done)[t % (Region.ready md ops done).length]? with
      | some j => Region.linearise.go md ops fuel (t / (Region.ready md ops done).length) (done.setIfInBounds j true) [j]
      | none => [].reverse) ((fuel + 1) * C + 1) Q' a L
    cases hi : (Region.ready md ops done)[t % (Region.ready md ops done).length]? with
    | none =>
      have hnil : Region.ready md ops done = [] := by
        cases hr : Region.ready md ops done with
        | nil => rfl
        | cons x xs =>
          rw [hr] at hi
          have hlt : t % (x :: xs).length < (x :: xs).length := Nat.mod_lt _ (by simp)
          simp at hi
          simp at hlt
          omega
      exact opsS_more (opsS_nil (fin done a L hs hnil hJ)) (by omega)
    | some j =>
      simp only []
      rw [linearise_go_acc, List.reverse_singleton, List.singleton_append]
      have hj := List.mem_of_getElem? hi
      obtain ⟨h1, o, ho, _⟩ := mem_ready.1 hj
      have hlt : j < ops.size := (Array.getElem?_eq_some_iff.1 ho).1
      have e : (fuel + 1) * C + 1 = (fuel * C + 1) + C := by rw [Nat.succ_mul]; omega
      rw [e]
      refine step done j a L hs hj hJ _ _ _ fun a' L' hJ' => ih _ _ a' L' (by simpa using hs) ?_ hJ'
      rw [getD_set done (by omega)]
      have h1 := getD_ff (by omega) h1
      have := cnt_upd (fun x => done.getD x false) true (fun b => b) (i := j) (n := ops.size) hlt
      simp only [h1, if_true, Bool.false_eq_true, if_false] at this
      have h5 : (cnt ops.size fun a => upd (fun x => done.getD x false) j true a) = cnt ops.size (upd (fun x => done.getD x false) j true) := rfl
      omega
end
end Go.Proofs.Ytaceedenkmccdaa
