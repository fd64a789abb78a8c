/- Pools: the regions that draw their order, in the laws of the answers and of two pools. -/
import Derived.Test.YtaceedenkmccdaaSk
namespace Go.Proofs.Ytaceedenkmccdaa
open Go Go.Conc Go.ConcN
set_option linter.unusedSimpArgs false
set_option linter.unusedVariables false
variable {X : Cx} {L L' : Lo}
set_option maxRecDepth 100000
set_option maxHeartbeats 8000000
noncomputable def ansR14 : Code := match Try.f3.body with | some (.seq _ (.seq _ (.seq _ (.seq _ (.seq _ (.seq _ (.seq _ (.seq _ (.seq (.seq _ (.block _ (.loop (.seq _ (.seq (.block _ (.seq r _)) _))))) _))))))))) => r | _ => .skip
noncomputable def twoR15 : Code := match Try.f6.body with | some (.seq _ (.seq _ (.seq _ (.seq _ (.seq _ (.seq _ (.seq _ (.seq (.seq _ (.block _ (.loop (.seq _ (.seq (.block _ (.seq r _)) _))))) _)))))))) => r | _ => .skip
theorem w_ans14 [Inhabited Base] (hP : X.P = Try.prog) {a : Act} {bo so8 : Nat} {sb : Addr} {n cx cp : Nat} {x : Int} {j : Nat} (hfit : Fit L) (hj : j < n) (sz : a.tmps.size = 107) (h1 : a.tmps[1]? = some (.slice (some sb) n cx)) (h8 : a.tmps[8]? = some (.slice (some ⟨so8, 0, none⟩) (n + 1) cp)) (h9 : a.tmps[9]? = some (.slice (some ⟨bo, 0, none⟩) n n)) (h12 : a.tmps[12]? = some (.int .i64 j)) (s9 : Sees L ⟨bo, j, none⟩ (.int .i64 (IntKind.i64.wrap (x + x)))) (s1 : Sees L (sb.add j) (.int .i64 x)) (s8 : Sees L ⟨so8, j, none⟩ (.int .i64 x)) (hj1 : (j : Int) < (n : Int) + 1) :
    wpS X 0 3 ansR14 2000 (fun e a' L' => e = .normal ∧ a'.defers = a.defers ∧ a'.tmps.size = 107 ∧ (∀ s, s < 13 → a'.tmps[s]? = a.tmps[s]?) ∧ a'.tmps[104]? = some (.bool false) ∧ L' = L) a L := by
  (obtain ⟨P, ap, SelAt, CI, CW, Q⟩ := X; dsimp only at hP; subst hP)
  dsimp only [ansR14, Try.f3]
  co_apply wpS_more
  co_apply wpS_fill (fun | 0 => .slice (some ⟨bo, 0, none⟩) n n | 1 => .int .i64 j | 2 => .pointer (some ⟨bo, j, none⟩) | 3 => .int .i64 (IntKind.i64.wrap (x + x)) | 4 => .slice (some sb) n cx | 5 => .int .i64 j | 6 => .pointer (some (sb.add j)) | 7 => .int .i64 x | 8 => .slice (some sb) n cx | 9 => .int .i64 j | 10 => .pointer (some (sb.add j)) | 11 => .int .i64 x | 12 => .int .i64 (IntKind.i64.wrap (x + x)) | 13 => .bool false | 14 => .bool false | 15 => .slice (some ⟨so8, 0, none⟩) (n + 1) cp | 16 => .int .i64 j | 17 => .pointer (some ⟨so8, j, none⟩) | 18 => .int .i64 x | 19 => .slice (some sb) n cx | 20 => .int .i64 j | 21 => .pointer (some (sb.add j)) | 22 => .int .i64 x | 23 => .bool false | 24 => .bool false | _ => undef) (fun done L' => L' = L) 60
  · rw [sz]; kernel_rfl
  · exact hfit.live.nl
  · rfl
  · intro done j' o a' L' hs0 ho hnd hdep hF hSt0
    subst hSt0
    obtain ⟨hlt', _⟩ := Array.getElem?_eq_some_iff.1 ho
    match j', hlt' with
    | 0, _ =>
      cases ho
      have e9 : a'.tmps[9]? = some (.slice (some ⟨bo, 0, none⟩) n n) := hF.base rfl h9
      exact opS_pure _ rfl rfl (by intro w; simp [go_sem, execOp, e9, hj, hj1]) (by intro w; simp [go_sem, execOp, e9, hj, hj1]) ⟨rfl, rfl⟩ (by decide)
    | 1, _ =>
      cases ho
      have e12 : a'.tmps[12]? = some (.int .i64 j) := hF.base rfl h12
      exact opS_pure _ rfl rfl (by intro w; simp [go_sem, execOp, e12, hj, hj1]) (by intro w; simp [go_sem, execOp, e12, hj, hj1]) ⟨rfl, rfl⟩ (by decide)
    | 2, _ =>
      cases ho
      have d0 : done.getD 0 false = true := hdep ⟨0, .data⟩ (by simp) rfl
      have d1 : done.getD 1 false = true := hdep ⟨1, .data⟩ (by simp) rfl
      have e80 : a'.tmps[80]? = some (.slice (some ⟨bo, 0, none⟩) n n) := hF.at (k := 0) rfl rfl rfl d0
      have e81 : a'.tmps[81]? = some (.int .i64 j) := hF.at (k := 1) rfl rfl rfl d1
      exact opS_pure _ rfl rfl (by intro w; simp [go_sem, execOp, e80, e81, hj, hj1]) (by intro w; simp [go_sem, execOp, e80, e81, hj, hj1]) ⟨rfl, rfl⟩ (by decide)
    | 3, _ =>
      cases ho
      have d2 : done.getD 2 false = true := hdep ⟨2, .data⟩ (by simp) rfl
      have e82 : a'.tmps[82]? = some (.pointer (some ⟨bo, j, none⟩)) := hF.at (k := 2) rfl rfl rfl d2
      exact opS_read _ rfl rfl hfit.live hfit.vm (by intro w hS; have hc := (s9).know w hS; simp [go_sem, execOp, hc, e82, hj, hj1]) (by intro w hS e he; have hc := (s9).know w hS; have hm := mem_listed he; simp [go_sem, execOp, hc, e82, hj, hj1] at hm; subst hm; exact (s9).ev _) ⟨rfl, rfl⟩ (by decide)
    | 4, _ =>
      cases ho
      have e1 : a'.tmps[1]? = some (.slice (some sb) n cx) := hF.base rfl h1
      exact opS_pure _ rfl rfl (by intro w; simp [go_sem, execOp, e1, hj, hj1]) (by intro w; simp [go_sem, execOp, e1, hj, hj1]) ⟨rfl, rfl⟩ (by decide)
    | 5, _ =>
      cases ho
      have e12 : a'.tmps[12]? = some (.int .i64 j) := hF.base rfl h12
      exact opS_pure _ rfl rfl (by intro w; simp [go_sem, execOp, e12, hj, hj1]) (by intro w; simp [go_sem, execOp, e12, hj, hj1]) ⟨rfl, rfl⟩ (by decide)
    | 6, _ =>
      cases ho
      have d4 : done.getD 4 false = true := hdep ⟨4, .data⟩ (by simp) rfl
      have d5 : done.getD 5 false = true := hdep ⟨5, .data⟩ (by simp) rfl
      have e84 : a'.tmps[84]? = some (.slice (some sb) n cx) := hF.at (k := 4) rfl rfl rfl d4
      have e85 : a'.tmps[85]? = some (.int .i64 j) := hF.at (k := 5) rfl rfl rfl d5
      exact opS_pure _ rfl rfl (by intro w; simp [go_sem, execOp, e84, e85, hj, hj1]) (by intro w; simp [go_sem, execOp, e84, e85, hj, hj1]) ⟨rfl, rfl⟩ (by decide)
    | 7, _ =>
      cases ho
      have d6 : done.getD 6 false = true := hdep ⟨6, .data⟩ (by simp) rfl
      have e86 : a'.tmps[86]? = some (.pointer (some (sb.add j))) := hF.at (k := 6) rfl rfl rfl d6
      exact opS_read _ rfl rfl hfit.live hfit.vm (by intro w hS; have hc := (s1).know w hS; simp [go_sem, execOp, hc, e86, hj, hj1]) (by intro w hS e he; have hc := (s1).know w hS; have hm := mem_listed he; simp [go_sem, execOp, hc, e86, hj, hj1] at hm; subst hm; exact (s1).ev _) ⟨rfl, rfl⟩ (by decide)
    | 8, _ =>
      cases ho
      have e1 : a'.tmps[1]? = some (.slice (some sb) n cx) := hF.base rfl h1
      exact opS_pure _ rfl rfl (by intro w; simp [go_sem, execOp, e1, hj, hj1]) (by intro w; simp [go_sem, execOp, e1, hj, hj1]) ⟨rfl, rfl⟩ (by decide)
    | 9, _ =>
      cases ho
      have e12 : a'.tmps[12]? = some (.int .i64 j) := hF.base rfl h12
      exact opS_pure _ rfl rfl (by intro w; simp [go_sem, execOp, e12, hj, hj1]) (by intro w; simp [go_sem, execOp, e12, hj, hj1]) ⟨rfl, rfl⟩ (by decide)
    | 10, _ =>
      cases ho
      have d8 : done.getD 8 false = true := hdep ⟨8, .data⟩ (by simp) rfl
      have d9 : done.getD 9 false = true := hdep ⟨9, .data⟩ (by simp) rfl
      have e88 : a'.tmps[88]? = some (.slice (some sb) n cx) := hF.at (k := 8) rfl rfl rfl d8
      have e89 : a'.tmps[89]? = some (.int .i64 j) := hF.at (k := 9) rfl rfl rfl d9
      exact opS_pure _ rfl rfl (by intro w; simp [go_sem, execOp, e88, e89, hj, hj1]) (by intro w; simp [go_sem, execOp, e88, e89, hj, hj1]) ⟨rfl, rfl⟩ (by decide)
    | 11, _ =>
      cases ho
      have d10 : done.getD 10 false = true := hdep ⟨10, .data⟩ (by simp) rfl
      have e90 : a'.tmps[90]? = some (.pointer (some (sb.add j))) := hF.at (k := 10) rfl rfl rfl d10
      exact opS_read _ rfl rfl hfit.live hfit.vm (by intro w hS; have hc := (s1).know w hS; simp [go_sem, execOp, hc, e90, hj, hj1]) (by intro w hS e he; have hc := (s1).know w hS; have hm := mem_listed he; simp [go_sem, execOp, hc, e90, hj, hj1] at hm; subst hm; exact (s1).ev _) ⟨rfl, rfl⟩ (by decide)
    | 12, _ =>
      cases ho
      have d7 : done.getD 7 false = true := hdep ⟨7, .data⟩ (by simp) rfl
      have d11 : done.getD 11 false = true := hdep ⟨11, .data⟩ (by simp) rfl
      have e87 : a'.tmps[87]? = some (.int .i64 x) := hF.at (k := 7) rfl rfl rfl d7
      have e91 : a'.tmps[91]? = some (.int .i64 x) := hF.at (k := 11) rfl rfl rfl d11
      exact opS_pure _ rfl rfl (by intro w; simp [go_sem, execOp, e87, e91, hj, hj1]) (by intro w; simp [go_sem, execOp, e87, e91, hj, hj1]) ⟨rfl, rfl⟩ (by decide)
    | 13, _ =>
      cases ho
      have d3 : done.getD 3 false = true := hdep ⟨3, .data⟩ (by simp) rfl
      have d12 : done.getD 12 false = true := hdep ⟨12, .data⟩ (by simp) rfl
      have e83 : a'.tmps[83]? = some (.int .i64 (IntKind.i64.wrap (x + x))) := hF.at (k := 3) rfl rfl rfl d3
      have e92 : a'.tmps[92]? = some (.int .i64 (IntKind.i64.wrap (x + x))) := hF.at (k := 12) rfl rfl rfl d12
      exact opS_pure _ rfl rfl (by intro w; simp [go_sem, execOp, e83, e92, hj, hj1]) (by intro w; simp [go_sem, execOp, e83, e92, hj, hj1]) ⟨rfl, rfl⟩ (by decide)
    | 14, _ =>
      cases ho
      have d13 : done.getD 13 false = true := hdep ⟨13, .data⟩ (by simp) rfl
      have e93 : a'.tmps[93]? = some (.bool false) := hF.at (k := 13) rfl rfl rfl d13
      exact opS_pure _ rfl rfl (by intro w; simp [go_sem, execOp, e93, hj, hj1]) (by intro w; simp [go_sem, execOp, e93, hj, hj1]) ⟨rfl, rfl⟩ (by decide)
    | 15, _ =>
      cases ho
      have d14 : done.getD 14 false = true := hdep ⟨14, .guard⟩ (by simp) rfl
      have e8 : a'.tmps[8]? = some (.slice (some ⟨so8, 0, none⟩) (n + 1) cp) := hF.base rfl h8
      have hy94 : a'.tmps[94]? = some (.bool false) := hF.at (k := 14) rfl rfl rfl d14
      exact opS_pure _ rfl (by simp [Region.wanted, yielded, hy94]) (by intro w; simp [go_sem, execOp, e8, hj, hj1]) (by intro w; simp [go_sem, execOp, e8, hj, hj1]) ⟨rfl, rfl⟩ (by decide)
    | 16, _ =>
      cases ho
      have d14 : done.getD 14 false = true := hdep ⟨14, .guard⟩ (by simp) rfl
      have e12 : a'.tmps[12]? = some (.int .i64 j) := hF.base rfl h12
      have hy94 : a'.tmps[94]? = some (.bool false) := hF.at (k := 14) rfl rfl rfl d14
      exact opS_pure _ rfl (by simp [Region.wanted, yielded, hy94]) (by intro w; simp [go_sem, execOp, e12, hj, hj1]) (by intro w; simp [go_sem, execOp, e12, hj, hj1]) ⟨rfl, rfl⟩ (by decide)
    | 17, _ =>
      cases ho
      have d15 : done.getD 15 false = true := hdep ⟨15, .data⟩ (by simp) rfl
      have d16 : done.getD 16 false = true := hdep ⟨16, .data⟩ (by simp) rfl
      have d14 : done.getD 14 false = true := hdep ⟨14, .guard⟩ (by simp) rfl
      have e95 : a'.tmps[95]? = some (.slice (some ⟨so8, 0, none⟩) (n + 1) cp) := hF.at (k := 15) rfl rfl rfl d15
      have e96 : a'.tmps[96]? = some (.int .i64 j) := hF.at (k := 16) rfl rfl rfl d16
      have hy94 : a'.tmps[94]? = some (.bool false) := hF.at (k := 14) rfl rfl rfl d14
      exact opS_pure _ rfl (by simp [Region.wanted, yielded, hy94]) (by intro w; simp [go_sem, execOp, e95, e96, hj, hj1]) (by intro w; simp [go_sem, execOp, e95, e96, hj, hj1]) ⟨rfl, rfl⟩ (by decide)
    | 18, _ =>
      cases ho
      have d17 : done.getD 17 false = true := hdep ⟨17, .data⟩ (by simp) rfl
      have d14 : done.getD 14 false = true := hdep ⟨14, .guard⟩ (by simp) rfl
      have e97 : a'.tmps[97]? = some (.pointer (some ⟨so8, j, none⟩)) := hF.at (k := 17) rfl rfl rfl d17
      have hy94 : a'.tmps[94]? = some (.bool false) := hF.at (k := 14) rfl rfl rfl d14
      exact opS_read _ rfl (by simp [Region.wanted, yielded, hy94]) hfit.live hfit.vm (by intro w hS; have hc := (s8).know w hS; simp [go_sem, execOp, hc, e97, hj, hj1]) (by intro w hS e he; have hc := (s8).know w hS; have hm := mem_listed he; simp [go_sem, execOp, hc, e97, hj, hj1] at hm; subst hm; exact (s8).ev _) ⟨rfl, rfl⟩ (by decide)
    | 19, _ =>
      cases ho
      have d14 : done.getD 14 false = true := hdep ⟨14, .guard⟩ (by simp) rfl
      have e1 : a'.tmps[1]? = some (.slice (some sb) n cx) := hF.base rfl h1
      have hy94 : a'.tmps[94]? = some (.bool false) := hF.at (k := 14) rfl rfl rfl d14
      exact opS_pure _ rfl (by simp [Region.wanted, yielded, hy94]) (by intro w; simp [go_sem, execOp, e1, hj, hj1]) (by intro w; simp [go_sem, execOp, e1, hj, hj1]) ⟨rfl, rfl⟩ (by decide)
    | 20, _ =>
      cases ho
      have d14 : done.getD 14 false = true := hdep ⟨14, .guard⟩ (by simp) rfl
      have e12 : a'.tmps[12]? = some (.int .i64 j) := hF.base rfl h12
      have hy94 : a'.tmps[94]? = some (.bool false) := hF.at (k := 14) rfl rfl rfl d14
      exact opS_pure _ rfl (by simp [Region.wanted, yielded, hy94]) (by intro w; simp [go_sem, execOp, e12, hj, hj1]) (by intro w; simp [go_sem, execOp, e12, hj, hj1]) ⟨rfl, rfl⟩ (by decide)
    | 21, _ =>
      cases ho
      have d19 : done.getD 19 false = true := hdep ⟨19, .data⟩ (by simp) rfl
      have d20 : done.getD 20 false = true := hdep ⟨20, .data⟩ (by simp) rfl
      have d14 : done.getD 14 false = true := hdep ⟨14, .guard⟩ (by simp) rfl
      have e99 : a'.tmps[99]? = some (.slice (some sb) n cx) := hF.at (k := 19) rfl rfl rfl d19
      have e100 : a'.tmps[100]? = some (.int .i64 j) := hF.at (k := 20) rfl rfl rfl d20
      have hy94 : a'.tmps[94]? = some (.bool false) := hF.at (k := 14) rfl rfl rfl d14
      exact opS_pure _ rfl (by simp [Region.wanted, yielded, hy94]) (by intro w; simp [go_sem, execOp, e99, e100, hj, hj1]) (by intro w; simp [go_sem, execOp, e99, e100, hj, hj1]) ⟨rfl, rfl⟩ (by decide)
    | 22, _ =>
      cases ho
      have d21 : done.getD 21 false = true := hdep ⟨21, .data⟩ (by simp) rfl
      have d14 : done.getD 14 false = true := hdep ⟨14, .guard⟩ (by simp) rfl
      have e101 : a'.tmps[101]? = some (.pointer (some (sb.add j))) := hF.at (k := 21) rfl rfl rfl d21
      have hy94 : a'.tmps[94]? = some (.bool false) := hF.at (k := 14) rfl rfl rfl d14
      exact opS_read _ rfl (by simp [Region.wanted, yielded, hy94]) hfit.live hfit.vm (by intro w hS; have hc := (s1).know w hS; simp [go_sem, execOp, hc, e101, hj, hj1]) (by intro w hS e he; have hc := (s1).know w hS; have hm := mem_listed he; simp [go_sem, execOp, hc, e101, hj, hj1] at hm; subst hm; exact (s1).ev _) ⟨rfl, rfl⟩ (by decide)
    | 23, _ =>
      cases ho
      have d18 : done.getD 18 false = true := hdep ⟨18, .data⟩ (by simp) rfl
      have d22 : done.getD 22 false = true := hdep ⟨22, .data⟩ (by simp) rfl
      have d14 : done.getD 14 false = true := hdep ⟨14, .guard⟩ (by simp) rfl
      have e98 : a'.tmps[98]? = some (.int .i64 x) := hF.at (k := 18) rfl rfl rfl d18
      have e102 : a'.tmps[102]? = some (.int .i64 x) := hF.at (k := 22) rfl rfl rfl d22
      have hy94 : a'.tmps[94]? = some (.bool false) := hF.at (k := 14) rfl rfl rfl d14
      exact opS_pure _ rfl (by simp [Region.wanted, yielded, hy94]) (by intro w; simp [go_sem, execOp, e98, e102, hj, hj1]) (by intro w; simp [go_sem, execOp, e98, e102, hj, hj1]) ⟨rfl, rfl⟩ (by decide)
    | 24, _ =>
      cases ho
      have d14 : done.getD 14 false = true := hdep ⟨14, .data⟩ (by simp) rfl
      have d23 : done.getD 23 false = true := hdep ⟨23, .data⟩ (by simp) rfl
      have e94 : a'.tmps[94]? = some (.bool false) := hF.at (k := 14) rfl rfl rfl d14
      have e103 : a'.tmps[103]? = some (.bool false) := hF.at (k := 23) rfl rfl rfl d23
      exact opS_pure _ rfl rfl (by intro w; simp [go_sem, execOp, e94, e103, hj, hj1]) (by intro w; simp [go_sem, execOp, e94, e103, hj, hj1]) ⟨rfl, rfl⟩ (by decide)
  · intro done a' L' hs0 hall hF heq hSt
    refine ⟨rfl, hF.defers, hF.size.trans sz, fun s hs => ?_, hF.at (k := 24) rfl rfl rfl (hall 24 (by decide)), hSt⟩
    have hno : ∀ s, s < 13 → (List.all (#[(80 : Nat), 81, 82, 83, 84, 85, 86, 87, 88, 89, 90, 91, 92, 93, 94, 95, 96, 97, 98, 99, 100, 101, 102, 103, 104] : Array Nat).toList fun t => t != s) = true := by decide
    have := hno s hs
    refine hF.no s fun k o ho hd => ?_
    exfalso
    obtain ⟨hk, _⟩ := Array.getElem?_eq_some_iff.1 ho
    match k, hk with
    | 0, _ | 1, _ | 2, _ | 3, _ | 4, _ | 5, _ | 6, _ | 7, _ | 8, _ | 9, _ | 10, _ | 11, _ | 12, _ | 13, _ | 14, _ | 15, _ | 16, _ | 17, _ | 18, _ | 19, _ | 20, _ | 21, _ | 22, _ | 23, _ | 24, _ => cases ho; cases hd; omega
  decide
theorem w_two15 [Inhabited Base] (hP : X.P = Try.prog) {a : Act} {bo so8 : Nat} {n cp : Nat} {x : Int} {j : Nat} (hfit : Fit L) (hj : j < n) (sz : a.tmps.size = 77) (h9 : a.tmps[9]? = some (.slice (some ⟨so8, 0, none⟩) n cp)) (h11 : a.tmps[11]? = some (.slice (some ⟨bo, 0, none⟩) n n)) (h12 : a.tmps[12]? = some (.int .i64 j)) (s11 : Sees L ⟨bo, j, none⟩ (.int .i64 x)) (s9 : Sees L ⟨so8, j, none⟩ (.int .i64 x)) :
    wpS X 0 6 twoR15 1000 (fun e a' L' => e = .normal ∧ a'.defers = a.defers ∧ a'.tmps.size = 77 ∧ (∀ s, s < 13 → a'.tmps[s]? = a.tmps[s]?) ∧ a'.tmps[70]? = some (.bool false) ∧ L' = L) a L := by
  (obtain ⟨P, ap, SelAt, CI, CW, Q⟩ := X; dsimp only at hP; subst hP)
  dsimp only [twoR15, Try.f6]
  co_apply wpS_more
  co_apply wpS_fill (fun | 0 => .slice (some ⟨bo, 0, none⟩) n n | 1 => .int .i64 j | 2 => .pointer (some ⟨bo, j, none⟩) | 3 => .int .i64 x | 4 => .slice (some ⟨so8, 0, none⟩) n cp | 5 => .int .i64 j | 6 => .pointer (some ⟨so8, j, none⟩) | 7 => .int .i64 x | 8 => .bool false | _ => undef) (fun done L' => L' = L) 60
  · rw [sz]; kernel_rfl
  · exact hfit.live.nl
  · rfl
  · intro done j' o a' L' hs0 ho hnd hdep hF hSt0
    subst hSt0
    obtain ⟨hlt', _⟩ := Array.getElem?_eq_some_iff.1 ho
    match j', hlt' with
    | 0, _ =>
      cases ho
      have e11 : a'.tmps[11]? = some (.slice (some ⟨bo, 0, none⟩) n n) := hF.base rfl h11
      exact opS_pure _ rfl rfl (by intro w; simp [go_sem, execOp, e11, hj]) (by intro w; simp [go_sem, execOp, e11, hj]) ⟨rfl, rfl⟩ (by decide)
    | 1, _ =>
      cases ho
      have e12 : a'.tmps[12]? = some (.int .i64 j) := hF.base rfl h12
      exact opS_pure _ rfl rfl (by intro w; simp [go_sem, execOp, e12, hj]) (by intro w; simp [go_sem, execOp, e12, hj]) ⟨rfl, rfl⟩ (by decide)
    | 2, _ =>
      cases ho
      have d0 : done.getD 0 false = true := hdep ⟨0, .data⟩ (by simp) rfl
      have d1 : done.getD 1 false = true := hdep ⟨1, .data⟩ (by simp) rfl
      have e62 : a'.tmps[62]? = some (.slice (some ⟨bo, 0, none⟩) n n) := hF.at (k := 0) rfl rfl rfl d0
      have e63 : a'.tmps[63]? = some (.int .i64 j) := hF.at (k := 1) rfl rfl rfl d1
      exact opS_pure _ rfl rfl (by intro w; simp [go_sem, execOp, e62, e63, hj]) (by intro w; simp [go_sem, execOp, e62, e63, hj]) ⟨rfl, rfl⟩ (by decide)
    | 3, _ =>
      cases ho
      have d2 : done.getD 2 false = true := hdep ⟨2, .data⟩ (by simp) rfl
      have e64 : a'.tmps[64]? = some (.pointer (some ⟨bo, j, none⟩)) := hF.at (k := 2) rfl rfl rfl d2
      exact opS_read _ rfl rfl hfit.live hfit.vm (by intro w hS; have hc := (s11).know w hS; simp [go_sem, execOp, hc, e64, hj]) (by intro w hS e he; have hc := (s11).know w hS; have hm := mem_listed he; simp [go_sem, execOp, hc, e64, hj] at hm; subst hm; exact (s11).ev _) ⟨rfl, rfl⟩ (by decide)
    | 4, _ =>
      cases ho
      have e9 : a'.tmps[9]? = some (.slice (some ⟨so8, 0, none⟩) n cp) := hF.base rfl h9
      exact opS_pure _ rfl rfl (by intro w; simp [go_sem, execOp, e9, hj]) (by intro w; simp [go_sem, execOp, e9, hj]) ⟨rfl, rfl⟩ (by decide)
    | 5, _ =>
      cases ho
      have e12 : a'.tmps[12]? = some (.int .i64 j) := hF.base rfl h12
      exact opS_pure _ rfl rfl (by intro w; simp [go_sem, execOp, e12, hj]) (by intro w; simp [go_sem, execOp, e12, hj]) ⟨rfl, rfl⟩ (by decide)
    | 6, _ =>
      cases ho
      have d4 : done.getD 4 false = true := hdep ⟨4, .data⟩ (by simp) rfl
      have d5 : done.getD 5 false = true := hdep ⟨5, .data⟩ (by simp) rfl
      have e66 : a'.tmps[66]? = some (.slice (some ⟨so8, 0, none⟩) n cp) := hF.at (k := 4) rfl rfl rfl d4
      have e67 : a'.tmps[67]? = some (.int .i64 j) := hF.at (k := 5) rfl rfl rfl d5
      exact opS_pure _ rfl rfl (by intro w; simp [go_sem, execOp, e66, e67, hj]) (by intro w; simp [go_sem, execOp, e66, e67, hj]) ⟨rfl, rfl⟩ (by decide)
    | 7, _ =>
      cases ho
      have d6 : done.getD 6 false = true := hdep ⟨6, .data⟩ (by simp) rfl
      have e68 : a'.tmps[68]? = some (.pointer (some ⟨so8, j, none⟩)) := hF.at (k := 6) rfl rfl rfl d6
      exact opS_read _ rfl rfl hfit.live hfit.vm (by intro w hS; have hc := (s9).know w hS; simp [go_sem, execOp, hc, e68, hj]) (by intro w hS e he; have hc := (s9).know w hS; have hm := mem_listed he; simp [go_sem, execOp, hc, e68, hj] at hm; subst hm; exact (s9).ev _) ⟨rfl, rfl⟩ (by decide)
    | 8, _ =>
      cases ho
      have d3 : done.getD 3 false = true := hdep ⟨3, .data⟩ (by simp) rfl
      have d7 : done.getD 7 false = true := hdep ⟨7, .data⟩ (by simp) rfl
      have e65 : a'.tmps[65]? = some (.int .i64 x) := hF.at (k := 3) rfl rfl rfl d3
      have e69 : a'.tmps[69]? = some (.int .i64 x) := hF.at (k := 7) rfl rfl rfl d7
      exact opS_pure _ rfl rfl (by intro w; simp [go_sem, execOp, e65, e69, hj]) (by intro w; simp [go_sem, execOp, e65, e69, hj]) ⟨rfl, rfl⟩ (by decide)
  · intro done a' L' hs0 hall hF heq hSt
    refine ⟨rfl, hF.defers, hF.size.trans sz, fun s hs => ?_, hF.at (k := 8) rfl rfl rfl (hall 8 (by decide)), hSt⟩
    have hno : ∀ s, s < 13 → (List.all (#[(62 : Nat), 63, 64, 65, 66, 67, 68, 69, 70] : Array Nat).toList fun t => t != s) = true := by decide
    have := hno s hs
    refine hF.no s fun k o ho hd => ?_
    exfalso
    obtain ⟨hk, _⟩ := Array.getElem?_eq_some_iff.1 ho
    match k, hk with
    | 0, _ | 1, _ | 2, _ | 3, _ | 4, _ | 5, _ | 6, _ | 7, _ | 8, _ => cases ho; cases hd; omega
  decide
/-- A pool, behind All of whatever pool. -/
theorem AllAs.pool2 [Inhabited Base] {ap : Nat → Int → Int} {m m' : MainR} {A : AllG} {so : Option Addr} {p : PoolG} (h : AllAs ap L m A so L' m') (hp : PoolAt L m p) (hne : ∀ sb z, so = some sb → z < A.items.length → p.b ≠ sb.block) : PoolAt L' m' p := by
  have k5 : ∀ q, A.p = some q → (⟨p.b, 5, none⟩ : Addr) ≠ ⟨q.b, 1, none⟩ ∧ (⟨p.b, 5, none⟩ : Addr) ≠ ⟨q.b, 2, none⟩ := fun q hq => ⟨fun e => absurd (congrArg Addr.off e) (show ¬ (5 : Nat) = 1 by decide), fun e => absurd (congrArg Addr.off e) (show ¬ (5 : Nat) = 2 by decide)⟩
  have k6 : ∀ q, A.p = some q → (⟨p.b, 6, none⟩ : Addr) ≠ ⟨q.b, 1, none⟩ ∧ (⟨p.b, 6, none⟩ : Addr) ≠ ⟨q.b, 2, none⟩ := fun q hq => ⟨fun e => absurd (congrArg Addr.off e) (show ¬ (6 : Nat) = 1 by decide), fun e => absurd (congrArg Addr.off e) (show ¬ (6 : Nat) = 2 by decide)⟩
  refine ⟨by rw [h.ps]; exact hp.mem, by rw [h.rd]; exact hp.rd, h.sees hp.ci, h.sees hp.ce, ?_, h.has hp.mu (fun sb z hsb hz => ne_add (hne sb z hsb hz)) k6⟩
  rw [h.cl]
  exact h.has hp.once (fun sb z hsb hz => ne_add (hne sb z hsb hz)) k5
/-- A pool, behind New of another one. -/
theorem PoolAt.new2 [Inhabited Base] {m mm : MainR} {p q : PoolG} {j : Nat} (hp : PoolAt L m p) (h : Peopled m mm q j) (hne : p.b ≠ q.b) (g : Ext L L') : PoolAt L' mm p :=
  ⟨by rw [h.ps]; exact List.mem_cons_of_mem _ hp.mem, by rw [h.ord _ hne]; exact hp.rd, g.sees hp.ci, g.sees hp.ce, by rw [h.ocl _ hne]; exact g.has hp.once, g.has hp.mu⟩
/-- A pool, behind Close of another one. -/
theorem PoolAt.closed2 [Inhabited Base] {m m' : MainR} {p q : PoolG} (hp : PoolAt L m p) (h : ClosedAs m m' q) (hne : p.b ≠ q.b) (g : ExtBut q.b L L') : PoolAt L' m' p :=
  ⟨by rw [h.ps]; exact hp.mem, by rw [h.rd]; exact hp.rd, g.sees (fun e => hne (congrArg Addr.block e)) (fun e => hne (congrArg Addr.block e)) hp.ci, g.sees (fun e => hne (congrArg Addr.block e)) (fun e => hne (congrArg Addr.block e)) hp.ce, by
    have e : m'.cl p.b = m.cl p.b := by rw [h.cl]; simp [hne]
    rw [e]
    exact g.has (fun e => hne (congrArg Addr.block e)) (fun e => hne (congrArg Addr.block e)) hp.once, g.has (fun e => hne (congrArg Addr.block e)) (fun e => hne (congrArg Addr.block e)) hp.mu⟩
end Go.Proofs.Ytaceedenkmccdaa
