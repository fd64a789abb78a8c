/- If headers, targets and locks in plain words: what is computed. No program here. -/
import Derived.Test.YtbhmeagliebfdaaDoorKBase
import Derived.Lib.SlTrimSet
import Derived.Lib.Strings
import Derived.Lib.Bytealg
import Derived.Lib.IndexAny
import Derived.Lib.Split
import Derived.Lib.ValidU
import Derived.Lib.SlicesS
namespace Go.Proofs.YtbhmeagliebfdaaDoor
open Go
set_option linter.unusedSimpArgs false
set_option linter.unusedVariables false
abbrev By := List UInt8
/-- A text as a string. -/
def bs (l : By) : ByteArray := ⟨l.toArray⟩
theorem bs_data (l : By) : (bs l).data.toList = l := by simp [bs]
theorem bs_of (s : ByteArray) : bs s.data.toList = s := by cases s; simp [bs]
theorem bs_inj {a b : By} (h : bs a = bs b) : a = b := by rw [← bs_data a, h, bs_data]
theorem bs_size (l : By) : (bs l).size = l.length := by rw [Lib.size_eq, bs_data]
/-! The If header's reader. -/
def whiteP (s : By) : By := Lib.trimLeftS s [32, 9]
def eatP (w s : By) : Bool × By := (Lib.hasPrefix (whiteP s) w, Lib.trimPrefix (whiteP s) w)
def betweenP (e : UInt8) (bad : By) (low : Nat) (s : By) : Option (By × By) :=
  if Lib.indexByte s e < 0 then none
  else if s.take (Lib.indexByte s e).toNat = [] then none
  else if Lib.containsAny (s.take (Lib.indexByte s e).toNat) bad = true then none
  else if (s.take (Lib.indexByte s e).toNat).all (fun c => decide (low ≤ c.toNat ∧ c.toNat ≤ 126)) = true then some (s.take (Lib.indexByte s e).toNat, s.drop ((Lib.indexByte s e).toNat + 1))
  else none
structure Cnd where
  not : Bool
  tok : By
  etag : By
def condiP (s : By) : Option (Cnd × By) :=
  if (eatP [60] (eatP [78, 111, 116] s).2).1 = true then
    match betweenP 62 [60] 33 (eatP [60] (eatP [78, 111, 116] s).2).2 with
    | none => none
    | some (t, r) => some (⟨(eatP [78, 111, 116] s).1, t, []⟩, r)
  else if (eatP [91] (eatP [60] (eatP [78, 111, 116] s).2).2).1 = true then
    match betweenP 93 [] 32 (eatP [91] (eatP [60] (eatP [78, 111, 116] s).2).2).2 with
    | none => none
    | some (t, r) => some (⟨(eatP [78, 111, 116] s).1, [], t⟩, r)
  else none
def listP : Nat → By → List Cnd → Option (List Cnd × By)
  | 0, _, _ => none
  | f + 1, s, out =>
    if (eatP [41] s).1 = true then (if out = [] then none else some (out, (eatP [41] s).2))
    else match condiP (eatP [41] s).2 with
      | none => none
      | some (c, r) => listP f r (out ++ [c])
structure Grp where
  tagged : Bool
  tag : By
  conds : List Cnd
def parseP : Nat → By → List Grp → By → Bool → Bool → Option (List Grp)
  | 0, _, _, _, _, _ => none
  | f + 1, s, out, tag, tagged, fresh =>
    if s = [] then (if out = [] ∨ fresh = true then none else some out)
    else if (eatP [40] s).1 = true then
      match listP ((eatP [40] s).2.length + 1) (eatP [40] s).2 [] with
      | none => none
      | some (cs, r) => parseP f (whiteP r) (out ++ [⟨tagged, tag, cs⟩]) tag tagged false
    else if (eatP [60] (eatP [40] s).2).1 = true ∧ fresh = false ∧ (tagged = true ∨ out = []) then
      match betweenP 62 [60] 33 (eatP [60] (eatP [40] s).2).2 with
      | none => none
      | some (t, r) => parseP f (whiteP r) out t true true
    else none
def condP (h : By) : Option (List Grp) := parseP (h.length + 1) (whiteP h) [] [] false false
/-! Targets. -/
def plainP (s : By) : Bool := s.all fun c => decide (33 ≤ c.toNat ∧ c.toNat ≤ 126 ∧ c ≠ 63 ∧ c ≠ 35)
def httpP : By := [104, 116, 116, 112, 58, 47, 47]
def localP (t : By) : Option By :=
  if Lib.hasPrefix t httpP = true then
    (if t.drop 7 = [] ∨ Lib.indexByte (t.drop 7) 47 = 0 then none
     else if Lib.indexByte (t.drop 7) 47 < 0 then (if plainP (t.drop 7) = true then some [47] else none)
     else some ((t.drop 7).drop (Lib.indexByte (t.drop 7) 47).toNat))
  else some t
def digP (c : UInt8) : Int :=
  if 48 ≤ c.toNat ∧ c.toNat ≤ 57 then (c.toNat : Int) - 48
  else if 97 ≤ c.toNat ∧ c.toNat ≤ 102 then (c.toNat : Int) - 87
  else if 65 ≤ c.toNat ∧ c.toNat ≤ 70 then (c.toNat : Int) - 55
  else -1
def decP : By → Option By
  | [] => some []
  | [a] => if a = 37 then none else some [a]
  | [a, b] => if a = 37 then none else (decP [b]).map (a :: ·)
  | a :: b :: c :: r =>
    if a = 37 then (if digP b < 0 ∨ digP c < 0 then none else (decP r).map (UInt8.ofNat (16 * (digP b).toNat + (digP c).toNat) :: ·))
    else (decP (b :: c :: r)).map (a :: ·)
theorem decP_other (x : UInt8) (r : By) (h : x ≠ 37) : decP (x :: r) = (decP r).map (x :: ·) := by
  match r with
  | [] => simp [decP, h]
  | [b] => simp only [decP, h, if_false]
  | b :: c :: r => simp only [decP, h, if_false]
theorem decP_short (r : By) (h : r.length < 2) : decP (37 :: r) = none := by
  match r, h with
  | [], _ => simp [decP]
  | [b], _ => simp [decP]
theorem decP_pct (b c : UInt8) (r : By) : decP (37 :: b :: c :: r) = if digP b < 0 ∨ digP c < 0 then none else (decP r).map (UInt8.ofNat (16 * (digP b).toNat + (digP c).toNat) :: ·) := by
  simp only [decP, if_true]
def saneP (s : By) : Bool := Lib.validD s && !(s.any fun c => c == 47 || c == 0)
def decodeP (p : By) : Option By :=
  match decP p with
  | none => none
  | some s => if saneP s = true then some s else none
def stepP (path : List By) (x : By) : Option (List By) :=
  if x = [] ∨ x = [46] then some path
  else if x = [46, 46] then (if path = [] then none else some path.dropLast)
  else some (path ++ [x])
def foldP : List By → List By → Option (List By)
  | [], path => some path
  | p :: r, path =>
    match decodeP p with
    | none => none
    | some x => if 64 < x.length then none else
      match stepP path x with
      | none => none
      | some path' => foldP r path'
def uriP (t : By) : Option (List By) :=
  match localP t with
  | none => none
  | some s => if plainP s = true ∧ Lib.hasPrefix s [47] = true then
      (match foldP (Lib.split (s.drop 1) [47]) [] with
       | none => none
       | some path => if 12 < path.length then none else some path)
    else none
def segP (s : By) : Bool := decide (s ≠ []) && decide (s ≠ [46]) && decide (s ≠ [46, 46]) && decide (s.length ≤ 64) && saneP s
def pathP (p : List By) : Bool := p.all segP && decide (p.length ≤ 12)
def bareP (c : UInt8) : Bool := decide (97 ≤ c.toNat ∧ c.toNat ≤ 122) || decide (65 ≤ c.toNat ∧ c.toNat ≤ 90) || decide (48 ≤ c.toNat ∧ c.toNat ≤ 57) || decide (c = 45 ∨ c = 46 ∨ c = 95 ∨ c = 126)
def hexP (n : Nat) : UInt8 := if n < 10 then UInt8.ofNat (48 + n) else UInt8.ofNat (55 + n)
def encP (c : UInt8) : By := if bareP c = true then [c] else [37, hexP (c.toNat / 16), hexP (c.toNat % 16)]
def segE (s : By) : By := 47 :: s.flatMap encP
def textP (p : List By) : By := if pathP p = true then (if p = [] then [47] else p.flatMap segE) else []
/-! Locks. -/
structure Lk where
  tok : By
  path : List By
  deep : Bool
  excl : Bool
  owner : By
  til : Int
def tokP (t : By) : Bool := t.all (fun c => decide (33 ≤ c.toNat ∧ c.toNat ≤ 126 ∧ c ≠ 60 ∧ c ≠ 62)) && decide (t ≠ []) && decide (t.length ≤ 60)
def goodP (l : Lk) : Bool := tokP l.tok && pathP l.path && decide (l.owner.length ≤ 512)
def withinP (a b : List By) : Bool := decide (b.length ≤ a.length) && decide (a.take b.length = b)
def coversP (l : Lk) (path : List By) : Bool := withinP path l.path && (l.deep || decide (path.length = l.path.length))
def freeP (ls : List Lk) (path : List By) (toks : List By) : Bool :=
  (ls.any fun l => coversP l path && decide (l.tok ∈ toks)) || !(ls.any fun l => coversP l path)
/-! Facts. -/
structure Fct where
  path : List By
  etag : By
  toks : List By
def findF (fs : List Fct) (p : List By) : Fct := (fs.find? fun f => decide (f.path = p)).getD ⟨[], [], []⟩
def ofP (g : Grp) (self : List By) (fs : List Fct) : Fct :=
  if g.tagged = true then (match uriP g.tag with | none => ⟨[], [], []⟩ | some p => findF fs p) else findF fs self
def isP (c : Cnd) (f : Fct) : Bool := if c.tok ≠ [] then decide (c.tok ∈ f.toks) else decide (f.etag ≠ []) && decide (c.etag = f.etag)
def holdsP (g : Grp) (f : Fct) : Bool := g.conds.all fun c => isP c f != c.not
def heldP (gs : List Grp) (self : List By) (fs : List Fct) : Bool := gs.any fun g => holdsP g (ofP g self fs)
def addT (out : List By) (c : Cnd) : List By := if c.tok ≠ [] ∧ c.not = false ∧ c.tok ∉ out then out ++ [c.tok] else out
def addG (self : List By) (fs : List Fct) (out : List By) (g : Grp) : List By := if holdsP g (ofP g self fs) = true then g.conds.foldl addT out else out
def submP (gs : List Grp) (self : List By) (fs : List Fct) : List By := gs.foldl (addG self fs) []
end Go.Proofs.YtbhmeagliebfdaaDoor
