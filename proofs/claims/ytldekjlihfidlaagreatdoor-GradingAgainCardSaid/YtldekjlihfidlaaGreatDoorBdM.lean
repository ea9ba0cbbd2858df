/-
  Boards, defects and products in plain words.
-/
import Derived.Test.YtldekjlihfidlaaGreatDoorIdA
import Derived.Test.YtldekjlihfidlaaGreatDoorMoB
namespace Go.Proofs.YtldekjlihfidlaaGreatDoor
set_option linter.unusedSimpArgs false
set_option linter.unusedVariables false
open Go Go.Abs
set_option maxHeartbeats 2000000
set_option maxRecDepth 100000
/-- A defect. -/
structure Dfc where
  kind : Int
  xa : Int
  xb : Int
  ya : Int
  yb : Int
  za : Int
  zb : Int
def eDf (x : Dfc) : List D := [I x.kind, I x.xa, I x.xb, I x.ya, I x.yb, I x.za, I x.zb]
@[simp] theorem eDf_eq (x : Dfc) : eDf x = [I x.kind, I x.xa, I x.xb, I x.ya, I x.yb, I x.za, I x.zb] := rfl
/-- A board. -/
structure Bd where
  id : ByteArray
  log : ByteArray
  sp : ByteArray
  prod : Int
  xa : Int
  xb : Int
  ya : Int
  yb : Int
  za : Int
  zb : Int
  vol : Int
  dfs : List Dfc
  wane : Int
  cel : Cel
  dried : Bool
  grade : Int
def eBd (b : Bd) : List D := [S b.id, S b.log, S b.sp, I b.prod, I b.xa, I b.xb, I b.ya, I b.yb, I b.za, I b.zb, I b.vol, .sl (b.dfs.map eDf), I b.wane, I b.cel.s, I b.cel.c, I b.cel.st, B b.dried, I b.grade]
@[simp] theorem eBd_eq (b : Bd) : eBd b = [S b.id, S b.log, S b.sp, I b.prod, I b.xa, I b.xb, I b.ya, I b.yb, I b.za, I b.zb, I b.vol, .sl (b.dfs.map eDf), I b.wane, I b.cel.s, I b.cel.c, I b.cel.st, B b.dried, I b.grade] := rfl
/-- A product. -/
structure Pd where
  name : ByteArray
  thick : Int
  width : Int
  allow : Int
  wane : Int
  lens : List Int
  prs : List Int
def ePd (p : Pd) : List D := [S p.name, I p.thick, I p.width, I p.allow, I p.wane, .sl (p.lens.map eI), .sl (p.prs.map eI)]
@[simp] theorem ePd_eq (p : Pd) : ePd p = [S p.name, I p.thick, I p.width, I p.allow, I p.wane, .sl (p.lens.map eI), .sl (p.prs.map eI)] := rfl
def i64 (n : Int) : Prop := -9223372036854775808 ≤ n ∧ n ≤ 9223372036854775807
/-- The number of integers of a span. -/
def lenS (a b : Int) : Int := if b ≤ a then 0 else if 9223372036854775807 < b - a then 9223372036854775807 else b - a
/-! ### Products -/
def grow (s a : Int) : Int := (s * (1000 + a) + 999) / 1000
def sizedP (p : Pd) : Bool := (decide (1 ≤ p.thick) && decide (p.thick ≤ 600)) && ((decide (1 ≤ p.width) && decide (p.width ≤ 600)) && (decide (0 ≤ p.allow) && decide (p.allow ≤ 200)))
def greenT (p : Pd) : Int := if sizedP p = true then grow p.thick p.allow else 0
def greenW (p : Pd) : Int := if sizedP p = true then grow p.width p.allow else 0
theorem sizedP_iff (p : Pd) : sizedP p = true ↔ (1 ≤ p.thick ∧ p.thick ≤ 600) ∧ (1 ≤ p.width ∧ p.width ≤ 600) ∧ 0 ≤ p.allow ∧ p.allow ≤ 200 := by
  unfold sizedP
  simp only [Bool.and_eq_true, decide_eq_true_eq]
/-- The first error of lengths behind a number. -/
def lensE (prev : Option Int) : List Int → Int
  | [] => 0
  | n :: r => if n < 100 then 9 else if 20000 < n then 9 else if notUp prev n = true then 11 else lensE (some n) r
def prsE : List Int → Int
  | [] => 0
  | n :: r => if n < 0 then 9 else if 1000000 < n then 9 else prsE r
def listsE (p : Pd) : Int := if (p.lens.length : Int) = 0 then 3 else if 8 < (p.lens.length : Int) then 4 else if (p.prs.length : Int) = p.lens.length then if lensE none p.lens = 0 then prsE p.prs else lensE none p.lens else 19
def numsE (p : Pd) : Int := if p.thick < 5 then 9 else if 300 < p.thick then 9 else if p.width < p.thick then 9 else if 600 < p.width then 9 else if p.allow < 0 then 9 else if 200 < p.allow then 9 else if p.wane < 0 then 9 else if 1000 < p.wane then 9 else if 600 < greenW p then 9 else listsE p
def hasN (n : ByteArray) : List Pd → Bool
  | [] => false
  | p :: r => if p.name = n then true else hasN n r
/-- The first error of a catalog, behind products. -/
def catE (seen : List Pd) : List Pd → Int
  | [] => 0
  | p :: r => if isNm p.name = true then if hasN p.name seen = true then 7 else if numsE p = 0 then catE (seen ++ [p]) r else numsE p else 6
def checkPd (l : List Pd) : Int := if 16 < (l.length : Int) then 4 else catE [] l
/-! ### Codes -/
def capB (c : UInt8) : Bool := decide ((65 : Int) ≤ c.toNat) && decide ((c.toNat : Int) ≤ 90)
/-- The sum of a check letter. -/
def letS (s : Int) (i : Nat) : List UInt8 → Int
  | [] => s
  | c :: r => letS ((s + (i + 1) * c.toNat) % 23) (i + 1) r
def digitsB : List UInt8 → Bool
  | [] => true
  | c :: r => digitB c && digitsB r
def isCode (s : ByteArray) (kind : Int) : Bool := match byt s with
  | [c0, c1, c2, c3, c4, c5, c6, c7] => capB c0 && (digitsB [c1, c2, c3, c4, c5, c6] && (decide (65 + letS 0 0 [c0, c1, c2, c3, c4, c5, c6] = c7.toNat) && decide ((c0.toNat : Int) = kind)))
  | _ => false
/-! ### Defects -/
def dfE (d : Dfc) : Int := if d.kind < 1 then 10 else if 6 < d.kind then 10 else if d.xb ≤ d.xa then 19 else if d.yb ≤ d.ya then 19 else if d.zb ≤ d.za then 19 else
  if d.xa < -600 then 9 else if 600 < d.xb then 9 else if d.ya < -600 then 9 else if 600 < d.yb then 9 else if d.za < 0 then 9 else if 20000 < d.zb then 9 else 0
def dfsE : List Dfc → Int
  | [] => 0
  | d :: r => if dfE d = 0 then dfsE r else dfE d
def checkDf (l : List Dfc) : Int := if 64 < (l.length : Int) then 4 else dfsE l
def insideB (a b n : Int) : Bool := decide (0 ≤ a) && (decide (a ≤ n) && (decide (0 ≤ b) && decide (b ≤ n)))
def insE (x y z : Int) : List Dfc → Bool
  | [] => true
  | d :: r => if insideB d.xa d.xb x = true then if insideB d.ya d.yb y = true then if insideB d.za d.zb z = true then insE x y z r else false else false else false
/-! ### Boards -/
def boxB (b : Bd) : Bool := decide ((-600 ≤ b.xa ∧ b.xb ≤ 600 ∧ b.xa < b.xb) ∧ (-600 ≤ b.ya ∧ b.yb ≤ 600 ∧ b.ya < b.yb) ∧ (0 ≤ b.za ∧ b.zb ≤ 20000 ∧ b.za < b.zb))
def inI (n : Int) : List Int → Bool
  | [] => false
  | x :: r => if x = n then true else inI n r
def volB (b : Bd) : Int := if boxB b = true then (b.xb - b.xa) * (b.yb - b.ya) * (b.zb - b.za) else 0
def fitB (b : Bd) (p : Pd) : Bool := (decide (b.xb - b.xa = greenT p) && decide (b.yb - b.ya = greenW p)) || (decide (b.xb - b.xa = greenW p) && decide (b.yb - b.ya = greenT p))
/-- The error of a board of a product, behind that of its names. -/
def restE (b : Bd) (p : Pd) : Int := if boxB b = true then if fitB b p = true then if inI (b.zb - b.za) p.lens = true then
    if checkDf b.dfs = 0 then if insE (b.xb - b.xa) (b.yb - b.ya) (b.zb - b.za) b.dfs = true then
      if b.vol < 0 then 9 else if volB b < b.vol then 9 else if b.wane < 0 then 9 else if 1000 < b.wane then 9 else
      if checkM b.cel = 0 then if b.grade < 0 then 26 else if 9 < b.grade then 26 else 0 else 25
    else 9 else checkDf b.dfs
  else 20 else 19 else 19
def checkBd (b : Bd) (c : List Pd) : Int := if checkPd c = 0 then
    if isCode b.id 66 = true ∧ isCode b.log 76 = true ∧ isNm b.sp = true then
      if b.prod < 0 then 8 else match c[b.prod.toNat]? with
      | some p => restE b p
      | none => 8
    else 6
  else checkPd c
end Go.Proofs.YtldekjlihfidlaaGreatDoor
