/- VaQ VaM, laid as one. -/
import Derived.Test.YtlhcejbimlilaaaGreatDoorVaP
import Derived.Lib.ItoaLen
import Derived.Lib.ItoaNum
import Derived.Lib.Strings
import Derived.Lib.Bytealg
set_option linter.unusedVariables false
set_option linter.unusedSimpArgs false
/- Numbers read from texts, and written: plain. -/
namespace Go.Tk
open Go Go.RowKit
/-- Is there a - in front; what is behind a sign. -/
def sgnB : List UInt8 → Bool
  | [] => false
  | c :: _ => c == 45
def sgnR : List UInt8 → List UInt8
  | [] => []
  | c :: t => if c == 43 || c == 45 then t else c :: t
/-- What is ahead of the first dot, and behind it. -/
def ctA (l : List UInt8) : List UInt8 := l.takeWhile (· != 46)
def ctB (l : List UInt8) : List UInt8 := (l.dropWhile (· != 46)).drop 1
/-- Digits ahead of a dot and behind it: at least one. -/
def okP (a b : List UInt8) : Bool := dgB a && dgB b && !(a ++ b).isEmpty
def decP (l : List UInt8) : Option Nm := if okP (ctA (sgnR l)) (ctB (sgnR l)) = true then some (mkN (sgnB l) (ctA (sgnR l)) (ctB (sgnR l)) 0) else none
def intP (l : List UInt8) : Option Nm := if (!(sgnR l).isEmpty && dgB (sgnR l)) = true then some (mkN (sgnB l) (sgnR l) [] 0) else none
def isE (c : UInt8) : Bool := c == 101 || c == 69
def hdE (l : List UInt8) : List UInt8 := l.takeWhile (fun c => !isE c)
def tlE (l : List UInt8) : List UInt8 := (l.dropWhile (fun c => !isE c)).drop 1
def numN (l : List UInt8) : Nat := l.foldl (fun n c => 10 * n + (c.toNat - 48)) 0
def expZ (x : List UInt8) : Int := if sgnB x = true then -(numN (sgnR x) : Int) else numN (sgnR x)
/-- May a text be an exponent? -/
def okE (x : List UInt8) : Bool := !(sgnR x).isEmpty && decide ((sgnR x).length ≤ 9) && dgB (sgnR x)
def nmNaN : Nm := ⟨false, [], 0, 0, true⟩
def nmInf (z : Int) : Nm := ⟨false, [], 0, z, false⟩
def dblP (l : List UInt8) : Option Nm :=
  if l = [78, 97, 78] then some nmNaN
  else if l = [73, 78, 70] ∨ l = [43, 73, 78, 70] then some (nmInf 1)
  else if l = [45, 73, 78, 70] then some (nmInf (-1))
  else if l.any isE = false then decP l
  else if (okP (ctA (sgnR (hdE l))) (ctB (sgnR (hdE l))) && okE (tlE l)) = true then some (mkN (sgnB (hdE l)) (ctA (sgnR (hdE l))) (ctB (sgnR (hdE l))) (expZ (tlE l)))
  else none
/-- What a number's own texts are. -/
def rep0 (n : Nat) : List UInt8 := List.replicate n 48
def Nm.val (n : Nm) : Value := .agg #[.bool n.below, .string ⟨n.dg.toArray⟩, .int .i64 n.pw, .int .i64 n.inf, .bool n.nan]
end Go.Tk
/- Moments read from texts, days, moments held against each other, and their texts: plain. -/
namespace Go.Tk
open Go Go.RowKit
structure Mt where
  sec : Int
  part : List UInt8
  zoned : Bool
  zone : Int
  sp : List UInt8
def mtZ : Mt := ⟨0, [], false, 0, []⟩
def Mt.val (m : Mt) : Value := .agg #[.int .i64 m.sec, .string ⟨m.part.toArray⟩, .bool m.zoned, .int .i64 m.zone, .string ⟨m.sp.toArray⟩]
/-- A leap year; the days of a month. -/
def lpB (y : Int) : Bool := decide (y % 4 = 0) && (!decide (y % 100 = 0) || decide (y % 400 = 0))
def mdP (y m : Int) : Int := if m = 2 then (if lpB y = true then 29 else 28) else if m = 4 ∨ m = 6 ∨ m = 9 ∨ m = 11 then 30 else 31
/-- How many days lie between the beginning of the year 0 and that of another; a date's day. -/
def ydP (y : Int) : Int := 365 * y + (y - 1) / 4 - (y - 1) / 100 + (y - 1) / 400 + 1
/-- The days of the first k months. -/
def cmP (y : Int) : Nat → Int
  | 0 => 0
  | k + 1 => cmP y k + mdP y (k + 1)
def dyP (y m d : Int) : Int := ydP y + cmP y (m - 1).toNat + (d - 1)
/-- Two digits at the front, a mark behind them. -/
def twoP (l mark : List UInt8) : Option (Int × List UInt8) :=
  match l with
  | a :: b :: t => if (dgB [a, b] && Lib.hasPrefix t mark) = true then some (((a.toNat : Int) - 48) * 10 + ((b.toNat : Int) - 48), t.drop mark.length) else none
  | _ => none
def rdZ (s : List UInt8) : Option (Bool × Int) :=
  match s with
  | [] => some (false, 0)
  | c :: t =>
    if c = 90 ∧ t = [] then some (true, 0)
    else if c ≠ 43 ∧ c ≠ 45 then none
    else match twoP t [58] with
      | none => none
      | some (h, r) => match twoP r [] with
        | none => none
        | some (m, e) => if e ≠ [] ∨ 59 < m ∨ 14 < h ∨ (h = 14 ∧ 0 < m) then none else some (true, if c = 45 then -60 * h - m else 60 * h + m)
/-- Is there a - in front of a year; what stands behind it. -/
def ngB (s : List UInt8) : Bool := Lib.hasPrefix s [45]
def ngR (s : List UInt8) : List UInt8 := Lib.trimPrefix s [45]
/-- How long the year is: -1: there is no - behind it. -/
def yrI (l : List UInt8) : Int := Lib.indexByte l 45
def okY (l : List UInt8) : Bool := decide (4 ≤ yrI l) && decide (yrI l ≤ 9) && dgB (l.take (yrI l).toNat) && !(decide (4 < yrI l) && decide (l.head? = some 48))
def yrZ (s : List UInt8) : Int := if ngB s = true then -(numN ((ngR s).take (yrI (ngR s)).toNat) : Int) else numN ((ngR s).take (yrI (ngR s)).toNat)
/-- A date at the front: year, month, day, what is behind. -/
def rdY (s : List UInt8) : Option (Int × Int × Int × List UInt8) :=
  if okY (ngR s) = true then
    match twoP ((ngR s).drop ((yrI (ngR s)).toNat + 1)) [45] with
    | none => none
    | some (m, r) => if m < 1 ∨ 12 < m then none else
      match twoP r [] with
      | none => none
      | some (d, e) => if d < 1 ∨ mdP (yrZ s) m < d then none else some (yrZ s, m, d, e)
  else none
def rdD (s : List UInt8) : Option (Int × List UInt8) := (rdY s).map fun x => (dyP x.1 x.2.1 x.2.2.1, x.2.2.2)
/-- How many digits stand at the front. -/
def dgN (l : List UInt8) : Nat := (l.takeWhile fun c => decide (48 ≤ c) && decide (c ≤ 57)).length
/-- The digits behind a dot (none: there is no dot), and what is behind them. -/
def rdF (r : List UInt8) : Option (List UInt8 × List UInt8) :=
  if Lib.hasPrefix r [46] = true then
    if dgN (r.drop 1) = 0 then none else some (tr0 ((r.drop 1).take (dgN (r.drop 1))), (r.drop 1).drop (dgN (r.drop 1)))
  else some ([], r)
def rdH (s : List UInt8) : Option (Int × Int × Int × List UInt8) :=
  match twoP s [58] with
  | none => none
  | some (h, r1) => match twoP r1 [58] with
    | none => none
    | some (m, r2) => match twoP r2 [] with
      | none => none
      | some (c, r3) => if 59 < m ∨ 59 < c ∨ 24 < h then none else some (h, m, c, r3)
/-- A time at the front: its seconds, the digits behind the dot, what is behind. -/
def rdT (s : List UInt8) : Option (Int × List UInt8 × List UInt8) :=
  match rdH s with
  | none => none
  | some (h, m, c, r) => match rdF r with
    | none => none
    | some (p, e) => if h = 24 ∧ (0 < m ∨ 0 < c ∨ p ≠ []) then none else some (h * 3600 + m * 60 + c, p, e)
/-- A moment with a zone. -/
def inP (sec : Int) (part : List UInt8) (z : List UInt8) : Option Mt := (rdZ z).map fun x => ⟨sec, part, x.1, x.2, if x.1 = true ∧ x.2 = 0 then [90] else z⟩
def rdDT (s : List UInt8) : Option Mt :=
  match rdD s with
  | none => none
  | some (n, r) => if Lib.hasPrefix r [84] = true then
      match rdT (r.drop 1) with
      | none => none
      | some (c, p, z) => inP (n * 86400 + c) p z
    else none
def rdDay (s : List UInt8) : Option Mt :=
  match rdD s with
  | none => none
  | some (n, z) => inP (n * 86400) [] z
def rdClk (s : List UInt8) : Option Mt :=
  match rdT s with
  | none => none
  | some (c, p, z) => inP (c % 86400) p z
/-- In the zone Z. -/
def utM (m : Mt) : Mt := ⟨m.sec - 60 * m.zone, m.part, m.zoned, 0, if m.zoned = true then [90] else m.sp⟩
def bfM (a b : Mt) : Int := if a.sec < b.sec then -1 else if b.sec < a.sec then 1 else cmB a.part b.part
/-- One without a zone against one with a zone. -/
def mxM (t u : Mt) : Int × Bool :=
  if bfM (utM { t with zone := 840 }) (utM u) = 0 ∨ bfM (utM { t with zone := 840 }) (utM u) ≠ bfM (utM { t with zone := -840 }) (utM u) then (0, false)
  else (bfM (utM { t with zone := 840 }) (utM u), true)
def agM (t u : Mt) : Int × Bool :=
  if t.zoned = u.zoned then (bfM (utM t) (utM u), true)
  else if t.zoned = true then (-(mxM u t).1, (mxM u t).2)
  else mxM t u
/-- The date of a day. -/
structure IsDate (n y m d : Int) : Prop where
  m1 : 1 ≤ m
  m2 : m ≤ 12
  d1 : 1 ≤ d
  d2 : d ≤ mdP y m
  day : dyP y m d = n
end Go.Tk
