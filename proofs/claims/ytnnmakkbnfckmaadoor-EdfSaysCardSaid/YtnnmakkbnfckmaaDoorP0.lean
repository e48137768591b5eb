/- Plain words of names and jobs: what package job and chapter 8's own answer compute, over lists. No program in sight. -/
import Derived.Lib.IsU
import Derived.Lib.ValidU
import GoSem.Core.Utf8
namespace Go.Proofs.YtnnmakkbnfckmaaDoor

/-- A job. -/
structure J where
  name : ByteArray
  rel : Int
  dl : Int
  bud : Int
  act : Int
  val : Int
  cln : Int
  hard : Bool

def digitB (r : Int) : Bool := decide (48 ≤ r) && decide (r ≤ 57)
/-- A rune that may not stand at place n of a name. -/
def badRune (n : Nat) (r : Int) : Bool := !Lib.isLetterU r && (n == 0 || (!digitB r && r != 95))
/-- name.Good's loop from byte pos on, n runes being read. -/
def nameGo (s : ByteArray) : Nat → Nat → Nat → Bool
  | 0, _, _ => false
  | f + 1, pos, n =>
    if pos < s.size then
      (if badRune n (Utf8.decode s pos).1 then false else nameGo s f (pos + (Utf8.decode s pos).2) (n + 1))
    else decide (1 ≤ n) && (decide (n ≤ 20) && Lib.validD s.data.toList)
def goodName (s : ByteArray) : Bool := nameGo s (s.size + 1) 0 0

/-- How many runes from pos on. -/
def lenGo (s : ByteArray) : Nat → Nat → Nat
  | 0, _ => 0
  | f + 1, pos => if pos < s.size then lenGo s f (pos + (Utf8.decode s pos).2) + 1 else 0
def lenR (s : ByteArray) : Nat := lenGo s (s.size + 1) 0
/-- The reference's loop over a name. -/
def refGo (s : ByteArray) : Nat → Nat → Bool
  | 0, _ => false
  | f + 1, pos =>
    if pos < s.size then
      (let r : Int := (Utf8.decode s pos).1
       if (pos == 0 && !Lib.isLetterU r) || (r == 65533 && (s.get! pos).toNat != 239) || (r != 95 && (decide (r < 48) || decide (57 < r)) && !Lib.isLetterU r) then false
       else refGo s f (pos + (Utf8.decode s pos).2))
    else true
def refName (s : ByteArray) : Bool := if lenR s < 1 ∨ 20 < lenR s then false else refGo s (s.size + 1) 0

/-- A place, or -1. -/
def idxI : Option Nat → Int
  | some i => i
  | none => -1
theorem idxI_some (i : Nat) : idxI (some i) = i := rfl
theorem idxI_none : idxI none = -1 := rfl

def inB (n a b : Int) : Bool := decide (a ≤ n) && decide (n ≤ b)
def timesB (j : J) : Bool := inB j.rel 0 10000 && (decide (j.rel < j.dl) && decide (j.dl ≤ 10000))
def worksB (j : J) : Bool := inB j.bud 1 1000 && (inB j.act 1 1000 && inB j.cln 0 100)
/-- job.Good. -/
def goodB (j : J) : Bool := goodName j.name && (timesB j && (worksB j && inB j.val 0 1000000))
def allB (l : List J) : Bool := decide (l.length ≤ 200) && l.all goodB
def runsB (j : J) : Bool := decide (j.act ≤ j.bud)
def chargeJ (j : J) : Int := if goodB j then j.bud + j.cln else 0
def workJ (j : J) : Int := if goodB j then (if runsB j then j.act else j.bud + j.cln) else 0
def maxDl (n : Int) (l : List J) : Int := l.foldl (fun n j => max n j.dl) n
def endJ (l : List J) : Int := if allB l then maxDl 0 l else 0

/-- Are jobs more than is asked of? -/
def heavyJ (most last : Int) (j : J) : Bool := decide (100 < j.name.size) || (decide (last < j.dl) && decide (j.dl ≤ 10000))
def heavyB (l : List J) (most last : Int) : Bool := decide (most < l.length) || l.any (heavyJ most last)

end Go.Proofs.YtnnmakkbnfckmaaDoor
