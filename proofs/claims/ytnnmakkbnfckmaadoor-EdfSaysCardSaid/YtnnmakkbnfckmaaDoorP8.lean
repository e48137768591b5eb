/- Plain: Robust's run over functions of places: what is late goes, what comes is taken, the least worth is given up, who runs, who is taken again. -/
import Derived.Test.YtnnmakkbnfckmaaDoorP7
namespace Go.Proofs.YtnnmakkbnfckmaaDoor

/-- A number at one place is another. -/
def upd {α : Type} (f : Nat → α) (i : Nat) (v : α) : Nat → α := fun j => if j = i then v else f j
theorem upd_same {α : Type} (f : Nat → α) (i : Nat) (v : α) : upd f i v i = v := by simp [upd]
theorem upd_other {α : Type} (f : Nat → α) {i j : Nat} (v : α) (h : j ≠ i) : upd f i v j = f j := by simp [upd, h]
/-- The first n of a function as a row. -/
abbrev rowN {α : Type} (f : Nat → α) (n : Nat) : List α := (List.range n).map f
theorem rowN_set {α : Type} (f : Nat → α) (n i : Nat) (v : α) : (rowN f n).set i v = rowN (upd f i v) n := by
  apply List.ext_getElem (by simp)
  intro j h1 h2
  rw [List.getElem_set]
  by_cases e : i = j
  · subst e; simp [upd]
  · rw [if_neg e]; simp [upd, show ¬ j = i from fun h => e h.symm]
def hardAt (l : List J) (i : Nat) : Bool := ((l[i]?).map J.hard).getD false
def runsAt (l : List J) (i : Nat) : Bool := ((l[i]?).map runsB).getD false
theorem hardAt_eq (l : List J) {i : Nat} (h : i < l.length) : hardAt l i = l[i].hard := by simp [hardAt, h]
theorem runsAt_eq (l : List J) {i : Nat} (h : i < l.length) : runsAt l i = runsB l[i] := by simp [runsAt, h]

/-- What a run has come to: what each is (0 not here yet, 1 taken, 2 shed), its fate, how often it ran; who ran, who was shed, who was taken again. -/
structure RS where
  tk : Nat → Nat
  fk : Nat → Int
  fa : Nat → Int
  ran : Nat → Int
  trace : List (Option Nat)
  sheds : List Nat
  again : List Nat
/-- Is it that, and has nothing become of it? -/
def RS.op (s : RS) (t i : Nat) : Bool := s.tk i == t && s.fk i == 0
def RS.say (s : RS) (i : Nat) (kind at_ : Int) : RS := { s with fk := upd s.fk i kind, fa := upd s.fa i at_ }
variable (l : List J)
def needR (s : RS) (i : Nat) : Int := at0 chargeJ l i - s.ran i
/-- What is left of the first n that are taken. -/
def leftsTo (s : RS) (n : Nat) : List (Int × Int) := ((List.range n).filter (s.op 1)).map fun i => (at0 J.dl l i, needR l s i)
def fitsR (s : RS) (now : Int) : Bool := fitsB now (leftsTo l s l.length)
theorem leftsTo_succ (s : RS) (n : Nat) : leftsTo l s (n + 1) = leftsTo l s n ++ (if s.op 1 n = true then [(at0 J.dl l n, needR l s n)] else []) := by
  unfold leftsTo
  rw [List.range_succ, List.filter_append, List.map_append]
  congr 1
  by_cases h : s.op 1 n = true <;> simp [h]
/-- Is it one that is late in tick k? -/
def lateB (s : RS) (k : Int) (i : Nat) : Bool := s.op 2 i && decide (at0 J.dl l i - k < needR l s i)
/-- The first n that are late go. -/
def lateTo (s : RS) (k : Int) (n : Nat) : RS := { s with fk := fun i => if i < n ∧ lateB l s k i = true then 3 else s.fk i, fa := fun i => if i < n ∧ lateB l s k i = true then k else s.fa i }
def late (s : RS) (k : Int) : RS := lateTo l s k l.length
/-- One that may be given up. -/
def firmB (s : RS) (i : Nat) : Bool := s.op 1 i && (!hardAt l i && decide (s.ran i < at0 J.bud l i))
def noMore (i : Nat) : Option Nat → Bool
  | none => true
  | some b => decide (at0 J.val l i ≤ at0 J.val l b)
def leastStep (s : RS) (b : Option Nat) (i : Nat) : Option Nat := if (firmB l s i && noMore l i b) = true then some i else b
def leastTo (s : RS) (n : Nat) : Option Nat := (List.range n).foldl (leastStep l s) none
def least (s : RS) : Option Nat := leastTo l s l.length
theorem leastTo_succ (s : RS) (n : Nat) : leastTo l s (n + 1) = leastStep l s (leastTo l s n) n := by unfold leastTo; rw [List.range_succ, List.foldl_append]; rfl
theorem leastTo_some (s : RS) (n : Nat) {b : Nat} (h : leastTo l s n = some b) : b < n ∧ firmB l s b = true := by
  induction n with
  | zero => simp [leastTo] at h
  | succ n ih =>
    rw [leastTo_succ] at h
    unfold leastStep at h
    split at h
    · rename_i hc
      rw [Bool.and_eq_true] at hc
      injection h with h
      subst h
      exact ⟨by omega, hc.1⟩
    · have := ih h
      exact ⟨by omega, this.2⟩
/-- These are shed. -/
def shedL (s : RS) (L : List Nat) : RS := { s with tk := fun i => if i ∈ L then 2 else s.tk i, sheds := s.sheds ++ L }
theorem shedL_nil (s : RS) : shedL s [] = s := by unfold shedL; simp
/-- Who is given up, one after another, until all fit; none: they never do. -/
def arrGo (s : RS) (k : Int) : Nat → List Nat → Option (List Nat)
  | 0, L => if fitsR l (shedL s L) k = true then some L else none
  | f + 1, L => if fitsR l (shedL s L) k = true then some L else match least l (shedL s L) with | none => none | some b => arrGo s k f (L ++ [b])
def takeR (s : RS) (i : Nat) : RS := { s with tk := upd s.tk i 1 }
/-- One that comes is taken, or refused. -/
def arrive (s : RS) (k : Int) (i : Nat) : RS := match arrGo l (takeR s i) k l.length [] with | some L => shedL (takeR s i) L | none => s.say i 4 k
def arriveTo (s : RS) (k : Int) (n : Nat) : RS := (List.range n).foldl (fun s i => if at0 J.rel l i = k then arrive l s k i else s) s
theorem arriveTo_succ (s : RS) (k : Int) (n : Nat) : arriveTo l s k (n + 1) = if at0 J.rel l n = k then arrive l (arriveTo l s k n) k n else arriveTo l s k n := by unfold arriveTo; rw [List.range_succ, List.foldl_append]; rfl
/-- Those that are shed, the most worth ahead. -/
def againL (s : RS) : List Nat := sortK (fun i => - at0 J.val l i) ((List.range l.length).filter (s.op 2))
def againStep (k : Int) (s : RS) (i : Nat) : RS := if fitsR l (takeR s i) k = true then { takeR s i with again := s.again ++ [i] } else s
def againR (s : RS) (k : Int) : RS := (againL l s).foldl (againStep l k) s
/-- Who runs. -/
def headR (s : RS) : Option Nat := pick l (s.op 1)
/-- One tick's run. -/
def runR (s : RS) (k : Int) : RS :=
  match headR l s with
  | none => { s with trace := s.trace ++ [none] }
  | some i =>
    let s1 : RS := { s with trace := s.trace ++ [some i], ran := upd s.ran i (s.ran i + 1) }
    if s.ran i + 1 < at0 workJ l i then s1
    else if runsAt l i = false then s1.say i 2 (k + 1)
    else if at0 J.act l i < at0 J.bud l i then againR l (s1.say i 1 (k + 1)) (k + 1)
    else s1.say i 1 (k + 1)
def tickR (s : RS) (k : Int) : RS := runR l (arriveTo l (late l s k) k l.length) k
def startR : RS := ⟨fun _ => 0, fun _ => 0, fun _ => 0, fun _ => 0, [], [], []⟩
/-- Behind k ticks. -/
def robT : Nat → RS
  | 0 => startR
  | k + 1 => tickR l (robT k) k
/-- At the end those that are shed are said to be so. -/
def lastTo (s : RS) (k : Int) (n : Nat) : RS := { s with fk := fun i => if i < n ∧ s.op 2 i = true then 3 else s.fk i, fa := fun i => if i < n ∧ s.op 2 i = true then k else s.fa i }
def robust : RS := lastTo (robT l (endJ l).toNat) (endJ l) l.length
end Go.Proofs.YtnnmakkbnfckmaaDoor
