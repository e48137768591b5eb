/- Rows: a slice that reads as one is no longer than its room. -/
import Derived.Test.YtnnmakkbnfckmaaDoorGR
namespace Go.Proofs.YtnnmakkbnfckmaaDoor
open Go.RowKit Go.Shelf Go.Lib Go.ChangeShapes Go.WideShapes
theorem cap_jobs {H : Type} {enc : TypeId × Value → H} {W : World} {spare : Nat → Bool} {held : Bool} {fuel : Nat} {cs : List Value} {x : DataW H × List MemPlace} {a : Option Addr} {n c : Nat} (h : DataW.trod enc Tryd.prog W 0 spare held fuel 22 cs = some x) (e : cs = [.slice a n c]) : n ≤ c := by
  rcases Deep.open_slice Tryd.underlying22 h with ⟨rfl, _⟩ | ⟨a', len, cap, m, _, D, Pl, rfl, _, hl, _⟩
  · injection e with e _
    injection e with e1 e2 e3
    omega
  · injection e with e _
    injection e with e1 e2 e3
    omega
end Go.Proofs.YtnnmakkbnfckmaaDoor
