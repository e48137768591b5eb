/- Rows: what is left of jobs, ints, a slice of each, out of what they read as. -/
import Derived.Test.YtnnmakkbnfckmaaDoorR1
namespace Go.Proofs.YtnnmakkbnfckmaaDoor
open Go.RowKit Go.Shelf Go.Lib Go.ChangeShapes Go.WideShapes
set_option maxRecDepth 100000

theorem open_int {H : Type} {enc : TypeId × Value → H} {W : World} {base : Nat} {spare : Nat → Bool} {held : Bool} {fuel : Nat} {cs : List Value} {x : DataW H × List MemPlace} (h : DataW.trod enc Tryd.prog W base spare held fuel 3 cs = some x) : ∃ n : Int, cs = [.int .i64 n] := by
  obtain ⟨n, e, _, _⟩ := DataW.trod_int Tryd.underlying3 h
  exact ⟨n, e⟩
theorem open_left {H : Type} {enc : TypeId × Value → H} {W : World} {base : Nat} {spare : Nat → Bool} {held : Bool} {fuel : Nat} {cs : List Value} {x : DataW H × List MemPlace} (h : DataW.trod enc Tryd.prog W base spare held fuel 56 cs = some x) : ∃ p : Int × Int, cs = pairC p := by
  obtain ⟨xs, n, _, _, hl, hx, hf⟩ := DataW.trod_struct Tryd.underlying56 h
  have hl2 : cs.length = 2 := hl.trans (by kernel_rfl)
  have c3 : Tryd.prog.cellsOf 3 = 1 := by kernel_rfl
  have hx2 : xs.length = 2 := hx
  have get : ∀ i, i < 2 → ∃ y, xs[i]? = some y := fun i hi => ⟨xs[i]'(by omega), by simp⟩
  have f0 : DataW.trod enc Tryd.prog W base spare held n 3 ((cs.drop 0).take (Tryd.prog.cellsOf 3)) = xs[0]? := hf 0 _ rfl
  have f1 : DataW.trod enc Tryd.prog W base spare held n 3 ((cs.drop 1).take (Tryd.prog.cellsOf 3)) = xs[1]? := hf 1 _ rfl
  rw [c3] at f0 f1
  obtain ⟨y0, h0⟩ := get 0 (by omega)
  obtain ⟨y1, h1⟩ := get 1 (by omega)
  obtain ⟨n0, e0, _, _⟩ := DataW.trod_int Tryd.underlying3 (f0.trans h0)
  obtain ⟨n1, e1, _, _⟩ := DataW.trod_int Tryd.underlying3 (f1.trans h1)
  refine ⟨(n0, n1), ?_⟩
  have q0 := take_one _ e0
  have q1 := take_one _ e1
  match cs, hl2 with
  | [a0, a1], _ =>
    simp at q0 q1
    simp [q0, q1]
theorem open_lefts {H : Type} {enc : TypeId × Value → H} {W : World} {spare : Nat → Bool} {held : Bool} {fuel : Nat} {cs : List Value} {x : DataW H × List MemPlace} (h : DataW.trod enc Tryd.prog W 0 spare held fuel 44 cs = some x) :
    ∃ (a : Option Addr) (l : List (Int × Int)) (cap : Nat), cs = [.slice a l.length cap] ∧ PRow W a l ∧ l.length ≤ bigS := by
  have c8 : Tryd.prog.cellsOf 56 = 2 := by kernel_rfl
  rcases Deep.open_slice Tryd.underlying44 h with ⟨rfl, _⟩ | ⟨a, len, cap, m, n, D, Pl, rfl, _, hl, hc, hm, _, hf⟩
  · exact ⟨none, [], 0, rfl, PRow.nil _ _, by simp⟩
  · have hlm : len ≤ m := by subst hm; split <;> omega
    have hall : ∀ i, i < len → ∃ p : Int × Int, W.cells? 0 (a.add (i * 2)) 2 = some (pairC p) := fun i hi => by
      obtain ⟨cs', h1, h2⟩ := hf i (by omega)
      obtain ⟨p, rfl⟩ := open_left h2
      rw [c8] at h1
      exact ⟨p, h1⟩
    obtain ⟨f, hf⟩ := Deep.choose_lt hall
    refine ⟨some a, (List.range len).map f, cap, by simp, fun i hi => ?_, by simp; unfold bigS; unfold maxLen at hc; omega⟩
    have hi' : i < len := by simpa using hi
    obtain ⟨_, _, h0⟩ := World.cells?_some (hf 0 (by omega))
    obtain ⟨_, _, hcell⟩ := World.cells?_some (hf i hi')
    obtain ⟨b, off, spot⟩ := a
    have hs := h0 0 (by omega)
    rw [Nat.zero_mul] at hs
    have hspot : spot = none := by
      have : W.cell? ⟨b, off, spot⟩ = some (.int .i64 (f 0).1) := by simpa [Addr.add] using hs
      exact World.cell?_spot this
    subst hspot
    have hb : b < W.heap.size := World.block_lt_of_cell? W _ hs
    have key : ∀ k, k < 2 → W.cell? ⟨b, off + i * 2 + k, none⟩ = (pairC (f i))[k]? := fun k hk => by
      have := hcell k hk
      rwa [addr_add0, addr_add0] at this
    have e : ((List.range len).map f)[i] = f i := by simp
    refine ⟨b, off, rfl, hb, ?_⟩
    rw [e]
    exact ⟨key 0 (by omega), key 1 (by omega)⟩
theorem open_intsl {H : Type} {enc : TypeId × Value → H} {W : World} {spare : Nat → Bool} {held : Bool} {fuel : Nat} {cs : List Value} {x : DataW H × List MemPlace} (h : DataW.trod enc Tryd.prog W 0 spare held fuel 39 cs = some x) :
    ∃ (a : Option Addr) (l : List Int) (cap : Nat), cs = [.slice a l.length cap] ∧ IRow W a l ∧ l.length ≤ bigS := by
  have c8 : Tryd.prog.cellsOf 3 = 1 := by kernel_rfl
  rcases Deep.open_slice Tryd.underlying39 h with ⟨rfl, _⟩ | ⟨a, len, cap, m, n, D, Pl, rfl, _, hl, hc, hm, _, hf⟩
  · exact ⟨none, [], 0, rfl, ERow.nil _ _ _, by simp⟩
  · have hlm : len ≤ m := by subst hm; split <;> omega
    have hall : ∀ i, i < len → ∃ p : Int, W.cells? 0 (a.add (i * 1)) 1 = some [.int .i64 p] := fun i hi => by
      obtain ⟨cs', h1, h2⟩ := hf i (by omega)
      obtain ⟨p, rfl⟩ := open_int h2
      rw [c8] at h1
      exact ⟨p, h1⟩
    obtain ⟨f, hf⟩ := Deep.choose_lt hall
    refine ⟨some a, (List.range len).map f, cap, by simp, fun i hi => ?_, by simp; unfold bigS; unfold maxLen at hc; omega⟩
    have hi' : i < len := by simpa using hi
    obtain ⟨_, _, h0⟩ := World.cells?_some (hf 0 (by omega))
    obtain ⟨_, _, hcell⟩ := World.cells?_some (hf i hi')
    obtain ⟨b, off, spot⟩ := a
    have hs := h0 0 (by omega)
    rw [Nat.zero_mul] at hs
    have hspot : spot = none := by
      have : W.cell? ⟨b, off, spot⟩ = some (.int .i64 (f 0)) := by simpa [Addr.add] using hs
      exact World.cell?_spot this
    subst hspot
    have hb : b < W.heap.size := World.block_lt_of_cell? W _ hs
    have key : W.cell? ⟨b, off + i, none⟩ = some (.int .i64 (f i)) := by
      have := hcell 0 (by omega)
      rw [addr_add0, addr_add0, Nat.mul_one] at this
      simpa using this
    have e : ((List.range len).map f)[i] = f i := by simp
    refine ⟨b, off, rfl, hb, ?_⟩
    rw [e]
    exact key
end Go.Proofs.YtnnmakkbnfckmaaDoor
