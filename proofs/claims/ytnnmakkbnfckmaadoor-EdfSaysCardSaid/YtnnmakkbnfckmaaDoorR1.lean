/- Rows: a job, and a slice of jobs, out of what they read as. -/
import Derived.Test.YtnnmakkbnfckmaaDoorR0
import Derived.ChangeArms
import Derived.OpenShut
import Derived.ShutString
import Derived.ChangeOld
import Derived.Below
namespace Go.Proofs.YtnnmakkbnfckmaaDoor
open Go.RowKit Go.Shelf Go.Lib Go.ChangeShapes Go.WideShapes
set_option maxRecDepth 100000

theorem take_one {cs : List Value} (k : Nat) {v : Value} (h : (cs.drop k).take 1 = [v]) : cs[k]? = some v := by
  have := congrArg (·[0]?) h
  simpa [List.getElem?_take, List.getElem?_drop] using this
theorem open_job {H : Type} {enc : TypeId × Value → H} {W : World} {base : Nat} {spare : Nat → Bool} {held : Bool} {fuel : Nat} {cs : List Value} {x : DataW H × List MemPlace} (h : DataW.trod enc Tryd.prog W base spare held fuel 24 cs = some x) : ∃ j : J, cs = j.cells ∧ j.ok := by
  obtain ⟨xs, n, _, _, hl, hx, hf⟩ := DataW.trod_struct Tryd.underlying24 h
  have hl8 : cs.length = 8 := hl.trans (by kernel_rfl)
  have c9 : Tryd.prog.cellsOf 9 = 1 := by kernel_rfl
  have c3 : Tryd.prog.cellsOf 3 = 1 := by kernel_rfl
  have c4 : Tryd.prog.cellsOf 4 = 1 := by kernel_rfl
  have hx8 : xs.length = 8 := hx
  have get : ∀ i, i < 8 → ∃ y, xs[i]? = some y := fun i hi => ⟨xs[i]'(by omega), by simp⟩
  have f0 : DataW.trod enc Tryd.prog W base spare held n 9 ((cs.drop 0).take (Tryd.prog.cellsOf 9)) = xs[0]? := hf 0 _ rfl
  have f1 : DataW.trod enc Tryd.prog W base spare held n 3 ((cs.drop 1).take (Tryd.prog.cellsOf 3)) = xs[1]? := hf 1 _ rfl
  have f2 : DataW.trod enc Tryd.prog W base spare held n 3 ((cs.drop 2).take (Tryd.prog.cellsOf 3)) = xs[2]? := hf 2 _ rfl
  have f3 : DataW.trod enc Tryd.prog W base spare held n 3 ((cs.drop 3).take (Tryd.prog.cellsOf 3)) = xs[3]? := hf 3 _ rfl
  have f4 : DataW.trod enc Tryd.prog W base spare held n 3 ((cs.drop 4).take (Tryd.prog.cellsOf 3)) = xs[4]? := hf 4 _ rfl
  have f5 : DataW.trod enc Tryd.prog W base spare held n 3 ((cs.drop 5).take (Tryd.prog.cellsOf 3)) = xs[5]? := hf 5 _ rfl
  have f6 : DataW.trod enc Tryd.prog W base spare held n 3 ((cs.drop 6).take (Tryd.prog.cellsOf 3)) = xs[6]? := hf 6 _ rfl
  have f7 : DataW.trod enc Tryd.prog W base spare held n 4 ((cs.drop 7).take (Tryd.prog.cellsOf 4)) = xs[7]? := hf 7 _ rfl
  rw [c9] at f0
  rw [c3] at f1 f2 f3 f4 f5 f6
  rw [c4] at f7
  obtain ⟨y0, h0⟩ := get 0 (by omega)
  obtain ⟨y1, h1⟩ := get 1 (by omega)
  obtain ⟨y2, h2⟩ := get 2 (by omega)
  obtain ⟨y3, h3⟩ := get 3 (by omega)
  obtain ⟨y4, h4⟩ := get 4 (by omega)
  obtain ⟨y5, h5⟩ := get 5 (by omega)
  obtain ⟨y6, h6⟩ := get 6 (by omega)
  obtain ⟨y7, h7⟩ := get 7 (by omega)
  obtain ⟨s, e0, _, hs⟩ := DataW.trod_string Tryd.underlying9 (f0.trans h0)
  obtain ⟨n1, e1, _, _⟩ := DataW.trod_int Tryd.underlying3 (f1.trans h1)
  obtain ⟨n2, e2, _, _⟩ := DataW.trod_int Tryd.underlying3 (f2.trans h2)
  obtain ⟨n3, e3, _, _⟩ := DataW.trod_int Tryd.underlying3 (f3.trans h3)
  obtain ⟨n4, e4, _, _⟩ := DataW.trod_int Tryd.underlying3 (f4.trans h4)
  obtain ⟨n5, e5, _, _⟩ := DataW.trod_int Tryd.underlying3 (f5.trans h5)
  obtain ⟨n6, e6, _, _⟩ := DataW.trod_int Tryd.underlying3 (f6.trans h6)
  obtain ⟨b, e7, _⟩ := DataW.trod_bool Tryd.underlying4 (f7.trans h7)
  refine ⟨⟨s, n1, n2, n3, n4, n5, n6, b⟩, ?_, hs⟩
  have q0 := take_one _ e0
  have q1 := take_one _ e1
  have q2 := take_one _ e2
  have q3 := take_one _ e3
  have q4 := take_one _ e4
  have q5 := take_one _ e5
  have q6 := take_one _ e6
  have q7 := take_one _ e7
  match cs, hl8 with
  | [a0, a1, a2, a3, a4, a5, a6, a7], _ =>
    simp at q0 q1 q2 q3 q4 q5 q6 q7
    simp [q0, q1, q2, q3, q4, q5, q6, q7]
theorem addr_add0 (b o j : Nat) : (⟨b, o, none⟩ : Addr).add j = ⟨b, o + j, none⟩ := by unfold Addr.add; split <;> simp_all
theorem open_jobs {H : Type} {enc : TypeId × Value → H} {W : World} {spare : Nat → Bool} {held : Bool} {fuel : Nat} {cs : List Value} {x : DataW H × List MemPlace} (h : DataW.trod enc Tryd.prog W 0 spare held fuel 22 cs = some x) :
    ∃ (a : Option Addr) (l : List J) (cap : Nat), cs = [.slice a l.length cap] ∧ JRow W a l ∧ (∀ j ∈ l, j.ok) ∧ l.length ≤ bigS := by
  have c8 : Tryd.prog.cellsOf 24 = 8 := by kernel_rfl
  rcases Deep.open_slice Tryd.underlying22 h with ⟨rfl, _⟩ | ⟨a, len, cap, m, n, D, Pl, rfl, _, hl, hc, hm, _, hf⟩
  · exact ⟨none, [], 0, rfl, JRow.nil _ _, by simp, by simp⟩
  · have hlm : len ≤ m := by subst hm; split <;> omega
    have hall : ∀ i, i < len → ∃ j : J, W.cells? 0 (a.add (i * 8)) 8 = some j.cells ∧ j.ok := fun i hi => by
      obtain ⟨cs', h1, h2⟩ := hf i (by omega)
      obtain ⟨j, rfl, hj⟩ := open_job h2
      rw [c8] at h1
      exact ⟨j, h1, hj⟩
    haveI : Inhabited J := ⟨⟨ByteArray.empty, 0, 0, 0, 0, 0, 0, false⟩⟩
    obtain ⟨f, hf⟩ := Deep.choose_lt hall
    refine ⟨some a, (List.range len).map f, cap, by simp, fun i hi => ?_, fun j hj => ?_, by simp; unfold bigS; unfold maxLen at hc; omega⟩
    · have hi' : i < len := by simpa using hi
      obtain ⟨_, _, h0⟩ := World.cells?_some (hf 0 (by omega)).1
      obtain ⟨_, _, hcell⟩ := World.cells?_some (hf i hi').1
      obtain ⟨b, off, spot⟩ := a
      have hs := h0 0 (by omega)
      rw [Nat.zero_mul] at hs
      have hspot : spot = none := by
        have : W.cell? ⟨b, off, spot⟩ = some (.string (f 0).name) := by simpa [Addr.add] using hs
        exact World.cell?_spot this
      subst hspot
      have hb : b < W.heap.size := World.block_lt_of_cell? W _ hs
      have key : ∀ k, k < 8 → W.cell? ⟨b, off + i * 8 + k, none⟩ = (f i).cells[k]? := fun k hk => by
        have := hcell k hk
        rwa [addr_add0, addr_add0] at this
      have e : ((List.range len).map f)[i] = f i := by simp
      refine ⟨b, off, rfl, hb, ?_⟩
      rw [e]
      exact ⟨key 0 (by omega), key 1 (by omega), key 2 (by omega), key 3 (by omega), key 4 (by omega), key 5 (by omega), key 6 (by omega), key 7 (by omega)⟩
    · obtain ⟨i, hi, rfl⟩ := List.mem_map.1 hj
      exact (hf i (List.mem_range.1 hi)).2
end Go.Proofs.YtnnmakkbnfckmaaDoor
