/- My own texts R0, R1, R2 in one. -/
import Derived.Test.YtnnmakkbnfckmaaDoorGA
import Derived.Test.YtnnmakkbnfckmaaDoorRows
import Derived.Lib.LaidRTabT
import Derived.Lib.LaidU8T
import Derived.Lay
import Derived.LaidOnce
import Derived.SevenTiedAt
import Derived.ProofKit
import Derived.SizedLaws
import Derived.WalkKit
import Derived.Deep.Slices
import Derived.ChangeArms
import Derived.OpenShut
import Derived.ShutString
import Derived.ChangeOld
import Derived.Below
/- Rows: what the listed tables read as gives the words on Go's tables; a slice of jobs out of what it reads as. -/
namespace Go.Proofs.YtnnmakkbnfckmaaDoor
open Go.RowKit Go.Shelf Go.Lib
set_option maxRecDepth 100000

abbrev laidAll4 : List (String × DataW Unit) := [("unicode/utf8.acceptRanges", Rows.laid_unicode_utf8_acceptRanges), ("unicode.properties", Rows.laid_unicode_properties), ("unicode.Letter", Rows.laid_unicode_Letter), ("unicode/utf8.first", Rows.laid_unicode_utf8_first)]
theorem letterEq : Rows.laid_unicode_Letter = rtabData letterT := by kernel_rfl
theorem firstEq : Rows.laid_unicode_utf8_first = firstData := by kernel_rfl
theorem acceptEq : (Rows.laid_unicode_utf8_acceptRanges : DataW Unit) = acceptData := by kernel_rfl
theorem propsEq : (Rows.laid_unicode_properties : DataW Unit) = tabData .u8 propertiesTab := by kernel_rfl
theorem u8Types : U8Types Tryd.prog Tryd.lays196_ren := .of196 Tryd.lays196
theorem u8Extra : U8Extra Tryd.prog Tryd.lays196_ren := ⟨by kernel_rfl, by kernel_rfl, by kernel_rfl, by kernel_rfl, by kernel_rfl, by kernel_rfl, by kernel_rfl⟩
theorem rTypes : RTypes Tryd.prog Tryd.lays200_ren := { Tryd.lays200 with }
theorem rExtra : RExtra Tryd.prog Tryd.lays200_ren := ⟨by kernel_rfl, by kernel_rfl, by kernel_rfl, by kernel_rfl, by kernel_rfl, by kernel_rfl, by kernel_rfl, by kernel_rfl⟩
theorem tabIs_of_reads {P : Program} {W : World} {name : String} {k : IntKind} {zs : List Int} {g : Nat} {t e : TypeId} {n : Nat}
    (hg : P.globalNamed name = some g) (hty : (P.globals[g]?).map (·.type) = some t) (ht : P.underlying t = some (.array n e)) (he : P.underlying e = some (.int k)) (hce : P.cellsOf e = 1) (hct : P.cellsOf t = n)
    (h : VarReads P W name (tabData k zs)) : TabIs P W name k zs := by
  obtain ⟨g', t', cs, fuel, p, hg', ht', hvar, hd⟩ := h
  obtain rfl := Option.some.inj (hg.symm.trans hg')
  obtain rfl := Option.some.inj (hty.symm.trans ht')
  unfold TabIs
  rw [hvar, ← cells_of_tab ht he hce hct hd]
theorem tabs_of {W : World} (hL : laidMet Tryd.prog laidAll4 W) : Tabs W := by
  refine ⟨?_, ?_, ?_⟩
  · exact utf8Tabs_of_readsT u8Types u8Extra (firstEq ▸ Lib.laidMet.reads hL (.tail _ (.tail _ (.tail _ (.head _))))) (acceptEq ▸ Lib.laidMet.reads hL (.head _))
  · exact tabIs_of_reads (g := 0) (by kernel_rfl) (by kernel_rfl) (Tryd.underlying141) Tryd.underlying5 (by kernel_rfl) (by kernel_rfl) (propsEq ▸ Lib.laidMet.reads hL (.tail _ (.head _)))
  · exact rvar_of_readsT rTypes rExtra (by kernel_rfl) (by kernel_rfl) (letterEq ▸ Lib.laidMet.reads hL (.tail _ (.tail _ (.head _))))
end Go.Proofs.YtnnmakkbnfckmaaDoor
/- Rows: a job, and a slice of jobs, out of what they read as. -/
namespace Go.Proofs.YtnnmakkbnfckmaaDoor
open Go.RowKit Go.Shelf Go.Lib Go.ChangeShapes Go.WideShapes
set_option maxRecDepth 100000

theorem take_one {cs : List Value} (k : Nat) {v : Value} (h : (cs.drop k).take 1 = [v]) : cs[k]? = some v := by
  have := congrArg (·[0]?) h
  simpa [List.getElem?_take, List.getElem?_drop] using this
theorem open_job {H : Type} {enc : TypeId × Value → H} {W : World} {base : Nat} {spare : Nat → Bool} {held : Bool} {fuel : Nat} {cs : List Value} {x : DataW H × List MemPlace} (h : DataW.trod enc Tryd.prog W base spare held fuel 24 cs = some x) : ∃ j : J, cs = j.cells ∧ j.ok := by
  obtain ⟨xs, n, _, _, hl, hx, hf⟩ := DataW.trod_struct Tryd.underlying24 h
  have hl8 : cs.length = 8 := hl.trans (by kernel_rfl)
  have c9 : Tryd.prog.cellsOf 9 = 1 := by kernel_rfl
  have c3 : Tryd.prog.cellsOf 3 = 1 := by kernel_rfl
  have c4 : Tryd.prog.cellsOf 4 = 1 := by kernel_rfl
  have hx8 : xs.length = 8 := hx
  have get : ∀ i, i < 8 → ∃ y, xs[i]? = some y := fun i hi => ⟨xs[i]'(by omega), by simp⟩
  have f0 : DataW.trod enc Tryd.prog W base spare held n 9 ((cs.drop 0).take (Tryd.prog.cellsOf 9)) = xs[0]? := hf 0 _ rfl
  have f1 : DataW.trod enc Tryd.prog W base spare held n 3 ((cs.drop 1).take (Tryd.prog.cellsOf 3)) = xs[1]? := hf 1 _ rfl
  have f2 : DataW.trod enc Tryd.prog W base spare held n 3 ((cs.drop 2).take (Tryd.prog.cellsOf 3)) = xs[2]? := hf 2 _ rfl
  have f3 : DataW.trod enc Tryd.prog W base spare held n 3 ((cs.drop 3).take (Tryd.prog.cellsOf 3)) = xs[3]? := hf 3 _ rfl
  have f4 : DataW.trod enc Tryd.prog W base spare held n 3 ((cs.drop 4).take (Tryd.prog.cellsOf 3)) = xs[4]? := hf 4 _ rfl
  have f5 : DataW.trod enc Tryd.prog W base spare held n 3 ((cs.drop 5).take (Tryd.prog.cellsOf 3)) = xs[5]? := hf 5 _ rfl
  have f6 : DataW.trod enc Tryd.prog W base spare held n 3 ((cs.drop 6).take (Tryd.prog.cellsOf 3)) = xs[6]? := hf 6 _ rfl
  have f7 : DataW.trod enc Tryd.prog W base spare held n 4 ((cs.drop 7).take (Tryd.prog.cellsOf 4)) = xs[7]? := hf 7 _ rfl
  rw [c9] at f0
  rw [c3] at f1 f2 f3 f4 f5 f6
  rw [c4] at f7
  obtain ⟨y0, h0⟩ := get 0 (by omega)
  obtain ⟨y1, h1⟩ := get 1 (by omega)
  obtain ⟨y2, h2⟩ := get 2 (by omega)
  obtain ⟨y3, h3⟩ := get 3 (by omega)
  obtain ⟨y4, h4⟩ := get 4 (by omega)
  obtain ⟨y5, h5⟩ := get 5 (by omega)
  obtain ⟨y6, h6⟩ := get 6 (by omega)
  obtain ⟨y7, h7⟩ := get 7 (by omega)
  obtain ⟨s, e0, _, hs⟩ := DataW.trod_string Tryd.underlying9 (f0.trans h0)
  obtain ⟨n1, e1, _, _⟩ := DataW.trod_int Tryd.underlying3 (f1.trans h1)
  obtain ⟨n2, e2, _, _⟩ := DataW.trod_int Tryd.underlying3 (f2.trans h2)
  obtain ⟨n3, e3, _, _⟩ := DataW.trod_int Tryd.underlying3 (f3.trans h3)
  obtain ⟨n4, e4, _, _⟩ := DataW.trod_int Tryd.underlying3 (f4.trans h4)
  obtain ⟨n5, e5, _, _⟩ := DataW.trod_int Tryd.underlying3 (f5.trans h5)
  obtain ⟨n6, e6, _, _⟩ := DataW.trod_int Tryd.underlying3 (f6.trans h6)
  obtain ⟨b, e7, _⟩ := DataW.trod_bool Tryd.underlying4 (f7.trans h7)
  refine ⟨⟨s, n1, n2, n3, n4, n5, n6, b⟩, ?_, hs⟩
  have q0 := take_one _ e0
  have q1 := take_one _ e1
  have q2 := take_one _ e2
  have q3 := take_one _ e3
  have q4 := take_one _ e4
  have q5 := take_one _ e5
  have q6 := take_one _ e6
  have q7 := take_one _ e7
  match cs, hl8 with
  | [a0, a1, a2, a3, a4, a5, a6, a7], _ =>
    simp at q0 q1 q2 q3 q4 q5 q6 q7
    simp [q0, q1, q2, q3, q4, q5, q6, q7]
theorem addr_add0 (b o j : Nat) : (⟨b, o, none⟩ : Addr).add j = ⟨b, o + j, none⟩ := by unfold Addr.add; split <;> simp_all
theorem open_jobs {H : Type} {enc : TypeId × Value → H} {W : World} {spare : Nat → Bool} {held : Bool} {fuel : Nat} {cs : List Value} {x : DataW H × List MemPlace} (h : DataW.trod enc Tryd.prog W 0 spare held fuel 22 cs = some x) :
    ∃ (a : Option Addr) (l : List J) (cap : Nat), cs = [.slice a l.length cap] ∧ JRow W a l ∧ (∀ j ∈ l, j.ok) ∧ l.length ≤ bigS := by
  have c8 : Tryd.prog.cellsOf 24 = 8 := by kernel_rfl
  rcases Deep.open_slice Tryd.underlying22 h with ⟨rfl, _⟩ | ⟨a, len, cap, m, n, D, Pl, rfl, _, hl, hc, hm, _, hf⟩
  · exact ⟨none, [], 0, rfl, JRow.nil _ _, by simp, by simp⟩
  · have hlm : len ≤ m := by subst hm; split <;> omega
    have hall : ∀ i, i < len → ∃ j : J, W.cells? 0 (a.add (i * 8)) 8 = some j.cells ∧ j.ok := fun i hi => by
      obtain ⟨cs', h1, h2⟩ := hf i (by omega)
      obtain ⟨j, rfl, hj⟩ := open_job h2
      rw [c8] at h1
      exact ⟨j, h1, hj⟩
    haveI : Inhabited J := ⟨⟨ByteArray.empty, 0, 0, 0, 0, 0, 0, false⟩⟩
    obtain ⟨f, hf⟩ := Deep.choose_lt hall
    refine ⟨some a, (List.range len).map f, cap, by simp, fun i hi => ?_, fun j hj => ?_, by simp; unfold bigS; unfold maxLen at hc; omega⟩
    · have hi' : i < len := by simpa using hi
      obtain ⟨_, _, h0⟩ := World.cells?_some (hf 0 (by omega)).1
      obtain ⟨_, _, hcell⟩ := World.cells?_some (hf i hi').1
      obtain ⟨b, off, spot⟩ := a
      have hs := h0 0 (by omega)
      rw [Nat.zero_mul] at hs
      have hspot : spot = none := by
        have : W.cell? ⟨b, off, spot⟩ = some (.string (f 0).name) := by simpa [Addr.add] using hs
        exact World.cell?_spot this
      subst hspot
      have hb : b < W.heap.size := World.block_lt_of_cell? W _ hs
      have key : ∀ k, k < 8 → W.cell? ⟨b, off + i * 8 + k, none⟩ = (f i).cells[k]? := fun k hk => by
        have := hcell k hk
        rwa [addr_add0, addr_add0] at this
      have e : ((List.range len).map f)[i] = f i := by simp
      refine ⟨b, off, rfl, hb, ?_⟩
      rw [e]
      exact ⟨key 0 (by omega), key 1 (by omega), key 2 (by omega), key 3 (by omega), key 4 (by omega), key 5 (by omega), key 6 (by omega), key 7 (by omega)⟩
    · obtain ⟨i, hi, rfl⟩ := List.mem_map.1 hj
      exact (hf i (List.mem_range.1 hi)).2
end Go.Proofs.YtnnmakkbnfckmaaDoor
/- Rows: what is left of jobs, ints, a slice of each, out of what they read as. -/
namespace Go.Proofs.YtnnmakkbnfckmaaDoor
open Go.RowKit Go.Shelf Go.Lib Go.ChangeShapes Go.WideShapes
set_option maxRecDepth 100000

theorem open_int {H : Type} {enc : TypeId × Value → H} {W : World} {base : Nat} {spare : Nat → Bool} {held : Bool} {fuel : Nat} {cs : List Value} {x : DataW H × List MemPlace} (h : DataW.trod enc Tryd.prog W base spare held fuel 3 cs = some x) : ∃ n : Int, cs = [.int .i64 n] := by
  obtain ⟨n, e, _, _⟩ := DataW.trod_int Tryd.underlying3 h
  exact ⟨n, e⟩
theorem open_left {H : Type} {enc : TypeId × Value → H} {W : World} {base : Nat} {spare : Nat → Bool} {held : Bool} {fuel : Nat} {cs : List Value} {x : DataW H × List MemPlace} (h : DataW.trod enc Tryd.prog W base spare held fuel 56 cs = some x) : ∃ p : Int × Int, cs = pairC p := by
  obtain ⟨xs, n, _, _, hl, hx, hf⟩ := DataW.trod_struct Tryd.underlying56 h
  have hl2 : cs.length = 2 := hl.trans (by kernel_rfl)
  have c3 : Tryd.prog.cellsOf 3 = 1 := by kernel_rfl
  have hx2 : xs.length = 2 := hx
  have get : ∀ i, i < 2 → ∃ y, xs[i]? = some y := fun i hi => ⟨xs[i]'(by omega), by simp⟩
  have f0 : DataW.trod enc Tryd.prog W base spare held n 3 ((cs.drop 0).take (Tryd.prog.cellsOf 3)) = xs[0]? := hf 0 _ rfl
  have f1 : DataW.trod enc Tryd.prog W base spare held n 3 ((cs.drop 1).take (Tryd.prog.cellsOf 3)) = xs[1]? := hf 1 _ rfl
  rw [c3] at f0 f1
  obtain ⟨y0, h0⟩ := get 0 (by omega)
  obtain ⟨y1, h1⟩ := get 1 (by omega)
  obtain ⟨n0, e0, _, _⟩ := DataW.trod_int Tryd.underlying3 (f0.trans h0)
  obtain ⟨n1, e1, _, _⟩ := DataW.trod_int Tryd.underlying3 (f1.trans h1)
  refine ⟨(n0, n1), ?_⟩
  have q0 := take_one _ e0
  have q1 := take_one _ e1
  match cs, hl2 with
  | [a0, a1], _ =>
    simp at q0 q1
    simp [q0, q1]
theorem open_lefts {H : Type} {enc : TypeId × Value → H} {W : World} {spare : Nat → Bool} {held : Bool} {fuel : Nat} {cs : List Value} {x : DataW H × List MemPlace} (h : DataW.trod enc Tryd.prog W 0 spare held fuel 44 cs = some x) :
    ∃ (a : Option Addr) (l : List (Int × Int)) (cap : Nat), cs = [.slice a l.length cap] ∧ PRow W a l ∧ l.length ≤ bigS := by
  have c8 : Tryd.prog.cellsOf 56 = 2 := by kernel_rfl
  rcases Deep.open_slice Tryd.underlying44 h with ⟨rfl, _⟩ | ⟨a, len, cap, m, n, D, Pl, rfl, _, hl, hc, hm, _, hf⟩
  · exact ⟨none, [], 0, rfl, PRow.nil _ _, by simp⟩
  · have hlm : len ≤ m := by subst hm; split <;> omega
    have hall : ∀ i, i < len → ∃ p : Int × Int, W.cells? 0 (a.add (i * 2)) 2 = some (pairC p) := fun i hi => by
      obtain ⟨cs', h1, h2⟩ := hf i (by omega)
      obtain ⟨p, rfl⟩ := open_left h2
      rw [c8] at h1
      exact ⟨p, h1⟩
    obtain ⟨f, hf⟩ := Deep.choose_lt hall
    refine ⟨some a, (List.range len).map f, cap, by simp, fun i hi => ?_, by simp; unfold bigS; unfold maxLen at hc; omega⟩
    have hi' : i < len := by simpa using hi
    obtain ⟨_, _, h0⟩ := World.cells?_some (hf 0 (by omega))
    obtain ⟨_, _, hcell⟩ := World.cells?_some (hf i hi')
    obtain ⟨b, off, spot⟩ := a
    have hs := h0 0 (by omega)
    rw [Nat.zero_mul] at hs
    have hspot : spot = none := by
      have : W.cell? ⟨b, off, spot⟩ = some (.int .i64 (f 0).1) := by simpa [Addr.add] using hs
      exact World.cell?_spot this
    subst hspot
    have hb : b < W.heap.size := World.block_lt_of_cell? W _ hs
    have key : ∀ k, k < 2 → W.cell? ⟨b, off + i * 2 + k, none⟩ = (pairC (f i))[k]? := fun k hk => by
      have := hcell k hk
      rwa [addr_add0, addr_add0] at this
    have e : ((List.range len).map f)[i] = f i := by simp
    refine ⟨b, off, rfl, hb, ?_⟩
    rw [e]
    exact ⟨key 0 (by omega), key 1 (by omega)⟩
theorem open_intsl {H : Type} {enc : TypeId × Value → H} {W : World} {spare : Nat → Bool} {held : Bool} {fuel : Nat} {cs : List Value} {x : DataW H × List MemPlace} (h : DataW.trod enc Tryd.prog W 0 spare held fuel 39 cs = some x) :
    ∃ (a : Option Addr) (l : List Int) (cap : Nat), cs = [.slice a l.length cap] ∧ IRow W a l ∧ l.length ≤ bigS := by
  have c8 : Tryd.prog.cellsOf 3 = 1 := by kernel_rfl
  rcases Deep.open_slice Tryd.underlying39 h with ⟨rfl, _⟩ | ⟨a, len, cap, m, n, D, Pl, rfl, _, hl, hc, hm, _, hf⟩
  · exact ⟨none, [], 0, rfl, ERow.nil _ _ _, by simp⟩
  · have hlm : len ≤ m := by subst hm; split <;> omega
    have hall : ∀ i, i < len → ∃ p : Int, W.cells? 0 (a.add (i * 1)) 1 = some [.int .i64 p] := fun i hi => by
      obtain ⟨cs', h1, h2⟩ := hf i (by omega)
      obtain ⟨p, rfl⟩ := open_int h2
      rw [c8] at h1
      exact ⟨p, h1⟩
    obtain ⟨f, hf⟩ := Deep.choose_lt hall
    refine ⟨some a, (List.range len).map f, cap, by simp, fun i hi => ?_, by simp; unfold bigS; unfold maxLen at hc; omega⟩
    have hi' : i < len := by simpa using hi
    obtain ⟨_, _, h0⟩ := World.cells?_some (hf 0 (by omega))
    obtain ⟨_, _, hcell⟩ := World.cells?_some (hf i hi')
    obtain ⟨b, off, spot⟩ := a
    have hs := h0 0 (by omega)
    rw [Nat.zero_mul] at hs
    have hspot : spot = none := by
      have : W.cell? ⟨b, off, spot⟩ = some (.int .i64 (f 0)) := by simpa [Addr.add] using hs
      exact World.cell?_spot this
    subst hspot
    have hb : b < W.heap.size := World.block_lt_of_cell? W _ hs
    have key : W.cell? ⟨b, off + i, none⟩ = some (.int .i64 (f i)) := by
      have := hcell 0 (by omega)
      rw [addr_add0, addr_add0, Nat.mul_one] at this
      simpa using this
    have e : ((List.range len).map f)[i] = f i := by simp
    refine ⟨b, off, rfl, hb, ?_⟩
    rw [e]
    exact key
end Go.Proofs.YtnnmakkbnfckmaaDoor
