/- The insertion sort of Go's library, as the shelf has it, at a row of ints and at a row of pairs: each class in its order, all by the number. -/
import Derived.Test.YtnnmakkbnfckmaaDoorP2
import Derived.Test.YtnnmakkbnfckmaaDoorB0
import Derived.Shelf.SlSortCmp.Insertion1
import Derived.Shelf.SlSortCmp.PdqK
namespace Go.Proofs.YtnnmakkbnfckmaaDoor
open Go.RowKit Go.Shelf Go.Sort Go.Lib

def lF_ren : Go.Shelf.Ren := ⟨fun | 20 => 133 | n => n, fun | 0 => 0 | 3 => 3 | 4 => 4 | 22 => 39 | 24 => 3 | 25 => 88 | n => n, fun n => n⟩
theorem lF : SlLaysF.n20 Tryd.prog lF_ren := {
  mixed := by kernel_rfl
  f20 := ⟨Tryd.f133.name, by decide, Tryd.func133.trans (congrArg some (by kernel_rfl))⟩
  t0 := Tryd.underlying0
  a0 := Tryd.isAgg0
  z0 := Tryd.sizeOf0
  v0 := Tryd.zeroValue0
  t3 := Tryd.underlying3
  a3 := Tryd.isAgg3
  z3 := Tryd.sizeOf3
  v3 := Tryd.zeroValue3
  t4 := Tryd.underlying4
  a4 := Tryd.isAgg4
  z4 := Tryd.sizeOf4
  v4 := Tryd.zeroValue4
  t22 := Tryd.underlying39
  a22 := Tryd.isAgg39
  z22 := Tryd.sizeOf39
  v22 := Tryd.zeroValue39
  a24 := Tryd.isAgg3
  z24 := Tryd.sizeOf3
  t25 := Tryd.underlying88
  a25 := Tryd.isAgg88
  z25 := Tryd.sizeOf88
  v25 := Tryd.zeroValue88 }
def lK_ren : Go.Shelf.Ren := ⟨fun | 20 => 136 | n => n, fun | 0 => 0 | 3 => 3 | 4 => 4 | 22 => 44 | 24 => 56 | 25 => 91 | n => n, fun n => n⟩
theorem lK : SlLaysF0.n20 Tryd.prog lK_ren := {
  mixed := by kernel_rfl
  f20 := ⟨Tryd.f136.name, by decide, Tryd.func136.trans (congrArg some (by kernel_rfl))⟩
  t0 := Tryd.underlying0
  a0 := Tryd.isAgg0
  z0 := Tryd.sizeOf0
  v0 := Tryd.zeroValue0
  t3 := Tryd.underlying3
  a3 := Tryd.isAgg3
  z3 := Tryd.sizeOf3
  v3 := Tryd.zeroValue3
  t4 := Tryd.underlying4
  a4 := Tryd.isAgg4
  z4 := Tryd.sizeOf4
  v4 := Tryd.zeroValue4
  t22 := Tryd.underlying44
  a22 := Tryd.isAgg44
  z22 := Tryd.sizeOf44
  v22 := Tryd.zeroValue44
  t25 := Tryd.underlying91
  a25 := Tryd.isAgg91
  z25 := Tryd.sizeOf91
  v25 := Tryd.zeroValue91 }

/-! ### A row of ints, a row of pairs: the worlds of a sort -/
variable {α : Type} [Inhabited α]
abbrev encI (iv : α → Int) (x : α) : Value := .int .i64 (iv x)
def encL (iv : α → Int × Int) (x : α) : List Value := pairC (iv x)
/-- What a sort is told: of the row, of what compares, of the number that it goes by. -/
structure SortI (iv : α → Int) (g : Nat) (cb : Array Value) (key : α → Int) (d0 : Array α) (w0 : World) (blk off : Nat) : Prop where
  eg : ∀ args w, (callFunc g args).run Tryd.prog w = .ok (.enter g args) w
  R : Row1 (encI iv) w0 blk off d0
  cmp : CmpLays1 Tryd.prog g cb (encI iv) (fun x y => Lib.compareInt (key x) (key y)) blk off d0.size w0
  sz : d0.size < 4611686018427387904
structure SortL (iv : α → Int × Int) (g : Nat) (cb : Array Value) (key : α → Int) (d0 : Array α) (w0 : World) (blk off : Nat) : Prop where
  eg : ∀ args w, (callFunc g args).run Tryd.prog w = .ok (.enter g args) w
  R : RowK (encL iv) 2 w0 blk off d0
  cmp : CmpLays Tryd.prog g cb (encL iv) 2 (fun x y => Lib.compareInt (key x) (key y)) blk off d0.size w0
  sz : d0.size < 4611686018427387904
abbrev SWI (iv : α → Int) (w0 : World) (blk off : Nat) (d : Array α) (w : World) : Prop := SW (encI iv) w0 blk off d w
abbrev SWL (iv : α → Int × Int) (w0 : World) (blk off : Nat) (d : Array α) (w : World) : Prop := SWK (encL iv) 2 w0 blk off d w
omit [Inhabited α] in
theorem lt_key (key : α → Int) (x y : α) : ltOf (fun x y => Lib.compareInt (key x) (key y)) x y = decide (key x < key y) := by
  unfold ltOf Lib.compareInt
  dsimp only
  split <;> rename_i h
  · simp [h]
  · split <;> simp [h] <;> omega

theorem insRawI {iv : α → Int} {g : Nat} {cb : Array Value} {key : α → Int} {d0 : Array α} {w0 : World} {blk off : Nat} (H : SortI iv g cb key d0 w0 blk off) {d : Array α} {w : World} (hs : d.size = d0.size) (S : SWI iv w0 blk off d w) (cap : Nat) {a b : Nat} (hab : a ≤ b) (hb : b ≤ d.size) :
    Calls Tryd.prog 133 #[.slice (some ⟨blk, off, none⟩) d.size cap, .int .i64 a, .int .i64 b, .func (.func g) #[] cb] w fun e w' => e = .returned (.tuple #[]) ∧
      SWI iv w0 blk off (insertionSort (ltOf fun x y => Lib.compareInt (key x) (key y)) d a b) w' :=
  Any.insertionSortCmpFunc_s (ρ := lF_ren) lF (encI iv) _ g cb blk off cap a b d0 d w0 w H.eg H.cmp H.R hs.symm S hab hb (hs ▸ H.sz)
theorem insRawL {iv : α → Int × Int} {g : Nat} {cb : Array Value} {key : α → Int} {d0 : Array α} {w0 : World} {blk off : Nat} (H : SortL iv g cb key d0 w0 blk off) {d : Array α} {w : World} (hs : d.size = d0.size) (S : SWL iv w0 blk off d w) (cap : Nat) {a b : Nat} (hab : a ≤ b) (hb : b ≤ d.size) :
    Calls Tryd.prog 136 #[.slice (some ⟨blk, off, none⟩) d.size cap, .int .i64 a, .int .i64 b, .func (.func g) #[] cb] w fun e w' => e = .returned (.tuple #[]) ∧
      SWL iv w0 blk off (insertionSort (ltOf fun x y => Lib.compareInt (key x) (key y)) d a b) w' :=
  AnyQ.insertionSortCmpFunc_w (ρ := lK_ren) lK 2 Tryd.isAgg56 Tryd.sizeOf56 (encL iv) _ g cb blk off cap a b d0 d w0 w H.eg H.cmp H.R hs.symm S (swo_key (lt_key key)) hab hb (hs ▸ H.sz)

theorem insertionI {iv : α → Int} {g : Nat} {cb : Array Value} {key : α → Int} {d0 : Array α} {w0 : World} {blk off : Nat} (H : SortI iv g cb key d0 w0 blk off) {d : Array α} {w : World} (hs : d.size = d0.size) (S : SWI iv w0 blk off d w) (cap : Nat) {a b : Nat} (hab : a ≤ b) (hb : b ≤ d.size) :
    Calls Tryd.prog 133 #[.slice (some ⟨blk, off, none⟩) d.size cap, .int .i64 a, .int .i64 b, .func (.func g) #[] cb] w fun e w' => e = .returned (.tuple #[]) ∧
      ∃ d' : Array α, d'.size = d.size ∧ StabF key a b (fa d) (fa d') ∧ SortF key a b (fa d') ∧ SWI iv w0 blk off d' w' := by
  have hi := insertion_stab (lt_key key) d hab hb
  refine (insRawI H hs S cap hab hb).mono ?_
  rintro e w' ⟨rfl, h⟩
  exact ⟨rfl, _, hi.1, hi.2.1, hi.2.2, h⟩
theorem insertionL {iv : α → (Int×Int)} {g : Nat} {cb : Array Value} {key : α → Int} {d0 : Array α} {w0 : World} {blk off : Nat} (H : SortL iv g cb key d0 w0 blk off) {d : Array α} {w : World} (hs : d.size = d0.size) (S : SWL iv w0 blk off d w) (cap : Nat) {a b : Nat} (hab : a ≤ b) (hb : b ≤ d.size) :
    Calls Tryd.prog 136 #[.slice (some ⟨blk, off, none⟩) d.size cap, .int .i64 a, .int .i64 b, .func (.func g) #[] cb] w fun e w' => e = .returned (.tuple #[]) ∧
      ∃ d' : Array α, d'.size = d.size ∧ StabF key a b (fa d) (fa d') ∧ SortF key a b (fa d') ∧ SWL iv w0 blk off d' w' := by
  have hi := insertion_stab (lt_key key) d hab hb
  refine (insRawL H hs S cap hab hb).mono ?_
  rintro e w' ⟨rfl, h⟩
  exact ⟨rfl, _, hi.1, hi.2.1, hi.2.2, h⟩
end Go.Proofs.YtnnmakkbnfckmaaDoor
