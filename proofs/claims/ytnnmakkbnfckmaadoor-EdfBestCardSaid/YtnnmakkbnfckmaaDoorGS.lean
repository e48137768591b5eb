/- My own texts S0, S1, S2, S3, S4 in one. -/
import Derived.Test.YtnnmakkbnfckmaaDoorGP
import Derived.Test.YtnnmakkbnfckmaaDoorGA
import Derived.Shelf.SlSortCmp.Insertion1
import Derived.Shelf.SlSortCmp.PdqK
import Derived.Sort.WalkB2
import Derived.Sort.WalkB12
import Derived.Deep.LoopGhost
/- The insertion sort of Go's library, as the shelf has it, at a row of ints and at a row of pairs: each class in its order, all by the number. -/
namespace Go.Proofs.YtnnmakkbnfckmaaDoor
open Go.RowKit Go.Shelf Go.Sort Go.Lib

def lF_ren : Go.Shelf.Ren := ⟨fun | 20 => 133 | n => n, fun | 0 => 0 | 3 => 3 | 4 => 4 | 22 => 39 | 24 => 3 | 25 => 88 | n => n, fun n => n⟩
theorem lF : SlLaysF.n20 Tryd.prog lF_ren := {
  mixed := by kernel_rfl
  f20 := ⟨Tryd.f133.name, by decide, Tryd.func133.trans (congrArg some (by kernel_rfl))⟩
  t0 := Tryd.underlying0
  a0 := Tryd.isAgg0
  z0 := Tryd.sizeOf0
  v0 := Tryd.zeroValue0
  t3 := Tryd.underlying3
  a3 := Tryd.isAgg3
  z3 := Tryd.sizeOf3
  v3 := Tryd.zeroValue3
  t4 := Tryd.underlying4
  a4 := Tryd.isAgg4
  z4 := Tryd.sizeOf4
  v4 := Tryd.zeroValue4
  t22 := Tryd.underlying39
  a22 := Tryd.isAgg39
  z22 := Tryd.sizeOf39
  v22 := Tryd.zeroValue39
  a24 := Tryd.isAgg3
  z24 := Tryd.sizeOf3
  t25 := Tryd.underlying88
  a25 := Tryd.isAgg88
  z25 := Tryd.sizeOf88
  v25 := Tryd.zeroValue88 }
def lK_ren : Go.Shelf.Ren := ⟨fun | 20 => 136 | n => n, fun | 0 => 0 | 3 => 3 | 4 => 4 | 22 => 44 | 24 => 56 | 25 => 91 | n => n, fun n => n⟩
theorem lK : SlLaysF0.n20 Tryd.prog lK_ren := {
  mixed := by kernel_rfl
  f20 := ⟨Tryd.f136.name, by decide, Tryd.func136.trans (congrArg some (by kernel_rfl))⟩
  t0 := Tryd.underlying0
  a0 := Tryd.isAgg0
  z0 := Tryd.sizeOf0
  v0 := Tryd.zeroValue0
  t3 := Tryd.underlying3
  a3 := Tryd.isAgg3
  z3 := Tryd.sizeOf3
  v3 := Tryd.zeroValue3
  t4 := Tryd.underlying4
  a4 := Tryd.isAgg4
  z4 := Tryd.sizeOf4
  v4 := Tryd.zeroValue4
  t22 := Tryd.underlying44
  a22 := Tryd.isAgg44
  z22 := Tryd.sizeOf44
  v22 := Tryd.zeroValue44
  t25 := Tryd.underlying91
  a25 := Tryd.isAgg91
  z25 := Tryd.sizeOf91
  v25 := Tryd.zeroValue91 }

/-! ### A row of ints, a row of pairs: the worlds of a sort -/
variable {α : Type} [Inhabited α]
abbrev encI (iv : α → Int) (x : α) : Value := .int .i64 (iv x)
def encL (iv : α → Int × Int) (x : α) : List Value := pairC (iv x)
/-- What a sort is told: of the row, of what compares, of the number that it goes by. -/
structure SortI (iv : α → Int) (g : Nat) (cb : Array Value) (key : α → Int) (d0 : Array α) (w0 : World) (blk off : Nat) : Prop where
  eg : ∀ args w, (callFunc g args).run Tryd.prog w = .ok (.enter g args) w
  R : Row1 (encI iv) w0 blk off d0
  cmp : CmpLays1 Tryd.prog g cb (encI iv) (fun x y => Lib.compareInt (key x) (key y)) blk off d0.size w0
  sz : d0.size < 4611686018427387904
structure SortL (iv : α → Int × Int) (g : Nat) (cb : Array Value) (key : α → Int) (d0 : Array α) (w0 : World) (blk off : Nat) : Prop where
  eg : ∀ args w, (callFunc g args).run Tryd.prog w = .ok (.enter g args) w
  R : RowK (encL iv) 2 w0 blk off d0
  cmp : CmpLays Tryd.prog g cb (encL iv) 2 (fun x y => Lib.compareInt (key x) (key y)) blk off d0.size w0
  sz : d0.size < 4611686018427387904
abbrev SWI (iv : α → Int) (w0 : World) (blk off : Nat) (d : Array α) (w : World) : Prop := SW (encI iv) w0 blk off d w
abbrev SWL (iv : α → Int × Int) (w0 : World) (blk off : Nat) (d : Array α) (w : World) : Prop := SWK (encL iv) 2 w0 blk off d w
omit [Inhabited α] in
theorem lt_key (key : α → Int) (x y : α) : ltOf (fun x y => Lib.compareInt (key x) (key y)) x y = decide (key x < key y) := by
  unfold ltOf Lib.compareInt
  dsimp only
  split <;> rename_i h
  · simp [h]
  · split <;> simp [h] <;> omega

theorem insRawI {iv : α → Int} {g : Nat} {cb : Array Value} {key : α → Int} {d0 : Array α} {w0 : World} {blk off : Nat} (H : SortI iv g cb key d0 w0 blk off) {d : Array α} {w : World} (hs : d.size = d0.size) (S : SWI iv w0 blk off d w) (cap : Nat) {a b : Nat} (hab : a ≤ b) (hb : b ≤ d.size) :
    Calls Tryd.prog 133 #[.slice (some ⟨blk, off, none⟩) d.size cap, .int .i64 a, .int .i64 b, .func (.func g) #[] cb] w fun e w' => e = .returned (.tuple #[]) ∧
      SWI iv w0 blk off (insertionSort (ltOf fun x y => Lib.compareInt (key x) (key y)) d a b) w' :=
  Any.insertionSortCmpFunc_s (ρ := lF_ren) lF (encI iv) _ g cb blk off cap a b d0 d w0 w H.eg H.cmp H.R hs.symm S hab hb (hs ▸ H.sz)
theorem insRawL {iv : α → Int × Int} {g : Nat} {cb : Array Value} {key : α → Int} {d0 : Array α} {w0 : World} {blk off : Nat} (H : SortL iv g cb key d0 w0 blk off) {d : Array α} {w : World} (hs : d.size = d0.size) (S : SWL iv w0 blk off d w) (cap : Nat) {a b : Nat} (hab : a ≤ b) (hb : b ≤ d.size) :
    Calls Tryd.prog 136 #[.slice (some ⟨blk, off, none⟩) d.size cap, .int .i64 a, .int .i64 b, .func (.func g) #[] cb] w fun e w' => e = .returned (.tuple #[]) ∧
      SWL iv w0 blk off (insertionSort (ltOf fun x y => Lib.compareInt (key x) (key y)) d a b) w' :=
  AnyQ.insertionSortCmpFunc_w (ρ := lK_ren) lK 2 Tryd.isAgg56 Tryd.sizeOf56 (encL iv) _ g cb blk off cap a b d0 d w0 w H.eg H.cmp H.R hs.symm S (swo_key (lt_key key)) hab hb (hs ▸ H.sz)

theorem insertionI {iv : α → Int} {g : Nat} {cb : Array Value} {key : α → Int} {d0 : Array α} {w0 : World} {blk off : Nat} (H : SortI iv g cb key d0 w0 blk off) {d : Array α} {w : World} (hs : d.size = d0.size) (S : SWI iv w0 blk off d w) (cap : Nat) {a b : Nat} (hab : a ≤ b) (hb : b ≤ d.size) :
    Calls Tryd.prog 133 #[.slice (some ⟨blk, off, none⟩) d.size cap, .int .i64 a, .int .i64 b, .func (.func g) #[] cb] w fun e w' => e = .returned (.tuple #[]) ∧
      ∃ d' : Array α, d'.size = d.size ∧ StabF key a b (fa d) (fa d') ∧ SortF key a b (fa d') ∧ SWI iv w0 blk off d' w' := by
  have hi := insertion_stab (lt_key key) d hab hb
  refine (insRawI H hs S cap hab hb).mono ?_
  rintro e w' ⟨rfl, h⟩
  exact ⟨rfl, _, hi.1, hi.2.1, hi.2.2, h⟩
theorem insertionL {iv : α → (Int×Int)} {g : Nat} {cb : Array Value} {key : α → Int} {d0 : Array α} {w0 : World} {blk off : Nat} (H : SortL iv g cb key d0 w0 blk off) {d : Array α} {w : World} (hs : d.size = d0.size) (S : SWL iv w0 blk off d w) (cap : Nat) {a b : Nat} (hab : a ≤ b) (hb : b ≤ d.size) :
    Calls Tryd.prog 136 #[.slice (some ⟨blk, off, none⟩) d.size cap, .int .i64 a, .int .i64 b, .func (.func g) #[] cb] w fun e w' => e = .returned (.tuple #[]) ∧
      ∃ d' : Array α, d'.size = d.size ∧ StabF key a b (fa d) (fa d') ∧ SortF key a b (fa d') ∧ SWL iv w0 blk off d' w' := by
  have hi := insertion_stab (lt_key key) d hab hb
  refine (insRawL H hs S cap hab hb).mono ?_
  rintro e w' ⟨rfl, h⟩
  exact ⟨rfl, _, hi.1, hi.2.1, hi.2.2, h⟩
end Go.Proofs.YtnnmakkbnfckmaaDoor
/- What the library's stable sort calls on a row of ints: the change of two stretches, the turn of two blocks. -/
namespace Go.Proofs.YtnnmakkbnfckmaaDoor
open Go.RowKit Go.Shelf Go.Sort Go.Lib
variable {α : Type} [Inhabited α]

/-- The two cells of a pair of a row. -/
theorem cellsL {iv : α → Int × Int} {d0 dk : Array α} {w0 W : World} {blk off : Nat} (S : SWL iv w0 blk off dk W) (R : RowK (encL iv) 2 w0 blk off d0) (hs : dk.size = d0.size) (i : Nat) (hi : i < dk.size) :
    W.cell? ⟨blk, off + i * 2, none⟩ = some (.int .i64 (iv dk[i]!).1) ∧ W.cell? ⟨blk, off + i * 2 + 1, none⟩ = some (.int .i64 (iv dk[i]!).2) ∧ W.frozen? ⟨blk, off + i * 2, none⟩ = false ∧ W.frozen? ⟨blk, off + i * 2 + 1, none⟩ = false := by
  have h := S.holds R.hblk R.hH hs
  have hc := HoldsK.cells h R.hk hi
  have hz := rowK_bnd dk 2 i hi
  have hf : (flatK (encL iv) 2 dk).size = dk.size * 2 := size_flatK ..
  refine ⟨hc 0 _ rfl, hc 1 _ rfl, (h (i * 2) (by omega)).2, ?_⟩
  have := (h (i * 2 + 1) (by omega)).2
  rwa [← Nat.add_assoc] at this
theorem storesL {W : World} {blk p q : Nat} {x y : Int × Int} {v0 v1 u0 u1 : Value} (ca : W.cell? ⟨blk, p, none⟩ = some v0) (ca1 : W.cell? ⟨blk, p + 1, none⟩ = some v1) (cc : W.cell? ⟨blk, q, none⟩ = some u0) (cc1 : W.cell? ⟨blk, q + 1, none⟩ = some u1) (h : p + 1 < q ∨ q + 1 < p) :
    (W.setCell ⟨blk, p, none⟩ (.int .i64 y.1)).cell? ⟨blk, p + 1, none⟩ = some v1 ∧
    ((W.setCell ⟨blk, p, none⟩ (.int .i64 y.1)).setCell ⟨blk, p + 1, none⟩ (.int .i64 y.2)).cell? ⟨blk, q, none⟩ = some u0 ∧
    (((W.setCell ⟨blk, p, none⟩ (.int .i64 y.1)).setCell ⟨blk, p + 1, none⟩ (.int .i64 y.2)).setCell ⟨blk, q, none⟩ (.int .i64 x.1)).cell? ⟨blk, q + 1, none⟩ = some u1 := by
  have ne : ∀ i j : Nat, i ≠ j → (⟨blk, i, none⟩ : Addr) ≠ ⟨blk, j, none⟩ := fun i j hn e => hn (by injection e)
  refine ⟨?_, ?_, ?_⟩
  · rw [World.cell?_setCell_other _ _ _ _ (ne _ _ (by omega))]; exact ca1
  · rw [World.cell?_setCell_other _ _ _ _ (ne _ _ (by omega)), World.cell?_setCell_other _ _ _ _ (ne _ _ (by omega))]; exact cc
  · rw [World.cell?_setCell_other _ _ _ _ (ne _ _ (by omega)), World.cell?_setCell_other _ _ _ _ (ne _ _ (by omega)), World.cell?_setCell_other _ _ _ _ (ne _ _ (by omega))]; exact cc1
theorem swapF_step {d dk : Array α} {a b k : Nat} (h : fa dk = swapF (fa d) a b k) (hab : a + k < b) (hs : dk.size = d.size) (hb : b + k < d.size) : fa (swp dk (a + k) (b + k)) = swapF (fa d) a b (k + 1) := by
  funext x
  rw [fa_swp dk (by omega) (by omega), h]
  unfold swapF
  repeat' split
  all_goals first | rfl | omega | (congr 1; omega)

set_option maxHeartbeats 16000000 in
set_option maxRecDepth 1000000 in
theorem swapRangeI {iv : α → Int} {g : Nat} {cb : Array Value} {key : α → Int} {d0 : Array α} {w0 : World} {blk off : Nat} (H : SortI iv g cb key d0 w0 blk off) {d : Array α} {w : World} (hs : d.size = d0.size) (S : SWI iv w0 blk off d w) (cap : Nat) (fv : Value) {a b n : Nat} (hab : a + n ≤ b) (hb : b + n ≤ d.size) :
    Calls Tryd.prog 148 #[.slice (some ⟨blk, off, none⟩) d.size cap, .int .i64 a, .int .i64 b, .int .i64 n, fv] w fun e w' => e = .returned (.tuple #[]) ∧
      ∃ d' : Array α, d'.size = d.size ∧ fa d' = swapF (fa d) a b n ∧ SWI iv w0 blk off d' w' := by
  have hz : d.size < 4611686018427387904 := hs ▸ H.sz
  have hd0 : d0.size = d.size := hs.symm
  have R := H.R
  have RR : Hid (∀ x : Nat, x = d.size → x = d0.size) := fun x e => e.trans hs
  clear hs hd0
  have mixed : Tryd.prog.follows .mixedOrders = true := by kernel_rfl
  have S0 : Aside (SW (encI iv) w0 blk off d w) := S
  clear S
  go_enter Tryd.func148, Tryd.ntmps148
  go_wp2
  go_loopg [10] n (fun gk v wr => ∃ (k : Nat) (dk : Array α), v = .int .i64 k ∧ k ≤ n ∧ n - k ≤ gk ∧ dk.size = d.size ∧ Hid (fa dk = swapF (fa d) a b k) ∧ Aside (SW (encI iv) w0 blk off dk wr))
  case atStart => exact ⟨0, d, by go_num, by omega, by omega, rfl, (show _ = _ from by funext x; unfold swapF; (repeat' split); all_goals (first | rfl | omega)), S0⟩
  case round =>
    clear S0
    obtain ⟨k, dk, rfl, hk, hg, hsk, HF, S1⟩ := hrel
    by_cases hlt : k < n
    · have hltz : (k : Int) < (n : Int) := by omega
      obtain ⟨iN, hiN⟩ : ∃ q, q = a + k := ⟨_, rfl⟩
      obtain ⟨jN, hjN⟩ : ∃ q, q = b + k := ⟨_, rfl⟩
      have ea : ((a : Int) + (k : Int)).toNat = iN := by omega
      have pa : (0 : Int) ≤ (a : Int) + (k : Int) := by omega
      have ba : (a : Int) + (k : Int) < (d.size : Int) := by omega
      have ra : IntKind.i64.wrap ((a : Int) + (k : Int)) = (a : Int) + (k : Int) := by rw [IntKind.wrap_i64]; omega
      have ec : ((b : Int) + (k : Int)).toNat = jN := by omega
      have pc : (0 : Int) ≤ (b : Int) + (k : Int) := by omega
      have bc : (b : Int) + (k : Int) < (d.size : Int) := by omega
      have rc : IntKind.i64.wrap ((b : Int) + (k : Int)) = (b : Int) + (k : Int) := by rw [IntKind.wrap_i64]; omega
      obtain ⟨x, hx⟩ : ∃ x, x = dk[a + k]! := ⟨_, rfl⟩
      obtain ⟨y, hy⟩ : ∃ x, x = dk[b + k]! := ⟨_, rfl⟩
      have S3 : Aside (SW (encI iv) w0 blk off (swp dk (a + k) (b + k)) ((wr.setCell ⟨blk, off + iN, none⟩ (encI iv y)).setCell ⟨blk, off + jN, none⟩ (encI iv x)).drew) := by rw [hiN, hjN, hx, hy]; exact S1.out.swapped R (a + k) (b + k) (by omega) (by omega)
      have ca := S1.out.c1 R (RR.out _ hsk) (a + k) (by omega)
      have cc := S1.out.c1 R (RR.out _ hsk) (b + k) (by omega)
      have fa1 := S1.out.f1 R (RR.out _ hsk) (a + k) (by omega)
      have fc1 := S1.out.f1 R (RR.out _ hsk) (b + k) (by omega)
      obtain ⟨u, cu⟩ := S1.out.c2 R (RR.out _ hsk) (a + k) (b + k) (by omega) (by omega) (encI iv y)
      rw [← hjN, ← hiN] at cu
      rw [← hx, ← hiN] at ca
      rw [← hy, ← hjN] at cc
      rw [← hiN] at fa1
      rw [← hjN] at fc1
      clear S1 hx hy hiN hjN
      go_wp2_with fail
      go_big_region_o
      clear ca cc cu fa1 fc1
      generalize ((wr.setCell ⟨blk, off + iN, none⟩ (encI iv y)).setCell ⟨blk, off + jN, none⟩ (encI iv x)).drew = w3 at S3 ⊢
      clear ea ec
      go_wp2
      go_roundg (n - (k + 1))
      case measure => omega
      case rel => exact ⟨k + 1, swp dk (a + k) (b + k), by go_num, by omega, by omega, by rw [size_swp]; exact hsk, (show _ = _ from swapF_step HF.out (by omega) hsk (by omega)), S3⟩
    · have hltz : ¬ (k : Int) < (n : Int) := by omega
      have : k = n := by omega
      subst this
      go_wp2
      go_end0
      exact ⟨rfl, dk, hsk, HF.out, S1.out⟩

set_option maxHeartbeats 16000000 in
set_option maxRecDepth 1000000 in
theorem swapRangeL {iv : α → Int × Int} {g : Nat} {cb : Array Value} {key : α → Int} {d0 : Array α} {w0 : World} {blk off : Nat} (H : SortL iv g cb key d0 w0 blk off) {d : Array α} {w : World} (hs : d.size = d0.size) (S : SWL iv w0 blk off d w) (cap : Nat) (fv : Value) {a b n : Nat} (hab : a + n ≤ b) (hb : b + n ≤ d.size) :
    Calls Tryd.prog 149 #[.slice (some ⟨blk, off, none⟩) d.size cap, .int .i64 a, .int .i64 b, .int .i64 n, fv] w fun e w' => e = .returned (.tuple #[]) ∧
      ∃ d' : Array α, d'.size = d.size ∧ fa d' = swapF (fa d) a b n ∧ SWL iv w0 blk off d' w' := by
  have hz : d.size < 4611686018427387904 := hs ▸ H.sz
  have hd0 : d0.size = d.size := hs.symm
  have R := H.R
  have RR : Hid (∀ x : Nat, x = d.size → x = d0.size) := fun x e => e.trans hs
  clear hs hd0
  have mixed : Tryd.prog.follows .mixedOrders = true := by kernel_rfl
  have S0 : Aside (SWK (encL iv) 2 w0 blk off d w) := S
  clear S
  go_enter Tryd.func149, Tryd.ntmps149
  go_wp2
  go_loopg [10] n (fun gk v wr => ∃ (k : Nat) (dk : Array α), v = .int .i64 k ∧ k ≤ n ∧ n - k ≤ gk ∧ dk.size = d.size ∧ Hid (fa dk = swapF (fa d) a b k) ∧ Aside (SWK (encL iv) 2 w0 blk off dk wr))
  case atStart => exact ⟨0, d, by go_num, by omega, by omega, rfl, (show _ = _ from by funext x; unfold swapF; (repeat' split); all_goals (first | rfl | omega)), S0⟩
  case round =>
    clear S0
    obtain ⟨k, dk, rfl, hk, hg, hsk, HF, S1⟩ := hrel
    by_cases hlt : k < n
    · have hltz : (k : Int) < (n : Int) := by omega
      obtain ⟨iN, hiN⟩ : ∃ q, q = a + k := ⟨_, rfl⟩
      obtain ⟨jN, hjN⟩ : ∃ q, q = b + k := ⟨_, rfl⟩
      have ea : ((a : Int) + (k : Int)).toNat = iN := by omega
      have pa : (0 : Int) ≤ (a : Int) + (k : Int) := by omega
      have ba : (a : Int) + (k : Int) < (d.size : Int) := by omega
      have ra : IntKind.i64.wrap ((a : Int) + (k : Int)) = (a : Int) + (k : Int) := by rw [IntKind.wrap_i64]; omega
      have ec : ((b : Int) + (k : Int)).toNat = jN := by omega
      have pc : (0 : Int) ≤ (b : Int) + (k : Int) := by omega
      have bc : (b : Int) + (k : Int) < (d.size : Int) := by omega
      have rc : IntKind.i64.wrap ((b : Int) + (k : Int)) = (b : Int) + (k : Int) := by rw [IntKind.wrap_i64]; omega
      obtain ⟨x, hx⟩ : ∃ x, x = dk[a + k]! := ⟨_, rfl⟩
      obtain ⟨y, hy⟩ : ∃ x, x = dk[b + k]! := ⟨_, rfl⟩
      have S3 : Aside (SWK (encL iv) 2 w0 blk off (swp dk (a + k) (b + k)) ((wr.drew.setCells blk (off + iN * 2) (encL iv y)).setCells blk (off + jN * 2) (encL iv x))) := by rw [hiN, hjN, hx, hy]; exact S1.out.swapped R (a + k) (b + k) (by omega) (by omega)
      obtain ⟨ca, ca1, fa1, fa2⟩ := cellsL S1.out R (RR.out _ hsk) (a + k) (by omega)
      obtain ⟨cc, cc1, fc1, fc2⟩ := cellsL S1.out R (RR.out _ hsk) (b + k) (by omega)
      have hne : iN * 2 + 1 < jN * 2 := by omega
      rw [← hx, ← hiN] at ca ca1
      rw [← hy, ← hjN] at cc cc1
      rw [← hiN] at fa1 fa2
      rw [← hjN] at fc1 fc2
      obtain ⟨e1, e2, e3⟩ := storesL (x := iv x) (y := iv y) ca ca1 cc cc1 (by omega)
      have S3 : Aside (SWK (encL iv) 2 w0 blk off (swp dk (a + k) (b + k)) ((((wr.setCell ⟨blk, off + iN * 2, none⟩ (.int .i64 (iv y).1)).setCell ⟨blk, off + iN * 2 + 1, none⟩ (.int .i64 (iv y).2)).setCell ⟨blk, off + jN * 2, none⟩ (.int .i64 (iv x).1)).setCell ⟨blk, off + jN * 2 + 1, none⟩ (.int .i64 (iv x).2)).drew) := S3
      clear S1 hx hy hiN hjN
      go_wp2_with fail
      go_big_region_o
      clear ca cc ca1 cc1 fa1 fa2 fc1 fc2 e1 e2 e3
      generalize ((((wr.setCell ⟨blk, off + iN * 2, none⟩ (.int .i64 (iv y).1)).setCell ⟨blk, off + iN * 2 + 1, none⟩ (.int .i64 (iv y).2)).setCell ⟨blk, off + jN * 2, none⟩ (.int .i64 (iv x).1)).setCell ⟨blk, off + jN * 2 + 1, none⟩ (.int .i64 (iv x).2)).drew = w3 at S3 ⊢
      clear ea ec
      go_wp2
      go_roundg (n - (k + 1))
      case measure => omega
      case rel => exact ⟨k + 1, swp dk (a + k) (b + k), by go_num, by omega, by omega, by rw [size_swp]; exact hsk, (show _ = _ from swapF_step HF.out (by omega) hsk (by omega)), S3⟩
    · have hltz : ¬ (k : Int) < (n : Int) := by omega
      have : k = n := by omega
      subst this
      go_wp2
      go_end0
      exact ⟨rfl, dk, hsk, HF.out, S1.out⟩

end Go.Proofs.YtnnmakkbnfckmaaDoor
/- What the library's stable sort calls: the turn of two neighbouring blocks, at a row of ints and at a row of pairs. -/
namespace Go.Proofs.YtnnmakkbnfckmaaDoor
open Go.RowKit Go.Shelf Go.Sort Go.Lib
variable {α : Type} [Inhabited α]

set_option maxHeartbeats 16000000 in
set_option maxRecDepth 1000000 in
theorem rotateI {iv : α → Int} {g : Nat} {cb : Array Value} {key : α → Int} {d0 : Array α} {w0 : World} {blk off : Nat} (H : SortI iv g cb key d0 w0 blk off) {d : Array α} {w : World} (hs : d.size = d0.size) (S : SWI iv w0 blk off d w) (cap : Nat) (fv : Value) {a m b : Nat} (ham : a < m) (hmb : m < b) (hb : b ≤ d.size) :
    Calls Tryd.prog 143 #[.slice (some ⟨blk, off, none⟩) d.size cap, .int .i64 a, .int .i64 m, .int .i64 b, fv] w fun e w' => e = .returned (.tuple #[]) ∧
      ∃ d' : Array α, d'.size = d.size ∧ fa d' = rotF (fa d) a m b ∧ SWI iv w0 blk off d' w' := by
  have hz : d.size < 4611686018427387904 := hs ▸ H.sz
  have SWP : Hid (∀ (dk : Array α) (W : World) (a b n : Nat), dk.size = d.size → SWI iv w0 blk off dk W → a + n ≤ b → b + n ≤ d.size → Calls Tryd.prog 148 #[.slice (some ⟨blk, off, none⟩) d.size cap, .int .i64 a, .int .i64 b, .int .i64 n, fv] W fun e w' => e = .returned (.tuple #[]) ∧ ∃ d' : Array α, d'.size = d.size ∧ fa d' = swapF (fa dk) a b n ∧ SWI iv w0 blk off d' w') := fun dk W a b n h1 h2 h3 h4 => by
    have := swapRangeI H (h1.trans hs) h2 cap fv h3 (by omega)
    rwa [h1] at this
  clear hs
  have mixed : Tryd.prog.follows .mixedOrders = true := by kernel_rfl
  have S0 : Aside (SWI iv w0 blk off d w) := S
  clear S
  have r1 : IntKind.i64.wrap ((m : Int) - (a : Int)) = (m : Int) - (a : Int) := by rw [IntKind.wrap_i64]; omega
  have r2 : IntKind.i64.wrap ((b : Int) - (m : Int)) = (b : Int) - (m : Int) := by rw [IntKind.wrap_i64]; omega
  go_enter Tryd.func143, Tryd.ntmps143
  go_wp2
  go_loopg [10, 11] (b - a) (fun gk vi vj wr => ∃ (i j : Nat) (dk : Array α), vi = .int .i64 i ∧ vj = .int .i64 j ∧ 0 < i ∧ 0 < j ∧ i ≤ m - a ∧ j ≤ b - m ∧ i + j ≤ gk ∧ dk.size = d.size ∧ Hid (∀ x, rotF (fa dk) (m - i) m (m + j) x = rotF (fa d) a m b x) ∧ Aside (SWI iv w0 blk off dk wr))
  case atStart => exact ⟨m - a, b - m, d, by congr 1; omega, by congr 1; omega, by omega, by omega, by omega, by omega, by omega, rfl, (show ∀ x, _ from fun x => by rw [show m - (m - a) = a by omega, show m + (b - m) = b by omega]), S0⟩
  case round =>
    clear S0 r1 r2
    obtain ⟨i, j, dk, rfl, rfl, hi0, hj0, hi, hj, hg, hsk, HF, S1⟩ := hrel
    have r3 : IntKind.i64.wrap ((m : Int) - (i : Int)) = (m : Int) - (i : Int) := by rw [IntKind.wrap_i64]; omega
    have n3 : (m : Int) - (i : Int) = ((m - i : Nat) : Int) := by omega
    by_cases hij : i = j
    · subst hij
      have hc := SWP.out dk wr (m - i) m i hsk S1.out (by omega) (by omega)
      rw [← n3] at hc
      clear n3
      go_wp2_with (go_at_call 148; with_reducible refine hc.mono ?_; rintro e w1 ⟨rfl, d', h1, h2, h3⟩)
      go_end0
      exact ⟨rfl, d', h1, by rw [h2]; funext x; rw [rot_swap_eq _ (by omega)]; exact HF.out x, h3⟩
    · have hijz : ¬ (i : Int) = (j : Int) := by omega
      by_cases hgt : j < i
      · have hgtz : (j : Int) < (i : Int) := by omega
        have r4 : IntKind.i64.wrap ((i : Int) - (j : Int)) = (i : Int) - (j : Int) := by rw [IntKind.wrap_i64]; omega
        have hc := SWP.out dk wr (m - i) m j hsk S1.out (by omega) (by omega)
        rw [← n3] at hc
        clear n3
        go_wp2_with (go_at_call 148; with_reducible refine hc.mono ?_; rintro e w1 ⟨rfl, d', h1, h2, h3⟩)
        have S2 : Aside (SWI iv w0 blk off d' w1) := h3
        have HF2 : Hid (∀ x, rotF (fa d') (m - (i - j)) m (m + j) x = rotF (fa d) a m b x) := fun x => by rw [h2, rot_swap_lo _ hgt (by omega)]; exact HF.out x
        clear h2 h3 hc
        go_roundg (i - j + j)
        case measure => omega
        case rel => exact ⟨i - j, j, d', by congr 1; omega, rfl, by omega, by omega, by omega, by omega, by omega, h1, HF2, S2⟩
      · have hgtz : ¬ (j : Int) < (i : Int) := by omega
        have r5 : IntKind.i64.wrap ((m : Int) + (j : Int)) = (m : Int) + (j : Int) := by rw [IntKind.wrap_i64]; omega
        have r6 : IntKind.i64.wrap ((m : Int) + (j : Int) - (i : Int)) = (m : Int) + (j : Int) - (i : Int) := by rw [IntKind.wrap_i64]; omega
        have r7 : IntKind.i64.wrap ((j : Int) - (i : Int)) = (j : Int) - (i : Int) := by rw [IntKind.wrap_i64]; omega
        have n6 : (m : Int) + (j : Int) - (i : Int) = ((m + j - i : Nat) : Int) := by omega
        have hc := SWP.out dk wr (m - i) (m + j - i) i hsk S1.out (by omega) (by omega)
        rw [← n3, ← n6] at hc
        clear n3 n6
        go_wp2_with (go_at_call 148; with_reducible refine hc.mono ?_; rintro e w1 ⟨rfl, d', h1, h2, h3⟩)
        have S2 : Aside (SWI iv w0 blk off d' w1) := h3
        have HF2 : Hid (∀ x, rotF (fa d') (m - i) m (m + (j - i)) x = rotF (fa d) a m b x) := fun x => by rw [h2, rot_swap_hi _ (by omega) (by omega)]; exact HF.out x
        clear h2 h3 hc
        go_roundg (i + (j - i))
        case measure => omega
        case rel => exact ⟨i, j - i, d', rfl, by congr 1; omega, by omega, by omega, by omega, by omega, by omega, h1, HF2, S2⟩

set_option maxHeartbeats 16000000 in
set_option maxRecDepth 1000000 in
theorem rotateL {iv : α → (Int×Int)} {g : Nat} {cb : Array Value} {key : α → Int} {d0 : Array α} {w0 : World} {blk off : Nat} (H : SortL iv g cb key d0 w0 blk off) {d : Array α} {w : World} (hs : d.size = d0.size) (S : SWL iv w0 blk off d w) (cap : Nat) (fv : Value) {a m b : Nat} (ham : a < m) (hmb : m < b) (hb : b ≤ d.size) :
    Calls Tryd.prog 144 #[.slice (some ⟨blk, off, none⟩) d.size cap, .int .i64 a, .int .i64 m, .int .i64 b, fv] w fun e w' => e = .returned (.tuple #[]) ∧
      ∃ d' : Array α, d'.size = d.size ∧ fa d' = rotF (fa d) a m b ∧ SWL iv w0 blk off d' w' := by
  have hz : d.size < 4611686018427387904 := hs ▸ H.sz
  have SWP : Hid (∀ (dk : Array α) (W : World) (a b n : Nat), dk.size = d.size → SWL iv w0 blk off dk W → a + n ≤ b → b + n ≤ d.size → Calls Tryd.prog 149 #[.slice (some ⟨blk, off, none⟩) d.size cap, .int .i64 a, .int .i64 b, .int .i64 n, fv] W fun e w' => e = .returned (.tuple #[]) ∧ ∃ d' : Array α, d'.size = d.size ∧ fa d' = swapF (fa dk) a b n ∧ SWL iv w0 blk off d' w') := fun dk W a b n h1 h2 h3 h4 => by
    have := swapRangeL H (h1.trans hs) h2 cap fv h3 (by omega)
    rwa [h1] at this
  clear hs
  have mixed : Tryd.prog.follows .mixedOrders = true := by kernel_rfl
  have S0 : Aside (SWL iv w0 blk off d w) := S
  clear S
  have r1 : IntKind.i64.wrap ((m : Int) - (a : Int)) = (m : Int) - (a : Int) := by rw [IntKind.wrap_i64]; omega
  have r2 : IntKind.i64.wrap ((b : Int) - (m : Int)) = (b : Int) - (m : Int) := by rw [IntKind.wrap_i64]; omega
  go_enter Tryd.func144, Tryd.ntmps144
  go_wp2
  go_loopg [10, 11] (b - a) (fun gk vi vj wr => ∃ (i j : Nat) (dk : Array α), vi = .int .i64 i ∧ vj = .int .i64 j ∧ 0 < i ∧ 0 < j ∧ i ≤ m - a ∧ j ≤ b - m ∧ i + j ≤ gk ∧ dk.size = d.size ∧ Hid (∀ x, rotF (fa dk) (m - i) m (m + j) x = rotF (fa d) a m b x) ∧ Aside (SWL iv w0 blk off dk wr))
  case atStart => exact ⟨m - a, b - m, d, by congr 1; omega, by congr 1; omega, by omega, by omega, by omega, by omega, by omega, rfl, (show ∀ x, _ from fun x => by rw [show m - (m - a) = a by omega, show m + (b - m) = b by omega]), S0⟩
  case round =>
    clear S0 r1 r2
    obtain ⟨i, j, dk, rfl, rfl, hi0, hj0, hi, hj, hg, hsk, HF, S1⟩ := hrel
    have r3 : IntKind.i64.wrap ((m : Int) - (i : Int)) = (m : Int) - (i : Int) := by rw [IntKind.wrap_i64]; omega
    have n3 : (m : Int) - (i : Int) = ((m - i : Nat) : Int) := by omega
    by_cases hij : i = j
    · subst hij
      have hc := SWP.out dk wr (m - i) m i hsk S1.out (by omega) (by omega)
      rw [← n3] at hc
      clear n3
      go_wp2_with (go_at_call 149; with_reducible refine hc.mono ?_; rintro e w1 ⟨rfl, d', h1, h2, h3⟩)
      go_end0
      exact ⟨rfl, d', h1, by rw [h2]; funext x; rw [rot_swap_eq _ (by omega)]; exact HF.out x, h3⟩
    · have hijz : ¬ (i : Int) = (j : Int) := by omega
      by_cases hgt : j < i
      · have hgtz : (j : Int) < (i : Int) := by omega
        have r4 : IntKind.i64.wrap ((i : Int) - (j : Int)) = (i : Int) - (j : Int) := by rw [IntKind.wrap_i64]; omega
        have hc := SWP.out dk wr (m - i) m j hsk S1.out (by omega) (by omega)
        rw [← n3] at hc
        clear n3
        go_wp2_with (go_at_call 149; with_reducible refine hc.mono ?_; rintro e w1 ⟨rfl, d', h1, h2, h3⟩)
        have S2 : Aside (SWL iv w0 blk off d' w1) := h3
        have HF2 : Hid (∀ x, rotF (fa d') (m - (i - j)) m (m + j) x = rotF (fa d) a m b x) := fun x => by rw [h2, rot_swap_lo _ hgt (by omega)]; exact HF.out x
        clear h2 h3 hc
        go_roundg (i - j + j)
        case measure => omega
        case rel => exact ⟨i - j, j, d', by congr 1; omega, rfl, by omega, by omega, by omega, by omega, by omega, h1, HF2, S2⟩
      · have hgtz : ¬ (j : Int) < (i : Int) := by omega
        have r5 : IntKind.i64.wrap ((m : Int) + (j : Int)) = (m : Int) + (j : Int) := by rw [IntKind.wrap_i64]; omega
        have r6 : IntKind.i64.wrap ((m : Int) + (j : Int) - (i : Int)) = (m : Int) + (j : Int) - (i : Int) := by rw [IntKind.wrap_i64]; omega
        have r7 : IntKind.i64.wrap ((j : Int) - (i : Int)) = (j : Int) - (i : Int) := by rw [IntKind.wrap_i64]; omega
        have n6 : (m : Int) + (j : Int) - (i : Int) = ((m + j - i : Nat) : Int) := by omega
        have hc := SWP.out dk wr (m - i) (m + j - i) i hsk S1.out (by omega) (by omega)
        rw [← n3, ← n6] at hc
        clear n3 n6
        go_wp2_with (go_at_call 149; with_reducible refine hc.mono ?_; rintro e w1 ⟨rfl, d', h1, h2, h3⟩)
        have S2 : Aside (SWL iv w0 blk off d' w1) := h3
        have HF2 : Hid (∀ x, rotF (fa d') (m - i) m (m + (j - i)) x = rotF (fa d) a m b x) := fun x => by rw [h2, rot_swap_hi _ (by omega) (by omega)]; exact HF.out x
        clear h2 h3 hc
        go_roundg (i + (j - i))
        case measure => omega
        case rel => exact ⟨i, j - i, d', rfl, by congr 1; omega, by omega, by omega, by omega, by omega, by omega, h1, HF2, S2⟩

end Go.Proofs.YtnnmakkbnfckmaaDoor
/- The merge in place of the library's stable sort, where one of its two parts is one number alone. -/
namespace Go.Proofs.YtnnmakkbnfckmaaDoor
open Go.RowKit Go.Shelf Go.Sort Go.Lib
variable {α : Type} [Inhabited α]

theorem elI {iv : α → Int} {d0 dk : Array α} {w0 W : World} {blk off : Nat} (S : SWI iv w0 blk off dk W) (R : Row1 (encI iv) w0 blk off d0) (hs : dk.size = d0.size) (i : Nat) (hi : i < dk.size) (x : α) (hx : dk[i]! = x) :
    (∀ n os, (grow (W.drewN n) os).cell? ⟨blk, off + i, none⟩ = some (.int .i64 (iv x))) ∧ True := ⟨fun n os => by rw [← hx]; exact S.cl R hs i hi n os, trivial⟩
theorem elL {iv : α → Int × Int} {d0 dk : Array α} {w0 W : World} {blk off : Nat} (S : SWL iv w0 blk off dk W) (R : RowK (encL iv) 2 w0 blk off d0) (hs : dk.size = d0.size) (i : Nat) (hi : i < dk.size) (x : α) (hx : dk[i]! = x) :
    (∀ n os, (grow (W.drewN n) os).cell? ⟨blk, off + i * 2, none⟩ = some (.int .i64 (iv x).1)) ∧ (∀ n os, (grow (W.drewN n) os).cell? ⟨blk, off + i * 2 + 1, none⟩ = some (.int .i64 (iv x).2)) :=
  ⟨fun n os => by rw [← hx]; exact (cellsL (S.grown n os) R hs i hi).1, fun n os => by rw [← hx]; exact (cellsL (S.grown n os) R hs i hi).2.1⟩
theorem cmpI {iv : α → Int} {g : Nat} {cb : Array Value} {key : α → Int} {d0 dk : Array α} {w0 W : World} {blk off : Nat} (H : SortI iv g cb key d0 w0 blk off) (S : SWI iv w0 blk off dk W) (hs : dk.size = d0.size) (x y : α) (c : Int) (hc : Lib.compareInt (key x) (key y) = c) (n : Nat) (os : Array Obj) :
    Calls Tryd.prog g (#[.int .i64 (iv x), .int .i64 (iv y)] ++ cb) (grow (W.drewN n) os) fun e w' => e = .returned (.int .i64 c) ∧ ∃ q os', w' = grow ((grow (W.drewN n) os).drewN q) os' := by
  rw [← hc]; exact S.cmp H.cmp hs x y n os
theorem cmpL {iv : α → Int × Int} {g : Nat} {cb : Array Value} {key : α → Int} {d0 dk : Array α} {w0 W : World} {blk off : Nat} (H : SortL iv g cb key d0 w0 blk off) (S : SWL iv w0 blk off dk W) (hs : dk.size = d0.size) (x y : α) (c : Int) (hc : Lib.compareInt (key x) (key y) = c) (n : Nat) (os : Array Obj) :
    Calls Tryd.prog g (#[.agg #[.int .i64 (iv x).1, .int .i64 (iv x).2], .agg #[.int .i64 (iv y).1, .int .i64 (iv y).2]] ++ cb) (grow (W.drewN n) os) fun e w' => e = .returned (.int .i64 c) ∧ ∃ q os', w' = grow ((grow (W.drewN n) os).drewN q) os' := by
  rw [← hc]; exact S.cmp H.cmp hs x y n os
theorem cmp_lt {x y : Int} (c : Int) (h : Lib.compareInt x y = c) : (c < 0 ↔ x < y) := by
  subst h
  unfold Lib.compareInt
  split
  · simp [*]
  · split <;> simp <;> omega

theorem exI {iv : α → Int} {d0 dk : Array α} {w0 W : World} {blk off : Nat} (S : SWI iv w0 blk off dk W) (R : Row1 (encI iv) w0 blk off d0) (hs : dk.size = d0.size) (i j : Nat) (hi : i < dk.size) (hj : j < dk.size) (hij : i ≠ j) (iN jN : Nat) (hiN : iN = i) (hjN : jN = j) (x y : α) (hx : dk[i]! = x) (hy : dk[j]! = y) :
    W.cell? ⟨blk, off + iN, none⟩ = some (.int .i64 (iv x)) ∧ True ∧ W.cell? ⟨blk, off + jN, none⟩ = some (.int .i64 (iv y)) ∧ True ∧ W.frozen? ⟨blk, off + iN, none⟩ = false ∧ True ∧ W.frozen? ⟨blk, off + jN, none⟩ = false ∧ True ∧
    (W.setCell ⟨blk, off + iN, none⟩ (.int .i64 (iv y))).cell? ⟨blk, off + jN, none⟩ = some (.int .i64 (iv y)) ∧ True ∧ True ∧
    Aside (SWI iv w0 blk off (swp dk i j) ((W.setCell ⟨blk, off + iN, none⟩ (.int .i64 (iv y))).setCell ⟨blk, off + jN, none⟩ (.int .i64 (iv x))).drew) := by
  subst hiN hjN hx hy
  refine ⟨S.c1 R hs _ hi, trivial, S.c1 R hs _ hj, trivial, S.f1 R hs _ hi, trivial, S.f1 R hs _ hj, trivial, ?_, trivial, trivial, S.swapped R _ _ hi hj⟩
  rw [World.cell?_setCell_other _ _ _ _ (fun e => hij (by injection e; omega))]
  exact S.c1 R hs _ hj
theorem exL {iv : α → Int × Int} {d0 dk : Array α} {w0 W : World} {blk off : Nat} (S : SWL iv w0 blk off dk W) (R : RowK (encL iv) 2 w0 blk off d0) (hs : dk.size = d0.size) (i j : Nat) (hi : i < dk.size) (hj : j < dk.size) (hij : i ≠ j) (iN jN : Nat) (hiN : iN = i) (hjN : jN = j) (x y : α) (hx : dk[i]! = x) (hy : dk[j]! = y) :
    W.cell? ⟨blk, off + iN * 2, none⟩ = some (.int .i64 (iv x).1) ∧ W.cell? ⟨blk, off + iN * 2 + 1, none⟩ = some (.int .i64 (iv x).2) ∧ W.cell? ⟨blk, off + jN * 2, none⟩ = some (.int .i64 (iv y).1) ∧ W.cell? ⟨blk, off + jN * 2 + 1, none⟩ = some (.int .i64 (iv y).2) ∧
    W.frozen? ⟨blk, off + iN * 2, none⟩ = false ∧ W.frozen? ⟨blk, off + iN * 2 + 1, none⟩ = false ∧ W.frozen? ⟨blk, off + jN * 2, none⟩ = false ∧ W.frozen? ⟨blk, off + jN * 2 + 1, none⟩ = false ∧
    (W.setCell ⟨blk, off + iN * 2, none⟩ (.int .i64 (iv y).1)).cell? ⟨blk, off + iN * 2 + 1, none⟩ = some (.int .i64 (iv x).2) ∧
    ((W.setCell ⟨blk, off + iN * 2, none⟩ (.int .i64 (iv y).1)).setCell ⟨blk, off + iN * 2 + 1, none⟩ (.int .i64 (iv y).2)).cell? ⟨blk, off + jN * 2, none⟩ = some (.int .i64 (iv y).1) ∧
    (((W.setCell ⟨blk, off + iN * 2, none⟩ (.int .i64 (iv y).1)).setCell ⟨blk, off + iN * 2 + 1, none⟩ (.int .i64 (iv y).2)).setCell ⟨blk, off + jN * 2, none⟩ (.int .i64 (iv x).1)).cell? ⟨blk, off + jN * 2 + 1, none⟩ = some (.int .i64 (iv y).2) ∧
    Aside (SWL iv w0 blk off (swp dk i j) ((((W.setCell ⟨blk, off + iN * 2, none⟩ (.int .i64 (iv y).1)).setCell ⟨blk, off + iN * 2 + 1, none⟩ (.int .i64 (iv y).2)).setCell ⟨blk, off + jN * 2, none⟩ (.int .i64 (iv x).1)).setCell ⟨blk, off + jN * 2 + 1, none⟩ (.int .i64 (iv x).2)).drew) := by
  subst hiN hjN hx hy
  obtain ⟨ca, ca1, fa1, fa2⟩ := cellsL S R hs _ hi
  obtain ⟨cc, cc1, fc1, fc2⟩ := cellsL S R hs _ hj
  obtain ⟨e1, e2, e3⟩ := storesL (x := iv dk[iN]!) (y := iv dk[jN]!) ca ca1 cc cc1 (by omega)
  exact ⟨ca, ca1, cc, cc1, fa1, fa2, fc1, fc2, e1, e2, e3, S.swapped R _ _ hi hj⟩

set_option maxHeartbeats 16000000 in
set_option maxRecDepth 1000000 in
theorem symOneI {iv : α → Int} {g : Nat} {cb : Array Value} {key : α → Int} {d0 : Array α} {w0 : World} {blk off : Nat} (H : SortI iv g cb key d0 w0 blk off) {d : Array α} {w : World} (hs : d.size = d0.size) (S : SWI iv w0 blk off d w) (cap : Nat) {a b : Nat} (hmb : a + 1 < b) (hb : b ≤ d.size) (hv : SortF key (a + 1) b (fa d)) :
    Calls Tryd.prog 134 #[.slice (some ⟨blk, off, none⟩) d.size cap, .int .i64 a, .int .i64 (a + 1 : Nat), .int .i64 b, .func (.func g) #[] cb] w fun e w' => e = .returned (.tuple #[]) ∧
      ∃ d' : Array α, d'.size = d.size ∧ StabF key a b (fa d) (fa d') ∧ SortF key a b (fa d') ∧ SWI iv w0 blk off d' w' := by
  have hz : d.size < 4611686018427387904 := hs ▸ H.sz
  have eg := H.eg
  have HH : Hid (SortI iv g cb key d0 w0 blk off) := H
  have HV : Hid (SortF key (a + 1) b (fa d)) := hv
  have RR : Hid (∀ x : Nat, x = d.size → x = d0.size) := fun x e => e.trans hs
  clear hs H hv
  have mixed : Tryd.prog.follows .mixedOrders = true := by kernel_rfl
  have S0 : Aside (SWI iv w0 blk off d w) := S
  clear S
  have r0 : IntKind.i64.wrap ((a : Int) + 1 - (a : Int)) = 1 := by rw [IntKind.wrap_i64]; omega
  go_enter Tryd.func134, Tryd.ntmps134
  go_wp2
  go_loopg [10, 11] d.size (fun gk vi vj wr => ∃ i j : Nat, vi = .int .i64 i ∧ vj = .int .i64 j ∧ a + 1 ≤ i ∧ i ≤ j ∧ j ≤ b ∧ j - i ≤ gk ∧ Hid ((∀ t, a + 1 ≤ t → t < i → key (fa d t) < key (fa d a)) ∧ (∀ t, j ≤ t → t < b → key (fa d a) ≤ key (fa d t))) ∧ Aside (SWI iv w0 blk off d wr))
  case atStart => exact ⟨a + 1, b, by go_num, rfl, by omega, by omega, by omega, by omega, (show _ ∧ _ from ⟨fun t h1 h2 => by omega, fun t h1 h2 => by omega⟩), S0⟩
  case round =>
    clear S0
    obtain ⟨i, j, rfl, rfl, hai, hij, hjb, hg, HI, S1⟩ := hrel
    by_cases hlt : i < j
    · have hltz : (i : Int) < (j : Int) := by omega
      obtain ⟨c, hcc⟩ : ∃ c, c = (i + j) / 2 := ⟨_, rfl⟩
      have hcz : ((i : Int) + (j : Int)) / 2 = (c : Int) := by omega
      have bc : (c : Int) < (d.size : Int) := by omega
      have ba : (a : Int) < (d.size : Int) := by omega
      obtain ⟨x, hx⟩ : ∃ x, d[c]! = x := ⟨_, rfl⟩
      obtain ⟨y, hy⟩ : ∃ y, d[a]! = y := ⟨_, rfl⟩
      obtain ⟨l1, l2⟩ := elI S1.out HH.out.R (RR.out _ rfl) c (by omega) x hx
      obtain ⟨l3, l4⟩ := elI S1.out HH.out.R (RR.out _ rfl) a (by omega) y hy
      obtain ⟨q, hq⟩ : ∃ q, Lib.compareInt (key x) (key y) = q := ⟨_, rfl⟩
      have hcl := cmpI HH.out S1.out (RR.out _ rfl) x y q hq
      have hqk := cmp_lt q hq
      rw [← hx, ← hy] at hqk
      have hqk : (q < 0 ↔ key (fa d c) < key (fa d a)) := hqk
      have HQ : Hid _ := hqk
      have hcc' : Hid (c = (i + j) / 2) := hcc
      clear hqk hq hx hy hcc
      by_cases hneg : q < 0
      · have hnd : decide (q < 0) = true := decide_eq_true hneg
        go_wp2_with fail
        go_quiet_grown (first | (go_at_fn g; refine Calls.grown_of (hcl _ _)))
        have S2 : Aside (SWI iv w0 blk off d (grow (wr.drewN nq) osq)) := S1.out.grown nq osq
        clear l1 l2 l3 l4 hcl S1
        generalize grow (wr.drewN nq) osq = w2 at S2 ⊢
        go_wp2
        have hcc := hcc'.out
        go_roundg (j - (c + 1))
        case measure => omega
        case rel =>
          exact ⟨c + 1, j, by go_num, rfl, by omega, by omega, hjb, by omega, (show _ ∧ _ from ⟨fun t h1 h2 => by
            by_cases e : t = c
            · rw [e]; exact HQ.out.1 hneg
            · exact Int.lt_of_le_of_lt (HV.out t c h1 (by omega) (by omega)) (HQ.out.1 hneg), HI.out.2⟩), S2⟩
      · have hnd : decide (q < 0) = false := decide_eq_false hneg
        go_wp2_with fail
        go_quiet_grown (first | (go_at_fn g; refine Calls.grown_of (hcl _ _)))
        have S2 : Aside (SWI iv w0 blk off d (grow (wr.drewN nq) osq)) := S1.out.grown nq osq
        clear l1 l2 l3 l4 hcl S1
        generalize grow (wr.drewN nq) osq = w2 at S2 ⊢
        go_wp2
        have hcc := hcc'.out
        go_roundg (c - i)
        case measure => omega
        case rel =>
          exact ⟨i, c, rfl, rfl, hai, by omega, by omega, by omega, (show _ ∧ _ from ⟨HI.out.1, fun t h1 h2 => by
            have hle : key (fa d a) ≤ key (fa d c) := by have := HQ.out; omega
            by_cases e : t = c
            · rw [e]; exact hle
            · exact Int.le_trans hle (HV.out c t (by omega) (by omega) h2)⟩), S2⟩
    · have hltz : ¬ (i : Int) < (j : Int) := by omega
      have hij' : i = j := by omega
      subst hij'
      have hR := ins_left (f := fa d) hai hjb HV.out HI.out.1 HI.out.2
      have HR : Hid _ := hR
      clear hR HI HV hlt hij
      have ri : IntKind.i64.wrap ((i : Int) - 1) = (i : Int) - 1 := by rw [IntKind.wrap_i64]; omega
      go_wp2
      go_loopg [13] d.size (fun gk v wr => ∃ (k : Nat) (dk : Array α), v = .int .i64 k ∧ a ≤ k ∧ k + 1 ≤ i ∧ i - 1 - k ≤ gk ∧ dk.size = d.size ∧ Hid (fa dk = rotF (fa d) a (a + 1) (k + 1)) ∧ Aside (SWI iv w0 blk off dk wr))
      case atStart => exact ⟨a, d, rfl, by omega, by omega, by omega, rfl, (show _ = _ from (rotF_id _ (by omega) (by omega) (by omega)).symm), S1⟩
      case round =>
        clear S1
        obtain ⟨k, dk, rfl, hak, hki, hg, hsk, HF, S2⟩ := hrel
        by_cases hlt : k < i - 1
        · have hltz : (k : Int) < (i : Int) - 1 := by omega
          obtain ⟨iN, hiN⟩ : ∃ q, q = k := ⟨_, rfl⟩
          obtain ⟨jN, hjN⟩ : ∃ q, q = k + 1 := ⟨_, rfl⟩
          have ea : (k : Int).toNat = iN := by omega
          have ba : (k : Int) < (d.size : Int) := by omega
          have ec : ((k : Int) + 1).toNat = jN := by omega
          have pc : (0 : Int) ≤ (k : Int) + 1 := by omega
          have bc : (k : Int) + 1 < (d.size : Int) := by omega
          have rc : IntKind.i64.wrap ((k : Int) + 1) = (k : Int) + 1 := by rw [IntKind.wrap_i64]; omega
          obtain ⟨x, hx⟩ : ∃ x, dk[k]! = x := ⟨_, rfl⟩
          obtain ⟨y, hy⟩ : ∃ x, dk[k + 1]! = x := ⟨_, rfl⟩
          obtain ⟨c1, c2, c3, c4, f1, f2, f3, f4, s1, s2, s3, S3⟩ := exI S2.out HH.out.R (RR.out _ hsk) k (k + 1) (by omega) (by omega) (by omega) iN jN hiN hjN x y hx hy
          clear S2 hx hy hiN hjN
          go_wp2_with fail
          go_big_region_o
          clear c1 c2 c3 c4 f1 f2 f3 f4 s1 s2 s3 ea ec
          go_wp2
          go_roundg (i - 1 - (k + 1))
          case measure => omega
          case rel => exact ⟨k + 1, swp dk k (k + 1), by go_num, by omega, by omega, by omega, by rw [size_swp]; exact hsk, (show _ = _ from by funext x; rw [fa_swp dk (by omega) (by omega), HF.out, rotF_up _ hak]), S3⟩
        · have hltz : ¬ (k : Int) < (i : Int) - 1 := by omega
          go_wp2
          (try simp only [Exit.inBlock, Exit.then])
          refine bodyPost_ret (results_none rfl _ _ _) rfl ?_
          exact ⟨rfl, dk, hsk, by rw [HF.out, show k + 1 = i by omega]; exact HR.out.1, by rw [HF.out, show k + 1 = i by omega]; exact HR.out.2, S2.out⟩
set_option maxHeartbeats 16000000 in
set_option maxRecDepth 1000000 in
theorem symOneL {iv : α → (Int×Int)} {g : Nat} {cb : Array Value} {key : α → Int} {d0 : Array α} {w0 : World} {blk off : Nat} (H : SortL iv g cb key d0 w0 blk off) {d : Array α} {w : World} (hs : d.size = d0.size) (S : SWL iv w0 blk off d w) (cap : Nat) {a b : Nat} (hmb : a + 1 < b) (hb : b ≤ d.size) (hv : SortF key (a + 1) b (fa d)) :
    Calls Tryd.prog 137 #[.slice (some ⟨blk, off, none⟩) d.size cap, .int .i64 a, .int .i64 (a + 1 : Nat), .int .i64 b, .func (.func g) #[] cb] w fun e w' => e = .returned (.tuple #[]) ∧
      ∃ d' : Array α, d'.size = d.size ∧ StabF key a b (fa d) (fa d') ∧ SortF key a b (fa d') ∧ SWL iv w0 blk off d' w' := by
  have hz : d.size < 4611686018427387904 := hs ▸ H.sz
  have eg := H.eg
  have HH : Hid (SortL iv g cb key d0 w0 blk off) := H
  have HV : Hid (SortF key (a + 1) b (fa d)) := hv
  have RR : Hid (∀ x : Nat, x = d.size → x = d0.size) := fun x e => e.trans hs
  clear hs H hv
  have mixed : Tryd.prog.follows .mixedOrders = true := by kernel_rfl
  have S0 : Aside (SWL iv w0 blk off d w) := S
  clear S
  have r0 : IntKind.i64.wrap ((a : Int) + 1 - (a : Int)) = 1 := by rw [IntKind.wrap_i64]; omega
  go_enter Tryd.func137, Tryd.ntmps137
  go_wp2
  go_loopg [10, 11] d.size (fun gk vi vj wr => ∃ i j : Nat, vi = .int .i64 i ∧ vj = .int .i64 j ∧ a + 1 ≤ i ∧ i ≤ j ∧ j ≤ b ∧ j - i ≤ gk ∧ Hid ((∀ t, a + 1 ≤ t → t < i → key (fa d t) < key (fa d a)) ∧ (∀ t, j ≤ t → t < b → key (fa d a) ≤ key (fa d t))) ∧ Aside (SWL iv w0 blk off d wr))
  case atStart => exact ⟨a + 1, b, by go_num, rfl, by omega, by omega, by omega, by omega, (show _ ∧ _ from ⟨fun t h1 h2 => by omega, fun t h1 h2 => by omega⟩), S0⟩
  case round =>
    clear S0
    obtain ⟨i, j, rfl, rfl, hai, hij, hjb, hg, HI, S1⟩ := hrel
    by_cases hlt : i < j
    · have hltz : (i : Int) < (j : Int) := by omega
      obtain ⟨c, hcc⟩ : ∃ c, c = (i + j) / 2 := ⟨_, rfl⟩
      have hcz : ((i : Int) + (j : Int)) / 2 = (c : Int) := by omega
      have bc : (c : Int) < (d.size : Int) := by omega
      have ba : (a : Int) < (d.size : Int) := by omega
      obtain ⟨x, hx⟩ : ∃ x, d[c]! = x := ⟨_, rfl⟩
      obtain ⟨y, hy⟩ : ∃ y, d[a]! = y := ⟨_, rfl⟩
      obtain ⟨l1, l2⟩ := elL S1.out HH.out.R (RR.out _ rfl) c (by omega) x hx
      obtain ⟨l3, l4⟩ := elL S1.out HH.out.R (RR.out _ rfl) a (by omega) y hy
      obtain ⟨q, hq⟩ : ∃ q, Lib.compareInt (key x) (key y) = q := ⟨_, rfl⟩
      have hcl := cmpL HH.out S1.out (RR.out _ rfl) x y q hq
      have hqk := cmp_lt q hq
      rw [← hx, ← hy] at hqk
      have hqk : (q < 0 ↔ key (fa d c) < key (fa d a)) := hqk
      have HQ : Hid _ := hqk
      have hcc' : Hid (c = (i + j) / 2) := hcc
      clear hqk hq hx hy hcc
      by_cases hneg : q < 0
      · have hnd : decide (q < 0) = true := decide_eq_true hneg
        go_wp2_with fail
        go_quiet_grown (first | (go_at_fn g; refine Calls.grown_of (hcl _ _)))
        have S2 : Aside (SWL iv w0 blk off d (grow (wr.drewN nq) osq)) := S1.out.grown nq osq
        clear l1 l2 l3 l4 hcl S1
        generalize grow (wr.drewN nq) osq = w2 at S2 ⊢
        go_wp2
        have hcc := hcc'.out
        go_roundg (j - (c + 1))
        case measure => omega
        case rel =>
          exact ⟨c + 1, j, by go_num, rfl, by omega, by omega, hjb, by omega, (show _ ∧ _ from ⟨fun t h1 h2 => by
            by_cases e : t = c
            · rw [e]; exact HQ.out.1 hneg
            · exact Int.lt_of_le_of_lt (HV.out t c h1 (by omega) (by omega)) (HQ.out.1 hneg), HI.out.2⟩), S2⟩
      · have hnd : decide (q < 0) = false := decide_eq_false hneg
        go_wp2_with fail
        go_quiet_grown (first | (go_at_fn g; refine Calls.grown_of (hcl _ _)))
        have S2 : Aside (SWL iv w0 blk off d (grow (wr.drewN nq) osq)) := S1.out.grown nq osq
        clear l1 l2 l3 l4 hcl S1
        generalize grow (wr.drewN nq) osq = w2 at S2 ⊢
        go_wp2
        have hcc := hcc'.out
        go_roundg (c - i)
        case measure => omega
        case rel =>
          exact ⟨i, c, rfl, rfl, hai, by omega, by omega, by omega, (show _ ∧ _ from ⟨HI.out.1, fun t h1 h2 => by
            have hle : key (fa d a) ≤ key (fa d c) := by have := HQ.out; omega
            by_cases e : t = c
            · rw [e]; exact hle
            · exact Int.le_trans hle (HV.out c t (by omega) (by omega) h2)⟩), S2⟩
    · have hltz : ¬ (i : Int) < (j : Int) := by omega
      have hij' : i = j := by omega
      subst hij'
      have hR := ins_left (f := fa d) hai hjb HV.out HI.out.1 HI.out.2
      have HR : Hid _ := hR
      clear hR HI HV hlt hij
      have ri : IntKind.i64.wrap ((i : Int) - 1) = (i : Int) - 1 := by rw [IntKind.wrap_i64]; omega
      go_wp2
      go_loopg [13] d.size (fun gk v wr => ∃ (k : Nat) (dk : Array α), v = .int .i64 k ∧ a ≤ k ∧ k + 1 ≤ i ∧ i - 1 - k ≤ gk ∧ dk.size = d.size ∧ Hid (fa dk = rotF (fa d) a (a + 1) (k + 1)) ∧ Aside (SWL iv w0 blk off dk wr))
      case atStart => exact ⟨a, d, rfl, by omega, by omega, by omega, rfl, (show _ = _ from (rotF_id _ (by omega) (by omega) (by omega)).symm), S1⟩
      case round =>
        clear S1
        obtain ⟨k, dk, rfl, hak, hki, hg, hsk, HF, S2⟩ := hrel
        by_cases hlt : k < i - 1
        · have hltz : (k : Int) < (i : Int) - 1 := by omega
          obtain ⟨iN, hiN⟩ : ∃ q, q = k := ⟨_, rfl⟩
          obtain ⟨jN, hjN⟩ : ∃ q, q = k + 1 := ⟨_, rfl⟩
          have ea : (k : Int).toNat = iN := by omega
          have ba : (k : Int) < (d.size : Int) := by omega
          have ec : ((k : Int) + 1).toNat = jN := by omega
          have pc : (0 : Int) ≤ (k : Int) + 1 := by omega
          have bc : (k : Int) + 1 < (d.size : Int) := by omega
          have rc : IntKind.i64.wrap ((k : Int) + 1) = (k : Int) + 1 := by rw [IntKind.wrap_i64]; omega
          obtain ⟨x, hx⟩ : ∃ x, dk[k]! = x := ⟨_, rfl⟩
          obtain ⟨y, hy⟩ : ∃ x, dk[k + 1]! = x := ⟨_, rfl⟩
          obtain ⟨c1, c2, c3, c4, f1, f2, f3, f4, s1, s2, s3, S3⟩ := exL S2.out HH.out.R (RR.out _ hsk) k (k + 1) (by omega) (by omega) (by omega) iN jN hiN hjN x y hx hy
          clear S2 hx hy hiN hjN
          go_wp2_with fail
          go_big_region_o
          clear c1 c2 c3 c4 f1 f2 f3 f4 s1 s2 s3 ea ec
          go_wp2
          go_roundg (i - 1 - (k + 1))
          case measure => omega
          case rel => exact ⟨k + 1, swp dk k (k + 1), by go_num, by omega, by omega, by omega, by rw [size_swp]; exact hsk, (show _ = _ from by funext x; rw [fa_swp dk (by omega) (by omega), HF.out, rotF_up _ hak]), S3⟩
        · have hltz : ¬ (k : Int) < (i : Int) - 1 := by omega
          go_wp2
          (try simp only [Exit.inBlock, Exit.then])
          refine bodyPost_ret (results_none rfl _ _ _) rfl ?_
          exact ⟨rfl, dk, hsk, by rw [HF.out, show k + 1 = i by omega]; exact HR.out.1, by rw [HF.out, show k + 1 = i by omega]; exact HR.out.2, S2.out⟩
end Go.Proofs.YtnnmakkbnfckmaaDoor
/- The merge in place of the library's stable sort, where its second part is one number alone. -/
namespace Go.Proofs.YtnnmakkbnfckmaaDoor
open Go.RowKit Go.Shelf Go.Sort Go.Lib
variable {α : Type} [Inhabited α]

set_option maxHeartbeats 16000000 in
set_option maxRecDepth 1000000 in
theorem symLastI {iv : α → Int} {g : Nat} {cb : Array Value} {key : α → Int} {d0 : Array α} {w0 : World} {blk off : Nat} (H : SortI iv g cb key d0 w0 blk off) {d : Array α} {w : World} (hs : d.size = d0.size) (S : SWI iv w0 blk off d w) (cap : Nat) {a m : Nat} (ham : a + 1 < m) (hb : m + 1 ≤ d.size) (hv : SortF key a m (fa d)) :
    Calls Tryd.prog 134 #[.slice (some ⟨blk, off, none⟩) d.size cap, .int .i64 a, .int .i64 m, .int .i64 (m + 1 : Nat), .func (.func g) #[] cb] w fun e w' => e = .returned (.tuple #[]) ∧
      ∃ d' : Array α, d'.size = d.size ∧ StabF key a (m + 1) (fa d) (fa d') ∧ SortF key a (m + 1) (fa d') ∧ SWI iv w0 blk off d' w' := by
  have hz : d.size < 4611686018427387904 := hs ▸ H.sz
  have eg := H.eg
  have HH : Hid (SortI iv g cb key d0 w0 blk off) := H
  have HV : Hid (SortF key a m (fa d)) := hv
  have RR : Hid (∀ x : Nat, x = d.size → x = d0.size) := fun x e => e.trans hs
  clear hs H hv
  have mixed : Tryd.prog.follows .mixedOrders = true := by kernel_rfl
  have S0 : Aside (SWI iv w0 blk off d w) := S
  clear S
  have r0 : IntKind.i64.wrap ((m : Int) + 1 - (m : Int)) = 1 := by rw [IntKind.wrap_i64]; omega
  have r1 : IntKind.i64.wrap ((m : Int) - (a : Int)) = (m : Int) - (a : Int) := by rw [IntKind.wrap_i64]; omega
  have n1 : ¬ (m : Int) - (a : Int) = 1 := by omega
  have n2 : ((m : Int) - (a : Int) == 1) = false := beq_false_of_ne n1
  go_enter Tryd.func134, Tryd.ntmps134
  go_wp2
  go_loopg [14, 15] d.size (fun gk vi vj wr => ∃ i j : Nat, vi = .int .i64 i ∧ vj = .int .i64 j ∧ a ≤ i ∧ i ≤ j ∧ j ≤ m ∧ j - i ≤ gk ∧ Hid ((∀ t, a ≤ t → t < i → key (fa d t) ≤ key (fa d m)) ∧ (∀ t, j ≤ t → t < m → key (fa d m) < key (fa d t))) ∧ Aside (SWI iv w0 blk off d wr))
  case atStart => exact ⟨a, m, rfl, rfl, by omega, by omega, by omega, by omega, (show _ ∧ _ from ⟨fun t h1 h2 => by omega, fun t h1 h2 => by omega⟩), S0⟩
  case round =>
    clear S0
    obtain ⟨i, j, rfl, rfl, hai, hij, hjb, hg, HI, S1⟩ := hrel
    by_cases hlt : i < j
    · have hltz : (i : Int) < (j : Int) := by omega
      obtain ⟨c, hcc⟩ : ∃ c, c = (i + j) / 2 := ⟨_, rfl⟩
      have hcz : ((i : Int) + (j : Int)) / 2 = (c : Int) := by omega
      have bc : (c : Int) < (d.size : Int) := by omega
      have ba : (m : Int) < (d.size : Int) := by omega
      obtain ⟨x, hx⟩ : ∃ x, d[c]! = x := ⟨_, rfl⟩
      obtain ⟨y, hy⟩ : ∃ y, d[m]! = y := ⟨_, rfl⟩
      obtain ⟨l1, l2⟩ := elI S1.out HH.out.R (RR.out _ rfl) c (by omega) x hx
      obtain ⟨l3, l4⟩ := elI S1.out HH.out.R (RR.out _ rfl) m (by omega) y hy
      obtain ⟨q, hq⟩ : ∃ q, Lib.compareInt (key y) (key x) = q := ⟨_, rfl⟩
      have hcl := cmpI HH.out S1.out (RR.out _ rfl) y x q hq
      have hqk := cmp_lt q hq
      rw [← hx, ← hy] at hqk
      have HQ : Hid (q < 0 ↔ key (fa d m) < key (fa d c)) := hqk
      have hcc' : Hid (c = (i + j) / 2) := hcc
      clear hqk hq hx hy hcc
      by_cases hneg : q < 0
      · have hnd : decide (q < 0) = true := decide_eq_true hneg
        go_wp2_with fail
        go_quiet_grown (first | (go_at_fn g; refine Calls.grown_of (hcl _ _)))
        have S2 : Aside (SWI iv w0 blk off d (grow (wr.drewN nq) osq)) := S1.out.grown nq osq
        clear l1 l2 l3 l4 hcl S1
        generalize grow (wr.drewN nq) osq = w2 at S2 ⊢
        go_wp2
        have hcc := hcc'.out
        go_roundg (c - i)
        case measure => omega
        case rel =>
          exact ⟨i, c, rfl, rfl, hai, by omega, by omega, by omega, (show _ ∧ _ from ⟨HI.out.1, fun t h1 h2 => by
            have hle : key (fa d m) < key (fa d c) := by have := HQ.out; omega
            by_cases e : t = c
            · rw [e]; exact hle
            · exact Int.lt_of_lt_of_le hle (HV.out c t (by omega) (by omega) h2)⟩), S2⟩
      · have hnd : decide (q < 0) = false := decide_eq_false hneg
        go_wp2_with fail
        go_quiet_grown (first | (go_at_fn g; refine Calls.grown_of (hcl _ _)))
        have S2 : Aside (SWI iv w0 blk off d (grow (wr.drewN nq) osq)) := S1.out.grown nq osq
        clear l1 l2 l3 l4 hcl S1
        generalize grow (wr.drewN nq) osq = w2 at S2 ⊢
        go_wp2
        have hcc := hcc'.out
        go_roundg (j - (c + 1))
        case measure => omega
        case rel =>
          exact ⟨c + 1, j, by go_num, rfl, by omega, by omega, hjb, by omega, (show _ ∧ _ from ⟨fun t h1 h2 => by
            have hle : key (fa d c) ≤ key (fa d m) := by have := HQ.out; omega
            by_cases e : t = c
            · rw [e]; exact hle
            · exact Int.le_trans (HV.out t c h1 (by omega) (by omega)) hle, HI.out.2⟩), S2⟩
    · have hltz : ¬ (i : Int) < (j : Int) := by omega
      have hij' : i = j := by omega
      subst hij'
      have hR := ins_right (f := fa d) hai hjb HV.out HI.out.1 HI.out.2
      have HR : Hid _ := hR
      clear hR HI HV hlt hij
      go_wp2
      go_loopg [17] d.size (fun gk v wr => ∃ (k : Nat) (dk : Array α), v = .int .i64 k ∧ i ≤ k ∧ k ≤ m ∧ k - i ≤ gk ∧ dk.size = d.size ∧ Hid (fa dk = rotF (fa d) k m (m + 1)) ∧ Aside (SWI iv w0 blk off dk wr))
      case atStart => exact ⟨m, d, rfl, by omega, by omega, by omega, rfl, (show _ = _ from (rotF_id _ (by omega) (by omega) (by omega)).symm), S1⟩
      case round =>
        clear S1
        obtain ⟨k, dk, rfl, hik, hkm, hg, hsk, HF, S2⟩ := hrel
        by_cases hlt : i < k
        · obtain ⟨jp, rfl⟩ : ∃ q, k = q + 1 := ⟨k - 1, by omega⟩
          have hltz : (i : Int) < (jp : Int) + 1 := by omega
          obtain ⟨iN, hiN⟩ : ∃ q, q = jp + 1 := ⟨_, rfl⟩
          obtain ⟨jN, hjN⟩ : ∃ q, q = jp := ⟨_, rfl⟩
          have ea : ((jp : Int) + 1).toNat = iN := by omega
          have pa : (0 : Int) ≤ (jp : Int) + 1 := by omega
          have ba : (jp : Int) + 1 < (d.size : Int) := by omega
          have ra : IntKind.i64.wrap ((jp : Int) + 1) = (jp : Int) + 1 := by rw [IntKind.wrap_i64]; omega
          have ec : (jp : Int).toNat = jN := by omega
          have bc : (jp : Int) < (d.size : Int) := by omega
          have rc : IntKind.i64.wrap (jp : Int) = (jp : Int) := by rw [IntKind.wrap_i64]; omega
          obtain ⟨x, hx⟩ : ∃ x, dk[jp + 1]! = x := ⟨_, rfl⟩
          obtain ⟨y, hy⟩ : ∃ x, dk[jp]! = x := ⟨_, rfl⟩
          obtain ⟨c1, c2, c3, c4, f1, f2, f3, f4, s1, s2, s3, S3⟩ := exI S2.out HH.out.R (RR.out _ hsk) (jp + 1) jp (by omega) (by omega) (by omega) iN jN hiN hjN x y hx hy
          clear S2 hx hy hiN hjN
          go_wp2_with fail
          go_big_region_o
          clear c1 c2 c3 c4 f1 f2 f3 f4 s1 s2 s3 ea ec
          go_wp2
          go_roundg (jp - i)
          case measure => omega
          case rel => exact ⟨jp, swp dk (jp + 1) jp, by first | rfl | go_num | (congr 1; omega), by omega, by omega, by omega, by rw [size_swp]; exact hsk, (show _ = _ from by funext x; rw [fa_swp dk (by omega) (by omega), HF.out, rotF_down _ (show jp < m from by omega)]), S3⟩
        · have hltz : ¬ (i : Int) < (k : Int) := by omega
          go_wp2
          (try simp only [Exit.inBlock, Exit.then])
          refine bodyPost_ret (results_none rfl _ _ _) rfl ?_
          exact ⟨rfl, dk, hsk, by rw [HF.out, show k = i by omega]; exact HR.out.1, by rw [HF.out, show k = i by omega]; exact HR.out.2, S2.out⟩
set_option maxHeartbeats 16000000 in
set_option maxRecDepth 1000000 in
theorem symLastL {iv : α → (Int×Int)} {g : Nat} {cb : Array Value} {key : α → Int} {d0 : Array α} {w0 : World} {blk off : Nat} (H : SortL iv g cb key d0 w0 blk off) {d : Array α} {w : World} (hs : d.size = d0.size) (S : SWL iv w0 blk off d w) (cap : Nat) {a m : Nat} (ham : a + 1 < m) (hb : m + 1 ≤ d.size) (hv : SortF key a m (fa d)) :
    Calls Tryd.prog 137 #[.slice (some ⟨blk, off, none⟩) d.size cap, .int .i64 a, .int .i64 m, .int .i64 (m + 1 : Nat), .func (.func g) #[] cb] w fun e w' => e = .returned (.tuple #[]) ∧
      ∃ d' : Array α, d'.size = d.size ∧ StabF key a (m + 1) (fa d) (fa d') ∧ SortF key a (m + 1) (fa d') ∧ SWL iv w0 blk off d' w' := by
  have hz : d.size < 4611686018427387904 := hs ▸ H.sz
  have eg := H.eg
  have HH : Hid (SortL iv g cb key d0 w0 blk off) := H
  have HV : Hid (SortF key a m (fa d)) := hv
  have RR : Hid (∀ x : Nat, x = d.size → x = d0.size) := fun x e => e.trans hs
  clear hs H hv
  have mixed : Tryd.prog.follows .mixedOrders = true := by kernel_rfl
  have S0 : Aside (SWL iv w0 blk off d w) := S
  clear S
  have r0 : IntKind.i64.wrap ((m : Int) + 1 - (m : Int)) = 1 := by rw [IntKind.wrap_i64]; omega
  have r1 : IntKind.i64.wrap ((m : Int) - (a : Int)) = (m : Int) - (a : Int) := by rw [IntKind.wrap_i64]; omega
  have n1 : ¬ (m : Int) - (a : Int) = 1 := by omega
  have n2 : ((m : Int) - (a : Int) == 1) = false := beq_false_of_ne n1
  go_enter Tryd.func137, Tryd.ntmps137
  go_wp2
  go_loopg [14, 15] d.size (fun gk vi vj wr => ∃ i j : Nat, vi = .int .i64 i ∧ vj = .int .i64 j ∧ a ≤ i ∧ i ≤ j ∧ j ≤ m ∧ j - i ≤ gk ∧ Hid ((∀ t, a ≤ t → t < i → key (fa d t) ≤ key (fa d m)) ∧ (∀ t, j ≤ t → t < m → key (fa d m) < key (fa d t))) ∧ Aside (SWL iv w0 blk off d wr))
  case atStart => exact ⟨a, m, rfl, rfl, by omega, by omega, by omega, by omega, (show _ ∧ _ from ⟨fun t h1 h2 => by omega, fun t h1 h2 => by omega⟩), S0⟩
  case round =>
    clear S0
    obtain ⟨i, j, rfl, rfl, hai, hij, hjb, hg, HI, S1⟩ := hrel
    by_cases hlt : i < j
    · have hltz : (i : Int) < (j : Int) := by omega
      obtain ⟨c, hcc⟩ : ∃ c, c = (i + j) / 2 := ⟨_, rfl⟩
      have hcz : ((i : Int) + (j : Int)) / 2 = (c : Int) := by omega
      have bc : (c : Int) < (d.size : Int) := by omega
      have ba : (m : Int) < (d.size : Int) := by omega
      obtain ⟨x, hx⟩ : ∃ x, d[c]! = x := ⟨_, rfl⟩
      obtain ⟨y, hy⟩ : ∃ y, d[m]! = y := ⟨_, rfl⟩
      obtain ⟨l1, l2⟩ := elL S1.out HH.out.R (RR.out _ rfl) c (by omega) x hx
      obtain ⟨l3, l4⟩ := elL S1.out HH.out.R (RR.out _ rfl) m (by omega) y hy
      obtain ⟨q, hq⟩ : ∃ q, Lib.compareInt (key y) (key x) = q := ⟨_, rfl⟩
      have hcl := cmpL HH.out S1.out (RR.out _ rfl) y x q hq
      have hqk := cmp_lt q hq
      rw [← hx, ← hy] at hqk
      have HQ : Hid (q < 0 ↔ key (fa d m) < key (fa d c)) := hqk
      have hcc' : Hid (c = (i + j) / 2) := hcc
      clear hqk hq hx hy hcc
      by_cases hneg : q < 0
      · have hnd : decide (q < 0) = true := decide_eq_true hneg
        go_wp2_with fail
        go_quiet_grown (first | (go_at_fn g; refine Calls.grown_of (hcl _ _)))
        have S2 : Aside (SWL iv w0 blk off d (grow (wr.drewN nq) osq)) := S1.out.grown nq osq
        clear l1 l2 l3 l4 hcl S1
        generalize grow (wr.drewN nq) osq = w2 at S2 ⊢
        go_wp2
        have hcc := hcc'.out
        go_roundg (c - i)
        case measure => omega
        case rel =>
          exact ⟨i, c, rfl, rfl, hai, by omega, by omega, by omega, (show _ ∧ _ from ⟨HI.out.1, fun t h1 h2 => by
            have hle : key (fa d m) < key (fa d c) := by have := HQ.out; omega
            by_cases e : t = c
            · rw [e]; exact hle
            · exact Int.lt_of_lt_of_le hle (HV.out c t (by omega) (by omega) h2)⟩), S2⟩
      · have hnd : decide (q < 0) = false := decide_eq_false hneg
        go_wp2_with fail
        go_quiet_grown (first | (go_at_fn g; refine Calls.grown_of (hcl _ _)))
        have S2 : Aside (SWL iv w0 blk off d (grow (wr.drewN nq) osq)) := S1.out.grown nq osq
        clear l1 l2 l3 l4 hcl S1
        generalize grow (wr.drewN nq) osq = w2 at S2 ⊢
        go_wp2
        have hcc := hcc'.out
        go_roundg (j - (c + 1))
        case measure => omega
        case rel =>
          exact ⟨c + 1, j, by go_num, rfl, by omega, by omega, hjb, by omega, (show _ ∧ _ from ⟨fun t h1 h2 => by
            have hle : key (fa d c) ≤ key (fa d m) := by have := HQ.out; omega
            by_cases e : t = c
            · rw [e]; exact hle
            · exact Int.le_trans (HV.out t c h1 (by omega) (by omega)) hle, HI.out.2⟩), S2⟩
    · have hltz : ¬ (i : Int) < (j : Int) := by omega
      have hij' : i = j := by omega
      subst hij'
      have hR := ins_right (f := fa d) hai hjb HV.out HI.out.1 HI.out.2
      have HR : Hid _ := hR
      clear hR HI HV hlt hij
      go_wp2
      go_loopg [17] d.size (fun gk v wr => ∃ (k : Nat) (dk : Array α), v = .int .i64 k ∧ i ≤ k ∧ k ≤ m ∧ k - i ≤ gk ∧ dk.size = d.size ∧ Hid (fa dk = rotF (fa d) k m (m + 1)) ∧ Aside (SWL iv w0 blk off dk wr))
      case atStart => exact ⟨m, d, rfl, by omega, by omega, by omega, rfl, (show _ = _ from (rotF_id _ (by omega) (by omega) (by omega)).symm), S1⟩
      case round =>
        clear S1
        obtain ⟨k, dk, rfl, hik, hkm, hg, hsk, HF, S2⟩ := hrel
        by_cases hlt : i < k
        · obtain ⟨jp, rfl⟩ : ∃ q, k = q + 1 := ⟨k - 1, by omega⟩
          have hltz : (i : Int) < (jp : Int) + 1 := by omega
          obtain ⟨iN, hiN⟩ : ∃ q, q = jp + 1 := ⟨_, rfl⟩
          obtain ⟨jN, hjN⟩ : ∃ q, q = jp := ⟨_, rfl⟩
          have ea : ((jp : Int) + 1).toNat = iN := by omega
          have pa : (0 : Int) ≤ (jp : Int) + 1 := by omega
          have ba : (jp : Int) + 1 < (d.size : Int) := by omega
          have ra : IntKind.i64.wrap ((jp : Int) + 1) = (jp : Int) + 1 := by rw [IntKind.wrap_i64]; omega
          have ec : (jp : Int).toNat = jN := by omega
          have bc : (jp : Int) < (d.size : Int) := by omega
          have rc : IntKind.i64.wrap (jp : Int) = (jp : Int) := by rw [IntKind.wrap_i64]; omega
          obtain ⟨x, hx⟩ : ∃ x, dk[jp + 1]! = x := ⟨_, rfl⟩
          obtain ⟨y, hy⟩ : ∃ x, dk[jp]! = x := ⟨_, rfl⟩
          obtain ⟨c1, c2, c3, c4, f1, f2, f3, f4, s1, s2, s3, S3⟩ := exL S2.out HH.out.R (RR.out _ hsk) (jp + 1) jp (by omega) (by omega) (by omega) iN jN hiN hjN x y hx hy
          clear S2 hx hy hiN hjN
          go_wp2_with fail
          go_big_region_o
          clear c1 c2 c3 c4 f1 f2 f3 f4 s1 s2 s3 ea ec
          go_wp2
          go_roundg (jp - i)
          case measure => omega
          case rel => exact ⟨jp, swp dk (jp + 1) jp, by first | rfl | go_num | (congr 1; omega), by omega, by omega, by omega, by rw [size_swp]; exact hsk, (show _ = _ from by funext x; rw [fa_swp dk (by omega) (by omega), HF.out, rotF_down _ (show jp < m from by omega)]), S3⟩
        · have hltz : ¬ (i : Int) < (k : Int) := by omega
          go_wp2
          (try simp only [Exit.inBlock, Exit.then])
          refine bodyPost_ret (results_none rfl _ _ _) rfl ?_
          exact ⟨rfl, dk, hsk, by rw [HF.out, show k = i by omega]; exact HR.out.1, by rw [HF.out, show k = i by omega]; exact HR.out.2, S2.out⟩
end Go.Proofs.YtnnmakkbnfckmaaDoor
