/- What the library's stable sort calls on a row of ints: the change of two stretches, the turn of two blocks. -/
import Derived.Test.YtnnmakkbnfckmaaDoorS0
import Derived.Sort.WalkB2
import Derived.Sort.WalkB12
import Derived.Deep.LoopGhost
namespace Go.Proofs.YtnnmakkbnfckmaaDoor
open Go.RowKit Go.Shelf Go.Sort Go.Lib
variable {α : Type} [Inhabited α]

/-- The two cells of a pair of a row. -/
theorem cellsL {iv : α → Int × Int} {d0 dk : Array α} {w0 W : World} {blk off : Nat} (S : SWL iv w0 blk off dk W) (R : RowK (encL iv) 2 w0 blk off d0) (hs : dk.size = d0.size) (i : Nat) (hi : i < dk.size) :
    W.cell? ⟨blk, off + i * 2, none⟩ = some (.int .i64 (iv dk[i]!).1) ∧ W.cell? ⟨blk, off + i * 2 + 1, none⟩ = some (.int .i64 (iv dk[i]!).2) ∧ W.frozen? ⟨blk, off + i * 2, none⟩ = false ∧ W.frozen? ⟨blk, off + i * 2 + 1, none⟩ = false := by
  have h := S.holds R.hblk R.hH hs
  have hc := HoldsK.cells h R.hk hi
  have hz := rowK_bnd dk 2 i hi
  have hf : (flatK (encL iv) 2 dk).size = dk.size * 2 := size_flatK ..
  refine ⟨hc 0 _ rfl, hc 1 _ rfl, (h (i * 2) (by omega)).2, ?_⟩
  have := (h (i * 2 + 1) (by omega)).2
  rwa [← Nat.add_assoc] at this
theorem storesL {W : World} {blk p q : Nat} {x y : Int × Int} {v0 v1 u0 u1 : Value} (ca : W.cell? ⟨blk, p, none⟩ = some v0) (ca1 : W.cell? ⟨blk, p + 1, none⟩ = some v1) (cc : W.cell? ⟨blk, q, none⟩ = some u0) (cc1 : W.cell? ⟨blk, q + 1, none⟩ = some u1) (h : p + 1 < q ∨ q + 1 < p) :
    (W.setCell ⟨blk, p, none⟩ (.int .i64 y.1)).cell? ⟨blk, p + 1, none⟩ = some v1 ∧
    ((W.setCell ⟨blk, p, none⟩ (.int .i64 y.1)).setCell ⟨blk, p + 1, none⟩ (.int .i64 y.2)).cell? ⟨blk, q, none⟩ = some u0 ∧
    (((W.setCell ⟨blk, p, none⟩ (.int .i64 y.1)).setCell ⟨blk, p + 1, none⟩ (.int .i64 y.2)).setCell ⟨blk, q, none⟩ (.int .i64 x.1)).cell? ⟨blk, q + 1, none⟩ = some u1 := by
  have ne : ∀ i j : Nat, i ≠ j → (⟨blk, i, none⟩ : Addr) ≠ ⟨blk, j, none⟩ := fun i j hn e => hn (by injection e)
  refine ⟨?_, ?_, ?_⟩
  · rw [World.cell?_setCell_other _ _ _ _ (ne _ _ (by omega))]; exact ca1
  · rw [World.cell?_setCell_other _ _ _ _ (ne _ _ (by omega)), World.cell?_setCell_other _ _ _ _ (ne _ _ (by omega))]; exact cc
  · rw [World.cell?_setCell_other _ _ _ _ (ne _ _ (by omega)), World.cell?_setCell_other _ _ _ _ (ne _ _ (by omega)), World.cell?_setCell_other _ _ _ _ (ne _ _ (by omega))]; exact cc1
theorem swapF_step {d dk : Array α} {a b k : Nat} (h : fa dk = swapF (fa d) a b k) (hab : a + k < b) (hs : dk.size = d.size) (hb : b + k < d.size) : fa (swp dk (a + k) (b + k)) = swapF (fa d) a b (k + 1) := by
  funext x
  rw [fa_swp dk (by omega) (by omega), h]
  unfold swapF
  repeat' split
  all_goals first | rfl | omega | (congr 1; omega)

set_option maxHeartbeats 16000000 in
set_option maxRecDepth 1000000 in
theorem swapRangeI {iv : α → Int} {g : Nat} {cb : Array Value} {key : α → Int} {d0 : Array α} {w0 : World} {blk off : Nat} (H : SortI iv g cb key d0 w0 blk off) {d : Array α} {w : World} (hs : d.size = d0.size) (S : SWI iv w0 blk off d w) (cap : Nat) (fv : Value) {a b n : Nat} (hab : a + n ≤ b) (hb : b + n ≤ d.size) :
    Calls Tryd.prog 148 #[.slice (some ⟨blk, off, none⟩) d.size cap, .int .i64 a, .int .i64 b, .int .i64 n, fv] w fun e w' => e = .returned (.tuple #[]) ∧
      ∃ d' : Array α, d'.size = d.size ∧ fa d' = swapF (fa d) a b n ∧ SWI iv w0 blk off d' w' := by
  have hz : d.size < 4611686018427387904 := hs ▸ H.sz
  have hd0 : d0.size = d.size := hs.symm
  have R := H.R
  have RR : Hid (∀ x : Nat, x = d.size → x = d0.size) := fun x e => e.trans hs
  clear hs hd0
  have mixed : Tryd.prog.follows .mixedOrders = true := by kernel_rfl
  have S0 : Aside (SW (encI iv) w0 blk off d w) := S
  clear S
  go_enter Tryd.func148, Tryd.ntmps148
  go_wp2
  go_loopg [10] n (fun gk v wr => ∃ (k : Nat) (dk : Array α), v = .int .i64 k ∧ k ≤ n ∧ n - k ≤ gk ∧ dk.size = d.size ∧ Hid (fa dk = swapF (fa d) a b k) ∧ Aside (SW (encI iv) w0 blk off dk wr))
  case atStart => exact ⟨0, d, by go_num, by omega, by omega, rfl, (show _ = _ from by funext x; unfold swapF; (repeat' split); all_goals (first | rfl | omega)), S0⟩
  case round =>
    clear S0
    obtain ⟨k, dk, rfl, hk, hg, hsk, HF, S1⟩ := hrel
    by_cases hlt : k < n
    · have hltz : (k : Int) < (n : Int) := by omega
      obtain ⟨iN, hiN⟩ : ∃ q, q = a + k := ⟨_, rfl⟩
      obtain ⟨jN, hjN⟩ : ∃ q, q = b + k := ⟨_, rfl⟩
      have ea : ((a : Int) + (k : Int)).toNat = iN := by omega
      have pa : (0 : Int) ≤ (a : Int) + (k : Int) := by omega
      have ba : (a : Int) + (k : Int) < (d.size : Int) := by omega
      have ra : IntKind.i64.wrap ((a : Int) + (k : Int)) = (a : Int) + (k : Int) := by rw [IntKind.wrap_i64]; omega
      have ec : ((b : Int) + (k : Int)).toNat = jN := by omega
      have pc : (0 : Int) ≤ (b : Int) + (k : Int) := by omega
      have bc : (b : Int) + (k : Int) < (d.size : Int) := by omega
      have rc : IntKind.i64.wrap ((b : Int) + (k : Int)) = (b : Int) + (k : Int) := by rw [IntKind.wrap_i64]; omega
      obtain ⟨x, hx⟩ : ∃ x, x = dk[a + k]! := ⟨_, rfl⟩
      obtain ⟨y, hy⟩ : ∃ x, x = dk[b + k]! := ⟨_, rfl⟩
      have S3 : Aside (SW (encI iv) w0 blk off (swp dk (a + k) (b + k)) ((wr.setCell ⟨blk, off + iN, none⟩ (encI iv y)).setCell ⟨blk, off + jN, none⟩ (encI iv x)).drew) := by rw [hiN, hjN, hx, hy]; exact S1.out.swapped R (a + k) (b + k) (by omega) (by omega)
      have ca := S1.out.c1 R (RR.out _ hsk) (a + k) (by omega)
      have cc := S1.out.c1 R (RR.out _ hsk) (b + k) (by omega)
      have fa1 := S1.out.f1 R (RR.out _ hsk) (a + k) (by omega)
      have fc1 := S1.out.f1 R (RR.out _ hsk) (b + k) (by omega)
      obtain ⟨u, cu⟩ := S1.out.c2 R (RR.out _ hsk) (a + k) (b + k) (by omega) (by omega) (encI iv y)
      rw [← hjN, ← hiN] at cu
      rw [← hx, ← hiN] at ca
      rw [← hy, ← hjN] at cc
      rw [← hiN] at fa1
      rw [← hjN] at fc1
      clear S1 hx hy hiN hjN
      go_wp2_with fail
      go_big_region_o
      clear ca cc cu fa1 fc1
      generalize ((wr.setCell ⟨blk, off + iN, none⟩ (encI iv y)).setCell ⟨blk, off + jN, none⟩ (encI iv x)).drew = w3 at S3 ⊢
      clear ea ec
      go_wp2
      go_roundg (n - (k + 1))
      case measure => omega
      case rel => exact ⟨k + 1, swp dk (a + k) (b + k), by go_num, by omega, by omega, by rw [size_swp]; exact hsk, (show _ = _ from swapF_step HF.out (by omega) hsk (by omega)), S3⟩
    · have hltz : ¬ (k : Int) < (n : Int) := by omega
      have : k = n := by omega
      subst this
      go_wp2
      go_end0
      exact ⟨rfl, dk, hsk, HF.out, S1.out⟩

set_option maxHeartbeats 16000000 in
set_option maxRecDepth 1000000 in
theorem swapRangeL {iv : α → Int × Int} {g : Nat} {cb : Array Value} {key : α → Int} {d0 : Array α} {w0 : World} {blk off : Nat} (H : SortL iv g cb key d0 w0 blk off) {d : Array α} {w : World} (hs : d.size = d0.size) (S : SWL iv w0 blk off d w) (cap : Nat) (fv : Value) {a b n : Nat} (hab : a + n ≤ b) (hb : b + n ≤ d.size) :
    Calls Tryd.prog 149 #[.slice (some ⟨blk, off, none⟩) d.size cap, .int .i64 a, .int .i64 b, .int .i64 n, fv] w fun e w' => e = .returned (.tuple #[]) ∧
      ∃ d' : Array α, d'.size = d.size ∧ fa d' = swapF (fa d) a b n ∧ SWL iv w0 blk off d' w' := by
  have hz : d.size < 4611686018427387904 := hs ▸ H.sz
  have hd0 : d0.size = d.size := hs.symm
  have R := H.R
  have RR : Hid (∀ x : Nat, x = d.size → x = d0.size) := fun x e => e.trans hs
  clear hs hd0
  have mixed : Tryd.prog.follows .mixedOrders = true := by kernel_rfl
  have S0 : Aside (SWK (encL iv) 2 w0 blk off d w) := S
  clear S
  go_enter Tryd.func149, Tryd.ntmps149
  go_wp2
  go_loopg [10] n (fun gk v wr => ∃ (k : Nat) (dk : Array α), v = .int .i64 k ∧ k ≤ n ∧ n - k ≤ gk ∧ dk.size = d.size ∧ Hid (fa dk = swapF (fa d) a b k) ∧ Aside (SWK (encL iv) 2 w0 blk off dk wr))
  case atStart => exact ⟨0, d, by go_num, by omega, by omega, rfl, (show _ = _ from by funext x; unfold swapF; (repeat' split); all_goals (first | rfl | omega)), S0⟩
  case round =>
    clear S0
    obtain ⟨k, dk, rfl, hk, hg, hsk, HF, S1⟩ := hrel
    by_cases hlt : k < n
    · have hltz : (k : Int) < (n : Int) := by omega
      obtain ⟨iN, hiN⟩ : ∃ q, q = a + k := ⟨_, rfl⟩
      obtain ⟨jN, hjN⟩ : ∃ q, q = b + k := ⟨_, rfl⟩
      have ea : ((a : Int) + (k : Int)).toNat = iN := by omega
      have pa : (0 : Int) ≤ (a : Int) + (k : Int) := by omega
      have ba : (a : Int) + (k : Int) < (d.size : Int) := by omega
      have ra : IntKind.i64.wrap ((a : Int) + (k : Int)) = (a : Int) + (k : Int) := by rw [IntKind.wrap_i64]; omega
      have ec : ((b : Int) + (k : Int)).toNat = jN := by omega
      have pc : (0 : Int) ≤ (b : Int) + (k : Int) := by omega
      have bc : (b : Int) + (k : Int) < (d.size : Int) := by omega
      have rc : IntKind.i64.wrap ((b : Int) + (k : Int)) = (b : Int) + (k : Int) := by rw [IntKind.wrap_i64]; omega
      obtain ⟨x, hx⟩ : ∃ x, x = dk[a + k]! := ⟨_, rfl⟩
      obtain ⟨y, hy⟩ : ∃ x, x = dk[b + k]! := ⟨_, rfl⟩
      have S3 : Aside (SWK (encL iv) 2 w0 blk off (swp dk (a + k) (b + k)) ((wr.drew.setCells blk (off + iN * 2) (encL iv y)).setCells blk (off + jN * 2) (encL iv x))) := by rw [hiN, hjN, hx, hy]; exact S1.out.swapped R (a + k) (b + k) (by omega) (by omega)
      obtain ⟨ca, ca1, fa1, fa2⟩ := cellsL S1.out R (RR.out _ hsk) (a + k) (by omega)
      obtain ⟨cc, cc1, fc1, fc2⟩ := cellsL S1.out R (RR.out _ hsk) (b + k) (by omega)
      have hne : iN * 2 + 1 < jN * 2 := by omega
      rw [← hx, ← hiN] at ca ca1
      rw [← hy, ← hjN] at cc cc1
      rw [← hiN] at fa1 fa2
      rw [← hjN] at fc1 fc2
      obtain ⟨e1, e2, e3⟩ := storesL (x := iv x) (y := iv y) ca ca1 cc cc1 (by omega)
      have S3 : Aside (SWK (encL iv) 2 w0 blk off (swp dk (a + k) (b + k)) ((((wr.setCell ⟨blk, off + iN * 2, none⟩ (.int .i64 (iv y).1)).setCell ⟨blk, off + iN * 2 + 1, none⟩ (.int .i64 (iv y).2)).setCell ⟨blk, off + jN * 2, none⟩ (.int .i64 (iv x).1)).setCell ⟨blk, off + jN * 2 + 1, none⟩ (.int .i64 (iv x).2)).drew) := S3
      clear S1 hx hy hiN hjN
      go_wp2_with fail
      go_big_region_o
      clear ca cc ca1 cc1 fa1 fa2 fc1 fc2 e1 e2 e3
      generalize ((((wr.setCell ⟨blk, off + iN * 2, none⟩ (.int .i64 (iv y).1)).setCell ⟨blk, off + iN * 2 + 1, none⟩ (.int .i64 (iv y).2)).setCell ⟨blk, off + jN * 2, none⟩ (.int .i64 (iv x).1)).setCell ⟨blk, off + jN * 2 + 1, none⟩ (.int .i64 (iv x).2)).drew = w3 at S3 ⊢
      clear ea ec
      go_wp2
      go_roundg (n - (k + 1))
      case measure => omega
      case rel => exact ⟨k + 1, swp dk (a + k) (b + k), by go_num, by omega, by omega, by rw [size_swp]; exact hsk, (show _ = _ from swapF_step HF.out (by omega) hsk (by omega)), S3⟩
    · have hltz : ¬ (k : Int) < (n : Int) := by omega
      have : k = n := by omega
      subst this
      go_wp2
      go_end0
      exact ⟨rfl, dk, hsk, HF.out, S1.out⟩

end Go.Proofs.YtnnmakkbnfckmaaDoor
