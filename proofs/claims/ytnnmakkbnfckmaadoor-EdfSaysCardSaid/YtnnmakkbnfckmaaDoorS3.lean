/- The merge in place of the library's stable sort, where one of its two parts is one number alone. -/
import Derived.Test.YtnnmakkbnfckmaaDoorS2
import Derived.Test.YtnnmakkbnfckmaaDoorP3
namespace Go.Proofs.YtnnmakkbnfckmaaDoor
open Go.RowKit Go.Shelf Go.Sort Go.Lib
variable {α : Type} [Inhabited α]

theorem elI {iv : α → Int} {d0 dk : Array α} {w0 W : World} {blk off : Nat} (S : SWI iv w0 blk off dk W) (R : Row1 (encI iv) w0 blk off d0) (hs : dk.size = d0.size) (i : Nat) (hi : i < dk.size) (x : α) (hx : dk[i]! = x) :
    (∀ n os, (grow (W.drewN n) os).cell? ⟨blk, off + i, none⟩ = some (.int .i64 (iv x))) ∧ True := ⟨fun n os => by rw [← hx]; exact S.cl R hs i hi n os, trivial⟩
theorem elL {iv : α → Int × Int} {d0 dk : Array α} {w0 W : World} {blk off : Nat} (S : SWL iv w0 blk off dk W) (R : RowK (encL iv) 2 w0 blk off d0) (hs : dk.size = d0.size) (i : Nat) (hi : i < dk.size) (x : α) (hx : dk[i]! = x) :
    (∀ n os, (grow (W.drewN n) os).cell? ⟨blk, off + i * 2, none⟩ = some (.int .i64 (iv x).1)) ∧ (∀ n os, (grow (W.drewN n) os).cell? ⟨blk, off + i * 2 + 1, none⟩ = some (.int .i64 (iv x).2)) :=
  ⟨fun n os => by rw [← hx]; exact (cellsL (S.grown n os) R hs i hi).1, fun n os => by rw [← hx]; exact (cellsL (S.grown n os) R hs i hi).2.1⟩
theorem cmpI {iv : α → Int} {g : Nat} {cb : Array Value} {key : α → Int} {d0 dk : Array α} {w0 W : World} {blk off : Nat} (H : SortI iv g cb key d0 w0 blk off) (S : SWI iv w0 blk off dk W) (hs : dk.size = d0.size) (x y : α) (c : Int) (hc : Lib.compareInt (key x) (key y) = c) (n : Nat) (os : Array Obj) :
    Calls Tryd.prog g (#[.int .i64 (iv x), .int .i64 (iv y)] ++ cb) (grow (W.drewN n) os) fun e w' => e = .returned (.int .i64 c) ∧ ∃ q os', w' = grow ((grow (W.drewN n) os).drewN q) os' := by
  rw [← hc]; exact S.cmp H.cmp hs x y n os
theorem cmpL {iv : α → Int × Int} {g : Nat} {cb : Array Value} {key : α → Int} {d0 dk : Array α} {w0 W : World} {blk off : Nat} (H : SortL iv g cb key d0 w0 blk off) (S : SWL iv w0 blk off dk W) (hs : dk.size = d0.size) (x y : α) (c : Int) (hc : Lib.compareInt (key x) (key y) = c) (n : Nat) (os : Array Obj) :
    Calls Tryd.prog g (#[.agg #[.int .i64 (iv x).1, .int .i64 (iv x).2], .agg #[.int .i64 (iv y).1, .int .i64 (iv y).2]] ++ cb) (grow (W.drewN n) os) fun e w' => e = .returned (.int .i64 c) ∧ ∃ q os', w' = grow ((grow (W.drewN n) os).drewN q) os' := by
  rw [← hc]; exact S.cmp H.cmp hs x y n os
theorem cmp_lt {x y : Int} (c : Int) (h : Lib.compareInt x y = c) : (c < 0 ↔ x < y) := by
  subst h
  unfold Lib.compareInt
  split
  · simp [*]
  · split <;> simp <;> omega

theorem exI {iv : α → Int} {d0 dk : Array α} {w0 W : World} {blk off : Nat} (S : SWI iv w0 blk off dk W) (R : Row1 (encI iv) w0 blk off d0) (hs : dk.size = d0.size) (i j : Nat) (hi : i < dk.size) (hj : j < dk.size) (hij : i ≠ j) (iN jN : Nat) (hiN : iN = i) (hjN : jN = j) (x y : α) (hx : dk[i]! = x) (hy : dk[j]! = y) :
    W.cell? ⟨blk, off + iN, none⟩ = some (.int .i64 (iv x)) ∧ True ∧ W.cell? ⟨blk, off + jN, none⟩ = some (.int .i64 (iv y)) ∧ True ∧ W.frozen? ⟨blk, off + iN, none⟩ = false ∧ True ∧ W.frozen? ⟨blk, off + jN, none⟩ = false ∧ True ∧
    (W.setCell ⟨blk, off + iN, none⟩ (.int .i64 (iv y))).cell? ⟨blk, off + jN, none⟩ = some (.int .i64 (iv y)) ∧ True ∧ True ∧
    Aside (SWI iv w0 blk off (swp dk i j) ((W.setCell ⟨blk, off + iN, none⟩ (.int .i64 (iv y))).setCell ⟨blk, off + jN, none⟩ (.int .i64 (iv x))).drew) := by
  subst hiN hjN hx hy
  refine ⟨S.c1 R hs _ hi, trivial, S.c1 R hs _ hj, trivial, S.f1 R hs _ hi, trivial, S.f1 R hs _ hj, trivial, ?_, trivial, trivial, S.swapped R _ _ hi hj⟩
  rw [World.cell?_setCell_other _ _ _ _ (fun e => hij (by injection e; omega))]
  exact S.c1 R hs _ hj
theorem exL {iv : α → Int × Int} {d0 dk : Array α} {w0 W : World} {blk off : Nat} (S : SWL iv w0 blk off dk W) (R : RowK (encL iv) 2 w0 blk off d0) (hs : dk.size = d0.size) (i j : Nat) (hi : i < dk.size) (hj : j < dk.size) (hij : i ≠ j) (iN jN : Nat) (hiN : iN = i) (hjN : jN = j) (x y : α) (hx : dk[i]! = x) (hy : dk[j]! = y) :
    W.cell? ⟨blk, off + iN * 2, none⟩ = some (.int .i64 (iv x).1) ∧ W.cell? ⟨blk, off + iN * 2 + 1, none⟩ = some (.int .i64 (iv x).2) ∧ W.cell? ⟨blk, off + jN * 2, none⟩ = some (.int .i64 (iv y).1) ∧ W.cell? ⟨blk, off + jN * 2 + 1, none⟩ = some (.int .i64 (iv y).2) ∧
    W.frozen? ⟨blk, off + iN * 2, none⟩ = false ∧ W.frozen? ⟨blk, off + iN * 2 + 1, none⟩ = false ∧ W.frozen? ⟨blk, off + jN * 2, none⟩ = false ∧ W.frozen? ⟨blk, off + jN * 2 + 1, none⟩ = false ∧
    (W.setCell ⟨blk, off + iN * 2, none⟩ (.int .i64 (iv y).1)).cell? ⟨blk, off + iN * 2 + 1, none⟩ = some (.int .i64 (iv x).2) ∧
    ((W.setCell ⟨blk, off + iN * 2, none⟩ (.int .i64 (iv y).1)).setCell ⟨blk, off + iN * 2 + 1, none⟩ (.int .i64 (iv y).2)).cell? ⟨blk, off + jN * 2, none⟩ = some (.int .i64 (iv y).1) ∧
    (((W.setCell ⟨blk, off + iN * 2, none⟩ (.int .i64 (iv y).1)).setCell ⟨blk, off + iN * 2 + 1, none⟩ (.int .i64 (iv y).2)).setCell ⟨blk, off + jN * 2, none⟩ (.int .i64 (iv x).1)).cell? ⟨blk, off + jN * 2 + 1, none⟩ = some (.int .i64 (iv y).2) ∧
    Aside (SWL iv w0 blk off (swp dk i j) ((((W.setCell ⟨blk, off + iN * 2, none⟩ (.int .i64 (iv y).1)).setCell ⟨blk, off + iN * 2 + 1, none⟩ (.int .i64 (iv y).2)).setCell ⟨blk, off + jN * 2, none⟩ (.int .i64 (iv x).1)).setCell ⟨blk, off + jN * 2 + 1, none⟩ (.int .i64 (iv x).2)).drew) := by
  subst hiN hjN hx hy
  obtain ⟨ca, ca1, fa1, fa2⟩ := cellsL S R hs _ hi
  obtain ⟨cc, cc1, fc1, fc2⟩ := cellsL S R hs _ hj
  obtain ⟨e1, e2, e3⟩ := storesL (x := iv dk[iN]!) (y := iv dk[jN]!) ca ca1 cc cc1 (by omega)
  exact ⟨ca, ca1, cc, cc1, fa1, fa2, fc1, fc2, e1, e2, e3, S.swapped R _ _ hi hj⟩

set_option maxHeartbeats 16000000 in
set_option maxRecDepth 1000000 in
theorem symOneI {iv : α → Int} {g : Nat} {cb : Array Value} {key : α → Int} {d0 : Array α} {w0 : World} {blk off : Nat} (H : SortI iv g cb key d0 w0 blk off) {d : Array α} {w : World} (hs : d.size = d0.size) (S : SWI iv w0 blk off d w) (cap : Nat) {a b : Nat} (hmb : a + 1 < b) (hb : b ≤ d.size) (hv : SortF key (a + 1) b (fa d)) :
    Calls Tryd.prog 134 #[.slice (some ⟨blk, off, none⟩) d.size cap, .int .i64 a, .int .i64 (a + 1 : Nat), .int .i64 b, .func (.func g) #[] cb] w fun e w' => e = .returned (.tuple #[]) ∧
      ∃ d' : Array α, d'.size = d.size ∧ StabF key a b (fa d) (fa d') ∧ SortF key a b (fa d') ∧ SWI iv w0 blk off d' w' := by
  have hz : d.size < 4611686018427387904 := hs ▸ H.sz
  have eg := H.eg
  have HH : Hid (SortI iv g cb key d0 w0 blk off) := H
  have HV : Hid (SortF key (a + 1) b (fa d)) := hv
  have RR : Hid (∀ x : Nat, x = d.size → x = d0.size) := fun x e => e.trans hs
  clear hs H hv
  have mixed : Tryd.prog.follows .mixedOrders = true := by kernel_rfl
  have S0 : Aside (SWI iv w0 blk off d w) := S
  clear S
  have r0 : IntKind.i64.wrap ((a : Int) + 1 - (a : Int)) = 1 := by rw [IntKind.wrap_i64]; omega
  go_enter Tryd.func134, Tryd.ntmps134
  go_wp2
  go_loopg [10, 11] d.size (fun gk vi vj wr => ∃ i j : Nat, vi = .int .i64 i ∧ vj = .int .i64 j ∧ a + 1 ≤ i ∧ i ≤ j ∧ j ≤ b ∧ j - i ≤ gk ∧ Hid ((∀ t, a + 1 ≤ t → t < i → key (fa d t) < key (fa d a)) ∧ (∀ t, j ≤ t → t < b → key (fa d a) ≤ key (fa d t))) ∧ Aside (SWI iv w0 blk off d wr))
  case atStart => exact ⟨a + 1, b, by go_num, rfl, by omega, by omega, by omega, by omega, (show _ ∧ _ from ⟨fun t h1 h2 => by omega, fun t h1 h2 => by omega⟩), S0⟩
  case round =>
    clear S0
    obtain ⟨i, j, rfl, rfl, hai, hij, hjb, hg, HI, S1⟩ := hrel
    by_cases hlt : i < j
    · have hltz : (i : Int) < (j : Int) := by omega
      obtain ⟨c, hcc⟩ : ∃ c, c = (i + j) / 2 := ⟨_, rfl⟩
      have hcz : ((i : Int) + (j : Int)) / 2 = (c : Int) := by omega
      have bc : (c : Int) < (d.size : Int) := by omega
      have ba : (a : Int) < (d.size : Int) := by omega
      obtain ⟨x, hx⟩ : ∃ x, d[c]! = x := ⟨_, rfl⟩
      obtain ⟨y, hy⟩ : ∃ y, d[a]! = y := ⟨_, rfl⟩
      obtain ⟨l1, l2⟩ := elI S1.out HH.out.R (RR.out _ rfl) c (by omega) x hx
      obtain ⟨l3, l4⟩ := elI S1.out HH.out.R (RR.out _ rfl) a (by omega) y hy
      obtain ⟨q, hq⟩ : ∃ q, Lib.compareInt (key x) (key y) = q := ⟨_, rfl⟩
      have hcl := cmpI HH.out S1.out (RR.out _ rfl) x y q hq
      have hqk := cmp_lt q hq
      rw [← hx, ← hy] at hqk
      have hqk : (q < 0 ↔ key (fa d c) < key (fa d a)) := hqk
      have HQ : Hid _ := hqk
      have hcc' : Hid (c = (i + j) / 2) := hcc
      clear hqk hq hx hy hcc
      by_cases hneg : q < 0
      · have hnd : decide (q < 0) = true := decide_eq_true hneg
        go_wp2_with fail
        go_quiet_grown (first | (go_at_fn g; refine Calls.grown_of (hcl _ _)))
        have S2 : Aside (SWI iv w0 blk off d (grow (wr.drewN nq) osq)) := S1.out.grown nq osq
        clear l1 l2 l3 l4 hcl S1
        generalize grow (wr.drewN nq) osq = w2 at S2 ⊢
        go_wp2
        have hcc := hcc'.out
        go_roundg (j - (c + 1))
        case measure => omega
        case rel =>
          exact ⟨c + 1, j, by go_num, rfl, by omega, by omega, hjb, by omega, (show _ ∧ _ from ⟨fun t h1 h2 => by
            by_cases e : t = c
            · rw [e]; exact HQ.out.1 hneg
            · exact Int.lt_of_le_of_lt (HV.out t c h1 (by omega) (by omega)) (HQ.out.1 hneg), HI.out.2⟩), S2⟩
      · have hnd : decide (q < 0) = false := decide_eq_false hneg
        go_wp2_with fail
        go_quiet_grown (first | (go_at_fn g; refine Calls.grown_of (hcl _ _)))
        have S2 : Aside (SWI iv w0 blk off d (grow (wr.drewN nq) osq)) := S1.out.grown nq osq
        clear l1 l2 l3 l4 hcl S1
        generalize grow (wr.drewN nq) osq = w2 at S2 ⊢
        go_wp2
        have hcc := hcc'.out
        go_roundg (c - i)
        case measure => omega
        case rel =>
          exact ⟨i, c, rfl, rfl, hai, by omega, by omega, by omega, (show _ ∧ _ from ⟨HI.out.1, fun t h1 h2 => by
            have hle : key (fa d a) ≤ key (fa d c) := by have := HQ.out; omega
            by_cases e : t = c
            · rw [e]; exact hle
            · exact Int.le_trans hle (HV.out c t (by omega) (by omega) h2)⟩), S2⟩
    · have hltz : ¬ (i : Int) < (j : Int) := by omega
      have hij' : i = j := by omega
      subst hij'
      have hR := ins_left (f := fa d) hai hjb HV.out HI.out.1 HI.out.2
      have HR : Hid _ := hR
      clear hR HI HV hlt hij
      have ri : IntKind.i64.wrap ((i : Int) - 1) = (i : Int) - 1 := by rw [IntKind.wrap_i64]; omega
      go_wp2
      go_loopg [13] d.size (fun gk v wr => ∃ (k : Nat) (dk : Array α), v = .int .i64 k ∧ a ≤ k ∧ k + 1 ≤ i ∧ i - 1 - k ≤ gk ∧ dk.size = d.size ∧ Hid (fa dk = rotF (fa d) a (a + 1) (k + 1)) ∧ Aside (SWI iv w0 blk off dk wr))
      case atStart => exact ⟨a, d, rfl, by omega, by omega, by omega, rfl, (show _ = _ from (rotF_id _ (by omega) (by omega) (by omega)).symm), S1⟩
      case round =>
        clear S1
        obtain ⟨k, dk, rfl, hak, hki, hg, hsk, HF, S2⟩ := hrel
        by_cases hlt : k < i - 1
        · have hltz : (k : Int) < (i : Int) - 1 := by omega
          obtain ⟨iN, hiN⟩ : ∃ q, q = k := ⟨_, rfl⟩
          obtain ⟨jN, hjN⟩ : ∃ q, q = k + 1 := ⟨_, rfl⟩
          have ea : (k : Int).toNat = iN := by omega
          have ba : (k : Int) < (d.size : Int) := by omega
          have ec : ((k : Int) + 1).toNat = jN := by omega
          have pc : (0 : Int) ≤ (k : Int) + 1 := by omega
          have bc : (k : Int) + 1 < (d.size : Int) := by omega
          have rc : IntKind.i64.wrap ((k : Int) + 1) = (k : Int) + 1 := by rw [IntKind.wrap_i64]; omega
          obtain ⟨x, hx⟩ : ∃ x, dk[k]! = x := ⟨_, rfl⟩
          obtain ⟨y, hy⟩ : ∃ x, dk[k + 1]! = x := ⟨_, rfl⟩
          obtain ⟨c1, c2, c3, c4, f1, f2, f3, f4, s1, s2, s3, S3⟩ := exI S2.out HH.out.R (RR.out _ hsk) k (k + 1) (by omega) (by omega) (by omega) iN jN hiN hjN x y hx hy
          clear S2 hx hy hiN hjN
          go_wp2_with fail
          go_big_region_o
          clear c1 c2 c3 c4 f1 f2 f3 f4 s1 s2 s3 ea ec
          go_wp2
          go_roundg (i - 1 - (k + 1))
          case measure => omega
          case rel => exact ⟨k + 1, swp dk k (k + 1), by go_num, by omega, by omega, by omega, by rw [size_swp]; exact hsk, (show _ = _ from by funext x; rw [fa_swp dk (by omega) (by omega), HF.out, rotF_up _ hak]), S3⟩
        · have hltz : ¬ (k : Int) < (i : Int) - 1 := by omega
          go_wp2
          (try simp only [Exit.inBlock, Exit.then])
          refine bodyPost_ret (results_none rfl _ _ _) rfl ?_
          exact ⟨rfl, dk, hsk, by rw [HF.out, show k + 1 = i by omega]; exact HR.out.1, by rw [HF.out, show k + 1 = i by omega]; exact HR.out.2, S2.out⟩
set_option maxHeartbeats 16000000 in
set_option maxRecDepth 1000000 in
theorem symOneL {iv : α → (Int×Int)} {g : Nat} {cb : Array Value} {key : α → Int} {d0 : Array α} {w0 : World} {blk off : Nat} (H : SortL iv g cb key d0 w0 blk off) {d : Array α} {w : World} (hs : d.size = d0.size) (S : SWL iv w0 blk off d w) (cap : Nat) {a b : Nat} (hmb : a + 1 < b) (hb : b ≤ d.size) (hv : SortF key (a + 1) b (fa d)) :
    Calls Tryd.prog 137 #[.slice (some ⟨blk, off, none⟩) d.size cap, .int .i64 a, .int .i64 (a + 1 : Nat), .int .i64 b, .func (.func g) #[] cb] w fun e w' => e = .returned (.tuple #[]) ∧
      ∃ d' : Array α, d'.size = d.size ∧ StabF key a b (fa d) (fa d') ∧ SortF key a b (fa d') ∧ SWL iv w0 blk off d' w' := by
  have hz : d.size < 4611686018427387904 := hs ▸ H.sz
  have eg := H.eg
  have HH : Hid (SortL iv g cb key d0 w0 blk off) := H
  have HV : Hid (SortF key (a + 1) b (fa d)) := hv
  have RR : Hid (∀ x : Nat, x = d.size → x = d0.size) := fun x e => e.trans hs
  clear hs H hv
  have mixed : Tryd.prog.follows .mixedOrders = true := by kernel_rfl
  have S0 : Aside (SWL iv w0 blk off d w) := S
  clear S
  have r0 : IntKind.i64.wrap ((a : Int) + 1 - (a : Int)) = 1 := by rw [IntKind.wrap_i64]; omega
  go_enter Tryd.func137, Tryd.ntmps137
  go_wp2
  go_loopg [10, 11] d.size (fun gk vi vj wr => ∃ i j : Nat, vi = .int .i64 i ∧ vj = .int .i64 j ∧ a + 1 ≤ i ∧ i ≤ j ∧ j ≤ b ∧ j - i ≤ gk ∧ Hid ((∀ t, a + 1 ≤ t → t < i → key (fa d t) < key (fa d a)) ∧ (∀ t, j ≤ t → t < b → key (fa d a) ≤ key (fa d t))) ∧ Aside (SWL iv w0 blk off d wr))
  case atStart => exact ⟨a + 1, b, by go_num, rfl, by omega, by omega, by omega, by omega, (show _ ∧ _ from ⟨fun t h1 h2 => by omega, fun t h1 h2 => by omega⟩), S0⟩
  case round =>
    clear S0
    obtain ⟨i, j, rfl, rfl, hai, hij, hjb, hg, HI, S1⟩ := hrel
    by_cases hlt : i < j
    · have hltz : (i : Int) < (j : Int) := by omega
      obtain ⟨c, hcc⟩ : ∃ c, c = (i + j) / 2 := ⟨_, rfl⟩
      have hcz : ((i : Int) + (j : Int)) / 2 = (c : Int) := by omega
      have bc : (c : Int) < (d.size : Int) := by omega
      have ba : (a : Int) < (d.size : Int) := by omega
      obtain ⟨x, hx⟩ : ∃ x, d[c]! = x := ⟨_, rfl⟩
      obtain ⟨y, hy⟩ : ∃ y, d[a]! = y := ⟨_, rfl⟩
      obtain ⟨l1, l2⟩ := elL S1.out HH.out.R (RR.out _ rfl) c (by omega) x hx
      obtain ⟨l3, l4⟩ := elL S1.out HH.out.R (RR.out _ rfl) a (by omega) y hy
      obtain ⟨q, hq⟩ : ∃ q, Lib.compareInt (key x) (key y) = q := ⟨_, rfl⟩
      have hcl := cmpL HH.out S1.out (RR.out _ rfl) x y q hq
      have hqk := cmp_lt q hq
      rw [← hx, ← hy] at hqk
      have hqk : (q < 0 ↔ key (fa d c) < key (fa d a)) := hqk
      have HQ : Hid _ := hqk
      have hcc' : Hid (c = (i + j) / 2) := hcc
      clear hqk hq hx hy hcc
      by_cases hneg : q < 0
      · have hnd : decide (q < 0) = true := decide_eq_true hneg
        go_wp2_with fail
        go_quiet_grown (first | (go_at_fn g; refine Calls.grown_of (hcl _ _)))
        have S2 : Aside (SWL iv w0 blk off d (grow (wr.drewN nq) osq)) := S1.out.grown nq osq
        clear l1 l2 l3 l4 hcl S1
        generalize grow (wr.drewN nq) osq = w2 at S2 ⊢
        go_wp2
        have hcc := hcc'.out
        go_roundg (j - (c + 1))
        case measure => omega
        case rel =>
          exact ⟨c + 1, j, by go_num, rfl, by omega, by omega, hjb, by omega, (show _ ∧ _ from ⟨fun t h1 h2 => by
            by_cases e : t = c
            · rw [e]; exact HQ.out.1 hneg
            · exact Int.lt_of_le_of_lt (HV.out t c h1 (by omega) (by omega)) (HQ.out.1 hneg), HI.out.2⟩), S2⟩
      · have hnd : decide (q < 0) = false := decide_eq_false hneg
        go_wp2_with fail
        go_quiet_grown (first | (go_at_fn g; refine Calls.grown_of (hcl _ _)))
        have S2 : Aside (SWL iv w0 blk off d (grow (wr.drewN nq) osq)) := S1.out.grown nq osq
        clear l1 l2 l3 l4 hcl S1
        generalize grow (wr.drewN nq) osq = w2 at S2 ⊢
        go_wp2
        have hcc := hcc'.out
        go_roundg (c - i)
        case measure => omega
        case rel =>
          exact ⟨i, c, rfl, rfl, hai, by omega, by omega, by omega, (show _ ∧ _ from ⟨HI.out.1, fun t h1 h2 => by
            have hle : key (fa d a) ≤ key (fa d c) := by have := HQ.out; omega
            by_cases e : t = c
            · rw [e]; exact hle
            · exact Int.le_trans hle (HV.out c t (by omega) (by omega) h2)⟩), S2⟩
    · have hltz : ¬ (i : Int) < (j : Int) := by omega
      have hij' : i = j := by omega
      subst hij'
      have hR := ins_left (f := fa d) hai hjb HV.out HI.out.1 HI.out.2
      have HR : Hid _ := hR
      clear hR HI HV hlt hij
      have ri : IntKind.i64.wrap ((i : Int) - 1) = (i : Int) - 1 := by rw [IntKind.wrap_i64]; omega
      go_wp2
      go_loopg [13] d.size (fun gk v wr => ∃ (k : Nat) (dk : Array α), v = .int .i64 k ∧ a ≤ k ∧ k + 1 ≤ i ∧ i - 1 - k ≤ gk ∧ dk.size = d.size ∧ Hid (fa dk = rotF (fa d) a (a + 1) (k + 1)) ∧ Aside (SWL iv w0 blk off dk wr))
      case atStart => exact ⟨a, d, rfl, by omega, by omega, by omega, rfl, (show _ = _ from (rotF_id _ (by omega) (by omega) (by omega)).symm), S1⟩
      case round =>
        clear S1
        obtain ⟨k, dk, rfl, hak, hki, hg, hsk, HF, S2⟩ := hrel
        by_cases hlt : k < i - 1
        · have hltz : (k : Int) < (i : Int) - 1 := by omega
          obtain ⟨iN, hiN⟩ : ∃ q, q = k := ⟨_, rfl⟩
          obtain ⟨jN, hjN⟩ : ∃ q, q = k + 1 := ⟨_, rfl⟩
          have ea : (k : Int).toNat = iN := by omega
          have ba : (k : Int) < (d.size : Int) := by omega
          have ec : ((k : Int) + 1).toNat = jN := by omega
          have pc : (0 : Int) ≤ (k : Int) + 1 := by omega
          have bc : (k : Int) + 1 < (d.size : Int) := by omega
          have rc : IntKind.i64.wrap ((k : Int) + 1) = (k : Int) + 1 := by rw [IntKind.wrap_i64]; omega
          obtain ⟨x, hx⟩ : ∃ x, dk[k]! = x := ⟨_, rfl⟩
          obtain ⟨y, hy⟩ : ∃ x, dk[k + 1]! = x := ⟨_, rfl⟩
          obtain ⟨c1, c2, c3, c4, f1, f2, f3, f4, s1, s2, s3, S3⟩ := exL S2.out HH.out.R (RR.out _ hsk) k (k + 1) (by omega) (by omega) (by omega) iN jN hiN hjN x y hx hy
          clear S2 hx hy hiN hjN
          go_wp2_with fail
          go_big_region_o
          clear c1 c2 c3 c4 f1 f2 f3 f4 s1 s2 s3 ea ec
          go_wp2
          go_roundg (i - 1 - (k + 1))
          case measure => omega
          case rel => exact ⟨k + 1, swp dk k (k + 1), by go_num, by omega, by omega, by omega, by rw [size_swp]; exact hsk, (show _ = _ from by funext x; rw [fa_swp dk (by omega) (by omega), HF.out, rotF_up _ hak]), S3⟩
        · have hltz : ¬ (k : Int) < (i : Int) - 1 := by omega
          go_wp2
          (try simp only [Exit.inBlock, Exit.then])
          refine bodyPost_ret (results_none rfl _ _ _) rfl ?_
          exact ⟨rfl, dk, hsk, by rw [HF.out, show k + 1 = i by omega]; exact HR.out.1, by rw [HF.out, show k + 1 = i by omega]; exact HR.out.2, S2.out⟩
end Go.Proofs.YtnnmakkbnfckmaaDoor
