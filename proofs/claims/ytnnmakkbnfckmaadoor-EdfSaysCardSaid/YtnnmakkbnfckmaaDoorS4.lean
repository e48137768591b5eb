/- The merge in place of the library's stable sort, where its second part is one number alone. -/
import Derived.Test.YtnnmakkbnfckmaaDoorS3
namespace Go.Proofs.YtnnmakkbnfckmaaDoor
open Go.RowKit Go.Shelf Go.Sort Go.Lib
variable {α : Type} [Inhabited α]

set_option maxHeartbeats 16000000 in
set_option maxRecDepth 1000000 in
theorem symLastI {iv : α → Int} {g : Nat} {cb : Array Value} {key : α → Int} {d0 : Array α} {w0 : World} {blk off : Nat} (H : SortI iv g cb key d0 w0 blk off) {d : Array α} {w : World} (hs : d.size = d0.size) (S : SWI iv w0 blk off d w) (cap : Nat) {a m : Nat} (ham : a + 1 < m) (hb : m + 1 ≤ d.size) (hv : SortF key a m (fa d)) :
    Calls Tryd.prog 134 #[.slice (some ⟨blk, off, none⟩) d.size cap, .int .i64 a, .int .i64 m, .int .i64 (m + 1 : Nat), .func (.func g) #[] cb] w fun e w' => e = .returned (.tuple #[]) ∧
      ∃ d' : Array α, d'.size = d.size ∧ StabF key a (m + 1) (fa d) (fa d') ∧ SortF key a (m + 1) (fa d') ∧ SWI iv w0 blk off d' w' := by
  have hz : d.size < 4611686018427387904 := hs ▸ H.sz
  have eg := H.eg
  have HH : Hid (SortI iv g cb key d0 w0 blk off) := H
  have HV : Hid (SortF key a m (fa d)) := hv
  have RR : Hid (∀ x : Nat, x = d.size → x = d0.size) := fun x e => e.trans hs
  clear hs H hv
  have mixed : Tryd.prog.follows .mixedOrders = true := by kernel_rfl
  have S0 : Aside (SWI iv w0 blk off d w) := S
  clear S
  have r0 : IntKind.i64.wrap ((m : Int) + 1 - (m : Int)) = 1 := by rw [IntKind.wrap_i64]; omega
  have r1 : IntKind.i64.wrap ((m : Int) - (a : Int)) = (m : Int) - (a : Int) := by rw [IntKind.wrap_i64]; omega
  have n1 : ¬ (m : Int) - (a : Int) = 1 := by omega
  have n2 : ((m : Int) - (a : Int) == 1) = false := beq_false_of_ne n1
  go_enter Tryd.func134, Tryd.ntmps134
  go_wp2
  go_loopg [14, 15] d.size (fun gk vi vj wr => ∃ i j : Nat, vi = .int .i64 i ∧ vj = .int .i64 j ∧ a ≤ i ∧ i ≤ j ∧ j ≤ m ∧ j - i ≤ gk ∧ Hid ((∀ t, a ≤ t → t < i → key (fa d t) ≤ key (fa d m)) ∧ (∀ t, j ≤ t → t < m → key (fa d m) < key (fa d t))) ∧ Aside (SWI iv w0 blk off d wr))
  case atStart => exact ⟨a, m, rfl, rfl, by omega, by omega, by omega, by omega, (show _ ∧ _ from ⟨fun t h1 h2 => by omega, fun t h1 h2 => by omega⟩), S0⟩
  case round =>
    clear S0
    obtain ⟨i, j, rfl, rfl, hai, hij, hjb, hg, HI, S1⟩ := hrel
    by_cases hlt : i < j
    · have hltz : (i : Int) < (j : Int) := by omega
      obtain ⟨c, hcc⟩ : ∃ c, c = (i + j) / 2 := ⟨_, rfl⟩
      have hcz : ((i : Int) + (j : Int)) / 2 = (c : Int) := by omega
      have bc : (c : Int) < (d.size : Int) := by omega
      have ba : (m : Int) < (d.size : Int) := by omega
      obtain ⟨x, hx⟩ : ∃ x, d[c]! = x := ⟨_, rfl⟩
      obtain ⟨y, hy⟩ : ∃ y, d[m]! = y := ⟨_, rfl⟩
      obtain ⟨l1, l2⟩ := elI S1.out HH.out.R (RR.out _ rfl) c (by omega) x hx
      obtain ⟨l3, l4⟩ := elI S1.out HH.out.R (RR.out _ rfl) m (by omega) y hy
      obtain ⟨q, hq⟩ : ∃ q, Lib.compareInt (key y) (key x) = q := ⟨_, rfl⟩
      have hcl := cmpI HH.out S1.out (RR.out _ rfl) y x q hq
      have hqk := cmp_lt q hq
      rw [← hx, ← hy] at hqk
      have HQ : Hid (q < 0 ↔ key (fa d m) < key (fa d c)) := hqk
      have hcc' : Hid (c = (i + j) / 2) := hcc
      clear hqk hq hx hy hcc
      by_cases hneg : q < 0
      · have hnd : decide (q < 0) = true := decide_eq_true hneg
        go_wp2_with fail
        go_quiet_grown (first | (go_at_fn g; refine Calls.grown_of (hcl _ _)))
        have S2 : Aside (SWI iv w0 blk off d (grow (wr.drewN nq) osq)) := S1.out.grown nq osq
        clear l1 l2 l3 l4 hcl S1
        generalize grow (wr.drewN nq) osq = w2 at S2 ⊢
        go_wp2
        have hcc := hcc'.out
        go_roundg (c - i)
        case measure => omega
        case rel =>
          exact ⟨i, c, rfl, rfl, hai, by omega, by omega, by omega, (show _ ∧ _ from ⟨HI.out.1, fun t h1 h2 => by
            have hle : key (fa d m) < key (fa d c) := by have := HQ.out; omega
            by_cases e : t = c
            · rw [e]; exact hle
            · exact Int.lt_of_lt_of_le hle (HV.out c t (by omega) (by omega) h2)⟩), S2⟩
      · have hnd : decide (q < 0) = false := decide_eq_false hneg
        go_wp2_with fail
        go_quiet_grown (first | (go_at_fn g; refine Calls.grown_of (hcl _ _)))
        have S2 : Aside (SWI iv w0 blk off d (grow (wr.drewN nq) osq)) := S1.out.grown nq osq
        clear l1 l2 l3 l4 hcl S1
        generalize grow (wr.drewN nq) osq = w2 at S2 ⊢
        go_wp2
        have hcc := hcc'.out
        go_roundg (j - (c + 1))
        case measure => omega
        case rel =>
          exact ⟨c + 1, j, by go_num, rfl, by omega, by omega, hjb, by omega, (show _ ∧ _ from ⟨fun t h1 h2 => by
            have hle : key (fa d c) ≤ key (fa d m) := by have := HQ.out; omega
            by_cases e : t = c
            · rw [e]; exact hle
            · exact Int.le_trans (HV.out t c h1 (by omega) (by omega)) hle, HI.out.2⟩), S2⟩
    · have hltz : ¬ (i : Int) < (j : Int) := by omega
      have hij' : i = j := by omega
      subst hij'
      have hR := ins_right (f := fa d) hai hjb HV.out HI.out.1 HI.out.2
      have HR : Hid _ := hR
      clear hR HI HV hlt hij
      go_wp2
      go_loopg [17] d.size (fun gk v wr => ∃ (k : Nat) (dk : Array α), v = .int .i64 k ∧ i ≤ k ∧ k ≤ m ∧ k - i ≤ gk ∧ dk.size = d.size ∧ Hid (fa dk = rotF (fa d) k m (m + 1)) ∧ Aside (SWI iv w0 blk off dk wr))
      case atStart => exact ⟨m, d, rfl, by omega, by omega, by omega, rfl, (show _ = _ from (rotF_id _ (by omega) (by omega) (by omega)).symm), S1⟩
      case round =>
        clear S1
        obtain ⟨k, dk, rfl, hik, hkm, hg, hsk, HF, S2⟩ := hrel
        by_cases hlt : i < k
        · obtain ⟨jp, rfl⟩ : ∃ q, k = q + 1 := ⟨k - 1, by omega⟩
          have hltz : (i : Int) < (jp : Int) + 1 := by omega
          obtain ⟨iN, hiN⟩ : ∃ q, q = jp + 1 := ⟨_, rfl⟩
          obtain ⟨jN, hjN⟩ : ∃ q, q = jp := ⟨_, rfl⟩
          have ea : ((jp : Int) + 1).toNat = iN := by omega
          have pa : (0 : Int) ≤ (jp : Int) + 1 := by omega
          have ba : (jp : Int) + 1 < (d.size : Int) := by omega
          have ra : IntKind.i64.wrap ((jp : Int) + 1) = (jp : Int) + 1 := by rw [IntKind.wrap_i64]; omega
          have ec : (jp : Int).toNat = jN := by omega
          have bc : (jp : Int) < (d.size : Int) := by omega
          have rc : IntKind.i64.wrap (jp : Int) = (jp : Int) := by rw [IntKind.wrap_i64]; omega
          obtain ⟨x, hx⟩ : ∃ x, dk[jp + 1]! = x := ⟨_, rfl⟩
          obtain ⟨y, hy⟩ : ∃ x, dk[jp]! = x := ⟨_, rfl⟩
          obtain ⟨c1, c2, c3, c4, f1, f2, f3, f4, s1, s2, s3, S3⟩ := exI S2.out HH.out.R (RR.out _ hsk) (jp + 1) jp (by omega) (by omega) (by omega) iN jN hiN hjN x y hx hy
          clear S2 hx hy hiN hjN
          go_wp2_with fail
          go_big_region_o
          clear c1 c2 c3 c4 f1 f2 f3 f4 s1 s2 s3 ea ec
          go_wp2
          go_roundg (jp - i)
          case measure => omega
          case rel => exact ⟨jp, swp dk (jp + 1) jp, by first | rfl | go_num | (congr 1; omega), by omega, by omega, by omega, by rw [size_swp]; exact hsk, (show _ = _ from by funext x; rw [fa_swp dk (by omega) (by omega), HF.out, rotF_down _ (show jp < m from by omega)]), S3⟩
        · have hltz : ¬ (i : Int) < (k : Int) := by omega
          go_wp2
          (try simp only [Exit.inBlock, Exit.then])
          refine bodyPost_ret (results_none rfl _ _ _) rfl ?_
          exact ⟨rfl, dk, hsk, by rw [HF.out, show k = i by omega]; exact HR.out.1, by rw [HF.out, show k = i by omega]; exact HR.out.2, S2.out⟩
set_option maxHeartbeats 16000000 in
set_option maxRecDepth 1000000 in
theorem symLastL {iv : α → (Int×Int)} {g : Nat} {cb : Array Value} {key : α → Int} {d0 : Array α} {w0 : World} {blk off : Nat} (H : SortL iv g cb key d0 w0 blk off) {d : Array α} {w : World} (hs : d.size = d0.size) (S : SWL iv w0 blk off d w) (cap : Nat) {a m : Nat} (ham : a + 1 < m) (hb : m + 1 ≤ d.size) (hv : SortF key a m (fa d)) :
    Calls Tryd.prog 137 #[.slice (some ⟨blk, off, none⟩) d.size cap, .int .i64 a, .int .i64 m, .int .i64 (m + 1 : Nat), .func (.func g) #[] cb] w fun e w' => e = .returned (.tuple #[]) ∧
      ∃ d' : Array α, d'.size = d.size ∧ StabF key a (m + 1) (fa d) (fa d') ∧ SortF key a (m + 1) (fa d') ∧ SWL iv w0 blk off d' w' := by
  have hz : d.size < 4611686018427387904 := hs ▸ H.sz
  have eg := H.eg
  have HH : Hid (SortL iv g cb key d0 w0 blk off) := H
  have HV : Hid (SortF key a m (fa d)) := hv
  have RR : Hid (∀ x : Nat, x = d.size → x = d0.size) := fun x e => e.trans hs
  clear hs H hv
  have mixed : Tryd.prog.follows .mixedOrders = true := by kernel_rfl
  have S0 : Aside (SWL iv w0 blk off d w) := S
  clear S
  have r0 : IntKind.i64.wrap ((m : Int) + 1 - (m : Int)) = 1 := by rw [IntKind.wrap_i64]; omega
  have r1 : IntKind.i64.wrap ((m : Int) - (a : Int)) = (m : Int) - (a : Int) := by rw [IntKind.wrap_i64]; omega
  have n1 : ¬ (m : Int) - (a : Int) = 1 := by omega
  have n2 : ((m : Int) - (a : Int) == 1) = false := beq_false_of_ne n1
  go_enter Tryd.func137, Tryd.ntmps137
  go_wp2
  go_loopg [14, 15] d.size (fun gk vi vj wr => ∃ i j : Nat, vi = .int .i64 i ∧ vj = .int .i64 j ∧ a ≤ i ∧ i ≤ j ∧ j ≤ m ∧ j - i ≤ gk ∧ Hid ((∀ t, a ≤ t → t < i → key (fa d t) ≤ key (fa d m)) ∧ (∀ t, j ≤ t → t < m → key (fa d m) < key (fa d t))) ∧ Aside (SWL iv w0 blk off d wr))
  case atStart => exact ⟨a, m, rfl, rfl, by omega, by omega, by omega, by omega, (show _ ∧ _ from ⟨fun t h1 h2 => by omega, fun t h1 h2 => by omega⟩), S0⟩
  case round =>
    clear S0
    obtain ⟨i, j, rfl, rfl, hai, hij, hjb, hg, HI, S1⟩ := hrel
    by_cases hlt : i < j
    · have hltz : (i : Int) < (j : Int) := by omega
      obtain ⟨c, hcc⟩ : ∃ c, c = (i + j) / 2 := ⟨_, rfl⟩
      have hcz : ((i : Int) + (j : Int)) / 2 = (c : Int) := by omega
      have bc : (c : Int) < (d.size : Int) := by omega
      have ba : (m : Int) < (d.size : Int) := by omega
      obtain ⟨x, hx⟩ : ∃ x, d[c]! = x := ⟨_, rfl⟩
      obtain ⟨y, hy⟩ : ∃ y, d[m]! = y := ⟨_, rfl⟩
      obtain ⟨l1, l2⟩ := elL S1.out HH.out.R (RR.out _ rfl) c (by omega) x hx
      obtain ⟨l3, l4⟩ := elL S1.out HH.out.R (RR.out _ rfl) m (by omega) y hy
      obtain ⟨q, hq⟩ : ∃ q, Lib.compareInt (key y) (key x) = q := ⟨_, rfl⟩
      have hcl := cmpL HH.out S1.out (RR.out _ rfl) y x q hq
      have hqk := cmp_lt q hq
      rw [← hx, ← hy] at hqk
      have HQ : Hid (q < 0 ↔ key (fa d m) < key (fa d c)) := hqk
      have hcc' : Hid (c = (i + j) / 2) := hcc
      clear hqk hq hx hy hcc
      by_cases hneg : q < 0
      · have hnd : decide (q < 0) = true := decide_eq_true hneg
        go_wp2_with fail
        go_quiet_grown (first | (go_at_fn g; refine Calls.grown_of (hcl _ _)))
        have S2 : Aside (SWL iv w0 blk off d (grow (wr.drewN nq) osq)) := S1.out.grown nq osq
        clear l1 l2 l3 l4 hcl S1
        generalize grow (wr.drewN nq) osq = w2 at S2 ⊢
        go_wp2
        have hcc := hcc'.out
        go_roundg (c - i)
        case measure => omega
        case rel =>
          exact ⟨i, c, rfl, rfl, hai, by omega, by omega, by omega, (show _ ∧ _ from ⟨HI.out.1, fun t h1 h2 => by
            have hle : key (fa d m) < key (fa d c) := by have := HQ.out; omega
            by_cases e : t = c
            · rw [e]; exact hle
            · exact Int.lt_of_lt_of_le hle (HV.out c t (by omega) (by omega) h2)⟩), S2⟩
      · have hnd : decide (q < 0) = false := decide_eq_false hneg
        go_wp2_with fail
        go_quiet_grown (first | (go_at_fn g; refine Calls.grown_of (hcl _ _)))
        have S2 : Aside (SWL iv w0 blk off d (grow (wr.drewN nq) osq)) := S1.out.grown nq osq
        clear l1 l2 l3 l4 hcl S1
        generalize grow (wr.drewN nq) osq = w2 at S2 ⊢
        go_wp2
        have hcc := hcc'.out
        go_roundg (j - (c + 1))
        case measure => omega
        case rel =>
          exact ⟨c + 1, j, by go_num, rfl, by omega, by omega, hjb, by omega, (show _ ∧ _ from ⟨fun t h1 h2 => by
            have hle : key (fa d c) ≤ key (fa d m) := by have := HQ.out; omega
            by_cases e : t = c
            · rw [e]; exact hle
            · exact Int.le_trans (HV.out t c h1 (by omega) (by omega)) hle, HI.out.2⟩), S2⟩
    · have hltz : ¬ (i : Int) < (j : Int) := by omega
      have hij' : i = j := by omega
      subst hij'
      have hR := ins_right (f := fa d) hai hjb HV.out HI.out.1 HI.out.2
      have HR : Hid _ := hR
      clear hR HI HV hlt hij
      go_wp2
      go_loopg [17] d.size (fun gk v wr => ∃ (k : Nat) (dk : Array α), v = .int .i64 k ∧ i ≤ k ∧ k ≤ m ∧ k - i ≤ gk ∧ dk.size = d.size ∧ Hid (fa dk = rotF (fa d) k m (m + 1)) ∧ Aside (SWL iv w0 blk off dk wr))
      case atStart => exact ⟨m, d, rfl, by omega, by omega, by omega, rfl, (show _ = _ from (rotF_id _ (by omega) (by omega) (by omega)).symm), S1⟩
      case round =>
        clear S1
        obtain ⟨k, dk, rfl, hik, hkm, hg, hsk, HF, S2⟩ := hrel
        by_cases hlt : i < k
        · obtain ⟨jp, rfl⟩ : ∃ q, k = q + 1 := ⟨k - 1, by omega⟩
          have hltz : (i : Int) < (jp : Int) + 1 := by omega
          obtain ⟨iN, hiN⟩ : ∃ q, q = jp + 1 := ⟨_, rfl⟩
          obtain ⟨jN, hjN⟩ : ∃ q, q = jp := ⟨_, rfl⟩
          have ea : ((jp : Int) + 1).toNat = iN := by omega
          have pa : (0 : Int) ≤ (jp : Int) + 1 := by omega
          have ba : (jp : Int) + 1 < (d.size : Int) := by omega
          have ra : IntKind.i64.wrap ((jp : Int) + 1) = (jp : Int) + 1 := by rw [IntKind.wrap_i64]; omega
          have ec : (jp : Int).toNat = jN := by omega
          have bc : (jp : Int) < (d.size : Int) := by omega
          have rc : IntKind.i64.wrap (jp : Int) = (jp : Int) := by rw [IntKind.wrap_i64]; omega
          obtain ⟨x, hx⟩ : ∃ x, dk[jp + 1]! = x := ⟨_, rfl⟩
          obtain ⟨y, hy⟩ : ∃ x, dk[jp]! = x := ⟨_, rfl⟩
          obtain ⟨c1, c2, c3, c4, f1, f2, f3, f4, s1, s2, s3, S3⟩ := exL S2.out HH.out.R (RR.out _ hsk) (jp + 1) jp (by omega) (by omega) (by omega) iN jN hiN hjN x y hx hy
          clear S2 hx hy hiN hjN
          go_wp2_with fail
          go_big_region_o
          clear c1 c2 c3 c4 f1 f2 f3 f4 s1 s2 s3 ea ec
          go_wp2
          go_roundg (jp - i)
          case measure => omega
          case rel => exact ⟨jp, swp dk (jp + 1) jp, by first | rfl | go_num | (congr 1; omega), by omega, by omega, by omega, by rw [size_swp]; exact hsk, (show _ = _ from by funext x; rw [fa_swp dk (by omega) (by omega), HF.out, rotF_down _ (show jp < m from by omega)]), S3⟩
        · have hltz : ¬ (i : Int) < (k : Int) := by omega
          go_wp2
          (try simp only [Exit.inBlock, Exit.then])
          refine bodyPost_ret (results_none rfl _ _ _) rfl ?_
          exact ⟨rfl, dk, hsk, by rw [HF.out, show k = i by omega]; exact HR.out.1, by rw [HF.out, show k = i by omega]; exact HR.out.2, S2.out⟩
end Go.Proofs.YtnnmakkbnfckmaaDoor
