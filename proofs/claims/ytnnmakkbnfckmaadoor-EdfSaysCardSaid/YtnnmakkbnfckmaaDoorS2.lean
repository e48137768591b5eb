/- What the library's stable sort calls: the turn of two neighbouring blocks, at a row of ints and at a row of pairs. -/
import Derived.Test.YtnnmakkbnfckmaaDoorS1
namespace Go.Proofs.YtnnmakkbnfckmaaDoor
open Go.RowKit Go.Shelf Go.Sort Go.Lib
variable {α : Type} [Inhabited α]

set_option maxHeartbeats 16000000 in
set_option maxRecDepth 1000000 in
theorem rotateI {iv : α → Int} {g : Nat} {cb : Array Value} {key : α → Int} {d0 : Array α} {w0 : World} {blk off : Nat} (H : SortI iv g cb key d0 w0 blk off) {d : Array α} {w : World} (hs : d.size = d0.size) (S : SWI iv w0 blk off d w) (cap : Nat) (fv : Value) {a m b : Nat} (ham : a < m) (hmb : m < b) (hb : b ≤ d.size) :
    Calls Tryd.prog 143 #[.slice (some ⟨blk, off, none⟩) d.size cap, .int .i64 a, .int .i64 m, .int .i64 b, fv] w fun e w' => e = .returned (.tuple #[]) ∧
      ∃ d' : Array α, d'.size = d.size ∧ fa d' = rotF (fa d) a m b ∧ SWI iv w0 blk off d' w' := by
  have hz : d.size < 4611686018427387904 := hs ▸ H.sz
  have SWP : Hid (∀ (dk : Array α) (W : World) (a b n : Nat), dk.size = d.size → SWI iv w0 blk off dk W → a + n ≤ b → b + n ≤ d.size → Calls Tryd.prog 148 #[.slice (some ⟨blk, off, none⟩) d.size cap, .int .i64 a, .int .i64 b, .int .i64 n, fv] W fun e w' => e = .returned (.tuple #[]) ∧ ∃ d' : Array α, d'.size = d.size ∧ fa d' = swapF (fa dk) a b n ∧ SWI iv w0 blk off d' w') := fun dk W a b n h1 h2 h3 h4 => by
    have := swapRangeI H (h1.trans hs) h2 cap fv h3 (by omega)
    rwa [h1] at this
  clear hs
  have mixed : Tryd.prog.follows .mixedOrders = true := by kernel_rfl
  have S0 : Aside (SWI iv w0 blk off d w) := S
  clear S
  have r1 : IntKind.i64.wrap ((m : Int) - (a : Int)) = (m : Int) - (a : Int) := by rw [IntKind.wrap_i64]; omega
  have r2 : IntKind.i64.wrap ((b : Int) - (m : Int)) = (b : Int) - (m : Int) := by rw [IntKind.wrap_i64]; omega
  go_enter Tryd.func143, Tryd.ntmps143
  go_wp2
  go_loopg [10, 11] (b - a) (fun gk vi vj wr => ∃ (i j : Nat) (dk : Array α), vi = .int .i64 i ∧ vj = .int .i64 j ∧ 0 < i ∧ 0 < j ∧ i ≤ m - a ∧ j ≤ b - m ∧ i + j ≤ gk ∧ dk.size = d.size ∧ Hid (∀ x, rotF (fa dk) (m - i) m (m + j) x = rotF (fa d) a m b x) ∧ Aside (SWI iv w0 blk off dk wr))
  case atStart => exact ⟨m - a, b - m, d, by congr 1; omega, by congr 1; omega, by omega, by omega, by omega, by omega, by omega, rfl, (show ∀ x, _ from fun x => by rw [show m - (m - a) = a by omega, show m + (b - m) = b by omega]), S0⟩
  case round =>
    clear S0 r1 r2
    obtain ⟨i, j, dk, rfl, rfl, hi0, hj0, hi, hj, hg, hsk, HF, S1⟩ := hrel
    have r3 : IntKind.i64.wrap ((m : Int) - (i : Int)) = (m : Int) - (i : Int) := by rw [IntKind.wrap_i64]; omega
    have n3 : (m : Int) - (i : Int) = ((m - i : Nat) : Int) := by omega
    by_cases hij : i = j
    · subst hij
      have hc := SWP.out dk wr (m - i) m i hsk S1.out (by omega) (by omega)
      rw [← n3] at hc
      clear n3
      go_wp2_with (go_at_call 148; with_reducible refine hc.mono ?_; rintro e w1 ⟨rfl, d', h1, h2, h3⟩)
      go_end0
      exact ⟨rfl, d', h1, by rw [h2]; funext x; rw [rot_swap_eq _ (by omega)]; exact HF.out x, h3⟩
    · have hijz : ¬ (i : Int) = (j : Int) := by omega
      by_cases hgt : j < i
      · have hgtz : (j : Int) < (i : Int) := by omega
        have r4 : IntKind.i64.wrap ((i : Int) - (j : Int)) = (i : Int) - (j : Int) := by rw [IntKind.wrap_i64]; omega
        have hc := SWP.out dk wr (m - i) m j hsk S1.out (by omega) (by omega)
        rw [← n3] at hc
        clear n3
        go_wp2_with (go_at_call 148; with_reducible refine hc.mono ?_; rintro e w1 ⟨rfl, d', h1, h2, h3⟩)
        have S2 : Aside (SWI iv w0 blk off d' w1) := h3
        have HF2 : Hid (∀ x, rotF (fa d') (m - (i - j)) m (m + j) x = rotF (fa d) a m b x) := fun x => by rw [h2, rot_swap_lo _ hgt (by omega)]; exact HF.out x
        clear h2 h3 hc
        go_roundg (i - j + j)
        case measure => omega
        case rel => exact ⟨i - j, j, d', by congr 1; omega, rfl, by omega, by omega, by omega, by omega, by omega, h1, HF2, S2⟩
      · have hgtz : ¬ (j : Int) < (i : Int) := by omega
        have r5 : IntKind.i64.wrap ((m : Int) + (j : Int)) = (m : Int) + (j : Int) := by rw [IntKind.wrap_i64]; omega
        have r6 : IntKind.i64.wrap ((m : Int) + (j : Int) - (i : Int)) = (m : Int) + (j : Int) - (i : Int) := by rw [IntKind.wrap_i64]; omega
        have r7 : IntKind.i64.wrap ((j : Int) - (i : Int)) = (j : Int) - (i : Int) := by rw [IntKind.wrap_i64]; omega
        have n6 : (m : Int) + (j : Int) - (i : Int) = ((m + j - i : Nat) : Int) := by omega
        have hc := SWP.out dk wr (m - i) (m + j - i) i hsk S1.out (by omega) (by omega)
        rw [← n3, ← n6] at hc
        clear n3 n6
        go_wp2_with (go_at_call 148; with_reducible refine hc.mono ?_; rintro e w1 ⟨rfl, d', h1, h2, h3⟩)
        have S2 : Aside (SWI iv w0 blk off d' w1) := h3
        have HF2 : Hid (∀ x, rotF (fa d') (m - i) m (m + (j - i)) x = rotF (fa d) a m b x) := fun x => by rw [h2, rot_swap_hi _ (by omega) (by omega)]; exact HF.out x
        clear h2 h3 hc
        go_roundg (i + (j - i))
        case measure => omega
        case rel => exact ⟨i, j - i, d', rfl, by congr 1; omega, by omega, by omega, by omega, by omega, by omega, h1, HF2, S2⟩

set_option maxHeartbeats 16000000 in
set_option maxRecDepth 1000000 in
theorem rotateL {iv : α → (Int×Int)} {g : Nat} {cb : Array Value} {key : α → Int} {d0 : Array α} {w0 : World} {blk off : Nat} (H : SortL iv g cb key d0 w0 blk off) {d : Array α} {w : World} (hs : d.size = d0.size) (S : SWL iv w0 blk off d w) (cap : Nat) (fv : Value) {a m b : Nat} (ham : a < m) (hmb : m < b) (hb : b ≤ d.size) :
    Calls Tryd.prog 144 #[.slice (some ⟨blk, off, none⟩) d.size cap, .int .i64 a, .int .i64 m, .int .i64 b, fv] w fun e w' => e = .returned (.tuple #[]) ∧
      ∃ d' : Array α, d'.size = d.size ∧ fa d' = rotF (fa d) a m b ∧ SWL iv w0 blk off d' w' := by
  have hz : d.size < 4611686018427387904 := hs ▸ H.sz
  have SWP : Hid (∀ (dk : Array α) (W : World) (a b n : Nat), dk.size = d.size → SWL iv w0 blk off dk W → a + n ≤ b → b + n ≤ d.size → Calls Tryd.prog 149 #[.slice (some ⟨blk, off, none⟩) d.size cap, .int .i64 a, .int .i64 b, .int .i64 n, fv] W fun e w' => e = .returned (.tuple #[]) ∧ ∃ d' : Array α, d'.size = d.size ∧ fa d' = swapF (fa dk) a b n ∧ SWL iv w0 blk off d' w') := fun dk W a b n h1 h2 h3 h4 => by
    have := swapRangeL H (h1.trans hs) h2 cap fv h3 (by omega)
    rwa [h1] at this
  clear hs
  have mixed : Tryd.prog.follows .mixedOrders = true := by kernel_rfl
  have S0 : Aside (SWL iv w0 blk off d w) := S
  clear S
  have r1 : IntKind.i64.wrap ((m : Int) - (a : Int)) = (m : Int) - (a : Int) := by rw [IntKind.wrap_i64]; omega
  have r2 : IntKind.i64.wrap ((b : Int) - (m : Int)) = (b : Int) - (m : Int) := by rw [IntKind.wrap_i64]; omega
  go_enter Tryd.func144, Tryd.ntmps144
  go_wp2
  go_loopg [10, 11] (b - a) (fun gk vi vj wr => ∃ (i j : Nat) (dk : Array α), vi = .int .i64 i ∧ vj = .int .i64 j ∧ 0 < i ∧ 0 < j ∧ i ≤ m - a ∧ j ≤ b - m ∧ i + j ≤ gk ∧ dk.size = d.size ∧ Hid (∀ x, rotF (fa dk) (m - i) m (m + j) x = rotF (fa d) a m b x) ∧ Aside (SWL iv w0 blk off dk wr))
  case atStart => exact ⟨m - a, b - m, d, by congr 1; omega, by congr 1; omega, by omega, by omega, by omega, by omega, by omega, rfl, (show ∀ x, _ from fun x => by rw [show m - (m - a) = a by omega, show m + (b - m) = b by omega]), S0⟩
  case round =>
    clear S0 r1 r2
    obtain ⟨i, j, dk, rfl, rfl, hi0, hj0, hi, hj, hg, hsk, HF, S1⟩ := hrel
    have r3 : IntKind.i64.wrap ((m : Int) - (i : Int)) = (m : Int) - (i : Int) := by rw [IntKind.wrap_i64]; omega
    have n3 : (m : Int) - (i : Int) = ((m - i : Nat) : Int) := by omega
    by_cases hij : i = j
    · subst hij
      have hc := SWP.out dk wr (m - i) m i hsk S1.out (by omega) (by omega)
      rw [← n3] at hc
      clear n3
      go_wp2_with (go_at_call 149; with_reducible refine hc.mono ?_; rintro e w1 ⟨rfl, d', h1, h2, h3⟩)
      go_end0
      exact ⟨rfl, d', h1, by rw [h2]; funext x; rw [rot_swap_eq _ (by omega)]; exact HF.out x, h3⟩
    · have hijz : ¬ (i : Int) = (j : Int) := by omega
      by_cases hgt : j < i
      · have hgtz : (j : Int) < (i : Int) := by omega
        have r4 : IntKind.i64.wrap ((i : Int) - (j : Int)) = (i : Int) - (j : Int) := by rw [IntKind.wrap_i64]; omega
        have hc := SWP.out dk wr (m - i) m j hsk S1.out (by omega) (by omega)
        rw [← n3] at hc
        clear n3
        go_wp2_with (go_at_call 149; with_reducible refine hc.mono ?_; rintro e w1 ⟨rfl, d', h1, h2, h3⟩)
        have S2 : Aside (SWL iv w0 blk off d' w1) := h3
        have HF2 : Hid (∀ x, rotF (fa d') (m - (i - j)) m (m + j) x = rotF (fa d) a m b x) := fun x => by rw [h2, rot_swap_lo _ hgt (by omega)]; exact HF.out x
        clear h2 h3 hc
        go_roundg (i - j + j)
        case measure => omega
        case rel => exact ⟨i - j, j, d', by congr 1; omega, rfl, by omega, by omega, by omega, by omega, by omega, h1, HF2, S2⟩
      · have hgtz : ¬ (j : Int) < (i : Int) := by omega
        have r5 : IntKind.i64.wrap ((m : Int) + (j : Int)) = (m : Int) + (j : Int) := by rw [IntKind.wrap_i64]; omega
        have r6 : IntKind.i64.wrap ((m : Int) + (j : Int) - (i : Int)) = (m : Int) + (j : Int) - (i : Int) := by rw [IntKind.wrap_i64]; omega
        have r7 : IntKind.i64.wrap ((j : Int) - (i : Int)) = (j : Int) - (i : Int) := by rw [IntKind.wrap_i64]; omega
        have n6 : (m : Int) + (j : Int) - (i : Int) = ((m + j - i : Nat) : Int) := by omega
        have hc := SWP.out dk wr (m - i) (m + j - i) i hsk S1.out (by omega) (by omega)
        rw [← n3, ← n6] at hc
        clear n3 n6
        go_wp2_with (go_at_call 149; with_reducible refine hc.mono ?_; rintro e w1 ⟨rfl, d', h1, h2, h3⟩)
        have S2 : Aside (SWL iv w0 blk off d' w1) := h3
        have HF2 : Hid (∀ x, rotF (fa d') (m - i) m (m + (j - i)) x = rotF (fa d) a m b x) := fun x => by rw [h2, rot_swap_hi _ (by omega) (by omega)]; exact HF.out x
        clear h2 h3 hc
        go_roundg (i + (j - i))
        case measure => omega
        case rel => exact ⟨i, j - i, d', rfl, by congr 1; omega, by omega, by omega, by omega, by omega, by omega, h1, HF2, S2⟩

end Go.Proofs.YtnnmakkbnfckmaaDoor
