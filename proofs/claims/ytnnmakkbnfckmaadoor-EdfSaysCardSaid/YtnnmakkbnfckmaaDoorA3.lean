/- Walks: job.End; each law package's heavy, own, ints. -/
import Derived.Test.YtnnmakkbnfckmaaDoorA2
namespace Go.Proofs.YtnnmakkbnfckmaaDoor
open Go.RowKit

theorem maxDl_snoc (n : Int) (l : List J) (j : J) : maxDl n (l ++ [j]) = max (maxDl n l) j.dl := by simp [maxDl]
theorem take_snoc {α : Type} (l : List α) (k : Nat) (h : k < l.length) : l.take (k + 1) = l.take k ++ [l[k]] := by
  rw [List.take_succ_eq_append_getElem h]

set_option maxRecDepth 100000 in
set_option maxHeartbeats 2000000 in
theorem end_any (l : List J) (a : Option Addr) (cap : Nat) (w : World) (hm : l.length ≤ bigS) (NG : NameC w) (hs : ∀ j ∈ l, j.ok) (hr : JRow w a l) :
    Calls Tryd.prog 24 #[.slice a l.length cap] w fun e w' => e = .returned (.int .i64 (endJ l)) ∧ Ext w w' := by
  have HC := Lib.hid (all_any l a cap w hm NG hs hr)
  clear hs NG
  unfold bigS at hm
  go_enter Tryd.func24, Tryd.ntmps24
  go_wp2_with (first | (refine HC.out.mono ?_; rintro e w1 ⟨rfl, hb1⟩))
  · have hal : allB l = false := by simp_all
    go_ret
    exact ⟨by simp [endJ, hal], hb1⟩
  · have hal : allB l = true := by simp_all
    have HAL := Lib.hid hal
    have hr1 := hr.ext hb1
    have HB := Lib.hid hb1
    clear hr hb1 HC hal
    go_loopw [3, 11] (fun v3 v11 wr => ∃ k : Nat, k ≤ l.length ∧ v11 = .int .i64 k ∧ v3 = .int .i64 (maxDl 0 (l.take k)) ∧ Ext w1 wr) (fun _ v11 _ => l.length - (intOf v11).toNat)
    case atStart => exact ⟨0, Nat.zero_le _, rfl, rfl, Ext.refl _⟩
    case round =>
      obtain ⟨k, hk, rfl, rfl, hx⟩ := hrel
      by_cases hlt : k < l.length
      · obtain ⟨b, off, rfl, hb, hcs⟩ := (hr1.ext hx) k hlt
        obtain ⟨c0, c1, c2, c3, c4, c5, c6, c7⟩ := hcs
        have HM := Lib.hid (maxDl_snoc 0 (l.take k) l[k])
        have HT := Lib.hid (take_snoc l k hlt)
        generalize maxDl 0 (l.take k) = m at *
        go_wp2
        go_roundw
        case rel => exact ⟨k + 1, hlt, by go_num, by rw [HT.out, HM.out]; congr 1; split <;> omega, hx.trans (Ext.new _ _)⟩
        case measure => simp [intOf]; omega
      · obtain rfl : k = l.length := by omega
        go_wp2
        go_ret
        exact ⟨by simp [endJ, HAL.out, List.take_length], HB.out.trans hx⟩

theorem heavy_t {l : List J} {most last : Int} {k : Nat} (hk : k < l.length) (h : heavyJ most last l[k] = true) : heavyB l most last = true := by
  simp only [heavyB, Bool.or_eq_true]
  exact .inr (List.any_eq_true.2 ⟨_, List.getElem_mem hk, h⟩)
theorem heavy_f {l : List J} {most last : Int} (h0 : (l.length : Int) ≤ most) (h : ∀ i (hi : i < l.length), i < l.length → heavyJ most last l[i] = false) : heavyB l most last = false := by
  simp only [heavyB, Bool.or_eq_false_iff, decide_eq_false_iff_not]
  refine ⟨by omega, List.any_eq_false.2 fun x hx => ?_⟩
  obtain ⟨i, hi, rfl⟩ := List.getElem_of_mem hx
  simp [h i hi hi]

set_option maxRecDepth 100000 in
set_option maxHeartbeats 2000000 in
theorem heavy_tocsinlaw8 (l : List J) (most last : Int) (a : Option Addr) (cap : Nat) (w : World) (hm : l.length ≤ bigS) (hr : JRow w a l) :
    Calls Tryd.prog 13 #[.slice a l.length cap, .int .i64 most, .int .i64 last] w fun e w' => e = .returned (.bool (heavyB l most last)) ∧ w = w' := by
  unfold bigS at hm
  by_cases h0 : most < l.length
  · go_enter Tryd.func13, Tryd.ntmps13
    go_wp2
    go_ret
    exact ⟨by simp [heavyB, h0], rfl⟩
  · go_enter Tryd.func13, Tryd.ntmps13
    go_wp2
    go_loop [7] (fun v7 => ∃ k : Nat, k ≤ l.length ∧ v7 = .int .i64 k ∧ ∀ i (hi : i < l.length), i < k → heavyJ most last l[i] = false) (fun v7 => l.length - (intOf v7).toNat)
    case atStart => exact ⟨0, Nat.zero_le _, rfl, fun i _ hi => by omega⟩
    case round =>
      obtain ⟨k, hk, rfl, hno⟩ := hrel
      have HN := Lib.hid hno
      clear hno
      by_cases hlt : k < l.length
      · obtain ⟨b, off, rfl, hb, hcs⟩ := hr k hlt
        obtain ⟨c0, c1, c2, c3, c4, c5, c6, c7⟩ := hcs
        clear hr
        go_wp2
        all_goals first
          | (go_ret; exact ⟨by rw [heavy_t hlt (by unfold heavyJ; simp only [Bool.or_eq_true, Bool.and_eq_true, decide_eq_true_eq]; omega)]; rfl, rfl⟩)
          | (go_round
             case rel => exact ⟨k + 1, hlt, by go_num, fun i hi hik => by
               rcases Nat.lt_succ_iff_lt_or_eq.1 hik with h | rfl
               · exact HN.out i hi h
               · unfold heavyJ; simp only [Bool.or_eq_false_iff, Bool.and_eq_false_iff, decide_eq_false_iff_not]; omega⟩
             case measure => simp [intOf]; omega)
      · obtain rfl : k = l.length := by omega
        go_wp2
        go_ret
        exact ⟨by rw [heavy_f h0 HN.out]; rfl, rfl⟩
set_option maxRecDepth 100000 in
set_option maxHeartbeats 2000000 in
theorem heavy_tocsinlaw10 (l : List J) (most last : Int) (a : Option Addr) (cap : Nat) (w : World) (hm : l.length ≤ bigS) (hr : JRow w a l) :
    Calls Tryd.prog 30 #[.slice a l.length cap, .int .i64 most, .int .i64 last] w fun e w' => e = .returned (.bool (heavyB l most last)) ∧ w = w' := by
  unfold bigS at hm
  by_cases h0 : most < l.length
  · go_enter Tryd.func30, Tryd.ntmps30
    go_wp2
    go_ret
    exact ⟨by simp [heavyB, h0], rfl⟩
  · go_enter Tryd.func30, Tryd.ntmps30
    go_wp2
    go_loop [7] (fun v7 => ∃ k : Nat, k ≤ l.length ∧ v7 = .int .i64 k ∧ ∀ i (hi : i < l.length), i < k → heavyJ most last l[i] = false) (fun v7 => l.length - (intOf v7).toNat)
    case atStart => exact ⟨0, Nat.zero_le _, rfl, fun i _ hi => by omega⟩
    case round =>
      obtain ⟨k, hk, rfl, hno⟩ := hrel
      have HN := Lib.hid hno
      clear hno
      by_cases hlt : k < l.length
      · obtain ⟨b, off, rfl, hb, hcs⟩ := hr k hlt
        obtain ⟨c0, c1, c2, c3, c4, c5, c6, c7⟩ := hcs
        clear hr
        go_wp2
        all_goals first
          | (go_ret; exact ⟨by rw [heavy_t hlt (by unfold heavyJ; simp only [Bool.or_eq_true, Bool.and_eq_true, decide_eq_true_eq]; omega)]; rfl, rfl⟩)
          | (go_round
             case rel => exact ⟨k + 1, hlt, by go_num, fun i hi hik => by
               rcases Nat.lt_succ_iff_lt_or_eq.1 hik with h | rfl
               · exact HN.out i hi h
               · unfold heavyJ; simp only [Bool.or_eq_false_iff, Bool.and_eq_false_iff, decide_eq_false_iff_not]; omega⟩
             case measure => simp [intOf]; omega)
      · obtain rfl : k = l.length := by omega
        go_wp2
        go_ret
        exact ⟨by rw [heavy_f h0 HN.out]; rfl, rfl⟩
set_option maxRecDepth 100000 in
set_option maxHeartbeats 2000000 in
theorem heavy_tocsinlaw20 (l : List J) (most last : Int) (a : Option Addr) (cap : Nat) (w : World) (hm : l.length ≤ bigS) (hr : JRow w a l) :
    Calls Tryd.prog 45 #[.slice a l.length cap, .int .i64 most, .int .i64 last] w fun e w' => e = .returned (.bool (heavyB l most last)) ∧ w = w' := by
  unfold bigS at hm
  by_cases h0 : most < l.length
  · go_enter Tryd.func45, Tryd.ntmps45
    go_wp2
    go_ret
    exact ⟨by simp [heavyB, h0], rfl⟩
  · go_enter Tryd.func45, Tryd.ntmps45
    go_wp2
    go_loop [7] (fun v7 => ∃ k : Nat, k ≤ l.length ∧ v7 = .int .i64 k ∧ ∀ i (hi : i < l.length), i < k → heavyJ most last l[i] = false) (fun v7 => l.length - (intOf v7).toNat)
    case atStart => exact ⟨0, Nat.zero_le _, rfl, fun i _ hi => by omega⟩
    case round =>
      obtain ⟨k, hk, rfl, hno⟩ := hrel
      have HN := Lib.hid hno
      clear hno
      by_cases hlt : k < l.length
      · obtain ⟨b, off, rfl, hb, hcs⟩ := hr k hlt
        obtain ⟨c0, c1, c2, c3, c4, c5, c6, c7⟩ := hcs
        clear hr
        go_wp2
        all_goals first
          | (go_ret; exact ⟨by rw [heavy_t hlt (by unfold heavyJ; simp only [Bool.or_eq_true, Bool.and_eq_true, decide_eq_true_eq]; omega)]; rfl, rfl⟩)
          | (go_round
             case rel => exact ⟨k + 1, hlt, by go_num, fun i hi hik => by
               rcases Nat.lt_succ_iff_lt_or_eq.1 hik with h | rfl
               · exact HN.out i hi h
               · unfold heavyJ; simp only [Bool.or_eq_false_iff, Bool.and_eq_false_iff, decide_eq_false_iff_not]; omega⟩
             case measure => simp [intOf]; omega)
      · obtain rfl : k = l.length := by omega
        go_wp2
        go_ret
        exact ⟨by rw [heavy_f h0 HN.out]; rfl, rfl⟩
set_option maxRecDepth 100000 in
set_option maxHeartbeats 2000000 in
theorem heavy_tocsinlaw19 (l : List J) (most last : Int) (a : Option Addr) (cap : Nat) (w : World) (hm : l.length ≤ bigS) (hr : JRow w a l) :
    Calls Tryd.prog 54 #[.slice a l.length cap, .int .i64 most, .int .i64 last] w fun e w' => e = .returned (.bool (heavyB l most last)) ∧ w = w' := by
  unfold bigS at hm
  by_cases h0 : most < l.length
  · go_enter Tryd.func54, Tryd.ntmps54
    go_wp2
    go_ret
    exact ⟨by simp [heavyB, h0], rfl⟩
  · go_enter Tryd.func54, Tryd.ntmps54
    go_wp2
    go_loop [7] (fun v7 => ∃ k : Nat, k ≤ l.length ∧ v7 = .int .i64 k ∧ ∀ i (hi : i < l.length), i < k → heavyJ most last l[i] = false) (fun v7 => l.length - (intOf v7).toNat)
    case atStart => exact ⟨0, Nat.zero_le _, rfl, fun i _ hi => by omega⟩
    case round =>
      obtain ⟨k, hk, rfl, hno⟩ := hrel
      have HN := Lib.hid hno
      clear hno
      by_cases hlt : k < l.length
      · obtain ⟨b, off, rfl, hb, hcs⟩ := hr k hlt
        obtain ⟨c0, c1, c2, c3, c4, c5, c6, c7⟩ := hcs
        clear hr
        go_wp2
        all_goals first
          | (go_ret; exact ⟨by rw [heavy_t hlt (by unfold heavyJ; simp only [Bool.or_eq_true, Bool.and_eq_true, decide_eq_true_eq]; omega)]; rfl, rfl⟩)
          | (go_round
             case rel => exact ⟨k + 1, hlt, by go_num, fun i hi hik => by
               rcases Nat.lt_succ_iff_lt_or_eq.1 hik with h | rfl
               · exact HN.out i hi h
               · unfold heavyJ; simp only [Bool.or_eq_false_iff, Bool.and_eq_false_iff, decide_eq_false_iff_not]; omega⟩
             case measure => simp [intOf]; omega)
      · obtain rfl : k = l.length := by omega
        go_wp2
        go_ret
        exact ⟨by rw [heavy_f h0 HN.out]; rfl, rfl⟩

end Go.Proofs.YtnnmakkbnfckmaaDoor
