/- Walks: each law package's own, ints, fates, lefts. -/
import Derived.Test.YtnnmakkbnfckmaaDoorA3
namespace Go.Proofs.YtnnmakkbnfckmaaDoor
open Go.RowKit

theorem rtRefJob : RowT Tryd.prog 28 27 8 72 (.agg #[.string ByteArray.empty, .int .i64 0, .int .i64 0, .int .i64 0, .int .i64 0, .int .i64 0, .int .i64 0, .bool false]) :=
  .of Tryd.underlying28 (by kernel_rfl) rfl (by decide)
theorem rtInt : RowT Tryd.prog 39 3 1 8 (.int .i64 0) := .of Tryd.underlying39 (by kernel_rfl) rfl (by decide)

/-- A slice of jobs is handed back, in memory of the call's own or as it was; all that was there lies there still. -/
def JSl (l : List J) (w : World) (e : Ending) (w' : World) : Prop := ∃ a cap, e = .returned (.slice a l.length cap) ∧ JRow w' a l ∧ Ext w w'
theorem JSl.mk {l : List J} {w w' : World} {base e : Nat} {v : Value} (h : w'.ownsRow base e 8 v l.length (l.flatMap J.cells)) (hx : Ext w w') : JSl l w (.returned v) w' := by
  obtain ⟨a, cap, rfl, hr⟩ := own_jrow h
  exact ⟨a, cap, rfl, hr, hx⟩

set_option maxRecDepth 100000 in
set_option maxHeartbeats 2000000 in
theorem own_tocsinlaw8 (l : List J) (a : Option Addr) (cap : Nat) (w : World) (hm : l.length ≤ 1000) (hr : JRow w a l) :
    Calls Tryd.prog 14 #[.slice a l.length cap] w (JSl l w) := by
  go_enter Tryd.func14, Tryd.ntmps14
  go_wp2
  go_loopw [3, 4] (fun v3 v4 wr => ∃ k : Nat, k ≤ l.length ∧ v4 = .int .i64 k ∧ wr.ownsRow w.heap.size 27 8 v3 k ((l.take k).flatMap J.cells) ∧ Ext w wr) (fun _ v4 _ => l.length - (intOf v4).toNat)
  case atStart => exact ⟨0, Nat.zero_le _, rfl, World.ownsRow_nil _ _ _ _, Ext.refl _⟩
  case round =>
    obtain ⟨k, hk, rfl, hown, hx⟩ := hrel
    by_cases hlt : k < l.length
    · obtain ⟨b, off, rfl, hb, hcs⟩ := (hr.ext hx) k hlt
      obtain ⟨c0, c1, c2, c3, c4, c5, c6, c7⟩ := hcs
      have HT := Lib.hid (take_snoc l k hlt)
      go_wp2_with (at_builtin; go_must (refine wpList_app1 rtRefJob w.heap.size (hown.alloc _) rfl (.tmp 16) (.tmp 34) rfl rfl (J.cells l[k]) _ rfl (by simp) rfl (by simp [Value.oneCell']) (by omega) (by decide) (by have := hx.size; simp; omega) _ ?_); intro v' w1 hown1 hB1 hg1)
      go_roundw
      case rel => exact ⟨k + 1, hlt, by go_num, by rw [HT.out, List.flatMap_append]; simpa using hown1, Below.trans (hx.alloc _) hB1⟩
      case measure => simp [intOf]; omega
    · obtain rfl : k = l.length := by omega
      rw [List.take_length] at hown
      go_wp2
      go_ret
      exact JSl.mk hown hx

set_option maxRecDepth 100000 in
set_option maxHeartbeats 2000000 in
theorem ints_tocsinlaw8 (l m : List Int) (a b : Option Addr) (cap cap' : Nat) (w : World) (hl : l.length ≤ bigS) (hm : m.length ≤ bigS) (hr : IRow w a l) (hr' : IRow w b m) :
    Calls Tryd.prog 26 #[.slice a l.length cap, .slice b m.length cap'] w fun e w' => e = .returned (.bool (decide (l = m))) ∧ Ext w w' := by
  unfold bigS at hl hm
  by_cases h0 : l.length = m.length
  · have H0 := Lib.hid h0
    rw [← h0]
    clear h0
    go_enter Tryd.func26, Tryd.ntmps26
    go_wp2
    go_loopw [5] (fun v5 wr => ∃ k : Nat, k ≤ l.length ∧ v5 = .int .i64 k ∧ l.take k = m.take k ∧ Ext w wr) (fun v5 _ => l.length - (intOf v5).toNat)
    case atStart => exact ⟨0, Nat.zero_le _, rfl, rfl, Ext.refl _⟩
    case round =>
      obtain ⟨k, hk, rfl, hno, hx⟩ := hrel
      have HN := Lib.hid hno
      clear hno
      by_cases hlt : k < l.length
      · have hlt' : k < m.length := by have := H0.out; omega
        obtain ⟨b1, off, rfl, hb, c0⟩ := (hr.ext hx) k hlt
        obtain ⟨b2, off2, rfl, hb2, c1⟩ := (hr'.ext hx) k hlt'
        have T1 := Lib.hid (take_snoc l k hlt)
        have T2 := Lib.hid (take_snoc m k hlt')
        clear hr hr'
        generalize hp : l[k] = p at *
        generalize hq : m[k] = q at *
        have HP := Lib.hid hp
        have HQ := Lib.hid hq
        clear hp hq
        go_wp2
        go_quiet (fail)
        go_wp2
        · have hpq : (p != q) = true := by assumption
          go_ret
          refine ⟨?_, hx.drewN _⟩
          have : l ≠ m := by
            rintro rfl
            rw [HP.out] at HQ
            have := HQ.out
            simp [this] at hpq
          simp [this]
        · have hpq : (p != q) = false := by assumption
          go_roundw
          case rel => exact ⟨k + 1, hlt, by go_num, by rw [T1.out, T2.out, HN.out]; simp at hpq; rw [hpq], hx.drewN _⟩
          case measure => simp [intOf]; omega
      · have hkk : k = l.length := by omega
        clear hr hr'
        go_wp2
        go_ret
        refine ⟨?_, hx⟩
        have : l = m := by
          have h1 := HN.out
          rw [hkk, List.take_length, H0.out, List.take_length] at h1
          exact h1
        simp [this]
  · go_enter Tryd.func26, Tryd.ntmps26
    go_wp2
    go_ret
    exact ⟨by have : l ≠ m := fun h => h0 (by rw [h]); simp [this], Ext.refl _⟩
set_option maxRecDepth 100000 in
set_option maxHeartbeats 2000000 in
theorem ints_tocsinlaw10 (l m : List Int) (a b : Option Addr) (cap cap' : Nat) (w : World) (hl : l.length ≤ bigS) (hm : m.length ≤ bigS) (hr : IRow w a l) (hr' : IRow w b m) :
    Calls Tryd.prog 37 #[.slice a l.length cap, .slice b m.length cap'] w fun e w' => e = .returned (.bool (decide (l = m))) ∧ Ext w w' := by
  unfold bigS at hl hm
  by_cases h0 : l.length = m.length
  · have H0 := Lib.hid h0
    rw [← h0]
    clear h0
    go_enter Tryd.func37, Tryd.ntmps37
    go_wp2
    go_loopw [5] (fun v5 wr => ∃ k : Nat, k ≤ l.length ∧ v5 = .int .i64 k ∧ l.take k = m.take k ∧ Ext w wr) (fun v5 _ => l.length - (intOf v5).toNat)
    case atStart => exact ⟨0, Nat.zero_le _, rfl, rfl, Ext.refl _⟩
    case round =>
      obtain ⟨k, hk, rfl, hno, hx⟩ := hrel
      have HN := Lib.hid hno
      clear hno
      by_cases hlt : k < l.length
      · have hlt' : k < m.length := by have := H0.out; omega
        obtain ⟨b1, off, rfl, hb, c0⟩ := (hr.ext hx) k hlt
        obtain ⟨b2, off2, rfl, hb2, c1⟩ := (hr'.ext hx) k hlt'
        have T1 := Lib.hid (take_snoc l k hlt)
        have T2 := Lib.hid (take_snoc m k hlt')
        clear hr hr'
        generalize hp : l[k] = p at *
        generalize hq : m[k] = q at *
        have HP := Lib.hid hp
        have HQ := Lib.hid hq
        clear hp hq
        go_wp2
        go_quiet (fail)
        go_wp2
        · have hpq : (p != q) = true := by assumption
          go_ret
          refine ⟨?_, hx.drewN _⟩
          have : l ≠ m := by
            rintro rfl
            rw [HP.out] at HQ
            have := HQ.out
            simp [this] at hpq
          simp [this]
        · have hpq : (p != q) = false := by assumption
          go_roundw
          case rel => exact ⟨k + 1, hlt, by go_num, by rw [T1.out, T2.out, HN.out]; simp at hpq; rw [hpq], hx.drewN _⟩
          case measure => simp [intOf]; omega
      · have hkk : k = l.length := by omega
        clear hr hr'
        go_wp2
        go_ret
        refine ⟨?_, hx⟩
        have : l = m := by
          have h1 := HN.out
          rw [hkk, List.take_length, H0.out, List.take_length] at h1
          exact h1
        simp [this]
  · go_enter Tryd.func37, Tryd.ntmps37
    go_wp2
    go_ret
    exact ⟨by have : l ≠ m := fun h => h0 (by rw [h]); simp [this], Ext.refl _⟩
set_option maxRecDepth 100000 in
set_option maxHeartbeats 2000000 in
theorem ints_tocsinlaw20 (l m : List Int) (a b : Option Addr) (cap cap' : Nat) (w : World) (hl : l.length ≤ bigS) (hm : m.length ≤ bigS) (hr : IRow w a l) (hr' : IRow w b m) :
    Calls Tryd.prog 49 #[.slice a l.length cap, .slice b m.length cap'] w fun e w' => e = .returned (.bool (decide (l = m))) ∧ Ext w w' := by
  unfold bigS at hl hm
  by_cases h0 : l.length = m.length
  · have H0 := Lib.hid h0
    rw [← h0]
    clear h0
    go_enter Tryd.func49, Tryd.ntmps49
    go_wp2
    go_loopw [5] (fun v5 wr => ∃ k : Nat, k ≤ l.length ∧ v5 = .int .i64 k ∧ l.take k = m.take k ∧ Ext w wr) (fun v5 _ => l.length - (intOf v5).toNat)
    case atStart => exact ⟨0, Nat.zero_le _, rfl, rfl, Ext.refl _⟩
    case round =>
      obtain ⟨k, hk, rfl, hno, hx⟩ := hrel
      have HN := Lib.hid hno
      clear hno
      by_cases hlt : k < l.length
      · have hlt' : k < m.length := by have := H0.out; omega
        obtain ⟨b1, off, rfl, hb, c0⟩ := (hr.ext hx) k hlt
        obtain ⟨b2, off2, rfl, hb2, c1⟩ := (hr'.ext hx) k hlt'
        have T1 := Lib.hid (take_snoc l k hlt)
        have T2 := Lib.hid (take_snoc m k hlt')
        clear hr hr'
        generalize hp : l[k] = p at *
        generalize hq : m[k] = q at *
        have HP := Lib.hid hp
        have HQ := Lib.hid hq
        clear hp hq
        go_wp2
        go_quiet (fail)
        go_wp2
        · have hpq : (p != q) = true := by assumption
          go_ret
          refine ⟨?_, hx.drewN _⟩
          have : l ≠ m := by
            rintro rfl
            rw [HP.out] at HQ
            have := HQ.out
            simp [this] at hpq
          simp [this]
        · have hpq : (p != q) = false := by assumption
          go_roundw
          case rel => exact ⟨k + 1, hlt, by go_num, by rw [T1.out, T2.out, HN.out]; simp at hpq; rw [hpq], hx.drewN _⟩
          case measure => simp [intOf]; omega
      · have hkk : k = l.length := by omega
        clear hr hr'
        go_wp2
        go_ret
        refine ⟨?_, hx⟩
        have : l = m := by
          have h1 := HN.out
          rw [hkk, List.take_length, H0.out, List.take_length] at h1
          exact h1
        simp [this]
  · go_enter Tryd.func49, Tryd.ntmps49
    go_wp2
    go_ret
    exact ⟨by have : l ≠ m := fun h => h0 (by rw [h]); simp [this], Ext.refl _⟩
set_option maxRecDepth 100000 in
set_option maxHeartbeats 2000000 in
theorem ints_tocsinlaw19 (l m : List Int) (a b : Option Addr) (cap cap' : Nat) (w : World) (hl : l.length ≤ bigS) (hm : m.length ≤ bigS) (hr : IRow w a l) (hr' : IRow w b m) :
    Calls Tryd.prog 58 #[.slice a l.length cap, .slice b m.length cap'] w fun e w' => e = .returned (.bool (decide (l = m))) ∧ Ext w w' := by
  unfold bigS at hl hm
  by_cases h0 : l.length = m.length
  · have H0 := Lib.hid h0
    rw [← h0]
    clear h0
    go_enter Tryd.func58, Tryd.ntmps58
    go_wp2
    go_loopw [5] (fun v5 wr => ∃ k : Nat, k ≤ l.length ∧ v5 = .int .i64 k ∧ l.take k = m.take k ∧ Ext w wr) (fun v5 _ => l.length - (intOf v5).toNat)
    case atStart => exact ⟨0, Nat.zero_le _, rfl, rfl, Ext.refl _⟩
    case round =>
      obtain ⟨k, hk, rfl, hno, hx⟩ := hrel
      have HN := Lib.hid hno
      clear hno
      by_cases hlt : k < l.length
      · have hlt' : k < m.length := by have := H0.out; omega
        obtain ⟨b1, off, rfl, hb, c0⟩ := (hr.ext hx) k hlt
        obtain ⟨b2, off2, rfl, hb2, c1⟩ := (hr'.ext hx) k hlt'
        have T1 := Lib.hid (take_snoc l k hlt)
        have T2 := Lib.hid (take_snoc m k hlt')
        clear hr hr'
        generalize hp : l[k] = p at *
        generalize hq : m[k] = q at *
        have HP := Lib.hid hp
        have HQ := Lib.hid hq
        clear hp hq
        go_wp2
        go_quiet (fail)
        go_wp2
        · have hpq : (p != q) = true := by assumption
          go_ret
          refine ⟨?_, hx.drewN _⟩
          have : l ≠ m := by
            rintro rfl
            rw [HP.out] at HQ
            have := HQ.out
            simp [this] at hpq
          simp [this]
        · have hpq : (p != q) = false := by assumption
          go_roundw
          case rel => exact ⟨k + 1, hlt, by go_num, by rw [T1.out, T2.out, HN.out]; simp at hpq; rw [hpq], hx.drewN _⟩
          case measure => simp [intOf]; omega
      · have hkk : k = l.length := by omega
        clear hr hr'
        go_wp2
        go_ret
        refine ⟨?_, hx⟩
        have : l = m := by
          have h1 := HN.out
          rw [hkk, List.take_length, H0.out, List.take_length] at h1
          exact h1
        simp [this]
  · go_enter Tryd.func58, Tryd.ntmps58
    go_wp2
    go_ret
    exact ⟨by have : l ≠ m := fun h => h0 (by rw [h]); simp [this], Ext.refl _⟩

end Go.Proofs.YtnnmakkbnfckmaaDoor
