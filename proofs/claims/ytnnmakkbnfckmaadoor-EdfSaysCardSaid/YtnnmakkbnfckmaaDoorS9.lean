/- The library's stable sort at no elements. -/
import Derived.Test.YtnnmakkbnfckmaaDoorS0
namespace Go.Proofs.YtnnmakkbnfckmaaDoor
open Go.RowKit Go.Shelf Go.Sort Go.Lib
set_option maxHeartbeats 4000000 in
set_option maxRecDepth 100000 in
theorem insNoneI (a : Option Addr) (cap : Nat) (f : Value) (w : World) : Calls Tryd.prog 133 #[.slice a 0 cap, .int .i64 0, .int .i64 0, f] w fun e w' => e = .returned (.tuple #[]) ∧ w' = w := by
  go_enter Tryd.func133, Tryd.ntmps133
  go_wp2
  go_loopg [8] 0 (fun gk v wr => v = .int .i64 1 ∧ wr = w)
  case atStart => exact ⟨rfl, rfl⟩
  case round =>
    obtain ⟨rfl, rfl⟩ := hrel
    go_wp2
    go_end0
    exact ⟨rfl, rfl⟩
set_option maxHeartbeats 4000000 in
set_option maxRecDepth 100000 in
theorem stableNoneI (a : Option Addr) (cap : Nat) (f : Value) (w : World) : Calls Tryd.prog 107 #[.slice a 0 cap, .int .i64 0, f] w fun e w' => e = .returned (.tuple #[]) ∧ w' = w := by
  have hc := insNoneI a cap f w
  go_enter Tryd.func107, Tryd.ntmps107
  go_wp2_with fail
  go_loopg [7, 8] 0 (fun gk v v8 wr => v = .int .i64 0 ∧ v8 = .int .i64 20 ∧ wr = w)
  case atStart => exact ⟨rfl, rfl, rfl⟩
  case round =>
    obtain ⟨rfl, rfl, rfl⟩ := hrel
    go_wp2_with (go_at_call 133; with_reducible refine hc.mono ?_; rintro e1 w1 ⟨rfl, rfl⟩)
    go_loopg [6, 7, 8, 9] 0 (fun gk v v7 v8 v9 w2 => v = .int .i64 20 ∧ w2 = w1)
    case atStart => exact ⟨rfl, rfl⟩
    case round =>
      obtain ⟨rfl, rfl⟩ := hrel
      go_wp2_with fail
      go_end0
      exact ⟨rfl, rfl⟩
set_option maxHeartbeats 4000000 in
set_option maxRecDepth 100000 in
theorem sortNoneI (a : Option Addr) (cap : Nat) (f : Value) (w : World) : Calls Tryd.prog 67 #[.slice a 0 cap, f] w fun e w' => e = .returned (.tuple #[]) ∧ w' = w := by
  have hc := stableNoneI a cap f w
  go_enter Tryd.func67, Tryd.ntmps67
  go_wp2_with (go_at_call 107; with_reducible refine hc.mono ?_; rintro e1 w1 ⟨rfl, rfl⟩)
  go_end0
  exact ⟨rfl, rfl⟩
set_option maxHeartbeats 4000000 in
set_option maxRecDepth 100000 in
theorem insNoneL (a : Option Addr) (cap : Nat) (f : Value) (w : World) : Calls Tryd.prog 136 #[.slice a 0 cap, .int .i64 0, .int .i64 0, f] w fun e w' => e = .returned (.tuple #[]) ∧ w' = w := by
  go_enter Tryd.func136, Tryd.ntmps136
  go_wp2
  go_loopg [8] 0 (fun gk v wr => v = .int .i64 1 ∧ wr = w)
  case atStart => exact ⟨rfl, rfl⟩
  case round =>
    obtain ⟨rfl, rfl⟩ := hrel
    go_wp2
    go_end0
    exact ⟨rfl, rfl⟩
set_option maxHeartbeats 4000000 in
set_option maxRecDepth 100000 in
theorem stableNoneL (a : Option Addr) (cap : Nat) (f : Value) (w : World) : Calls Tryd.prog 112 #[.slice a 0 cap, .int .i64 0, f] w fun e w' => e = .returned (.tuple #[]) ∧ w' = w := by
  have hc := insNoneL a cap f w
  go_enter Tryd.func112, Tryd.ntmps112
  go_wp2_with fail
  go_loopg [7, 8] 0 (fun gk v v8 wr => v = .int .i64 0 ∧ v8 = .int .i64 20 ∧ wr = w)
  case atStart => exact ⟨rfl, rfl, rfl⟩
  case round =>
    obtain ⟨rfl, rfl, rfl⟩ := hrel
    go_wp2_with (go_at_call 136; with_reducible refine hc.mono ?_; rintro e1 w1 ⟨rfl, rfl⟩)
    go_loopg [6, 7, 8, 9] 0 (fun gk v v7 v8 v9 w2 => v = .int .i64 20 ∧ w2 = w1)
    case atStart => exact ⟨rfl, rfl⟩
    case round =>
      obtain ⟨rfl, rfl⟩ := hrel
      go_wp2_with fail
      go_end0
      exact ⟨rfl, rfl⟩
set_option maxHeartbeats 4000000 in
set_option maxRecDepth 100000 in
theorem sortNoneL (a : Option Addr) (cap : Nat) (f : Value) (w : World) : Calls Tryd.prog 72 #[.slice a 0 cap, f] w fun e w' => e = .returned (.tuple #[]) ∧ w' = w := by
  have hc := stableNoneL a cap f w
  go_enter Tryd.func72, Tryd.ntmps72
  go_wp2_with (go_at_call 112; with_reducible refine hc.mono ?_; rintro e1 w1 ⟨rfl, rfl⟩)
  go_end0
  exact ⟨rfl, rfl⟩
end Go.Proofs.YtnnmakkbnfckmaaDoor
