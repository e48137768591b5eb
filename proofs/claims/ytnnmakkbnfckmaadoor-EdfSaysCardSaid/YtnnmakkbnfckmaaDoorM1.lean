/- Walks: what law 10 asks ahead of all else. -/
import Derived.Test.YtnnmakkbnfckmaaDoorM0
namespace Go.Proofs.YtnnmakkbnfckmaaDoor
open Go.RowKit

theorem pr10_cells : Obj.cells #[.int .i64 3, .int .i64 2, .int .i64 4, .int .i64 2] 56 = .cells (pr10.flatMap pairC).toArray 56 := rfl
theorem tr10_cells : Obj.cells #[.int .i64 0, .int .i64 0, .int .i64 (-1)] 3 = .cells (([0, 0, -1] : List Int).map (Value.int .i64)).toArray 3 := rfl
set_option maxRecDepth 100000 in
set_option maxHeartbeats 4000000 in
theorem awake10 (w : World) (hT : Tabs w) : Calls Tryd.prog 29 #[] w fun e w' => e = .returned (.bool true) ∧ Ext w w' := by
  have C1 : Hid (∀ W a, PRow W a pr10 → Calls Tryd.prog 32 #[.int .i64 0, .slice a 2 2] W fun e w' => e = .returned (.tuple #[.int .i64 0, .bool true]) ∧ Ext W w') := Lib.hid fun W a h => by
    have h0 := slack_any 0 pr10 a 2 W (by decide) h
    rwa [pr10_slack.1, pr10_slack.2] at h0
  have C2 : Hid (∀ W a, PRow W a pr10 → Calls Tryd.prog 35 #[.int .i64 0, .slice a 2 2] W fun e w' => e = .returned (.bool true) ∧ Ext W w') := Lib.hid fun W a h => by
    have h0 := fits_any 0 pr10 a 2 W (by decide) h
    rwa [pr10_fits.1] at h0
  have C3 : Hid (∀ W a, PRow W a pr10 → Calls Tryd.prog 35 #[.int .i64 1, .slice a 2 2] W fun e w' => e = .returned (.bool false) ∧ Ext W w') := Lib.hid fun W a h => by
    have h0 := fits_any 1 pr10 a 2 W (by decide) h
    rwa [pr10_fits.2] at h0
  have C4 : Hid (∀ W a, Ext w W → JRow W a [aw10] → Calls Tryd.prog 38 #[.slice a 1 1, .int .i64 3] W (ISl [0, 0, -1] W)) := Lib.hid fun W a h hr => by
    have h0 := edfRun_any [aw10] 3 a 1 W (by decide) (hT.ext h) (by simp [aw10_ok]) hr
    rwa [aw10_run] at h0
  have C5 : Hid (∀ W a, Ext w W → JRow W a [aw10] → Calls Tryd.prog 40 #[.slice a 1 1] W fun e w' => e = .returned (.bool true) ∧ Ext W w') := Lib.hid fun W a h hr => by
    have h0 := meets_any [aw10] a 1 W (by decide) (hT.ext h) (by simp [aw10_ok]) hr
    rwa [aw10_meets] at h0
  have C6 : Hid (∀ W a b c c', IRow W a [0, 0, -1] → IRow W b [0, 0, -1] → Calls Tryd.prog 37 #[.slice a 3 c, .slice b 3 c'] W fun e w' => e = .returned (.bool true) ∧ Ext W w') := Lib.hid fun W a b c c' h1 h2 => by
    have := ints_tocsinlaw10 [0, 0, -1] [0, 0, -1] a b c c' W (by decide) (by decide) h1 h2
    simpa using this
  clear hT
  go_enter Tryd.func29, Tryd.ntmps29
  go_wp2_with fail
  refine (C1.out _ _ (prow_new pr10 _ _ _ 56 rfl pr10_cells)).mono ?_
  rintro e w1 ⟨rfl, h1⟩
  have x1 : Ext w w1 := (Ext.new _ _).trans h1
  clear h1
  go_wp2_with fail
  refine (C2.out _ _ (prow_new pr10 _ _ _ 56 (by simp) pr10_cells)).mono ?_
  rintro e w2 ⟨rfl, h2⟩
  have j1 : JRow (w1.alloc (.cells aw10.cells.toArray 24)) (some ⟨w1.heap.size, 0, none⟩) [aw10] := jrow_one aw10 w1 _ _ 24 rfl rfl
  have e2 : Ext (w1.alloc (.cells aw10.cells.toArray 24)) w2 := (Ext.new _ _).trans h2
  have j2 := Lib.hid (j1.ext e2)
  have x2 : Ext w w2 := (x1.alloc _).trans e2
  clear h2 j1 e2 x1
  generalize w1.heap.size = B1 at *
  go_wp2_with fail
  refine (C3.out _ _ (prow_new pr10 _ _ _ 56 rfl pr10_cells)).mono ?_
  rintro e w3 ⟨rfl, h3⟩
  have e3 : Ext w2 w3 := (Ext.new _ _).trans h3
  have j3 := Lib.hid ((j2.out).ext e3)
  have x3 := x2.trans e3
  clear h3 e3 j2 x2
  go_wp2_with fail
  refine (C4.out _ _ x3 j3.out).mono ?_
  rintro e w4 ⟨a4, c4, rfl, hi4, h4, _, _⟩
  have j4 := Lib.hid ((j3.out).ext h4)
  have x4 := x3.trans h4
  have HI := Lib.hid hi4
  clear h4 j3 x3 hi4
  go_wp2_with fail
  refine (C6.out _ _ _ _ _ ((HI.out).ext (Ext.new _ _)) (irow_new [0, 0, -1] _ _ _ 3 rfl tr10_cells)).mono ?_
  rintro e w5 ⟨rfl, h5⟩
  have e5 : Ext w4 w5 := (Ext.new _ _).trans h5
  have j5 := Lib.hid ((j4.out).ext e5)
  have x5 := x4.trans e5
  clear h5 e5 j4 x4
  go_wp2_with fail
  refine (C5.out _ _ x5 j5.out).mono ?_
  rintro e w6 ⟨rfl, h6⟩
  go_wp2_with fail
  go_ret
  exact ⟨rfl, x5.trans h6⟩
end Go.Proofs.YtnnmakkbnfckmaaDoor
