/- My own texts M0, M1 in one. -/
import Derived.Test.YtnnmakkbnfckmaaDoorGL
/- Walks: what law 10 asks ahead of all else; its own jobs. -/
namespace Go.Proofs.YtnnmakkbnfckmaaDoor
open Go.RowKit

/-- Pairs in a block that has just been laid. -/
theorem prow_new (l : List (Int × Int)) (W : World) (o : Obj) (B : Nat) (t : TypeId) (hB : B = W.heap.size) (ho : o = .cells (l.flatMap pairC).toArray t) : PRow (W.alloc o) (some ⟨B, 0, none⟩) l := fun i hi => by
  subst hB ho
  have h := alloc_at W (.cells (l.flatMap pairC).toArray t) _ rfl
  have key : ∀ m, m < 2 → (W.alloc (.cells (l.flatMap pairC).toArray t)).cell? ⟨W.heap.size, 0 + i * 2 + m, none⟩ = (pairC l[i])[m]? := fun m hm => by
    simp only [World.cell?, h, Nat.zero_add, List.getElem?_toArray]
    exact flat_get pairC 2 (fun _ => rfl) l i hi m hm
  exact ⟨W.heap.size, 0, rfl, by simp, key 0 (by omega), key 1 (by omega)⟩
/-- Ints in a block that has just been laid. -/
theorem irow_new (l : List Int) (W : World) (o : Obj) (B : Nat) (t : TypeId) (hB : B = W.heap.size) (ho : o = .cells (l.map (Value.int .i64)).toArray t) : IRow (W.alloc o) (some ⟨B, 0, none⟩) l := fun i hi => by
  subst hB ho
  have h := alloc_at W (.cells (l.map (Value.int .i64)).toArray t) _ rfl
  exact ⟨W.heap.size, 0, rfl, by simp, by simp only [World.cell?, h, Nat.zero_add, List.getElem?_toArray]; simp [hi]⟩
set_option maxRecDepth 100000 in
set_option maxHeartbeats 2000000 in
theorem own_tocsinlaw10 (l : List J) (a : Option Addr) (cap : Nat) (w : World) (hm : l.length ≤ 1000) (hr : JRow w a l) :
    Calls Tryd.prog 31 #[.slice a l.length cap] w (JSl l w) := by
  go_enter Tryd.func31, Tryd.ntmps31
  go_wp2
  go_loopw [3, 4] (fun v3 v4 wr => ∃ k : Nat, k ≤ l.length ∧ v4 = .int .i64 k ∧ wr.ownsRow w.heap.size 27 8 v3 k ((l.take k).flatMap J.cells) ∧ Ext w wr) (fun _ v4 _ => l.length - (intOf v4).toNat)
  case atStart => exact ⟨0, Nat.zero_le _, rfl, World.ownsRow_nil _ _ _ _, Ext.refl _⟩
  case round =>
    obtain ⟨k, hk, rfl, hown, hx⟩ := hrel
    by_cases hlt : k < l.length
    · obtain ⟨b, off, rfl, hb, hcs⟩ := (hr.ext hx) k hlt
      obtain ⟨c0, c1, c2, c3, c4, c5, c6, c7⟩ := hcs
      have HT := Lib.hid (take_snoc l k hlt)
      go_wp2_with (at_builtin; go_must (refine wpList_app1 rtRefJob w.heap.size (hown.alloc _) rfl (.tmp 16) (.tmp 34) rfl rfl (J.cells l[k]) _ rfl (by simp) rfl (by simp [Value.oneCell']) (by omega) (by decide) (by have := hx.size; simp; omega) _ ?_); intro v' w1 hown1 hB1 hg1)
      go_roundw
      case rel => exact ⟨k + 1, hlt, by go_num, by rw [HT.out, List.flatMap_append]; simpa using hown1, Below.trans (hx.alloc _) hB1⟩
      case measure => simp [intOf]; omega
    · obtain rfl : k = l.length := by omega
      rw [List.take_length] at hown
      go_wp2
      go_ret
      exact JSl.mk hown hx
set_option maxRecDepth 100000 in
set_option maxHeartbeats 2000000 in
theorem own_tocsinlaw20 (l : List J) (a : Option Addr) (cap : Nat) (w : World) (hm : l.length ≤ 1000) (hr : JRow w a l) :
    Calls Tryd.prog 48 #[.slice a l.length cap] w (JSl l w) := by
  go_enter Tryd.func48, Tryd.ntmps48
  go_wp2
  go_loopw [3, 4] (fun v3 v4 wr => ∃ k : Nat, k ≤ l.length ∧ v4 = .int .i64 k ∧ wr.ownsRow w.heap.size 27 8 v3 k ((l.take k).flatMap J.cells) ∧ Ext w wr) (fun _ v4 _ => l.length - (intOf v4).toNat)
  case atStart => exact ⟨0, Nat.zero_le _, rfl, World.ownsRow_nil _ _ _ _, Ext.refl _⟩
  case round =>
    obtain ⟨k, hk, rfl, hown, hx⟩ := hrel
    by_cases hlt : k < l.length
    · obtain ⟨b, off, rfl, hb, hcs⟩ := (hr.ext hx) k hlt
      obtain ⟨c0, c1, c2, c3, c4, c5, c6, c7⟩ := hcs
      have HT := Lib.hid (take_snoc l k hlt)
      go_wp2_with (at_builtin; go_must (refine wpList_app1 rtRefJob w.heap.size (hown.alloc _) rfl (.tmp 16) (.tmp 34) rfl rfl (J.cells l[k]) _ rfl (by simp) rfl (by simp [Value.oneCell']) (by omega) (by decide) (by have := hx.size; simp; omega) _ ?_); intro v' w1 hown1 hB1 hg1)
      go_roundw
      case rel => exact ⟨k + 1, hlt, by go_num, by rw [HT.out, List.flatMap_append]; simpa using hown1, Below.trans (hx.alloc _) hB1⟩
      case measure => simp [intOf]; omega
    · obtain rfl : k = l.length := by omega
      rw [List.take_length] at hown
      go_wp2
      go_ret
      exact JSl.mk hown hx
set_option maxRecDepth 100000 in
set_option maxHeartbeats 2000000 in
theorem own_tocsinlaw19 (l : List J) (a : Option Addr) (cap : Nat) (w : World) (hm : l.length ≤ 1000) (hr : JRow w a l) :
    Calls Tryd.prog 57 #[.slice a l.length cap] w (JSl l w) := by
  go_enter Tryd.func57, Tryd.ntmps57
  go_wp2
  go_loopw [3, 4] (fun v3 v4 wr => ∃ k : Nat, k ≤ l.length ∧ v4 = .int .i64 k ∧ wr.ownsRow w.heap.size 27 8 v3 k ((l.take k).flatMap J.cells) ∧ Ext w wr) (fun _ v4 _ => l.length - (intOf v4).toNat)
  case atStart => exact ⟨0, Nat.zero_le _, rfl, World.ownsRow_nil _ _ _ _, Ext.refl _⟩
  case round =>
    obtain ⟨k, hk, rfl, hown, hx⟩ := hrel
    by_cases hlt : k < l.length
    · obtain ⟨b, off, rfl, hb, hcs⟩ := (hr.ext hx) k hlt
      obtain ⟨c0, c1, c2, c3, c4, c5, c6, c7⟩ := hcs
      have HT := Lib.hid (take_snoc l k hlt)
      go_wp2_with (at_builtin; go_must (refine wpList_app1 rtRefJob w.heap.size (hown.alloc _) rfl (.tmp 16) (.tmp 34) rfl rfl (J.cells l[k]) _ rfl (by simp) rfl (by simp [Value.oneCell']) (by omega) (by decide) (by have := hx.size; simp; omega) _ ?_); intro v' w1 hown1 hB1 hg1)
      go_roundw
      case rel => exact ⟨k + 1, hlt, by go_num, by rw [HT.out, List.flatMap_append]; simpa using hown1, Below.trans (hx.alloc _) hB1⟩
      case measure => simp [intOf]; omega
    · obtain rfl : k = l.length := by omega
      rw [List.take_length] at hown
      go_wp2
      go_ret
      exact JSl.mk hown hx
abbrev aw10 : J := ⟨⟨#[97]⟩, 0, 4, 2, 2, 0, 0, false⟩
abbrev pr10 : List (Int × Int) := [(3, 2), (4, 2)]
theorem aw10_ok : aw10.ok := by unfold J.ok bigS; decide
set_option maxRecDepth 100000 in
theorem aw10_run : runV [aw10] 3 = [0, 0, -1] := by decide +kernel
set_option maxRecDepth 100000 in
theorem aw10_meets : meetsB [aw10] = true := by decide +kernel
theorem pr10_slack : slackR 0 pr10 = 0 ∧ slackOk 0 pr10 = true := by decide +kernel
theorem pr10_fits : fitsB 0 pr10 = true ∧ fitsB 1 pr10 = false := by decide +kernel

end Go.Proofs.YtnnmakkbnfckmaaDoor
/- Walks: what law 10 asks ahead of all else. -/
namespace Go.Proofs.YtnnmakkbnfckmaaDoor
open Go.RowKit

theorem pr10_cells : Obj.cells #[.int .i64 3, .int .i64 2, .int .i64 4, .int .i64 2] 56 = .cells (pr10.flatMap pairC).toArray 56 := rfl
theorem tr10_cells : Obj.cells #[.int .i64 0, .int .i64 0, .int .i64 (-1)] 3 = .cells (([0, 0, -1] : List Int).map (Value.int .i64)).toArray 3 := rfl
set_option maxRecDepth 100000 in
set_option maxHeartbeats 4000000 in
theorem awake10 (w : World) (hT : Tabs w) : Calls Tryd.prog 29 #[] w fun e w' => e = .returned (.bool true) ∧ Ext w w' := by
  have C1 : Hid (∀ W a, PRow W a pr10 → Calls Tryd.prog 32 #[.int .i64 0, .slice a 2 2] W fun e w' => e = .returned (.tuple #[.int .i64 0, .bool true]) ∧ Ext W w') := Lib.hid fun W a h => by
    have h0 := slack_any 0 pr10 a 2 W (by decide) h
    rwa [pr10_slack.1, pr10_slack.2] at h0
  have C2 : Hid (∀ W a, PRow W a pr10 → Calls Tryd.prog 35 #[.int .i64 0, .slice a 2 2] W fun e w' => e = .returned (.bool true) ∧ Ext W w') := Lib.hid fun W a h => by
    have h0 := fits_any 0 pr10 a 2 W (by decide) h
    rwa [pr10_fits.1] at h0
  have C3 : Hid (∀ W a, PRow W a pr10 → Calls Tryd.prog 35 #[.int .i64 1, .slice a 2 2] W fun e w' => e = .returned (.bool false) ∧ Ext W w') := Lib.hid fun W a h => by
    have h0 := fits_any 1 pr10 a 2 W (by decide) h
    rwa [pr10_fits.2] at h0
  have C4 : Hid (∀ W a, Ext w W → JRow W a [aw10] → Calls Tryd.prog 38 #[.slice a 1 1, .int .i64 3] W (ISl [0, 0, -1] W)) := Lib.hid fun W a h hr => by
    have h0 := edfRun_any [aw10] 3 a 1 W (by decide) (hT.ext h) (by simp [aw10_ok]) hr
    rwa [aw10_run] at h0
  have C5 : Hid (∀ W a, Ext w W → JRow W a [aw10] → Calls Tryd.prog 40 #[.slice a 1 1] W fun e w' => e = .returned (.bool true) ∧ Ext W w') := Lib.hid fun W a h hr => by
    have h0 := meets_any [aw10] a 1 W (by decide) (hT.ext h) (by simp [aw10_ok]) hr
    rwa [aw10_meets] at h0
  have C6 : Hid (∀ W a b c c', IRow W a [0, 0, -1] → IRow W b [0, 0, -1] → Calls Tryd.prog 37 #[.slice a 3 c, .slice b 3 c'] W fun e w' => e = .returned (.bool true) ∧ Ext W w') := Lib.hid fun W a b c c' h1 h2 => by
    have := ints_tocsinlaw10 [0, 0, -1] [0, 0, -1] a b c c' W (by decide) (by decide) h1 h2
    simpa using this
  clear hT
  go_enter Tryd.func29, Tryd.ntmps29
  go_wp2_with fail
  refine (C1.out _ _ (prow_new pr10 _ _ _ 56 rfl pr10_cells)).mono ?_
  rintro e w1 ⟨rfl, h1⟩
  have x1 : Ext w w1 := (Ext.new _ _).trans h1
  clear h1
  go_wp2_with fail
  refine (C2.out _ _ (prow_new pr10 _ _ _ 56 (by simp) pr10_cells)).mono ?_
  rintro e w2 ⟨rfl, h2⟩
  have j1 : JRow (w1.alloc (.cells aw10.cells.toArray 24)) (some ⟨w1.heap.size, 0, none⟩) [aw10] := jrow_one aw10 w1 _ _ 24 rfl rfl
  have e2 : Ext (w1.alloc (.cells aw10.cells.toArray 24)) w2 := (Ext.new _ _).trans h2
  have j2 := Lib.hid (j1.ext e2)
  have x2 : Ext w w2 := (x1.alloc _).trans e2
  clear h2 j1 e2 x1
  generalize w1.heap.size = B1 at *
  go_wp2_with fail
  refine (C3.out _ _ (prow_new pr10 _ _ _ 56 rfl pr10_cells)).mono ?_
  rintro e w3 ⟨rfl, h3⟩
  have e3 : Ext w2 w3 := (Ext.new _ _).trans h3
  have j3 := Lib.hid ((j2.out).ext e3)
  have x3 := x2.trans e3
  clear h3 e3 j2 x2
  go_wp2_with fail
  refine (C4.out _ _ x3 j3.out).mono ?_
  rintro e w4 ⟨a4, c4, rfl, hi4, h4, _, _⟩
  have j4 := Lib.hid ((j3.out).ext h4)
  have x4 := x3.trans h4
  have HI := Lib.hid hi4
  clear h4 j3 x3 hi4
  go_wp2_with fail
  refine (C6.out _ _ _ _ _ ((HI.out).ext (Ext.new _ _)) (irow_new [0, 0, -1] _ _ _ 3 rfl tr10_cells)).mono ?_
  rintro e w5 ⟨rfl, h5⟩
  have e5 : Ext w4 w5 := (Ext.new _ _).trans h5
  have j5 := Lib.hid ((j4.out).ext e5)
  have x5 := x4.trans e5
  clear h5 e5 j4 x4
  go_wp2_with fail
  refine (C5.out _ _ x5 j5.out).mono ?_
  rintro e w6 ⟨rfl, h6⟩
  go_wp2_with fail
  go_ret
  exact ⟨rfl, x5.trans h6⟩
end Go.Proofs.YtnnmakkbnfckmaaDoor
