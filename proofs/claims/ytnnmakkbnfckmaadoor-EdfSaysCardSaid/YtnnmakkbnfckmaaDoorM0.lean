/- Walks: what law 10 asks ahead of all else; its own jobs. -/
import Derived.Test.YtnnmakkbnfckmaaDoorL5
import Derived.Test.YtnnmakkbnfckmaaDoorL3
import Derived.Test.YtnnmakkbnfckmaaDoorL11
namespace Go.Proofs.YtnnmakkbnfckmaaDoor
open Go.RowKit

/-- Pairs in a block that has just been laid. -/
theorem prow_new (l : List (Int × Int)) (W : World) (o : Obj) (B : Nat) (t : TypeId) (hB : B = W.heap.size) (ho : o = .cells (l.flatMap pairC).toArray t) : PRow (W.alloc o) (some ⟨B, 0, none⟩) l := fun i hi => by
  subst hB ho
  have h := alloc_at W (.cells (l.flatMap pairC).toArray t) _ rfl
  have key : ∀ m, m < 2 → (W.alloc (.cells (l.flatMap pairC).toArray t)).cell? ⟨W.heap.size, 0 + i * 2 + m, none⟩ = (pairC l[i])[m]? := fun m hm => by
    simp only [World.cell?, h, Nat.zero_add, List.getElem?_toArray]
    exact flat_get pairC 2 (fun _ => rfl) l i hi m hm
  exact ⟨W.heap.size, 0, rfl, by simp, key 0 (by omega), key 1 (by omega)⟩
/-- Ints in a block that has just been laid. -/
theorem irow_new (l : List Int) (W : World) (o : Obj) (B : Nat) (t : TypeId) (hB : B = W.heap.size) (ho : o = .cells (l.map (Value.int .i64)).toArray t) : IRow (W.alloc o) (some ⟨B, 0, none⟩) l := fun i hi => by
  subst hB ho
  have h := alloc_at W (.cells (l.map (Value.int .i64)).toArray t) _ rfl
  exact ⟨W.heap.size, 0, rfl, by simp, by simp only [World.cell?, h, Nat.zero_add, List.getElem?_toArray]; simp [hi]⟩
set_option maxRecDepth 100000 in
set_option maxHeartbeats 2000000 in
theorem own_tocsinlaw10 (l : List J) (a : Option Addr) (cap : Nat) (w : World) (hm : l.length ≤ 1000) (hr : JRow w a l) :
    Calls Tryd.prog 31 #[.slice a l.length cap] w (JSl l w) := by
  go_enter Tryd.func31, Tryd.ntmps31
  go_wp2
  go_loopw [3, 4] (fun v3 v4 wr => ∃ k : Nat, k ≤ l.length ∧ v4 = .int .i64 k ∧ wr.ownsRow w.heap.size 27 8 v3 k ((l.take k).flatMap J.cells) ∧ Ext w wr) (fun _ v4 _ => l.length - (intOf v4).toNat)
  case atStart => exact ⟨0, Nat.zero_le _, rfl, World.ownsRow_nil _ _ _ _, Ext.refl _⟩
  case round =>
    obtain ⟨k, hk, rfl, hown, hx⟩ := hrel
    by_cases hlt : k < l.length
    · obtain ⟨b, off, rfl, hb, hcs⟩ := (hr.ext hx) k hlt
      obtain ⟨c0, c1, c2, c3, c4, c5, c6, c7⟩ := hcs
      have HT := Lib.hid (take_snoc l k hlt)
      go_wp2_with (at_builtin; go_must (refine wpList_app1 rtRefJob w.heap.size (hown.alloc _) rfl (.tmp 16) (.tmp 34) rfl rfl (J.cells l[k]) _ rfl (by simp) rfl (by simp [Value.oneCell']) (by omega) (by decide) (by have := hx.size; simp; omega) _ ?_); intro v' w1 hown1 hB1 hg1)
      go_roundw
      case rel => exact ⟨k + 1, hlt, by go_num, by rw [HT.out, List.flatMap_append]; simpa using hown1, Below.trans (hx.alloc _) hB1⟩
      case measure => simp [intOf]; omega
    · obtain rfl : k = l.length := by omega
      rw [List.take_length] at hown
      go_wp2
      go_ret
      exact JSl.mk hown hx
set_option maxRecDepth 100000 in
set_option maxHeartbeats 2000000 in
theorem own_tocsinlaw20 (l : List J) (a : Option Addr) (cap : Nat) (w : World) (hm : l.length ≤ 1000) (hr : JRow w a l) :
    Calls Tryd.prog 48 #[.slice a l.length cap] w (JSl l w) := by
  go_enter Tryd.func48, Tryd.ntmps48
  go_wp2
  go_loopw [3, 4] (fun v3 v4 wr => ∃ k : Nat, k ≤ l.length ∧ v4 = .int .i64 k ∧ wr.ownsRow w.heap.size 27 8 v3 k ((l.take k).flatMap J.cells) ∧ Ext w wr) (fun _ v4 _ => l.length - (intOf v4).toNat)
  case atStart => exact ⟨0, Nat.zero_le _, rfl, World.ownsRow_nil _ _ _ _, Ext.refl _⟩
  case round =>
    obtain ⟨k, hk, rfl, hown, hx⟩ := hrel
    by_cases hlt : k < l.length
    · obtain ⟨b, off, rfl, hb, hcs⟩ := (hr.ext hx) k hlt
      obtain ⟨c0, c1, c2, c3, c4, c5, c6, c7⟩ := hcs
      have HT := Lib.hid (take_snoc l k hlt)
      go_wp2_with (at_builtin; go_must (refine wpList_app1 rtRefJob w.heap.size (hown.alloc _) rfl (.tmp 16) (.tmp 34) rfl rfl (J.cells l[k]) _ rfl (by simp) rfl (by simp [Value.oneCell']) (by omega) (by decide) (by have := hx.size; simp; omega) _ ?_); intro v' w1 hown1 hB1 hg1)
      go_roundw
      case rel => exact ⟨k + 1, hlt, by go_num, by rw [HT.out, List.flatMap_append]; simpa using hown1, Below.trans (hx.alloc _) hB1⟩
      case measure => simp [intOf]; omega
    · obtain rfl : k = l.length := by omega
      rw [List.take_length] at hown
      go_wp2
      go_ret
      exact JSl.mk hown hx
set_option maxRecDepth 100000 in
set_option maxHeartbeats 2000000 in
theorem own_tocsinlaw19 (l : List J) (a : Option Addr) (cap : Nat) (w : World) (hm : l.length ≤ 1000) (hr : JRow w a l) :
    Calls Tryd.prog 57 #[.slice a l.length cap] w (JSl l w) := by
  go_enter Tryd.func57, Tryd.ntmps57
  go_wp2
  go_loopw [3, 4] (fun v3 v4 wr => ∃ k : Nat, k ≤ l.length ∧ v4 = .int .i64 k ∧ wr.ownsRow w.heap.size 27 8 v3 k ((l.take k).flatMap J.cells) ∧ Ext w wr) (fun _ v4 _ => l.length - (intOf v4).toNat)
  case atStart => exact ⟨0, Nat.zero_le _, rfl, World.ownsRow_nil _ _ _ _, Ext.refl _⟩
  case round =>
    obtain ⟨k, hk, rfl, hown, hx⟩ := hrel
    by_cases hlt : k < l.length
    · obtain ⟨b, off, rfl, hb, hcs⟩ := (hr.ext hx) k hlt
      obtain ⟨c0, c1, c2, c3, c4, c5, c6, c7⟩ := hcs
      have HT := Lib.hid (take_snoc l k hlt)
      go_wp2_with (at_builtin; go_must (refine wpList_app1 rtRefJob w.heap.size (hown.alloc _) rfl (.tmp 16) (.tmp 34) rfl rfl (J.cells l[k]) _ rfl (by simp) rfl (by simp [Value.oneCell']) (by omega) (by decide) (by have := hx.size; simp; omega) _ ?_); intro v' w1 hown1 hB1 hg1)
      go_roundw
      case rel => exact ⟨k + 1, hlt, by go_num, by rw [HT.out, List.flatMap_append]; simpa using hown1, Below.trans (hx.alloc _) hB1⟩
      case measure => simp [intOf]; omega
    · obtain rfl : k = l.length := by omega
      rw [List.take_length] at hown
      go_wp2
      go_ret
      exact JSl.mk hown hx
abbrev aw10 : J := ⟨⟨#[97]⟩, 0, 4, 2, 2, 0, 0, false⟩
abbrev pr10 : List (Int × Int) := [(3, 2), (4, 2)]
theorem aw10_ok : aw10.ok := by unfold J.ok bigS; decide
set_option maxRecDepth 100000 in
theorem aw10_run : runV [aw10] 3 = [0, 0, -1] := by decide +kernel
set_option maxRecDepth 100000 in
theorem aw10_meets : meetsB [aw10] = true := by decide +kernel
theorem pr10_slack : slackR 0 pr10 = 0 ∧ slackOk 0 pr10 = true := by decide +kernel
theorem pr10_fits : fitsB 0 pr10 = true ∧ fitsB 1 pr10 = false := by decide +kernel

end Go.Proofs.YtnnmakkbnfckmaaDoor
