/- Walks: what law 8 asks ahead of all else. -/
import Derived.Test.YtnnmakkbnfckmaaDoorA6
import Derived.Test.YtnnmakkbnfckmaaDoorB1
namespace Go.Proofs.YtnnmakkbnfckmaaDoor
open Go.RowKit

/-- One job in a block that has just been laid. -/
theorem jrow_one (j : J) (W : World) (o : Obj) (B : Nat) (t : TypeId) (hB : B = W.heap.size) (ho : o = .cells j.cells.toArray t) : JRow (W.alloc o) (some ⟨B, 0, none⟩) [j] := fun i hi => by
  subst hB ho
  have : i = 0 := by simpa using hi
  subst this
  have h := alloc_at W (.cells j.cells.toArray t) _ rfl
  refine ⟨W.heap.size, 0, rfl, by simp, ?_⟩
  simp only [Nat.zero_mul, Nat.add_zero, List.getElem_cons_zero]
  constructor <;> (simp only [World.cell?, h]; rfl)
abbrev aw8 : J := ⟨⟨#[97]⟩, 0, 9, 3, 5, 0, 2, false⟩
set_option maxRecDepth 100000 in
theorem aw8_good : goodB aw8 = true := by decide +kernel
theorem aw8_ok : aw8.ok := by unfold J.ok bigS; decide

set_option maxRecDepth 100000 in
set_option maxHeartbeats 4000000 in
theorem awake8 (w : World) (hT : Tabs w) : Calls Tryd.prog 12 #[] w fun e w' => e = .returned (.bool true) ∧ Ext w w' := by
  have e1 : workJ aw8 = 5 := by unfold workJ; rw [aw8_good]; rfl
  have e2 : chargeJ aw8 = 5 := by unfold chargeJ; rw [aw8_good]; rfl
  have e3 : runsB aw8 = false := by decide
  have e4 : endJ [aw8] = 9 := by
    have : allB [aw8] = true := by unfold allB; simp [aw8_good]
    unfold endJ; rw [this]; decide
  have C1 := Lib.hid fun W (h : Ext w W) => good_any aw8 W (NameC.of (hT.ext h)) aw8_ok
  have C2 := Lib.hid fun W (h : Ext w W) => work_any aw8 W (NameC.of (hT.ext h)) aw8_ok
  have C3 := Lib.hid fun W (h : Ext w W) => charge_any aw8 W (NameC.of (hT.ext h)) aw8_ok
  have C4 := Lib.hid fun W (h : Ext w W) => runs_any aw8 W
  have C5 : Hid (∀ W a, Ext w W → JRow W a [aw8] → Calls Tryd.prog 24 #[.slice a 1 1] W fun e w' => e = .returned (.int .i64 (endJ [aw8])) ∧ Ext W w') := Lib.hid fun W a (h : Ext w W) (hr : JRow W a [aw8]) => end_any [aw8] a 1 W (by decide) (NameC.of (hT.ext h)) (by simp [aw8_ok]) hr
  rw [aw8_good] at C1
  rw [e1] at C2
  rw [e2] at C3
  rw [e3] at C4
  rw [e4] at C5
  clear e1 e2 e3 e4 hT
  go_enter Tryd.func12, Tryd.ntmps12
  go_wp2_with (first
    | (go_at_call 15; go_must (with_reducible refine (C1.out _ (Ext.new _ _)).mono ?_); rintro e w1 ⟨rfl, h1⟩; obtain ⟨hc1, hf1⟩ := bcell h1; have x1 := (Ext.new _ _).trans h1; have z1 : w.heap.size < w1.heap.size := by have := h1.size; simp at this; omega)
    | (go_at_call 21; go_must (with_reducible refine (C2.out _ x1).mono ?_); rintro e w2 ⟨rfl, h2⟩; obtain ⟨hc2, hf2⟩ := bcell h2; have x2 := x1.trans h2; have z2 := Nat.lt_of_lt_of_le z1 h2.size)
    | (go_at_call 19; go_must (with_reducible refine (C3.out _ x2).mono ?_); rintro e w3 ⟨rfl, h3⟩; obtain ⟨hc3, hf3⟩ := bcell h3; have x3 := x2.trans h3; have z3 := Nat.lt_of_lt_of_le z2 h3.size)
    | (go_at_call 23; go_must (with_reducible refine (C4.out _ x3).mono ?_); rintro e w4 ⟨rfl, h4⟩; obtain ⟨hc4, hf4⟩ := bcell h4; have x4 := x3.trans h4; have z4 := Nat.lt_of_lt_of_le z3 h4.size)
    | (go_at_call 24; go_must (with_reducible refine (C5.out _ _ (x4.alloc _) (jrow_one aw8 _ _ _ 24 rfl rfl)).mono ?_); rintro e w5 ⟨rfl, h5⟩))
  go_ret
  exact ⟨rfl, (x4.alloc _).trans h5⟩
end Go.Proofs.YtnnmakkbnfckmaaDoor
