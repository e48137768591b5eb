/- Walks of package job's small functions. -/
import Derived.Test.YtnnmakkbnfckmaaDoorA0
namespace Go.Proofs.YtnnmakkbnfckmaaDoor
open Go.RowKit

/-- A name's size is an int. -/
def J.ok (j : J) : Prop := j.name.size ≤ bigS
/-- What name.Good comes to, in every world behind w. -/
def NameC (w : World) : Prop := ∀ (s : ByteArray) W, s.size ≤ bigS → Ext w W → Calls Tryd.prog 63 #[.string s] W fun e w' => e = .returned (.bool (goodName s)) ∧ Ext W w'
theorem NameC.call {w : World} (h : NameC w) (s : ByteArray) (W : World) (hs : s.size ≤ bigS) (hx : Ext w W) : Calls Tryd.prog 63 #[.string s] W fun e w' => e = .returned (.bool (goodName s)) ∧ Ext W w' := h s W hs hx
theorem NameC.ext {w w' : World} (h : NameC w) (hx : Ext w w') : NameC w' := fun s W hs hw => h s W hs (hx.trans hw)

theorem in_any (n a b : Int) (w : World) : Calls Tryd.prog 62 #[.int .i64 n, .int .i64 a, .int .i64 b] w fun e w' =>
    e = .returned (.bool (inB n a b)) ∧ w = w' := by
  unfold inB
  by_cases h1 : a ≤ n
  · by_cases h2 : n ≤ b
    · go_enter Tryd.func62, Tryd.ntmps62
      go_wp2
      go_ret
      exact ⟨by simp [h1, h2], rfl⟩
    · go_enter Tryd.func62, Tryd.ntmps62
      go_wp2
      go_ret
      exact ⟨by simp [h2], rfl⟩
  · go_enter Tryd.func62, Tryd.ntmps62
    go_wp2
    go_ret
    exact ⟨by simp; omega, rfl⟩

set_option maxRecDepth 100000 in
set_option maxHeartbeats 2000000 in
theorem good_any (j : J) (w : World) (NG : NameC w) (hs : j.ok) :
    Calls Tryd.prog 15 #[j.agg] w fun e w' => e = .returned (.bool (goodB j)) ∧ Ext w w' := by
  obtain ⟨name, rel, dl, bud, act, val, cln, hard⟩ := j
  replace hs : name.size ≤ bigS := hs
  unfold J.agg goodB
  obtain ⟨T, hT⟩ : ∃ T, timesB ⟨name, rel, dl, bud, act, val, cln, hard⟩ = T := ⟨_, rfl⟩
  obtain ⟨S, hS⟩ : ∃ S, worksB ⟨name, rel, dl, bud, act, val, cln, hard⟩ = S := ⟨_, rfl⟩
  rw [hT, hS]
  unfold timesB at hT
  unfold worksB at hS
  have HT := Lib.hid hT
  have HS := Lib.hid hS
  clear hT hS
  go_enter Tryd.func15, Tryd.ntmps15
  go_upto_region 1 with fail
  go_cut [3] (fun s3 wx => s3 = .bool T ∧ wx = w.alloc (.cells #[.string name, .int .i64 rel, .int .i64 dl, .int .i64 bud, .int .i64 act, .int .i64 val, .int .i64 cln, .bool hard] 24))
  case first =>
    go_wp2_with (go_at_call 62; (with_reducible refine (in_any _ _ _ _).mono ?_); rintro e w' ⟨rfl, rfl⟩)
    all_goals (go_meet; exact ⟨by rw [← HT.out]; grind, rfl⟩)
  case rest =>
    obtain ⟨rfl, rfl⟩ := hcut
    go_upto_region 2 with fail
    go_cut [4] (fun s4 wx => s4 = .bool S ∧ wx = w.alloc (.cells #[.string name, .int .i64 rel, .int .i64 dl, .int .i64 bud, .int .i64 act, .int .i64 val, .int .i64 cln, .bool hard] 24))
    case first =>
      go_wp2_with (go_at_call 62; (with_reducible refine (in_any _ _ _ _).mono ?_); rintro e w' ⟨rfl, rfl⟩)
      all_goals (go_meet; exact ⟨by rw [← HS.out]; grind, rfl⟩)
    case rest =>
      obtain ⟨rfl, rfl⟩ := hcut
      clear HS HT
      go_wp2_with (first
        | (go_at_call 62; (with_reducible refine (in_any _ _ _ _).mono ?_); rintro e w' ⟨rfl, rfl⟩)
        | (go_at_call 63; go_must (with_reducible refine (NG.call _ _ hs (Ext.new _ _)).mono ?_); rintro e w1 ⟨rfl, hb⟩; obtain ⟨hc, hf⟩ := bcell hb))
      all_goals (go_ret; exact ⟨by first | (simp [*]; done) | grind, (Ext.new _ _).trans hb⟩)
end Go.Proofs.YtnnmakkbnfckmaaDoor
