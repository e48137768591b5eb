/- Walks: EdfSays. -/
import Derived.Test.YtnnmakkbnfckmaaDoorM1
import Derived.Test.YtnnmakkbnfckmaaDoorE1
namespace Go.Proofs.YtnnmakkbnfckmaaDoor
open Go.RowKit

set_option maxRecDepth 100000 in
set_option maxHeartbeats 16000000 in
theorem edfSays_any (l : List J) (ticks now : Int) (n : List (Int × Int)) (a an : Option Addr) (cap cn : Nat) (w : World) (hm : l.length ≤ bigS) (hn : n.length ≤ bigS) (hT : Tabs w) (hs : ∀ j ∈ l, j.ok) (hr : JRow w a l) (hp : PRow w an n) :
    Calls Tryd.prog 5 #[.slice a l.length cap, .int .i64 ticks, .int .i64 now, .slice an n.length cn] w fun e w' => e = .returned (.bool true) ∧ Ext w w' := by
  have CA := Lib.hid (awake10 w hT)
  have CH := Lib.hid fun W (h : Ext w W) => heavy_tocsinlaw10 l 10 200 a cap W hm (hr.ext h)
  cases hv : heavyB l 10 200 with
  | true =>
    rw [hv] at CH
    clear hv hs hr hT hp hm hn
    go_enter Tryd.func5, Tryd.ntmps5
    go_wp2_with (first
      | (go_at_call 29; go_must (with_reducible refine CA.out.mono ?_); rintro e w1 ⟨rfl, h1⟩)
      | (go_at_call 30; go_must (with_reducible refine (CH.out _ h1).mono ?_); rintro e w2 ⟨rfl, rfl⟩))
    go_ret
    exact ⟨rfl, h1⟩
  | false =>
    have hlen := heavy_len hv
    rw [hv] at CH
    by_cases ht : 200 < ticks
    · clear hv hs hr hT hp hm hn
      go_enter Tryd.func5, Tryd.ntmps5
      go_wp2_with (first
        | (go_at_call 29; go_must (with_reducible refine CA.out.mono ?_); rintro e w1 ⟨rfl, h1⟩)
        | (go_at_call 30; go_must (with_reducible refine (CH.out _ h1).mono ?_); rintro e w2 ⟨rfl, rfl⟩))
      go_ret
      exact ⟨rfl, h1⟩
    · by_cases hnl : 30 < n.length
      · unfold bigS at hn
        have hnl' : (30 : Int) < (n.length : Int) := by omega
        clear hv hs hr hT hp hm
        go_enter Tryd.func5, Tryd.ntmps5
        go_wp2_with (first
          | (go_at_call 29; go_must (with_reducible refine CA.out.mono ?_); rintro e w1 ⟨rfl, h1⟩)
          | (go_at_call 30; go_must (with_reducible refine (CH.out _ h1).mono ?_); rintro e w2 ⟨rfl, rfl⟩))
        go_ret
        exact ⟨rfl, h1⟩
      · have C1 : Hid (∀ W, Ext w W → Calls Tryd.prog 31 #[.slice a l.length cap] W (JSl l W)) := Lib.hid fun W h => own_tocsinlaw10 l a cap W (by omega) (hr.ext h)
        have C2 : Hid (∀ W, Ext w W → Calls Tryd.prog 32 #[.int .i64 now, .slice an n.length cn] W fun e w' => e = .returned (.tuple #[.int .i64 (slackR now n), .bool (slackOk now n)]) ∧ Ext W w') := Lib.hid fun W h => slack_any now n an cn W hn (hp.ext h)
        have C3 : Hid (∀ W, Ext w W → Calls Tryd.prog 34 #[.slice an n.length cn] W fun e w' => ∃ a' cap', e = .returned (.slice a' n.length cap') ∧ PRow w' a' n ∧ Ext W w') := Lib.hid fun W h => lefts_any n an cn W (by omega) (hp.ext h)
        have C4 : Hid (∀ W a c, PRow W a n → Calls Tryd.prog 33 #[.int .i64 now, .slice a n.length c] W fun e w' => e = .returned (.tuple #[.int .i64 (slackR now n), .bool (slackOk now n)]) ∧ Ext W w') := Lib.hid fun W a c h => refSlack_any now n a c W hn h
        have C5 : Hid (∀ W, Ext w W → Calls Tryd.prog 35 #[.int .i64 now, .slice an n.length cn] W fun e w' => e = .returned (.bool (fitsB now n)) ∧ Ext W w') := Lib.hid fun W h => fits_any now n an cn W hn (hp.ext h)
        have C6 : Hid (∀ W a c, PRow W a n → Calls Tryd.prog 36 #[.int .i64 now, .slice a n.length c] W fun e w' => e = .returned (.bool (fitsB now n)) ∧ Ext W w') := Lib.hid fun W a c h => refFits_any now n a c W hn h
        have C7 : Hid (∀ W, Ext w W → Calls Tryd.prog 38 #[.slice a l.length cap, .int .i64 ticks] W (ISl (runV l ticks) W)) := Lib.hid fun W h => edfRun_any l ticks a cap W hm (hT.ext h) hs (hr.ext h)
        have C8 : Hid (∀ W a c, Ext w W → JRow W a l → Calls Tryd.prog 39 #[.slice a l.length c, .int .i64 ticks] W (ISl (runV l ticks) W)) := Lib.hid fun W a c h hj => refRunW_any l ticks a c W hm (hT.ext h) hs hj
        have hrv : (runV l ticks).length ≤ bigS := by
          unfold runV
          split
          · rw [List.length_map, edfT_length]; unfold bigS; omega
          · simp
        have C9 : Hid (∀ W a b c c', IRow W a (runV l ticks) → IRow W b (runV l ticks) → Calls Tryd.prog 37 #[.slice a (runV l ticks).length c, .slice b (runV l ticks).length c'] W fun e w' => e = .returned (.bool true) ∧ Ext W w') := Lib.hid fun W a b c c' h1 h2 => by
          have := ints_tocsinlaw10 (runV l ticks) (runV l ticks) a b c c' W hrv hrv h1 h2
          simpa using this
        have CM : Hid (∀ W, Ext w W → Calls Tryd.prog 40 #[.slice a l.length cap] W fun e w' => e = .returned (.bool (meetsB l)) ∧ Ext W w') := Lib.hid fun W h => meets_any l a cap W hm (hT.ext h) hs (hr.ext h)
        have CN : Hid (∀ W a c, Ext w W → JRow W a l → Calls Tryd.prog 41 #[.slice a l.length c] W fun e w' => e = .returned (.bool (meetsB l)) ∧ Ext W w') := Lib.hid fun W a c h hj => refMeets_any l a c W hm (hT.ext h) hs hj
        clear hv hs hr hT hp hm hrv
        generalize runV l ticks = L at *
        generalize meetsB l = mb at *
        generalize fitsB now n = fb at *
        generalize slackR now n = sr at *
        generalize slackOk now n = so at *
        have hnl' : (n.length : Int) ≤ 30 := by omega
        unfold bigS at hn
        obtain ⟨nl, hnle⟩ : ∃ nl, n.length = nl := ⟨_, rfl⟩
        rw [hnle] at C2 C3 C4 C5 C6 hn hnl hnl' ⊢
        clear hnle
        go_enter Tryd.func5, Tryd.ntmps5
        go_wp2_with (first
          | (go_at_call 29; go_must (with_reducible refine CA.out.mono ?_); rintro e w1 ⟨rfl, x1⟩)
          | (go_at_call 30; go_must (with_reducible refine (CH.out _ x1).mono ?_); rintro e w2 ⟨rfl, rfl⟩)
          | (go_at_call 31; go_must (with_reducible refine (C1.out _ x1).mono ?_); rintro e w2 ⟨aj, cj, rfl, hj2, h2⟩; have x2 := x1.trans h2; have J2 := Lib.hid hj2; clear hj2 h2 x1))
        go_wp2_with fail
        refine (C2.out _ x2).mono ?_
        rintro e wn ⟨rfl, h3⟩
        have x3 := x2.trans h3
        have J3 := Lib.hid ((J2.out).ext h3)
        clear h3 x2 J2
        go_wp2_with fail
        refine (C3.out _ x3).mono ?_
        rintro e wn ⟨a4, c4, rfl, p4, h4⟩
        have x4 := x3.trans h4
        have J4 := Lib.hid ((J3.out).ext h4)
        clear h4 x3 J3
        go_wp2_with fail
        refine (C4.out _ _ _ p4).mono ?_
        rintro e wn ⟨rfl, h5⟩
        have x5 := x4.trans h5
        have J5 := Lib.hid ((J4.out).ext h5)
        clear h5 x4 J4 p4
        go_wp2_with fail
        refine (C5.out _ x5).mono ?_
        rintro e wn ⟨rfl, h6⟩
        have x6 := x5.trans h6
        have J6 := Lib.hid ((J5.out).ext h6)
        clear h6 x5 J5
        go_wp2_with fail
        refine (C3.out _ x6).mono ?_
        rintro e wn ⟨a7, c7, rfl, p7, h7⟩
        have x7 := x6.trans h7
        have J7 := Lib.hid ((J6.out).ext h7)
        clear h7 x6 J6
        go_wp2_with fail
        refine (C6.out _ _ _ p7).mono ?_
        rintro e wn ⟨rfl, h8⟩
        have x8 := x7.trans h8
        have J8 := Lib.hid ((J7.out).ext h8)
        clear h8 x7 J7 p7
        go_wp2_with fail
        refine (C7.out _ x8).mono ?_
        rintro e wn ⟨a9, c9, rfl, i9, h9, _, _⟩
        have x9 := x8.trans h9
        have J9 := Lib.hid ((J8.out).ext h9)
        have I9 := Lib.hid i9
        clear h9 x8 J8 i9
        go_wp2_with fail
        refine (C8.out _ _ _ x9 J9.out).mono ?_
        rintro e wn ⟨a10, c10, rfl, i10, h10, _, _⟩
        have x10 := x9.trans h10
        have J10 := Lib.hid ((J9.out).ext h10)
        have I10 := Lib.hid ((I9.out).ext h10)
        have K10 := Lib.hid i10
        clear h10 x9 J9 i10 I9
        go_wp2_with fail
        refine (C9.out _ _ _ _ _ I10.out K10.out).mono ?_
        rintro e wn ⟨rfl, h11⟩
        have x11 := x10.trans h11
        have J11 := Lib.hid ((J10.out).ext h11)
        clear h11 x10 J10 I10 K10
        go_wp2_with fail
        refine (CM.out _ x11).mono ?_
        rintro e wn ⟨rfl, h12⟩
        have x12 := x11.trans h12
        have J12 := Lib.hid ((J11.out).ext h12)
        clear h12 x11 J11
        go_wp2_with fail
        refine (CN.out _ _ _ x12 J12.out).mono ?_
        rintro e wn ⟨rfl, h13⟩
        have x13 := x12.trans h13
        clear h13 x12 J12
        go_wp2_with fail
        go_ret
        exact ⟨rfl, x13⟩
end Go.Proofs.YtnnmakkbnfckmaaDoor
