/- Walks: chapter 10's own answer: bounded, Slack, Fits; the law's lefts. -/
import Derived.Test.YtnnmakkbnfckmaaDoorP7
import Derived.Test.YtnnmakkbnfckmaaDoorB1
namespace Go.Proofs.YtnnmakkbnfckmaaDoor
open Go.RowKit

theorem sumF_take_le (f : Int × Int → Int) (l : List (Int × Int)) (k : Nat) (c : Int) (hk : k ≤ l.length) (h : ∀ x ∈ l, f x ≤ c) : sumF f (l.take k) ≤ k * c := by
  have := sumF_bound (f := f) (l := l.take k) (c := c) fun x hx => h x (List.mem_of_mem_take hx)
  rwa [List.length_take, Nat.min_eq_left hk] at this
theorem sumF_snoc {α : Type} (f : α → Int) (l : List α) (k : Nat) (h : k < l.length) : sumF f (l.take (k + 1)) = sumF f (l.take k) + f l[k] := by
  rw [List.take_succ_eq_append_getElem h, sumF_append]; simp [sumF]
theorem mayB_mem {now : Int} {l : List (Int × Int)} (h : mayB now l = true) : (-1000000 ≤ now ∧ now ≤ 1000000) ∧ l.length ≤ 1000 ∧ ∀ x ∈ l, (-1000000 ≤ x.1 ∧ x.1 ≤ 1000000) ∧ -1000000 ≤ x.2 ∧ x.2 ≤ 1000000 := by
  unfold mayB inM at h
  simp only [Bool.and_eq_true, decide_eq_true_eq, List.all_eq_true] at h
  exact ⟨h.1, h.2.1, fun x hx => h.2.2 x hx⟩
/-- May the first k be? -/
def mayTo (now : Int) (l : List (Int × Int)) (k : Nat) : Bool := decide (l.length ≤ 1000) && (inM now && (l.take k).all fun x => inM x.1 && inM x.2)
theorem mayTo_all (now : Int) (l : List (Int × Int)) : mayTo now l l.length = mayB now l := by
  unfold mayTo mayB; rw [List.take_length]
  cases inM now <;> cases decide (l.length ≤ 1000) <;> simp
theorem mayTo_succ (now : Int) (l : List (Int × Int)) (k : Nat) (h : k < l.length) : mayTo now l (k + 1) = (mayTo now l k && (inM l[k].1 && inM l[k].2)) := by
  unfold mayTo
  rw [List.take_succ_eq_append_getElem h, List.all_append]
  simp [Bool.and_assoc]
theorem mayTo_false (now : Int) (l : List (Int × Int)) (k : Nat) (h : mayTo now l k = false) : mayB now l = false := by
  unfold mayTo at h
  unfold mayB
  cases h1 : inM now
  · rfl
  · cases h2 : decide (l.length ≤ 1000)
    · rfl
    · rw [h1, h2] at h
      simp only [Bool.true_and] at h ⊢
      rw [List.all_eq_false] at h ⊢
      obtain ⟨x, hx, h⟩ := h
      exact ⟨x, List.mem_of_mem_take hx, h⟩

set_option maxRecDepth 100000 in
set_option maxHeartbeats 4000000 in
theorem bounded_any (now : Int) (l : List (Int × Int)) (a : Option Addr) (cap : Nat) (w : World) (hm : l.length ≤ bigS) (hr : PRow w a l) :
    Calls Tryd.prog 74 #[.int .i64 now, .slice a l.length cap] w fun e w' => e = .returned (.bool (mayB now l)) ∧ w = w' := by
  unfold bigS at hm
  go_enter Tryd.func74, Tryd.ntmps74
  go_upto_region 1 with fail
  go_cut [5] (fun s5 wx => s5 = .bool (mayTo now l 0) ∧ wx = w)
  case first =>
    go_wp2
    all_goals (go_meet; exact ⟨by unfold mayTo inM; simp only [List.take_zero, List.all_nil, Bool.and_true]; grind, rfl⟩)
  case rest =>
    obtain ⟨rfl, rfl⟩ := hcut
    go_wp2_with fail
    go_loop [5, 6] (fun v5 v6 => ∃ k : Nat, k ≤ l.length ∧ v6 = .int .i64 k ∧ v5 = .bool (mayTo now l k)) (fun _ v6 => l.length - (intOf v6).toNat)
    case atStart => exact ⟨0, Nat.zero_le _, rfl, rfl⟩
    case round =>
      obtain ⟨k, hk, rfl, rfl⟩ := hrel
      cases hb : mayTo now l k with
      | false =>
        have HB := Lib.hid hb
        clear hb
        by_cases hlt : k < l.length
        all_goals
          go_wp2_with fail
          go_ret
          exact ⟨by rw [mayTo_false now l k HB.out]; rfl, rfl⟩
      | true =>
        have HB := Lib.hid hb
        clear hb
        by_cases hlt : k < l.length
        · obtain ⟨b, off, rfl, hb, c0, c1⟩ := hr k hlt
          have HS := Lib.hid (mayTo_succ now l k hlt)
          generalize l[k].1 = x at *
          generalize l[k].2 = y at *
          go_wp2_with fail
          all_goals
            go_round
            case rel => exact ⟨k + 1, hlt, by go_num, by rw [HS.out, HB.out]; unfold inM; grind⟩
            case measure => simp [intOf]; omega
        · obtain rfl : k = l.length := by omega
          go_wp2_with fail
          go_ret
          exact ⟨by rw [← mayTo_all, HB.out]; rfl, rfl⟩

abbrev upF (D : Int) (y : Int × Int) : Int := if y.1 ≤ D then posN y else 0
theorem upF_bd {x : Int × Int} (D : Int) (h : -1000000 ≤ x.2 ∧ x.2 ≤ 1000000) : 0 ≤ upF D x ∧ upF D x ≤ 1000000 := by
  unfold upF posN; split <;> omega
theorem slack_none {now : Int} {l : List (Int × Int)} (h : slackOk now l = false) : slackR now l = 0 := by unfold slackR; rw [h]; rfl
set_option maxRecDepth 100000 in
set_option maxHeartbeats 8000000 in
theorem refSlack_any (now : Int) (l : List (Int × Int)) (a : Option Addr) (cap : Nat) (w : World) (hm : l.length ≤ bigS) (hr : PRow w a l) :
    Calls Tryd.prog 33 #[.int .i64 now, .slice a l.length cap] w fun e w' => e = .returned (.tuple #[.int .i64 (slackR now l), .bool (slackOk now l)]) ∧ Ext w w' := by
  have HC := Lib.hid (bounded_any now l a cap w hm hr)
  unfold bigS at hm
  cases hb : mayB now l with
  | false =>
    have h0 : slackOk now l = false := by unfold slackOk; rw [hb]; simp
    rw [slack_none h0, h0]
    rw [hb] at HC
    clear hb h0 hr
    go_enter Tryd.func33, Tryd.ntmps33
    go_wp2_with (go_at_call 74; go_must (with_reducible refine HC.out.mono ?_); rintro e w1 ⟨rfl, rfl⟩)
    go_ret2
    exact ⟨rfl, Ext.refl _⟩
  | true =>
    obtain ⟨hnow, hlen, hmem⟩ := mayB_mem hb
    by_cases hn : l.length = 0
    · have hl : l = [] := List.length_eq_zero_iff.1 hn
      subst hl
      have h0 : slackOk now [] = false := rfl
      rw [slack_none h0, h0]
      rw [hb, List.length_nil] at HC
      clear hb h0 hr hn hmem
      go_enter Tryd.func33, Tryd.ntmps33
      go_wp2_with (go_at_call 74; go_must (with_reducible refine HC.out.mono ?_); rintro e w1 ⟨rfl, rfl⟩)
      go_ret2
      exact ⟨rfl, Ext.refl _⟩
    · have h0 : slackOk now l = true := by unfold slackOk; rw [hb]; cases l <;> simp_all
      have hv : slackR now l = slackV now l := by unfold slackR; rw [h0]; rfl
      rw [hv, h0]
      rw [hb] at HC
      have HM := Lib.hid hmem
      clear hb h0 hv hmem
      have hn0 : 0 < l.length := by omega
      have hnb : ((l.length : Int) == 0) = false := beq_eq_false_iff_ne.2 (by omega)
      go_enter Tryd.func33, Tryd.ntmps33
      go_wp2_with (go_at_call 74; go_must (with_reducible refine HC.out.mono ?_); rintro e w1 ⟨rfl, rfl⟩)
      clear HC
      go_loopw [6, 7, 8] (fun v6 v7 v8 wr => ∃ k : Nat, k ≤ l.length ∧ v8 = .int .i64 k ∧ v6 = .int .i64 (leastN (spare now l) k) ∧ v7 = .bool (decide (0 < k)) ∧ Ext w wr) (fun _ _ v8 _ => l.length - (intOf v8).toNat)
      case atStart => exact ⟨0, Nat.zero_le _, rfl, rfl, rfl, Ext.refl _⟩
      case round =>
        obtain ⟨k, hk, rfl, rfl, rfl, hx⟩ := hrel
        by_cases hlt : k < l.length
        · obtain ⟨b, off, rfl, hbk, ck0, ck1⟩ := (hr.ext hx) k hlt
          obtain ⟨D, hD⟩ : ∃ D, l[k].1 = D := ⟨_, rfl⟩
          rw [hD] at ck0
          have hDb := (HM.out _ (List.getElem_mem hlt)).1
          rw [hD] at hDb
          have HD := Lib.hid hD
          have hr1 := hr.ext hx
          clear hD hr ck1
          obtain ⟨wo, hwo⟩ : ∃ wo : World, wo = wr := ⟨_, rfl⟩
          subst hwo
          go_wp2_with fail
          go_loopw [9, 10] (fun v9 v10 wr => ∃ m : Nat, m ≤ l.length ∧ v10 = .int .i64 m ∧ v9 = .int .i64 (sumF (upF D) (l.take m)) ∧ Ext wo wr) (fun _ v10 _ => l.length - (intOf v10).toNat)
          case atStart => exact ⟨0, Nat.zero_le _, rfl, rfl, Ext.refl _⟩
          case round =>
            obtain ⟨m, hm2, rfl, rfl, hx2⟩ := hrel
            have hs0 : 0 ≤ sumF (upF D) (l.take m) := sumF_nonneg fun x hx => (upF_bd D (HM.out x (List.mem_of_mem_take hx)).2).1
            have hs1 : sumF (upF D) (l.take m) ≤ m * 1000000 := sumF_take_le _ l m 1000000 hm2 fun x hx => (upF_bd D (HM.out x hx).2).2
            by_cases hlt2 : m < l.length
            · obtain ⟨b', off', he, _, c0, c1⟩ := (hr1.ext hx2) m hlt2
              obtain ⟨rfl, rfl⟩ : b' = b ∧ off' = off := by injection he with e; injection e with e1 e2; exact ⟨e1.symm, e2.symm⟩
              have ck := (hx2.cell hbk).trans ck0
              have HS := Lib.hid (sumF_snoc (upF D) l m hlt2)
              have hxb := (HM.out _ (List.getElem_mem hlt2))
              generalize sumF (upF D) (l.take m) = S at *
              obtain ⟨x, hxe⟩ : ∃ x, l[m].1 = x := ⟨_, rfl⟩
              obtain ⟨y, hye⟩ : ∃ y, l[m].2 = y := ⟨_, rfl⟩
              rw [hxe] at c0 hxb
              rw [hye] at c1 hxb
              have HE := Lib.hid (And.intro hxe hye)
              clear hxe hye he hr1
              by_cases hle : x ≤ D
              · by_cases hp : 0 < y
                · go_wp2_with fail
                  go_quiet (fail)
                  go_wp2_with fail
                  go_roundw
                  case rel => exact ⟨m + 1, by omega, by go_num, by rw [HS.out]; unfold upF posN; rw [HE.out.1, HE.out.2, if_pos hle]; congr 2; omega, hx2.drewN _⟩
                  case measure => simp [intOf]; omega
                · have hp' : decide (0 < y) = false := decide_eq_false hp
                  go_wp2_with fail
                  go_quiet (fail)
                  go_wp2_with fail
                  go_roundw
                  case rel => exact ⟨m + 1, by omega, by go_num, by rw [HS.out]; unfold upF posN; rw [HE.out.1, HE.out.2, if_pos hle]; congr 2; omega, hx2.drewN _⟩
                  case measure => simp [intOf]; omega
              · have hle' : decide (x ≤ D) = false := decide_eq_false hle
                go_wp2_with fail
                go_quiet (fail)
                go_wp2_with fail
                go_roundw
                case rel => exact ⟨m + 1, by omega, by go_num, by rw [HS.out]; unfold upF; rw [HE.out.1, if_neg (show ¬ x ≤ D by omega), Int.add_zero], hx2.drewN _⟩
                case measure => simp [intOf]; omega
            · obtain rfl : m = l.length := by omega
              rw [List.take_length] at hs0 hs1 ⊢
              have ck := (hx2.cell hbk).trans ck0
              have HV : Hid (spare now l k = D - now - sumF (upF D) l) := by
                show spare now l k = _
                unfold spare dlN
                rw [at0_eq _ _ hlt, HD.out]; rfl
              have HX := Lib.hid (hx.trans hx2)
              clear hr1 hx2 hx
              generalize sumF (upF D) l = S at *
              by_cases hk0 : k = 0
              · have hkb : decide (0 < k) = false := by simp; omega
                have HL := Lib.hid (show leastN (spare now l) (k + 1) = spare now l k by simp [leastN, hk0])
                generalize leastN (spare now l) k = L at *
                have hk1 : k < 1 := by omega
                clear hk0
                go_wp2_with fail
                go_roundw
                case rel => exact ⟨k + 1, by omega, by go_num, by rw [HL.out, HV.out], by simp, HX.out⟩
                case measure => simp [intOf]; omega
              · have hkb : decide (0 < k) = true := by simp; omega
                have HL := Lib.hid (show leastN (spare now l) (k + 1) = if spare now l k < leastN (spare now l) k then spare now l k else leastN (spare now l) k by simp [leastN, hk0])
                generalize leastN (spare now l) k = L at *
                go_wp2_with fail
                all_goals
                  go_roundw
                  case rel => exact ⟨k + 1, by omega, by go_num, by rw [HL.out, HV.out]; first | rw [if_pos (by assumption)] | rw [if_neg (by omega)], by first | (simp; done) | (simp; omega), HX.out⟩
                  case measure => simp [intOf]; omega
        · obtain rfl : k = l.length := by omega
          have hf : decide (0 < l.length) = true := by simp; omega
          go_wp2_with fail
          go_ret2
          exact ⟨rfl, hx⟩

set_option maxRecDepth 100000 in
set_option maxHeartbeats 8000000 in
theorem refFits_any (now : Int) (l : List (Int × Int)) (a : Option Addr) (cap : Nat) (w : World) (hm : l.length ≤ bigS) (hr : PRow w a l) :
    Calls Tryd.prog 36 #[.int .i64 now, .slice a l.length cap] w fun e w' => e = .returned (.bool (fitsB now l)) ∧ Ext w w' := by
  have HB := Lib.hid (bounded_any now l a cap w hm hr)
  have HS := Lib.hid (refSlack_any now l a cap w hm hr)
  clear hr hm
  cases hb : mayB now l with
  | false =>
    have hf : fitsB now l = false := by unfold fitsB; rw [hb]; rfl
    rw [hf]
    rw [hb] at HB
    clear hf hb HS
    go_enter Tryd.func36, Tryd.ntmps36
    go_wp2_with (go_at_call 74; go_must (with_reducible refine HB.out.mono ?_); rintro e w1 ⟨rfl, rfl⟩)
    go_ret
    exact ⟨rfl, Ext.refl _⟩
  | true =>
    rw [hb] at HB
    cases hl : l.isEmpty with
    | true =>
      have hk : slackOk now l = false := by unfold slackOk; rw [hl]; rfl
      have hf : fitsB now l = true := by unfold fitsB; rw [hb, hl]; rfl
      rw [hf]
      rw [hk] at HS
      clear hf hb hk hl
      go_enter Tryd.func36, Tryd.ntmps36
      go_wp2_with (first
        | (go_at_call 74; go_must (with_reducible refine HB.out.mono ?_); rintro e w1 ⟨rfl, rfl⟩)
        | (go_at_call 33; go_must (with_reducible refine HS.out.mono ?_); rintro e w2 ⟨rfl, h2⟩))
      go_ret
      exact ⟨rfl, h2⟩
    | false =>
      have hk : slackOk now l = true := by unfold slackOk; rw [hl, hb]; rfl
      have hv : slackR now l = slackV now l := by unfold slackR; rw [hk]; rfl
      have hf : fitsB now l = decide (0 ≤ slackV now l) := by unfold fitsB; rw [hb, hl]; rfl
      rw [hf]
      rw [hk, hv] at HS
      clear hf hb hk hl hv
      generalize slackV now l = v at *
      go_enter Tryd.func36, Tryd.ntmps36
      go_wp2_with (first
        | (go_at_call 74; go_must (with_reducible refine HB.out.mono ?_); rintro e w1 ⟨rfl, rfl⟩)
        | (go_at_call 33; go_must (with_reducible refine HS.out.mono ?_); rintro e w2 ⟨rfl, h2⟩))
      go_ret
      exact ⟨rfl, h2⟩

end Go.Proofs.YtnnmakkbnfckmaaDoor
