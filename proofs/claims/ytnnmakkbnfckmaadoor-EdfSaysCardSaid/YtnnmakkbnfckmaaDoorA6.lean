/- Walks: chapter 8's own answer: Good, All, Charge, Work, End. -/
import Derived.Test.YtnnmakkbnfckmaaDoorA5
import Derived.Test.YtnnmakkbnfckmaaDoorP1
namespace Go.Proofs.YtnnmakkbnfckmaaDoor
open Go.RowKit

theorem goodB_all (j : J) : goodB j = (goodName j.name && (decide (0 ≤ j.rel) && (decide (j.rel < j.dl) && (decide (j.dl ≤ 10000) && (decide (1 ≤ j.bud) && (decide (j.bud ≤ 1000) && (decide (1 ≤ j.act) && (decide (j.act ≤ 1000) && (decide (0 ≤ j.val) && (decide (j.val ≤ 1000000) && (decide (0 ≤ j.cln) && decide (j.cln ≤ 100)))))))))))) := by
  unfold goodB timesB worksB inB
  rw [Bool.eq_iff_iff]
  simp only [Bool.and_eq_true, decide_eq_true_eq]
  constructor
  · rintro ⟨h0, h1, h2, h3⟩; simp [h0]; omega
  · rintro ⟨h0, h1⟩; simp [h0]; omega

set_option maxRecDepth 100000 in
set_option maxHeartbeats 4000000 in
theorem refGood_any (j : J) (w : World) (hT : Tabs w) (hs : j.ok) :
    Calls Tryd.prog 16 #[j.agg] w fun e w' => e = .returned (.bool (goodB j)) ∧ Ext w w' := by
  have HC := Lib.hid (refName_any j.name (w.alloc (.cells #[.string j.name, .int .i64 j.rel, .int .i64 j.dl, .int .i64 j.bud, .int .i64 j.act, .int .i64 j.val, .int .i64 j.cln, .bool j.hard] 27)) hs (hT.ext (Ext.new _ _)))
  rw [refName_eq] at HC
  obtain ⟨ANS, hA⟩ : ∃ ANS, goodB j = ANS := ⟨_, rfl⟩
  rw [hA]
  rw [goodB_all] at hA
  have HA := Lib.hid hA
  clear hA hT hs
  obtain ⟨N, hN⟩ : ∃ N, goodName j.name = N := ⟨_, rfl⟩
  rw [hN] at HC HA
  clear hN
  go_enter Tryd.func16, Tryd.ntmps16
  go_wp2_with (go_at_call 64; go_must (with_reducible refine HC.out.mono ?_); rintro e w1 ⟨rfl, hb⟩; obtain ⟨hc, hf⟩ := bcell hb)
  all_goals (clear hc hf HC)
  all_goals (go_ret; exact ⟨by rw [← HA.out]; simp_all <;> omega, (Ext.new _ _).trans hb⟩)

set_option maxRecDepth 100000 in
set_option maxHeartbeats 4000000 in
theorem refAll_any (l : List J) (a : Option Addr) (cap : Nat) (w : World) (hm : l.length ≤ bigS) (hT : Tabs w) (hs : ∀ j ∈ l, j.ok) (hr : JRow w a l) :
    Calls Tryd.prog 18 #[.slice a l.length cap] w fun e w' => e = .returned (.bool (allB l)) ∧ Ext w w' := by
  unfold bigS at hm
  go_enter Tryd.func18, Tryd.ntmps18
  go_wp2
  go_loopw [3] (fun v3 wr => ∃ k : Nat, k ≤ l.length ∧ v3 = .int .i64 k ∧ Ext w wr ∧ ∀ i (hi : i < l.length), i < k → goodB l[i] = true) (fun v3 _ => l.length - (intOf v3).toNat)
  case atStart => exact ⟨0, Nat.zero_le _, rfl, Ext.refl _, fun i _ hi => by omega⟩
  case round =>
    obtain ⟨k, hk, rfl, hx, hno⟩ := hrel
    have HN := Lib.hid hno
    clear hno
    by_cases hlt : k < l.length
    · obtain ⟨b, off, rfl, hb, hcs⟩ := (hr.ext hx) k hlt
      obtain ⟨c0, c1, c2, c3, c4, c5, c6, c7⟩ := hcs
      have HP := Lib.hid (refGood_any l[k] wr (hT.ext hx) (hs _ (List.getElem_mem hlt)))
      clear hr hs hT
      go_wp2_with (go_at_call 16; go_must (with_reducible refine HP.out.mono ?_); rintro e w1 ⟨rfl, hb1⟩)
      · have hpk : goodB l[k] = false := by simp_all
        go_ret
        refine ⟨?_, hx.trans hb1⟩
        have : allB l = false := by
          unfold allB
          rw [Bool.and_eq_false_iff]
          exact .inr (List.all_eq_false.2 ⟨_, List.getElem_mem hlt, by simp [hpk]⟩)
        rw [this]; rfl
      · have hpk : goodB l[k] = true := by simp_all
        go_roundw
        case rel => exact ⟨k + 1, hlt, by go_num, hx.trans hb1, fun i hi hik => by
          rcases Nat.lt_succ_iff_lt_or_eq.1 hik with h | rfl
          · exact HN.out i hi h
          · exact hpk⟩
        case measure => simp [intOf]; omega
    · clear hr hs hT
      go_wp2
      go_ret
      refine ⟨?_, hx⟩
      have : l.all goodB = true := by
        rw [List.all_eq_true]
        intro x hx
        obtain ⟨i, hi, rfl⟩ := List.getElem_of_mem hx
        exact HN.out i hi (by omega)
      simp [allB, this]; omega

set_option maxRecDepth 100000 in
set_option maxHeartbeats 2000000 in
theorem refCharge_any (j : J) (w : World) (hT : Tabs w) (hs : j.ok) :
    Calls Tryd.prog 20 #[j.agg] w fun e w' => e = .returned (.int .i64 (chargeJ j)) ∧ Ext w w' := by
  have hg : goodB j = true → 1 ≤ j.bud ∧ j.bud ≤ 1000 ∧ 0 ≤ j.cln ∧ j.cln ≤ 100 := by
    unfold goodB worksB inB; simp; omega
  go_enter Tryd.func20, Tryd.ntmps20
  go_wp2_with (go_at_call 16; go_must (with_reducible refine (refGood_any j _ (hT.ext (Ext.new _ _)) hs).mono ?_); rintro e w1 ⟨rfl, hb⟩; obtain ⟨hc, hf⟩ := bcell hb)
  · go_ret
    exact ⟨by simp_all [chargeJ], (Ext.new _ _).trans hb⟩
  · go_ret
    refine ⟨?_, (Ext.new _ _).trans hb⟩
    have hgd : goodB j = true := by simp_all
    have := hg hgd
    rw [show wrap64 (j.bud + j.cln) = j.bud + j.cln by unfold wrap64; omega]
    simp [chargeJ, hgd]

set_option maxRecDepth 100000 in
set_option maxHeartbeats 2000000 in
theorem refWork_any (j : J) (w : World) (hT : Tabs w) (hs : j.ok) :
    Calls Tryd.prog 22 #[j.agg] w fun e w' => e = .returned (.int .i64 (workJ j)) ∧ Ext w w' := by
  have hg : goodB j = true → 1 ≤ j.bud ∧ j.bud ≤ 1000 ∧ 0 ≤ j.cln ∧ j.cln ≤ 100 := by
    unfold goodB worksB inB; simp; omega
  go_enter Tryd.func22, Tryd.ntmps22
  go_wp2_with (go_at_call 16; go_must (with_reducible refine (refGood_any j _ (hT.ext (Ext.new _ _)) hs).mono ?_); rintro e w1 ⟨rfl, hb⟩; obtain ⟨hc, hf⟩ := bcell hb)
  · go_ret
    exact ⟨by simp_all [workJ], (Ext.new _ _).trans hb⟩
  · go_ret
    refine ⟨?_, (Ext.new _ _).trans hb⟩
    have hgd : goodB j = true := by simp_all
    have hrn : runsB j = false := by simp [runsB]; omega
    have := hg hgd
    rw [show wrap64 (j.bud + j.cln) = j.bud + j.cln by unfold wrap64; omega]
    simp [workJ, hgd, hrn]
  · go_ret
    have hgd : goodB j = true := by simp_all
    have hrn : runsB j = true := by simp [runsB]; omega
    exact ⟨by simp [workJ, hgd, hrn], (Ext.new _ _).trans hb⟩

set_option maxRecDepth 100000 in
set_option maxHeartbeats 4000000 in
theorem refEnd_any (l : List J) (a : Option Addr) (cap : Nat) (w : World) (hm : l.length ≤ bigS) (hT : Tabs w) (hs : ∀ j ∈ l, j.ok) (hr : JRow w a l) :
    Calls Tryd.prog 25 #[.slice a l.length cap] w fun e w' => e = .returned (.int .i64 (endJ l)) ∧ Ext w w' := by
  have HC := Lib.hid (fun W (hx : Ext w W) => refAll_any l a cap W hm (hT.ext hx) hs (hr.ext hx))
  clear hs hT
  unfold bigS at hm
  go_enter Tryd.func25, Tryd.ntmps25
  go_wp2
  go_loopw [3, 4] (fun v3 v4 wr => ∃ k : Nat, k ≤ l.length ∧ v4 = .int .i64 k ∧ v3 = .int .i64 (maxDl 0 (l.take k)) ∧ Ext w wr ∧ (0 < k → allB l = true)) (fun _ v4 _ => l.length - (intOf v4).toNat)
  case atStart => exact ⟨0, Nat.zero_le _, rfl, rfl, Ext.refl _, fun h => by omega⟩
  case round =>
    obtain ⟨k, hk, rfl, rfl, hx, hal⟩ := hrel
    have HAL := Lib.hid hal
    have HX := Lib.hid hx
    clear hal
    by_cases hlt : k < l.length
    · have HC1 := Lib.hid (HC.out wr hx)
      have hr1 := hr.ext hx
      clear hr HC
      obtain ⟨b, off, rfl, hb, hcs⟩ := hr1 k hlt
      have HCS := Lib.hid hcs
      clear hr1 hcs hx
      have HM := Lib.hid (maxDl_snoc 0 (l.take k) l[k])
      have HT := Lib.hid (take_snoc l k hlt)
      obtain ⟨m, hmm⟩ : ∃ m, maxDl 0 (l.take k) = m := ⟨_, rfl⟩
      rw [hmm]
      have HMM := Lib.hid hmm
      clear hmm
      go_wp2_with (go_at_call 18; go_must (with_reducible refine HC1.out.mono ?_); rintro e w1 ⟨rfl, hb1⟩; obtain ⟨c0, c1, c2, c3, c4, c5, c6, c7⟩ := HCS.out.ext hb1 hb)
      · have hal : allB l = true := by assumption
        go_roundw
        case rel => exact ⟨k + 1, hlt, by go_num, by rw [HT.out, HM.out, HMM.out]; congr 1; omega, HX.out.trans hb1, fun _ => hal⟩
        case measure => simp [intOf]; omega
      · have hal : allB l = true := by assumption
        go_roundw
        case rel => exact ⟨k + 1, hlt, by go_num, by rw [HT.out, HM.out, HMM.out]; congr 1; omega, HX.out.trans hb1, fun _ => hal⟩
        case measure => simp [intOf]; omega
      · have hal : allB l = false := by assumption
        go_ret
        refine ⟨?_, HX.out.trans hb1⟩
        have hk0 : k = 0 := by
          rcases Nat.eq_zero_or_pos k with h | h
          · exact h
          · have := HAL.out h; rw [hal] at this; cases this
        have : m = 0 := by rw [← HMM.out, hk0]; rfl
        rw [this]
        simp [endJ, hal]
    · clear hr HC
      go_wp2
      go_ret
      refine ⟨?_, HX.out⟩
      have hkl : k = l.length := by omega
      have hal : allB l = true := by
        rcases Nat.eq_zero_or_pos k with h | h
        · have : l = [] := List.length_eq_zero_iff.1 (by omega)
          rw [this]; rfl
        · exact HAL.out h
      simp [endJ, hal, hkl, List.take_length]
end Go.Proofs.YtnnmakkbnfckmaaDoor
