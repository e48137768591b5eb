/- Walks: job.All's literal, slices.IndexFunc, ContainsFunc at jobs, job.All, Charge, Work, Runs, End. -/
import Derived.Test.YtnnmakkbnfckmaaDoorA1
namespace Go.Proofs.YtnnmakkbnfckmaaDoor
open Go.RowKit

set_option maxRecDepth 100000 in
set_option maxHeartbeats 2000000 in
theorem all1_any (j : J) (w : World) (NG : NameC w) (hs : j.ok) :
    Calls Tryd.prog 66 #[j.agg] w fun e w' => e = .returned (.bool (!goodB j)) ∧ Ext w w' := by
  unfold J.agg
  go_enter Tryd.func66, Tryd.ntmps66
  go_wp2_with (go_at_call 15; go_must (with_reducible refine (good_any j _ (NG.ext (Ext.new _ _)) hs).mono ?_); rintro e w1 ⟨rfl, hb⟩; obtain ⟨hc, hf⟩ := bcell hb)
  go_ret
  exact ⟨rfl, (Ext.new _ _).trans hb⟩

set_option maxRecDepth 100000 in
set_option maxHeartbeats 2000000 in
theorem runs_any (j : J) (w : World) :
    Calls Tryd.prog 23 #[j.agg] w fun e w' => e = .returned (.bool (runsB j)) ∧ Ext w w' := by
  unfold J.agg runsB
  go_enter Tryd.func23, Tryd.ntmps23
  go_wp2
  go_ret
  exact ⟨rfl, (Ext.new _ _)⟩

set_option maxRecDepth 100000 in
set_option maxHeartbeats 2000000 in
theorem charge_any (j : J) (w : World) (NG : NameC w) (hs : j.ok) :
    Calls Tryd.prog 19 #[j.agg] w fun e w' => e = .returned (.int .i64 (chargeJ j)) ∧ Ext w w' := by
  unfold J.agg
  have hg : goodB j = true → 1 ≤ j.bud ∧ j.bud ≤ 1000 ∧ 0 ≤ j.cln ∧ j.cln ≤ 100 := by
    unfold goodB worksB inB; simp; omega
  go_enter Tryd.func19, Tryd.ntmps19
  go_wp2_with (go_at_call 15; go_must (with_reducible refine (good_any j _ (NG.ext (Ext.new _ _)) hs).mono ?_); rintro e w1 ⟨rfl, hb⟩; obtain ⟨hc, hf⟩ := bcell hb)
  · go_ret
    exact ⟨by simp_all [chargeJ], (Ext.new _ _).trans hb⟩
  · go_ret
    refine ⟨?_, (Ext.new _ _).trans hb⟩
    have hgd : goodB j = true := by simp_all
    have := hg hgd
    rw [show wrap64 (j.bud + j.cln) = j.bud + j.cln by unfold wrap64; omega]
    simp [chargeJ, hgd]

set_option maxRecDepth 100000 in
set_option maxHeartbeats 2000000 in
theorem work_any (j : J) (w : World) (NG : NameC w) (hs : j.ok) :
    Calls Tryd.prog 21 #[j.agg] w fun e w' => e = .returned (.int .i64 (workJ j)) ∧ Ext w w' := by
  have hg : goodB j = true → 1 ≤ j.bud ∧ j.bud ≤ 1000 ∧ 0 ≤ j.cln ∧ j.cln ≤ 100 := by
    unfold goodB worksB inB; simp; omega
  go_enter Tryd.func21, Tryd.ntmps21
  go_wp2_with (first
    | (go_at_call 15; go_must (with_reducible refine (good_any j _ (NG.ext (Ext.new _ _)) hs).mono ?_); rintro e w1 ⟨rfl, hb⟩; obtain ⟨hc, hf⟩ := bcell hb)
    | (go_at_call 23; go_must (with_reducible refine (runs_any j _).mono ?_); rintro e w2 ⟨rfl, hb2⟩; obtain ⟨hc2, hf2⟩ := bcell hb2; have hz : w.heap.size < w1.heap.size := (by have := hb.size; simp at this; omega)))
  · go_ret
    exact ⟨by simp_all [workJ], (Ext.new _ _).trans hb⟩
  · go_ret
    exact ⟨by simp_all [workJ], ((Ext.new _ _).trans hb).trans hb2⟩
  · go_ret
    refine ⟨?_, ((Ext.new _ _).trans hb).trans hb2⟩
    have hgd : goodB j = true := by simp_all
    have := hg hgd
    rw [show wrap64 (j.bud + j.cln) = j.bud + j.cln by unfold wrap64; omega]
    simp_all [workJ]

set_option maxRecDepth 100000 in
set_option maxHeartbeats 2000000 in
/-- slices.IndexFunc at jobs. -/
theorem indexFuncJ (l : List J) (p : J → Bool) (g : FuncId) (lb : Array Value) (a : Option Addr) (cap : Nat) (w : World)
    (hm : l.length ≤ bigS) (eg : ∀ args w, (callFunc g args).run Tryd.prog w = .ok (.enter g args) w)
    (hp : ∀ j ∈ l, ∀ W, Ext w W → Calls Tryd.prog g (#[j.agg] ++ lb) W fun e w' => e = .returned (.bool (p j)) ∧ Ext W w')
    (hr : JRow w a l) :
    Calls Tryd.prog 106 #[.slice a l.length cap, .func (.func g) #[] lb] w fun e w' =>
      e = .returned (.int .i64 (idxI (l.findIdx? p))) ∧ Ext w w' := by
  unfold bigS at hm
  go_enter Tryd.func106, Tryd.ntmps106
  go_wp2
  go_loopw [8] (fun v8 wr => ∃ k : Nat, k ≤ l.length ∧ v8 = .int .i64 k ∧ Ext w wr ∧ ∀ i (hi : i < l.length), i < k → p l[i] = false) (fun v8 _ => l.length - (intOf v8).toNat)
  case atStart => exact ⟨0, Nat.zero_le _, rfl, Ext.refl _, fun i _ hi => by omega⟩
  case round =>
    obtain ⟨k, hk, rfl, hx, hno⟩ := hrel
    have HN := Lib.hid hno
    clear hno
    by_cases hlt : k < l.length
    · obtain ⟨b, off, rfl, hb, hcs⟩ := (hr.ext hx) k hlt
      obtain ⟨c0, c1, c2, c3, c4, c5, c6, c7⟩ := hcs
      have hpk := hp l[k] (List.getElem_mem hlt) wr hx
      have HP := Lib.hid hpk
      clear hpk hp hr
      go_wp2_with (first | (refine HP.out.mono ?_; rintro e w1 ⟨rfl, hb1⟩))
      · have hpk : p l[k] = true := by assumption
        go_ret
        refine ⟨?_, hx.trans hb1⟩
        have : l.findIdx? p = some k := by
          rw [List.findIdx?_eq_some_iff_getElem]
          exact ⟨hlt, hpk, fun j hj => by simpa using HN.out j (by omega) hj⟩
        rw [this]; rfl
      · have hpk : p l[k] = false := by assumption
        go_roundw
        case rel => exact ⟨k + 1, hlt, by go_num, hx.trans hb1, fun i hi hik => by
          rcases Nat.lt_succ_iff_lt_or_eq.1 hik with h | rfl
          · exact HN.out i hi h
          · exact hpk⟩
        case measure => simp [intOf]; omega
    · clear hp hr
      go_wp2
      go_ret
      refine ⟨?_, hx⟩
      have : l.findIdx? p = none := by
        rw [List.findIdx?_eq_none_iff]
        intro x hx
        obtain ⟨i, hi, rfl⟩ := List.getElem_of_mem hx
        exact HN.out i hi (by omega)
      rw [this]; rfl

set_option maxRecDepth 100000 in
set_option maxHeartbeats 2000000 in
/-- slices.ContainsFunc at jobs. -/
theorem containsFuncJ (l : List J) (p : J → Bool) (g : FuncId) (lb : Array Value) (a : Option Addr) (cap : Nat) (w : World)
    (hm : l.length ≤ bigS) (eg : ∀ args w, (callFunc g args).run Tryd.prog w = .ok (.enter g args) w)
    (hp : ∀ j ∈ l, ∀ W, Ext w W → Calls Tryd.prog g (#[j.agg] ++ lb) W fun e w' => e = .returned (.bool (p j)) ∧ Ext W w')
    (hr : JRow w a l) :
    Calls Tryd.prog 65 #[.slice a l.length cap, .func (.func g) #[] lb] w fun e w' =>
      e = .returned (.bool (l.any p)) ∧ Ext w w' := by
  have HC := Lib.hid (indexFuncJ l p g lb a cap w hm eg hp hr)
  clear hp eg hr
  go_enter Tryd.func65, Tryd.ntmps65
  go_wp2_with (first | (refine HC.out.mono ?_; rintro e w1 ⟨rfl, hb1⟩))
  go_ret
  refine ⟨?_, hb1⟩
  cases h : l.findIdx? p with
  | none =>
    have : l.any p = false := by
      rw [List.findIdx?_eq_none_iff] at h
      simpa using h
    simp [this, idxI_none]
  | some i =>
    have : l.any p = true := by
      rw [List.findIdx?_eq_some_iff_getElem] at h
      obtain ⟨hi, hp, _⟩ := h
      exact List.any_eq_true.2 ⟨_, List.getElem_mem hi, hp⟩
    simp [this, idxI_some]

set_option maxRecDepth 100000 in
set_option maxHeartbeats 2000000 in
/-- job.All. -/
theorem all_any (l : List J) (a : Option Addr) (cap : Nat) (w : World) (hm : l.length ≤ bigS) (NG : NameC w) (hs : ∀ j ∈ l, j.ok) (hr : JRow w a l) :
    Calls Tryd.prog 17 #[.slice a l.length cap] w fun e w' => e = .returned (.bool (allB l)) ∧ Ext w w' := by
  have HC := Lib.hid (containsFuncJ l (fun j => !goodB j) 66 #[] a cap w hm (Go.Proofs.enters_of Tryd.func66 (by kernel_rfl) rfl) (fun j hj W hW => by simpa using all1_any j W (NG.ext hW) (hs j hj)) hr)
  have hal : (!l.any fun j => !goodB j) = l.all goodB := by rw [List.all_eq_not_any_not]
  have HA := Lib.hid hal
  clear hal hr hs NG
  by_cases h2 : l.length ≤ 200
  · go_enter Tryd.func17, Tryd.ntmps17
    go_wp2_with (first | (refine HC.out.mono ?_; rintro e w1 ⟨rfl, hb1⟩))
    go_ret
    exact ⟨by unfold allB; rw [← HA.out]; simp [h2], hb1⟩
  · go_enter Tryd.func17, Tryd.ntmps17
    go_wp2
    go_ret
    exact ⟨by unfold allB; simp [h2], Ext.refl _⟩

end Go.Proofs.YtnnmakkbnfckmaaDoor
