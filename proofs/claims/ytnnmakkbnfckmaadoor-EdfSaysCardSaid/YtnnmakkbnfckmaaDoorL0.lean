/- Walks: chapter 10's bounds: in, may; the library's search and copy at what is left of jobs; the reference's bounds. -/
import Derived.Test.YtnnmakkbnfckmaaDoorP7
import Derived.Test.YtnnmakkbnfckmaaDoorA4
namespace Go.Proofs.YtnnmakkbnfckmaaDoor
open Go.RowKit

abbrev lagg (x : Int × Int) : Value := .agg #[.int .i64 x.1, .int .i64 x.2]
theorem edfIn_any (n : Int) (w : World) : Calls Tryd.prog 109 #[.int .i64 n] w fun e w' => e = .returned (.bool (inM n)) ∧ w = w' := by
  unfold inM
  by_cases h1 : -1000000 ≤ n
  · go_enter Tryd.func109, Tryd.ntmps109
    go_wp2
    go_ret
    exact ⟨by simp [h1], rfl⟩
  · go_enter Tryd.func109, Tryd.ntmps109
    go_wp2
    go_ret
    exact ⟨by simp; omega, rfl⟩
theorem may1_any (x : Int × Int) (w : World) : Calls Tryd.prog 111 #[lagg x] w fun e w' => e = .returned (.bool (!(inM x.1 && inM x.2))) ∧ Ext w w' := by
  have C1 := fun W => edfIn_any x.1 W
  have C2 := fun W => edfIn_any x.2 W
  have HC := Lib.hid (And.intro C1 C2)
  clear C1 C2
  cases h : inM x.1 with
  | true =>
    rw [h] at HC
    clear h
    go_enter Tryd.func111, Tryd.ntmps111
    go_wp2_with (first
      | (go_at_call 109; (with_reducible refine (HC.out.1 _).mono ?_); rintro e w1 ⟨rfl, rfl⟩)
      | (go_at_call 109; (with_reducible refine (HC.out.2 _).mono ?_); rintro e w1 ⟨rfl, rfl⟩))
    go_ret
    exact ⟨by simp, Ext.new _ _⟩
  | false =>
    rw [h] at HC
    clear h
    go_enter Tryd.func111, Tryd.ntmps111
    go_wp2_with (go_at_call 109; go_must (with_reducible refine (HC.out.1 _).mono ?_); rintro e w1 ⟨rfl, rfl⟩)
    go_ret
    exact ⟨by simp, Ext.new _ _⟩

set_option maxRecDepth 100000 in
set_option maxHeartbeats 2000000 in
/-- slices.IndexFunc at what is left. -/
theorem indexFuncL (l : List (Int × Int)) (p : Int × Int → Bool) (g : FuncId) (lb : Array Value) (a : Option Addr) (cap : Nat) (w : World)
    (hm : l.length ≤ bigS) (eg : ∀ args w, (callFunc g args).run Tryd.prog w = .ok (.enter g args) w)
    (hp : ∀ j ∈ l, ∀ W, Ext w W → Calls Tryd.prog g (#[lagg j] ++ lb) W fun e w' => e = .returned (.bool (p j)) ∧ Ext W w')
    (hr : PRow w a l) :
    Calls Tryd.prog 135 #[.slice a l.length cap, .func (.func g) #[] lb] w fun e w' =>
      e = .returned (.int .i64 (idxI (l.findIdx? p))) ∧ Ext w w' := by
  unfold bigS at hm
  go_enter Tryd.func135, Tryd.ntmps135
  go_wp2
  go_loopw [8] (fun v8 wr => ∃ k : Nat, k ≤ l.length ∧ v8 = .int .i64 k ∧ Ext w wr ∧ ∀ i (hi : i < l.length), i < k → p l[i] = false) (fun v8 _ => l.length - (intOf v8).toNat)
  case atStart => exact ⟨0, Nat.zero_le _, rfl, Ext.refl _, fun i _ hi => by omega⟩
  case round =>
    obtain ⟨k, hk, rfl, hx, hno⟩ := hrel
    have HN := Lib.hid hno
    clear hno
    by_cases hlt : k < l.length
    · obtain ⟨b, off, rfl, hb, c0, c1⟩ := (hr.ext hx) k hlt
      have hpk := hp l[k] (List.getElem_mem hlt) wr hx
      have HP := Lib.hid hpk
      clear hpk hp hr
      go_wp2_with (first | (refine HP.out.mono ?_; rintro e w1 ⟨rfl, hb1⟩))
      · have hpk : p l[k] = true := by assumption
        go_ret
        refine ⟨?_, hx.trans hb1⟩
        have : l.findIdx? p = some k := by
          rw [List.findIdx?_eq_some_iff_getElem]
          exact ⟨hlt, hpk, fun j hj => by simpa using HN.out j (by omega) hj⟩
        rw [this]; rfl
      · have hpk : p l[k] = false := by assumption
        go_roundw
        case rel => exact ⟨k + 1, hlt, by go_num, hx.trans hb1, fun i hi hik => by
          rcases Nat.lt_succ_iff_lt_or_eq.1 hik with h | rfl
          · exact HN.out i hi h
          · exact hpk⟩
        case measure => simp [intOf]; omega
    · clear hp hr
      go_wp2
      go_ret
      refine ⟨?_, hx⟩
      have : l.findIdx? p = none := by
        rw [List.findIdx?_eq_none_iff]
        intro x hx
        obtain ⟨i, hi, rfl⟩ := List.getElem_of_mem hx
        exact HN.out i hi (by omega)
      rw [this]; rfl

set_option maxRecDepth 100000 in
set_option maxHeartbeats 2000000 in
theorem containsFuncL (l : List (Int × Int)) (p : Int × Int → Bool) (g : FuncId) (lb : Array Value) (a : Option Addr) (cap : Nat) (w : World)
    (hm : l.length ≤ bigS) (eg : ∀ args w, (callFunc g args).run Tryd.prog w = .ok (.enter g args) w)
    (hp : ∀ j ∈ l, ∀ W, Ext w W → Calls Tryd.prog g (#[lagg j] ++ lb) W fun e w' => e = .returned (.bool (p j)) ∧ Ext W w')
    (hr : PRow w a l) :
    Calls Tryd.prog 110 #[.slice a l.length cap, .func (.func g) #[] lb] w fun e w' =>
      e = .returned (.bool (l.any p)) ∧ Ext w w' := by
  have HC := Lib.hid (indexFuncL l p g lb a cap w hm eg hp hr)
  clear hp eg hr
  go_enter Tryd.func110, Tryd.ntmps110
  go_wp2_with (first | (refine HC.out.mono ?_; rintro e w1 ⟨rfl, hb1⟩))
  go_ret
  refine ⟨?_, hb1⟩
  cases h : l.findIdx? p with
  | none =>
    have : l.any p = false := by
      rw [List.findIdx?_eq_none_iff] at h
      simpa using h
    simp [this, idxI_none]
  | some i =>
    have : l.any p = true := by
      rw [List.findIdx?_eq_some_iff_getElem] at h
      obtain ⟨hi, hp, _⟩ := h
      exact List.any_eq_true.2 ⟨_, List.getElem_mem hi, hp⟩
    simp [this, idxI_some]

set_option maxRecDepth 100000 in
set_option maxHeartbeats 2000000 in
/-- edf.may. -/
theorem may_any (now : Int) (l : List (Int × Int)) (a : Option Addr) (cap : Nat) (w : World) (hm : l.length ≤ bigS) (hr : PRow w a l) :
    Calls Tryd.prog 70 #[.int .i64 now, .slice a l.length cap] w fun e w' => e = .returned (.bool (mayB now l)) ∧ Ext w w' := by
  have HC := Lib.hid (containsFuncL l (fun x => !(inM x.1 && inM x.2)) 111 #[] a cap w hm (Go.Proofs.enters_of Tryd.func111 (by kernel_rfl) rfl) (fun j hj W hW => by simpa using may1_any j W) hr)
  have hal : (!l.any fun x => !(inM x.1 && inM x.2)) = l.all fun x => inM x.1 && inM x.2 := by rw [List.all_eq_not_any_not]
  have HA := Lib.hid hal
  have HI := fun W => edfIn_any now W
  have HI2 := Lib.hid HI
  clear hal hr HI
  cases h1 : inM now with
  | false =>
    rw [h1] at HI2
    have H1 := Lib.hid h1
    clear h1
    go_enter Tryd.func70, Tryd.ntmps70
    go_wp2_with (go_at_call 109; go_must (with_reducible refine (HI2.out _).mono ?_); rintro e w1 ⟨rfl, rfl⟩)
    go_ret
    exact ⟨by unfold mayB; rw [H1.out]; rfl, Ext.refl _⟩
  | true =>
    rw [h1] at HI2
    have H1 := Lib.hid h1
    clear h1
    by_cases h2 : l.length ≤ 1000
    · go_enter Tryd.func70, Tryd.ntmps70
      go_wp2_with (first
        | (go_at_call 109; go_must (with_reducible refine (HI2.out _).mono ?_); rintro e w1 ⟨rfl, rfl⟩)
        | (go_at_call 110; refine HC.out.mono ?_; rintro e w1 ⟨rfl, hb1⟩))
      go_ret
      exact ⟨by unfold mayB; rw [H1.out, ← HA.out]; simp [h2], hb1⟩
    · go_enter Tryd.func70, Tryd.ntmps70
      go_wp2_with (go_at_call 109; go_must (with_reducible refine (HI2.out _).mono ?_); rintro e w1 ⟨rfl, rfl⟩)
      go_ret
      exact ⟨by unfold mayB; rw [H1.out]; simp [h2], Ext.refl _⟩
end Go.Proofs.YtnnmakkbnfckmaaDoor
