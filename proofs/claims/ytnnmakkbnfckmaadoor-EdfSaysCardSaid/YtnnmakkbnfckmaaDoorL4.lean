/- Walks: trace.Ran; the library's search at ints; who may run. -/
import Derived.Test.YtnnmakkbnfckmaaDoorP6
import Derived.Test.YtnnmakkbnfckmaaDoorB1
namespace Go.Proofs.YtnnmakkbnfckmaaDoor
open Go.RowKit

/-- A trace as the program has it. -/
abbrev trI (t : List (Option Nat)) : List Int := t.map idxI
theorem count_snoc {α : Type} [BEq α] [LawfulBEq α] (l : List α) (k : Nat) (h : k < l.length) (x : α) : (l.take (k + 1)).count x = (l.take k).count x + if l[k] == x then 1 else 0 := by
  rw [List.take_succ_eq_append_getElem h, List.count_append, List.count_singleton]
theorem idxI_inj {a b : Option Nat} (h : idxI a = idxI b) : a = b := by
  cases a <;> cases b <;> simp [idxI] at h <;> first | rfl | omega | (congr 1; omega)
theorem trI_count (t : List (Option Nat)) (i : Nat) : (trI t).count (i : Int) = t.count (some i) := by
  induction t with
  | nil => rfl
  | cons x t ih =>
    show List.count _ (idxI x :: trI t) = _
    rw [List.count_cons, List.count_cons, ih]
    congr 1
    by_cases h : x = some i
    · subst h; simp [idxI]
    · have h2 : ¬ idxI x = (i : Int) := fun e => h (idxI_inj (b := some i) e)
      rw [if_neg (by simpa using h2), if_neg (by simpa using h)]

set_option maxRecDepth 100000 in
set_option maxHeartbeats 2000000 in
theorem ran_any (t : List Int) (i : Int) (a : Option Addr) (cap : Nat) (w : World) (hm : t.length ≤ 1000000) (hr : IRow w a t) :
    Calls Tryd.prog 52 #[.slice a t.length cap, .int .i64 i] w fun e w' => e = .returned (.int .i64 (t.count i)) ∧ w = w' := by
  go_enter Tryd.func52, Tryd.ntmps52
  go_wp2
  go_loop [5, 10] (fun v5 v10 => ∃ k : Nat, k ≤ t.length ∧ v10 = .int .i64 k ∧ v5 = .int .i64 ((t.take k).count i)) (fun _ v10 => t.length - (intOf v10).toNat)
  case atStart => exact ⟨0, Nat.zero_le _, rfl, rfl⟩
  case round =>
    obtain ⟨k, hk, rfl, rfl⟩ := hrel
    have hc : (t.take k).count i ≤ k := Nat.le_trans List.count_le_length (List.length_take_le _ _)
    by_cases hlt : k < t.length
    · obtain ⟨b, off, rfl, hb, c0⟩ := hr k hlt
      have HS := Lib.hid (count_snoc t k hlt i)
      generalize (t.take k).count i = c at *
      generalize t[k] = x at *
      clear hr
      go_wp2
      · go_round
        case rel => exact ⟨k + 1, hlt, by go_num, by rw [HS.out, if_pos (by assumption)]; go_num⟩
        case measure => simp [intOf]; omega
      · go_round
        case rel => exact ⟨k + 1, hlt, by go_num, by rw [HS.out, if_neg (by simp_all)]; go_num⟩
        case measure => simp [intOf]; omega
    · obtain rfl : k = t.length := by omega
      go_wp2
      go_ret
      exact ⟨rfl, rfl⟩

set_option maxRecDepth 100000 in
set_option maxHeartbeats 2000000 in
/-- slices.IndexFunc at ints. -/
theorem indexFuncI (l : List Int) (p : Int → Bool) (g : FuncId) (lb : Array Value) (a : Option Addr) (cap : Nat) (w : World)
    (hm : l.length ≤ bigS) (eg : ∀ args w, (callFunc g args).run Tryd.prog w = .ok (.enter g args) w)
    (hp : ∀ j ∈ l, ∀ W, Ext w W → Calls Tryd.prog g (#[.int .i64 j] ++ lb) W fun e w' => e = .returned (.bool (p j)) ∧ Ext W w')
    (hr : IRow w a l) :
    Calls Tryd.prog 113 #[.slice a l.length cap, .func (.func g) #[] lb] w fun e w' =>
      e = .returned (.int .i64 (idxI (l.findIdx? p))) ∧ Ext w w' := by
  unfold bigS at hm
  go_enter Tryd.func113, Tryd.ntmps113
  go_wp2
  go_loopw [8] (fun v8 wr => ∃ k : Nat, k ≤ l.length ∧ v8 = .int .i64 k ∧ Ext w wr ∧ ∀ i (hi : i < l.length), i < k → p l[i] = false) (fun v8 _ => l.length - (intOf v8).toNat)
  case atStart => exact ⟨0, Nat.zero_le _, rfl, Ext.refl _, fun i _ hi => by omega⟩
  case round =>
    obtain ⟨k, hk, rfl, hx, hno⟩ := hrel
    have HN := Lib.hid hno
    clear hno
    by_cases hlt : k < l.length
    · obtain ⟨b, off, rfl, hb, c0⟩ := (hr.ext hx) k hlt
      have hpk := hp l[k] (List.getElem_mem hlt) wr hx
      have HP := Lib.hid hpk
      clear hpk hp hr
      go_wp2_with (first | (refine HP.out.mono ?_; rintro e w1 ⟨rfl, hb1⟩))
      · have hpk : p l[k] = true := by assumption
        go_ret
        refine ⟨?_, hx.trans hb1⟩
        have : l.findIdx? p = some k := by
          rw [List.findIdx?_eq_some_iff_getElem]
          exact ⟨hlt, hpk, fun j hj => by simpa using HN.out j (by omega) hj⟩
        rw [this]; rfl
      · have hpk : p l[k] = false := by assumption
        go_roundw
        case rel => exact ⟨k + 1, hlt, by go_num, hx.trans hb1, fun i hi hik => by
          rcases Nat.lt_succ_iff_lt_or_eq.1 hik with h | rfl
          · exact HN.out i hi h
          · exact hpk⟩
        case measure => simp [intOf]; omega
    · clear hp hr
      go_wp2
      go_ret
      refine ⟨?_, hx⟩
      have : l.findIdx? p = none := by
        rw [List.findIdx?_eq_none_iff]
        intro x hx
        obtain ⟨i, hi, rfl⟩ := List.getElem_of_mem hx
        exact HN.out i hi (by omega)
      rw [this]; rfl

set_option maxRecDepth 100000 in
set_option maxHeartbeats 2000000 in
/-- What edf.run asks of a job. -/
theorem runPred_any (n i : Nat) (r v k : Int) (bx bt bl b off cap BL capL : Nat) (W : World) (hi : i < n) (hm : n ≤ 1000000)
    (cx : W.cell? ⟨bx, 0, none⟩ = some (.slice (some ⟨b, off, none⟩) n cap)) (ct : W.cell? ⟨bt, 0, none⟩ = some (.int .i64 k)) (cl : W.cell? ⟨bl, 0, none⟩ = some (.slice (some ⟨BL, 0, none⟩) n capL))
    (cr : W.cell? ⟨b, off + i * 8 + 1, none⟩ = some (.int .i64 r)) (cv : W.cell? ⟨BL, i, none⟩ = some (.int .i64 v)) :
    Calls Tryd.prog 114 #[.int .i64 i, .pointer (some ⟨bx, 0, none⟩), .pointer (some ⟨bt, 0, none⟩), .pointer (some ⟨bl, 0, none⟩)] W fun e w' => e = .returned (.bool (decide (r ≤ k) && decide (0 < v))) ∧ Ext W w' := by
  have mixed : Tryd.prog.follows .mixedOrders = true := by kernel_rfl
  have hi' : (i : Int) < (n : Int) := by omega
  by_cases hle : r ≤ k
  · go_enter Tryd.func114, Tryd.ntmps114
    go_wp2_with fail
    go_quiet (fail)
    go_wp2
    go_ret
    exact ⟨by simp [hle], (Ext.refl _).drewN _⟩
  · have hle' : decide (r ≤ k) = false := decide_eq_false hle
    go_enter Tryd.func114, Tryd.ntmps114
    go_wp2_with fail
    go_quiet (fail)
    go_wp2
    go_ret
    exact ⟨by rw [hle']; rfl, (Ext.refl _).drewN _⟩
end Go.Proofs.YtnnmakkbnfckmaaDoor
