/- Walks: EdfBest. -/
import Derived.Test.YtnnmakkbnfckmaaDoorN0
import Derived.Test.YtnnmakkbnfckmaaDoorGM
import Derived.Test.YtnnmakkbnfckmaaDoorGT
namespace Go.Proofs.YtnnmakkbnfckmaaDoor
open Go.RowKit

/-- Whom tick k ran. -/
def atT (t : List Int) (k : Nat) : Option Nat := if 0 ≤ t.getD k (-1) then some (t.getD k (-1)).toNat else none
theorem cnt_atT (t : List Int) (j n : Nat) (hn : n ≤ t.length) : cnt (atT t) j n = ((t.take n).count (j : Int) : Int) := by
  induction n with
  | zero => simp [cnt]
  | succ n ih =>
    rw [cnt, ih (by omega), count_snoc t n (by omega)]
    have e : t.getD n (-1) = t[n] := by simp [List.getD, show n < t.length by omega]
    unfold atT
    rw [e]
    by_cases h : t[n] = (j : Int)
    · rw [h]; simp
    · by_cases h0 : 0 ≤ t[n]
      · have h2 : ¬ t[n].toNat = j := by omega
        simp [h, h0, h2]
      · simp [h, h0]
theorem goodT_at {l : List J} {t : List Int} (h : goodT l t = true) : allB l = true ∧ t.length ≤ 10000 ∧ ∀ k (hk : k < t.length), okAt l t k t[k] = true := by
  unfold goodT at h
  rw [Bool.and_eq_true, Bool.and_eq_true, decide_eq_true_eq, List.all_eq_true] at h
  obtain ⟨h1, h2, h3⟩ := h
  refine ⟨h1, h2, fun k hk => ?_⟩
  have := h3 k (List.mem_range.2 hk)
  rwa [getD_at t hk] at this
theorem best_of {l : List J} {t : List Int} (h : goodT l t = true) (hd : ∀ i, i < l.length → doneK t i (at0 workJ l i) ≠ none) {i : Nat} (hi : i < l.length) :
    ∃ k, doneK (runV l (endJ l)) i (at0 workJ l i) = some k ∧ (k : Int) + 1 ≤ at0 J.dl l i := by
  obtain ⟨hal, _, hok⟩ := goodT_at h
  obtain ⟨hlen, hg⟩ := allB_all hal
  have g0 : ∀ i, i < l.length → GoodJ l i := fun i hi => goodJ_of hg hi
  have gw : ∀ i, i < l.length → 0 ≤ at0 workJ l i := fun i hi => by have := (g0 i hi).wrk; omega
  have hcalm : Calm (at0 J.rel l) (at0 J.dl l) (at0 workJ l) l.length := by
    refine calm_of (f := atT t) (T := t.length) (fun k j hk hj => ?_) fun j hj => ?_
    · have e : t.getD k (-1) = t[k] := by simp [List.getD, hk]
      unfold atT at hj
      rw [e] at hj
      have ho := hok k hk
      split at hj
      · injection hj with hj
        subst hj
        unfold okAt at ho
        have hne : (t[k] == -1) = false := beq_eq_false_iff_ne.2 (by omega)
        rw [hne, Bool.false_or] at ho
        simp only [Bool.and_eq_true, decide_eq_true_eq] at ho
        exact ⟨ho.2.2.1, ho.2.2.2.1⟩
      · cases hj
    · cases hq : doneK t j (at0 workJ l j) with
      | none => exact absurd hq (hd j hj)
      | some k =>
        obtain ⟨h1, h2⟩ := doneK_some hq
        have h3 := count_take_mono t (j : Int) (a := k + 1) (b := t.length) (by omega)
        rw [cnt_atT t j t.length (Nat.le_refl _)]
        omega
  have hmet := (metAll_iff g0 gw).2 hcalm i hi
  obtain ⟨e0, e1, e2⟩ := endJ_is hal
  have g := g0 i hi
  have g1 := g.rel; have g2 := g.lt; have g3 := e2 i hi
  have hr : runV l (endJ l) = trI (edfT l (at0 workJ l) (endJ l).toNat) := by
    unfold runV; rw [if_pos ⟨hal, e0⟩, Int.min_eq_left e1]
  rw [hr]
  obtain ⟨k, hk, hlt⟩ := doneK_by (t := trI (edfT l (at0 workJ l) (endJ l).toNat)) (i := (i : Int)) (w := at0 workJ l i) g.wrk (d := (at0 J.dl l i).toNat)
    (by rw [List.length_map, edfT_length]; omega) (by rw [trI_take, trI_count, edfT_take _ _ (by omega)]; exact hmet)
  exact ⟨k, hk, by omega⟩

set_option maxRecDepth 100000 in
set_option maxHeartbeats 16000000 in
theorem edfBest_any (l : List J) (t : List Int) (a b : Option Addr) (cap cb : Nat) (w : World) (hm : l.length ≤ bigS) (hmt : t.length ≤ bigS) (hT : Tabs w) (hs : ∀ j ∈ l, j.ok) (hr : JRow w a l) (ht : IRow w b t) :
    Calls Tryd.prog 7 #[.slice a l.length cap, .slice b t.length cb] w fun e w' => e = .returned (.bool true) ∧ Ext w w' := by
  have CA := Lib.hid (awake10 w hT)
  have CH := Lib.hid fun W (h : Ext w W) => heavy_tocsinlaw10 l 10 200 a cap W hm (hr.ext h)
  have CG := Lib.hid fun W (h : Ext w W) => traceGood_any l t a b cap cb W hm hmt (hT.ext h) hs (hr.ext h) (ht.ext h)
  unfold bigS at hmt
  cases hv : heavyB l 10 200 with
  | true =>
    rw [hv] at CH
    clear hv hs hr hT ht hm CG
    go_enter Tryd.func7, Tryd.ntmps7
    go_wp2_with (first
      | (go_at_call 29; go_must (with_reducible refine CA.out.mono ?_); rintro e w1 ⟨rfl, h1⟩)
      | (go_at_call 30; go_must (with_reducible refine (CH.out _ h1).mono ?_); rintro e w2 ⟨rfl, rfl⟩))
    go_ret
    exact ⟨rfl, h1⟩
  | false =>
    have hlen := heavy_len hv
    rw [hv] at CH
    by_cases htl : 200 < t.length
    · have htl' : (200 : Int) < (t.length : Int) := by omega
      clear hv hs hr hT ht hm CG
      go_enter Tryd.func7, Tryd.ntmps7
      go_wp2_with (first
        | (go_at_call 29; go_must (with_reducible refine CA.out.mono ?_); rintro e w1 ⟨rfl, h1⟩)
        | (go_at_call 30; go_must (with_reducible refine (CH.out _ h1).mono ?_); rintro e w2 ⟨rfl, rfl⟩))
      go_ret
      exact ⟨rfl, h1⟩
    · have htl' : (t.length : Int) ≤ 200 := by omega
      cases hgt : goodT l t with
      | false =>
        rw [hgt] at CG
        clear hv hs hr hT ht hm hgt
        go_enter Tryd.func7, Tryd.ntmps7
        go_wp2_with (first
          | (go_at_call 29; go_must (with_reducible refine CA.out.mono ?_); rintro e w1 ⟨rfl, h1⟩)
          | (go_at_call 30; go_must (with_reducible refine (CH.out _ h1).mono ?_); rintro e w2 ⟨rfl, rfl⟩)
          | (go_at_call 42; go_must (with_reducible refine (CG.out _ h1).mono ?_); rintro e w3 ⟨rfl, h3⟩))
        go_ret
        exact ⟨rfl, h1.trans h3⟩
      | true =>
        rw [hgt] at CG
        obtain ⟨hal, _, _⟩ := goodT_at hgt
        obtain ⟨n, hn⟩ : ∃ n, l.length = n := ⟨_, rfl⟩
        have CD : Hid (∀ W (i : Nat), Ext w W → i < n → Calls Tryd.prog 43 #[.slice a n cap, .slice b t.length cb, .int .i64 i] W fun e w' => e = .returned (doneV (doneK t i (at0 workJ l i))) ∧ Ext W w') := Lib.hid fun W i h hi => by
          rw [← hn] at hi ⊢
          exact doneAt_any l t i a b cap cb W (hT.ext h) hs (hr.ext h) (ht.ext h) hal hi (by omega)
        have CE : Hid (∀ W, Ext w W → Calls Tryd.prog 24 #[.slice a n cap] W fun e w' => e = .returned (.int .i64 (endJ l)) ∧ Ext W w') := Lib.hid fun W h => by
          rw [← hn]; exact end_any l a cap W hm (NameC.of (hT.ext h)) hs (hr.ext h)
        have CR : Hid (∀ W, Ext w W → Calls Tryd.prog 38 #[.slice a n cap, .int .i64 (endJ l)] W (ISl (runV l (endJ l)) W)) := Lib.hid fun W h => by
          rw [← hn]; exact edfRun_any l _ a cap W hm (hT.ext h) hs (hr.ext h)
        have hrl : (runV l (endJ l)).length ≤ 10000 := by
          unfold runV
          split
          · rw [List.length_map, edfT_length]; omega
          · simp
        have CF : Hid (∀ W a' c' (i : Nat), Ext w W → IRow W a' (runV l (endJ l)) → i < n → Calls Tryd.prog 43 #[.slice a n cap, .slice a' (runV l (endJ l)).length c', .int .i64 i] W fun e w' => e = .returned (doneV (doneK (runV l (endJ l)) i (at0 workJ l i))) ∧ Ext W w') := Lib.hid fun W a' c' i h h2 hi => by
          rw [← hn] at hi ⊢
          exact doneAt_any l _ i a a' cap c' W (hT.ext h) hs (hr.ext h) h2 hal hi hrl
        have CB : Hid ((∀ i, i < n → doneK t i (at0 workJ l i) ≠ none) → ∀ i, i < n → ∃ k, doneK (runV l (endJ l)) i (at0 workJ l i) = some k ∧ (k : Int) + 1 ≤ at0 J.dl l i ∧ k < 10000) := Lib.hid fun h i hi => by
          rw [← hn] at h hi
          obtain ⟨k, h1, h2⟩ := best_of hgt h hi
          exact ⟨k, h1, h2, by have := (doneK_some h1).1; omega⟩
        have HO := Lib.hid (And.intro hn hr)
        rw [hn] at hm hlen CG CH ⊢
        clear hn hr hs hT ht hal hgt hv hm hrl
        generalize runV l (endJ l) = r at *
        generalize endJ l = en at *
        obtain ⟨f, hf⟩ : ∃ f, at0 workJ l = f := ⟨_, rfl⟩
        rw [hf] at CD CF CB
        clear hf
        go_enter Tryd.func7, Tryd.ntmps7
        go_wp2_with (first
          | (go_at_call 29; go_must (with_reducible refine CA.out.mono ?_); rintro e w1 ⟨rfl, h1⟩)
          | (go_at_call 30; go_must (with_reducible refine (CH.out _ h1).mono ?_); rintro e w2 ⟨rfl, rfl⟩)
          | (go_at_call 42; go_must (with_reducible refine (CG.out _ h1).mono ?_); rintro e w3 ⟨rfl, h3⟩))
        have HX := Lib.hid (h1.trans h3)
        clear h1 h3
        obtain ⟨wo, hwo⟩ : ∃ wo : World, wo = w3 := ⟨_, rfl⟩
        subst hwo
        go_loopw [5] (fun v5 wr => ∃ k : Nat, k ≤ n ∧ v5 = .int .i64 k ∧ Ext wo wr ∧ Hid (∀ i, i < k → doneK t i (f i) ≠ none)) (fun v5 _ => n - (intOf v5).toNat)
        case atStart => exact ⟨0, Nat.zero_le _, by go_num, Ext.refl _, (show ∀ i, i < 0 → _ from fun i h => absurd h (Nat.not_lt_zero _))⟩
        case round =>
          obtain ⟨k, hk, rfl, hx, HN⟩ := hrel
          by_cases hlt : k < n
          · have hkz : (k : Int) < (n : Int) := by omega
            have HDk := Lib.hid (CD.out wr k ((HX.out).trans hx) hlt)
            have HXr := Lib.hid ((HX.out).trans hx)
            have HXx := Lib.hid hx
            clear hx
            cases hd : doneK t k (f k) with
            | none =>
              rw [hd] at HDk
              clear hd
              go_wp2_with (go_at_call 43; go_must (with_reducible refine (HDk.out).mono ?_); rintro e w5 ⟨rfl, h5⟩; simp only [doneV])
              go_ret
              exact ⟨rfl, (HXr.out).trans h5⟩
            | some m =>
              rw [hd] at HDk
              have HM := Lib.hid hd
              clear hd
              go_wp2_with (go_at_call 43; go_must (with_reducible refine (HDk.out).mono ?_); rintro e w5 ⟨rfl, h5⟩; simp only [doneV])
              go_roundw
              case rel =>
                refine ⟨k + 1, by omega, by go_num, (HXx.out).trans h5, ?_⟩
                show ∀ i, i < k + 1 → _
                intro i hi
                by_cases e : i = k
                · subst e; rw [HM.out]; simp
                · exact HN.out i (by omega)
              case measure => simp [intOf]; omega
          · obtain rfl : k = n := by omega
            have CB2 := Lib.hid (CB.out HN.out)
            have HX2 := Lib.hid ((HX.out).trans hx)
            clear CB HN hx
            go_wp2_with (go_at_call 24; go_must (with_reducible refine (CE.out _ (HX2.out)).mono ?_); rintro e w5 ⟨rfl, h5⟩)
            have HX3 := Lib.hid ((HX2.out).trans h5)
            clear h5
            go_wp2_with fail
            refine (CR.out _ (HX3.out)).mono ?_
            rintro e w6 ⟨a6, c6, rfl, i6, h6, _, _⟩
            have HX4 := Lib.hid ((HX3.out).trans h6)
            have HI := Lib.hid i6
            clear h6 i6
            go_wp2_with fail
            obtain ⟨wq, hwq⟩ : ∃ wq : World, wq = w6 := ⟨_, rfl⟩
            subst hwq
            go_loopw [9] (fun v9 wr => ∃ m : Nat, m ≤ k ∧ v9 = .int .i64 m ∧ Ext wq wr) (fun v9 _ => k - (intOf v9).toNat)
            case atStart => exact ⟨0, Nat.zero_le _, by go_num, Ext.refl _⟩
            case round =>
              obtain ⟨m, hm, rfl, hx⟩ := hrel
              by_cases hlm : m < k
              · have hmz : (m : Int) < (k : Int) := by omega
                have hml : m < l.length := by rw [(HO.out).1]; exact hlm
                obtain ⟨q, hq, hqd, hq2⟩ := CB2.out m hlm
                have HDk := CF.out _ a6 c6 m ((HX4.out).trans hx) ((HI.out).ext hx) hlm
                rw [hq] at HDk
                have HDm := Lib.hid HDk
                obtain ⟨bj, oj, rfl, hbj, hJ⟩ := ((HO.out).2.ext ((HX4.out).trans hx)).at hml
                have c2 := (hJ m hml).c2
                rw [at0_eq J.dl l hml] at hqd
                generalize l[m] = j at *
                obtain ⟨nm, rel, dl, bud, act, val, cln, hard⟩ := j
                have HXx := Lib.hid hx
                clear hx hq HDk hJ
                have hqd' : decide (dl < (q : Int) + 1) = false := decide_eq_false (by simpa using hqd)
                go_wp2_with fail
                refine (HDm.out).mono ?_
                rintro e w8 ⟨rfl, h8⟩
                simp only [doneV]
                have c2' := (h8.cell hbj).trans c2
                have hx8 := (HXx.out).trans h8
                clear c2 h8
                go_wp2_with fail
                go_roundw
                case rel => exact ⟨m + 1, by omega, by go_num, hx8⟩
                case measure => simp [intOf]; omega
              · obtain rfl : m = k := by omega
                go_wp2_with fail
                go_ret
                exact ⟨rfl, (HX4.out).trans hx⟩
end Go.Proofs.YtnnmakkbnfckmaaDoor
