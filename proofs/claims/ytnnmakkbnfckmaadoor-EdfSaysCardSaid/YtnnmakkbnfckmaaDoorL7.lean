/- Walks: edf.Run, edf.Meets. -/
import Derived.Test.YtnnmakkbnfckmaaDoorL6
namespace Go.Proofs.YtnnmakkbnfckmaaDoor
open Go.RowKit

/-- What Run tells. -/
def runV (l : List J) (ticks : Int) : List Int := if allB l = true ∧ 0 ≤ ticks then trI (edfT l (at0 workJ l) (min ticks 10000).toNat) else []
/-- Has each its charge by its deadline? -/
def metB (l : List J) (i : Nat) : Bool := decide (at0 chargeJ l i ≤ ((edfT l (at0 chargeJ l) (at0 J.dl l i).toNat).count (some i) : Int))
def meetsB (l : List J) : Bool := allB l && (List.range l.length).all (metB l)
theorem work_bd {l : List J} (h : allB l = true) : ∀ j ∈ l, 0 ≤ workJ j ∧ workJ j ≤ 1000000 := fun j hj => by
  obtain ⟨i, hi, rfl⟩ := List.getElem_of_mem hj
  have g := goodJ_of (allB_all h).2 hi
  have h1 := g.wrk; have h2 := g.le; have h3 := g.chg
  rw [at0_eq _ _ hi] at h1 h2
  rw [at0_eq _ _ hi] at h2 h3
  omega
theorem charge_bd {l : List J} (h : allB l = true) : ∀ j ∈ l, 0 ≤ chargeJ j ∧ chargeJ j ≤ 1000000 := fun j hj => by
  obtain ⟨i, hi, rfl⟩ := List.getElem_of_mem hj
  have g := goodJ_of (allB_all h).2 hi
  have h1 := g.wrk; have h2 := g.le; have h3 := g.chg
  rw [at0_eq _ _ hi] at h1 h2
  rw [at0_eq _ _ hi] at h2 h3
  omega

set_option maxRecDepth 100000 in
set_option maxHeartbeats 4000000 in
theorem edfRun_any (l : List J) (ticks : Int) (a : Option Addr) (cap : Nat) (w : World) (hm : l.length ≤ bigS) (hT : Tabs w) (hs : ∀ j ∈ l, j.ok) (hr : JRow w a l) :
    Calls Tryd.prog 38 #[.slice a l.length cap, .int .i64 ticks] w (ISl (runV l ticks) w) := by
  by_cases hc : allB l = true ∧ 0 ≤ ticks
  · have HC := Lib.hid (run_any l ticks 21 workJ a cap w hT hs hr hc.1 hc.2 (Go.Proofs.enters_of Tryd.func21 (by kernel_rfl) rfl) (work_bd hc.1) fun j hj W hW => work_any j W (NameC.of (hT.ext hW)) (hs j hj))
    have hv : runV l ticks = trI (edfT l (at0 workJ l) (min ticks 10000).toNat) := by unfold runV; rw [if_pos hc]
    rw [hv]
    clear hv hc hT hs hr hm
    generalize trI (edfT l (at0 workJ l) (min ticks 10000).toNat) = L at *
    go_enter Tryd.func38, Tryd.ntmps38
    go_wp2_with (go_at_call 75; go_must (with_reducible refine HC.out.mono ?_); intro e w1 h1; obtain ⟨a1, c1, rfl, h2⟩ := id h1)
    go_ret
    exact h1
  · have hc' : allB l = false ∨ ticks < 0 := by
      cases h : allB l
      · exact .inl rfl
      · exact .inr (by refine Classical.byContradiction fun h' => hc ⟨h, by omega⟩)
    have HC := Lib.hid (run_no l ticks 21 a cap w hm hT hs hr hc')
    have hv : runV l ticks = [] := by unfold runV; rw [if_neg hc]
    rw [hv]
    clear hv hc hc' hT hs hr hm
    go_enter Tryd.func38, Tryd.ntmps38
    go_wp2_with (go_at_call 75; go_must (with_reducible refine HC.out.mono ?_); rintro e w1 ⟨rfl, h1⟩)
    go_ret
    exact ISl.nil h1

theorem trI_take (t : List (Option Nat)) (k : Nat) : (trI t).take k = trI (t.take k) := List.map_take.symm
theorem IRow.take {w : World} {a : Option Addr} {l : List Int} (h : IRow w a l) (k : Nat) : IRow w a (l.take k) := fun i hi => by
  obtain ⟨b, o, e, hb, hc⟩ := h i (by have := List.length_take_le' k l; omega)
  exact ⟨b, o, e, hb, by rw [hc, List.getElem_take]⟩
theorem metB_false {l : List J} {i : Nat} (hi : i < l.length) (h : metB l i = false) : meetsB l = false := by
  unfold meetsB
  rw [Bool.and_eq_false_iff]
  exact .inr (List.all_eq_false.2 ⟨i, List.mem_range.2 hi, by simp [h]⟩)
set_option maxRecDepth 100000 in
set_option maxHeartbeats 8000000 in
theorem meets_any (l : List J) (a : Option Addr) (cap : Nat) (w : World) (hm : l.length ≤ bigS) (hT : Tabs w) (hs : ∀ j ∈ l, j.ok) (hr : JRow w a l) :
    Calls Tryd.prog 40 #[.slice a l.length cap] w fun e w' => e = .returned (.bool (meetsB l)) ∧ Ext w w' := by
  have mixed : Tryd.prog.follows .mixedOrders = true := by kernel_rfl
  have HA := Lib.hid (all_any l a cap w hm (NameC.of hT) hs hr)
  cases hal : allB l with
  | false =>
    have hv : meetsB l = false := by unfold meetsB; rw [hal]; rfl
    rw [hv]
    rw [hal] at HA
    clear hv hal hT hs hr hm
    go_enter Tryd.func40, Tryd.ntmps40
    go_wp2_with (go_at_call 17; go_must (with_reducible refine HA.out.mono ?_); rintro e w1 ⟨rfl, h1⟩)
    go_ret
    exact ⟨rfl, h1⟩
  | true =>
    have HE := Lib.hid fun W (h : Ext w W) => end_any l a cap W hm (NameC.of (hT.ext h)) hs (hr.ext h)
    have hej := endJ_is hal
    have HR := Lib.hid fun W (h : Ext w W) => run_any l (endJ l) 19 chargeJ a cap W (hT.ext h) hs (hr.ext h) hal hej.1 (Go.Proofs.enters_of Tryd.func19 (by kernel_rfl) rfl) (charge_bd hal) fun j hj W' hW => charge_any j W' (NameC.of ((hT.ext h).ext hW)) (hs j hj)
    obtain ⟨T, hTE⟩ : ∃ T : Nat, (T : Int) = endJ l := ⟨(endJ l).toNat, by have := hej.1; omega⟩
    have hmin : (min (endJ l) 10000).toNat = T := by have := hej.2.1; omega
    have HC := Lib.hid fun j (hj : j ∈ l) W (h : Ext w W) => charge_any j W (NameC.of (hT.ext h)) (hs j hj)
    rw [hal] at HA
    rw [hmin, ← hTE] at HR
    rw [← hTE] at HE
    obtain ⟨n, hn⟩ : ∃ n, l.length = n := ⟨_, rfl⟩
    have hlen : n ≤ 200 := hn ▸ (allB_all hal).1
    have hT1 : T ≤ 10000 := by have := hej.2.1; omega
    have HO := Lib.hid (And.intro hr (And.intro hn (And.intro (allB_all hal).2 (And.intro hTE hej.2.2))))
    rw [hn] at HA HE HR ⊢
    obtain ⟨L, hL⟩ : ∃ L, trI (edfT l (at0 chargeJ l) T) = L := ⟨_, rfl⟩
    rw [hL] at HR
    have HLL := Lib.hid hL
    have hll : L.length = T := by rw [← hL, List.length_map, edfT_length]
    have HV : Hid (meetsB l = (List.range l.length).all (metB l)) := by show meetsB l = _; unfold meetsB; rw [hal]; rfl
    clear hal hej hmin hTE hT hs hr hm hn hL
    go_enter Tryd.func40, Tryd.ntmps40
    go_wp2_with (first
      | (go_at_call 17; go_must (with_reducible refine HA.out.mono ?_); rintro e w1 ⟨rfl, h1⟩)
      | (go_at_call 24; go_must (with_reducible refine (HE.out _ h1).mono ?_); rintro e w2 ⟨rfl, h2⟩; have h12 := h1.trans h2)
      | (go_at_call 75; go_must (with_reducible refine (HR.out _ h12).mono ?_); rintro e w3 ⟨a3, c3, rfl, hi3, h3, hc3, ho3⟩))
    have h03 := h12.trans h3
    have HX := Lib.hid (And.intro h03 (And.intro hi3 ho3))
    have hc3' : T ≤ c3 := by omega
    clear h1 h2 h12 h3 h03 hi3 HA HE HR hc3 ho3
    obtain ⟨wo, hwo⟩ : ∃ wo : World, wo = w3 := ⟨_, rfl⟩
    subst hwo
    go_loopw [15] (fun v15 wr => ∃ k : Nat, k ≤ n ∧ v15 = .int .i64 k ∧ Ext wo wr ∧ Hid (∀ i, i < k → metB l i = true)) (fun v15 _ => n - (intOf v15).toNat)
    case atStart => exact ⟨0, Nat.zero_le _, by go_num, Ext.refl _, (show ∀ i, i < 0 → _ from fun i h => absurd h (Nat.not_lt_zero _))⟩
    case round =>
      obtain ⟨k, hk, rfl, hx, HM⟩ := hrel
      by_cases hlt : k < n
      · have hkl : k < l.length := by rw [(HO.out).2.1]; exact hlt
        have g := goodJ_of (HO.out).2.2.1 hkl
        have hd1 := g.lt; have hd0 := g.rel; have hde := (HO.out).2.2.2.2 k hkl; have hte := (HO.out).2.2.2.1
        obtain ⟨d, hd⟩ : ∃ d : Nat, (d : Int) = at0 J.dl l k := ⟨(at0 J.dl l k).toNat, by omega⟩
        have hdT : d ≤ T := by omega
        have hd0' : 0 < d := by omega
        have HMK : Hid (metB l k = decide (chargeJ l[k] ≤ ((L.take d).count (k : Int) : Nat))) := by
          show metB l k = _
          unfold metB
          rw [← hd, Int.toNat_natCast, at0_eq _ _ hkl, ← HLL.out, trI_take, trI_count, edfT_take _ _ hdT]
        have hdl : l[k].dl = d := by rw [hd, at0_eq _ _ hkl]
        have hxw : Ext w wr := (HX.out).1.trans hx
        obtain ⟨b, off, rfl, hb, hJ⟩ := ((HO.out).1.ext hxw).at hkl
        have hJk := hJ k hkl
        have hG := fun W (h : Ext wr W) => HC.out l[k] (List.getElem_mem hkl) W (hxw.trans h)
        have hcp : (0 : Int) ≤ ((L.take d).count (k : Int) : Nat) := by omega
        clear hJ g hd1 hd0 hde hte hd
        generalize l[k] = j at *
        have HG : Hid (∀ W, Ext wr W → Calls Tryd.prog 19 #[j.agg] W fun e w' => e = .returned (.int .i64 (chargeJ j)) ∧ Ext W w') := hG
        clear hG
        have HXW := Lib.hid (And.intro hxw hx)
        clear hxw hx
        obtain ⟨nm, rel, dl, bud, act, val, cln, hard⟩ := j
        obtain rfl : dl = (d : Int) := hdl
        obtain ⟨c0, c1, c2, c3', c4, c5, c6, c7⟩ := hJk
        obtain ⟨g, og, rfl, _, _⟩ := (HX.out).2.1 0 (by omega)
        obtain rfl : og = 0 := (HX.out).2.2 g og rfl
        have HRN : Hid (∀ W, Ext wr W → Calls Tryd.prog 52 #[.slice (some ⟨g, 0, none⟩) d c3, .int .i64 k] W fun e w' => e = .returned (.int .i64 ((L.take d).count (k : Int) : Nat)) ∧ Ext W w') := Lib.hid fun W hW => by
          have h0 := ran_any (L.take d) k (some ⟨g, 0, none⟩) c3 W (by have := List.length_take_le' d L; omega) (IRow.take ((HX.out).2.1.ext ((HXW.out).2.trans hW)) d)
          rw [List.length_take, Nat.min_eq_left (by omega)] at h0
          exact h0.mono fun e w' ⟨he, hw⟩ => ⟨he, hw ▸ Ext.refl _⟩
        generalize chargeJ ⟨nm, rel, (d : Int), bud, act, val, cln, hard⟩ = ch at *
        generalize (L.take d).count (k : Int) = cn at *
        have hdc : (d : Int) ≤ (c3 : Int) := by omega
        go_wp2_with fail
        obtain ⟨d0, d1, d2, d3, d4, d5, d6, d7⟩ := jcells_new ⟨nm, rel, (d : Int), bud, act, val, cln, hard⟩ wr 24
        simp only [Nat.zero_add] at d1 d2 d3 d4 d5 d6 d7
        have hsz : wr.heap.size < (wr.alloc (.cells (J.cells ⟨nm, rel, (d : Int), bud, act, val, cln, hard⟩).toArray 24)).heap.size := by simp
        have HX1 := Lib.hid (Ext.new wr (.cells (J.cells ⟨nm, rel, (d : Int), bud, act, val, cln, hard⟩).toArray 24))
        generalize wr.alloc (.cells (J.cells ⟨nm, rel, (d : Int), bud, act, val, cln, hard⟩).toArray 24) = wy at *
        clear c0 c1 c2 c3' c4 c5 c6 c7
        have hzl : ∀ (z : Later wy) (b' o : Nat), b' < wy.heap.size → z.val.cell? ⟨b', o, none⟩ = wy.cell? ⟨b', o, none⟩ := fun z b' o h => z.property.cell h
        have hnel : Nonempty (Later wy) := ⟨⟨wy, Ext.refl _⟩⟩
        refine wp_region_later (by kernel_rfl) (by kernel_rfl) ?_
        repeat (refine wpQuiet_step (fun K hK => ?_); go_simp; first | (refine hK _ ?_; clear hK K) | (apply Exists.intro; refine ⟨fun _ => ?_, hK _ ?_⟩; (first | (go_at_call 52; exact Calls.later (HRN.out _ ((HX1.out).trans (Subtype.property _)))) | (go_at_call 19; exact Calls.later (HG.out _ ((HX1.out).trans (Subtype.property _))))); clear hK K))
        refine wpQuiet_nil ?_
        intro _ hw'
        obtain ⟨zq, hw''⟩ := hw'
        subst hw''
        clear hzl hnel
        by_cases hcc : (cn : Int) < ch
        · have hmk0 : metB l k = false := by rw [HMK.out]; simp; omega
          have hmf := metB_false (by rw [(HO.out).2.1]; exact hlt) hmk0
          have HMF := Lib.hid hmf
          clear hmf hmk0
          go_wp2_with fail
          go_ret
          exact ⟨by rw [HMF.out]; rfl, ((HXW.out).1.trans HX1.out).trans zq.property⟩
        · have hmk1 : metB l k = true := by rw [HMK.out]; simp; omega
          have HM1 := Lib.hid hmk1
          clear hmk1
          go_wp2_with fail
          go_roundw
          case rel =>
            refine ⟨k + 1, by omega, by go_num, ((HXW.out).2.trans HX1.out).trans zq.property, ?_⟩
            show ∀ i, i < k + 1 → _
            intro i hi
            by_cases e : i = k
            · subst e; exact HM1.out
            · exact HM.out i (by omega)
          case measure => simp [intOf]; omega
      · obtain rfl : k = n := by omega
        have hmt : meetsB l = true := by
          rw [HV.out, (HO.out).2.1, List.all_eq_true]
          exact fun i hi => HM.out i (List.mem_range.1 hi)
        have HMT := Lib.hid hmt
        clear hmt
        go_wp2_with fail
        go_ret
        exact ⟨by rw [HMT.out]; rfl, (HX.out).1.trans hx⟩
end Go.Proofs.YtnnmakkbnfckmaaDoor
