/- Walks: chapter 10's own answer: meets, Meets. -/
import Derived.Test.YtnnmakkbnfckmaaDoorL10
namespace Go.Proofs.YtnnmakkbnfckmaaDoor
open Go.RowKit

/-- Has it its work by its deadline? -/
def metN (l : List J) (need : Nat → Int) (i : Nat) : Bool := decide (need i ≤ ((edfT l need (at0 J.dl l i).toNat).count (some i) : Int))
def meetsN (l : List J) (need : Nat → Int) : Bool := (List.range l.length).all (metN l need)
theorem metN_false {l : List J} {need : Nat → Int} {i : Nat} (hi : i < l.length) (h : metN l need i = false) : meetsN l need = false :=
  List.all_eq_false.2 ⟨i, List.mem_range.2 hi, by simp [h]⟩
theorem meetsB_N {l : List J} (h : allB l = true) : meetsB l = meetsN l (at0 chargeJ l) := by unfold meetsB; rw [h]; rfl

set_option maxRecDepth 100000 in
set_option maxHeartbeats 16000000 in
theorem refMeetsN_any (l : List J) (need : Nat → Int) (a aw : Option Addr) (cap cw : Nat) (w : World) (hT : Tabs w) (hs : ∀ j ∈ l, j.ok) (hr : JRow w a l) (hal : allB l = true) (hw : IRow w aw (rowN need l.length)) :
    Calls Tryd.prog 77 #[.slice a l.length cap, .slice aw l.length cw] w fun e w' => e = .returned (.bool (meetsN l need)) ∧ Ext w w' := by
  have hej := endJ_is hal
  have hlen := (allB_all hal).1
  have HE := Lib.hid (refEnd_any l a cap w (by unfold bigS; omega) hT hs hr)
  obtain ⟨T, hTE⟩ : ∃ T : Nat, (T : Int) = endJ l := ⟨(endJ l).toNat, by have := hej.1; omega⟩
  have hT1 : T ≤ 10000 := by have := hej.2.1; omega
  have HR := Lib.hid fun W (h : Ext w W) => refRun_any l need T a aw cap cw W (by omega) hT1 (hr.ext h) (hw.ext h)
  rw [← hTE] at HE
  obtain ⟨n, hn⟩ : ∃ n, l.length = n := ⟨_, rfl⟩
  have HO := Lib.hid (And.intro hr (And.intro hn (And.intro (allB_all hal).2 (And.intro hTE (And.intro hej.2.2 hw)))))
  rw [hn] at HE HR hlen ⊢
  obtain ⟨L, hL⟩ : ∃ L, trI (edfT l need T) = L := ⟨_, rfl⟩
  rw [hL] at HR
  have HLL := Lib.hid hL
  have hll : L.length = T := by rw [← hL, List.length_map, edfT_length]
  clear hej hTE hT hs hr hw hal hn hL
  go_enter Tryd.func77, Tryd.ntmps77
  go_wp2_with (first
    | (go_at_call 25; go_must (with_reducible refine HE.out.mono ?_); rintro e w2 ⟨rfl, h2⟩)
    | (go_at_call 76; go_must (with_reducible refine (HR.out _ h2).mono ?_); rintro e w3 ⟨a3, c3, rfl, hi3, h3, hc3, ho3⟩))
  have HX := Lib.hid (And.intro (h2.trans h3) hi3)
  clear h2 h3 hi3 HE HR hc3 ho3
  obtain ⟨wo, hwo⟩ : ∃ wo : World, wo = w3 := ⟨_, rfl⟩
  subst hwo
  go_loopw [6] (fun v6 wr => ∃ k : Nat, k ≤ n ∧ v6 = .int .i64 k ∧ Ext wo wr ∧ Hid (∀ i, i < k → metN l need i = true)) (fun v6 _ => n - (intOf v6).toNat)
  case atStart => exact ⟨0, Nat.zero_le _, by go_num, Ext.refl _, (show ∀ i, i < 0 → _ from fun i h => absurd h (Nat.not_lt_zero _))⟩
  case round =>
    obtain ⟨k, hk, rfl, hx, HM⟩ := hrel
    by_cases hlt : k < n
    · have hkl : k < l.length := by rw [(HO.out).2.1]; exact hlt
      have g := goodJ_of (HO.out).2.2.1 hkl
      have hd1 := g.lt; have hd0 := g.rel; have hde := (HO.out).2.2.2.2.1 k hkl; have hte := (HO.out).2.2.2.1
      obtain ⟨d, hd⟩ : ∃ d : Nat, (d : Int) = at0 J.dl l k := ⟨(at0 J.dl l k).toNat, by omega⟩
      have hdT : d ≤ T := by omega
      have hd0' : 0 < d := by omega
      have HMK : Hid (metN l need k = decide (need k ≤ ((L.take d).count (k : Int) : Nat))) := by
        show metN l need k = _
        unfold metN
        rw [← hd, Int.toNat_natCast, ← HLL.out, trI_take, trI_count, edfT_take _ _ hdT]
      have hdl : l[k].dl = d := by rw [hd, at0_eq _ _ hkl]
      have hxw : Ext w wr := (HX.out).1.trans hx
      obtain ⟨b, off, rfl, hb, hJ⟩ := ((HO.out).1.ext hxw).at hkl
      have c2 := (hJ k hkl).c2
      rw [hdl] at c2
      obtain ⟨bw, ow, rfl, hbw, cwx⟩ := ((HO.out).2.2.2.2.2.ext hxw) k (by simpa using hkl)
      have c3w : wr.cell? ⟨bw, ow + k, none⟩ = some (.int .i64 (need k)) := by rw [cwx]; simp
      obtain ⟨g3, o3, rfl⟩ : ∃ g3 o3, a3 = some ⟨g3, o3, none⟩ := let ⟨g, o, e, _⟩ := (HX.out).2 0 (by omega); ⟨g, o, e⟩
      have HXW := Lib.hid (And.intro hxw (And.intro hx hb))
      obtain ⟨nd, hnd⟩ : ∃ nd, need k = nd := ⟨_, rfl⟩
      rw [hnd] at c3w HMK
      clear hJ g hd1 hd0 hde hte hd hdl hxw hx cwx hnd
      obtain ⟨wq, hwq⟩ : ∃ wq : World, wq = wr := ⟨_, rfl⟩
      subst hwq
      go_wp2_with fail
      go_loopw [7, 8] (fun v7 v8 wr => ∃ q : Nat, q ≤ d ∧ v8 = .int .i64 q ∧ v7 = .int .i64 ((L.take q).count (k : Int) : Nat) ∧ Ext wq wr) (fun _ v8 _ => d - (intOf v8).toNat)
      case atStart => exact ⟨0, Nat.zero_le _, by go_num, by simp, Ext.refl _⟩
      case round =>
        obtain ⟨q, hq, rfl, rfl, hx2⟩ := hrel
        have hcq : (L.take q).count (k : Int) ≤ q := Nat.le_trans List.count_le_length (List.length_take_le _ _)
        have c2r := (hx2.cell (HXW.out).2.2).trans c2
        by_cases hqd : q < d
        · have hqL : q < L.length := by omega
          have hqT : (q : Int) < (T : Int) := by omega
          have hqd' : (q : Int) < (d : Int) := by omega
          obtain ⟨g', o', e', _, ct⟩ := ((HX.out).2.ext ((HXW.out).2.1.trans hx2)) q hqL
          obtain ⟨rfl, rfl⟩ : g' = g3 ∧ o' = o3 := by injection e' with e; injection e with e1 e2; exact ⟨e1.symm, e2.symm⟩
          have HS := Lib.hid (count_snoc L q hqL (k : Int))
          have HX2 := Lib.hid hx2
          clear e' hx2
          generalize (L.take q).count (k : Int) = cc at *
          generalize L[q] = x at *
          go_wp2_with fail
          all_goals
            go_roundw
            case rel => exact ⟨q + 1, by omega, by go_num, by rw [HS.out]; first | (rw [if_pos (by assumption)]; go_num) | (rw [if_neg (by simp_all)]; go_num), HX2.out⟩
            case measure => simp [intOf]; omega
        · obtain rfl : q = d := by omega
          have hqq : decide ((q : Int) < (q : Int)) = false := by simp
          have c3r := (hx2.cell (b := bw) (o := ow + k) hbw).trans c3w
          generalize (L.take q).count (k : Int) = cn at *
          have HX2 := Lib.hid hx2
          clear hx2
          by_cases hcc : (cn : Int) < nd
          · have hmk0 : metN l need k = false := by rw [HMK.out]; simp; omega
            have hmf := metN_false (by rw [(HO.out).2.1]; exact hlt) hmk0
            have HMF := Lib.hid hmf
            clear hmf hmk0
            go_wp2_with fail
            all_goals
              go_ret
              exact ⟨by rw [HMF.out]; rfl, (HXW.out).1.trans HX2.out⟩
          · have hmk1 : metN l need k = true := by rw [HMK.out]; simp; omega
            have HM1 := Lib.hid hmk1
            clear hmk1
            go_wp2_with fail
            all_goals
              go_roundw
              case rel =>
                refine ⟨k + 1, by omega, by go_num, (HXW.out).2.1.trans HX2.out, ?_⟩
                show ∀ i, i < k + 1 → _
                intro i hi
                by_cases e : i = k
                · subst e; exact HM1.out
                · exact HM.out i (by omega)
              case measure => simp [intOf]; omega
    · obtain rfl : k = n := by omega
      have hmt : meetsN l need = true := by
        unfold meetsN
        rw [(HO.out).2.1, List.all_eq_true]
        exact fun i hi => HM.out i (List.mem_range.1 hi)
      have HMT := Lib.hid hmt
      clear hmt
      go_wp2_with fail
      go_ret
      exact ⟨by rw [HMT.out]; rfl, (HX.out).1.trans hx⟩

set_option maxRecDepth 100000 in
set_option maxHeartbeats 8000000 in
theorem refMeets_any (l : List J) (a : Option Addr) (cap : Nat) (w : World) (hm : l.length ≤ bigS) (hT : Tabs w) (hs : ∀ j ∈ l, j.ok) (hr : JRow w a l) :
    Calls Tryd.prog 41 #[.slice a l.length cap] w fun e w' => e = .returned (.bool (meetsB l)) ∧ Ext w w' := by
  have HA := Lib.hid (refAll_any l a cap w hm hT hs hr)
  cases hal : allB l with
  | false =>
    have hv : meetsB l = false := by unfold meetsB; rw [hal]; rfl
    rw [hv]
    rw [hal] at HA
    clear hv hal hT hs hr hm
    go_enter Tryd.func41, Tryd.ntmps41
    go_wp2_with (go_at_call 18; go_must (with_reducible refine HA.out.mono ?_); rintro e w1 ⟨rfl, h1⟩)
    go_ret
    exact ⟨rfl, h1⟩
  | true =>
    rw [hal] at HA
    rw [meetsB_N hal]
    have hlen := (allB_all hal).1
    obtain ⟨n, hn⟩ : ∃ n, l.length = n := ⟨_, rfl⟩
    have HO := Lib.hid (And.intro hn (And.intro hr (And.intro hT hs)))
    have HR : Hid (∀ W aw cw, Ext w W → IRow W aw (l.map chargeJ) → Calls Tryd.prog 77 #[.slice a n cap, .slice aw n cw] W fun e w' => e = .returned (.bool (meetsN l (at0 chargeJ l))) ∧ Ext W w') := Lib.hid fun W aw cw hW hw => by
      have h0 := refMeetsN_any l (at0 chargeJ l) a aw cap cw W (hT.ext hW) hs (hr.ext hW) hal (by rw [← map_rowN]; exact hw)
      rwa [hn] at h0
    rw [hn] at HA hlen ⊢
    clear hal hT hs hr hm hn
    generalize meetsN l (at0 chargeJ l) = res at *
    go_enter Tryd.func41, Tryd.ntmps41
    go_wp2_with (go_at_call 18; go_must (with_reducible refine HA.out.mono ?_); rintro e w1 ⟨rfl, h1⟩)
    obtain ⟨wo, hwo⟩ : ∃ wo : World, wo = w1 := ⟨_, rfl⟩
    subst hwo
    have HXO := Lib.hid h1
    clear h1 HA
    go_loopw [3, 4] (fun vv vi wr => ∃ k : Nat, k ≤ n ∧ vi = .int .i64 k ∧ wr.ownsRow wo.heap.size 3 1 vv k (((l.take k).map chargeJ).map (Value.int .i64)) ∧ Ext wo wr) (fun _ vi _ => n - (intOf vi).toNat)
    case atStart => exact ⟨0, Nat.zero_le _, by go_num, World.ownsRow_nil _ _ _ _, Ext.refl _⟩
    case round =>
      obtain ⟨k, hk, rfl, hown, hx⟩ := hrel
      by_cases hlt : k < n
      · have hkl : k < l.length := by rw [(HO.out).1]; exact hlt
        have hxw : Ext w wr := (HXO.out).trans hx
        obtain ⟨b, off, rfl, hb, hJ⟩ := ((HO.out).2.1.ext hxw).at hkl
        obtain ⟨c0, c1, c2, c3, c4, c5, c6, c7⟩ := hJ k hkl
        have HP := Lib.hid (refCharge_any l[k] wr ((HO.out).2.2.1.ext hxw) ((HO.out).2.2.2 _ (List.getElem_mem hkl)))
        have HS := Lib.hid (take_snoc l k hkl)
        have HX := Lib.hid hx
        clear hJ hx hxw
        generalize l[k] = j at *
        obtain ⟨v, hv⟩ : ∃ v, chargeJ j = v := ⟨_, rfl⟩
        rw [hv] at HP
        have HV := Lib.hid hv
        clear hv
        obtain ⟨nm, rel, dl, bud, act, val, cln, hard⟩ := j
        go_wp2_with (first
          | (go_at_call 20; go_must (with_reducible refine HP.out.mono ?_); rintro e w5 ⟨rfl, h5⟩)
          | (at_builtin; go_must (refine wpList_app1 rtInt wo.heap.size (own_ext hown h5) rfl (.tmp 14) (.tmp 20) rfl rfl [.int .i64 v] _ rfl (by simp) rfl (by simp [Value.oneCell']) (by omega) (by decide) (by have := (HX.out).size; have := h5.size; omega) _ ?_); intro v6 w6 hown6 hB6 hg6))
        go_roundw
        case rel => exact ⟨k + 1, by omega, by go_num, by rw [HS.out]; simpa [HV.out] using hown6, Below.trans ((HX.out).trans h5) hB6⟩
        case measure => simp [intOf]; omega
      · obtain rfl : k = n := by omega
        have hkl := (HO.out).1
        have hxw := (HXO.out).trans hx
        rw [← hkl, List.take_length] at hown
        obtain ⟨aw, cw, rfl, hw⟩ := own_erow (l := l.map chargeJ) (by simpa using hown)
        rw [show (l.map chargeJ).length = k by rw [List.length_map]; exact hkl]
        have HR2 := Lib.hid (HR.out wr aw cw hxw hw)
        clear hown hw hx hkl HR
        have HXW := Lib.hid hxw
        clear hxw
        go_wp2_with (go_at_call 77; go_must (with_reducible refine HR2.out.mono ?_); rintro e w7 ⟨rfl, h7⟩)
        go_ret
        exact ⟨rfl, (HXW.out).trans h7⟩
end Go.Proofs.YtnnmakkbnfckmaaDoor
