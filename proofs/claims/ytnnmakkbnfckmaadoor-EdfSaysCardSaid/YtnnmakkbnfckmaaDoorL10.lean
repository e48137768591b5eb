/- Walks: chapter 10's own answer: Run. -/
import Derived.Test.YtnnmakkbnfckmaaDoorL9
namespace Go.Proofs.YtnnmakkbnfckmaaDoor
open Go.RowKit

theorem map_rowN (f : J → Int) (l : List J) : l.map f = rowN (at0 f l) l.length := by
  apply List.ext_getElem (by simp)
  intro i h1 h2
  have hi : i < l.length := by simpa using h1
  simp [at0, hi]
set_option maxRecDepth 100000 in
set_option maxHeartbeats 8000000 in
theorem refRunW_any (l : List J) (ticks : Int) (a : Option Addr) (cap : Nat) (w : World) (hm : l.length ≤ bigS) (hT : Tabs w) (hs : ∀ j ∈ l, j.ok) (hr : JRow w a l) :
    Calls Tryd.prog 39 #[.slice a l.length cap, .int .i64 ticks] w (ISl (runV l ticks) w) := by
  have HA := Lib.hid (refAll_any l a cap w hm hT hs hr)
  cases hal : allB l with
  | false =>
    have hv : runV l ticks = [] := by unfold runV; rw [if_neg (by simp [hal])]
    rw [hv]
    rw [hal] at HA
    clear hv hal hT hs hr hm
    go_enter Tryd.func39, Tryd.ntmps39
    go_wp2_with (go_at_call 18; go_must (with_reducible refine HA.out.mono ?_); rintro e w1 ⟨rfl, h1⟩)
    go_ret
    exact ISl.nil h1
  | true =>
    rw [hal] at HA
    by_cases ht : 0 ≤ ticks
    · obtain ⟨tt, htt⟩ : ∃ tt : Int, min ticks 10000 = tt := ⟨_, rfl⟩
      obtain ⟨T, hTT⟩ : ∃ T : Nat, (T : Int) = tt := ⟨tt.toNat, by omega⟩
      have hv : runV l ticks = trI (edfT l (at0 workJ l) T) := by
        unfold runV; rw [if_pos ⟨hal, ht⟩, htt, ← hTT, Int.toNat_natCast]
      rw [hv]
      have hT1 : T ≤ 10000 := by omega
      have hlen := (allB_all hal).1
      obtain ⟨n, hn⟩ : ∃ n, l.length = n := ⟨_, rfl⟩
      have HO := Lib.hid (And.intro hn (And.intro hr (And.intro hT hs)))
      have HR : Hid (∀ W aw cw, Ext w W → IRow W aw (l.map workJ) → Calls Tryd.prog 76 #[.slice a n cap, .slice aw n cw, .int .i64 tt] W (ISl (trI (edfT l (at0 workJ l) T)) W)) := Lib.hid fun W aw cw hW hw => by
        have h0 := refRun_any l (at0 workJ l) T a aw cap cw W (by omega) hT1 (hr.ext hW) (by rw [← map_rowN]; exact hw)
        rwa [hn, hTT] at h0
      rw [hn] at HA hlen ⊢
      clear hv hal hT hs hr hm hn hTT
      generalize trI (edfT l (at0 workJ l) T) = L at *
      by_cases hgt : 10000 < ticks
      · obtain rfl : tt = 10000 := by omega
        clear htt
        go_enter Tryd.func39, Tryd.ntmps39
        go_wp2_with (go_at_call 18; go_must (with_reducible refine HA.out.mono ?_); rintro e w1 ⟨rfl, h1⟩)
        obtain ⟨wo, hwo⟩ : ∃ wo : World, wo = w1 := ⟨_, rfl⟩
        subst hwo
        have HXO := Lib.hid h1
        clear h1 HA
        go_loopw [5, 6] (fun vv vi wr => ∃ k : Nat, k ≤ n ∧ vi = .int .i64 k ∧ wr.ownsRow wo.heap.size 3 1 vv k (((l.take k).map workJ).map (Value.int .i64)) ∧ Ext wo wr) (fun _ vi _ => n - (intOf vi).toNat)
        case atStart => exact ⟨0, Nat.zero_le _, by go_num, World.ownsRow_nil _ _ _ _, Ext.refl _⟩
        case round =>
          obtain ⟨k, hk, rfl, hown, hx⟩ := hrel
          by_cases hlt : k < n
          · have hkl : k < l.length := by rw [(HO.out).1]; exact hlt
            have hxw : Ext w wr := (HXO.out).trans hx
            obtain ⟨b, off, rfl, hb, hJ⟩ := ((HO.out).2.1.ext hxw).at hkl
            obtain ⟨c0, c1, c2, c3, c4, c5, c6, c7⟩ := hJ k hkl
            have HP := Lib.hid (refWork_any l[k] wr ((HO.out).2.2.1.ext hxw) ((HO.out).2.2.2 _ (List.getElem_mem hkl)))
            have HS := Lib.hid (take_snoc l k hkl)
            have HX := Lib.hid hx
            clear hJ hx hxw
            generalize l[k] = j at *
            obtain ⟨v, hv⟩ : ∃ v, workJ j = v := ⟨_, rfl⟩
            rw [hv] at HP
            have HV := Lib.hid hv
            clear hv
            obtain ⟨nm, rel, dl, bud, act, val, cln, hard⟩ := j
            go_wp2_with (first
              | (go_at_call 22; go_must (with_reducible refine HP.out.mono ?_); rintro e w5 ⟨rfl, h5⟩)
              | (at_builtin; go_must (refine wpList_app1 rtInt wo.heap.size (own_ext hown h5) rfl (.tmp 22) (.tmp 28) rfl rfl [.int .i64 v] _ rfl (by simp) rfl (by simp [Value.oneCell']) (by omega) (by decide) (by have := (HX.out).size; have := h5.size; omega) _ ?_); intro v6 w6 hown6 hB6 hg6))
            go_roundw
            case rel => exact ⟨k + 1, by omega, by go_num, by rw [HS.out]; simpa [HV.out] using hown6, Below.trans ((HX.out).trans h5) hB6⟩
            case measure => simp [intOf]; omega
          · obtain rfl : k = n := by omega
            have hkl := (HO.out).1
            have hxw := (HXO.out).trans hx
            rw [← hkl, List.take_length] at hown
            obtain ⟨aw, cw, rfl, hw⟩ := own_erow (l := l.map workJ) (by simpa using hown)
            rw [show (l.map workJ).length = k by rw [List.length_map]; exact hkl]
            have HR2 := Lib.hid (HR.out wr aw cw hxw hw)
            clear hown hw hx hkl HR
            have HXW := Lib.hid hxw
            clear hxw
            go_wp2_with (go_at_call 76; go_must (with_reducible refine HR2.out.mono ?_); intro e w7 h7; obtain ⟨a7, c7, rfl, hi7, h7, hc7, ho7⟩ := h7)
            go_ret
            exact ⟨a7, c7, rfl, hi7, (HXW.out).trans h7, hc7, ho7⟩
      · obtain rfl : tt = ticks := by omega
        clear htt
        go_enter Tryd.func39, Tryd.ntmps39
        go_wp2_with (go_at_call 18; go_must (with_reducible refine HA.out.mono ?_); rintro e w1 ⟨rfl, h1⟩)
        obtain ⟨wo, hwo⟩ : ∃ wo : World, wo = w1 := ⟨_, rfl⟩
        subst hwo
        have HXO := Lib.hid h1
        clear h1 HA
        go_loopw [5, 6] (fun vv vi wr => ∃ k : Nat, k ≤ n ∧ vi = .int .i64 k ∧ wr.ownsRow wo.heap.size 3 1 vv k (((l.take k).map workJ).map (Value.int .i64)) ∧ Ext wo wr) (fun _ vi _ => n - (intOf vi).toNat)
        case atStart => exact ⟨0, Nat.zero_le _, by go_num, World.ownsRow_nil _ _ _ _, Ext.refl _⟩
        case round =>
          obtain ⟨k, hk, rfl, hown, hx⟩ := hrel
          by_cases hlt : k < n
          · have hkl : k < l.length := by rw [(HO.out).1]; exact hlt
            have hxw : Ext w wr := (HXO.out).trans hx
            obtain ⟨b, off, rfl, hb, hJ⟩ := ((HO.out).2.1.ext hxw).at hkl
            obtain ⟨c0, c1, c2, c3, c4, c5, c6, c7⟩ := hJ k hkl
            have HP := Lib.hid (refWork_any l[k] wr ((HO.out).2.2.1.ext hxw) ((HO.out).2.2.2 _ (List.getElem_mem hkl)))
            have HS := Lib.hid (take_snoc l k hkl)
            have HX := Lib.hid hx
            clear hJ hx hxw
            generalize l[k] = j at *
            obtain ⟨v, hv⟩ : ∃ v, workJ j = v := ⟨_, rfl⟩
            rw [hv] at HP
            have HV := Lib.hid hv
            clear hv
            obtain ⟨nm, rel, dl, bud, act, val, cln, hard⟩ := j
            go_wp2_with (first
              | (go_at_call 22; go_must (with_reducible refine HP.out.mono ?_); rintro e w5 ⟨rfl, h5⟩)
              | (at_builtin; go_must (refine wpList_app1 rtInt wo.heap.size (own_ext hown h5) rfl (.tmp 22) (.tmp 28) rfl rfl [.int .i64 v] _ rfl (by simp) rfl (by simp [Value.oneCell']) (by omega) (by decide) (by have := (HX.out).size; have := h5.size; omega) _ ?_); intro v6 w6 hown6 hB6 hg6))
            go_roundw
            case rel => exact ⟨k + 1, by omega, by go_num, by rw [HS.out]; simpa [HV.out] using hown6, Below.trans ((HX.out).trans h5) hB6⟩
            case measure => simp [intOf]; omega
          · obtain rfl : k = n := by omega
            have hkl := (HO.out).1
            have hxw := (HXO.out).trans hx
            rw [← hkl, List.take_length] at hown
            obtain ⟨aw, cw, rfl, hw⟩ := own_erow (l := l.map workJ) (by simpa using hown)
            rw [show (l.map workJ).length = k by rw [List.length_map]; exact hkl]
            have HR2 := Lib.hid (HR.out wr aw cw hxw hw)
            clear hown hw hx hkl HR
            have HXW := Lib.hid hxw
            clear hxw
            go_wp2_with (go_at_call 76; go_must (with_reducible refine HR2.out.mono ?_); intro e w7 h7; obtain ⟨a7, c7, rfl, hi7, h7, hc7, ho7⟩ := h7)
            go_ret
            exact ⟨a7, c7, rfl, hi7, (HXW.out).trans h7, hc7, ho7⟩
    · have hv : runV l ticks = [] := by unfold runV; rw [if_neg (fun h => ht h.2)]
      rw [hv]
      have ht' : ticks < 0 := by omega
      clear hv hal hT hs hr hm ht
      go_enter Tryd.func39, Tryd.ntmps39
      go_wp2_with (go_at_call 18; go_must (with_reducible refine HA.out.mono ?_); rintro e w1 ⟨rfl, h1⟩)
      go_ret
      exact ISl.nil h1
end Go.Proofs.YtnnmakkbnfckmaaDoor
