/- Walks: chapter 10's own answer: first, run. -/
import Derived.Test.YtnnmakkbnfckmaaDoorL7
namespace Go.Proofs.YtnnmakkbnfckmaaDoor
open Go.RowKit

set_option maxRecDepth 100000 in
set_option maxHeartbeats 8000000 in
theorem first_any (l : List J) (p : Nat → Bool) (a am : Option Addr) (cap cm : Nat) (w : World) (hm : l.length ≤ 1000000) (hr : JRow w a l) (hp : BRow w am (rowN p l.length)) :
    Calls Tryd.prog 89 #[.slice a l.length cap, .slice am l.length cm] w fun e w' => e = .returned (.int .i64 (idxI (pick l p))) ∧ Ext w w' := by
  have mixed : Tryd.prog.follows .mixedOrders = true := by kernel_rfl
  rw [← firstB_eq]
  obtain ⟨n, hn⟩ : ∃ n, l.length = n := ⟨_, rfl⟩
  have HO := Lib.hid (And.intro hn (And.intro hr hp))
  rw [hn] at hm ⊢
  clear hn hr hp
  go_enter Tryd.func89, Tryd.ntmps89
  go_wp2_with fail
  go_loopw [5, 6] (fun v5 v6 wr => ∃ k : Nat, k ≤ n ∧ v6 = .int .i64 k ∧ v5 = .int .i64 (idxI (firstB l p k)) ∧ Ext w wr) (fun _ v6 _ => n - (intOf v6).toNat)
  case atStart => exact ⟨0, Nat.zero_le _, by go_num, rfl, Ext.refl _⟩
  case round =>
    obtain ⟨k, hk, rfl, rfl, hx⟩ := hrel
    by_cases hlt : k < n
    · have hkl : k < l.length := by rw [(HO.out).1]; exact hlt
      have hkz : (k : Int) < (n : Int) := by omega
      obtain ⟨b, off, rfl, hb, hJ⟩ := ((HO.out).2.1.ext hx).at hkl
      obtain ⟨bm, om, rfl, hbm, cmx⟩ := ((HO.out).2.2.ext hx) k (by simpa using hkl)
      have cm0 : wr.cell? ⟨bm, om + k, none⟩ = some (.bool (p k)) := by rw [cmx]; simp
      clear cmx
      have ck := (hJ k hkl).c2
      have hkd := at0_eq J.dl l hkl
      obtain ⟨x, hxd⟩ : ∃ x, l[k].dl = x := ⟨_, rfl⟩
      rw [hxd] at ck hkd
      have HS := Lib.hid (firstB_succ l p k)
      have hfl := firstB_lt l p k
      have HX := Lib.hid hx
      clear hxd hx
      cases hpk : p k with
      | false =>
        have hn0 : firstN l p (firstB l p k) k = firstB l p k := by unfold firstN; rw [hpk]; rfl
        rw [hpk] at cm0
        rw [hn0] at HS
        clear hpk hn0 hkd hfl hJ
        generalize firstB l p k = fb at *
        go_wp2_with fail
        go_quiet (fail)
        go_wp2_with fail
        go_roundw
        case rel => exact ⟨k + 1, by omega, by go_num, by rw [HS.out], (HX.out).drewN _⟩
        case measure => simp [intOf]; omega
      | true =>
        rw [hpk] at cm0
        cases hfb : firstB l p k with
        | none =>
          have hn0 : firstN l p (firstB l p k) k = some k := by unfold firstN; rw [hpk, hfb]; rfl
          rw [hn0] at HS
          clear hpk hn0 hkd hfl hJ hfb
          rw [idxI_none]
          go_wp2_with fail
          go_quiet (fail)
          go_wp2_with fail
          go_roundw
          case rel => exact ⟨k + 1, by omega, by go_num, by rw [HS.out, idxI_some], (HX.out).drewN _⟩
          case measure => simp [intOf]; omega
        | some q =>
          have hqk : q < k := hfl q hfb
          have hql : q < l.length := by omega
          have cq := (hJ q hql).c2
          have hqd := at0_eq J.dl l hql
          obtain ⟨y, hyd⟩ : ∃ y, l[q].dl = y := ⟨_, rfl⟩
          rw [hyd] at cq hqd
          have hn0 : firstN l p (firstB l p k) k = if x < y then some k else some q := by unfold firstN; rw [hpk, hfb]; simp only [bettr, hkd, hqd, Bool.true_and, decide_eq_true_eq]
          rw [hn0] at HS
          clear hpk hn0 hkd hfl hJ hfb hqd hyd
          rw [idxI_some]
          have hqz : (q : Int) < (n : Int) := by omega
          have hq0 : decide ((q : Int) < 0) = false := decide_eq_false (by omega)
          by_cases hxy : x < y
          · go_wp2_with fail
            go_quiet (fail)
            go_wp2_with fail
            go_roundw
            case rel => exact ⟨k + 1, by omega, by go_num, by rw [HS.out, if_pos hxy, idxI_some], (HX.out).drewN _⟩
            case measure => simp [intOf]; omega
          · have hxy' : decide (x < y) = false := decide_eq_false hxy
            go_wp2_with fail
            go_quiet (fail)
            go_wp2_with fail
            go_roundw
            case rel => exact ⟨k + 1, by omega, by go_num, by rw [HS.out, if_neg (by omega), idxI_some], (HX.out).drewN _⟩
            case measure => simp [intOf]; omega
    · obtain rfl : k = n := by omega
      go_wp2_with fail
      go_ret
      exact ⟨rfl, hx⟩
end Go.Proofs.YtnnmakkbnfckmaaDoor
