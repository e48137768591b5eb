/- Walks: trace.DoneAt, trace.Good. -/
import Derived.Test.YtnnmakkbnfckmaaDoorGL
import Derived.Test.YtnnmakkbnfckmaaDoorGP
namespace Go.Proofs.YtnnmakkbnfckmaaDoor
open Go.RowKit

/-- What DoneAt tells. -/
def doneV (o : Option Nat) : Value := match o with | some k => .tuple #[.int .i64 ((k : Int) + 1), .bool true] | none => .tuple #[.int .i64 0, .bool false]
theorem doneK_none {t : List Int} {i w : Int} (h : ∀ k, k < t.length → ((t.take (k + 1)).count i : Int) ≠ w) : doneK t i w = none := by
  unfold doneK
  rw [List.find?_eq_none]
  intro k hk
  have := h k (List.mem_range.1 hk)
  simpa using this
theorem doneK_first {t : List Int} {i w : Int} {k : Nat} (hk : k < t.length) (h1 : ((t.take (k + 1)).count i : Int) = w) (h2 : ∀ m, m < k → ((t.take (m + 1)).count i : Int) ≠ w) : doneK t i w = some k := by
  unfold doneK
  rw [List.find?_eq_some_iff_getElem]
  refine ⟨by simpa using h1, k, by simpa using hk, by simp, fun j hj => ?_⟩
  have := h2 j hj
  simpa using this
set_option maxRecDepth 100000 in
set_option maxHeartbeats 8000000 in
theorem doneAt_any (l : List J) (t : List Int) (i : Nat) (a b : Option Addr) (cap cb : Nat) (w : World) (hT : Tabs w) (hs : ∀ j ∈ l, j.ok) (hr : JRow w a l) (ht : IRow w b t) (hal : allB l = true) (hi : i < l.length) (htl : t.length ≤ 10000) :
    Calls Tryd.prog 43 #[.slice a l.length cap, .slice b t.length cb, .int .i64 i] w fun e w' => e = .returned (doneV (doneK t i (at0 workJ l i))) ∧ Ext w w' := by
  obtain ⟨hlen, hg⟩ := allB_all hal
  have g := goodJ_of hg hi
  have HA := Lib.hid (all_any l a cap w (by unfold bigS; omega) (NameC.of hT) hs hr)
  rw [hal] at HA
  have hw1 := g.wrk; have hw2 := g.le; have hw3 := g.chg
  have hwe := at0_eq workJ l hi
  have HWK : Hid (∀ W, Ext w W → Calls Tryd.prog 21 #[l[i].agg] W fun e w' => e = .returned (.int .i64 (at0 workJ l i)) ∧ Ext W w') := Lib.hid fun W h => by rw [hwe]; exact work_any _ W (NameC.of (hT.ext h)) (hs _ (List.getElem_mem hi))
  obtain ⟨n, hn⟩ : ∃ n, l.length = n := ⟨_, rfl⟩
  obtain ⟨bj, oj, rfl, hbj, hJ⟩ := hr.at hi
  have HJ := Lib.hid (And.intro hbj (hJ i hi))
  have hin : i < n := by omega
  rw [hn] at HA hlen ⊢
  generalize at0 workJ l i = wk at *
  clear g hwe hJ hal hg hs hr hn hT
  generalize l[i] = j at HJ HWK
  have hiz : (i : Int) < (n : Int) := by omega
  have hnb : decide ((n : Int) ≤ (i : Int)) = false := decide_eq_false (by omega)
  have hnb2 : decide (n ≤ i) = false := decide_eq_false (by omega)
  obtain ⟨nm, rel, dl, bud, act, val, cln, hard⟩ := j
  have HT := Lib.hid ht
  clear ht hi hbj
  go_enter Tryd.func43, Tryd.ntmps43
  go_wp2_with fail
  refine HA.out.mono ?_
  rintro e w1 ⟨rfl, h1⟩
  obtain ⟨c0, c1, c2, c3, c4, c5, c6, c7⟩ := (HJ.out).2.ext h1 (HJ.out).1
  have HX1 := Lib.hid h1
  clear h1
  go_wp2_with (go_at_call 21; go_must (with_reducible refine (HWK.out _ HX1.out).mono ?_); rintro e w2 ⟨rfl, h2⟩)
  have HX2 := Lib.hid ((HX1.out).trans h2)
  clear h2 c0 c1 c2 c3 c4 c5 c6 c7
  obtain ⟨wo, hwo⟩ : ∃ wo : World, wo = w2 := ⟨_, rfl⟩
  subst hwo
  go_loopw [8, 31] (fun v8 v31 wr => ∃ k : Nat, k ≤ t.length ∧ v31 = .int .i64 k ∧ v8 = .int .i64 (wk - ((t.take k).count (i : Int) : Nat)) ∧ Ext wo wr ∧ Hid (∀ m, m < k → ((t.take (m + 1)).count (i : Int) : Int) ≠ wk) ∧ ((t.take k).count (i : Int) : Int) < wk) (fun _ v31 _ => t.length - (intOf v31).toNat)
  case atStart => exact ⟨0, Nat.zero_le _, by go_num, by simp, Ext.refl _, (show ∀ m, m < 0 → _ from fun m h => absurd h (Nat.not_lt_zero _)), by simp; omega⟩
  case round =>
    obtain ⟨k, hk, rfl, rfl, hx, HN, hlt0⟩ := hrel
    have hcq : (t.take k).count (i : Int) ≤ k := Nat.le_trans List.count_le_length (List.length_take_le _ _)
    by_cases hlt : k < t.length
    · obtain ⟨b1, o1, rfl, hb1, ct⟩ := ((HT.out).ext ((HX2.out).trans hx)) k hlt
      have HS := Lib.hid (count_snoc t k hlt (i : Int))
      have HX := Lib.hid hx
      clear hx
      generalize hcc : (t.take k).count (i : Int) = cc at *
      generalize t[k] = x at *
      clear hcc
      by_cases hxi : x = (i : Int)
      · have hxb : (x == (i : Int)) = true := beq_iff_eq.2 hxi
        have HS1 : Hid ((t.take (k + 1)).count (i : Int) = cc + 1) := by show _ = _; rw [HS.out, if_pos hxb]
        clear hxi HS
        by_cases hz : wk - (cc : Int) - 1 = 0
        · have hzb : (wk - (cc : Int) - 1 == 0) = true := beq_iff_eq.2 hz
          have hd : doneK t i wk = some k := doneK_first hlt (by rw [HS1.out]; omega) HN.out
          have HD := Lib.hid hd
          clear hz hd
          go_wp2_with fail
          go_ret2
          exact ⟨by rw [HD.out]; rfl, (HX2.out).trans HX.out⟩
        · have hzb : (wk - (cc : Int) - 1 == 0) = false := beq_eq_false_iff_ne.2 hz
          go_wp2_with fail
          go_roundw
          case rel =>
            refine ⟨k + 1, by omega, by go_num, by rw [HS1.out]; congr 1; omega, HX.out, ?_, by rw [HS1.out]; omega⟩
            show ∀ m, m < k + 1 → _
            intro m hm
            by_cases e : m = k
            · subst e; rw [HS1.out]; omega
            · exact HN.out m (by omega)
          case measure => simp [intOf]; omega
      · have hxb : (x == (i : Int)) = false := beq_eq_false_iff_ne.2 hxi
        have HS1 : Hid ((t.take (k + 1)).count (i : Int) = cc) := by show _ = _; rw [HS.out, if_neg (by simp [hxb])]; rfl
        clear hxi HS
        have hzb : (wk - (cc : Int) == 0) = false := beq_eq_false_iff_ne.2 (by omega)
        go_wp2_with fail
        go_roundw
        case rel =>
          refine ⟨k + 1, by omega, by go_num, by rw [HS1.out], HX.out, ?_, by rw [HS1.out]; omega⟩
          show ∀ m, m < k + 1 → _
          intro m hm
          by_cases e : m = k
          · subst e; rw [HS1.out]; omega
          · exact HN.out m (by omega)
        case measure => simp [intOf]; omega
    · obtain rfl : k = t.length := by omega
      have hd : doneK t i wk = none := doneK_none HN.out
      have HD := Lib.hid hd
      clear hd
      go_wp2_with fail
      go_ret2
      exact ⟨by rw [HD.out]; rfl, (HX2.out).trans hx⟩

/-- May that tick of a trace be? -/
def okAt (l : List J) (t : List Int) (k : Nat) (x : Int) : Bool := x == -1 || (decide (0 ≤ x) && (decide (x < l.length) && (decide (at0 J.rel l x.toNat ≤ k) && (decide ((k : Int) < at0 J.dl l x.toNat) && decide (((t.take k).count x : Int) < at0 workJ l x.toNat)))))
theorem getD_at (t : List Int) {k : Nat} (h : k < t.length) : t.getD k 0 = t[k] := by simp [List.getD, h]
def goodT (l : List J) (t : List Int) : Bool := allB l && (decide (t.length ≤ 10000) && (List.range t.length).all fun k => okAt l t k (t.getD k 0))
theorem goodT_false {l : List J} {t : List Int} {k : Nat} (hk : k < t.length) (h : okAt l t k t[k] = false) : goodT l t = false := by
  unfold goodT
  rw [Bool.and_eq_false_iff, Bool.and_eq_false_iff]
  refine .inr (.inr (List.all_eq_false.2 ⟨k, List.mem_range.2 hk, ?_⟩))
  rw [getD_at t hk, h]; simp
abbrev cntI (t : List Int) (i : Nat) : Int := (t.count (i : Int) : Int)
theorem cntI_snoc (t : List Int) (k : Nat) (h : k < t.length) (i n : Nat) (hx : t[k] = (i : Int)) : rowN (cntI (t.take (k + 1))) n = rowN (upd (cntI (t.take k)) i (cntI (t.take k) i + 1)) n := by
  refine List.map_congr_left fun j _ => ?_
  show ((t.take (k + 1)).count (j : Int) : Int) = if j = i then cntI (t.take k) i + 1 else cntI (t.take k) j
  rw [count_snoc t k h, hx]
  by_cases e : j = i
  · subst e; simp [cntI]
  · have e' : ¬ (i : Int) = (j : Int) := by omega
    simp [cntI, e, e']
theorem cntI_none (t : List Int) (k : Nat) (h : k < t.length) (n : Nat) (hx : t[k] = -1) : rowN (cntI (t.take (k + 1))) n = rowN (cntI (t.take k)) n := by
  refine List.map_congr_left fun j _ => ?_
  show ((t.take (k + 1)).count (j : Int) : Int) = ((t.take k).count (j : Int) : Int)
  rw [count_snoc t k h, hx]
  have e' : ¬ (-1 : Int) = (j : Int) := by omega
  simp [e']
set_option maxRecDepth 100000 in
set_option maxHeartbeats 16000000 in
theorem traceGood_any (l : List J) (t : List Int) (a b : Option Addr) (cap cb : Nat) (w : World) (hm : l.length ≤ bigS) (hmt : t.length ≤ bigS) (hT : Tabs w) (hs : ∀ j ∈ l, j.ok) (hr : JRow w a l) (ht : IRow w b t) :
    Calls Tryd.prog 42 #[.slice a l.length cap, .slice b t.length cb] w fun e w' => e = .returned (.bool (goodT l t)) ∧ Ext w w' := by
  have mixed : Tryd.prog.follows .mixedOrders = true := by kernel_rfl
  have HA := Lib.hid (all_any l a cap w hm (NameC.of hT) hs hr)
  unfold bigS at hmt
  cases hal : allB l with
  | false =>
    have hv : goodT l t = false := by unfold goodT; rw [hal]; rfl
    rw [hv]
    rw [hal] at HA
    clear hv hal hT hs hr hm ht
    go_enter Tryd.func42, Tryd.ntmps42
    go_wp2_with (go_at_call 17; go_must (with_reducible refine HA.out.mono ?_); rintro e w1 ⟨rfl, h1⟩)
    go_ret
    exact ⟨rfl, h1⟩
  | true =>
    rw [hal] at HA
    by_cases htl : 10000 < t.length
    · have hv : goodT l t = false := by unfold goodT; rw [hal, decide_eq_false (by omega)]; rfl
      rw [hv]
      have htl' : (10000 : Int) < (t.length : Int) := by omega
      clear hv hal hT hs hr hm ht
      go_enter Tryd.func42, Tryd.ntmps42
      go_wp2_with (go_at_call 17; go_must (with_reducible refine HA.out.mono ?_); rintro e w1 ⟨rfl, h1⟩)
      go_ret
      exact ⟨rfl, h1⟩
    · obtain ⟨hlen, hg⟩ := allB_all hal
      have htl' : (t.length : Int) ≤ 10000 := by omega
      obtain ⟨n, hn⟩ : ∃ n, l.length = n := ⟨_, rfl⟩
      have HO := Lib.hid (And.intro hn (And.intro hr (And.intro ht (And.intro hT (And.intro hs (And.intro hg hal))))))
      rw [hn] at HA hlen ⊢
      clear hn hr ht hT hs hg hal hm
      have hmk := fun W => run_make1 rtInt rfl n (by omega) (by decide) W
      go_enter Tryd.func42, Tryd.ntmps42
      go_wp2_with (go_at_call 17; go_must (with_reducible refine HA.out.mono ?_); rintro e w1 ⟨rfl, h1⟩)
      have hI0 := iarr_new w1 n
      simp only [List.toArray_replicate] at hI0
      have hx0 := h1.trans (Ext.new w1 (.cells (Array.replicate n (Value.int .i64 0)) 3))
      have hs0 : w1.heap.size < (w1.alloc (.cells (Array.replicate n (Value.int .i64 0)) 3)).heap.size := by simp
      have hw1 := h1.size
      generalize w1.alloc (.cells (Array.replicate n (Value.int .i64 0)) 3) = wo at *
      generalize w1.heap.size = Br at *
      have HX := Lib.hid hx0
      clear hx0 h1
      go_loopw [21] (fun v21 wr => ∃ k : Nat, k ≤ t.length ∧ v21 = .int .i64 k ∧ IArr wr Br (rowN (cntI (t.take k)) n) ∧ Aside (Kp [Br] wo wr) ∧ Hid (∀ m, m < k → okAt l t m (t.getD m 0) = true)) (fun v21 _ => t.length - (intOf v21).toNat)
      case atStart => exact ⟨0, Nat.zero_le _, by go_num, by have e : rowN (cntI (t.take 0)) n = rowN (fun _ => 0) n := (List.map_congr_left fun j _ => by simp [cntI]); rw [e]; exact hI0, Kp.refl _ _, (show ∀ m, m < 0 → _ from fun m h => absurd h (Nat.not_lt_zero _))⟩
      case round =>
        obtain ⟨k, hk, rfl, hI, HK, HN⟩ := hrel
        have hxw : Ext w wr := (((HX.out).kp [Br]).trans HK.out).below (Nat.le_refl _) (by simpa using hw1)
        by_cases hlt : k < t.length
        · obtain ⟨b1, o1, rfl, hb1, ct⟩ := ((HO.out).2.2.1.ext hxw) k hlt
          obtain ⟨x, hx⟩ : ∃ x, t[k] = x := ⟨_, rfl⟩
          rw [hx] at ct
          have HXE := Lib.hid hx
          have hgd : t.getD k 0 = x := by rw [getD_at t hlt, hx]
          have HGD := Lib.hid hgd
          have HXW := Lib.hid hxw
          clear hx hgd hxw
          by_cases hx1 : x = -1
          · have hxb : (x == -1) = true := beq_iff_eq.2 hx1
            have HIn : Hid (rowN (cntI (t.take (k + 1))) n = rowN (cntI (t.take k)) n) := cntI_none t k hlt n (by rw [HXE.out, hx1])
            have HOK : Hid (okAt l t k x = true) := by show okAt l t k x = true; unfold okAt; rw [hxb]; rfl
            clear hx1
            go_wp2_with fail
            go_roundw
            case rel =>
              refine ⟨k + 1, by omega, by go_num, by rw [HIn.out]; exact hI, HK, ?_⟩
              show ∀ m, m < k + 1 → _
              intro m hm
              by_cases e : m = k
              · subst e; rw [HGD.out]; exact HOK.out
              · exact HN.out m (by omega)
            case measure => simp [intOf]; omega
          · have hxb : (x == -1) = false := beq_eq_false_iff_ne.2 hx1
            by_cases hx0 : x < 0
            · have HWK : Hid (∀ W : World, Ext wr W → True) := fun _ _ => trivial
              have hokF : okAt l t k t[k] = false := by rw [HXE.out]; unfold okAt; rw [hxb, decide_eq_false (by omega)]; rfl
              clear hx1
              have hoF := Lib.hid (goodT_false hlt hokF)
              clear hokF
              go_wp2_with fail
              go_quiet (fail)
              go_wp2_with fail
              go_ret
              exact ⟨by rw [hoF.out]; rfl, (HXW.out).drewN _⟩
            · have hx0b : decide (x < 0) = false := decide_eq_false hx0
              have hx0' : 0 ≤ x := by omega
              by_cases hxn : (n : Int) ≤ x
              · have hokF : okAt l t k t[k] = false := by rw [HXE.out]; unfold okAt; rw [hxb, (HO.out).1, decide_eq_true hx0', decide_eq_false (by omega)]; rfl
                clear hx1
                have hoF := Lib.hid (goodT_false hlt hokF)
                clear hokF
                go_wp2_with fail
                go_quiet (fail)
                go_wp2_with fail
                go_ret
                exact ⟨by rw [hoF.out]; rfl, (HXW.out).drewN _⟩
              · have hxnb : decide ((n : Int) ≤ x) = false := decide_eq_false hxn
                obtain ⟨i, rfl⟩ := Int.eq_ofNat_of_zero_le hx0'
                have hin : i < n := by omega
                have hil : i < l.length := by rw [(HO.out).1]; exact hin
                obtain ⟨bj, oj, rfl, hbj, hJ⟩ := ((HO.out).2.1.ext (HXW.out)).at hil
                have hJi := hJ i hil
                have hjo := (HO.out).2.2.2.2.1 _ (List.getElem_mem hil)
                have hwe := at0_eq workJ l hil
                have hre := at0_eq J.rel l hil
                have hde := at0_eq J.dl l hil
                have HWK : Hid (∀ W, Ext wr W → Calls Tryd.prog 21 #[l[i].agg] W fun e w' => e = .returned (.int .i64 (at0 workJ l i)) ∧ Ext W w') := Lib.hid fun W h => by rw [hwe]; exact work_any _ W (NameC.of ((HO.out).2.2.2.1.ext ((HXW.out).trans h))) hjo
                have q0 := hI.cell (i := i) (by simpa using hin)
                simp only [List.getElem_map, List.getElem_range] at q0
                have g := goodJ_of (HO.out).2.2.2.2.2.1 hil
                have hwb := g.chg
                have hwb2 := g.le
                have hok : okAt l t k t[k] = (decide (at0 J.rel l i ≤ k) && (decide ((k : Int) < at0 J.dl l i) && decide (cntI (t.take k) i < at0 workJ l i))) := by
                  rw [HXE.out]; unfold okAt
                  rw [hxb, decide_eq_true hx0', (HO.out).1, decide_eq_true (show ((i : Nat) : Int) < (n : Int) by omega), Int.toNat_natCast]
                  simp [cntI]
                have HOKE := Lib.hid hok
                rw [hre, hde] at hok
                clear hx1 hx0 hxn hJ hjo hwe g hwb hwb2
                have hcb : cntI (t.take k) i ≤ 10000 := by
                  have h1 : (t.take k).count (i : Int) ≤ k := Nat.le_trans List.count_le_length (List.length_take_le _ _)
                  show ((t.take k).count (i : Int) : Int) ≤ _
                  omega
                have hcb0 : 0 ≤ cntI (t.take k) i := by show (0 : Int) ≤ ((t.take k).count (i : Int) : Int); omega
                obtain ⟨cn, hcn⟩ : ∃ cn, cntI (t.take k) i = cn := ⟨_, rfl⟩
                obtain ⟨wk, hwk⟩ : ∃ wk, at0 workJ l i = wk := ⟨_, rfl⟩
                rw [hcn] at q0 hcb hcb0
                have HCN := Lib.hid (And.intro hcn (And.intro hwk (And.intro hre hde)))
                rw [hwk] at HWK
                clear hcn hwk hre hde
                generalize l[i] = j at *
                obtain ⟨nm, rel, dl, bud, act, val, cln, hard⟩ := j
                obtain ⟨c0, c1, c2, c3, c4, c5, c6, c7⟩ := hJi
                have hiz : (i : Int) < (n : Int) := by omega
                have hinb : decide (n ≤ i) = false := decide_eq_false (by omega)
                have hBr := hI.lt
                by_cases hrl : (k : Int) < rel
                · have hokF : okAt l t k t[k] = false := by rw [hok, decide_eq_false (show ¬ rel ≤ (k : Int) by omega)]; rfl
                  clear hok
                  have hoF := Lib.hid (goodT_false hlt hokF)
                  clear hokF
                  go_wp2_with fail
                  go_quiet (fail)
                  go_wp2_with fail
                  go_ret
                  exact ⟨by rw [hoF.out]; rfl, (HXW.out).drewN _⟩
                · have hrl1 : decide ((k : Int) < rel) = false := decide_eq_false hrl
                  have hrl2 : rel ≤ (k : Int) := by omega
                  by_cases hdl : dl ≤ (k : Int)
                  · have hokF : okAt l t k t[k] = false := by rw [hok, decide_eq_false (show ¬ (k : Int) < dl by omega)]; simp
                    clear hok
                    have hoF := Lib.hid (goodT_false hlt hokF)
                    clear hokF
                    go_wp2_with fail
                    go_quiet (fail)
                    go_wp2_with fail
                    go_ret
                    exact ⟨by rw [hoF.out]; rfl, (HXW.out).drewN _⟩
                  · have hdl1 : decide (dl ≤ (k : Int)) = false := decide_eq_false hdl
                    have hdl2 : (k : Int) < dl := by omega
                    by_cases hwc : wk ≤ cn
                    · have hokF : okAt l t k t[k] = false := by rw [hok, (HCN.out).1, (HCN.out).2.1, decide_eq_false (show ¬ cn < wk by omega)]; simp
                      clear hok
                      have hoF := Lib.hid (goodT_false hlt hokF)
                      clear hokF
                      go_wp2_with fail
                      have hzl : ∀ (z : Later wr) (b' o : Nat), b' < wr.heap.size → z.val.cell? ⟨b', o, none⟩ = wr.cell? ⟨b', o, none⟩ := fun z b' o h => z.property.cell h
                      have hnel : Nonempty (Later wr) := ⟨⟨wr, Ext.refl _⟩⟩
                      refine wp_region_later (by kernel_rfl) (by kernel_rfl) ?_
                      repeat (refine wpQuiet_step (fun K hK => ?_); go_simp; first | (refine hK _ ?_; clear hK K) | (apply Exists.intro; refine ⟨fun _ => ?_, hK _ ?_⟩; (first | (go_at_call 21; exact Calls.later (HWK.out _ (Subtype.property _)))); clear hK K))
                      refine wpQuiet_nil ?_
                      intro _ hw'
                      obtain ⟨zq, hw''⟩ := hw'
                      subst hw''
                      clear hzl hnel
                      go_wp2_with fail
                      go_ret
                      exact ⟨by rw [hoF.out]; rfl, (HXW.out).trans zq.property⟩
                    · have hwc1 : decide (wk ≤ cn) = false := decide_eq_false hwc
                      have hwc2 : cn < wk := by omega
                      have hokT : okAt l t k (i : Int) = true := by rw [← HXE.out, hok, (HCN.out).1, (HCN.out).2.1, decide_eq_true hrl2, decide_eq_true hdl2, decide_eq_true hwc2]; rfl
                      clear hok
                      have HOKT := Lib.hid hokT
                      clear hokT
                      go_wp2_with fail
                      have hzl : ∀ (z : Later wr) (b' o : Nat), b' < wr.heap.size → z.val.cell? ⟨b', o, none⟩ = wr.cell? ⟨b', o, none⟩ := fun z b' o h => z.property.cell h
                      have hnel : Nonempty (Later wr) := ⟨⟨wr, Ext.refl _⟩⟩
                      refine wp_region_later (by kernel_rfl) (by kernel_rfl) ?_
                      repeat (refine wpQuiet_step (fun K hK => ?_); go_simp; first | (refine hK _ ?_; clear hK K) | (apply Exists.intro; refine ⟨fun _ => ?_, hK _ ?_⟩; (first | (go_at_call 21; exact Calls.later (HWK.out _ (Subtype.property _)))); clear hK K))
                      refine wpQuiet_nil ?_
                      intro _ hw'
                      obtain ⟨zq, hw''⟩ := hw'
                      subst hw''
                      clear hzl hnel
                      have HIz := Lib.hid (hI.ext zq.property)
                      have q1 := (zq.property.cell hBr (o := i)).trans q0
                      have q2 := (HIz.out).frozen i
                      have HKz := Lib.hid ((HK.out).ext zq.property)
                      clear q0 c0 c1 c2 c3 c4 c5 c6 c7 hI HK ct hBr
                      generalize zq.val = wz at *
                      have HI2 : Hid (IArr (wz.setCell ⟨Br, i, none⟩ (.int .i64 (cn + 1))) Br (rowN (cntI (t.take (k + 1))) n)) := by
                        have h1 := (HIz.out).set (i := i) (by simpa using hin) (cn + 1)
                        rw [rowN_set, ← (HCN.out).1, ← cntI_snoc t k hlt i n HXE.out] at h1
                        rw [← (HCN.out).1]
                        exact h1
                      have HK2 := Lib.hid ((HKz.out).setCell (p := ⟨Br, i, none⟩) (by simp) (.int .i64 (cn + 1)))
                      go_wp2_with fail
                      go_roundw
                      case rel =>
                        refine ⟨k + 1, by omega, by go_num, HI2.out, HK2.out, ?_⟩
                        show ∀ m, m < k + 1 → _
                        intro m hm
                        by_cases e : m = k
                        · subst e; rw [HGD.out]; exact HOKT.out
                        · exact HN.out m (by omega)
                      case measure => simp [intOf]; omega
        · obtain rfl : k = t.length := by omega
          have hv : goodT l t = true := by
            unfold goodT
            rw [(HO.out).2.2.2.2.2.2, decide_eq_true (by omega), List.all_eq_true.2 fun m hm => HN.out m (List.mem_range.1 hm)]; rfl
          have HV := Lib.hid hv
          clear hv
          go_wp2_with fail
          go_ret
          exact ⟨by rw [HV.out]; rfl, hxw⟩
end Go.Proofs.YtnnmakkbnfckmaaDoor
