/- Walks: JobOrder. -/
import Derived.Test.YtnnmakkbnfckmaaDoorE0
import Derived.Test.YtnnmakkbnfckmaaDoorC0
import Derived.Maps.Own
import Derived.Maps.OwnOps
import Derived.Maps.Views
import Derived.Maps.OwnSet
namespace Go.Proofs.YtnnmakkbnfckmaaDoor
open Go.RowKit Go.Maps

/-- Behind k rounds the set holds the first k of the row. -/
def SeenIs (r : List Nat) (k : Nat) (D : DataW Unit) : Prop := Maps.IsMap D ∧ ∀ i : Nat, D.atKey (.int .i64 i) (.lit (.bool false)) = .lit (.bool (decide (i ∈ r.take k)))
theorem SeenIs.start (r : List Nat) : SeenIs r 0 (.map []) := ⟨⟨[], rfl⟩, fun i => by simp [DataW.atKey]⟩
theorem SeenIs.step {r : List Nat} {k : Nat} {D : DataW Unit} (h : SeenIs r k D) (hk : k < r.length) : SeenIs r (k + 1) (D.put (.int .i64 (r[k] : Nat)) (.lit (.bool true))) := by
  have ht : ∀ x, x ∈ r.take (k + 1) ↔ x ∈ r.take k ∨ x = r[k] := fun x => by
    rw [List.take_succ_eq_append_getElem hk]
    simp only [List.mem_append, List.mem_singleton]
  refine ⟨h.1.put _ _, fun i => ?_⟩
  by_cases e : i = r[k]
  · subst e
    rw [atKey_put_same h.1 (by simp [WideAt.IsKeyLit]), decide_eq_true ((ht _).2 (Or.inr rfl))]
  · rw [atKey_put_other (by simp; omega), h.2]
    congr 3
    rw [ht, or_iff_left e]

theorem nodup_take {r : List Nat} (h : r.Nodup) {k : Nat} (hk : k < r.length) : r[k] ∉ r.take k := fun hm => by
  obtain ⟨i, hi, e⟩ := List.getElem_of_mem hm
  rw [List.getElem_take] at e
  have hik : i < k := by simp at hi; omega
  have := (List.pairwise_iff_getElem.1 h) i k (by omega) hk hik
  exact this e
theorem work_charge (j : J) : workJ j ≤ chargeJ j ∧ (goodB j = true → 1 ≤ workJ j) := by
  unfold workJ chargeJ
  by_cases h : goodB j = true
  · have hg : 1 ≤ j.bud ∧ 1 ≤ j.act ∧ 0 ≤ j.cln := by
      unfold goodB worksB inB at h; simp at h; omega
    simp only [h]
    by_cases hr : runsB j = true
    · simp only [hr]; unfold runsB at hr; simp at hr; simp; omega
    · simp only [hr]; simp; omega
  · simp [h]

theorem sj8 {wz W : World} {b o : Nat} {nm : ByteArray} {rel dl bud act val cln : Int} {hard : Bool} (h : Ext wz W ∧ W.cell? ⟨b, o, none⟩ = some (.string nm) ∧ W.cell? ⟨b, o + 1, none⟩ = some (.int .i64 rel) ∧ W.cell? ⟨b, o + 2, none⟩ = some (.int .i64 dl) ∧ W.cell? ⟨b, o + 3, none⟩ = some (.int .i64 bud) ∧ W.cell? ⟨b, o + 4, none⟩ = some (.int .i64 act) ∧ W.cell? ⟨b, o + 5, none⟩ = some (.int .i64 val) ∧ W.cell? ⟨b, o + 6, none⟩ = some (.int .i64 cln) ∧ W.cell? ⟨b, o + 7, none⟩ = some (.bool hard)) : Ext wz W := h.1
theorem keep8 {wz W W' : World} {b o : Nat} {nm : ByteArray} {rel dl bud act val cln : Int} {hard : Bool} (hb : b < wz.heap.size) (hE : Ext W W') (h : Ext wz W ∧ W.cell? ⟨b, o, none⟩ = some (.string nm) ∧ W.cell? ⟨b, o + 1, none⟩ = some (.int .i64 rel) ∧ W.cell? ⟨b, o + 2, none⟩ = some (.int .i64 dl) ∧ W.cell? ⟨b, o + 3, none⟩ = some (.int .i64 bud) ∧ W.cell? ⟨b, o + 4, none⟩ = some (.int .i64 act) ∧ W.cell? ⟨b, o + 5, none⟩ = some (.int .i64 val) ∧ W.cell? ⟨b, o + 6, none⟩ = some (.int .i64 cln) ∧ W.cell? ⟨b, o + 7, none⟩ = some (.bool hard)) : Ext wz W' ∧ W'.cell? ⟨b, o, none⟩ = some (.string nm) ∧ W'.cell? ⟨b, o + 1, none⟩ = some (.int .i64 rel) ∧ W'.cell? ⟨b, o + 2, none⟩ = some (.int .i64 dl) ∧ W'.cell? ⟨b, o + 3, none⟩ = some (.int .i64 bud) ∧ W'.cell? ⟨b, o + 4, none⟩ = some (.int .i64 act) ∧ W'.cell? ⟨b, o + 5, none⟩ = some (.int .i64 val) ∧ W'.cell? ⟨b, o + 6, none⟩ = some (.int .i64 cln) ∧ W'.cell? ⟨b, o + 7, none⟩ = some (.bool hard) := by
  obtain ⟨hx, a0, a1, a2, a3, a4, a5, a6, a7⟩ := h
  have q : b < W.heap.size := hx.lt hb
  refine ⟨hx.trans hE, ?_⟩
  simp only [hE.cell q]
  exact ⟨a0, a1, a2, a3, a4, a5, a6, a7⟩
theorem wf_small (p : Nat) (h : p < 1000000) : (Lit.int .i64 (p : Int)).wf = true := by
  have h1 : IntKind.min .i64 = -9223372036854775808 := by decide
  have h2 : IntKind.max .i64 = 9223372036854775807 := by decide
  simp only [Lit.wf, h1, h2, Bool.and_eq_true, decide_eq_true_eq]
  omega
/-- What a map of bools that the call made answers. -/
theorem look_bool {w : World} {b n : Nat} {D : DataW Unit} (h : w.ownsMap Tryd.prog 3 (plainElem Tryd.prog 4) b n D) (p : Nat) (hp : p < 1000000) {c : Bool} (hc : D.atKey (.int .i64 p) (.lit (.bool false)) = .lit (.bool c)) :
    (Instr.lookup 43 (.map (some b)) (.int .i64 p) false).run Tryd.prog w = .ok (.bool c) w := by
  obtain ⟨v, ps, hrun, hv⟩ := h.lookup (int_keyed Tryd.underlying3) Tryd.underlying43 (z := .bool false) (by kernel_rfl) (plainElem_bool Tryd.underlying4 false) (keyOf_int_mk Tryd.underlying3 (wf_small p hp))
  rw [hc] at hv
  have : v = .bool c := by
    unfold plainElem at hv
    simp only [Tryd.underlying4] at hv
    split at hv
    all_goals first | (simp at hv; done) | skip
    all_goals (try split at hv)
    all_goals (first | (simp at hv; done) | (simp at hv; simp [hv]))
  rw [this] at hrun
  exact hrun

set_option maxRecDepth 100000 in
set_option maxHeartbeats 16000000 in
theorem jobOrder_any (l : List J) (a : Option Addr) (cap : Nat) (w : World) (hm : l.length ≤ bigS) (hT : Tabs w) (hs : ∀ j ∈ l, j.ok) (hr : JRow w a l) :
    Calls Tryd.prog 4 #[.slice a l.length cap] w fun e w' => e = .returned (.bool true) ∧ Ext w w' := by
  have mixed : Tryd.prog.follows .mixedOrders = true := by kernel_rfl
  have CA : Hid (∀ W, Ext w W → Calls Tryd.prog 12 #[] W fun e w' => e = .returned (.bool true) ∧ Ext W w') := fun W h => awake8 W (hT.ext h)
  have CH : Hid (∀ W, Ext w W → Calls Tryd.prog 13 #[.slice a l.length cap, .int .i64 40, .int .i64 10000] W fun e w' => e = .returned (.bool (heavyB l 40 10000)) ∧ W = w') := fun W h => heavy_tocsinlaw8 l 40 10000 a cap W hm (hr.ext h)
  cases hv : heavyB l 40 10000 with
  | true =>
    rw [hv] at CH
    clear hv hs hr hT
    go_enter Tryd.func4, Tryd.ntmps4
    go_wp2_with (first
      | (go_at_call 12; go_must (with_reducible refine (CA.out _ (Ext.refl _)).mono ?_); rintro e w1 ⟨rfl, h1⟩)
      | (go_at_call 13; go_must (with_reducible refine (CH.out _ h1).mono ?_); rintro e w2 ⟨rfl, rfl⟩))
    go_ret
    exact ⟨rfl, h1⟩
  | false =>
    have hlen : l.length ≤ 40 := by
      have : (l.length : Int) ≤ 40 := by
        simp only [heavyB, Bool.or_eq_false_iff, decide_eq_false_iff_not] at hv
        omega
      omega
    rw [hv] at CH
    have CB : Hid (∀ W, Ext w W → Calls Tryd.prog 27 #[.slice a l.length cap] W fun e w' => ∃ a' cap', e = .returned (.slice a' l.length cap') ∧ IRow w' a' (nz (byDl l)) ∧ Ext W w') := fun W h => byDeadline_any l a cap W (by omega) (hr.ext h)
    obtain ⟨n, hn⟩ : ∃ n, l.length = n := ⟨_, rfl⟩
    have HO : Hid (Tabs w ∧ (∀ j ∈ l, j.ok) ∧ JRow w a l ∧ l.length = n) := ⟨hT, hs, hr, hn⟩
    obtain ⟨r, hre⟩ : ∃ r, byDl l = r := ⟨_, rfl⟩
    have hrn : r.length = n := by rw [← hre, byDl_length, hn]
    have hrm : ∀ k (h : k < r.length), r[k] < n := fun k h => by
      have h1 : r[k] ∈ byDl l := by rw [hre]; exact List.getElem_mem h
      have := (byDl_mem l).1 h1
      omega
    have hnd : r.Nodup := hre ▸ byDl_nodup l
    have hso : r.Pairwise fun i j => at0 J.dl l i ≤ at0 J.dl l j := hre ▸ byDl_sorted l
    have HR : Hid (r.length = n ∧ (∀ k (h : k < r.length), r[k] < n) ∧ r.Nodup ∧ r.Pairwise fun i j => at0 J.dl l i ≤ at0 J.dl l j) := ⟨hrn, hrm, hnd, hso⟩
    rw [hn] at hlen CH CB ⊢
    rw [hre] at CB
    clear hv hs hr hT hm hn hre hrn hrm hnd hso
    have hmm := @run_makeMap Tryd.prog
    go_enter Tryd.func4, Tryd.ntmps4
    go_wp2_with (first
      | (go_at_call 12; go_must (with_reducible refine (CA.out _ (Ext.refl _)).mono ?_); rintro e w1 ⟨rfl, h1⟩)
      | (go_at_call 13; go_must (with_reducible refine (CH.out _ h1).mono ?_); rintro e w2 ⟨rfl, rfl⟩)
      | (go_at_call 27; go_must (with_reducible refine (CB.out _ h1).mono ?_); rintro e w3 ⟨ar, cr, rfl, hi3, h3⟩))
    clear CA CH CB
    have hx3 := h1.trans h3
    clear h1 h3
    go_loopw [5] (fun v5 wr => ∃ k : Nat, k ≤ n ∧ v5 = .int .i64 k ∧ Ext w3 wr ∧ ∃ D : DataW Unit, wr.ownsMap Tryd.prog 3 (plainElem Tryd.prog 4) w3.heap.size k D ∧ SeenIs r k D) (fun v5 _ => n - (intOf v5).toNat)
    case atStart => exact ⟨0, Nat.zero_le _, rfl, Ext.new _ _, _, World.ownsMap_made _ _ _ _, SeenIs.start r⟩
    case round =>
      obtain ⟨k, hk, rfl, hx, D, hown, hseen⟩ := hrel
      by_cases hlt : k < n
      · have hkr : k < r.length := by rw [(HR.out).1]; exact hlt
        obtain ⟨p, hp⟩ : ∃ p, r[k] = p := ⟨_, rfl⟩
        have hpn : p < n := hp ▸ (HR.out).2.1 k hkr
        have hpl : p < l.length := by rw [(HO.out).2.2.2]; exact hpn
        have hxx := hx3.trans hx
        obtain ⟨b, off, rfl, hb, hJ⟩ := ((HO.out).2.2.1.ext hxx).at hpl
        have cp := (hJ p hpl).c2
        obtain ⟨br, offr, rfl, hbr, hI⟩ : ∃ br offr, ar = some ⟨br, offr, none⟩ ∧ br < wr.heap.size ∧ ∀ i (hi : i < r.length), wr.cell? ⟨br, offr + i, none⟩ = some (.int .i64 (r[i] : Nat)) := by
          obtain ⟨br, offr, rfl, hbr, _⟩ := (hi3.ext hx) k (by simpa using hkr)
          refine ⟨br, offr, rfl, hbr, fun i hi => ?_⟩
          obtain ⟨b', o', e, _, c⟩ := (hi3.ext hx) i (by simpa using hi)
          cases e
          rw [c]; simp
        have ck := hI k hkr
        rw [hp] at ck
        have hlook : ∀ nq, (Instr.lookup 43 (.map (some w3.heap.size)) (.int .i64 p) false).run Tryd.prog (wr.drewN nq) = .ok (.bool false) (wr.drewN nq) := fun nq =>
          look_bool (w := wr.drewN nq) hown p (by omega) (by
            rw [hseen.2, ← hp]
            rw [decide_eq_false (nodup_take (HR.out).2.2.1 hkr)])
        have HP := Lib.hid hp
        have HS := Lib.hid hseen
        have HX := Lib.hid hx
        obtain ⟨x, hxd⟩ : ∃ x, l[p].dl = x := ⟨_, rfl⟩
        rw [hxd] at cp
        have HXD := Lib.hid hxd
        clear hp hseen hx hxd hxx hi3
        have hpb : decide ((p : Int) < 0) = false := decide_eq_false (by omega)
        have hpn' : (p : Int) < (n : Int) := by omega
        have hltz : (k : Int) < (n : Int) := by omega
        by_cases hk0 : k = 0
        · have hkb : decide (0 < k) = false := decide_eq_false (by omega)
          have hnp : decide (n ≤ p) = false := decide_eq_false (by omega)
          clear hI hJ hk0
          go_wp2_with fail
          go_quiet (fail)
          go_wp2_with (at_mapUpdate; refine wpList_mapUpdate_own _ rfl _ _ _ 43 rfl 3 4 (int_keyed Tryd.underlying3) Tryd.underlying43 _ w3.heap.size k _ rfl (show (wr.drewN nq).ownsMap Tryd.prog 3 (plainElem Tryd.prog 4) w3.heap.size k D from hown) (by unfold maxLen; omega) _ _ _ rfl rfl (keyOf_int_mk Tryd.underlying3 (wf_small p (by omega))) _ [] (plainElem_bool Tryd.underlying4 true) ?_; intro w5 hown5 hg5)
          go_roundw
          case rel => exact ⟨k + 1, by omega, by go_num, ((HX.out).drewN nq).grown hg5 ((HX.out).drewN nq).size (fun j hj => by cases hj; exact Nat.le_refl _), _, hown5, by have := (HS.out).step hkr; rwa [HP.out] at this⟩
          case measure => simp [intOf]; omega
        · obtain ⟨m, rfl⟩ : ∃ m, k = m + 1 := ⟨k - 1, by omega⟩
          have hmr : m < r.length := by omega
          obtain ⟨q, hq⟩ : ∃ q, r[m] = q := ⟨_, rfl⟩
          have cm := hI m hmr
          rw [hq] at cm
          have hqn : q < n := hq ▸ (HR.out).2.1 m hmr
          have hql : q < l.length := by rw [(HO.out).2.2.2]; exact hqn
          have cq := (hJ q hql).c2
          obtain ⟨y, hyd⟩ : ∃ y, l[q].dl = y := ⟨_, rfl⟩
          rw [hyd] at cq
          have hyx : y ≤ x := by
            have := List.pairwise_iff_getElem.1 (HR.out).2.2.2 m (m + 1) hmr hkr (by omega)
            rw [HP.out, hq, at0_eq _ _ hql, at0_eq _ _ hpl, hyd, HXD.out] at this
            exact this
          have hyb : decide (x < y) = false := decide_eq_false (by omega)
          have hnp : decide (n ≤ p) = false := decide_eq_false (by omega)
          have hnq : (q : Int) < (n : Int) := by omega
          have hnm : (m : Int) < (n : Int) := by omega
          clear hI hJ hk0 hq hyd
          go_wp2_with fail
          go_quiet (fail)
          go_wp2_with (at_mapUpdate; refine wpList_mapUpdate_own _ rfl _ _ _ 43 rfl 3 4 (int_keyed Tryd.underlying3) Tryd.underlying43 _ w3.heap.size (m + 1) _ rfl (show (wr.drewN nq).ownsMap Tryd.prog 3 (plainElem Tryd.prog 4) w3.heap.size (m + 1) D from hown) (by unfold maxLen; omega) _ _ _ rfl rfl (keyOf_int_mk Tryd.underlying3 (wf_small p (by omega))) _ [] (plainElem_bool Tryd.underlying4 true) ?_; intro w5 hown5 hg5)
          go_roundw
          case rel => exact ⟨m + 1 + 1, by omega, by go_num, ((HX.out).drewN nq).grown hg5 ((HX.out).drewN nq).size (fun j hj => by cases hj; exact Nat.le_refl _), _, hown5, by have := (HS.out).step hkr; rwa [HP.out] at this⟩
          case measure => simp [intOf]; omega
      · obtain rfl : k = n := by omega
        have hxx := hx3.trans hx
        clear hown hseen hi3
        obtain ⟨wo, hwo⟩ : ∃ wo : World, wo = wr := ⟨_, rfl⟩
        subst hwo
        go_wp2_with fail
        go_loopw [7] (fun v7 wr => ∃ m : Nat, m ≤ k ∧ v7 = .int .i64 m ∧ Ext wo wr) (fun v7 _ => k - (intOf v7).toNat)
        case atStart => exact ⟨0, Nat.zero_le _, by go_num, Ext.refl _⟩
        case round =>
          obtain ⟨m, hm, rfl, hq⟩ := hrel
          by_cases hmk : m < k
          · have hml : m < l.length := by rw [(HO.out).2.2.2]; exact hmk
            have hxq := hxx.trans hq
            obtain ⟨b, off, rfl, hb, hJ⟩ := ((HO.out).2.2.1.ext hxq).at hml
            have hJm := hJ m hml
            have hjo : l[m].ok := (HO.out).2.1 _ (List.getElem_mem hml)
            clear hJ
            generalize l[m] = j at hJm hjo
            clear hml
            obtain ⟨wc1, wc2⟩ := work_charge j
            have HB := Lib.hid hb
            have HX := Lib.hid (And.intro hxq hq)
            have G1 : Hid (∀ W, Ext wr W → Calls Tryd.prog 21 #[j.agg] W fun e w' => e = .returned (.int .i64 (workJ j)) ∧ Ext W w') := Lib.hid fun W h => work_any _ W (NameC.of ((HO.out).1.ext (hxq.trans h))) hjo
            have G2 : Hid (∀ W, Ext wr W → Calls Tryd.prog 19 #[j.agg] W fun e w' => e = .returned (.int .i64 (chargeJ j)) ∧ Ext W w') := Lib.hid fun W h => charge_any _ W (NameC.of ((HO.out).1.ext (hxq.trans h))) hjo
            have G3 : Hid (∀ W, Ext wr W → Calls Tryd.prog 15 #[j.agg] W fun e w' => e = .returned (.bool (goodB j)) ∧ Ext W w') := Lib.hid fun W h => good_any _ W (NameC.of ((HO.out).1.ext (hxq.trans h))) hjo
            clear hxq hq hb hjo hxx hx
            obtain ⟨nm, rel, dl, bud, act, val, cln, hard⟩ := j
            obtain ⟨c0, c1, c2, c3, c4, c5, c6, c7⟩ := hJm
            generalize workJ ⟨nm, rel, dl, bud, act, val, cln, hard⟩ = wk at *
            generalize chargeJ ⟨nm, rel, dl, bud, act, val, cln, hard⟩ = ch at *
            generalize goodB ⟨nm, rel, dl, bud, act, val, cln, hard⟩ = g at *
            have hwc : decide (ch < wk) = false := decide_eq_false (by omega)
            have hmk' : (m : Int) < (k : Int) := by omega
            cases g with
            | true =>
              have hw1 : decide (wk < 1) = false := decide_eq_false (by have := wc2 rfl; omega)
              clear wc2
              go_wp2_with fail
              go_region_held3 (fun W => Ext wr W ∧ W.cell? ⟨b, off + m * 8, none⟩ = some (.string nm) ∧ W.cell? ⟨b, off + m * 8 + 1, none⟩ = some (.int .i64 rel) ∧ W.cell? ⟨b, off + m * 8 + 2, none⟩ = some (.int .i64 dl) ∧ W.cell? ⟨b, off + m * 8 + 3, none⟩ = some (.int .i64 bud) ∧ W.cell? ⟨b, off + m * 8 + 4, none⟩ = some (.int .i64 act) ∧ W.cell? ⟨b, off + m * 8 + 5, none⟩ = some (.int .i64 val) ∧ W.cell? ⟨b, off + m * 8 + 6, none⟩ = some (.int .i64 cln) ∧ W.cell? ⟨b, off + m * 8 + 7, none⟩ = some (.bool hard))
                (first | exact keep8 HB.out hE (by assumption) | exact keep8 HB.out ((Ext.refl _).drew) (by assumption) | exact ⟨(Ext.refl _).drew, by assumption, by assumption, by assumption, by assumption, by assumption, by assumption, by assumption, by assumption⟩)
                (first
                  | (go_at_call 21; refine (G1.out _ (sj8 (by assumption))).mono ?_; rintro e w4 ⟨rfl, hE⟩)
                  | (go_at_call 19; refine (G2.out _ (sj8 (by assumption))).mono ?_; rintro e w4 ⟨rfl, hE⟩)
                  | (go_at_call 15; refine (G3.out _ (sj8 (by assumption))).mono ?_; rintro e w4 ⟨rfl, hE⟩))
              all_goals
                go_wp2_with fail
                go_roundw
                case rel => exact ⟨m + 1, by omega, by go_num, (HX.out).2.trans (sj8 (by assumption))⟩
                case measure => simp [intOf]; omega
            | false =>
              clear wc2
              have hz : ∀ (z : Later wr) (b' o : Nat), b' < wr.heap.size → z.val.cell? ⟨b', o, none⟩ = wr.cell? ⟨b', o, none⟩ := fun z b' o h => z.property.cell h
              have hb := HB.out
              have hne : Nonempty (Later wr) := ⟨⟨wr, Ext.refl _⟩⟩
              go_wp2_with fail
              refine wp_region_later (by kernel_rfl) (by kernel_rfl) ?_
              repeat (refine wpQuiet_step (fun K hK => ?_); go_simp; first | (refine hK _ ?_; clear hK K) | (apply Exists.intro; refine ⟨fun _ => ?_, hK _ ?_⟩; (first | (go_at_call 21; exact Calls.later (G1.out _ (Subtype.property _))) | (go_at_call 19; exact Calls.later (G2.out _ (Subtype.property _))) | (go_at_call 15; exact Calls.later (G3.out _ (Subtype.property _)))); clear hK K))
              refine wpQuiet_nil ?_
              intro _ hw'
              obtain ⟨zq, hw''⟩ := hw'
              subst hw''
              go_wp2_with fail
              go_roundw
              case rel => exact ⟨m + 1, by omega, by go_num, (HX.out).2.trans zq.property⟩
              case measure => simp [intOf]; omega
          · obtain rfl : m = k := by omega
            have hxq := hxx.trans hq
            go_wp2_with fail
            go_ret
            exact ⟨by simp, hxq⟩
end Go.Proofs.YtnnmakkbnfckmaaDoor
