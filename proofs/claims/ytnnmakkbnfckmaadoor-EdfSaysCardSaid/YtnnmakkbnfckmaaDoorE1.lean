/- Walks: JobSays. -/
import Derived.Test.YtnnmakkbnfckmaaDoorE0
import Derived.Test.YtnnmakkbnfckmaaDoorD0
namespace Go.Proofs.YtnnmakkbnfckmaaDoor
open Go.RowKit

theorem heavy_len {l : List J} {most last : Int} (h : heavyB l most last = false) : (l.length : Int) ≤ most := by
  simp only [heavyB, Bool.or_eq_false_iff, decide_eq_false_iff_not] at h
  omega

theorem jcells_new (j : J) (W : World) (t : TypeId) : JCells (W.alloc (.cells j.cells.toArray t)) W.heap.size 0 j := by
  have h := alloc_at W (.cells j.cells.toArray t) _ rfl
  constructor <;> (simp only [World.cell?, h]; rfl)
theorem jrow_one_at {w : World} {a : Option Addr} {j : J} (h : JRow w a [j]) : ∃ b off, a = some ⟨b, off, none⟩ ∧ b < w.heap.size ∧ JCells w b off j := by
  obtain ⟨b, off, h1, h2, h3⟩ := h 0 (by simp)
  exact ⟨b, off, h1, h2, by simpa using h3⟩

theorem sj_ext {wz W : World} {B3 B5 : Nat} {j : J} (h : Ext wz W ∧ W.cell? ⟨B3, 0, none⟩ = some (.string j.name) ∧ W.cell? ⟨B3, 1, none⟩ = some (.int .i64 j.rel) ∧ W.cell? ⟨B3, 2, none⟩ = some (.int .i64 j.dl) ∧ W.cell? ⟨B3, 3, none⟩ = some (.int .i64 j.bud) ∧ W.cell? ⟨B3, 4, none⟩ = some (.int .i64 j.act) ∧ W.cell? ⟨B3, 5, none⟩ = some (.int .i64 j.val) ∧ W.cell? ⟨B3, 6, none⟩ = some (.int .i64 j.cln) ∧ W.cell? ⟨B3, 7, none⟩ = some (.bool j.hard) ∧ W.cell? ⟨B5, 0, none⟩ = some (.string j.name) ∧ W.cell? ⟨B5, 1, none⟩ = some (.int .i64 j.rel) ∧ W.cell? ⟨B5, 2, none⟩ = some (.int .i64 j.dl) ∧ W.cell? ⟨B5, 3, none⟩ = some (.int .i64 j.bud) ∧ W.cell? ⟨B5, 4, none⟩ = some (.int .i64 j.act) ∧ W.cell? ⟨B5, 5, none⟩ = some (.int .i64 j.val) ∧ W.cell? ⟨B5, 6, none⟩ = some (.int .i64 j.cln) ∧ W.cell? ⟨B5, 7, none⟩ = some (.bool j.hard)) : Ext wz W := h.1
theorem keepSJ {wz W W' : World} {B3 B5 : Nat} {j : J} (h3 : B3 < wz.heap.size) (h5 : B5 < wz.heap.size) (hE : Ext W W') (h : Ext wz W ∧ W.cell? ⟨B3, 0, none⟩ = some (.string j.name) ∧ W.cell? ⟨B3, 1, none⟩ = some (.int .i64 j.rel) ∧ W.cell? ⟨B3, 2, none⟩ = some (.int .i64 j.dl) ∧ W.cell? ⟨B3, 3, none⟩ = some (.int .i64 j.bud) ∧ W.cell? ⟨B3, 4, none⟩ = some (.int .i64 j.act) ∧ W.cell? ⟨B3, 5, none⟩ = some (.int .i64 j.val) ∧ W.cell? ⟨B3, 6, none⟩ = some (.int .i64 j.cln) ∧ W.cell? ⟨B3, 7, none⟩ = some (.bool j.hard) ∧ W.cell? ⟨B5, 0, none⟩ = some (.string j.name) ∧ W.cell? ⟨B5, 1, none⟩ = some (.int .i64 j.rel) ∧ W.cell? ⟨B5, 2, none⟩ = some (.int .i64 j.dl) ∧ W.cell? ⟨B5, 3, none⟩ = some (.int .i64 j.bud) ∧ W.cell? ⟨B5, 4, none⟩ = some (.int .i64 j.act) ∧ W.cell? ⟨B5, 5, none⟩ = some (.int .i64 j.val) ∧ W.cell? ⟨B5, 6, none⟩ = some (.int .i64 j.cln) ∧ W.cell? ⟨B5, 7, none⟩ = some (.bool j.hard)) : Ext wz W' ∧ W'.cell? ⟨B3, 0, none⟩ = some (.string j.name) ∧ W'.cell? ⟨B3, 1, none⟩ = some (.int .i64 j.rel) ∧ W'.cell? ⟨B3, 2, none⟩ = some (.int .i64 j.dl) ∧ W'.cell? ⟨B3, 3, none⟩ = some (.int .i64 j.bud) ∧ W'.cell? ⟨B3, 4, none⟩ = some (.int .i64 j.act) ∧ W'.cell? ⟨B3, 5, none⟩ = some (.int .i64 j.val) ∧ W'.cell? ⟨B3, 6, none⟩ = some (.int .i64 j.cln) ∧ W'.cell? ⟨B3, 7, none⟩ = some (.bool j.hard) ∧ W'.cell? ⟨B5, 0, none⟩ = some (.string j.name) ∧ W'.cell? ⟨B5, 1, none⟩ = some (.int .i64 j.rel) ∧ W'.cell? ⟨B5, 2, none⟩ = some (.int .i64 j.dl) ∧ W'.cell? ⟨B5, 3, none⟩ = some (.int .i64 j.bud) ∧ W'.cell? ⟨B5, 4, none⟩ = some (.int .i64 j.act) ∧ W'.cell? ⟨B5, 5, none⟩ = some (.int .i64 j.val) ∧ W'.cell? ⟨B5, 6, none⟩ = some (.int .i64 j.cln) ∧ W'.cell? ⟨B5, 7, none⟩ = some (.bool j.hard) := by
  obtain ⟨hx, a0, a1, a2, a3, a4, a5, a6, a7, b0, b1, b2, b3, b4, b5, b6, b7⟩ := h
  have q3 : B3 < W.heap.size := hx.lt h3
  have q5 : B5 < W.heap.size := hx.lt h5
  refine ⟨hx.trans hE, ?_⟩
  simp only [hE.cell q3, hE.cell q5]
  exact ⟨a0, a1, a2, a3, a4, a5, a6, a7, b0, b1, b2, b3, b4, b5, b6, b7⟩

set_option maxRecDepth 100000 in
set_option maxHeartbeats 16000000 in
theorem jobSays_any (l : List J) (j : J) (a : Option Addr) (cap : Nat) (w : World) (hm : l.length ≤ bigS) (hT : Tabs w) (hs : ∀ j ∈ l, j.ok) (hj : j.ok) (hr : JRow w a l) :
    Calls Tryd.prog 3 #[.slice a l.length cap, j.agg] w fun e w' => e = .returned (.bool true) ∧ Ext w w' := by
  have mixed : Tryd.prog.follows .mixedOrders = true := by kernel_rfl
  have CA : Hid (∀ W, Ext w W → Calls Tryd.prog 12 #[] W fun e w' => e = .returned (.bool true) ∧ Ext W w') := fun W h => awake8 W (hT.ext h)
  have CH : Hid (∀ W, Ext w W → Calls Tryd.prog 13 #[.slice a l.length cap, .int .i64 30, .int .i64 10000] W fun e w' => e = .returned (.bool (heavyB l 30 10000)) ∧ W = w') := fun W h => heavy_tocsinlaw8 l 30 10000 a cap W hm (hr.ext h)
  have CO : Hid (∀ W a, JRow W a [j] → Calls Tryd.prog 14 #[.slice a 1 1] W (JSl [j] W)) := fun W a h => own_tocsinlaw8 [j] a 1 W (by simp) h
  cases hv : heavyB l 30 10000 with
  | true =>
    rw [hv] at CH
    clear hv hs hr hT hj
    go_enter Tryd.func3, Tryd.ntmps3
    go_wp2_with (first
      | (go_at_call 12; go_must (with_reducible refine (CA.out _ (Ext.new _ _)).mono ?_); rintro e w1 ⟨rfl, h1⟩; have x1 := (Ext.new _ _).trans h1)
      | (go_at_call 13; go_must (with_reducible refine (CH.out _ x1).mono ?_); rintro e w2 ⟨rfl, rfl⟩))
    go_ret
    exact ⟨rfl, x1⟩
  | false =>
    have hlen := heavy_len hv
    rw [hv] at CH
    have HO : Hid (Tabs w ∧ (∀ j ∈ l, j.ok) ∧ j.ok ∧ JRow w a l ∧ l.length ≤ 30) := ⟨hT, hs, hj, hr, by omega⟩
    clear hv hs hr hT
    by_cases hn : 100 < j.name.size
    · go_enter Tryd.func3, Tryd.ntmps3
      go_wp2_with (first
        | (go_at_call 12; go_must (with_reducible refine (CA.out _ (Ext.new _ _)).mono ?_); rintro e w1 ⟨rfl, h1⟩; obtain ⟨hc1, hf1⟩ := bcell h1; have x1 := (Ext.new _ _).trans h1)
        | (go_at_call 13; go_must (with_reducible refine (CH.out _ x1).mono ?_); rintro e w2 ⟨rfl, rfl⟩))
      go_ret
      exact ⟨rfl, x1⟩
    · go_enter Tryd.func3, Tryd.ntmps3
      go_wp2_with (first
        | (go_at_call 12; go_must (with_reducible refine (CA.out _ (Ext.new _ _)).mono ?_); rintro e w1 ⟨rfl, h1⟩; obtain ⟨hc1, hf1⟩ := bcell h1; have x1 := (Ext.new _ _).trans h1)
        | (go_at_call 13; go_must (with_reducible refine (CH.out _ x1).mono ?_); rintro e w2 ⟨rfl, rfl⟩)
        | (go_at_call 14; go_must (with_reducible refine (CO.out _ _ (jrow_one j _ _ _ 24 rfl rfl)).mono ?_); rintro e w3 ⟨a3, cap3, rfl, hr3, h3⟩; obtain ⟨hc3, hf3⟩ := bcell h3; obtain ⟨b3, o3, rfl, hb3, K⟩ := jrow_one_at hr3; obtain ⟨k0, k1, k2, k3, k4, k5, k6, k7⟩ := K))
      have z1 : w.heap.size < w1.heap.size := by have := h1.size; simp at this; omega
      have z3 : w1.heap.size < w3.heap.size := by have := h3.size; simp at this; omega
      have X3 : Hid (Ext w w3) := (x1.alloc _).trans h3
      have K1 : JCells w3 w.heap.size 0 j := by
        have k0 : JCells (w.alloc (.cells j.cells.toArray 24)) w.heap.size 0 j := jcells_new _ _ _
        exact ((k0.ext h1 (by simp)).ext (Ext.new _ _) z1).ext h3 (by simp; omega)
      clear hc1 hf1 hc3 hf3 h1 h3 hr3 x1 CA CH CO
      have HB3 : Hid (w.heap.size < (w3.alloc (.cells j.cells.toArray 27)).heap.size) := by show _ < _; simp; omega
      have HB5 : Hid (w3.heap.size < (w3.alloc (.cells j.cells.toArray 27)).heap.size) := by show _ < _; simp
      have XZ : Hid (Ext w (w3.alloc (.cells j.cells.toArray 27))) := (X3.out).alloc _
      obtain ⟨a0, a1, a2, a3, a4, a5, a6, a7⟩ := K1.ext (Ext.new w3 (.cells j.cells.toArray 27)) (show w.heap.size < w3.heap.size by omega)
      obtain ⟨b0, b1, b2, b3, b4, b5, b6, b7⟩ := jcells_new j w3 27
      simp only [Nat.zero_add] at a1 a2 a3 a4 a5 a6 a7 b1 b2 b3 b4 b5 b6 b7
      clear k0 k1 k2 k3 k4 k5 k6 k7 hb3 K1 X3 z1 z3
      generalize w.heap.size = B3 at *
      generalize w3.heap.size = B5 at *
      generalize w3.alloc (.cells j.cells.toArray 27) = wz at *
      have e0 : Ext wz wz := Ext.refl _
      have TZ : Hid (∀ W, Ext wz W → Tabs W ∧ JRow W a l) := fun W h => ⟨(HO.out).1.ext ((XZ.out).trans h), (HO.out).2.2.2.1.ext ((XZ.out).trans h)⟩
      have G15 : Hid (∀ W, Ext wz W → Calls Tryd.prog 15 #[j.agg] W fun e w' => e = .returned (.bool (goodB j)) ∧ Ext W w') := fun W h => good_any j W (NameC.of ((TZ.out W h).1)) (HO.out).2.2.1
      have G16 : Hid (∀ W, Ext wz W → Calls Tryd.prog 16 #[j.agg] W fun e w' => e = .returned (.bool (goodB j)) ∧ Ext W w') := fun W h => refGood_any j W (TZ.out W h).1 (HO.out).2.2.1
      have G17 : Hid (∀ W, Ext wz W → Calls Tryd.prog 17 #[.slice a l.length cap] W fun e w' => e = .returned (.bool (allB l)) ∧ Ext W w') := fun W h => all_any l a cap W hm (NameC.of (TZ.out W h).1) (HO.out).2.1 (TZ.out W h).2
      have G14 : Hid (∀ W, Ext wz W → Calls Tryd.prog 14 #[.slice a l.length cap] W (JSl l W)) := fun W h => own_tocsinlaw8 l a cap W (by have := (HO.out).2.2.2.2; omega) (TZ.out W h).2
      have G18 : Hid (∀ W a c, Ext wz W → JRow W a l → Calls Tryd.prog 18 #[.slice a l.length c] W fun e w' => e = .returned (.bool (allB l)) ∧ Ext W w') := fun W a c h hr => refAll_any l a c W hm (TZ.out W h).1 (HO.out).2.1 hr
      have G19 : Hid (∀ W, Ext wz W → Calls Tryd.prog 19 #[j.agg] W fun e w' => e = .returned (.int .i64 (chargeJ j)) ∧ Ext W w') := fun W h => charge_any j W (NameC.of (TZ.out W h).1) (HO.out).2.2.1
      have G20 : Hid (∀ W, Ext wz W → Calls Tryd.prog 20 #[j.agg] W fun e w' => e = .returned (.int .i64 (chargeJ j)) ∧ Ext W w') := fun W h => refCharge_any j W (TZ.out W h).1 (HO.out).2.2.1
      have G21 : Hid (∀ W, Ext wz W → Calls Tryd.prog 21 #[j.agg] W fun e w' => e = .returned (.int .i64 (workJ j)) ∧ Ext W w') := fun W h => work_any j W (NameC.of (TZ.out W h).1) (HO.out).2.2.1
      have G22 : Hid (∀ W, Ext wz W → Calls Tryd.prog 22 #[j.agg] W fun e w' => e = .returned (.int .i64 (workJ j)) ∧ Ext W w') := fun W h => refWork_any j W (TZ.out W h).1 (HO.out).2.2.1
      have G23 : Hid (∀ W, Ext wz W → Calls Tryd.prog 23 #[j.agg] W fun e w' => e = .returned (.bool (decide (j.act ≤ j.bud))) ∧ Ext W w') := fun W h => runs_any j W
      have G24 : Hid (∀ W, Ext wz W → Calls Tryd.prog 24 #[.slice a l.length cap] W fun e w' => e = .returned (.int .i64 (endJ l)) ∧ Ext W w') := fun W h => end_any l a cap W hm (NameC.of (TZ.out W h).1) (HO.out).2.1 (TZ.out W h).2
      have G25 : Hid (∀ W a c, Ext wz W → JRow W a l → Calls Tryd.prog 25 #[.slice a l.length c] W fun e w' => e = .returned (.int .i64 (endJ l)) ∧ Ext W w') := fun W a c h hr => refEnd_any l a c W hm (TZ.out W h).1 (HO.out).2.1 hr
      have G27 : Hid (∀ W, Ext wz W → Calls Tryd.prog 27 #[.slice a l.length cap] W fun e w' => ∃ a' cap', e = .returned (.slice a' l.length cap') ∧ IRow w' a' (nz (byDl l)) ∧ Ext W w') := fun W h => byDeadline_any l a cap W (by have := (HO.out).2.2.2.2; omega) (TZ.out W h).2
      have G28 : Hid (∀ W a c, Ext wz W → JRow W a l → Calls Tryd.prog 28 #[.slice a l.length c] W fun e w' => ∃ a' cap', e = .returned (.slice a' l.length cap') ∧ IRow w' a' (nz (byDl l)) ∧ Ext W w') := fun W a c h hr => refByDeadline_any l a c W (by have := (HO.out).2.2.2.2; omega) hr
      have G26 : Hid (∀ W a b c c', IRow W a (nz (byDl l)) → IRow W b (nz (byDl l)) → Calls Tryd.prog 26 #[.slice a l.length c, .slice b l.length c'] W fun e w' => e = .returned (.bool true) ∧ Ext W w') := fun W a b c c' h1 h2 => by
        have hlen : (nz (byDl l)).length = l.length := by rw [List.length_map, byDl_length]
        have := ints_tocsinlaw8 (nz (byDl l)) (nz (byDl l)) a b c c' W (by rw [hlen]; exact hm) (by rw [hlen]; exact hm) h1 h2
        rw [hlen] at this
        simpa using this
      clear TZ HO hlen hn hj hm
      go_region_held3 (fun W => Ext wz W ∧ W.cell? ⟨B3, 0, none⟩ = some (.string j.name) ∧ W.cell? ⟨B3, 1, none⟩ = some (.int .i64 j.rel) ∧ W.cell? ⟨B3, 2, none⟩ = some (.int .i64 j.dl) ∧ W.cell? ⟨B3, 3, none⟩ = some (.int .i64 j.bud) ∧ W.cell? ⟨B3, 4, none⟩ = some (.int .i64 j.act) ∧ W.cell? ⟨B3, 5, none⟩ = some (.int .i64 j.val) ∧ W.cell? ⟨B3, 6, none⟩ = some (.int .i64 j.cln) ∧ W.cell? ⟨B3, 7, none⟩ = some (.bool j.hard) ∧ W.cell? ⟨B5, 0, none⟩ = some (.string j.name) ∧ W.cell? ⟨B5, 1, none⟩ = some (.int .i64 j.rel) ∧ W.cell? ⟨B5, 2, none⟩ = some (.int .i64 j.dl) ∧ W.cell? ⟨B5, 3, none⟩ = some (.int .i64 j.bud) ∧ W.cell? ⟨B5, 4, none⟩ = some (.int .i64 j.act) ∧ W.cell? ⟨B5, 5, none⟩ = some (.int .i64 j.val) ∧ W.cell? ⟨B5, 6, none⟩ = some (.int .i64 j.cln) ∧ W.cell? ⟨B5, 7, none⟩ = some (.bool j.hard))
        (first | exact keepSJ HB3.out HB5.out hE (by assumption) | exact keepSJ HB3.out HB5.out ((Ext.refl _).drew) ⟨by assumption, by assumption, by assumption, by assumption, by assumption, by assumption, by assumption, by assumption, by assumption, by assumption, by assumption, by assumption, by assumption, by assumption, by assumption, by assumption, by assumption⟩)
        (first
          | (go_at_call 15; refine (G15.out _ (sj_ext (by assumption))).mono ?_; rintro e w4 ⟨rfl, hE⟩)
          | (go_at_call 16; refine (G16.out _ (sj_ext (by assumption))).mono ?_; rintro e w4 ⟨rfl, hE⟩)
          | (go_at_call 17; refine (G17.out _ (sj_ext (by assumption))).mono ?_; rintro e w4 ⟨rfl, hE⟩)
          | (go_at_call 14; refine (G14.out _ (sj_ext (by assumption))).mono ?_; rintro e w4 ⟨ar, capr, rfl, hrr, hEo⟩; have hE := hEo)
          | (go_at_call 18; refine (G18.out _ _ _ (sj_ext (by assumption)) hrr).mono ?_; rintro e w4 ⟨rfl, hE⟩)
          | (go_at_call 19; refine (G19.out _ (sj_ext (by assumption))).mono ?_; rintro e w4 ⟨rfl, hE⟩)
          | (go_at_call 20; refine (G20.out _ (sj_ext (by assumption))).mono ?_; rintro e w4 ⟨rfl, hE⟩)
          | (go_at_call 21; refine (G21.out _ (sj_ext (by assumption))).mono ?_; rintro e w4 ⟨rfl, hE⟩)
          | (go_at_call 22; refine (G22.out _ (sj_ext (by assumption))).mono ?_; rintro e w4 ⟨rfl, hE⟩)
          | (go_at_call 23; refine (G23.out _ (sj_ext (by assumption))).mono ?_; rintro e w4 ⟨rfl, hE⟩)
          | (go_at_call 24; refine (G24.out _ (sj_ext (by assumption))).mono ?_; rintro e w4 ⟨rfl, hE⟩)
          | (go_at_call 25; refine (G25.out _ _ _ (sj_ext (by assumption)) hrr).mono ?_; rintro e w4 ⟨rfl, hE⟩)
          | (go_at_call 27; refine (G27.out _ (sj_ext (by assumption))).mono ?_; rintro e w4 ⟨a27, c27, rfl, hi27, hE⟩)
          | (go_at_call 28; refine (G28.out _ _ _ (sj_ext (by assumption)) hrr).mono ?_; rintro e w4 ⟨a28, c28, rfl, hi28, hE28⟩; have hE := hE28)
          | (go_at_call 26; refine (G26.out _ _ _ _ _ (hi27.ext (Ext.trans hEo hE28)) hi28).mono ?_; rintro e w4 ⟨rfl, hE⟩))
      all_goals go_wp2_with fail
      all_goals go_ret
      all_goals (rename_i hfin; exact ⟨by first | rfl | simp, (XZ.out).trans (sj_ext (by assumption))⟩)
end Go.Proofs.YtnnmakkbnfckmaaDoor
