/- Walks: EdfLess. -/
import Derived.Test.YtnnmakkbnfckmaaDoorGM
import Derived.Test.YtnnmakkbnfckmaaDoorGT
import Derived.Test.YtnnmakkbnfckmaaDoorGP
import Derived.IntWalk
namespace Go.Proofs.YtnnmakkbnfckmaaDoor
open Go.RowKit

theorem flat_setN (l : List (Int × Int)) (i : Nat) (hi : i < l.length) (v : Int) : (l.flatMap pairC).set (i * 2 + 1) (.int .i64 v) = (l.set i (l[i].1, v)).flatMap pairC := by
  induction l generalizing i with
  | nil => simp at hi
  | cons x l ih =>
    cases i with
    | zero => simp [List.flatMap_cons]
    | succ i =>
      have := ih i (by simpa using hi)
      rw [show (i + 1) * 2 + 1 = (i * 2 + 1) + 2 by omega]
      simp only [List.flatMap_cons, List.cons_append, List.nil_append, List.set_cons_succ, List.getElem_cons_succ]
      rw [this]
theorem flat_setD (l : List (Int × Int)) (i : Nat) (hi : i < l.length) (v : Int) : (l.flatMap pairC).set (i * 2) (.int .i64 v) = (l.set i (v, l[i].2)).flatMap pairC := by
  induction l generalizing i with
  | nil => simp at hi
  | cons x l ih =>
    cases i with
    | zero => simp [List.flatMap_cons]
    | succ i =>
      have := ih i (by simpa using hi)
      rw [show (i + 1) * 2 = i * 2 + 2 by omega]
      simp only [List.flatMap_cons, List.cons_append, List.nil_append, List.set_cons_succ, List.getElem_cons_succ]
      rw [this]
theorem PArr.setN {e : TypeId} {w : World} {B : Nat} {xs : List (Int × Int)} (h : PArr e w B xs) {i : Nat} (hi : i < xs.length) (v : Int) : PArr e (w.setCell ⟨B, i * 2 + 1, none⟩ (.int .i64 v)) B (xs.set i (xs[i].1, v)) := by
  obtain ⟨rest, h⟩ := h
  refine ⟨rest, ?_⟩
  rw [heap_setCell_at w B _ _ _ _ h, ← flat_setN xs i hi v]
  have : i * 2 + 1 < (xs.flatMap pairC).length := by rw [flat_length pairC 2 (fun _ => rfl)]; omega
  simp [List.set_append_left _ _ this]
theorem PArr.setD {e : TypeId} {w : World} {B : Nat} {xs : List (Int × Int)} (h : PArr e w B xs) {i : Nat} (hi : i < xs.length) (v : Int) : PArr e (w.setCell ⟨B, i * 2, none⟩ (.int .i64 v)) B (xs.set i (v, xs[i].2)) := by
  obtain ⟨rest, h⟩ := h
  refine ⟨rest, ?_⟩
  rw [heap_setCell_at w B _ _ _ _ h, ← flat_setD xs i hi v]
  have : i * 2 < (xs.flatMap pairC).length := by rw [flat_length pairC 2 (fun _ => rfl)]; omega
  simp [List.set_append_left _ _ this]
theorem PArr.row {e : TypeId} {w : World} {B : Nat} {xs : List (Int × Int)} (h : PArr e w B xs) : PRow w (some ⟨B, 0, none⟩) xs := fun i hi => by
  have hl := h.lt
  obtain ⟨rest, h⟩ := h
  have key : ∀ m, m < 2 → w.cell? ⟨B, 0 + i * 2 + m, none⟩ = (pairC xs[i])[m]? := fun m hm => by
    simp only [World.cell?, h, Nat.zero_add, List.getElem?_toArray]
    rw [List.getElem?_append_left (by rw [flat_length pairC 2 (fun _ => rfl)]; omega)]
    exact flat_get pairC 2 (fun _ => rfl) xs i hi m hm
  exact ⟨B, 0, rfl, hl, key 0 (by omega), key 1 (by omega)⟩
theorem PArr.frozen {e : TypeId} {w : World} {B : Nat} {xs : List (Int × Int)} (h : PArr e w B xs) (i : Nat) : w.frozen? ⟨B, i, none⟩ = false := by
  obtain ⟨rest, h⟩ := h
  simp [World.frozen?, h]

theorem rtJob : RowT Tryd.prog 22 24 8 72 (.agg #[.string ByteArray.empty, .int .i64 0, .int .i64 0, .int .i64 0, .int .i64 0, .int .i64 0, .int .i64 0, .bool false]) :=
  .of Tryd.underlying22 (by kernel_rfl) rfl (by decide)
/-- A stretch of jobs as what is appended. -/
theorem src_jrow {w : World} {b o : Nat} {l : List J} (h : JRow w (some ⟨b, o, none⟩) l) (s m c : Nat) (hm : s + m ≤ l.length) : SrcR w 8 (.slice (some ⟨b, o + s * 8, none⟩) m c) m (((l.drop s).take m).flatMap J.cells) := by
  have hl : ((l.drop s).take m).length = m := by rw [List.length_take, List.length_drop]; omega
  refine ⟨by rw [flat_length J.cells 8 (fun _ => rfl), hl], .inl ⟨_, c, rfl, fun j u hu => ?_⟩⟩
  have hj : j < m * 8 := by
    have := (List.getElem?_eq_some_iff.1 hu).1
    rwa [flat_length J.cells 8 (fun _ => rfl), hl] at this
  have hi : j / 8 < ((l.drop s).take m).length := by omega
  have hil : s + j / 8 < l.length := by omega
  obtain ⟨b', off, e, _, hc⟩ := h (s + j / 8) hil
  obtain ⟨rfl, rfl⟩ : b' = b ∧ off = o := by injection e with e; injection e with e1 e2; exact ⟨e1.symm, e2.symm⟩
  have hg := flat_get J.cells 8 (fun _ => rfl) ((l.drop s).take m) (j / 8) hi (j % 8) (by omega)
  rw [show j / 8 * 8 + j % 8 = j by omega, hu, List.getElem_take, List.getElem_drop] at hg
  rw [addr_add, show off + s * 8 + j = off + (s + j / 8) * 8 + j % 8 by omega, hg]
  obtain ⟨c0, c1, c2, c3, c4, c5, c6, c7⟩ := hc
  have h8 : j % 8 < 8 := by omega
  rcases (by omega : j % 8 = 0 ∨ j % 8 = 1 ∨ j % 8 = 2 ∨ j % 8 = 3 ∨ j % 8 = 4 ∨ j % 8 = 5 ∨ j % 8 = 6 ∨ j % 8 = 7) with e | e | e | e | e | e | e | e <;> rw [e] <;> first | exact c0 | exact c1 | exact c2 | exact c3 | exact c4 | exact c5 | exact c6 | exact c7
theorem one_jobs (l : List J) : ∀ u ∈ l.flatMap J.cells, u.oneCell' = true := fun u hu => by
  obtain ⟨x, _, hx⟩ := List.mem_flatMap.1 hu
  simp only [List.mem_cons, List.not_mem_nil, or_false] at hx
  rcases hx with rfl | rfl | rfl | rfl | rfl | rfl | rfl | rfl <;> rfl
theorem meetsB_iff (l : List J) : meetsB l = true ↔ allB l = true ∧ MetAll l (at0 chargeJ l) := by
  unfold meetsB
  rw [Bool.and_eq_true, List.all_eq_true]
  refine and_congr_right fun _ => ?_
  constructor
  · intro h i hi
    have := h i (List.mem_range.2 hi)
    unfold metB at this
    simpa using this
  · intro h i hi
    unfold metB
    simpa using h i (List.mem_range.1 hi)
theorem meets_out {l : List J} (h : meetsB l = true) (k : Nat) : meetsB (l.take k ++ l.drop (k + 1)) = true := by
  obtain ⟨hal, hm⟩ := (meetsB_iff l).1 h
  obtain ⟨hlen, hg⟩ := allB_all hal
  have hsub : ∀ j ∈ l.take k ++ l.drop (k + 1), j ∈ l := fun j hj => by
    rcases List.mem_append.1 hj with e | e
    · exact List.mem_of_mem_take e
    · exact List.mem_of_mem_drop e
  have hal' : allB (l.take k ++ l.drop (k + 1)) = true := by
    unfold allB
    rw [Bool.and_eq_true, decide_eq_true_eq, List.all_eq_true]
    refine ⟨by rw [List.length_append, List.length_take, List.length_drop]; omega, fun j hj => ?_⟩
    rw [List.all_eq_true] at hg
    exact hg j (hsub j hj)
  refine (meetsB_iff _).2 ⟨hal', ?_⟩
  have g1 : ∀ i, i < l.length → GoodJ l i := fun i hi => goodJ_of hg hi
  have g2 : ∀ i, i < (l.take k ++ l.drop (k + 1)).length → GoodJ (l.take k ++ l.drop (k + 1)) i := fun i hi => goodJ_of (allB_all hal').2 hi
  have c1 : ∀ i, i < l.length → 0 ≤ at0 chargeJ l i := fun i hi => by have h1 := (g1 i hi).wrk; have h2 := (g1 i hi).le; omega
  have c2 : ∀ i, i < (l.take k ++ l.drop (k + 1)).length → 0 ≤ at0 chargeJ (l.take k ++ l.drop (k + 1)) i := fun i hi => by have h1 := (g2 i hi).wrk; have h2 := (g2 i hi).le; omega
  rw [metAll_iff g2 c2]
  exact calm_out k (fun j hj => (charge_bd hal j hj).1) ((metAll_iff g1 c1).1 hm)
theorem modN (a : Int) {n : Nat} (h : 0 < n) : ∃ k : Nat, (k : Int) = a % (n : Int) ∧ k < n := by
  have h1 := Int.emod_nonneg a (show (n : Int) ≠ 0 by omega)
  have h2 := Int.emod_lt_of_pos a (show (0 : Int) < n by omega)
  exact ⟨(a % (n : Int)).toNat, by omega, by omega⟩
theorem src_jrow0 {w : World} {b o : Nat} {l : List J} (h : JRow w (some ⟨b, o, none⟩) l) (m c : Nat) (hm : m ≤ l.length) : SrcR w 8 (.slice (some ⟨b, o, none⟩) m c) m ((l.take m).flatMap J.cells) := by
  have := src_jrow h 0 m c (by omega)
  simpa using this
set_option maxRecDepth 100000 in
set_option maxHeartbeats 16000000 in
theorem edfLess_any (l : List J) (now at_ by_ : Int) (n : List (Int × Int)) (a an : Option Addr) (cap cn : Nat) (w : World) (hcp : l.length ≤ cap) (hm : l.length ≤ bigS) (hn : n.length ≤ bigS) (hT : Tabs w) (hs : ∀ j ∈ l, j.ok) (hr : JRow w a l) (hp : PRow w an n) :
    Calls Tryd.prog 6 #[.slice a l.length cap, .int .i64 now, .slice an n.length cn, .int .i64 at_, .int .i64 by_] w fun e w' => e = .returned (.bool true) ∧ Ext w w' := by
  have CA := Lib.hid (awake10 w hT)
  have CH := Lib.hid fun W (h : Ext w W) => heavy_tocsinlaw10 l 10 200 a cap W hm (hr.ext h)
  obtain ⟨nl, hnle⟩ : ∃ nl, n.length = nl := ⟨_, rfl⟩
  by_cases hbad : heavyB l 10 200 = true ∨ 30 < nl ∨ by_ < 0 ∨ 1000 < by_ ∨ at_ < 0
  · unfold bigS at hn
    rw [hnle] at hn ⊢
    cases hv : heavyB l 10 200 with
    | true =>
      rw [hv] at CH
      clear hv hs hr hT hp hm hnle hbad
      go_enter Tryd.func6, Tryd.ntmps6
      go_wp2_with (first
        | (go_at_call 29; go_must (with_reducible refine CA.out.mono ?_); rintro e w1 ⟨rfl, h1⟩)
        | (go_at_call 30; go_must (with_reducible refine (CH.out _ h1).mono ?_); rintro e w2 ⟨rfl, rfl⟩))
      go_ret
      exact ⟨rfl, h1⟩
    | false =>
      have hb : 30 < nl ∨ by_ < 0 ∨ 1000 < by_ ∨ at_ < 0 := by rw [hv] at hbad; simpa using hbad
      rw [hv] at CH
      clear hv hs hr hT hp hm hnle hbad
      by_cases b1 : (30 : Int) < nl
      · go_enter Tryd.func6, Tryd.ntmps6
        go_wp2_with (first
          | (go_at_call 29; go_must (with_reducible refine CA.out.mono ?_); rintro e w1 ⟨rfl, h1⟩)
          | (go_at_call 30; go_must (with_reducible refine (CH.out _ h1).mono ?_); rintro e w2 ⟨rfl, rfl⟩))
        go_ret
        exact ⟨rfl, h1⟩
      · by_cases b2 : by_ < 0
        · go_enter Tryd.func6, Tryd.ntmps6
          go_wp2_with (first
            | (go_at_call 29; go_must (with_reducible refine CA.out.mono ?_); rintro e w1 ⟨rfl, h1⟩)
            | (go_at_call 30; go_must (with_reducible refine (CH.out _ h1).mono ?_); rintro e w2 ⟨rfl, rfl⟩))
          go_ret
          exact ⟨rfl, h1⟩
        · by_cases b3 : 1000 < by_
          · go_enter Tryd.func6, Tryd.ntmps6
            go_wp2_with (first
              | (go_at_call 29; go_must (with_reducible refine CA.out.mono ?_); rintro e w1 ⟨rfl, h1⟩)
              | (go_at_call 30; go_must (with_reducible refine (CH.out _ h1).mono ?_); rintro e w2 ⟨rfl, rfl⟩))
            go_ret
            exact ⟨rfl, h1⟩
          · have b4 : at_ < 0 := by omega
            go_enter Tryd.func6, Tryd.ntmps6
            go_wp2_with (first
              | (go_at_call 29; go_must (with_reducible refine CA.out.mono ?_); rintro e w1 ⟨rfl, h1⟩)
              | (go_at_call 30; go_must (with_reducible refine (CH.out _ h1).mono ?_); rintro e w2 ⟨rfl, rfl⟩))
            go_ret
            exact ⟨rfl, h1⟩
  · simp only [not_or, Bool.not_eq_true] at hbad
    obtain ⟨hv, b1, b2, b3, b4⟩ := hbad
    have hlen := heavy_len hv
    rw [hv] at CH
    have b1' : (nl : Int) ≤ 30 := by omega
    have b2' : 0 ≤ by_ := by omega
    have b3' : by_ ≤ 1000 := by omega
    have b4' : 0 ≤ at_ := by omega
    have HF := Lib.hid fun W (h : Ext w W) => fits_any now n an cn W hn (hp.ext h)
    have HME := Lib.hid fun W (h : Ext w W) => meets_any l a cap W hm (hT.ext h) hs (hr.ext h)
    have HO := Lib.hid (And.intro hp (And.intro hr (And.intro hT (And.intro hs hnle))))
    have hnn : nl ≤ 30 := by omega
    obtain ⟨ll, hlle⟩ : ∃ ll, l.length = ll := ⟨_, rfl⟩
    have HLL := Lib.hid hlle
    have hll : ll ≤ 10 := by omega
    rw [hlle] at CH HME hcp ⊢
    rw [hnle] at HF ⊢
    clear hp hr hT hs hm hn hnle hv b1 b2 b3 b4 hlle hlen
    go_enter Tryd.func6, Tryd.ntmps6
    go_upto_region 5 with (first
      | (go_at_call 29; go_must (with_reducible refine CA.out.mono ?_); rintro e w1 ⟨rfl, h1⟩)
      | (go_at_call 30; go_must (with_reducible refine (CH.out _ h1).mono ?_); rintro e w2 ⟨rfl, rfl⟩))
    have HX := Lib.hid h1
    clear h1
    have hmc : meetsB l = true → ∀ k, Hid (∀ W v (base N : Nat) X, Ext w W → W.ownsRow base 24 8 v N X → N = ll - 1 → X = (l.take k ++ l.drop (k + 1)).flatMap J.cells → k < ll → Calls Tryd.prog 40 #[v] W fun e w' => e = .returned (.bool true) ∧ Ext W w') := fun hmb k => Lib.hid fun W v base N X hW ho hN hX hkl => by
      have hL := HLL.out
      have e2 : N = (l.take k ++ l.drop (k + 1)).length := by rw [List.length_append, List.length_take, List.length_drop]; omega
      rw [hX, e2] at ho
      obtain ⟨a', cap', rfl, hr'⟩ := own_jrow ho
      have h0 := meets_any (l.take k ++ l.drop (k + 1)) a' cap' W (by rw [← e2]; unfold bigS; omega) ((HO.out).2.2.1.ext hW) (fun j hj => (HO.out).2.2.2.1 j (by
        rcases List.mem_append.1 hj with e | e
        · exact List.mem_of_mem_take e
        · exact List.mem_of_mem_drop e)) hr'
      rw [meets_out hmb] at h0
      exact h0
    by_cases h0 : nl = 0
    · have h0b : decide (0 < nl) = false := decide_eq_false (by omega)
      have h1b : nl < 1 := by omega
      clear h0
      go_upto_region 15 with fail
      have hx4 := HX.out
      have HX4 := Lib.hid hx4
      clear hx4
      by_cases hl0 : ll = 0
      · have l0b : decide (0 < ll) = false := decide_eq_false (by omega)
        have l1b : ll < 1 := by omega
        clear hl0 hmc
        go_wp2_with fail
        go_ret
        exact ⟨rfl, HX4.out⟩
      · have hll0 : 0 < ll := by omega
        cases hmb : meetsB l with
        | false =>
          rw [hmb] at HME
          clear hmb hl0 hmc
          go_wp2_with (go_at_call 40; go_must (with_reducible refine (HME.out _ HX4.out).mono ?_); rintro e w8 ⟨rfl, h8⟩)
          go_ret
          exact ⟨rfl, (HX4.out).trans h8⟩
        | true =>
          have hmc2 := hmc hmb
          rw [hmb] at HME
          clear hmb hl0 hmc
          obtain ⟨k, hk, hkl⟩ := modN at_ hll0
          have HK := Lib.hid hk
          clear hk
          go_upto_region 17 with (go_at_call 40; go_must (with_reducible refine (HME.out _ HX4.out).mono ?_); rintro e w8 ⟨rfl, h8⟩)
          have hx8 := (HX4.out).trans h8
          obtain ⟨wz, hwz⟩ : ∃ wz : World, wz = w8 := ⟨_, rfl⟩
          subst hwz
          have hJ := (HO.out).2.1.ext hx8
          obtain ⟨b, off, rfl⟩ : ∃ b off, a = some ⟨b, off, none⟩ := let ⟨b, off, e, _⟩ := hJ 0 (by rw [HLL.out]; omega); ⟨b, off, e⟩
          have HJZ := Lib.hid hJ
          have HXZ := Lib.hid hx8
          have HMC := Lib.hid fun W v base N X (h : Ext wz W) ho (hN : N = ll - 1) hX => (hmc2 k).out W v base N X (hx8.trans h) ho hN hX hkl
          clear hmc2 hJ hx8 h8
          rw [← HK.out]
          have hkl' : (k : Int) < (ll : Int) := by omega
          have hk1 : (k : Int) + 1 ≤ (ll : Int) := by omega
          have hkc : (k : Int) ≤ (cap : Int) := by omega
          have hw1 : IntKind.i64.wrap ((k : Int) + 1) = (k : Int) + 1 := IntWalk.i64_in _ (by omega)
          have hw2 : 0 ≤ (k : Int) + 1 := by omega
          have hw3 : ((k : Int) + 1).toNat = k + 1 := by omega
          have hle1 : ll ≤ l.length := by rw [HLL.out]; exact Nat.le_refl _
          by_cases hcap : cap = k + 1
          · obtain rfl : cap = ll := by omega
            have hkc4 : k + 1 = cap := by omega
            have HNX : Hid (∀ _ : Unit, [] ++ (l.take k).flatMap J.cells ++ (l.take 0).flatMap J.cells = (l.take k ++ l.drop (k + 1)).flatMap J.cells) := Lib.hid fun _ => by
              rw [List.drop_of_length_le (by rw [HLL.out, hcap]; exact Nat.le_refl _)]; simp
            clear hcap
            go_region_held3 (fun W => Ext wz W)
              (first | assumption | exact (Ext.refl _).drew | exact (Ext.new _ _).drew | exact Ext.new _ _ | exact Ext.drew (by assumption) | exact Ext.alloc (by assumption) _ | exact (Ext.alloc (by assumption) _).drew | exact Below.trans (by assumption) (by assumption) | exact Ext.trans (by assumption) (by assumption))
              (first
                | ((refine step_appX rtJob (by rfl) _ _ (by rfl) wz.heap.size (v := .slice (some ⟨wz.heap.size, 0, none⟩) 0 0) (n := 0) (xs := []) (by rfl) (own_empty (by decide) (by exact alloc_at _ _ _ (by simp)) (by omega)) (m := k) (by rfl) (src_jrow0 (JRow.ext HJZ.out (by first | assumption | exact (Ext.refl _).drew | exact (Ext.new _ _).drew | exact Ext.new _ _)) k _ (by omega)) (one_jobs _) (by omega) (by decide) (Below.size (by assumption)) ?_; intro v1 w1 hown1 hb1 hg1))
                | ((refine step_appX rtJob (by rfl) _ _ (by rfl) wz.heap.size (v := v1) (n := 0 + k) (by rfl) (by first | exact hown1 | exact hown1.alloc _) (m := 0) (by rfl) (src_jrow0 (JRow.ext HJZ.out (by assumption)) 0 _ (by omega)) (one_jobs _) (by omega) (by decide) (Below.size (by assumption)) ?_; intro v2 w2 hown2 hb2 hg2))
                | (go_at_call 40; (refine (HMC.out _ _ _ _ _ (by assumption) hown2 (by omega) (HNX.out ())).mono ?_); rintro e w3 ⟨rfl, hE3⟩))
            all_goals
              have hxe : Ext wz w3 := by assumption
              go_wp2_with fail
              go_ret
              exact ⟨rfl, (HXZ.out).trans hxe⟩
          · have HNX : Hid (∀ _ : Unit, [] ++ (l.take k).flatMap J.cells ++ ((l.drop (k + 1)).take (ll - (k + 1))).flatMap J.cells = (l.take k ++ l.drop (k + 1)).flatMap J.cells) := Lib.hid fun _ => by
              rw [List.take_of_length_le (l := l.drop (k + 1)) (by rw [List.length_drop, HLL.out]; exact Nat.le_refl _), List.flatMap_append]; simp
            go_region_held3 (fun W => Ext wz W)
              (first | assumption | exact (Ext.refl _).drew | exact (Ext.new _ _).drew | exact Ext.new _ _ | exact Ext.drew (by assumption) | exact Ext.alloc (by assumption) _ | exact (Ext.alloc (by assumption) _).drew | exact Below.trans (by assumption) (by assumption) | exact Ext.trans (by assumption) (by assumption))
              (first
                | ((refine step_appX rtJob (by rfl) _ _ (by rfl) wz.heap.size (v := .slice (some ⟨wz.heap.size, 0, none⟩) 0 0) (n := 0) (xs := []) (by rfl) (own_empty (by decide) (by exact alloc_at _ _ _ (by simp)) (by omega)) (m := k) (by rfl) (src_jrow0 (JRow.ext HJZ.out (by first | assumption | exact (Ext.refl _).drew | exact (Ext.new _ _).drew | exact Ext.new _ _)) k _ (by omega)) (one_jobs _) (by omega) (by decide) (Below.size (by assumption)) ?_; intro v1 w1 hown1 hb1 hg1))
                | ((refine step_appX rtJob (by rfl) _ _ (by rfl) wz.heap.size (v := v1) (n := 0 + k) (by rfl) (by first | exact hown1 | exact hown1.alloc _) (m := (ll - (k + 1))) (by rfl) (src_jrow (JRow.ext HJZ.out (by assumption)) (k + 1) (ll - (k + 1)) _ (by omega)) (one_jobs _) (by omega) (by decide) (Below.size (by assumption)) ?_; intro v2 w2 hown2 hb2 hg2))
                | (go_at_call 40; (refine (HMC.out _ _ _ _ _ (by assumption) hown2 (by omega) (HNX.out ())).mono ?_); rintro e w3 ⟨rfl, hE3⟩))
            all_goals
              have hxe : Ext wz w3 := by assumption
              go_wp2_with fail
              go_ret
              exact ⟨rfl, (HXZ.out).trans hxe⟩
    · have hnl0 : 0 < nl := by omega
      cases hfb : fitsB now n with
      | false =>
        rw [hfb] at HF
        clear hfb h0
        go_upto_region 15 with (go_at_call 35; go_must (with_reducible refine (HF.out _ HX.out).mono ?_); rintro e w3 ⟨rfl, h3⟩)
        have hx4 := (HX.out).trans h3
        clear h3
        have HX4 := Lib.hid hx4
        clear hx4
        by_cases hl0 : ll = 0
        · have l0b : decide (0 < ll) = false := decide_eq_false (by omega)
          have l1b : ll < 1 := by omega
          clear hl0 hmc
          go_wp2_with fail
          go_ret
          exact ⟨rfl, HX4.out⟩
        · have hll0 : 0 < ll := by omega
          cases hmb : meetsB l with
          | false =>
            rw [hmb] at HME
            clear hmb hl0 hmc
            go_wp2_with (go_at_call 40; go_must (with_reducible refine (HME.out _ HX4.out).mono ?_); rintro e w8 ⟨rfl, h8⟩)
            go_ret
            exact ⟨rfl, (HX4.out).trans h8⟩
          | true =>
            have hmc2 := hmc hmb
            rw [hmb] at HME
            clear hmb hl0 hmc
            obtain ⟨k, hk, hkl⟩ := modN at_ hll0
            have HK := Lib.hid hk
            clear hk
            go_upto_region 17 with (go_at_call 40; go_must (with_reducible refine (HME.out _ HX4.out).mono ?_); rintro e w8 ⟨rfl, h8⟩)
            have hx8 := (HX4.out).trans h8
            obtain ⟨wz, hwz⟩ : ∃ wz : World, wz = w8 := ⟨_, rfl⟩
            subst hwz
            have hJ := (HO.out).2.1.ext hx8
            obtain ⟨b, off, rfl⟩ : ∃ b off, a = some ⟨b, off, none⟩ := let ⟨b, off, e, _⟩ := hJ 0 (by rw [HLL.out]; omega); ⟨b, off, e⟩
            have HJZ := Lib.hid hJ
            have HXZ := Lib.hid hx8
            have HMC := Lib.hid fun W v base N X (h : Ext wz W) ho (hN : N = ll - 1) hX => (hmc2 k).out W v base N X (hx8.trans h) ho hN hX hkl
            clear hmc2 hJ hx8 h8
            rw [← HK.out]
            have hkl' : (k : Int) < (ll : Int) := by omega
            have hk1 : (k : Int) + 1 ≤ (ll : Int) := by omega
            have hkc : (k : Int) ≤ (cap : Int) := by omega
            have hw1 : IntKind.i64.wrap ((k : Int) + 1) = (k : Int) + 1 := IntWalk.i64_in _ (by omega)
            have hw2 : 0 ≤ (k : Int) + 1 := by omega
            have hw3 : ((k : Int) + 1).toNat = k + 1 := by omega
            have hle1 : ll ≤ l.length := by rw [HLL.out]; exact Nat.le_refl _
            by_cases hcap : cap = k + 1
            · obtain rfl : cap = ll := by omega
              have hkc4 : k + 1 = cap := by omega
              have HNX : Hid (∀ _ : Unit, [] ++ (l.take k).flatMap J.cells ++ (l.take 0).flatMap J.cells = (l.take k ++ l.drop (k + 1)).flatMap J.cells) := Lib.hid fun _ => by
                rw [List.drop_of_length_le (by rw [HLL.out, hcap]; exact Nat.le_refl _)]; simp
              clear hcap
              go_region_held3 (fun W => Ext wz W)
                (first | assumption | exact (Ext.refl _).drew | exact (Ext.new _ _).drew | exact Ext.new _ _ | exact Ext.drew (by assumption) | exact Ext.alloc (by assumption) _ | exact (Ext.alloc (by assumption) _).drew | exact Below.trans (by assumption) (by assumption) | exact Ext.trans (by assumption) (by assumption))
                (first
                  | ((refine step_appX rtJob (by rfl) _ _ (by rfl) wz.heap.size (v := .slice (some ⟨wz.heap.size, 0, none⟩) 0 0) (n := 0) (xs := []) (by rfl) (own_empty (by decide) (by exact alloc_at _ _ _ (by simp)) (by omega)) (m := k) (by rfl) (src_jrow0 (JRow.ext HJZ.out (by first | assumption | exact (Ext.refl _).drew | exact (Ext.new _ _).drew | exact Ext.new _ _)) k _ (by omega)) (one_jobs _) (by omega) (by decide) (Below.size (by assumption)) ?_; intro v1 w1 hown1 hb1 hg1))
                  | ((refine step_appX rtJob (by rfl) _ _ (by rfl) wz.heap.size (v := v1) (n := 0 + k) (by rfl) (by first | exact hown1 | exact hown1.alloc _) (m := 0) (by rfl) (src_jrow0 (JRow.ext HJZ.out (by assumption)) 0 _ (by omega)) (one_jobs _) (by omega) (by decide) (Below.size (by assumption)) ?_; intro v2 w2 hown2 hb2 hg2))
                  | (go_at_call 40; (refine (HMC.out _ _ _ _ _ (by assumption) hown2 (by omega) (HNX.out ())).mono ?_); rintro e w3 ⟨rfl, hE3⟩))
              all_goals
                have hxe : Ext wz w3 := by assumption
                go_wp2_with fail
                go_ret
                exact ⟨rfl, (HXZ.out).trans hxe⟩
            · have HNX : Hid (∀ _ : Unit, [] ++ (l.take k).flatMap J.cells ++ ((l.drop (k + 1)).take (ll - (k + 1))).flatMap J.cells = (l.take k ++ l.drop (k + 1)).flatMap J.cells) := Lib.hid fun _ => by
                rw [List.take_of_length_le (l := l.drop (k + 1)) (by rw [List.length_drop, HLL.out]; exact Nat.le_refl _), List.flatMap_append]; simp
              go_region_held3 (fun W => Ext wz W)
                (first | assumption | exact (Ext.refl _).drew | exact (Ext.new _ _).drew | exact Ext.new _ _ | exact Ext.drew (by assumption) | exact Ext.alloc (by assumption) _ | exact (Ext.alloc (by assumption) _).drew | exact Below.trans (by assumption) (by assumption) | exact Ext.trans (by assumption) (by assumption))
                (first
                  | ((refine step_appX rtJob (by rfl) _ _ (by rfl) wz.heap.size (v := .slice (some ⟨wz.heap.size, 0, none⟩) 0 0) (n := 0) (xs := []) (by rfl) (own_empty (by decide) (by exact alloc_at _ _ _ (by simp)) (by omega)) (m := k) (by rfl) (src_jrow0 (JRow.ext HJZ.out (by first | assumption | exact (Ext.refl _).drew | exact (Ext.new _ _).drew | exact Ext.new _ _)) k _ (by omega)) (one_jobs _) (by omega) (by decide) (Below.size (by assumption)) ?_; intro v1 w1 hown1 hb1 hg1))
                  | ((refine step_appX rtJob (by rfl) _ _ (by rfl) wz.heap.size (v := v1) (n := 0 + k) (by rfl) (by first | exact hown1 | exact hown1.alloc _) (m := (ll - (k + 1))) (by rfl) (src_jrow (JRow.ext HJZ.out (by assumption)) (k + 1) (ll - (k + 1)) _ (by omega)) (one_jobs _) (by omega) (by decide) (Below.size (by assumption)) ?_; intro v2 w2 hown2 hb2 hg2))
                  | (go_at_call 40; (refine (HMC.out _ _ _ _ _ (by assumption) hown2 (by omega) (HNX.out ())).mono ?_); rintro e w3 ⟨rfl, hE3⟩))
              all_goals
                have hxe : Ext wz w3 := by assumption
                go_wp2_with fail
                go_ret
                exact ⟨rfl, (HXZ.out).trans hxe⟩
      | true =>
        rw [hfb] at HF
        have HFB := Lib.hid hfb
        clear hfb h0
        go_upto_region 6 with (go_at_call 35; go_must (with_reducible refine (HF.out _ HX.out).mono ?_); rintro e w3 ⟨rfl, h3⟩)
        have hx3 := (HX.out).trans h3
        clear h3
        obtain ⟨b', off', rfl⟩ : ∃ b off, an = some ⟨b, off, none⟩ := let ⟨b, off, e, _⟩ := (HO.out).1 0 (by rw [(HO.out).2.2.2.2]; omega); ⟨b, off, e⟩
        have hsrc := src_prow (HO.out).1 rfl cn
        rw [(HO.out).2.2.2.2] at hsrc
        have HSRC : Hid (∀ W, Ext w W → SrcR W 2 (.slice (some ⟨b', off', none⟩) nl cn) nl (n.flatMap pairC)) := Lib.hid fun W h => by
          have := src_prow ((HO.out).1.ext h) rfl cn
          rwa [(HO.out).2.2.2.2] at this
        clear hsrc
        go_upto_region 7 with (at_builtin; go_must (refine wpList_appX rtLeft rfl _ _ rfl w3.heap.size (v := .slice (some ⟨w3.heap.size, 0, none⟩) 0 0) (n := 0) (xs := []) rfl (own_empty (by decide) (alloc_at _ _ _ rfl) (Nat.le_refl _)) rfl (HSRC.out _ (hx3.alloc _)) (one_pairs n) (by omega) (by decide) (by simp) ?_); intro v5 w5 hown5 hb5 hg5)
        have hx5 : Ext w w5 := hx3.trans (Below.trans (Ext.new _ _) hb5)
        rw [Nat.zero_add, List.nil_append, ← (HO.out).2.2.2.2] at hown5
        obtain ⟨g, cg, rfl, hpa, hgb⟩ := own_parr hown5 (by rw [(HO.out).2.2.2.2]; exact hnl0)
        rw [(HO.out).2.2.2.2]
        have hgw : w.heap.size ≤ g := Nat.le_trans hx3.size hgb
        obtain ⟨kk, hkk, hkkl⟩ := modN at_ hnl0
        have HKK := Lib.hid hkk
        clear hown5 hb5 hg5 hkk
        go_upto_region 8 with fail
        rw [← HKK.out]
        have hkn : kk < n.length := by rw [(HO.out).2.2.2.2]; exact hkkl
        have hkz : (kk : Int) < (nl : Int) := by omega
        obtain ⟨g', o', he', _, c0, c1⟩ := hpa.row kk hkn
        obtain ⟨rfl, rfl⟩ : g' = g ∧ o' = 0 := by injection he' with e; injection e with e1 e2; exact ⟨e1.symm, e2.symm⟩
        rw [Nat.zero_add] at c0 c1
        have f1 := hpa.frozen (kk * 2 + 1)
        have hmb := ((fits_iff now n).1 HFB.out).1
        have hbd := (mayB_mem hmb).2.2 _ (List.getElem_mem hkn)
        obtain ⟨x, hxe⟩ : ∃ x, n[kk].1 = x := ⟨_, rfl⟩
        obtain ⟨y, hye⟩ : ∃ y, n[kk].2 = y := ⟨_, rfl⟩
        rw [hxe] at c0 hbd
        rw [hye] at c1 hbd
        have hxy : n[kk] = (x, y) := Prod.ext hxe hye
        have HXY := Lib.hid hxy
        clear hxe hye he' hmb
        by_cases hgt : -100000 < y
        · have hpa1 := hpa.setN hkn (y - by_)
          rw [hxy] at hpa1
          have hfit1 := fits_set HFB.out kk (x, y - by_) hkn (by rw [hxy]; exact Int.le_refl _) (by rw [hxy]; show y - by_ ≤ y; omega) (by unfold inM; simp; omega)
          have hx1 : Ext w (w5.setCell ⟨g', kk * 2 + 1, none⟩ (.int .i64 (y - by_))) := (((hx5.kp [g']).setCell (p := ⟨g', kk * 2 + 1, none⟩) (by simp) _).below (Nat.le_refl _) (by simpa using hgw))
          have hat1 : (n.set kk (x, y - by_))[kk]'(by simp; exact hkn) = (x, y - by_) := by simp
          clear hxy
          go_upto_region 10 with fail
          generalize w5.setCell ⟨g', kk * 2 + 1, none⟩ (.int .i64 (y - by_)) = W1x at *
          clear c0 c1 f1 hpa hx5
          have hml1 : (n.set kk (x, y - by_)).length = nl := by simp [(HO.out).2.2.2.2]
          have hF1 : Hid (∀ W, Ext W1x W → Calls Tryd.prog 35 #[.int .i64 now, .slice (some ⟨g', 0, none⟩) nl cg] W fun e w' => e = .returned (.bool true) ∧ Ext W w') := Lib.hid fun W h => by
            have h0 := fits_any now (n.set kk (x, y - by_)) (some ⟨g', 0, none⟩) cg W (by rw [hml1]; unfold bigS; omega) ((PArr.row hpa1).ext h)
            rwa [hfit1, hml1] at h0
          go_upto_region 12 with (go_at_call 35; go_must (with_reducible refine (hF1.out _ (Ext.refl _)).mono ?_); rintro e w6 ⟨rfl, h6⟩)
          have hpa2 := hpa1.ext h6
          have hx6 := hx1.trans h6
          obtain ⟨_, _, he2, _, q0, q1⟩ := hpa2.row kk (by rw [hml1]; exact hkkl)
          injection he2 with he2
          injection he2 with e1 e2
          subst e1 e2
          rw [Nat.zero_add] at q0 q1
          have q2 := hpa2.frozen (kk * 2)
          rw [hat1] at q0
          clear hF1 q1
          have hpa3 := hpa2.setD (i := kk) (by rw [hml1]; exact hkkl) (x + by_)
          have hat1' := hat1
          rw [hat1] at hpa3
          have hx7 : Ext w (w6.setCell ⟨g', kk * 2, none⟩ (.int .i64 (x + by_))) := (((hx6.kp [g']).setCell (p := ⟨g', kk * 2, none⟩) (by simp) _).below (Nat.le_refl _) (by simpa using hgw))
          go_upto_region 13 with fail
          have q3 : (w6.setCell ⟨g', kk * 2, none⟩ (.int .i64 (x + by_))).cell? ⟨g', kk * 2, none⟩ = some (.int .i64 (x + by_)) := by
            obtain ⟨_, _, he2, _, q0, _⟩ := hpa3.row kk (by rw [List.length_set, hml1]; exact hkkl)
            injection he2 with he2
            injection he2 with e1 e2
            subst e1 e2
            simpa using q0
          have hml2 : ((n.set kk (x, y - by_)).set kk (x + by_, (y - by_))).length = nl := by rw [List.length_set]; exact hml1
          have hfit2 : x + by_ ≤ 1000000 → fitsB now ((n.set kk (x, y - by_)).set kk (x + by_, (y - by_))) = true := fun hd => fits_set hfit1 kk (x + by_, (y - by_)) (by rw [hml1]; exact hkkl) (by rw [hat1]; show x ≤ x + by_; omega) (by rw [hat1]; exact Int.le_refl _) (by unfold inM; simp; omega)
          generalize w6.setCell ⟨g', kk * 2, none⟩ (.int .i64 (x + by_)) = w7 at *
          clear q0 q2 hpa2 hpa1 hx6 h6 hfit1 hat1 hat1'
          by_cases hd : x + by_ ≤ 1000000
          · have hfit3 := hfit2 hd
            have hF2 : Hid (∀ W, Ext w7 W → Calls Tryd.prog 35 #[.int .i64 now, .slice (some ⟨g', 0, none⟩) nl cg] W fun e w' => e = .returned (.bool true) ∧ Ext W w') := Lib.hid fun W h => by
              have h0 := fits_any now _ (some ⟨g', 0, none⟩) cg W (by rw [hml2]; unfold bigS; omega) ((PArr.row hpa3).ext h)
              rwa [hfit3, hml2] at h0
            clear hpa3 hfit2 hfit3 hml1 hml2
            go_upto_region 15 with (go_at_call 35; go_must (with_reducible refine (hF2.out _ (Ext.refl _)).mono ?_); rintro e w8 ⟨rfl, h8⟩)
            have hx4 := hx7.trans h8
            clear hx7 h8 q3 hF2 hd hgt hbd hkz hkn hgw hgb hx3 HSRC HKK HXY HF HFB CA CH
            have HX4 := Lib.hid hx4
            clear hx4
            by_cases hl0 : ll = 0
            · have l0b : decide (0 < ll) = false := decide_eq_false (by omega)
              have l1b : ll < 1 := by omega
              clear hl0 hmc
              go_wp2_with fail
              go_ret
              exact ⟨rfl, HX4.out⟩
            · have hll0 : 0 < ll := by omega
              cases hmb : meetsB l with
              | false =>
                rw [hmb] at HME
                clear hmb hl0 hmc
                go_wp2_with (go_at_call 40; go_must (with_reducible refine (HME.out _ HX4.out).mono ?_); rintro e w8 ⟨rfl, h8⟩)
                go_ret
                exact ⟨rfl, (HX4.out).trans h8⟩
              | true =>
                have hmc2 := hmc hmb
                rw [hmb] at HME
                clear hmb hl0 hmc
                obtain ⟨k, hk, hkl⟩ := modN at_ hll0
                have HK := Lib.hid hk
                clear hk
                go_upto_region 17 with (go_at_call 40; go_must (with_reducible refine (HME.out _ HX4.out).mono ?_); rintro e w8 ⟨rfl, h8⟩)
                have hx8 := (HX4.out).trans h8
                obtain ⟨wz, hwz⟩ : ∃ wz : World, wz = w8 := ⟨_, rfl⟩
                subst hwz
                have hJ := (HO.out).2.1.ext hx8
                obtain ⟨b, off, rfl⟩ : ∃ b off, a = some ⟨b, off, none⟩ := let ⟨b, off, e, _⟩ := hJ 0 (by rw [HLL.out]; omega); ⟨b, off, e⟩
                have HJZ := Lib.hid hJ
                have HXZ := Lib.hid hx8
                have HMC := Lib.hid fun W v base N X (h : Ext wz W) ho (hN : N = ll - 1) hX => (hmc2 k).out W v base N X (hx8.trans h) ho hN hX hkl
                clear hmc2 hJ hx8 h8
                rw [← HK.out]
                have hkl' : (k : Int) < (ll : Int) := by omega
                have hk1 : (k : Int) + 1 ≤ (ll : Int) := by omega
                have hkc : (k : Int) ≤ (cap : Int) := by omega
                have hw1 : IntKind.i64.wrap ((k : Int) + 1) = (k : Int) + 1 := IntWalk.i64_in _ (by omega)
                have hw2 : 0 ≤ (k : Int) + 1 := by omega
                have hw3 : ((k : Int) + 1).toNat = k + 1 := by omega
                have hle1 : ll ≤ l.length := by rw [HLL.out]; exact Nat.le_refl _
                by_cases hcap : cap = k + 1
                · obtain rfl : cap = ll := by omega
                  have hkc4 : k + 1 = cap := by omega
                  have HNX : Hid (∀ _ : Unit, [] ++ (l.take k).flatMap J.cells ++ (l.take 0).flatMap J.cells = (l.take k ++ l.drop (k + 1)).flatMap J.cells) := Lib.hid fun _ => by
                    rw [List.drop_of_length_le (by rw [HLL.out, hcap]; exact Nat.le_refl _)]; simp
                  clear hcap
                  go_region_held3 (fun W => Ext wz W)
                    (first | assumption | exact (Ext.refl _).drew | exact (Ext.new _ _).drew | exact Ext.new _ _ | exact Ext.drew (by assumption) | exact Ext.alloc (by assumption) _ | exact (Ext.alloc (by assumption) _).drew | exact Below.trans (by assumption) (by assumption) | exact Ext.trans (by assumption) (by assumption))
                    (first
                      | ((refine step_appX rtJob (by rfl) _ _ (by rfl) wz.heap.size (v := .slice (some ⟨wz.heap.size, 0, none⟩) 0 0) (n := 0) (xs := []) (by rfl) (own_empty (by decide) (by exact alloc_at _ _ _ (by simp)) (by omega)) (m := k) (by rfl) (src_jrow0 (JRow.ext HJZ.out (by first | assumption | exact (Ext.refl _).drew | exact (Ext.new _ _).drew | exact Ext.new _ _)) k _ (by omega)) (one_jobs _) (by omega) (by decide) (Below.size (by assumption)) ?_; intro v1 w1 hown1 hb1 hg1))
                      | ((refine step_appX rtJob (by rfl) _ _ (by rfl) wz.heap.size (v := v1) (n := 0 + k) (by rfl) (by first | exact hown1 | exact hown1.alloc _) (m := 0) (by rfl) (src_jrow0 (JRow.ext HJZ.out (by assumption)) 0 _ (by omega)) (one_jobs _) (by omega) (by decide) (Below.size (by assumption)) ?_; intro v2 w2 hown2 hb2 hg2))
                      | (go_at_call 40; (refine (HMC.out _ _ _ _ _ (by assumption) hown2 (by omega) (HNX.out ())).mono ?_); rintro e w3 ⟨rfl, hE3⟩))
                  all_goals
                    have hxe : Ext wz w3 := by assumption
                    go_wp2_with fail
                    go_ret
                    exact ⟨rfl, (HXZ.out).trans hxe⟩
                · have HNX : Hid (∀ _ : Unit, [] ++ (l.take k).flatMap J.cells ++ ((l.drop (k + 1)).take (ll - (k + 1))).flatMap J.cells = (l.take k ++ l.drop (k + 1)).flatMap J.cells) := Lib.hid fun _ => by
                    rw [List.take_of_length_le (l := l.drop (k + 1)) (by rw [List.length_drop, HLL.out]; exact Nat.le_refl _), List.flatMap_append]; simp
                  go_region_held3 (fun W => Ext wz W)
                    (first | assumption | exact (Ext.refl _).drew | exact (Ext.new _ _).drew | exact Ext.new _ _ | exact Ext.drew (by assumption) | exact Ext.alloc (by assumption) _ | exact (Ext.alloc (by assumption) _).drew | exact Below.trans (by assumption) (by assumption) | exact Ext.trans (by assumption) (by assumption))
                    (first
                      | ((refine step_appX rtJob (by rfl) _ _ (by rfl) wz.heap.size (v := .slice (some ⟨wz.heap.size, 0, none⟩) 0 0) (n := 0) (xs := []) (by rfl) (own_empty (by decide) (by exact alloc_at _ _ _ (by simp)) (by omega)) (m := k) (by rfl) (src_jrow0 (JRow.ext HJZ.out (by first | assumption | exact (Ext.refl _).drew | exact (Ext.new _ _).drew | exact Ext.new _ _)) k _ (by omega)) (one_jobs _) (by omega) (by decide) (Below.size (by assumption)) ?_; intro v1 w1 hown1 hb1 hg1))
                      | ((refine step_appX rtJob (by rfl) _ _ (by rfl) wz.heap.size (v := v1) (n := 0 + k) (by rfl) (by first | exact hown1 | exact hown1.alloc _) (m := (ll - (k + 1))) (by rfl) (src_jrow (JRow.ext HJZ.out (by assumption)) (k + 1) (ll - (k + 1)) _ (by omega)) (one_jobs _) (by omega) (by decide) (Below.size (by assumption)) ?_; intro v2 w2 hown2 hb2 hg2))
                      | (go_at_call 40; (refine (HMC.out _ _ _ _ _ (by assumption) hown2 (by omega) (HNX.out ())).mono ?_); rintro e w3 ⟨rfl, hE3⟩))
                  all_goals
                    have hxe : Ext wz w3 := by assumption
                    go_wp2_with fail
                    go_ret
                    exact ⟨rfl, (HXZ.out).trans hxe⟩
          · clear hpa3 hfit2 hml1 hml2
            go_upto_region 15 with fail
            have hx4 := hx7
            clear hx7 q3 hd hgt hbd hkz hkn hgw hgb hx3 HSRC HKK HXY HF HFB CA CH
            have HX4 := Lib.hid hx4
            clear hx4
            by_cases hl0 : ll = 0
            · have l0b : decide (0 < ll) = false := decide_eq_false (by omega)
              have l1b : ll < 1 := by omega
              clear hl0 hmc
              go_wp2_with fail
              go_ret
              exact ⟨rfl, HX4.out⟩
            · have hll0 : 0 < ll := by omega
              cases hmb : meetsB l with
              | false =>
                rw [hmb] at HME
                clear hmb hl0 hmc
                go_wp2_with (go_at_call 40; go_must (with_reducible refine (HME.out _ HX4.out).mono ?_); rintro e w8 ⟨rfl, h8⟩)
                go_ret
                exact ⟨rfl, (HX4.out).trans h8⟩
              | true =>
                have hmc2 := hmc hmb
                rw [hmb] at HME
                clear hmb hl0 hmc
                obtain ⟨k, hk, hkl⟩ := modN at_ hll0
                have HK := Lib.hid hk
                clear hk
                go_upto_region 17 with (go_at_call 40; go_must (with_reducible refine (HME.out _ HX4.out).mono ?_); rintro e w8 ⟨rfl, h8⟩)
                have hx8 := (HX4.out).trans h8
                obtain ⟨wz, hwz⟩ : ∃ wz : World, wz = w8 := ⟨_, rfl⟩
                subst hwz
                have hJ := (HO.out).2.1.ext hx8
                obtain ⟨b, off, rfl⟩ : ∃ b off, a = some ⟨b, off, none⟩ := let ⟨b, off, e, _⟩ := hJ 0 (by rw [HLL.out]; omega); ⟨b, off, e⟩
                have HJZ := Lib.hid hJ
                have HXZ := Lib.hid hx8
                have HMC := Lib.hid fun W v base N X (h : Ext wz W) ho (hN : N = ll - 1) hX => (hmc2 k).out W v base N X (hx8.trans h) ho hN hX hkl
                clear hmc2 hJ hx8 h8
                rw [← HK.out]
                have hkl' : (k : Int) < (ll : Int) := by omega
                have hk1 : (k : Int) + 1 ≤ (ll : Int) := by omega
                have hkc : (k : Int) ≤ (cap : Int) := by omega
                have hw1 : IntKind.i64.wrap ((k : Int) + 1) = (k : Int) + 1 := IntWalk.i64_in _ (by omega)
                have hw2 : 0 ≤ (k : Int) + 1 := by omega
                have hw3 : ((k : Int) + 1).toNat = k + 1 := by omega
                have hle1 : ll ≤ l.length := by rw [HLL.out]; exact Nat.le_refl _
                by_cases hcap : cap = k + 1
                · obtain rfl : cap = ll := by omega
                  have hkc4 : k + 1 = cap := by omega
                  have HNX : Hid (∀ _ : Unit, [] ++ (l.take k).flatMap J.cells ++ (l.take 0).flatMap J.cells = (l.take k ++ l.drop (k + 1)).flatMap J.cells) := Lib.hid fun _ => by
                    rw [List.drop_of_length_le (by rw [HLL.out, hcap]; exact Nat.le_refl _)]; simp
                  clear hcap
                  go_region_held3 (fun W => Ext wz W)
                    (first | assumption | exact (Ext.refl _).drew | exact (Ext.new _ _).drew | exact Ext.new _ _ | exact Ext.drew (by assumption) | exact Ext.alloc (by assumption) _ | exact (Ext.alloc (by assumption) _).drew | exact Below.trans (by assumption) (by assumption) | exact Ext.trans (by assumption) (by assumption))
                    (first
                      | ((refine step_appX rtJob (by rfl) _ _ (by rfl) wz.heap.size (v := .slice (some ⟨wz.heap.size, 0, none⟩) 0 0) (n := 0) (xs := []) (by rfl) (own_empty (by decide) (by exact alloc_at _ _ _ (by simp)) (by omega)) (m := k) (by rfl) (src_jrow0 (JRow.ext HJZ.out (by first | assumption | exact (Ext.refl _).drew | exact (Ext.new _ _).drew | exact Ext.new _ _)) k _ (by omega)) (one_jobs _) (by omega) (by decide) (Below.size (by assumption)) ?_; intro v1 w1 hown1 hb1 hg1))
                      | ((refine step_appX rtJob (by rfl) _ _ (by rfl) wz.heap.size (v := v1) (n := 0 + k) (by rfl) (by first | exact hown1 | exact hown1.alloc _) (m := 0) (by rfl) (src_jrow0 (JRow.ext HJZ.out (by assumption)) 0 _ (by omega)) (one_jobs _) (by omega) (by decide) (Below.size (by assumption)) ?_; intro v2 w2 hown2 hb2 hg2))
                      | (go_at_call 40; (refine (HMC.out _ _ _ _ _ (by assumption) hown2 (by omega) (HNX.out ())).mono ?_); rintro e w3 ⟨rfl, hE3⟩))
                  all_goals
                    have hxe : Ext wz w3 := by assumption
                    go_wp2_with fail
                    go_ret
                    exact ⟨rfl, (HXZ.out).trans hxe⟩
                · have HNX : Hid (∀ _ : Unit, [] ++ (l.take k).flatMap J.cells ++ ((l.drop (k + 1)).take (ll - (k + 1))).flatMap J.cells = (l.take k ++ l.drop (k + 1)).flatMap J.cells) := Lib.hid fun _ => by
                    rw [List.take_of_length_le (l := l.drop (k + 1)) (by rw [List.length_drop, HLL.out]; exact Nat.le_refl _), List.flatMap_append]; simp
                  go_region_held3 (fun W => Ext wz W)
                    (first | assumption | exact (Ext.refl _).drew | exact (Ext.new _ _).drew | exact Ext.new _ _ | exact Ext.drew (by assumption) | exact Ext.alloc (by assumption) _ | exact (Ext.alloc (by assumption) _).drew | exact Below.trans (by assumption) (by assumption) | exact Ext.trans (by assumption) (by assumption))
                    (first
                      | ((refine step_appX rtJob (by rfl) _ _ (by rfl) wz.heap.size (v := .slice (some ⟨wz.heap.size, 0, none⟩) 0 0) (n := 0) (xs := []) (by rfl) (own_empty (by decide) (by exact alloc_at _ _ _ (by simp)) (by omega)) (m := k) (by rfl) (src_jrow0 (JRow.ext HJZ.out (by first | assumption | exact (Ext.refl _).drew | exact (Ext.new _ _).drew | exact Ext.new _ _)) k _ (by omega)) (one_jobs _) (by omega) (by decide) (Below.size (by assumption)) ?_; intro v1 w1 hown1 hb1 hg1))
                      | ((refine step_appX rtJob (by rfl) _ _ (by rfl) wz.heap.size (v := v1) (n := 0 + k) (by rfl) (by first | exact hown1 | exact hown1.alloc _) (m := (ll - (k + 1))) (by rfl) (src_jrow (JRow.ext HJZ.out (by assumption)) (k + 1) (ll - (k + 1)) _ (by omega)) (one_jobs _) (by omega) (by decide) (Below.size (by assumption)) ?_; intro v2 w2 hown2 hb2 hg2))
                      | (go_at_call 40; (refine (HMC.out _ _ _ _ _ (by assumption) hown2 (by omega) (HNX.out ())).mono ?_); rintro e w3 ⟨rfl, hE3⟩))
                  all_goals
                    have hxe : Ext wz w3 := by assumption
                    go_wp2_with fail
                    go_ret
                    exact ⟨rfl, (HXZ.out).trans hxe⟩
        · have hpa1 := hpa
          have hfit1 := HFB.out
          have hx1 := hx5
          have hat1 : n[kk] = (x, y) := HXY.out
          clear hxy
          go_upto_region 10 with fail
          obtain ⟨W1x, hW1⟩ : ∃ W : World, W = w5 := ⟨_, rfl⟩
          subst hW1
          clear c0 c1 f1 hpa hx5
          have hml1 : (n).length = nl := by simp [(HO.out).2.2.2.2]
          have hF1 : Hid (∀ W, Ext W1x W → Calls Tryd.prog 35 #[.int .i64 now, .slice (some ⟨g', 0, none⟩) nl cg] W fun e w' => e = .returned (.bool true) ∧ Ext W w') := Lib.hid fun W h => by
            have h0 := fits_any now (n) (some ⟨g', 0, none⟩) cg W (by rw [hml1]; unfold bigS; omega) ((PArr.row hpa1).ext h)
            rwa [hfit1, hml1] at h0
          go_upto_region 12 with (go_at_call 35; go_must (with_reducible refine (hF1.out _ (Ext.refl _)).mono ?_); rintro e w6 ⟨rfl, h6⟩)
          have hpa2 := hpa1.ext h6
          have hx6 := hx1.trans h6
          obtain ⟨_, _, he2, _, q0, q1⟩ := hpa2.row kk (by rw [hml1]; exact hkkl)
          injection he2 with he2
          injection he2 with e1 e2
          subst e1 e2
          rw [Nat.zero_add] at q0 q1
          have q2 := hpa2.frozen (kk * 2)
          rw [hat1] at q0
          clear hF1 q1
          have hpa3 := hpa2.setD (i := kk) (by rw [hml1]; exact hkkl) (x + by_)
          have hat1' := hat1
          rw [hat1] at hpa3
          have hx7 : Ext w (w6.setCell ⟨g', kk * 2, none⟩ (.int .i64 (x + by_))) := (((hx6.kp [g']).setCell (p := ⟨g', kk * 2, none⟩) (by simp) _).below (Nat.le_refl _) (by simpa using hgw))
          go_upto_region 13 with fail
          have q3 : (w6.setCell ⟨g', kk * 2, none⟩ (.int .i64 (x + by_))).cell? ⟨g', kk * 2, none⟩ = some (.int .i64 (x + by_)) := by
            obtain ⟨_, _, he2, _, q0, _⟩ := hpa3.row kk (by rw [List.length_set, hml1]; exact hkkl)
            injection he2 with he2
            injection he2 with e1 e2
            subst e1 e2
            simpa using q0
          have hml2 : ((n).set kk (x + by_, y)).length = nl := by rw [List.length_set]; exact hml1
          have hfit2 : x + by_ ≤ 1000000 → fitsB now ((n).set kk (x + by_, y)) = true := fun hd => fits_set hfit1 kk (x + by_, y) (by rw [hml1]; exact hkkl) (by rw [hat1]; show x ≤ x + by_; omega) (by rw [hat1]; exact Int.le_refl _) (by unfold inM; simp; omega)
          generalize w6.setCell ⟨g', kk * 2, none⟩ (.int .i64 (x + by_)) = w7 at *
          clear q0 q2 hpa2 hpa1 hx6 h6 hfit1 hat1 hat1'
          by_cases hd : x + by_ ≤ 1000000
          · have hfit3 := hfit2 hd
            have hF2 : Hid (∀ W, Ext w7 W → Calls Tryd.prog 35 #[.int .i64 now, .slice (some ⟨g', 0, none⟩) nl cg] W fun e w' => e = .returned (.bool true) ∧ Ext W w') := Lib.hid fun W h => by
              have h0 := fits_any now _ (some ⟨g', 0, none⟩) cg W (by rw [hml2]; unfold bigS; omega) ((PArr.row hpa3).ext h)
              rwa [hfit3, hml2] at h0
            clear hpa3 hfit2 hfit3 hml1 hml2
            go_upto_region 15 with (go_at_call 35; go_must (with_reducible refine (hF2.out _ (Ext.refl _)).mono ?_); rintro e w8 ⟨rfl, h8⟩)
            have hx4 := hx7.trans h8
            clear hx7 h8 q3 hF2 hd hgt hbd hkz hkn hgw hgb hx3 HSRC HKK HXY HF HFB CA CH
            have HX4 := Lib.hid hx4
            clear hx4
            by_cases hl0 : ll = 0
            · have l0b : decide (0 < ll) = false := decide_eq_false (by omega)
              have l1b : ll < 1 := by omega
              clear hl0 hmc
              go_wp2_with fail
              go_ret
              exact ⟨rfl, HX4.out⟩
            · have hll0 : 0 < ll := by omega
              cases hmb : meetsB l with
              | false =>
                rw [hmb] at HME
                clear hmb hl0 hmc
                go_wp2_with (go_at_call 40; go_must (with_reducible refine (HME.out _ HX4.out).mono ?_); rintro e w8 ⟨rfl, h8⟩)
                go_ret
                exact ⟨rfl, (HX4.out).trans h8⟩
              | true =>
                have hmc2 := hmc hmb
                rw [hmb] at HME
                clear hmb hl0 hmc
                obtain ⟨k, hk, hkl⟩ := modN at_ hll0
                have HK := Lib.hid hk
                clear hk
                go_upto_region 17 with (go_at_call 40; go_must (with_reducible refine (HME.out _ HX4.out).mono ?_); rintro e w8 ⟨rfl, h8⟩)
                have hx8 := (HX4.out).trans h8
                obtain ⟨wz, hwz⟩ : ∃ wz : World, wz = w8 := ⟨_, rfl⟩
                subst hwz
                have hJ := (HO.out).2.1.ext hx8
                obtain ⟨b, off, rfl⟩ : ∃ b off, a = some ⟨b, off, none⟩ := let ⟨b, off, e, _⟩ := hJ 0 (by rw [HLL.out]; omega); ⟨b, off, e⟩
                have HJZ := Lib.hid hJ
                have HXZ := Lib.hid hx8
                have HMC := Lib.hid fun W v base N X (h : Ext wz W) ho (hN : N = ll - 1) hX => (hmc2 k).out W v base N X (hx8.trans h) ho hN hX hkl
                clear hmc2 hJ hx8 h8
                rw [← HK.out]
                have hkl' : (k : Int) < (ll : Int) := by omega
                have hk1 : (k : Int) + 1 ≤ (ll : Int) := by omega
                have hkc : (k : Int) ≤ (cap : Int) := by omega
                have hw1 : IntKind.i64.wrap ((k : Int) + 1) = (k : Int) + 1 := IntWalk.i64_in _ (by omega)
                have hw2 : 0 ≤ (k : Int) + 1 := by omega
                have hw3 : ((k : Int) + 1).toNat = k + 1 := by omega
                have hle1 : ll ≤ l.length := by rw [HLL.out]; exact Nat.le_refl _
                by_cases hcap : cap = k + 1
                · obtain rfl : cap = ll := by omega
                  have hkc4 : k + 1 = cap := by omega
                  have HNX : Hid (∀ _ : Unit, [] ++ (l.take k).flatMap J.cells ++ (l.take 0).flatMap J.cells = (l.take k ++ l.drop (k + 1)).flatMap J.cells) := Lib.hid fun _ => by
                    rw [List.drop_of_length_le (by rw [HLL.out, hcap]; exact Nat.le_refl _)]; simp
                  clear hcap
                  go_region_held3 (fun W => Ext wz W)
                    (first | assumption | exact (Ext.refl _).drew | exact (Ext.new _ _).drew | exact Ext.new _ _ | exact Ext.drew (by assumption) | exact Ext.alloc (by assumption) _ | exact (Ext.alloc (by assumption) _).drew | exact Below.trans (by assumption) (by assumption) | exact Ext.trans (by assumption) (by assumption))
                    (first
                      | ((refine step_appX rtJob (by rfl) _ _ (by rfl) wz.heap.size (v := .slice (some ⟨wz.heap.size, 0, none⟩) 0 0) (n := 0) (xs := []) (by rfl) (own_empty (by decide) (by exact alloc_at _ _ _ (by simp)) (by omega)) (m := k) (by rfl) (src_jrow0 (JRow.ext HJZ.out (by first | assumption | exact (Ext.refl _).drew | exact (Ext.new _ _).drew | exact Ext.new _ _)) k _ (by omega)) (one_jobs _) (by omega) (by decide) (Below.size (by assumption)) ?_; intro v1 w1 hown1 hb1 hg1))
                      | ((refine step_appX rtJob (by rfl) _ _ (by rfl) wz.heap.size (v := v1) (n := 0 + k) (by rfl) (by first | exact hown1 | exact hown1.alloc _) (m := 0) (by rfl) (src_jrow0 (JRow.ext HJZ.out (by assumption)) 0 _ (by omega)) (one_jobs _) (by omega) (by decide) (Below.size (by assumption)) ?_; intro v2 w2 hown2 hb2 hg2))
                      | (go_at_call 40; (refine (HMC.out _ _ _ _ _ (by assumption) hown2 (by omega) (HNX.out ())).mono ?_); rintro e w3 ⟨rfl, hE3⟩))
                  all_goals
                    have hxe : Ext wz w3 := by assumption
                    go_wp2_with fail
                    go_ret
                    exact ⟨rfl, (HXZ.out).trans hxe⟩
                · have HNX : Hid (∀ _ : Unit, [] ++ (l.take k).flatMap J.cells ++ ((l.drop (k + 1)).take (ll - (k + 1))).flatMap J.cells = (l.take k ++ l.drop (k + 1)).flatMap J.cells) := Lib.hid fun _ => by
                    rw [List.take_of_length_le (l := l.drop (k + 1)) (by rw [List.length_drop, HLL.out]; exact Nat.le_refl _), List.flatMap_append]; simp
                  go_region_held3 (fun W => Ext wz W)
                    (first | assumption | exact (Ext.refl _).drew | exact (Ext.new _ _).drew | exact Ext.new _ _ | exact Ext.drew (by assumption) | exact Ext.alloc (by assumption) _ | exact (Ext.alloc (by assumption) _).drew | exact Below.trans (by assumption) (by assumption) | exact Ext.trans (by assumption) (by assumption))
                    (first
                      | ((refine step_appX rtJob (by rfl) _ _ (by rfl) wz.heap.size (v := .slice (some ⟨wz.heap.size, 0, none⟩) 0 0) (n := 0) (xs := []) (by rfl) (own_empty (by decide) (by exact alloc_at _ _ _ (by simp)) (by omega)) (m := k) (by rfl) (src_jrow0 (JRow.ext HJZ.out (by first | assumption | exact (Ext.refl _).drew | exact (Ext.new _ _).drew | exact Ext.new _ _)) k _ (by omega)) (one_jobs _) (by omega) (by decide) (Below.size (by assumption)) ?_; intro v1 w1 hown1 hb1 hg1))
                      | ((refine step_appX rtJob (by rfl) _ _ (by rfl) wz.heap.size (v := v1) (n := 0 + k) (by rfl) (by first | exact hown1 | exact hown1.alloc _) (m := (ll - (k + 1))) (by rfl) (src_jrow (JRow.ext HJZ.out (by assumption)) (k + 1) (ll - (k + 1)) _ (by omega)) (one_jobs _) (by omega) (by decide) (Below.size (by assumption)) ?_; intro v2 w2 hown2 hb2 hg2))
                      | (go_at_call 40; (refine (HMC.out _ _ _ _ _ (by assumption) hown2 (by omega) (HNX.out ())).mono ?_); rintro e w3 ⟨rfl, hE3⟩))
                  all_goals
                    have hxe : Ext wz w3 := by assumption
                    go_wp2_with fail
                    go_ret
                    exact ⟨rfl, (HXZ.out).trans hxe⟩
          · clear hpa3 hfit2 hml1 hml2
            go_upto_region 15 with fail
            have hx4 := hx7
            clear hx7 q3 hd hgt hbd hkz hkn hgw hgb hx3 HSRC HKK HXY HF HFB CA CH
            have HX4 := Lib.hid hx4
            clear hx4
            by_cases hl0 : ll = 0
            · have l0b : decide (0 < ll) = false := decide_eq_false (by omega)
              have l1b : ll < 1 := by omega
              clear hl0 hmc
              go_wp2_with fail
              go_ret
              exact ⟨rfl, HX4.out⟩
            · have hll0 : 0 < ll := by omega
              cases hmb : meetsB l with
              | false =>
                rw [hmb] at HME
                clear hmb hl0 hmc
                go_wp2_with (go_at_call 40; go_must (with_reducible refine (HME.out _ HX4.out).mono ?_); rintro e w8 ⟨rfl, h8⟩)
                go_ret
                exact ⟨rfl, (HX4.out).trans h8⟩
              | true =>
                have hmc2 := hmc hmb
                rw [hmb] at HME
                clear hmb hl0 hmc
                obtain ⟨k, hk, hkl⟩ := modN at_ hll0
                have HK := Lib.hid hk
                clear hk
                go_upto_region 17 with (go_at_call 40; go_must (with_reducible refine (HME.out _ HX4.out).mono ?_); rintro e w8 ⟨rfl, h8⟩)
                have hx8 := (HX4.out).trans h8
                obtain ⟨wz, hwz⟩ : ∃ wz : World, wz = w8 := ⟨_, rfl⟩
                subst hwz
                have hJ := (HO.out).2.1.ext hx8
                obtain ⟨b, off, rfl⟩ : ∃ b off, a = some ⟨b, off, none⟩ := let ⟨b, off, e, _⟩ := hJ 0 (by rw [HLL.out]; omega); ⟨b, off, e⟩
                have HJZ := Lib.hid hJ
                have HXZ := Lib.hid hx8
                have HMC := Lib.hid fun W v base N X (h : Ext wz W) ho (hN : N = ll - 1) hX => (hmc2 k).out W v base N X (hx8.trans h) ho hN hX hkl
                clear hmc2 hJ hx8 h8
                rw [← HK.out]
                have hkl' : (k : Int) < (ll : Int) := by omega
                have hk1 : (k : Int) + 1 ≤ (ll : Int) := by omega
                have hkc : (k : Int) ≤ (cap : Int) := by omega
                have hw1 : IntKind.i64.wrap ((k : Int) + 1) = (k : Int) + 1 := IntWalk.i64_in _ (by omega)
                have hw2 : 0 ≤ (k : Int) + 1 := by omega
                have hw3 : ((k : Int) + 1).toNat = k + 1 := by omega
                have hle1 : ll ≤ l.length := by rw [HLL.out]; exact Nat.le_refl _
                by_cases hcap : cap = k + 1
                · obtain rfl : cap = ll := by omega
                  have hkc4 : k + 1 = cap := by omega
                  have HNX : Hid (∀ _ : Unit, [] ++ (l.take k).flatMap J.cells ++ (l.take 0).flatMap J.cells = (l.take k ++ l.drop (k + 1)).flatMap J.cells) := Lib.hid fun _ => by
                    rw [List.drop_of_length_le (by rw [HLL.out, hcap]; exact Nat.le_refl _)]; simp
                  clear hcap
                  go_region_held3 (fun W => Ext wz W)
                    (first | assumption | exact (Ext.refl _).drew | exact (Ext.new _ _).drew | exact Ext.new _ _ | exact Ext.drew (by assumption) | exact Ext.alloc (by assumption) _ | exact (Ext.alloc (by assumption) _).drew | exact Below.trans (by assumption) (by assumption) | exact Ext.trans (by assumption) (by assumption))
                    (first
                      | ((refine step_appX rtJob (by rfl) _ _ (by rfl) wz.heap.size (v := .slice (some ⟨wz.heap.size, 0, none⟩) 0 0) (n := 0) (xs := []) (by rfl) (own_empty (by decide) (by exact alloc_at _ _ _ (by simp)) (by omega)) (m := k) (by rfl) (src_jrow0 (JRow.ext HJZ.out (by first | assumption | exact (Ext.refl _).drew | exact (Ext.new _ _).drew | exact Ext.new _ _)) k _ (by omega)) (one_jobs _) (by omega) (by decide) (Below.size (by assumption)) ?_; intro v1 w1 hown1 hb1 hg1))
                      | ((refine step_appX rtJob (by rfl) _ _ (by rfl) wz.heap.size (v := v1) (n := 0 + k) (by rfl) (by first | exact hown1 | exact hown1.alloc _) (m := 0) (by rfl) (src_jrow0 (JRow.ext HJZ.out (by assumption)) 0 _ (by omega)) (one_jobs _) (by omega) (by decide) (Below.size (by assumption)) ?_; intro v2 w2 hown2 hb2 hg2))
                      | (go_at_call 40; (refine (HMC.out _ _ _ _ _ (by assumption) hown2 (by omega) (HNX.out ())).mono ?_); rintro e w3 ⟨rfl, hE3⟩))
                  all_goals
                    have hxe : Ext wz w3 := by assumption
                    go_wp2_with fail
                    go_ret
                    exact ⟨rfl, (HXZ.out).trans hxe⟩
                · have HNX : Hid (∀ _ : Unit, [] ++ (l.take k).flatMap J.cells ++ ((l.drop (k + 1)).take (ll - (k + 1))).flatMap J.cells = (l.take k ++ l.drop (k + 1)).flatMap J.cells) := Lib.hid fun _ => by
                    rw [List.take_of_length_le (l := l.drop (k + 1)) (by rw [List.length_drop, HLL.out]; exact Nat.le_refl _), List.flatMap_append]; simp
                  go_region_held3 (fun W => Ext wz W)
                    (first | assumption | exact (Ext.refl _).drew | exact (Ext.new _ _).drew | exact Ext.new _ _ | exact Ext.drew (by assumption) | exact Ext.alloc (by assumption) _ | exact (Ext.alloc (by assumption) _).drew | exact Below.trans (by assumption) (by assumption) | exact Ext.trans (by assumption) (by assumption))
                    (first
                      | ((refine step_appX rtJob (by rfl) _ _ (by rfl) wz.heap.size (v := .slice (some ⟨wz.heap.size, 0, none⟩) 0 0) (n := 0) (xs := []) (by rfl) (own_empty (by decide) (by exact alloc_at _ _ _ (by simp)) (by omega)) (m := k) (by rfl) (src_jrow0 (JRow.ext HJZ.out (by first | assumption | exact (Ext.refl _).drew | exact (Ext.new _ _).drew | exact Ext.new _ _)) k _ (by omega)) (one_jobs _) (by omega) (by decide) (Below.size (by assumption)) ?_; intro v1 w1 hown1 hb1 hg1))
                      | ((refine step_appX rtJob (by rfl) _ _ (by rfl) wz.heap.size (v := v1) (n := 0 + k) (by rfl) (by first | exact hown1 | exact hown1.alloc _) (m := (ll - (k + 1))) (by rfl) (src_jrow (JRow.ext HJZ.out (by assumption)) (k + 1) (ll - (k + 1)) _ (by omega)) (one_jobs _) (by omega) (by decide) (Below.size (by assumption)) ?_; intro v2 w2 hown2 hb2 hg2))
                      | (go_at_call 40; (refine (HMC.out _ _ _ _ _ (by assumption) hown2 (by omega) (HNX.out ())).mono ?_); rintro e w3 ⟨rfl, hE3⟩))
                  all_goals
                    have hxe : Ext wz w3 := by assumption
                    go_wp2_with fail
                    go_ret
                    exact ⟨rfl, (HXZ.out).trans hxe⟩
end Go.Proofs.YtnnmakkbnfckmaaDoor
