/- My own texts L0, L1, L2, L3, L4, L5, L6, L7, L8, L9, L10, L11 in one. -/
import Derived.Test.YtnnmakkbnfckmaaDoorGP
import Derived.Test.YtnnmakkbnfckmaaDoorGA
import Derived.Shelf.SlSortCmp.Insertion1
import Derived.Test.YtnnmakkbnfckmaaDoorGT
import Derived.Maps.AppendAt
/- Walks: chapter 10's bounds: in, may; the library's search and copy at what is left of jobs; the reference's bounds. -/
namespace Go.Proofs.YtnnmakkbnfckmaaDoor
open Go.RowKit

abbrev lagg (x : Int × Int) : Value := .agg #[.int .i64 x.1, .int .i64 x.2]
theorem edfIn_any (n : Int) (w : World) : Calls Tryd.prog 109 #[.int .i64 n] w fun e w' => e = .returned (.bool (inM n)) ∧ w = w' := by
  unfold inM
  by_cases h1 : -1000000 ≤ n
  · go_enter Tryd.func109, Tryd.ntmps109
    go_wp2
    go_ret
    exact ⟨by simp [h1], rfl⟩
  · go_enter Tryd.func109, Tryd.ntmps109
    go_wp2
    go_ret
    exact ⟨by simp; omega, rfl⟩
theorem may1_any (x : Int × Int) (w : World) : Calls Tryd.prog 111 #[lagg x] w fun e w' => e = .returned (.bool (!(inM x.1 && inM x.2))) ∧ Ext w w' := by
  have C1 := fun W => edfIn_any x.1 W
  have C2 := fun W => edfIn_any x.2 W
  have HC := Lib.hid (And.intro C1 C2)
  clear C1 C2
  cases h : inM x.1 with
  | true =>
    rw [h] at HC
    clear h
    go_enter Tryd.func111, Tryd.ntmps111
    go_wp2_with (first
      | (go_at_call 109; (with_reducible refine (HC.out.1 _).mono ?_); rintro e w1 ⟨rfl, rfl⟩)
      | (go_at_call 109; (with_reducible refine (HC.out.2 _).mono ?_); rintro e w1 ⟨rfl, rfl⟩))
    go_ret
    exact ⟨by simp, Ext.new _ _⟩
  | false =>
    rw [h] at HC
    clear h
    go_enter Tryd.func111, Tryd.ntmps111
    go_wp2_with (go_at_call 109; go_must (with_reducible refine (HC.out.1 _).mono ?_); rintro e w1 ⟨rfl, rfl⟩)
    go_ret
    exact ⟨by simp, Ext.new _ _⟩

set_option maxRecDepth 100000 in
set_option maxHeartbeats 2000000 in
/-- slices.IndexFunc at what is left. -/
theorem indexFuncL (l : List (Int × Int)) (p : Int × Int → Bool) (g : FuncId) (lb : Array Value) (a : Option Addr) (cap : Nat) (w : World)
    (hm : l.length ≤ bigS) (eg : ∀ args w, (callFunc g args).run Tryd.prog w = .ok (.enter g args) w)
    (hp : ∀ j ∈ l, ∀ W, Ext w W → Calls Tryd.prog g (#[lagg j] ++ lb) W fun e w' => e = .returned (.bool (p j)) ∧ Ext W w')
    (hr : PRow w a l) :
    Calls Tryd.prog 135 #[.slice a l.length cap, .func (.func g) #[] lb] w fun e w' =>
      e = .returned (.int .i64 (idxI (l.findIdx? p))) ∧ Ext w w' := by
  unfold bigS at hm
  go_enter Tryd.func135, Tryd.ntmps135
  go_wp2
  go_loopw [8] (fun v8 wr => ∃ k : Nat, k ≤ l.length ∧ v8 = .int .i64 k ∧ Ext w wr ∧ ∀ i (hi : i < l.length), i < k → p l[i] = false) (fun v8 _ => l.length - (intOf v8).toNat)
  case atStart => exact ⟨0, Nat.zero_le _, rfl, Ext.refl _, fun i _ hi => by omega⟩
  case round =>
    obtain ⟨k, hk, rfl, hx, hno⟩ := hrel
    have HN := Lib.hid hno
    clear hno
    by_cases hlt : k < l.length
    · obtain ⟨b, off, rfl, hb, c0, c1⟩ := (hr.ext hx) k hlt
      have hpk := hp l[k] (List.getElem_mem hlt) wr hx
      have HP := Lib.hid hpk
      clear hpk hp hr
      go_wp2_with (first | (refine HP.out.mono ?_; rintro e w1 ⟨rfl, hb1⟩))
      · have hpk : p l[k] = true := by assumption
        go_ret
        refine ⟨?_, hx.trans hb1⟩
        have : l.findIdx? p = some k := by
          rw [List.findIdx?_eq_some_iff_getElem]
          exact ⟨hlt, hpk, fun j hj => by simpa using HN.out j (by omega) hj⟩
        rw [this]; rfl
      · have hpk : p l[k] = false := by assumption
        go_roundw
        case rel => exact ⟨k + 1, hlt, by go_num, hx.trans hb1, fun i hi hik => by
          rcases Nat.lt_succ_iff_lt_or_eq.1 hik with h | rfl
          · exact HN.out i hi h
          · exact hpk⟩
        case measure => simp [intOf]; omega
    · clear hp hr
      go_wp2
      go_ret
      refine ⟨?_, hx⟩
      have : l.findIdx? p = none := by
        rw [List.findIdx?_eq_none_iff]
        intro x hx
        obtain ⟨i, hi, rfl⟩ := List.getElem_of_mem hx
        exact HN.out i hi (by omega)
      rw [this]; rfl

set_option maxRecDepth 100000 in
set_option maxHeartbeats 2000000 in
theorem containsFuncL (l : List (Int × Int)) (p : Int × Int → Bool) (g : FuncId) (lb : Array Value) (a : Option Addr) (cap : Nat) (w : World)
    (hm : l.length ≤ bigS) (eg : ∀ args w, (callFunc g args).run Tryd.prog w = .ok (.enter g args) w)
    (hp : ∀ j ∈ l, ∀ W, Ext w W → Calls Tryd.prog g (#[lagg j] ++ lb) W fun e w' => e = .returned (.bool (p j)) ∧ Ext W w')
    (hr : PRow w a l) :
    Calls Tryd.prog 110 #[.slice a l.length cap, .func (.func g) #[] lb] w fun e w' =>
      e = .returned (.bool (l.any p)) ∧ Ext w w' := by
  have HC := Lib.hid (indexFuncL l p g lb a cap w hm eg hp hr)
  clear hp eg hr
  go_enter Tryd.func110, Tryd.ntmps110
  go_wp2_with (first | (refine HC.out.mono ?_; rintro e w1 ⟨rfl, hb1⟩))
  go_ret
  refine ⟨?_, hb1⟩
  cases h : l.findIdx? p with
  | none =>
    have : l.any p = false := by
      rw [List.findIdx?_eq_none_iff] at h
      simpa using h
    simp [this, idxI_none]
  | some i =>
    have : l.any p = true := by
      rw [List.findIdx?_eq_some_iff_getElem] at h
      obtain ⟨hi, hp, _⟩ := h
      exact List.any_eq_true.2 ⟨_, List.getElem_mem hi, hp⟩
    simp [this, idxI_some]

set_option maxRecDepth 100000 in
set_option maxHeartbeats 2000000 in
/-- edf.may. -/
theorem may_any (now : Int) (l : List (Int × Int)) (a : Option Addr) (cap : Nat) (w : World) (hm : l.length ≤ bigS) (hr : PRow w a l) :
    Calls Tryd.prog 70 #[.int .i64 now, .slice a l.length cap] w fun e w' => e = .returned (.bool (mayB now l)) ∧ Ext w w' := by
  have HC := Lib.hid (containsFuncL l (fun x => !(inM x.1 && inM x.2)) 111 #[] a cap w hm (Go.Proofs.enters_of Tryd.func111 (by kernel_rfl) rfl) (fun j hj W hW => by simpa using may1_any j W) hr)
  have hal : (!l.any fun x => !(inM x.1 && inM x.2)) = l.all fun x => inM x.1 && inM x.2 := by rw [List.all_eq_not_any_not]
  have HA := Lib.hid hal
  have HI := fun W => edfIn_any now W
  have HI2 := Lib.hid HI
  clear hal hr HI
  cases h1 : inM now with
  | false =>
    rw [h1] at HI2
    have H1 := Lib.hid h1
    clear h1
    go_enter Tryd.func70, Tryd.ntmps70
    go_wp2_with (go_at_call 109; go_must (with_reducible refine (HI2.out _).mono ?_); rintro e w1 ⟨rfl, rfl⟩)
    go_ret
    exact ⟨by unfold mayB; rw [H1.out]; rfl, Ext.refl _⟩
  | true =>
    rw [h1] at HI2
    have H1 := Lib.hid h1
    clear h1
    by_cases h2 : l.length ≤ 1000
    · go_enter Tryd.func70, Tryd.ntmps70
      go_wp2_with (first
        | (go_at_call 109; go_must (with_reducible refine (HI2.out _).mono ?_); rintro e w1 ⟨rfl, rfl⟩)
        | (go_at_call 110; refine HC.out.mono ?_; rintro e w1 ⟨rfl, hb1⟩))
      go_ret
      exact ⟨by unfold mayB; rw [H1.out, ← HA.out]; simp [h2], hb1⟩
    · go_enter Tryd.func70, Tryd.ntmps70
      go_wp2_with (go_at_call 109; go_must (with_reducible refine (HI2.out _).mono ?_); rintro e w1 ⟨rfl, rfl⟩)
      go_ret
      exact ⟨by unfold mayB; rw [H1.out]; simp [h2], Ext.refl _⟩
end Go.Proofs.YtnnmakkbnfckmaaDoor
/- Walks: chapter 10's copy of what is left, what compares two of it, the sort, edf.Slack, edf.Fits. -/
-- import S9
namespace Go.Proofs.YtnnmakkbnfckmaaDoor
open Go.RowKit Go.Shelf Go.Sort Go.Lib

theorem rtLeft : RowT Tryd.prog 44 56 2 16 (.agg #[.int .i64 0, .int .i64 0]) := .of Tryd.underlying44 (by kernel_rfl) rfl (by decide)
/-- Pairs as what is appended. -/
theorem src_prow {w : World} {a : Option Addr} {l : List (Int × Int)} (h : PRow w a l) {ad : Addr} (ha : a = some ad) (c : Nat) : SrcR w 2 (.slice (some ad) l.length c) l.length (l.flatMap pairC) := by
  refine ⟨flat_length pairC 2 (fun _ => rfl) l, .inl ⟨_, c, rfl, fun j u hu => ?_⟩⟩
  have hj : j < l.length * 2 := by
    have := (List.getElem?_eq_some_iff.1 hu).1
    rwa [flat_length pairC 2 (fun _ => rfl) l] at this
  have hi : j / 2 < l.length := by omega
  obtain ⟨b, off, e, _, c0, c1⟩ := h (j / 2) hi
  rw [ha] at e
  obtain rfl : ad = ⟨b, off, none⟩ := Option.some.inj e
  have hg := flat_get pairC 2 (fun _ => rfl) l (j / 2) hi (j % 2) (by omega)
  rw [show j / 2 * 2 + j % 2 = j by omega, hu] at hg
  rw [addr_add]
  rcases (by omega : j % 2 = 0 ∨ j % 2 = 1) with e | e
  · rw [e] at hg
    rw [show off + j = off + j / 2 * 2 by omega, c0]
    simpa using hg.symm
  · rw [e] at hg
    rw [show off + j = off + j / 2 * 2 + 1 by omega, c1]
    simpa using hg.symm
theorem own_parr {w : World} {base : Nat} {v : Value} {l : List (Int × Int)} (h : w.ownsRow base 56 2 v l.length (l.flatMap pairC)) (hl : 0 < l.length) : ∃ g cap, v = .slice (some ⟨g, 0, none⟩) l.length cap ∧ PArr 56 w g l ∧ base ≤ g := by
  rcases h.2 with ⟨_, h0⟩ | ⟨g, cap, cur, rfl, hb, hg, hnc, hcm, hs, ht⟩
  · omega
  · refine ⟨g, cap, rfl, ⟨cur.toList.drop (l.length * 2), ?_⟩, hb⟩
    rw [hg, ← ht, List.take_append_drop]
theorem one_pairs (l : List (Int × Int)) : ∀ u ∈ l.flatMap pairC, u.oneCell' = true := fun u hu => by
  obtain ⟨x, _, hx⟩ := List.mem_flatMap.1 hu
  simp only [List.mem_cons, List.not_mem_nil, or_false] at hx
  rcases hx with rfl | rfl <;> rfl

theorem eql_slice_nil {P : Program} (t e : TypeId) (a : Addr) (n c : Nat) (h : P.underlying t = some (.slice e)) (w : World) : (binOp .eql t (.slice (some a) n c) (.slice none 0 0)).run P w = .ok (.bool false) w := by
  simp only [binOp]
  simp [Op.equal, Op.maxDepth, Lib.run_equalIn_slice_nil w 9999 t e (some a) n c 0 0 h]
set_option maxRecDepth 100000 in
set_option maxHeartbeats 2000000 in
theorem cloneL_any (l : List (Int × Int)) (a : Option Addr) (cap : Nat) (w : World) (h0 : 0 < l.length) (hm : l.length ≤ 1000) (hr : PRow w a l) :
    Calls Tryd.prog 71 #[.slice a l.length cap] w fun e w' => ∃ g cap', e = .returned (.slice (some ⟨g, 0, none⟩) l.length cap') ∧ PArr 56 w' g l ∧ w.heap.size ≤ g ∧ Ext w w' := by
  obtain ⟨b, off, rfl, hb⟩ : ∃ b off, a = some ⟨b, off, none⟩ ∧ b < w.heap.size := let ⟨b, off, e, hb, _⟩ := hr 0 h0; ⟨b, off, e, hb⟩
  have HR := Lib.hid hr
  have H0 := Lib.hid h0
  clear hr h0
  have heq := eql_slice_nil (P := Tryd.prog) 44 56 ⟨b, off, none⟩ l.length cap Tryd.underlying44
  go_enter Tryd.func71, Tryd.ntmps71
  go_wp2_with (at_builtin; go_must (refine wpList_appX rtLeft rfl _ _ rfl w.heap.size (v := .slice (some ⟨w.heap.size, 0, none⟩) 0 0) (n := 0) (xs := []) rfl (own_empty (by decide) (alloc_at _ _ _ rfl) (Nat.le_refl _)) rfl (src_prow (HR.out.ext (Ext.new _ _)) rfl cap) (one_pairs l) (by omega) (by decide) (by simp) ?_); intro v1 w1 hown1 hb1 hg1)
  go_ret
  rw [Nat.zero_add, List.nil_append] at hown1
  obtain ⟨g, cap', rfl, hp, hg⟩ := own_parr hown1 H0.out
  exact ⟨g, cap', rfl, hp, hg, Below.trans (Ext.new _ _) hb1⟩

theorem grow_two (W : World) (A B : Obj) : (W.alloc A).alloc B = grow (W.drewN 0) #[A, B] := by
  have h1 : (W.heap.push A).push B = W.heap ++ #[A, B] := by
    apply Array.toList_inj.1; simp
  show ({ ({ W with heap := W.heap.push A } : World) with heap := (W.heap.push A).push B } : World) = _
  rw [h1]; rfl
set_option maxRecDepth 100000 in
set_option maxHeartbeats 2000000 in
theorem slackCmp_any (x y : Int × Int) (W : World) : Calls Tryd.prog 73 #[lagg x, lagg y] W fun e w' => e = .returned (.int .i64 (Lib.compareInt x.1 y.1)) ∧ ∃ q os, w' = grow (W.drewN q) os := by
  go_enter Tryd.func73, Tryd.ntmps73
  go_wp2_with (go_at_call 69; (with_reducible refine (Tryd.cmp_Compare_int _ _ _).mono ?_); rintro e w1 ⟨rfl, rfl⟩)
  go_ret
  exact ⟨rfl, 0, #[_, _], grow_two _ _ _⟩
end Go.Proofs.YtnnmakkbnfckmaaDoor
/- Walks: chapter 10's own answer: bounded, Slack, Fits; the law's lefts. -/
namespace Go.Proofs.YtnnmakkbnfckmaaDoor
open Go.RowKit

theorem sumF_take_le (f : Int × Int → Int) (l : List (Int × Int)) (k : Nat) (c : Int) (hk : k ≤ l.length) (h : ∀ x ∈ l, f x ≤ c) : sumF f (l.take k) ≤ k * c := by
  have := sumF_bound (f := f) (l := l.take k) (c := c) fun x hx => h x (List.mem_of_mem_take hx)
  rwa [List.length_take, Nat.min_eq_left hk] at this
theorem sumF_snoc {α : Type} (f : α → Int) (l : List α) (k : Nat) (h : k < l.length) : sumF f (l.take (k + 1)) = sumF f (l.take k) + f l[k] := by
  rw [List.take_succ_eq_append_getElem h, sumF_append]; simp [sumF]
theorem mayB_mem {now : Int} {l : List (Int × Int)} (h : mayB now l = true) : (-1000000 ≤ now ∧ now ≤ 1000000) ∧ l.length ≤ 1000 ∧ ∀ x ∈ l, (-1000000 ≤ x.1 ∧ x.1 ≤ 1000000) ∧ -1000000 ≤ x.2 ∧ x.2 ≤ 1000000 := by
  unfold mayB inM at h
  simp only [Bool.and_eq_true, decide_eq_true_eq, List.all_eq_true] at h
  exact ⟨h.1, h.2.1, fun x hx => h.2.2 x hx⟩
/-- May the first k be? -/
def mayTo (now : Int) (l : List (Int × Int)) (k : Nat) : Bool := decide (l.length ≤ 1000) && (inM now && (l.take k).all fun x => inM x.1 && inM x.2)
theorem mayTo_all (now : Int) (l : List (Int × Int)) : mayTo now l l.length = mayB now l := by
  unfold mayTo mayB; rw [List.take_length]
  cases inM now <;> cases decide (l.length ≤ 1000) <;> simp
theorem mayTo_succ (now : Int) (l : List (Int × Int)) (k : Nat) (h : k < l.length) : mayTo now l (k + 1) = (mayTo now l k && (inM l[k].1 && inM l[k].2)) := by
  unfold mayTo
  rw [List.take_succ_eq_append_getElem h, List.all_append]
  simp [Bool.and_assoc]
theorem mayTo_false (now : Int) (l : List (Int × Int)) (k : Nat) (h : mayTo now l k = false) : mayB now l = false := by
  unfold mayTo at h
  unfold mayB
  cases h1 : inM now
  · rfl
  · cases h2 : decide (l.length ≤ 1000)
    · rfl
    · rw [h1, h2] at h
      simp only [Bool.true_and] at h ⊢
      rw [List.all_eq_false] at h ⊢
      obtain ⟨x, hx, h⟩ := h
      exact ⟨x, List.mem_of_mem_take hx, h⟩

set_option maxRecDepth 100000 in
set_option maxHeartbeats 4000000 in
theorem bounded_any (now : Int) (l : List (Int × Int)) (a : Option Addr) (cap : Nat) (w : World) (hm : l.length ≤ bigS) (hr : PRow w a l) :
    Calls Tryd.prog 74 #[.int .i64 now, .slice a l.length cap] w fun e w' => e = .returned (.bool (mayB now l)) ∧ w = w' := by
  unfold bigS at hm
  go_enter Tryd.func74, Tryd.ntmps74
  go_upto_region 1 with fail
  go_cut [5] (fun s5 wx => s5 = .bool (mayTo now l 0) ∧ wx = w)
  case first =>
    go_wp2
    all_goals (go_meet; exact ⟨by unfold mayTo inM; simp only [List.take_zero, List.all_nil, Bool.and_true]; grind, rfl⟩)
  case rest =>
    obtain ⟨rfl, rfl⟩ := hcut
    go_wp2_with fail
    go_loop [5, 6] (fun v5 v6 => ∃ k : Nat, k ≤ l.length ∧ v6 = .int .i64 k ∧ v5 = .bool (mayTo now l k)) (fun _ v6 => l.length - (intOf v6).toNat)
    case atStart => exact ⟨0, Nat.zero_le _, rfl, rfl⟩
    case round =>
      obtain ⟨k, hk, rfl, rfl⟩ := hrel
      cases hb : mayTo now l k with
      | false =>
        have HB := Lib.hid hb
        clear hb
        by_cases hlt : k < l.length
        all_goals
          go_wp2_with fail
          go_ret
          exact ⟨by rw [mayTo_false now l k HB.out]; rfl, rfl⟩
      | true =>
        have HB := Lib.hid hb
        clear hb
        by_cases hlt : k < l.length
        · obtain ⟨b, off, rfl, hb, c0, c1⟩ := hr k hlt
          have HS := Lib.hid (mayTo_succ now l k hlt)
          generalize l[k].1 = x at *
          generalize l[k].2 = y at *
          go_wp2_with fail
          all_goals
            go_round
            case rel => exact ⟨k + 1, hlt, by go_num, by rw [HS.out, HB.out]; unfold inM; grind⟩
            case measure => simp [intOf]; omega
        · obtain rfl : k = l.length := by omega
          go_wp2_with fail
          go_ret
          exact ⟨by rw [← mayTo_all, HB.out]; rfl, rfl⟩

abbrev upF (D : Int) (y : Int × Int) : Int := if y.1 ≤ D then posN y else 0
theorem upF_bd {x : Int × Int} (D : Int) (h : -1000000 ≤ x.2 ∧ x.2 ≤ 1000000) : 0 ≤ upF D x ∧ upF D x ≤ 1000000 := by
  unfold upF posN; split <;> omega
theorem slack_none {now : Int} {l : List (Int × Int)} (h : slackOk now l = false) : slackR now l = 0 := by unfold slackR; rw [h]; rfl
set_option maxRecDepth 100000 in
set_option maxHeartbeats 8000000 in
theorem refSlack_any (now : Int) (l : List (Int × Int)) (a : Option Addr) (cap : Nat) (w : World) (hm : l.length ≤ bigS) (hr : PRow w a l) :
    Calls Tryd.prog 33 #[.int .i64 now, .slice a l.length cap] w fun e w' => e = .returned (.tuple #[.int .i64 (slackR now l), .bool (slackOk now l)]) ∧ Ext w w' := by
  have HC := Lib.hid (bounded_any now l a cap w hm hr)
  unfold bigS at hm
  cases hb : mayB now l with
  | false =>
    have h0 : slackOk now l = false := by unfold slackOk; rw [hb]; simp
    rw [slack_none h0, h0]
    rw [hb] at HC
    clear hb h0 hr
    go_enter Tryd.func33, Tryd.ntmps33
    go_wp2_with (go_at_call 74; go_must (with_reducible refine HC.out.mono ?_); rintro e w1 ⟨rfl, rfl⟩)
    go_ret2
    exact ⟨rfl, Ext.refl _⟩
  | true =>
    obtain ⟨hnow, hlen, hmem⟩ := mayB_mem hb
    by_cases hn : l.length = 0
    · have hl : l = [] := List.length_eq_zero_iff.1 hn
      subst hl
      have h0 : slackOk now [] = false := rfl
      rw [slack_none h0, h0]
      rw [hb, List.length_nil] at HC
      clear hb h0 hr hn hmem
      go_enter Tryd.func33, Tryd.ntmps33
      go_wp2_with (go_at_call 74; go_must (with_reducible refine HC.out.mono ?_); rintro e w1 ⟨rfl, rfl⟩)
      go_ret2
      exact ⟨rfl, Ext.refl _⟩
    · have h0 : slackOk now l = true := by unfold slackOk; rw [hb]; cases l <;> simp_all
      have hv : slackR now l = slackV now l := by unfold slackR; rw [h0]; rfl
      rw [hv, h0]
      rw [hb] at HC
      have HM := Lib.hid hmem
      clear hb h0 hv hmem
      have hn0 : 0 < l.length := by omega
      have hnb : ((l.length : Int) == 0) = false := beq_eq_false_iff_ne.2 (by omega)
      go_enter Tryd.func33, Tryd.ntmps33
      go_wp2_with (go_at_call 74; go_must (with_reducible refine HC.out.mono ?_); rintro e w1 ⟨rfl, rfl⟩)
      clear HC
      go_loopw [6, 7, 8] (fun v6 v7 v8 wr => ∃ k : Nat, k ≤ l.length ∧ v8 = .int .i64 k ∧ v6 = .int .i64 (leastN (spare now l) k) ∧ v7 = .bool (decide (0 < k)) ∧ Ext w wr) (fun _ _ v8 _ => l.length - (intOf v8).toNat)
      case atStart => exact ⟨0, Nat.zero_le _, rfl, rfl, rfl, Ext.refl _⟩
      case round =>
        obtain ⟨k, hk, rfl, rfl, rfl, hx⟩ := hrel
        by_cases hlt : k < l.length
        · obtain ⟨b, off, rfl, hbk, ck0, ck1⟩ := (hr.ext hx) k hlt
          obtain ⟨D, hD⟩ : ∃ D, l[k].1 = D := ⟨_, rfl⟩
          rw [hD] at ck0
          have hDb := (HM.out _ (List.getElem_mem hlt)).1
          rw [hD] at hDb
          have HD := Lib.hid hD
          have hr1 := hr.ext hx
          clear hD hr ck1
          obtain ⟨wo, hwo⟩ : ∃ wo : World, wo = wr := ⟨_, rfl⟩
          subst hwo
          go_wp2_with fail
          go_loopw [9, 10] (fun v9 v10 wr => ∃ m : Nat, m ≤ l.length ∧ v10 = .int .i64 m ∧ v9 = .int .i64 (sumF (upF D) (l.take m)) ∧ Ext wo wr) (fun _ v10 _ => l.length - (intOf v10).toNat)
          case atStart => exact ⟨0, Nat.zero_le _, rfl, rfl, Ext.refl _⟩
          case round =>
            obtain ⟨m, hm2, rfl, rfl, hx2⟩ := hrel
            have hs0 : 0 ≤ sumF (upF D) (l.take m) := sumF_nonneg fun x hx => (upF_bd D (HM.out x (List.mem_of_mem_take hx)).2).1
            have hs1 : sumF (upF D) (l.take m) ≤ m * 1000000 := sumF_take_le _ l m 1000000 hm2 fun x hx => (upF_bd D (HM.out x hx).2).2
            by_cases hlt2 : m < l.length
            · obtain ⟨b', off', he, _, c0, c1⟩ := (hr1.ext hx2) m hlt2
              obtain ⟨rfl, rfl⟩ : b' = b ∧ off' = off := by injection he with e; injection e with e1 e2; exact ⟨e1.symm, e2.symm⟩
              have ck := (hx2.cell hbk).trans ck0
              have HS := Lib.hid (sumF_snoc (upF D) l m hlt2)
              have hxb := (HM.out _ (List.getElem_mem hlt2))
              generalize sumF (upF D) (l.take m) = S at *
              obtain ⟨x, hxe⟩ : ∃ x, l[m].1 = x := ⟨_, rfl⟩
              obtain ⟨y, hye⟩ : ∃ y, l[m].2 = y := ⟨_, rfl⟩
              rw [hxe] at c0 hxb
              rw [hye] at c1 hxb
              have HE := Lib.hid (And.intro hxe hye)
              clear hxe hye he hr1
              by_cases hle : x ≤ D
              · by_cases hp : 0 < y
                · go_wp2_with fail
                  go_quiet (fail)
                  go_wp2_with fail
                  go_roundw
                  case rel => exact ⟨m + 1, by omega, by go_num, by rw [HS.out]; unfold upF posN; rw [HE.out.1, HE.out.2, if_pos hle]; congr 2; omega, hx2.drewN _⟩
                  case measure => simp [intOf]; omega
                · have hp' : decide (0 < y) = false := decide_eq_false hp
                  go_wp2_with fail
                  go_quiet (fail)
                  go_wp2_with fail
                  go_roundw
                  case rel => exact ⟨m + 1, by omega, by go_num, by rw [HS.out]; unfold upF posN; rw [HE.out.1, HE.out.2, if_pos hle]; congr 2; omega, hx2.drewN _⟩
                  case measure => simp [intOf]; omega
              · have hle' : decide (x ≤ D) = false := decide_eq_false hle
                go_wp2_with fail
                go_quiet (fail)
                go_wp2_with fail
                go_roundw
                case rel => exact ⟨m + 1, by omega, by go_num, by rw [HS.out]; unfold upF; rw [HE.out.1, if_neg (show ¬ x ≤ D by omega), Int.add_zero], hx2.drewN _⟩
                case measure => simp [intOf]; omega
            · obtain rfl : m = l.length := by omega
              rw [List.take_length] at hs0 hs1 ⊢
              have ck := (hx2.cell hbk).trans ck0
              have HV : Hid (spare now l k = D - now - sumF (upF D) l) := by
                show spare now l k = _
                unfold spare dlN
                rw [at0_eq _ _ hlt, HD.out]; rfl
              have HX := Lib.hid (hx.trans hx2)
              clear hr1 hx2 hx
              generalize sumF (upF D) l = S at *
              by_cases hk0 : k = 0
              · have hkb : decide (0 < k) = false := by simp; omega
                have HL := Lib.hid (show leastN (spare now l) (k + 1) = spare now l k by simp [leastN, hk0])
                generalize leastN (spare now l) k = L at *
                have hk1 : k < 1 := by omega
                clear hk0
                go_wp2_with fail
                go_roundw
                case rel => exact ⟨k + 1, by omega, by go_num, by rw [HL.out, HV.out], by simp, HX.out⟩
                case measure => simp [intOf]; omega
              · have hkb : decide (0 < k) = true := by simp; omega
                have HL := Lib.hid (show leastN (spare now l) (k + 1) = if spare now l k < leastN (spare now l) k then spare now l k else leastN (spare now l) k by simp [leastN, hk0])
                generalize leastN (spare now l) k = L at *
                go_wp2_with fail
                all_goals
                  go_roundw
                  case rel => exact ⟨k + 1, by omega, by go_num, by rw [HL.out, HV.out]; first | rw [if_pos (by assumption)] | rw [if_neg (by omega)], by first | (simp; done) | (simp; omega), HX.out⟩
                  case measure => simp [intOf]; omega
        · obtain rfl : k = l.length := by omega
          have hf : decide (0 < l.length) = true := by simp; omega
          go_wp2_with fail
          go_ret2
          exact ⟨rfl, hx⟩

set_option maxRecDepth 100000 in
set_option maxHeartbeats 8000000 in
theorem refFits_any (now : Int) (l : List (Int × Int)) (a : Option Addr) (cap : Nat) (w : World) (hm : l.length ≤ bigS) (hr : PRow w a l) :
    Calls Tryd.prog 36 #[.int .i64 now, .slice a l.length cap] w fun e w' => e = .returned (.bool (fitsB now l)) ∧ Ext w w' := by
  have HB := Lib.hid (bounded_any now l a cap w hm hr)
  have HS := Lib.hid (refSlack_any now l a cap w hm hr)
  clear hr hm
  cases hb : mayB now l with
  | false =>
    have hf : fitsB now l = false := by unfold fitsB; rw [hb]; rfl
    rw [hf]
    rw [hb] at HB
    clear hf hb HS
    go_enter Tryd.func36, Tryd.ntmps36
    go_wp2_with (go_at_call 74; go_must (with_reducible refine HB.out.mono ?_); rintro e w1 ⟨rfl, rfl⟩)
    go_ret
    exact ⟨rfl, Ext.refl _⟩
  | true =>
    rw [hb] at HB
    cases hl : l.isEmpty with
    | true =>
      have hk : slackOk now l = false := by unfold slackOk; rw [hl]; rfl
      have hf : fitsB now l = true := by unfold fitsB; rw [hb, hl]; rfl
      rw [hf]
      rw [hk] at HS
      clear hf hb hk hl
      go_enter Tryd.func36, Tryd.ntmps36
      go_wp2_with (first
        | (go_at_call 74; go_must (with_reducible refine HB.out.mono ?_); rintro e w1 ⟨rfl, rfl⟩)
        | (go_at_call 33; go_must (with_reducible refine HS.out.mono ?_); rintro e w2 ⟨rfl, h2⟩))
      go_ret
      exact ⟨rfl, h2⟩
    | false =>
      have hk : slackOk now l = true := by unfold slackOk; rw [hl, hb]; rfl
      have hv : slackR now l = slackV now l := by unfold slackR; rw [hk]; rfl
      have hf : fitsB now l = decide (0 ≤ slackV now l) := by unfold fitsB; rw [hb, hl]; rfl
      rw [hf]
      rw [hk, hv] at HS
      clear hf hb hk hl hv
      generalize slackV now l = v at *
      go_enter Tryd.func36, Tryd.ntmps36
      go_wp2_with (first
        | (go_at_call 74; go_must (with_reducible refine HB.out.mono ?_); rintro e w1 ⟨rfl, rfl⟩)
        | (go_at_call 33; go_must (with_reducible refine HS.out.mono ?_); rintro e w2 ⟨rfl, h2⟩))
      go_ret
      exact ⟨rfl, h2⟩

end Go.Proofs.YtnnmakkbnfckmaaDoor
/- Walks: the law's needs as the document's own. -/
namespace Go.Proofs.YtnnmakkbnfckmaaDoor
open Go.RowKit

/-! ### The law's needs as the document's own -/
theorem rtRefLeft : RowT Tryd.prog 48 92 2 16 (.agg #[.int .i64 0, .int .i64 0]) := .of Tryd.underlying48 (by kernel_rfl) rfl (by decide)
theorem keep2 {wz W W' : World} {b o : Nat} {x y : Int} (hb : b < wz.heap.size) (hE : Ext W W') (h : Ext wz W ∧ W.cell? ⟨b, o, none⟩ = some (.int .i64 x) ∧ W.cell? ⟨b, o + 1, none⟩ = some (.int .i64 y)) : Ext wz W' ∧ W'.cell? ⟨b, o, none⟩ = some (.int .i64 x) ∧ W'.cell? ⟨b, o + 1, none⟩ = some (.int .i64 y) := by
  have hq := h.1.lt hb
  exact ⟨h.1.trans hE, (hE.cell hq).trans h.2.1, (hE.cell hq).trans h.2.2⟩
theorem sj2 {wz W : World} {b o : Nat} {x y : Int} (h : Ext wz W ∧ W.cell? ⟨b, o, none⟩ = some (.int .i64 x) ∧ W.cell? ⟨b, o + 1, none⟩ = some (.int .i64 y)) : Ext wz W := h.1
theorem keepB {w W W' : World} {b o : Nat} {x y : Int} (hb : b < w.heap.size) (hE : Below w.heap.size W W') (h : Ext w W ∧ W.cell? ⟨b, o, none⟩ = some (.int .i64 x) ∧ W.cell? ⟨b, o + 1, none⟩ = some (.int .i64 y)) : Ext w W' ∧ W'.cell? ⟨b, o, none⟩ = some (.int .i64 x) ∧ W'.cell? ⟨b, o + 1, none⟩ = some (.int .i64 y) :=
  ⟨Below.trans h.1 hE, (hE.cell (p := ⟨b, o, none⟩) hb).trans h.2.1, (hE.cell (p := ⟨b, o + 1, none⟩) hb).trans h.2.2⟩
set_option maxRecDepth 100000 in
set_option maxHeartbeats 4000000 in
theorem lefts_any (l : List (Int × Int)) (a : Option Addr) (cap : Nat) (w : World) (hm : l.length ≤ 1000) (hr : PRow w a l) :
    Calls Tryd.prog 34 #[.slice a l.length cap] w fun e w' => ∃ a' cap', e = .returned (.slice a' l.length cap') ∧ PRow w' a' l ∧ Ext w w' := by
  go_enter Tryd.func34, Tryd.ntmps34
  go_wp2
  go_loopw [3, 4] (fun v3 v4 wr => ∃ k : Nat, k ≤ l.length ∧ v4 = .int .i64 k ∧ wr.ownsRow w.heap.size 92 2 v3 k ((l.take k).flatMap pairC) ∧ Ext w wr) (fun _ v4 _ => l.length - (intOf v4).toNat)
  case atStart => exact ⟨0, Nat.zero_le _, rfl, World.ownsRow_nil _ _ _ _, Ext.refl _⟩
  case round =>
    obtain ⟨k, hk, rfl, hown, hx⟩ := hrel
    by_cases hlt : k < l.length
    · obtain ⟨b, off, rfl, hb, c0, c1⟩ := hr k hlt
      rw [← hx.cell hb] at c0 c1
      have HT := Lib.hid (take_snoc l k hlt)
      have HX := Lib.hid hx
      have HB := Lib.hid hb
      have HP := Lib.hid (show pairC l[k] = [.int .i64 l[k].1, .int .i64 l[k].2] from rfl)
      clear hr hx hb
      generalize l[k].1 = x at *
      generalize l[k].2 = y at *
      go_wp2_with fail
      go_region_held3 (fun W => Ext w W ∧ W.cell? ⟨b, off + k * 2, none⟩ = some (.int .i64 x) ∧ W.cell? ⟨b, off + k * 2 + 1, none⟩ = some (.int .i64 y))
        (first | exact keep2 HB.out (Ext.new _ _) (by assumption) | exact keep2 HB.out ((Ext.new _ _).drew) (by assumption) | exact keep2 HB.out ((Ext.refl _).drew) (by assumption) | exact ⟨(HX.out).drew, by assumption, by assumption⟩ | exact keepB HB.out hb1 (by assumption))
        ((refine step_appX rtRefLeft (by rfl) _ _ (by rfl) w.heap.size (v := u3) (n := k) (by rfl) (by exact hown.alloc _) (m := 1) (news := [.int .i64 x, .int .i64 y]) (by rfl) (src_lone rfl (by exact alloc_at _ _ _ (by simp))) (by simp [Value.oneCell']) (by omega) (by decide) (by exact (sj2 (by assumption)).size) ?_; intro v1 w1 hown1 hb1 hg1))
      go_wp2_with fail
      go_roundw
      case rel => exact ⟨k + 1, hlt, by go_num, by rw [HT.out, List.flatMap_append]; simpa [HP.out] using hown1, sj2 (by assumption)⟩
      case measure => simp [intOf]; omega
    · obtain rfl : k = l.length := by omega
      rw [List.take_length] at hown
      go_wp2
      go_ret
      obtain ⟨a', cap', rfl, hp⟩ := own_prow hown
      exact ⟨a', cap', rfl, hp, hx⟩
end Go.Proofs.YtnnmakkbnfckmaaDoor
/- Walks: trace.Ran; the library's search at ints; who may run. -/
namespace Go.Proofs.YtnnmakkbnfckmaaDoor
open Go.RowKit

/-- A trace as the program has it. -/
abbrev trI (t : List (Option Nat)) : List Int := t.map idxI
theorem count_snoc {α : Type} [BEq α] [LawfulBEq α] (l : List α) (k : Nat) (h : k < l.length) (x : α) : (l.take (k + 1)).count x = (l.take k).count x + if l[k] == x then 1 else 0 := by
  rw [List.take_succ_eq_append_getElem h, List.count_append, List.count_singleton]
theorem idxI_inj {a b : Option Nat} (h : idxI a = idxI b) : a = b := by
  cases a <;> cases b <;> simp [idxI] at h <;> first | rfl | omega | (congr 1; omega)
theorem trI_count (t : List (Option Nat)) (i : Nat) : (trI t).count (i : Int) = t.count (some i) := by
  induction t with
  | nil => rfl
  | cons x t ih =>
    show List.count _ (idxI x :: trI t) = _
    rw [List.count_cons, List.count_cons, ih]
    congr 1
    by_cases h : x = some i
    · subst h; simp [idxI]
    · have h2 : ¬ idxI x = (i : Int) := fun e => h (idxI_inj (b := some i) e)
      rw [if_neg (by simpa using h2), if_neg (by simpa using h)]

set_option maxRecDepth 100000 in
set_option maxHeartbeats 2000000 in
theorem ran_any (t : List Int) (i : Int) (a : Option Addr) (cap : Nat) (w : World) (hm : t.length ≤ 1000000) (hr : IRow w a t) :
    Calls Tryd.prog 52 #[.slice a t.length cap, .int .i64 i] w fun e w' => e = .returned (.int .i64 (t.count i)) ∧ w = w' := by
  go_enter Tryd.func52, Tryd.ntmps52
  go_wp2
  go_loop [5, 10] (fun v5 v10 => ∃ k : Nat, k ≤ t.length ∧ v10 = .int .i64 k ∧ v5 = .int .i64 ((t.take k).count i)) (fun _ v10 => t.length - (intOf v10).toNat)
  case atStart => exact ⟨0, Nat.zero_le _, rfl, rfl⟩
  case round =>
    obtain ⟨k, hk, rfl, rfl⟩ := hrel
    have hc : (t.take k).count i ≤ k := Nat.le_trans List.count_le_length (List.length_take_le _ _)
    by_cases hlt : k < t.length
    · obtain ⟨b, off, rfl, hb, c0⟩ := hr k hlt
      have HS := Lib.hid (count_snoc t k hlt i)
      generalize (t.take k).count i = c at *
      generalize t[k] = x at *
      clear hr
      go_wp2
      · go_round
        case rel => exact ⟨k + 1, hlt, by go_num, by rw [HS.out, if_pos (by assumption)]; go_num⟩
        case measure => simp [intOf]; omega
      · go_round
        case rel => exact ⟨k + 1, hlt, by go_num, by rw [HS.out, if_neg (by simp_all)]; go_num⟩
        case measure => simp [intOf]; omega
    · obtain rfl : k = t.length := by omega
      go_wp2
      go_ret
      exact ⟨rfl, rfl⟩

set_option maxRecDepth 100000 in
set_option maxHeartbeats 2000000 in
/-- slices.IndexFunc at ints. -/
theorem indexFuncI (l : List Int) (p : Int → Bool) (g : FuncId) (lb : Array Value) (a : Option Addr) (cap : Nat) (w : World)
    (hm : l.length ≤ bigS) (eg : ∀ args w, (callFunc g args).run Tryd.prog w = .ok (.enter g args) w)
    (hp : ∀ j ∈ l, ∀ W, Ext w W → Calls Tryd.prog g (#[.int .i64 j] ++ lb) W fun e w' => e = .returned (.bool (p j)) ∧ Ext W w')
    (hr : IRow w a l) :
    Calls Tryd.prog 113 #[.slice a l.length cap, .func (.func g) #[] lb] w fun e w' =>
      e = .returned (.int .i64 (idxI (l.findIdx? p))) ∧ Ext w w' := by
  unfold bigS at hm
  go_enter Tryd.func113, Tryd.ntmps113
  go_wp2
  go_loopw [8] (fun v8 wr => ∃ k : Nat, k ≤ l.length ∧ v8 = .int .i64 k ∧ Ext w wr ∧ ∀ i (hi : i < l.length), i < k → p l[i] = false) (fun v8 _ => l.length - (intOf v8).toNat)
  case atStart => exact ⟨0, Nat.zero_le _, rfl, Ext.refl _, fun i _ hi => by omega⟩
  case round =>
    obtain ⟨k, hk, rfl, hx, hno⟩ := hrel
    have HN := Lib.hid hno
    clear hno
    by_cases hlt : k < l.length
    · obtain ⟨b, off, rfl, hb, c0⟩ := (hr.ext hx) k hlt
      have hpk := hp l[k] (List.getElem_mem hlt) wr hx
      have HP := Lib.hid hpk
      clear hpk hp hr
      go_wp2_with (first | (refine HP.out.mono ?_; rintro e w1 ⟨rfl, hb1⟩))
      · have hpk : p l[k] = true := by assumption
        go_ret
        refine ⟨?_, hx.trans hb1⟩
        have : l.findIdx? p = some k := by
          rw [List.findIdx?_eq_some_iff_getElem]
          exact ⟨hlt, hpk, fun j hj => by simpa using HN.out j (by omega) hj⟩
        rw [this]; rfl
      · have hpk : p l[k] = false := by assumption
        go_roundw
        case rel => exact ⟨k + 1, hlt, by go_num, hx.trans hb1, fun i hi hik => by
          rcases Nat.lt_succ_iff_lt_or_eq.1 hik with h | rfl
          · exact HN.out i hi h
          · exact hpk⟩
        case measure => simp [intOf]; omega
    · clear hp hr
      go_wp2
      go_ret
      refine ⟨?_, hx⟩
      have : l.findIdx? p = none := by
        rw [List.findIdx?_eq_none_iff]
        intro x hx
        obtain ⟨i, hi, rfl⟩ := List.getElem_of_mem hx
        exact HN.out i hi (by omega)
      rw [this]; rfl

set_option maxRecDepth 100000 in
set_option maxHeartbeats 2000000 in
/-- What edf.run asks of a job. -/
theorem runPred_any (n i : Nat) (r v k : Int) (bx bt bl b off cap BL capL : Nat) (W : World) (hi : i < n) (hm : n ≤ 1000000)
    (cx : W.cell? ⟨bx, 0, none⟩ = some (.slice (some ⟨b, off, none⟩) n cap)) (ct : W.cell? ⟨bt, 0, none⟩ = some (.int .i64 k)) (cl : W.cell? ⟨bl, 0, none⟩ = some (.slice (some ⟨BL, 0, none⟩) n capL))
    (cr : W.cell? ⟨b, off + i * 8 + 1, none⟩ = some (.int .i64 r)) (cv : W.cell? ⟨BL, i, none⟩ = some (.int .i64 v)) :
    Calls Tryd.prog 114 #[.int .i64 i, .pointer (some ⟨bx, 0, none⟩), .pointer (some ⟨bt, 0, none⟩), .pointer (some ⟨bl, 0, none⟩)] W fun e w' => e = .returned (.bool (decide (r ≤ k) && decide (0 < v))) ∧ Ext W w' := by
  have mixed : Tryd.prog.follows .mixedOrders = true := by kernel_rfl
  have hi' : (i : Int) < (n : Int) := by omega
  by_cases hle : r ≤ k
  · go_enter Tryd.func114, Tryd.ntmps114
    go_wp2_with fail
    go_quiet (fail)
    go_wp2
    go_ret
    exact ⟨by simp [hle], (Ext.refl _).drewN _⟩
  · have hle' : decide (r ≤ k) = false := decide_eq_false hle
    go_enter Tryd.func114, Tryd.ntmps114
    go_wp2_with fail
    go_quiet (fail)
    go_wp2
    go_ret
    exact ⟨by rw [hle']; rfl, (Ext.refl _).drewN _⟩
end Go.Proofs.YtnnmakkbnfckmaaDoor
/- Walks: edf.Slack, edf.Fits. -/
namespace Go.Proofs.YtnnmakkbnfckmaaDoor
open Go.RowKit Go.Shelf Go.Sort Go.Lib

theorem holdsK_of_parr {e : TypeId} {w : World} {B : Nat} {l : List (Int × Int)} (h : PArr e w B l) : HoldsK (encL id) 2 w B 0 l.toArray := by
  obtain ⟨rest, h⟩ := h
  intro j hj
  have hs : (flatK (encL id) 2 l.toArray).size = l.length * 2 := by rw [size_flatK]; simp
  rw [hs] at hj
  rw [get_flatK _ _ _ _ (by simpa using hj), Nat.zero_add]
  have hg := flat_get pairC 2 (fun _ => rfl) l (j / 2) (by omega) (j % 2) (by omega)
  rw [show j / 2 * 2 + j % 2 = j by omega] at hg
  have hjl : j / 2 < l.length := by omega
  refine ⟨?_, by simp [World.frozen?, h]⟩
  simp only [World.cell?, h]
  have : (l.flatMap pairC ++ rest)[j]? = (pairC l[j / 2])[j % 2]? := by
    rw [List.getElem?_append_left (by rw [flat_length pairC 2 (fun _ => rfl)]; omega), hg]
  have hz : l.toArray[j / 2]! = l[j / 2] := by rw [getElem!_pos _ _ (by simpa using hjl)]; simp
  rw [hz, List.getElem?_toArray, this]
  rcases (by omega : j % 2 = 0 ∨ j % 2 = 1) with c | c <;> rw [c] <;> rfl
theorem slackSort {w : World} {g : Nat} {l : List (Int × Int)} (hm : l.length ≤ 1000) (hp : PArr 56 w g l) : SortL id 73 #[] (fun x : Int × Int => x.1) l.toArray w g 0 := by
  refine ⟨Go.Proofs.enters_of Tryd.func73 (by kernel_rfl) rfl, ⟨fun _ => rfl, fun x v hv => ?_, holdsK_of_parr hp, hp.lt⟩, fun m os dk hs x y => ?_, by simp; omega⟩
  · simp only [encL, id, List.mem_cons, List.not_mem_nil, or_false] at hv
    rcases hv with rfl | rfl <;> rfl
  · exact slackCmp_any x y _
theorem prow_of_swl {w W : World} {g : Nat} {l : List (Int × Int)} {d : Array (Int × Int)} (hp : PArr 56 w g l) (hd : d.size = l.length) (h : SWL id w g 0 d W) : PRow W (some ⟨g, 0, none⟩) d.toList := by
  have hh := h.holds hp.lt (holdsK_of_parr hp) (by simpa using hd)
  have hlt : g < W.heap.size := h.lt hp.lt
  intro i hi
  have hi' : i < d.size := by simpa using hi
  refine ⟨g, 0, rfl, hlt, ?_, ?_⟩
  · have := (hh (i * 2) (by rw [size_flatK]; omega)).1
    rw [get_flatK _ _ _ _ (by omega)] at this
    rw [this]
    simp [encL, getElem!_pos, hi', show i * 2 / 2 = i by omega]
  · have := (hh (i * 2 + 1) (by rw [size_flatK]; omega)).1
    rw [get_flatK _ _ _ _ (by omega)] at this
    rw [Nat.add_assoc, this]
    simp [encL, getElem!_pos, hi', show (i * 2 + 1) / 2 = i by omega]

set_option maxRecDepth 100000 in
set_option maxHeartbeats 8000000 in
theorem slack_any (now : Int) (l : List (Int × Int)) (a : Option Addr) (cap : Nat) (w : World) (hm : l.length ≤ bigS) (hr : PRow w a l) :
    Calls Tryd.prog 32 #[.int .i64 now, .slice a l.length cap] w fun e w' => e = .returned (.tuple #[.int .i64 (slackR now l), .bool (slackOk now l)]) ∧ Ext w w' := by
  have HM := Lib.hid (may_any now l a cap w hm hr)
  by_cases hn : l.length = 0
  · have hl : l = [] := List.length_eq_zero_iff.1 hn
    subst hl
    have h0 : slackOk now [] = false := rfl
    rw [slack_none h0, h0]
    clear h0 HM hr hn
    go_enter Tryd.func32, Tryd.ntmps32
    go_wp2_with fail
    go_ret2
    exact ⟨rfl, Ext.refl _⟩
  · have hnb : ((l.length : Int) == 0) = false := beq_eq_false_iff_ne.2 (by omega)
    cases hb : mayB now l with
    | false =>
      have h0 : slackOk now l = false := by unfold slackOk; rw [hb]; simp
      rw [slack_none h0, h0]
      rw [hb] at HM
      clear h0 hb hr
      go_enter Tryd.func32, Tryd.ntmps32
      go_wp2_with (go_at_call 70; go_must (with_reducible refine HM.out.mono ?_); rintro e w1 ⟨rfl, h1⟩)
      go_ret2
      exact ⟨rfl, h1⟩
    | true =>
      obtain ⟨hnow, hlen, hmem⟩ := mayB_mem hb
      have h0 : slackOk now l = true := by unfold slackOk; rw [hb]; cases l <;> simp_all
      have hv : slackR now l = slackV now l := by unfold slackR; rw [h0]; rfl
      have hsl := sort_least now l
      rw [hv, h0, ← hsl]
      rw [hb] at HM
      have hn0 : 0 < l.length := by omega
      have HC := Lib.hid fun W (h : Ext w W) => cloneL_any l a cap W hn0 hlen (hr.ext h)
      obtain ⟨s, hse⟩ : ∃ s, sortK (fun x : Int × Int => x.1) l = s := ⟨_, rfl⟩
      obtain ⟨n, hnn⟩ : ∃ n, l.length = n := ⟨_, rfl⟩
      rw [hse, hnn]
      have hperm : s.Perm l := hse ▸ sortK_perm _ l
      have hsn : s.length = n := hperm.length_eq.trans hnn
      have HL := Lib.hid (And.intro (And.intro hlen hse) (And.intro hnn (And.intro hsn (fun x hx => hmem x (hperm.mem_iff.1 hx) : ∀ x ∈ s, (-1000000 ≤ x.1 ∧ x.1 ≤ 1000000) ∧ -1000000 ≤ x.2 ∧ x.2 ≤ 1000000))))
      rw [hnn] at hlen hn0 hn hnb HM HC
      clear hb h0 hv hsl hr hmem hm hse hnn hperm hsn
      go_enter Tryd.func32, Tryd.ntmps32
      go_wp2_with (first
        | (go_at_call 70; go_must (with_reducible refine HM.out.mono ?_); rintro e w1 ⟨rfl, h1⟩)
        | (go_at_call 71; go_must (with_reducible refine (HC.out _ h1).mono ?_); rintro e w2 ⟨g, cg, rfl, hp, hg, h2⟩))
      have hS := slackSort (HL.out).1.1 hp
      have hsort := sortStableL hS cg (by simp; have := (HL.out).1.1; omega)
      rw [show l.toArray.size = n by simp [(HL.out).2.1]] at hsort
      have HP := Lib.hid (And.intro hp (h1.trans h2))
      have hg' : w.heap.size ≤ g := Nat.le_trans h1.size hg
      clear hS hp h1 h2 HM HC
      go_wp2_with (go_at_call 72; with_reducible refine hsort.mono ?_; rintro e1 w3 ⟨rfl, d', hd1, hd2⟩)
      have hx3 : Ext w w3 := by
        have k1 := swk_kp hd2
        exact (((HP.out).2.kp [g]).trans k1).below (Nat.le_refl _) (by simpa using hg')
      have hd1' : d'.toList = s := by
        rw [hd1, ← (HL.out).1.2]
      have hds : d'.size = l.length := by
        have := congrArg List.length hd1'
        rw [(HL.out).2.2.1, ← (HL.out).2.1] at this
        simpa using this
      have hR : PRow w3 (some ⟨g, 0, none⟩) s := by
        have := prow_of_swl (HP.out).1 hds hd2
        rwa [hd1'] at this
      have HN := Lib.hid (HL.out).2.2.1
      have HM := Lib.hid (HL.out).2.2.2
      have HX := Lib.hid hx3
      clear hsort hd1 hd2 hds hd1' hx3 HP HL
      go_wp2_with fail
      go_loopw [7, 8, 27] (fun v7 v8 v27 wr => ∃ k : Nat, k ≤ n ∧ v27 = .int .i64 k ∧ v7 = .int .i64 (sumF posN (s.take k)) ∧ v8 = .int .i64 (leastN (spareP now s) k) ∧ Ext w3 wr) (fun _ _ v27 _ => n - (intOf v27).toNat)
      case atStart => exact ⟨0, Nat.zero_le _, rfl, rfl, rfl, Ext.refl _⟩
      case round =>
        obtain ⟨k, hk, rfl, rfl, rfl, hx⟩ := hrel
        have hkl : k ≤ s.length := by rw [HN.out]; exact hk
        have hs0 : 0 ≤ sumF posN (s.take k) := sumF_nonneg fun x _ => posN_nonneg x
        have hs1 : sumF posN (s.take k) ≤ k * 1000000 := sumF_take_le _ s k 1000000 hkl fun x hx => by have := (HM.out x hx).2; unfold posN; omega
        by_cases hlt : k < n
        · have hks : k < s.length := by rw [HN.out]; exact hlt
          obtain ⟨b, off, he, hbk, c0, c1⟩ := (hR.ext hx) k hks
          obtain ⟨rfl, rfl⟩ : b = g ∧ off = 0 := by injection he with e; injection e with e1 e2; exact ⟨e1.symm, e2.symm⟩
          rw [Nat.zero_add] at c0 c1
          have HS := Lib.hid (sumF_snoc posN s k hks)
          have HV : Hid (spareP now s k = s[k].1 - now - sumF posN (s.take (k + 1))) := by
            show spareP now s k = _
            unfold spareP dlN
            rw [at0_eq _ _ hks]
          have HP2 : Hid (posN s[k] = max s[k].2 0) := (show posN s[k] = max s[k].2 0 from rfl)
          have hxb := HM.out _ (List.getElem_mem hks)
          generalize posN s[k] = q at *
          generalize s[k].1 = x at *
          generalize s[k].2 = y at *
          generalize sumF posN (s.take k) = S at *
          clear he
          have HX2 := Lib.hid hx
          clear hx hR
          by_cases hk0 : k = 0
          · have hkb : ((k : Int) == 0) = true := beq_iff_eq.2 (by omega)
            have HL := Lib.hid (show leastN (spareP now s) (k + 1) = spareP now s k by simp [leastN, hk0])
            generalize leastN (spareP now s) k = L at *
            have hk1 : k < 1 := by omega
            clear hk0
            go_wp2_with fail
            go_roundw
            case rel => exact ⟨k + 1, by omega, by go_num, by rw [HS.out, HP2.out], by rw [HL.out, HV.out, HS.out, HP2.out], (HX2.out).trans (Ext.new _ _)⟩
            case measure => simp [intOf]; omega
          · have hkb : ((k : Int) == 0) = false := beq_eq_false_iff_ne.2 (by omega)
            have HL := Lib.hid (show leastN (spareP now s) (k + 1) = if spareP now s k < leastN (spareP now s) k then spareP now s k else leastN (spareP now s) k by simp [leastN, hk0])
            generalize leastN (spareP now s) k = L at *
            clear hk0
            go_wp2_with fail
            all_goals
              go_roundw
              case rel => exact ⟨k + 1, by omega, by go_num, by rw [HS.out, HP2.out], by rw [HL.out, HV.out, HS.out, HP2.out]; first | rw [if_pos (by assumption)] | rw [if_neg (by omega)], (HX2.out).trans (Ext.new _ _)⟩
              case measure => simp [intOf]; omega
        · obtain rfl : k = n := by omega
          go_wp2_with fail
          go_ret2
          exact ⟨rfl, HX.out.trans hx⟩

set_option maxRecDepth 100000 in
set_option maxHeartbeats 8000000 in
theorem fits_any (now : Int) (l : List (Int × Int)) (a : Option Addr) (cap : Nat) (w : World) (hm : l.length ≤ bigS) (hr : PRow w a l) :
    Calls Tryd.prog 35 #[.int .i64 now, .slice a l.length cap] w fun e w' => e = .returned (.bool (fitsB now l)) ∧ Ext w w' := by
  have HS := Lib.hid (slack_any now l a cap w hm hr)
  have HB := Lib.hid fun W (h : Ext w W) => may_any now l a cap W hm (hr.ext h)
  clear hr hm
  cases hb : mayB now l with
  | false =>
    have hf : fitsB now l = false := by unfold fitsB; rw [hb]; rfl
    rw [hf]
    rw [hb] at HB
    clear hf hb
    go_enter Tryd.func35, Tryd.ntmps35
    go_wp2_with (first
      | (go_at_call 32; go_must (with_reducible refine HS.out.mono ?_); rintro e w1 ⟨rfl, h1⟩)
      | (go_at_call 70; go_must (with_reducible refine (HB.out _ h1).mono ?_); rintro e w2 ⟨rfl, h2⟩))
    go_ret
    exact ⟨rfl, h1.trans h2⟩
  | true =>
    rw [hb] at HB
    cases hl : l.isEmpty with
    | true =>
      have hk : slackOk now l = false := by unfold slackOk; rw [hl]; rfl
      have hf : fitsB now l = true := by unfold fitsB; rw [hb, hl]; rfl
      rw [hf]
      rw [hk] at HS
      clear hf hb hk hl
      go_enter Tryd.func35, Tryd.ntmps35
      go_wp2_with (first
        | (go_at_call 32; go_must (with_reducible refine HS.out.mono ?_); rintro e w1 ⟨rfl, h1⟩)
        | (go_at_call 70; go_must (with_reducible refine (HB.out _ h1).mono ?_); rintro e w2 ⟨rfl, h2⟩))
      go_ret
      exact ⟨rfl, h1.trans h2⟩
    | false =>
      have hk : slackOk now l = true := by unfold slackOk; rw [hl, hb]; rfl
      have hv : slackR now l = slackV now l := by unfold slackR; rw [hk]; rfl
      have hf : fitsB now l = decide (0 ≤ slackV now l) := by unfold fitsB; rw [hb, hl]; rfl
      rw [hf]
      rw [hk, hv] at HS
      clear hf hb hk hl hv
      generalize slackV now l = v at *
      go_enter Tryd.func35, Tryd.ntmps35
      go_wp2_with (first
        | (go_at_call 32; go_must (with_reducible refine HS.out.mono ?_); rintro e w1 ⟨rfl, h1⟩)
        | (go_at_call 70; go_must (with_reducible refine (HB.out _ h1).mono ?_); rintro e w2 ⟨rfl, h2⟩))
      go_ret
      exact ⟨rfl, h1.trans h2⟩
end Go.Proofs.YtnnmakkbnfckmaaDoor
/- Walks: edf.run: jobs run by their deadlines. -/
namespace Go.Proofs.YtnnmakkbnfckmaaDoor
open Go.RowKit

/-! ### What is owned and what is written beside it -/
theorem grownBy_setCell (w : World) (p : Addr) (v : Value) : w.grownBy (w.setCell p v) (some p.block) :=
  ⟨rfl, rfl, rfl, by simp [World.setCell], fun k _ hne => Below.heap_setCell _ _ _ _ (fun e => hne (by rw [e]))⟩
theorem own_set {w : World} {base e k n : Nat} {v : Value} {xs : List Value} (h : w.ownsRow base e k v n xs) {B i : Nat} (hB : B < base) (x : Value) : (w.setCell ⟨B, i, none⟩ x).ownsRow base e k v n xs :=
  h.kept (row := some B) (grownBy_setCell w ⟨B, i, none⟩ x) (by
    cases hv : v.ownBlock with
    | none => exact .inl rfl
    | some g => right; have := (h.lt g hv).1; intro e; cases e; omega)
/-- A slice of ints is handed back. -/
def ISl (l : List Int) (w : World) (e : Ending) (w' : World) : Prop := ∃ a cap, e = .returned (.slice a l.length cap) ∧ IRow w' a l ∧ Ext w w' ∧ l.length ≤ cap ∧ ∀ b o, a = some ⟨b, o, none⟩ → o = 0
theorem ISl.mk {l : List Int} {w w' : World} {base e : Nat} {v : Value} (h : w'.ownsRow base e 1 v l.length (l.map (Value.int .i64))) (hx : Ext w w') : ISl l w (.returned v) w' := by
  have h2 := h.2
  obtain ⟨a, cap, rfl, hr⟩ := own_erow h
  refine ⟨a, cap, rfl, hr, hx, ?_, ?_⟩
  · rcases h2 with ⟨e, h0⟩ | ⟨g, cap', cur, e, _, _, hnc, _⟩
    · omega
    · injection e with e1 e2 e3; omega
  · rcases h2 with ⟨e, h0⟩ | ⟨g, cap', cur, e, _, _, hnc, _⟩
    · injection e with e1 e2 e3; intro b o h; rw [e1] at h; cases h
    · injection e with e1 e2 e3; intro b o h; rw [e1] at h; injection h with h; injection h with h1 h2; exact h2.symm
theorem ISl.nil {w w' : World} (hx : Ext w w') : ISl [] w (.returned (.slice none 0 0)) w' := ⟨none, 0, rfl, ERow.nil _ _ _, hx, Nat.le_refl _, fun _ _ h => by cases h⟩
theorem find_idx {α : Type} (p : α → Bool) (l : List α) : (l.findIdx? p = none ∧ l.find? p = none) ∨ ∃ m, ∃ h : m < l.length, l.findIdx? p = some m ∧ l.find? p = some l[m] := by
  cases h : l.findIdx? p with
  | none =>
    refine .inl ⟨rfl, ?_⟩
    rw [List.findIdx?_eq_none_iff] at h
    rw [List.find?_eq_none]
    intro x hx
    simpa using h x hx
  | some m =>
    obtain ⟨hm, hp, hno⟩ := List.findIdx?_eq_some_iff_getElem.1 h
    refine .inr ⟨m, hm, rfl, ?_⟩
    rw [List.find?_eq_some_iff_getElem]
    exact ⟨hp, m, hm, rfl, fun j hj => by simpa using hno j hj⟩
theorem idx_nz {p : Int → Bool} (l : List Nat) : (nz l).findIdx? p = l.findIdx? (fun i : Nat => p (i : Int)) := by
  rw [List.findIdx?_map]; rfl

/-- What has been left of each, behind a trace. -/
abbrev leftOf (need : Nat → Int) (t : List (Option Nat)) (i : Nat) : Int := need i - (t.count (some i) : Int)

set_option maxRecDepth 100000 in
set_option maxHeartbeats 8000000 in
theorem run_no (l : List J) (ticks : Int) (g : FuncId) (a : Option Addr) (cap : Nat) (w : World) (hm : l.length ≤ bigS) (hT : Tabs w) (hs : ∀ j ∈ l, j.ok) (hr : JRow w a l) (hno : allB l = false ∨ ticks < 0) :
    Calls Tryd.prog 75 #[.slice a l.length cap, .int .i64 ticks, .func (.func g) #[] #[]] w fun e w' => e = .returned (.slice none 0 0) ∧ Ext w w' := by
  have HC := Lib.hid fun W (h : Ext w W) => all_any l a cap W hm (NameC.of (hT.ext h)) hs (hr.ext h)
  clear hT hs hr hm
  cases hal : allB l with
  | false =>
    rw [hal] at HC
    clear hal hno
    go_enter Tryd.func75, Tryd.ntmps75
    go_wp2_with (go_at_call 17; go_must (with_reducible refine (HC.out _ (Ext.new _ _)).mono ?_); rintro e w1 ⟨rfl, h1⟩)
    go_ret
    exact ⟨rfl, (Ext.new _ _).trans h1⟩
  | true =>
    have ht : ticks < 0 := by rcases hno with h | h
                              · rw [h] at hal; cases hal
                              · exact h
    rw [hal] at HC
    clear hal hno
    go_enter Tryd.func75, Tryd.ntmps75
    go_wp2_with (go_at_call 17; go_must (with_reducible refine (HC.out _ (Ext.new _ _)).mono ?_); rintro e w1 ⟨rfl, h1⟩)
    go_ret
    exact ⟨rfl, (Ext.new _ _).trans h1⟩

set_option maxRecDepth 100000 in
set_option maxHeartbeats 16000000 in
theorem keepR {wy W W' : World} {BL bj n : Nat} {nm : ByteArray} {rel dl bud act val cln : Int} {hard : Bool} (hb : bj < wy.heap.size ∧ bj ≠ BL ∧ BL + 1 < wy.heap.size) (hE : Kp [BL] W W') (h : Kp [BL] wy W ∧ W.cell? ⟨BL + 1, 0, none⟩ = some (.slice (some ⟨BL, 0, none⟩) n n) ∧ W.cell? ⟨bj, 0, none⟩ = some (.string nm) ∧ W.cell? ⟨bj, 1, none⟩ = some (.int .i64 rel) ∧ W.cell? ⟨bj, 2, none⟩ = some (.int .i64 dl) ∧ W.cell? ⟨bj, 3, none⟩ = some (.int .i64 bud) ∧ W.cell? ⟨bj, 4, none⟩ = some (.int .i64 act) ∧ W.cell? ⟨bj, 5, none⟩ = some (.int .i64 val) ∧ W.cell? ⟨bj, 6, none⟩ = some (.int .i64 cln) ∧ W.cell? ⟨bj, 7, none⟩ = some (.bool hard)) :
    Kp [BL] wy W' ∧ W'.cell? ⟨BL + 1, 0, none⟩ = some (.slice (some ⟨BL, 0, none⟩) n n) ∧ W'.cell? ⟨bj, 0, none⟩ = some (.string nm) ∧ W'.cell? ⟨bj, 1, none⟩ = some (.int .i64 rel) ∧ W'.cell? ⟨bj, 2, none⟩ = some (.int .i64 dl) ∧ W'.cell? ⟨bj, 3, none⟩ = some (.int .i64 bud) ∧ W'.cell? ⟨bj, 4, none⟩ = some (.int .i64 act) ∧ W'.cell? ⟨bj, 5, none⟩ = some (.int .i64 val) ∧ W'.cell? ⟨bj, 6, none⟩ = some (.int .i64 cln) ∧ W'.cell? ⟨bj, 7, none⟩ = some (.bool hard) := by
  obtain ⟨hx, a, a0, a1, a2, a3, a4, a5, a6, a7⟩ := h
  have q : bj < W.heap.size := Nat.lt_of_lt_of_le hb.1 hx.size
  have q1 : BL + 1 < W.heap.size := Nat.lt_of_lt_of_le hb.2.2 hx.size
  refine ⟨hx.trans hE, ?_⟩
  simp only [hE.cell q (by simpa using hb.2.1), hE.cell q1 (by simp)]
  exact ⟨a, a0, a1, a2, a3, a4, a5, a6, a7⟩
theorem rowN_fill (g : Nat → Int) (n k : Nat) : rowN (upd (fun i => if i < k then g i else 0) k (g k)) n = rowN (fun i => if i < k + 1 then g i else 0) n := by
  refine List.map_congr_left fun i _ => ?_
  show (if i = k then g k else if i < k then g i else 0) = if i < k + 1 then g i else 0
  by_cases c : i = k
  · subst c; rw [if_pos rfl, if_pos (by omega)]
  · rw [if_neg c]
    by_cases d : i < k
    · rw [if_pos d, if_pos (by omega)]
    · rw [if_neg d, if_neg (by omega)]
theorem rowN_full (g : Nat → Int) (n : Nat) : rowN (fun i => if i < n then g i else 0) n = rowN (leftOf g []) n := by
  refine List.map_congr_left fun i hi => ?_
  have := List.mem_range.1 hi
  show (if i < n then g i else 0) = g i - 0
  rw [if_pos this]; omega
theorem edfT_step (l : List J) (need : Nat → Int) (m : Nat) : edfT l need (m + 1) = edfT l need m ++ [pick l (mayRun l need (edfT l need m))] := rfl
theorem IArr.below {B BL : Nat} {w w' : World} {xs : List Int} (h : IArr w BL xs) (hB : Below B w w') (hl : BL < B) : IArr w' BL xs := by
  obtain ⟨rest, h⟩ := h
  exact ⟨rest, (hB.block BL hl).trans h⟩
theorem Kp.below_trans {S : List Nat} {w a b : World} (h : Kp S w a) (k : Below w.heap.size a b) : Kp S w b :=
  ⟨k.os.trans h.os, k.tape.trans h.tape, k.output.trans h.output, Nat.le_trans h.size k.size, fun i hi hn => (k.block i hi).trans (h.block i hi hn)⟩
theorem leftOf_none (need : Nat → Int) (t : List (Option Nat)) (n : Nat) : rowN (leftOf need (t ++ [none])) n = rowN (leftOf need t) n := by
  refine List.map_congr_left fun i _ => ?_
  simp [leftOf, List.count_append]
theorem leftOf_some (need : Nat → Int) (t : List (Option Nat)) (i n : Nat) : rowN (leftOf need (t ++ [some i])) n = rowN (upd (leftOf need t) i (leftOf need t i - 1)) n := by
  refine List.map_congr_left fun j _ => ?_
  show need j - ((t ++ [some i]).count (some j) : Nat) = if j = i then leftOf need t i - 1 else leftOf need t j
  rw [List.count_append, List.count_singleton]
  by_cases h : j = i
  · subst h; simp [leftOf]; omega
  · have h' : ¬ i = j := fun e => h e.symm
    simp [leftOf, h, h']
theorem hf_mem (l : List J) (f : J → Int) (k : Nat) (h : k < l.length) : at0 f l k = f l[k] := at0_eq _ _ h
set_option maxRecDepth 100000 in
set_option maxHeartbeats 16000000 in
theorem run_any (l : List J) (ticks : Int) (g : FuncId) (f : J → Int) (a : Option Addr) (cap : Nat) (w : World) (hT : Tabs w) (hs : ∀ j ∈ l, j.ok) (hr : JRow w a l) (hal : allB l = true) (ht : 0 ≤ ticks)
    (eg : ∀ args w, (callFunc g args).run Tryd.prog w = .ok (.enter g args) w) (hf : ∀ j ∈ l, 0 ≤ f j ∧ f j ≤ 1000000)
    (hg : ∀ j ∈ l, ∀ W, Ext w W → Calls Tryd.prog g #[j.agg] W fun e w' => e = .returned (.int .i64 (f j)) ∧ Ext W w') :
    Calls Tryd.prog 75 #[.slice a l.length cap, .int .i64 ticks, .func (.func g) #[] #[]] w (ISl (trI (edfT l (at0 f l) (min ticks 10000).toNat)) w) := by
  have mixed : Tryd.prog.follows .mixedOrders = true := by kernel_rfl
  obtain ⟨hlen, hgood⟩ := allB_all hal
  have HC := Lib.hid fun W (h : Ext w W) => all_any l a cap W (by unfold bigS; omega) (NameC.of (hT.ext h)) hs (hr.ext h)
  have HB := Lib.hid fun W (h : Ext w W) => byDeadline_any l a cap W (by omega) (hr.ext h)
  rw [hal] at HC
  obtain ⟨n, hn⟩ : ∃ n, l.length = n := ⟨_, rfl⟩
  have HO := Lib.hid (And.intro hr (And.intro hn (And.intro hf hg)))
  rw [hn] at hlen HC HB ⊢
  clear hT hs hr hal hgood hn hf hg
  have hmk := fun W => run_make1 rtInt rfl n (by omega) (by decide) W
  go_enter Tryd.func75, Tryd.ntmps75
  go_wp2_with (first
    | (go_at_call 17; go_must (with_reducible refine (HC.out _ (Ext.new _ _)).mono ?_); rintro e w1 ⟨rfl, h1⟩; obtain ⟨hc1, hf1⟩ := bcell h1; have z1 : w.heap.size < w1.heap.size := (by have := h1.size; simp at this; omega); have x1 := (Ext.new _ _).trans h1)
    | (go_at_call 27; go_must (with_reducible refine (HB.out _ x1).mono ?_); rintro e w2 ⟨ao, co, rfl, hi2, h2⟩; obtain ⟨hc2, hf2⟩ := bcell h2; have z2 : w.heap.size < w2.heap.size := Nat.lt_of_lt_of_le z1 h2.size))
  have hxz : Ext w ((w2.alloc (.cells (Array.replicate n (.int .i64 0)) 3)).alloc (.cells #[.slice (some ⟨w2.heap.size, 0, none⟩) n n] 39)) := (((x1.trans h2).alloc _).alloc _)
  have hcx : ((w2.alloc (.cells (Array.replicate n (.int .i64 0)) 3)).alloc (.cells #[.slice (some ⟨w2.heap.size, 0, none⟩) n n] 39)).cell? ⟨w.heap.size, 0, none⟩ = some (.slice a n cap) := by
    rw [(((Ext.new _ _).trans (Ext.new _ _)).cell z2), hc2 _ _ z1, hc1 _ _ (by simp)]
    simp
  have hcl : ((w2.alloc (.cells (Array.replicate n (.int .i64 0)) 3)).alloc (.cells #[.slice (some ⟨w2.heap.size, 0, none⟩) n n] 39)).cell? ⟨w2.heap.size + 1, 0, none⟩ = some (.slice (some ⟨w2.heap.size, 0, none⟩) n n) := by
    simp
  have hIA : IArr ((w2.alloc (.cells (Array.replicate n (.int .i64 0)) 3)).alloc (.cells #[.slice (some ⟨w2.heap.size, 0, none⟩) n n] 39)) w2.heap.size (rowN (fun i => if i < 0 then at0 f l i else 0) n) := by
    refine ⟨[], ?_⟩
    have e : (rowN (fun i => if i < 0 then at0 f l i else 0) n).map (Value.int .i64) ++ [] = (Array.replicate n (Value.int .i64 0)).toList := by
      rw [List.append_nil]
      apply List.ext_getElem (by simp)
      intro i h1 h2
      simp
    rw [e]
    exact alloc_old _ _ _ _ (by simp) (alloc_at _ _ _ rfl)
  have hir : ∀ i (hi : i < (nz (byDl l)).length), ∃ b o, ao = some ⟨b, o, none⟩ ∧ b < w2.heap.size ∧ ((w2.alloc (.cells (Array.replicate n (.int .i64 0)) 3)).alloc (.cells #[.slice (some ⟨w2.heap.size, 0, none⟩) n n] 39)).cell? ⟨b, o + i, none⟩ = some (.int .i64 (nz (byDl l))[i]) := fun i hi => by
    obtain ⟨b, o, e, hb, hc⟩ := hi2 i hi
    exact ⟨b, o, e, hb, (((Ext.new _ _).trans (Ext.new _ _)).cell hb).trans hc⟩
  have HIR := Lib.hid hir
  clear hir
  have hzs : w2.heap.size + 2 ≤ ((w2.alloc (.cells (Array.replicate n (.int .i64 0)) 3)).alloc (.cells #[.slice (some ⟨w2.heap.size, 0, none⟩) n n] 39)).heap.size := by simp
  generalize (w2.alloc (.cells (Array.replicate n (.int .i64 0)) 3)).alloc (.cells #[.slice (some ⟨w2.heap.size, 0, none⟩) n n] 39) = wz at *
  have HB2 : Hid (w.heap.size ≤ w2.heap.size) := (show w.heap.size ≤ w2.heap.size from Nat.le_of_lt z2)
  have hbx : w.heap.size < w2.heap.size := z2
  clear h1 hc1 hf1 x1 h2 hc2 hf2 hi2 z1 z2 HC HB
  have hir := HIR.out
  clear HIR
  generalize w2.heap.size = BL at *
  have HIR := Lib.hid hir
  clear hir
  have HW : Hid (∃ bx, w.heap.size = bx) := ⟨_, rfl⟩
  go_loopw [28] (fun v28 wr => ∃ k : Nat, k ≤ n ∧ v28 = .int .i64 k ∧ IArr wr BL (rowN (fun i => if i < k then at0 f l i else 0) n) ∧ Aside (Kp [BL] wz wr)) (fun v28 _ => n - (intOf v28).toNat)
  case atStart => exact ⟨0, Nat.zero_le _, by go_num, hIA, Kp.refl _ _⟩
  case round =>
    obtain ⟨k, hk, rfl, hI, HK⟩ := hrel
    by_cases hlt : k < n
    · have hkl : k < l.length := by rw [(HO.out).2.1]; exact hlt
      obtain ⟨b, off, rfl, hb, hJ⟩ := (HO.out).1.at hkl
      have hJk := hJ k hkl
      have hcell : ∀ o, wr.cell? ⟨b, o, none⟩ = w.cell? ⟨b, o, none⟩ := fun o =>
        ((HK.out).cell (hxz.lt hb) (by simp; omega)).trans (hxz.cell hb)
      have hJr : JCells wr b (off + k * 8) l[k] := ⟨(hcell _).trans hJk.c0, (hcell _).trans hJk.c1, (hcell _).trans hJk.c2, (hcell _).trans hJk.c3, (hcell _).trans hJk.c4, (hcell _).trans hJk.c5, (hcell _).trans hJk.c6, (hcell _).trans hJk.c7⟩
      have hclr : wr.cell? ⟨BL + 1, 0, none⟩ = some (.slice (some ⟨BL, 0, none⟩) n n) := ((HK.out).cell (by omega) (by simp)).trans hcl
      have hfk := hf_mem l f k hkl
      have hxw : Ext w wr := ((hxz.kp [BL]).trans HK.out).below (Nat.le_refl _) (by simpa using HB2.out)
      have HG : Hid (∀ W, Ext wr W → Calls Tryd.prog g #[l[k].agg] W fun e w' => e = .returned (.int .i64 (f l[k])) ∧ Ext W w') := Lib.hid fun W h => (HO.out).2.2.2 _ (List.getElem_mem hkl) W (hxw.trans h)
      clear hJ hJk hcell hxw
      have HF := Lib.hid hfk
      clear hfk
      generalize l[k] = j at *
      generalize f j = fj at *
      obtain ⟨nm, rel, dl, bud, act, val, cln, hard⟩ := j
      obtain ⟨c0, c1, c2, c3, c4, c5, c6, c7⟩ := hJr
      go_wp2_with fail
      have hI1 := hI.ext (Ext.new wr (.cells (J.cells ⟨nm, rel, dl, bud, act, val, cln, hard⟩).toArray 24))
      obtain ⟨d0, d1, d2, d3, d4, d5, d6, d7⟩ := jcells_new ⟨nm, rel, dl, bud, act, val, cln, hard⟩ wr 24
      simp only [Nat.zero_add] at d1 d2 d3 d4 d5 d6 d7
      have hcl1 := ((Ext.new wr (.cells (J.cells ⟨nm, rel, dl, bud, act, val, cln, hard⟩).toArray 24)).cell (b := BL + 1) (o := 0) (by have := (HK.out).size; omega)).trans hclr
      have hsz : (wr.alloc (.cells (J.cells ⟨nm, rel, dl, bud, act, val, cln, hard⟩).toArray 24)).heap.size = wr.heap.size + 1 := by simp
      have HK1 := Lib.hid ((HK.out).alloc (.cells (J.cells ⟨nm, rel, dl, bud, act, val, cln, hard⟩).toArray 24))
      have HX1 := Lib.hid (Ext.new wr (.cells (J.cells ⟨nm, rel, dl, bud, act, val, cln, hard⟩).toArray 24))
      generalize wr.alloc (.cells (J.cells ⟨nm, rel, dl, bud, act, val, cln, hard⟩).toArray 24) = wy at *
      have hkz : (k : Int) < (n : Int) := by omega
      have HBJ : Hid (wr.heap.size < wy.heap.size ∧ wr.heap.size ≠ BL ∧ BL + 1 < wy.heap.size) := ⟨by omega, by have := (HK.out).size; omega, by have := (HK.out).size; omega⟩
      have HI1 := Lib.hid hI1
      have hfr : ∀ W, Ext wy W → W.frozen? ⟨BL, k, none⟩ = false := fun W h => (hI1.ext h).frozen k
      obtain ⟨y, hy⟩ : ∃ y : Int, ∀ W, Ext wy W → W.cell? ⟨BL, k, none⟩ = some (.int .i64 y) := ⟨_, fun W h => (hI1.ext h).cell (i := k) (by simpa using hlt)⟩
      have HFR := Lib.hid (And.intro hfr hy)
      have HXr : Hid (Ext wr wy) := HX1
      clear c0 c1 c2 c3 c4 c5 c6 c7 hclr hcx hI1 hfr hy hsz hI
      go_region_held3 (fun W => Kp [BL] wy W ∧ W.cell? ⟨BL + 1, 0, none⟩ = some (.slice (some ⟨BL, 0, none⟩) n n) ∧ W.cell? ⟨wr.heap.size, 0, none⟩ = some (.string nm) ∧ W.cell? ⟨wr.heap.size, 1, none⟩ = some (.int .i64 rel) ∧ W.cell? ⟨wr.heap.size, 2, none⟩ = some (.int .i64 dl) ∧ W.cell? ⟨wr.heap.size, 3, none⟩ = some (.int .i64 bud) ∧ W.cell? ⟨wr.heap.size, 4, none⟩ = some (.int .i64 act) ∧ W.cell? ⟨wr.heap.size, 5, none⟩ = some (.int .i64 val) ∧ W.cell? ⟨wr.heap.size, 6, none⟩ = some (.int .i64 cln) ∧ W.cell? ⟨wr.heap.size, 7, none⟩ = some (.bool hard))
        (first
          | exact ⟨(Kp.refl _ _).drew, by assumption, by assumption, by assumption, by assumption, by assumption, by assumption, by assumption, by assumption, by assumption⟩
          | exact keepR HBJ.out (hE.kp [BL]) (by assumption)
          | exact keepR HBJ.out (Kp.setCell (Kp.refl _ _) (by simp) _) (by assumption)
          | exact keepR HBJ.out ((Kp.setCell (Kp.refl _ _) (by simp) _).drew) (by assumption))
        (((with_reducible refine (HG.out _ (by exact (HX1.out).drew)).mono ?_); rintro e w4 ⟨rfl, hE⟩; have hfz := (HFR.out).1 _ (((Ext.refl wy).drew).trans hE); have hcz := (HFR.out).2 _ (((Ext.refl wy).drew).trans hE)))
      have HI2 : Hid (IArr (w4.setCell ⟨BL, k, none⟩ (.int .i64 fj)) BL (rowN (fun i => if i < k + 1 then at0 f l i else 0) n)) := by
        have := (HI1.out.ext (((Ext.refl wy).drew).trans hE)).set (i := k) (by simpa using hlt) fj
        rw [rowN_set] at this
        have e := rowN_fill (at0 f l) n k
        rw [HF.out] at e
        rw [e] at this
        exact this
      have HK2 : Hid (Kp [BL] wz (w4.setCell ⟨BL, k, none⟩ (.int .i64 fj))) := (HK1.out).trans ((((Ext.refl wy).drew.trans hE).kp [BL]).setCell (by simp) _)
      clear hfz hcz d0 d1 d2 d3 d4 d5 d6 d7 hcl1 hE
      go_wp2_with fail
      go_roundw
      case rel => exact ⟨k + 1, by omega, by go_num, HI2.out, HK2.out⟩
      case measure => simp [intOf]; omega
    · obtain rfl : k = n := by omega
      have hI0 : IArr wr BL (rowN (leftOf (at0 f l) []) k) := by
        have e := rowN_full (at0 f l) k
        rwa [e] at hI
      have hcxr := ((HK.out).cell (b := w.heap.size) (o := 0) (by omega) (by simp; omega)).trans hcx
      have hclr := ((HK.out).cell (b := BL + 1) (o := 0) (by omega) (by simp)).trans hcl
      clear hI hcx hcl
      go_wp2_with fail
      obtain ⟨T, hTT⟩ : ∃ T : Nat, (T : Int) = min ticks 10000 := ⟨(min ticks 10000).toNat, by omega⟩
      have hT0 : T ≤ 10000 := by omega
      rw [← hTT, Int.toNat_natCast]
      have HE := Lib.hid hTT
      clear hTT ht
      obtain ⟨wo, hwo⟩ : ∃ wo : World, wo = wr := ⟨_, rfl⟩
      subst hwo
      have hxo : Ext w wo := ((hxz.kp [BL]).trans HK.out).below (Nat.le_refl _) (by simpa using HB2.out)
      have hio : ∀ i (hi : i < (nz (byDl l)).length), ∃ b o, ao = some ⟨b, o, none⟩ ∧ b < wo.heap.size ∧ b ≠ BL ∧ wo.cell? ⟨b, o + i, none⟩ = some (.int .i64 (nz (byDl l))[i]) := fun i hi => by
        obtain ⟨b, o, e, hb, hc⟩ := HIR.out i hi
        have hbz : b < wz.heap.size := by omega
        exact ⟨b, o, e, Nat.lt_of_lt_of_le hbz (HK.out).size, by omega, ((HK.out).cell hbz (by simp; omega)).trans hc⟩
      have hBo : BL + 1 < wo.heap.size := by have := (HK.out).size; omega
      have HXO := Lib.hid (And.intro hxo hio)
      clear hxo hio HK HIR hIA hxz
      go_loopw [11, 42] (fun v11 v42 wr => ∃ m : Nat, m ≤ T ∧ v42 = .int .i64 m ∧ wr.ownsRow wo.heap.size 3 1 v11 m ((trI (edfT l (at0 f l) m)).map (Value.int .i64)) ∧ IArr wr BL (rowN (leftOf (at0 f l) (edfT l (at0 f l) m)) k) ∧ Aside (Kp [BL] wo wr)) (fun _ v42 _ => T - (intOf v42).toNat)
      case atStart => exact ⟨0, Nat.zero_le _, by go_num, World.ownsRow_nil _ _ _ _, hI0, Kp.refl _ _⟩
      case round =>
        obtain ⟨m, hmT, rfl, hown, hI, HK⟩ := hrel
        by_cases hlt2 : m < T
        · have HT := Lib.hid (edfT_step l (at0 f l) m)
          have htl := edfT_length l (at0 f l) m
          have HTL := Lib.hid htl
          clear htl
          generalize edfT l (at0 f l) m = t at *
          have hix : Hid (Calls Tryd.prog 113 #[.slice ao k co, .func (.func 114) #[] #[.pointer (some ⟨w.heap.size, 0, none⟩), .pointer (some ⟨wr.heap.size, 0, none⟩), .pointer (some ⟨BL + 1, 0, none⟩)]] (wr.alloc (.cells #[.int .i64 m] 3)) fun e w' => e = .returned (.int .i64 (idxI ((byDl l).findIdx? (mayRun l (at0 f l) t)))) ∧ Ext (wr.alloc (.cells #[.int .i64 m] 3)) w') := by
            show Calls _ _ _ _ _
            have h0 := indexFuncI (nz (byDl l)) (fun x => mayRun l (at0 f l) t x.toNat) 114 #[.pointer (some ⟨w.heap.size, 0, none⟩), .pointer (some ⟨wr.heap.size, 0, none⟩), .pointer (some ⟨BL + 1, 0, none⟩)] ao co (wr.alloc (.cells #[.int .i64 m] 3)) (by rw [List.length_map, byDl_length, (HO.out).2.1]; unfold bigS; omega) (Go.Proofs.enters_of Tryd.func114 (by kernel_rfl) rfl) ?_ ?_
            · rw [idx_nz, List.length_map, byDl_length, (HO.out).2.1] at h0
              simpa using h0
            · intro x hx W hW
              obtain ⟨i, hi, rfl⟩ := List.mem_map.1 hx
              have hil : i < l.length := (byDl_mem l).1 hi
              have hik : i < k := by rw [← (HO.out).2.1]; exact hil
              obtain ⟨b, off, ha, hb, hJ⟩ := (HO.out).1.at hil
              subst ha
              have hwr : Ext w wr := (((HXO.out).1.kp [BL]).trans HK.out).below (Nat.le_refl _) (by simpa using HB2.out)
              have hwW : Ext w W := (hwr.trans (Ext.new _ _)).trans hW
              have hrW : Ext wr W := (Ext.new _ _).trans hW
              have hsz := (HK.out).size
              have e1 := hrW.cell (b := w.heap.size) (o := 0) (by omega)
              have e2 := hW.cell (b := wr.heap.size) (o := 0) (by simp)
              have e3 := hrW.cell (b := BL + 1) (o := 0) (by omega)
              have e4 := (hI.ext hrW).cell (i := i) (by simpa using hik)
              have := runPred_any k i l[i].rel (leftOf (at0 f l) t i) m w.heap.size wr.heap.size (BL + 1) b off cap BL k W hik (by omega)
                (e1.trans (((HK.out).cell (by omega) (by simp; omega)).trans hcxr)) (e2.trans (by simp)) (e3.trans (((HK.out).cell hBo (by simp)).trans hclr)) ((hwW.cell hb).trans (hJ i hil).c1) (e4.trans (by simp))
              refine Calls.mono this fun e w' ⟨he, hx⟩ => ⟨?_, hx⟩
              rw [he]
              unfold mayRun
              rw [Int.toNat_natCast, at0_eq _ _ hil, HTL.out]
              congr 3
              rw [decide_eq_decide]
              have : leftOf (at0 f l) t i = at0 f l i - (t.count (some i) : Int) := rfl
              omega
            · intro i hi
              obtain ⟨b, o, e, hb, hne, hc⟩ := (HXO.out).2 i hi
              have hbr : b < wr.heap.size := Nat.lt_of_lt_of_le hb (HK.out).size
              exact ⟨b, o, e, by simp; omega, ((Ext.new _ _).cell hbr).trans (((HK.out).cell hb (by simpa using hne)).trans hc)⟩
          rcases find_idx (mayRun l (at0 f l) t) (byDl l) with ⟨f1, f2⟩ | ⟨q, hq, f1, f2⟩
          · rw [f1, idxI_none] at hix
            have HP : Hid (pick l (mayRun l (at0 f l) t) = none) := f2
            clear f1 f2
            go_wp2_with (first
              | (go_at_call 113; go_must (with_reducible refine hix.out.mono ?_); rintro e w5 ⟨rfl, h5⟩)
              | (at_builtin; go_must (refine wpList_app1 rtInt wo.heap.size (own_ext hown ((Ext.new _ _).trans h5)) rfl (.tmp 50) (.tmp 51) rfl rfl [.int .i64 (-1)] _ rfl (by simp) rfl (by simp [Value.oneCell']) (by omega) (by decide) (by have := (HK.out).size; have := h5.size; simp at this; omega) _ ?_); intro v6 w6 hown6 hB6 hg6))
            go_roundw
            case rel =>
              refine ⟨m + 1, by omega, by go_num, ?_, ?_, ?_⟩
              · rw [HT.out, HP.out]; simpa [idxI] using hown6
              · rw [HT.out, HP.out, leftOf_none]
                exact (hI.ext ((Ext.new _ _).trans h5)).below hB6 (by omega)
              · exact ((HK.out).ext ((Ext.new _ _).trans h5)).below_trans hB6
            case measure => simp [intOf]; omega
          · rw [f1, idxI_some] at hix
            obtain ⟨i, hie⟩ : ∃ i, (byDl l)[q] = i := ⟨_, rfl⟩
            have hiB : i ∈ byDl l := hie ▸ List.getElem_mem hq
            have hil : i < l.length := (byDl_mem l).1 hiB
            have hik : i < k := by rw [← (HO.out).2.1]; exact hil
            have hqk : q < k := by have := byDl_length l; have := (HO.out).2.1; omega
            have HP : Hid (pick l (mayRun l (at0 f l) t) = some i) := by show pick _ _ = _; unfold pick; rw [f2, hie]
            have hqz : (q : Int) < (k : Int) := by omega
            have hiz : (i : Int) < (k : Int) := by omega
            have hq0 : decide ((q : Int) < 0) = false := decide_eq_false (by omega)
            obtain ⟨b, o, ha, hb, hne, hc⟩ := (HXO.out).2 q (by simpa using hq)
            subst ha
            have hbr : b < wr.heap.size := Nat.lt_of_lt_of_le hb (HK.out).size
            have HC := Lib.hid (((HK.out).cell hb (by simpa using hne)).trans hc)
            have HCL := Lib.hid (((HK.out).cell hBo (by simp)).trans hclr)
            have HIE := Lib.hid hie
            clear f1 f2 hc hcxr hclr hie hiB
            go_wp2_with (first
              | (go_at_call 113; go_must (with_reducible refine hix.out.mono ?_); rintro e w5 ⟨rfl, h5⟩))
            have hX5 : Ext wr w5 := (Ext.new _ _).trans h5
            have c1 := (hX5.cell hbr).trans HC.out
            have c2 := (hX5.cell (b := BL + 1) (o := 0) (by have := (HK.out).size; omega)).trans HCL.out
            have hI5 := hI.ext hX5
            have c3 := hI5.cell (i := i) (by simpa using hik)
            have c4 := hI5.frozen i
            simp only [List.getElem_map, List.getElem_range, HIE.out] at c1 c3
            have hlb : 0 < leftOf (at0 f l) t i := by
              have h1 := (pick_some HP.out).2.1
              unfold mayRun at h1
              simp only [Bool.and_eq_true, decide_eq_true_eq] at h1
              show 0 < at0 f l i - _
              omega
            have hub : leftOf (at0 f l) t i ≤ 1000000 := by
              have h1 := ((HO.out).2.2.1 _ (List.getElem_mem hil)).2
              rw [← at0_eq f l hil] at h1
              show at0 f l i - _ ≤ _
              omega
            obtain ⟨v, hv⟩ : ∃ v, leftOf (at0 f l) t i = v := ⟨_, rfl⟩
            rw [hv] at c3 hlb hub
            have HV := Lib.hid hv
            clear hv hI
            have HX5 := Lib.hid (And.intro hX5 hI5)
            clear hX5 hI5 h5 hix
            go_wp2_with fail
            go_region
            have hIy : IArr (w5.setCell ⟨BL, i, none⟩ (.int .i64 (v - 1))).drew BL (rowN (leftOf (at0 f l) (t ++ [some i])) k) := by
              have := (HX5.out).2.set (i := i) (by simpa using hik) (v - 1)
              rw [rowN_set, ← HV.out, ← leftOf_some] at this
              rw [← HV.out]
              exact this
            have hoy : (w5.setCell ⟨BL, i, none⟩ (.int .i64 (v - 1))).drew.ownsRow wo.heap.size 3 1 u11 m ((trI t).map (Value.int .i64)) := own_set (own_ext hown (HX5.out).1) (by omega) _
            have hKy : Kp [BL] wo (w5.setCell ⟨BL, i, none⟩ (.int .i64 (v - 1))).drew := (((HK.out).ext (HX5.out).1).setCell (by simp) _).drew
            have hcy : (w5.setCell ⟨BL, i, none⟩ (.int .i64 (v - 1))).drew.cell? ⟨b, o + q, none⟩ = some (.int .i64 i) := by
              have hlt5 : b < w5.heap.size := (HX5.out).1.lt hbr
              rw [(((Kp.refl [BL] w5).setCell (p := ⟨BL, i, none⟩) (by simp) (.int .i64 (v - 1))).drew).cell hlt5 (by simpa using hne)]
              exact c1
            clear c1 c2 c3 c4 hown
            generalize (w5.setCell ⟨BL, i, none⟩ (.int .i64 (v - 1))).drew = wy at *
            have HKy := Lib.hid hKy
            have hszy := hKy.size
            clear hKy
            go_wp2_with (at_builtin; go_must (refine wpList_app1 rtInt wo.heap.size hoy rfl (.tmp 62) (.tmp 67) rfl rfl [.int .i64 i] _ rfl (by simp) rfl (by simp [Value.oneCell']) (by omega) (by decide) (by omega) _ ?_); intro v6 w6 hown6 hB6 hg6)
            go_roundw
            case rel =>
              refine ⟨m + 1, by omega, by go_num, ?_, ?_, ?_⟩
              · rw [HT.out, HP.out]; simpa [idxI] using hown6
              · rw [HT.out, HP.out]
                exact hIy.below hB6 (by omega)
              · exact (HKy.out).below_trans hB6
            case measure => simp [intOf]; omega
        · obtain rfl : m = T := by omega
          go_wp2_with fail
          go_ret
          have hx : Ext w wr := (((HXO.out).1.kp [BL]).trans HK.out).below (Nat.le_refl _) (by simpa using HB2.out)
          refine ISl.mk (base := wo.heap.size) (e := 3) ?_ hx
          have hTm : (min ticks 10000).toNat = m := by rw [← HE.out]; rfl
          rw [List.length_map, edfT_length, hTm]
          exact hown
end Go.Proofs.YtnnmakkbnfckmaaDoor
/- Walks: edf.Run, edf.Meets. -/
namespace Go.Proofs.YtnnmakkbnfckmaaDoor
open Go.RowKit

/-- What Run tells. -/
def runV (l : List J) (ticks : Int) : List Int := if allB l = true ∧ 0 ≤ ticks then trI (edfT l (at0 workJ l) (min ticks 10000).toNat) else []
/-- Has each its charge by its deadline? -/
def metB (l : List J) (i : Nat) : Bool := decide (at0 chargeJ l i ≤ ((edfT l (at0 chargeJ l) (at0 J.dl l i).toNat).count (some i) : Int))
def meetsB (l : List J) : Bool := allB l && (List.range l.length).all (metB l)
theorem work_bd {l : List J} (h : allB l = true) : ∀ j ∈ l, 0 ≤ workJ j ∧ workJ j ≤ 1000000 := fun j hj => by
  obtain ⟨i, hi, rfl⟩ := List.getElem_of_mem hj
  have g := goodJ_of (allB_all h).2 hi
  have h1 := g.wrk; have h2 := g.le; have h3 := g.chg
  rw [at0_eq _ _ hi] at h1 h2
  rw [at0_eq _ _ hi] at h2 h3
  omega
theorem charge_bd {l : List J} (h : allB l = true) : ∀ j ∈ l, 0 ≤ chargeJ j ∧ chargeJ j ≤ 1000000 := fun j hj => by
  obtain ⟨i, hi, rfl⟩ := List.getElem_of_mem hj
  have g := goodJ_of (allB_all h).2 hi
  have h1 := g.wrk; have h2 := g.le; have h3 := g.chg
  rw [at0_eq _ _ hi] at h1 h2
  rw [at0_eq _ _ hi] at h2 h3
  omega

set_option maxRecDepth 100000 in
set_option maxHeartbeats 4000000 in
theorem edfRun_any (l : List J) (ticks : Int) (a : Option Addr) (cap : Nat) (w : World) (hm : l.length ≤ bigS) (hT : Tabs w) (hs : ∀ j ∈ l, j.ok) (hr : JRow w a l) :
    Calls Tryd.prog 38 #[.slice a l.length cap, .int .i64 ticks] w (ISl (runV l ticks) w) := by
  by_cases hc : allB l = true ∧ 0 ≤ ticks
  · have HC := Lib.hid (run_any l ticks 21 workJ a cap w hT hs hr hc.1 hc.2 (Go.Proofs.enters_of Tryd.func21 (by kernel_rfl) rfl) (work_bd hc.1) fun j hj W hW => work_any j W (NameC.of (hT.ext hW)) (hs j hj))
    have hv : runV l ticks = trI (edfT l (at0 workJ l) (min ticks 10000).toNat) := by unfold runV; rw [if_pos hc]
    rw [hv]
    clear hv hc hT hs hr hm
    generalize trI (edfT l (at0 workJ l) (min ticks 10000).toNat) = L at *
    go_enter Tryd.func38, Tryd.ntmps38
    go_wp2_with (go_at_call 75; go_must (with_reducible refine HC.out.mono ?_); intro e w1 h1; obtain ⟨a1, c1, rfl, h2⟩ := id h1)
    go_ret
    exact h1
  · have hc' : allB l = false ∨ ticks < 0 := by
      cases h : allB l
      · exact .inl rfl
      · exact .inr (by refine Classical.byContradiction fun h' => hc ⟨h, by omega⟩)
    have HC := Lib.hid (run_no l ticks 21 a cap w hm hT hs hr hc')
    have hv : runV l ticks = [] := by unfold runV; rw [if_neg hc]
    rw [hv]
    clear hv hc hc' hT hs hr hm
    go_enter Tryd.func38, Tryd.ntmps38
    go_wp2_with (go_at_call 75; go_must (with_reducible refine HC.out.mono ?_); rintro e w1 ⟨rfl, h1⟩)
    go_ret
    exact ISl.nil h1

theorem trI_take (t : List (Option Nat)) (k : Nat) : (trI t).take k = trI (t.take k) := List.map_take.symm
theorem IRow.take {w : World} {a : Option Addr} {l : List Int} (h : IRow w a l) (k : Nat) : IRow w a (l.take k) := fun i hi => by
  obtain ⟨b, o, e, hb, hc⟩ := h i (by have := List.length_take_le' k l; omega)
  exact ⟨b, o, e, hb, by rw [hc, List.getElem_take]⟩
theorem metB_false {l : List J} {i : Nat} (hi : i < l.length) (h : metB l i = false) : meetsB l = false := by
  unfold meetsB
  rw [Bool.and_eq_false_iff]
  exact .inr (List.all_eq_false.2 ⟨i, List.mem_range.2 hi, by simp [h]⟩)
set_option maxRecDepth 100000 in
set_option maxHeartbeats 8000000 in
theorem meets_any (l : List J) (a : Option Addr) (cap : Nat) (w : World) (hm : l.length ≤ bigS) (hT : Tabs w) (hs : ∀ j ∈ l, j.ok) (hr : JRow w a l) :
    Calls Tryd.prog 40 #[.slice a l.length cap] w fun e w' => e = .returned (.bool (meetsB l)) ∧ Ext w w' := by
  have mixed : Tryd.prog.follows .mixedOrders = true := by kernel_rfl
  have HA := Lib.hid (all_any l a cap w hm (NameC.of hT) hs hr)
  cases hal : allB l with
  | false =>
    have hv : meetsB l = false := by unfold meetsB; rw [hal]; rfl
    rw [hv]
    rw [hal] at HA
    clear hv hal hT hs hr hm
    go_enter Tryd.func40, Tryd.ntmps40
    go_wp2_with (go_at_call 17; go_must (with_reducible refine HA.out.mono ?_); rintro e w1 ⟨rfl, h1⟩)
    go_ret
    exact ⟨rfl, h1⟩
  | true =>
    have HE := Lib.hid fun W (h : Ext w W) => end_any l a cap W hm (NameC.of (hT.ext h)) hs (hr.ext h)
    have hej := endJ_is hal
    have HR := Lib.hid fun W (h : Ext w W) => run_any l (endJ l) 19 chargeJ a cap W (hT.ext h) hs (hr.ext h) hal hej.1 (Go.Proofs.enters_of Tryd.func19 (by kernel_rfl) rfl) (charge_bd hal) fun j hj W' hW => charge_any j W' (NameC.of ((hT.ext h).ext hW)) (hs j hj)
    obtain ⟨T, hTE⟩ : ∃ T : Nat, (T : Int) = endJ l := ⟨(endJ l).toNat, by have := hej.1; omega⟩
    have hmin : (min (endJ l) 10000).toNat = T := by have := hej.2.1; omega
    have HC := Lib.hid fun j (hj : j ∈ l) W (h : Ext w W) => charge_any j W (NameC.of (hT.ext h)) (hs j hj)
    rw [hal] at HA
    rw [hmin, ← hTE] at HR
    rw [← hTE] at HE
    obtain ⟨n, hn⟩ : ∃ n, l.length = n := ⟨_, rfl⟩
    have hlen : n ≤ 200 := hn ▸ (allB_all hal).1
    have hT1 : T ≤ 10000 := by have := hej.2.1; omega
    have HO := Lib.hid (And.intro hr (And.intro hn (And.intro (allB_all hal).2 (And.intro hTE hej.2.2))))
    rw [hn] at HA HE HR ⊢
    obtain ⟨L, hL⟩ : ∃ L, trI (edfT l (at0 chargeJ l) T) = L := ⟨_, rfl⟩
    rw [hL] at HR
    have HLL := Lib.hid hL
    have hll : L.length = T := by rw [← hL, List.length_map, edfT_length]
    have HV : Hid (meetsB l = (List.range l.length).all (metB l)) := by show meetsB l = _; unfold meetsB; rw [hal]; rfl
    clear hal hej hmin hTE hT hs hr hm hn hL
    go_enter Tryd.func40, Tryd.ntmps40
    go_wp2_with (first
      | (go_at_call 17; go_must (with_reducible refine HA.out.mono ?_); rintro e w1 ⟨rfl, h1⟩)
      | (go_at_call 24; go_must (with_reducible refine (HE.out _ h1).mono ?_); rintro e w2 ⟨rfl, h2⟩; have h12 := h1.trans h2)
      | (go_at_call 75; go_must (with_reducible refine (HR.out _ h12).mono ?_); rintro e w3 ⟨a3, c3, rfl, hi3, h3, hc3, ho3⟩))
    have h03 := h12.trans h3
    have HX := Lib.hid (And.intro h03 (And.intro hi3 ho3))
    have hc3' : T ≤ c3 := by omega
    clear h1 h2 h12 h3 h03 hi3 HA HE HR hc3 ho3
    obtain ⟨wo, hwo⟩ : ∃ wo : World, wo = w3 := ⟨_, rfl⟩
    subst hwo
    go_loopw [15] (fun v15 wr => ∃ k : Nat, k ≤ n ∧ v15 = .int .i64 k ∧ Ext wo wr ∧ Hid (∀ i, i < k → metB l i = true)) (fun v15 _ => n - (intOf v15).toNat)
    case atStart => exact ⟨0, Nat.zero_le _, by go_num, Ext.refl _, (show ∀ i, i < 0 → _ from fun i h => absurd h (Nat.not_lt_zero _))⟩
    case round =>
      obtain ⟨k, hk, rfl, hx, HM⟩ := hrel
      by_cases hlt : k < n
      · have hkl : k < l.length := by rw [(HO.out).2.1]; exact hlt
        have g := goodJ_of (HO.out).2.2.1 hkl
        have hd1 := g.lt; have hd0 := g.rel; have hde := (HO.out).2.2.2.2 k hkl; have hte := (HO.out).2.2.2.1
        obtain ⟨d, hd⟩ : ∃ d : Nat, (d : Int) = at0 J.dl l k := ⟨(at0 J.dl l k).toNat, by omega⟩
        have hdT : d ≤ T := by omega
        have hd0' : 0 < d := by omega
        have HMK : Hid (metB l k = decide (chargeJ l[k] ≤ ((L.take d).count (k : Int) : Nat))) := by
          show metB l k = _
          unfold metB
          rw [← hd, Int.toNat_natCast, at0_eq _ _ hkl, ← HLL.out, trI_take, trI_count, edfT_take _ _ hdT]
        have hdl : l[k].dl = d := by rw [hd, at0_eq _ _ hkl]
        have hxw : Ext w wr := (HX.out).1.trans hx
        obtain ⟨b, off, rfl, hb, hJ⟩ := ((HO.out).1.ext hxw).at hkl
        have hJk := hJ k hkl
        have hG := fun W (h : Ext wr W) => HC.out l[k] (List.getElem_mem hkl) W (hxw.trans h)
        have hcp : (0 : Int) ≤ ((L.take d).count (k : Int) : Nat) := by omega
        clear hJ g hd1 hd0 hde hte hd
        generalize l[k] = j at *
        have HG : Hid (∀ W, Ext wr W → Calls Tryd.prog 19 #[j.agg] W fun e w' => e = .returned (.int .i64 (chargeJ j)) ∧ Ext W w') := hG
        clear hG
        have HXW := Lib.hid (And.intro hxw hx)
        clear hxw hx
        obtain ⟨nm, rel, dl, bud, act, val, cln, hard⟩ := j
        obtain rfl : dl = (d : Int) := hdl
        obtain ⟨c0, c1, c2, c3', c4, c5, c6, c7⟩ := hJk
        obtain ⟨g, og, rfl, _, _⟩ := (HX.out).2.1 0 (by omega)
        obtain rfl : og = 0 := (HX.out).2.2 g og rfl
        have HRN : Hid (∀ W, Ext wr W → Calls Tryd.prog 52 #[.slice (some ⟨g, 0, none⟩) d c3, .int .i64 k] W fun e w' => e = .returned (.int .i64 ((L.take d).count (k : Int) : Nat)) ∧ Ext W w') := Lib.hid fun W hW => by
          have h0 := ran_any (L.take d) k (some ⟨g, 0, none⟩) c3 W (by have := List.length_take_le' d L; omega) (IRow.take ((HX.out).2.1.ext ((HXW.out).2.trans hW)) d)
          rw [List.length_take, Nat.min_eq_left (by omega)] at h0
          exact h0.mono fun e w' ⟨he, hw⟩ => ⟨he, hw ▸ Ext.refl _⟩
        generalize chargeJ ⟨nm, rel, (d : Int), bud, act, val, cln, hard⟩ = ch at *
        generalize (L.take d).count (k : Int) = cn at *
        have hdc : (d : Int) ≤ (c3 : Int) := by omega
        go_wp2_with fail
        obtain ⟨d0, d1, d2, d3, d4, d5, d6, d7⟩ := jcells_new ⟨nm, rel, (d : Int), bud, act, val, cln, hard⟩ wr 24
        simp only [Nat.zero_add] at d1 d2 d3 d4 d5 d6 d7
        have hsz : wr.heap.size < (wr.alloc (.cells (J.cells ⟨nm, rel, (d : Int), bud, act, val, cln, hard⟩).toArray 24)).heap.size := by simp
        have HX1 := Lib.hid (Ext.new wr (.cells (J.cells ⟨nm, rel, (d : Int), bud, act, val, cln, hard⟩).toArray 24))
        generalize wr.alloc (.cells (J.cells ⟨nm, rel, (d : Int), bud, act, val, cln, hard⟩).toArray 24) = wy at *
        clear c0 c1 c2 c3' c4 c5 c6 c7
        have hzl : ∀ (z : Later wy) (b' o : Nat), b' < wy.heap.size → z.val.cell? ⟨b', o, none⟩ = wy.cell? ⟨b', o, none⟩ := fun z b' o h => z.property.cell h
        have hnel : Nonempty (Later wy) := ⟨⟨wy, Ext.refl _⟩⟩
        refine wp_region_later (by kernel_rfl) (by kernel_rfl) ?_
        repeat (refine wpQuiet_step (fun K hK => ?_); go_simp; first | (refine hK _ ?_; clear hK K) | (apply Exists.intro; refine ⟨fun _ => ?_, hK _ ?_⟩; (first | (go_at_call 52; exact Calls.later (HRN.out _ ((HX1.out).trans (Subtype.property _)))) | (go_at_call 19; exact Calls.later (HG.out _ ((HX1.out).trans (Subtype.property _))))); clear hK K))
        refine wpQuiet_nil ?_
        intro _ hw'
        obtain ⟨zq, hw''⟩ := hw'
        subst hw''
        clear hzl hnel
        by_cases hcc : (cn : Int) < ch
        · have hmk0 : metB l k = false := by rw [HMK.out]; simp; omega
          have hmf := metB_false (by rw [(HO.out).2.1]; exact hlt) hmk0
          have HMF := Lib.hid hmf
          clear hmf hmk0
          go_wp2_with fail
          go_ret
          exact ⟨by rw [HMF.out]; rfl, ((HXW.out).1.trans HX1.out).trans zq.property⟩
        · have hmk1 : metB l k = true := by rw [HMK.out]; simp; omega
          have HM1 := Lib.hid hmk1
          clear hmk1
          go_wp2_with fail
          go_roundw
          case rel =>
            refine ⟨k + 1, by omega, by go_num, ((HXW.out).2.trans HX1.out).trans zq.property, ?_⟩
            show ∀ i, i < k + 1 → _
            intro i hi
            by_cases e : i = k
            · subst e; exact HM1.out
            · exact HM.out i (by omega)
          case measure => simp [intOf]; omega
      · obtain rfl : k = n := by omega
        have hmt : meetsB l = true := by
          rw [HV.out, (HO.out).2.1, List.all_eq_true]
          exact fun i hi => HM.out i (List.mem_range.1 hi)
        have HMT := Lib.hid hmt
        clear hmt
        go_wp2_with fail
        go_ret
        exact ⟨by rw [HMT.out]; rfl, (HX.out).1.trans hx⟩
end Go.Proofs.YtnnmakkbnfckmaaDoor
/- Walks: chapter 10's own answer: first, run. -/
namespace Go.Proofs.YtnnmakkbnfckmaaDoor
open Go.RowKit

set_option maxRecDepth 100000 in
set_option maxHeartbeats 8000000 in
theorem first_any (l : List J) (p : Nat → Bool) (a am : Option Addr) (cap cm : Nat) (w : World) (hm : l.length ≤ 1000000) (hr : JRow w a l) (hp : BRow w am (rowN p l.length)) :
    Calls Tryd.prog 89 #[.slice a l.length cap, .slice am l.length cm] w fun e w' => e = .returned (.int .i64 (idxI (pick l p))) ∧ Ext w w' := by
  have mixed : Tryd.prog.follows .mixedOrders = true := by kernel_rfl
  rw [← firstB_eq]
  obtain ⟨n, hn⟩ : ∃ n, l.length = n := ⟨_, rfl⟩
  have HO := Lib.hid (And.intro hn (And.intro hr hp))
  rw [hn] at hm ⊢
  clear hn hr hp
  go_enter Tryd.func89, Tryd.ntmps89
  go_wp2_with fail
  go_loopw [5, 6] (fun v5 v6 wr => ∃ k : Nat, k ≤ n ∧ v6 = .int .i64 k ∧ v5 = .int .i64 (idxI (firstB l p k)) ∧ Ext w wr) (fun _ v6 _ => n - (intOf v6).toNat)
  case atStart => exact ⟨0, Nat.zero_le _, by go_num, rfl, Ext.refl _⟩
  case round =>
    obtain ⟨k, hk, rfl, rfl, hx⟩ := hrel
    by_cases hlt : k < n
    · have hkl : k < l.length := by rw [(HO.out).1]; exact hlt
      have hkz : (k : Int) < (n : Int) := by omega
      obtain ⟨b, off, rfl, hb, hJ⟩ := ((HO.out).2.1.ext hx).at hkl
      obtain ⟨bm, om, rfl, hbm, cmx⟩ := ((HO.out).2.2.ext hx) k (by simpa using hkl)
      have cm0 : wr.cell? ⟨bm, om + k, none⟩ = some (.bool (p k)) := by rw [cmx]; simp
      clear cmx
      have ck := (hJ k hkl).c2
      have hkd := at0_eq J.dl l hkl
      obtain ⟨x, hxd⟩ : ∃ x, l[k].dl = x := ⟨_, rfl⟩
      rw [hxd] at ck hkd
      have HS := Lib.hid (firstB_succ l p k)
      have hfl := firstB_lt l p k
      have HX := Lib.hid hx
      clear hxd hx
      cases hpk : p k with
      | false =>
        have hn0 : firstN l p (firstB l p k) k = firstB l p k := by unfold firstN; rw [hpk]; rfl
        rw [hpk] at cm0
        rw [hn0] at HS
        clear hpk hn0 hkd hfl hJ
        generalize firstB l p k = fb at *
        go_wp2_with fail
        go_quiet (fail)
        go_wp2_with fail
        go_roundw
        case rel => exact ⟨k + 1, by omega, by go_num, by rw [HS.out], (HX.out).drewN _⟩
        case measure => simp [intOf]; omega
      | true =>
        rw [hpk] at cm0
        cases hfb : firstB l p k with
        | none =>
          have hn0 : firstN l p (firstB l p k) k = some k := by unfold firstN; rw [hpk, hfb]; rfl
          rw [hn0] at HS
          clear hpk hn0 hkd hfl hJ hfb
          rw [idxI_none]
          go_wp2_with fail
          go_quiet (fail)
          go_wp2_with fail
          go_roundw
          case rel => exact ⟨k + 1, by omega, by go_num, by rw [HS.out, idxI_some], (HX.out).drewN _⟩
          case measure => simp [intOf]; omega
        | some q =>
          have hqk : q < k := hfl q hfb
          have hql : q < l.length := by omega
          have cq := (hJ q hql).c2
          have hqd := at0_eq J.dl l hql
          obtain ⟨y, hyd⟩ : ∃ y, l[q].dl = y := ⟨_, rfl⟩
          rw [hyd] at cq hqd
          have hn0 : firstN l p (firstB l p k) k = if x < y then some k else some q := by unfold firstN; rw [hpk, hfb]; simp only [bettr, hkd, hqd, Bool.true_and, decide_eq_true_eq]
          rw [hn0] at HS
          clear hpk hn0 hkd hfl hJ hfb hqd hyd
          rw [idxI_some]
          have hqz : (q : Int) < (n : Int) := by omega
          have hq0 : decide ((q : Int) < 0) = false := decide_eq_false (by omega)
          by_cases hxy : x < y
          · go_wp2_with fail
            go_quiet (fail)
            go_wp2_with fail
            go_roundw
            case rel => exact ⟨k + 1, by omega, by go_num, by rw [HS.out, if_pos hxy, idxI_some], (HX.out).drewN _⟩
            case measure => simp [intOf]; omega
          · have hxy' : decide (x < y) = false := decide_eq_false hxy
            go_wp2_with fail
            go_quiet (fail)
            go_wp2_with fail
            go_roundw
            case rel => exact ⟨k + 1, by omega, by go_num, by rw [HS.out, if_neg (by omega), idxI_some], (HX.out).drewN _⟩
            case measure => simp [intOf]; omega
    · obtain rfl : k = n := by omega
      go_wp2_with fail
      go_ret
      exact ⟨rfl, hx⟩
end Go.Proofs.YtnnmakkbnfckmaaDoor
/- Walks: chapter 10's own answer: run. -/
namespace Go.Proofs.YtnnmakkbnfckmaaDoor
open Go.RowKit

theorem rtBool : RowT Tryd.prog 106 4 1 1 (.bool false) := .of Tryd.underlying106 (by kernel_rfl) rfl (by decide)
/-- Block B holds these bools, and perhaps more behind them. -/
def BArr (w : World) (B : Nat) (xs : List Bool) : Prop := ∃ rest : List Value, w.heap[B]? = some (.cells (xs.map Value.bool ++ rest).toArray 4 (0, 0))
theorem BArr.lt {w : World} {B : Nat} {xs : List Bool} (h : BArr w B xs) : B < w.heap.size := let ⟨_, h⟩ := h; (Array.getElem?_eq_some_iff.1 h).1
theorem BArr.cell {w : World} {B : Nat} {xs : List Bool} (h : BArr w B xs) {i : Nat} (hi : i < xs.length) : w.cell? ⟨B, i, none⟩ = some (.bool xs[i]) := by
  obtain ⟨rest, h⟩ := h
  simp [World.cell?, h, List.getElem?_append_left, hi]
theorem BArr.frozen {w : World} {B : Nat} {xs : List Bool} (h : BArr w B xs) (i : Nat) : w.frozen? ⟨B, i, none⟩ = false := by
  obtain ⟨rest, h⟩ := h
  simp [World.frozen?, h]
theorem BArr.ext {w w' : World} {B : Nat} {xs : List Bool} (h : BArr w B xs) (hx : Ext w w') : BArr w' B xs := by
  have hl := h.lt
  obtain ⟨rest, h⟩ := h
  exact ⟨rest, (hx.block B hl).trans h⟩
theorem BArr.set {w : World} {B : Nat} {xs : List Bool} (h : BArr w B xs) {i : Nat} (hi : i < xs.length) (v : Bool) : BArr (w.setCell ⟨B, i, none⟩ (.bool v)) B (xs.set i v) := by
  obtain ⟨rest, h⟩ := h
  refine ⟨rest, ?_⟩
  rw [heap_setCell_at w B i _ _ _ h]
  simp [List.set_append_left, hi, List.map_set]
theorem BArr.row {w : World} {B : Nat} {xs : List Bool} (h : BArr w B xs) : BRow w (some ⟨B, 0, none⟩) xs := fun i hi => ⟨B, 0, rfl, h.lt, by rw [Nat.zero_add]; exact h.cell hi⟩
theorem barr_new (w : World) (n : Nat) : BArr (w.alloc (.cells (List.replicate n (Value.bool false)).toArray 4)) w.heap.size (rowN (fun _ => false) n) := by
  refine ⟨[], ?_⟩
  have e : (rowN (fun _ => false) n).map Value.bool ++ [] = List.replicate n (Value.bool false) := by
    rw [List.append_nil]
    apply List.ext_getElem (by simp)
    intro i h1 h2
    simp
  rw [e]
  exact alloc_at _ _ _ rfl
theorem iarr_new (w : World) (n : Nat) : IArr (w.alloc (.cells (List.replicate n (Value.int .i64 0)).toArray 3)) w.heap.size (rowN (fun _ => 0) n) := by
  refine ⟨[], ?_⟩
  have e : (rowN (fun _ => (0 : Int)) n).map (Value.int .i64) ++ [] = List.replicate n (Value.int .i64 0) := by
    rw [List.append_nil]
    apply List.ext_getElem (by simp)
    intro i h1 h2
    simp
  rw [e]
  exact alloc_at _ _ _ rfl
theorem rowB_fill (g : Nat → Bool) (n k : Nat) : rowN (upd (fun i => decide (i < k) && g i) k (g k)) n = rowN (fun i => decide (i < k + 1) && g i) n := by
  refine List.map_congr_left fun i _ => ?_
  show (if i = k then g k else (decide (i < k) && g i)) = (decide (i < k + 1) && g i)
  by_cases c : i = k
  · subst c; simp
  · rw [if_neg c]
    congr 1
    rw [decide_eq_decide]; omega
theorem rowB_full (g : Nat → Bool) (n : Nat) : rowN (fun i => decide (i < n) && g i) n = rowN g n := by
  refine List.map_congr_left fun i hi => ?_
  have := List.mem_range.1 hi
  simp [this]
/-- How often each ran. -/
abbrev cntOf (t : List (Option Nat)) (i : Nat) : Int := (t.count (some i) : Int)
theorem cntOf_none (t : List (Option Nat)) (n : Nat) : rowN (cntOf (t ++ [none])) n = rowN (cntOf t) n := by
  refine List.map_congr_left fun i _ => ?_
  simp [cntOf, List.count_append]
theorem cntOf_some (t : List (Option Nat)) (i n : Nat) : rowN (cntOf (t ++ [some i])) n = rowN (upd (cntOf t) i (cntOf t i + 1)) n := by
  refine List.map_congr_left fun j _ => ?_
  show ((t ++ [some i]).count (some j) : Int) = if j = i then cntOf t i + 1 else cntOf t j
  rw [List.count_append, List.count_singleton]
  by_cases h : j = i
  · subst h; simp [cntOf]
  · have h' : ¬ i = j := fun e => h e.symm
    simp [cntOf, h, h']

set_option maxRecDepth 100000 in
set_option maxHeartbeats 16000000 in
theorem refRun_any (l : List J) (need : Nat → Int) (T : Nat) (a aw : Option Addr) (cap cw : Nat) (w : World) (hm : l.length ≤ 1000) (hT : T ≤ 10000) (hr : JRow w a l) (hw : IRow w aw (rowN need l.length)) :
    Calls Tryd.prog 76 #[.slice a l.length cap, .slice aw l.length cw, .int .i64 T] w (ISl (trI (edfT l need T)) w) := by
  have mixed : Tryd.prog.follows .mixedOrders = true := by kernel_rfl
  obtain ⟨n, hn⟩ : ∃ n, l.length = n := ⟨_, rfl⟩
  have HO := Lib.hid (And.intro hn (And.intro hr hw))
  rw [hn] at hm ⊢
  clear hn hr hw
  have hmk := fun W => run_make1 rtInt rfl n (by omega) (by decide) W
  have hmb := fun W => run_make1 rtBool rfl n (by omega) (by decide) W
  go_enter Tryd.func76, Tryd.ntmps76
  go_wp2_with fail
  have hI0 := iarr_new w n
  simp only [List.toArray_replicate] at hI0
  have hx0 := Ext.new w (.cells (Array.replicate n (Value.int .i64 0)) 3)
  have hs0 : (w.alloc (.cells (Array.replicate n (Value.int .i64 0)) 3)).heap.size = w.heap.size + 1 := by simp
  generalize w.alloc (.cells (Array.replicate n (Value.int .i64 0)) 3) = wo at *
  have HX := Lib.hid hx0
  have hBr : w.heap.size < wo.heap.size := by omega
  have HBR := Lib.hid hBr
  clear hx0 hs0
  go_loopw [7, 9] (fun v7 v9 wr => ∃ m : Nat, m ≤ T ∧ v9 = .int .i64 m ∧ wr.ownsRow wo.heap.size 3 1 v7 m ((trI (edfT l need m)).map (Value.int .i64)) ∧ IArr wr w.heap.size (rowN (cntOf (edfT l need m)) n) ∧ Aside (Kp [w.heap.size] wo wr)) (fun _ v9 _ => T - (intOf v9).toNat)
  case atStart => exact ⟨0, Nat.zero_le _, by go_num, World.ownsRow_nil _ _ _ _, hI0, Kp.refl _ _⟩
  case round =>
    obtain ⟨m, hmT, rfl, hown, hI, HK⟩ := hrel
    by_cases hlt : m < T
    · have HT := Lib.hid (edfT_step l need m)
      have HTL := Lib.hid (edfT_length l need m)
      generalize edfT l need m = t at *
      have hltz : (m : Int) < (T : Int) := by omega
      have hwr : Ext w wr := ((HX.out).kp [w.heap.size]).trans HK.out |>.below (Nat.le_refl _) (by simp)
      go_wp2_with fail
      have hB0 := barr_new wr n
      simp only [List.toArray_replicate] at hB0
      have hxy := Ext.new wr (.cells (Array.replicate n (Value.bool false)) 4)
      have hsz : wr.heap.size < (wr.alloc (.cells (Array.replicate n (Value.bool false)) 4)).heap.size := by simp
      generalize wr.alloc (.cells (Array.replicate n (Value.bool false)) 4) = wy at *
      have hneB : w.heap.size < wr.heap.size := Nat.lt_of_lt_of_le hBr (HK.out).size
      have hIy := hI.ext hxy
      have HY := Lib.hid (And.intro hxy (And.intro hwr (And.intro hIy (And.intro hown hI))))
      have HKR := Lib.hid HK.out
      clear hxy hwr hI hIy hown HK hI0
      obtain ⟨wq, hwq⟩ : ∃ wq : World, wq = wr := ⟨_, rfl⟩
      subst hwq
      generalize hBm : wq.heap.size = Bm at *
      have HBM := Lib.hid hBm
      clear hBm
      go_loopw [11] (fun v11 wr => ∃ k : Nat, k ≤ n ∧ v11 = .int .i64 k ∧ BArr wr Bm (rowN (fun i => decide (i < k) && mayRun l need t i) n) ∧ Aside (Kp [Bm] wy wr)) (fun v11 _ => n - (intOf v11).toNat)
      case atStart => exact ⟨0, Nat.zero_le _, by go_num, by simpa using hB0, Kp.refl _ _⟩
      case round =>
        obtain ⟨k, hk, rfl, hB, HK⟩ := hrel
        by_cases hkn : k < n
        · have hkl : k < l.length := by rw [(HO.out).1]; exact hkn
          have hkz : (k : Int) < (n : Int) := by omega
          obtain ⟨b, off, rfl, hb, hJ⟩ := (HO.out).2.1.at hkl
          obtain ⟨bw, ow, rfl, hbw, hcw⟩ := (HO.out).2.2 k (by simpa using hkl)
          have hxw : Ext w wr := ((((HY.out).2.1.trans (HY.out).1).kp [Bm]).trans HK.out).below (Nat.le_refl _) (by simp; omega)
          have c1 := (hxw.cell hb).trans (hJ k hkl).c1
          have c2 := (hxw.cell hbw).trans hcw
          have c3 := ((HK.out).cell (b := w.heap.size) (o := k) (by omega) (by simp; omega)).trans ((HY.out).2.2.1.cell (i := k) (by simpa using hkn))
          obtain ⟨old, c4⟩ : ∃ old : Bool, wr.cell? ⟨Bm, k, none⟩ = some (.bool old) := ⟨_, hB.cell (i := k) (by simpa using hkn)⟩
          have c5 := hB.frozen k
          have hrd := at0_eq J.rel l hkl
          simp only [List.getElem_map, List.getElem_range] at c2 c3
          obtain ⟨x, hxr⟩ : ∃ x, l[k].rel = x := ⟨_, rfl⟩
          rw [hxr] at c1 hrd
          have HMR : Hid (mayRun l need t k = (decide (x ≤ m) && decide (cntOf t k < need k))) := by
            show mayRun l need t k = _
            unfold mayRun; rw [hrd, HTL.out]
          obtain ⟨cn, hcn⟩ : ∃ cn, cntOf t k = cn := ⟨_, rfl⟩
          obtain ⟨nd, hnd⟩ : ∃ nd, need k = nd := ⟨_, rfl⟩
          rw [hcn] at c3 HMR
          rw [hnd] at c2 HMR
          have HB := Lib.hid hB
          clear hJ hcw hrd hxr hcn hnd hB
          by_cases hle : x ≤ m
          · go_wp2_with fail
            go_region
            have HB2 : Hid (BArr (wr.setCell ⟨Bm, k, none⟩ (.bool (decide (cn < nd)))).drew Bm (rowN (fun i => decide (i < k + 1) && mayRun l need t i) n)) := by
              have h1 := (HB.out).set (i := k) (by simpa using hkn) (decide (cn < nd))
              have h2 : mayRun l need t k = (decide (cn < nd)) := by rw [HMR.out]; simp [hle]
              rw [rowN_set, ← h2, rowB_fill] at h1
              rw [← h2]
              exact h1
            have HK2 : Hid (Kp [Bm] wy (wr.setCell ⟨Bm, k, none⟩ (.bool (decide (cn < nd)))).drew) := (((HK.out).setCell (by simp) _).drew)
            clear c1 c2 c3 c4 c5
            go_wp2_with fail
            go_roundw
            case rel => exact ⟨k + 1, by omega, by go_num, HB2.out, HK2.out⟩
            case measure => simp [intOf]; omega
          · have hle' : decide (x ≤ (m : Int)) = false := decide_eq_false hle
            go_wp2_with fail
            go_region
            have HB2 : Hid (BArr (wr.setCell ⟨Bm, k, none⟩ (.bool false)).drew Bm (rowN (fun i => decide (i < k + 1) && mayRun l need t i) n)) := by
              have h1 := (HB.out).set (i := k) (by simpa using hkn) false
              have h2 : mayRun l need t k = false := by rw [HMR.out]; rw [hle']; rfl
              rw [rowN_set, ← h2, rowB_fill] at h1
              rw [← h2]
              exact h1
            have HK2 : Hid (Kp [Bm] wy (wr.setCell ⟨Bm, k, none⟩ (.bool false)).drew) := (((HK.out).setCell (by simp) _).drew)
            clear c1 c2 c3 c4 c5
            go_wp2_with fail
            go_roundw
            case rel => exact ⟨k + 1, by omega, by go_num, HB2.out, HK2.out⟩
            case measure => simp [intOf]; omega
        · obtain rfl : k = n := by omega
          have hrow : BRow wr (some ⟨Bm, 0, none⟩) (rowN (mayRun l need t) l.length) := by
            rw [rowB_full] at hB
            rw [(HO.out).1]
            exact hB.row
          have hxw : Ext w wr := ((((HY.out).2.1.trans (HY.out).1).kp [Bm]).trans HK.out).below (Nat.le_refl _) (by simp; omega)
          have HF := Lib.hid (first_any l (mayRun l need t) a (some ⟨Bm, 0, none⟩) cap k wr (by rw [(HO.out).1]; omega) ((HO.out).2.1.ext hxw) hrow)
          rw [(HO.out).1] at HF
          have hqr : Ext wq wr := (((HY.out).1.kp [Bm]).trans HK.out).below (Nat.le_refl _) (by simp [HBM.out])
          have hown := own_ext (HY.out).2.2.2.1 hqr
          have hI := (HY.out).2.2.2.2.ext hqr
          have HK3 := Lib.hid (And.intro ((HKR.out).ext hqr) hxw)
          have hws : w.heap.size < wo.heap.size := HBR.out
          clear hB hrow hxw HK hqr
          cases hp : pick l (mayRun l need t) with
          | none =>
            rw [hp] at HT HF
            rw [idxI_none] at HF
            clear hp
            go_wp2_with (first
              | (go_at_call 89; go_must (with_reducible refine HF.out.mono ?_); rintro e w5 ⟨rfl, h5⟩)
              | (at_builtin; go_must (refine wpList_app1 rtInt wo.heap.size (own_ext hown h5) rfl (.tmp 62) (.tmp 64) rfl rfl [.int .i64 (-1)] _ rfl (by simp) rfl (by simp [Value.oneCell']) (by omega) (by decide) (by have := (HK3.out).1.size; have := h5.size; omega) _ ?_); intro v6 w6 hown6 hB6 hg6))
            go_roundw
            case rel =>
              refine ⟨m + 1, by omega, by go_num, ?_, ?_, ?_⟩
              · rw [HT.out]; simpa [idxI] using hown6
              · rw [HT.out, cntOf_none]
                exact (hI.ext h5).below hB6 hws
              · exact (((HK3.out).1).ext h5).below_trans hB6
            case measure => simp [intOf]; omega
          | some i =>
            rw [hp] at HT HF
            rw [idxI_some] at HF
            have hil : i < l.length := (pick_some hp).1
            have hik : i < k := by rw [← (HO.out).1]; exact hil
            have hcb : (t.count (some i)) ≤ 10000 := by have := List.count_le_length (a := some i) (l := t); have := HTL.out; omega
            have hiz : (i : Int) < (k : Int) := by omega
            have hi0 : decide ((0 : Int) ≤ (i : Int)) = true := by simp
            clear hp
            go_wp2_with fail
            refine HF.out.mono ?_
            rintro e w5 ⟨rfl, h5⟩
            have hI5 := hI.ext h5
            have c3 := hI5.cell (i := i) (by simpa using hik)
            have c4 := hI5.frozen i
            simp only [List.getElem_map, List.getElem_range] at c3
            have hcn0 : 0 ≤ cntOf t i := by show (0 : Int) ≤ (t.count (some i) : Int); omega
            have hcn1 : cntOf t i ≤ 10000 := by show (t.count (some i) : Int) ≤ _; omega
            obtain ⟨v, hv⟩ : ∃ v, cntOf t i = v := ⟨_, rfl⟩
            rw [hv] at c3 hcn0 hcn1
            have hIy : Hid (IArr (w5.setCell ⟨w.heap.size, i, none⟩ (.int .i64 (v + 1))) w.heap.size (rowN (cntOf (t ++ [some i])) k)) := by
              have h1 := hI5.set (i := i) (by simpa using hik) (v + 1)
              rw [rowN_set, ← hv, ← cntOf_some] at h1
              rw [← hv]
              exact h1
            have hoy : (w5.setCell ⟨w.heap.size, i, none⟩ (.int .i64 (v + 1))).ownsRow wo.heap.size 3 1 u7 m ((trI t).map (Value.int .i64)) := own_set (own_ext hown h5) hws _
            have HKy := Lib.hid ((((HK3.out).1).ext h5).setCell (p := ⟨w.heap.size, i, none⟩) (by simp) (.int .i64 (v + 1)))
            clear hv hI hI5 hcb hown h5
            go_wp2_with (at_builtin; go_must (refine wpList_app1 rtInt wo.heap.size hoy rfl (.tmp 62) (.tmp 64) rfl rfl [.int .i64 i] _ rfl (by simp) rfl (by simp [Value.oneCell']) (by omega) (by decide) (by have := (HKy.out).size; omega) _ ?_); intro v6 w6 hown6 hB6 hg6)
            go_roundw
            case rel =>
              refine ⟨m + 1, by omega, by go_num, ?_, ?_, ?_⟩
              · rw [HT.out]; simpa [idxI] using hown6
              · rw [HT.out]
                exact (hIy.out).below hB6 hws
              · exact (HKy.out).below_trans hB6
            case measure => simp [intOf]; omega
    · obtain rfl : m = T := by omega
      have hx : Ext w wr := (((HX.out).kp [w.heap.size]).trans HK.out).below (Nat.le_refl _) (by simp)
      go_wp2_with fail
      go_ret
      refine ISl.mk (base := wo.heap.size) (e := 3) ?_ hx
      rw [List.length_map, edfT_length]
      exact hown
end Go.Proofs.YtnnmakkbnfckmaaDoor
/- Walks: chapter 10's own answer: Run. -/
namespace Go.Proofs.YtnnmakkbnfckmaaDoor
open Go.RowKit

theorem map_rowN (f : J → Int) (l : List J) : l.map f = rowN (at0 f l) l.length := by
  apply List.ext_getElem (by simp)
  intro i h1 h2
  have hi : i < l.length := by simpa using h1
  simp [at0, hi]
set_option maxRecDepth 100000 in
set_option maxHeartbeats 8000000 in
theorem refRunW_any (l : List J) (ticks : Int) (a : Option Addr) (cap : Nat) (w : World) (hm : l.length ≤ bigS) (hT : Tabs w) (hs : ∀ j ∈ l, j.ok) (hr : JRow w a l) :
    Calls Tryd.prog 39 #[.slice a l.length cap, .int .i64 ticks] w (ISl (runV l ticks) w) := by
  have HA := Lib.hid (refAll_any l a cap w hm hT hs hr)
  cases hal : allB l with
  | false =>
    have hv : runV l ticks = [] := by unfold runV; rw [if_neg (by simp [hal])]
    rw [hv]
    rw [hal] at HA
    clear hv hal hT hs hr hm
    go_enter Tryd.func39, Tryd.ntmps39
    go_wp2_with (go_at_call 18; go_must (with_reducible refine HA.out.mono ?_); rintro e w1 ⟨rfl, h1⟩)
    go_ret
    exact ISl.nil h1
  | true =>
    rw [hal] at HA
    by_cases ht : 0 ≤ ticks
    · obtain ⟨tt, htt⟩ : ∃ tt : Int, min ticks 10000 = tt := ⟨_, rfl⟩
      obtain ⟨T, hTT⟩ : ∃ T : Nat, (T : Int) = tt := ⟨tt.toNat, by omega⟩
      have hv : runV l ticks = trI (edfT l (at0 workJ l) T) := by
        unfold runV; rw [if_pos ⟨hal, ht⟩, htt, ← hTT, Int.toNat_natCast]
      rw [hv]
      have hT1 : T ≤ 10000 := by omega
      have hlen := (allB_all hal).1
      obtain ⟨n, hn⟩ : ∃ n, l.length = n := ⟨_, rfl⟩
      have HO := Lib.hid (And.intro hn (And.intro hr (And.intro hT hs)))
      have HR : Hid (∀ W aw cw, Ext w W → IRow W aw (l.map workJ) → Calls Tryd.prog 76 #[.slice a n cap, .slice aw n cw, .int .i64 tt] W (ISl (trI (edfT l (at0 workJ l) T)) W)) := Lib.hid fun W aw cw hW hw => by
        have h0 := refRun_any l (at0 workJ l) T a aw cap cw W (by omega) hT1 (hr.ext hW) (by rw [← map_rowN]; exact hw)
        rwa [hn, hTT] at h0
      rw [hn] at HA hlen ⊢
      clear hv hal hT hs hr hm hn hTT
      generalize trI (edfT l (at0 workJ l) T) = L at *
      by_cases hgt : 10000 < ticks
      · obtain rfl : tt = 10000 := by omega
        clear htt
        go_enter Tryd.func39, Tryd.ntmps39
        go_wp2_with (go_at_call 18; go_must (with_reducible refine HA.out.mono ?_); rintro e w1 ⟨rfl, h1⟩)
        obtain ⟨wo, hwo⟩ : ∃ wo : World, wo = w1 := ⟨_, rfl⟩
        subst hwo
        have HXO := Lib.hid h1
        clear h1 HA
        go_loopw [5, 6] (fun vv vi wr => ∃ k : Nat, k ≤ n ∧ vi = .int .i64 k ∧ wr.ownsRow wo.heap.size 3 1 vv k (((l.take k).map workJ).map (Value.int .i64)) ∧ Ext wo wr) (fun _ vi _ => n - (intOf vi).toNat)
        case atStart => exact ⟨0, Nat.zero_le _, by go_num, World.ownsRow_nil _ _ _ _, Ext.refl _⟩
        case round =>
          obtain ⟨k, hk, rfl, hown, hx⟩ := hrel
          by_cases hlt : k < n
          · have hkl : k < l.length := by rw [(HO.out).1]; exact hlt
            have hxw : Ext w wr := (HXO.out).trans hx
            obtain ⟨b, off, rfl, hb, hJ⟩ := ((HO.out).2.1.ext hxw).at hkl
            obtain ⟨c0, c1, c2, c3, c4, c5, c6, c7⟩ := hJ k hkl
            have HP := Lib.hid (refWork_any l[k] wr ((HO.out).2.2.1.ext hxw) ((HO.out).2.2.2 _ (List.getElem_mem hkl)))
            have HS := Lib.hid (take_snoc l k hkl)
            have HX := Lib.hid hx
            clear hJ hx hxw
            generalize l[k] = j at *
            obtain ⟨v, hv⟩ : ∃ v, workJ j = v := ⟨_, rfl⟩
            rw [hv] at HP
            have HV := Lib.hid hv
            clear hv
            obtain ⟨nm, rel, dl, bud, act, val, cln, hard⟩ := j
            go_wp2_with (first
              | (go_at_call 22; go_must (with_reducible refine HP.out.mono ?_); rintro e w5 ⟨rfl, h5⟩)
              | (at_builtin; go_must (refine wpList_app1 rtInt wo.heap.size (own_ext hown h5) rfl (.tmp 22) (.tmp 28) rfl rfl [.int .i64 v] _ rfl (by simp) rfl (by simp [Value.oneCell']) (by omega) (by decide) (by have := (HX.out).size; have := h5.size; omega) _ ?_); intro v6 w6 hown6 hB6 hg6))
            go_roundw
            case rel => exact ⟨k + 1, by omega, by go_num, by rw [HS.out]; simpa [HV.out] using hown6, Below.trans ((HX.out).trans h5) hB6⟩
            case measure => simp [intOf]; omega
          · obtain rfl : k = n := by omega
            have hkl := (HO.out).1
            have hxw := (HXO.out).trans hx
            rw [← hkl, List.take_length] at hown
            obtain ⟨aw, cw, rfl, hw⟩ := own_erow (l := l.map workJ) (by simpa using hown)
            rw [show (l.map workJ).length = k by rw [List.length_map]; exact hkl]
            have HR2 := Lib.hid (HR.out wr aw cw hxw hw)
            clear hown hw hx hkl HR
            have HXW := Lib.hid hxw
            clear hxw
            go_wp2_with (go_at_call 76; go_must (with_reducible refine HR2.out.mono ?_); intro e w7 h7; obtain ⟨a7, c7, rfl, hi7, h7, hc7, ho7⟩ := h7)
            go_ret
            exact ⟨a7, c7, rfl, hi7, (HXW.out).trans h7, hc7, ho7⟩
      · obtain rfl : tt = ticks := by omega
        clear htt
        go_enter Tryd.func39, Tryd.ntmps39
        go_wp2_with (go_at_call 18; go_must (with_reducible refine HA.out.mono ?_); rintro e w1 ⟨rfl, h1⟩)
        obtain ⟨wo, hwo⟩ : ∃ wo : World, wo = w1 := ⟨_, rfl⟩
        subst hwo
        have HXO := Lib.hid h1
        clear h1 HA
        go_loopw [5, 6] (fun vv vi wr => ∃ k : Nat, k ≤ n ∧ vi = .int .i64 k ∧ wr.ownsRow wo.heap.size 3 1 vv k (((l.take k).map workJ).map (Value.int .i64)) ∧ Ext wo wr) (fun _ vi _ => n - (intOf vi).toNat)
        case atStart => exact ⟨0, Nat.zero_le _, by go_num, World.ownsRow_nil _ _ _ _, Ext.refl _⟩
        case round =>
          obtain ⟨k, hk, rfl, hown, hx⟩ := hrel
          by_cases hlt : k < n
          · have hkl : k < l.length := by rw [(HO.out).1]; exact hlt
            have hxw : Ext w wr := (HXO.out).trans hx
            obtain ⟨b, off, rfl, hb, hJ⟩ := ((HO.out).2.1.ext hxw).at hkl
            obtain ⟨c0, c1, c2, c3, c4, c5, c6, c7⟩ := hJ k hkl
            have HP := Lib.hid (refWork_any l[k] wr ((HO.out).2.2.1.ext hxw) ((HO.out).2.2.2 _ (List.getElem_mem hkl)))
            have HS := Lib.hid (take_snoc l k hkl)
            have HX := Lib.hid hx
            clear hJ hx hxw
            generalize l[k] = j at *
            obtain ⟨v, hv⟩ : ∃ v, workJ j = v := ⟨_, rfl⟩
            rw [hv] at HP
            have HV := Lib.hid hv
            clear hv
            obtain ⟨nm, rel, dl, bud, act, val, cln, hard⟩ := j
            go_wp2_with (first
              | (go_at_call 22; go_must (with_reducible refine HP.out.mono ?_); rintro e w5 ⟨rfl, h5⟩)
              | (at_builtin; go_must (refine wpList_app1 rtInt wo.heap.size (own_ext hown h5) rfl (.tmp 22) (.tmp 28) rfl rfl [.int .i64 v] _ rfl (by simp) rfl (by simp [Value.oneCell']) (by omega) (by decide) (by have := (HX.out).size; have := h5.size; omega) _ ?_); intro v6 w6 hown6 hB6 hg6))
            go_roundw
            case rel => exact ⟨k + 1, by omega, by go_num, by rw [HS.out]; simpa [HV.out] using hown6, Below.trans ((HX.out).trans h5) hB6⟩
            case measure => simp [intOf]; omega
          · obtain rfl : k = n := by omega
            have hkl := (HO.out).1
            have hxw := (HXO.out).trans hx
            rw [← hkl, List.take_length] at hown
            obtain ⟨aw, cw, rfl, hw⟩ := own_erow (l := l.map workJ) (by simpa using hown)
            rw [show (l.map workJ).length = k by rw [List.length_map]; exact hkl]
            have HR2 := Lib.hid (HR.out wr aw cw hxw hw)
            clear hown hw hx hkl HR
            have HXW := Lib.hid hxw
            clear hxw
            go_wp2_with (go_at_call 76; go_must (with_reducible refine HR2.out.mono ?_); intro e w7 h7; obtain ⟨a7, c7, rfl, hi7, h7, hc7, ho7⟩ := h7)
            go_ret
            exact ⟨a7, c7, rfl, hi7, (HXW.out).trans h7, hc7, ho7⟩
    · have hv : runV l ticks = [] := by unfold runV; rw [if_neg (fun h => ht h.2)]
      rw [hv]
      have ht' : ticks < 0 := by omega
      clear hv hal hT hs hr hm ht
      go_enter Tryd.func39, Tryd.ntmps39
      go_wp2_with (go_at_call 18; go_must (with_reducible refine HA.out.mono ?_); rintro e w1 ⟨rfl, h1⟩)
      go_ret
      exact ISl.nil h1
end Go.Proofs.YtnnmakkbnfckmaaDoor
/- Walks: chapter 10's own answer: meets, Meets. -/
namespace Go.Proofs.YtnnmakkbnfckmaaDoor
open Go.RowKit

/-- Has it its work by its deadline? -/
def metN (l : List J) (need : Nat → Int) (i : Nat) : Bool := decide (need i ≤ ((edfT l need (at0 J.dl l i).toNat).count (some i) : Int))
def meetsN (l : List J) (need : Nat → Int) : Bool := (List.range l.length).all (metN l need)
theorem metN_false {l : List J} {need : Nat → Int} {i : Nat} (hi : i < l.length) (h : metN l need i = false) : meetsN l need = false :=
  List.all_eq_false.2 ⟨i, List.mem_range.2 hi, by simp [h]⟩
theorem meetsB_N {l : List J} (h : allB l = true) : meetsB l = meetsN l (at0 chargeJ l) := by unfold meetsB; rw [h]; rfl

set_option maxRecDepth 100000 in
set_option maxHeartbeats 16000000 in
theorem refMeetsN_any (l : List J) (need : Nat → Int) (a aw : Option Addr) (cap cw : Nat) (w : World) (hT : Tabs w) (hs : ∀ j ∈ l, j.ok) (hr : JRow w a l) (hal : allB l = true) (hw : IRow w aw (rowN need l.length)) :
    Calls Tryd.prog 77 #[.slice a l.length cap, .slice aw l.length cw] w fun e w' => e = .returned (.bool (meetsN l need)) ∧ Ext w w' := by
  have hej := endJ_is hal
  have hlen := (allB_all hal).1
  have HE := Lib.hid (refEnd_any l a cap w (by unfold bigS; omega) hT hs hr)
  obtain ⟨T, hTE⟩ : ∃ T : Nat, (T : Int) = endJ l := ⟨(endJ l).toNat, by have := hej.1; omega⟩
  have hT1 : T ≤ 10000 := by have := hej.2.1; omega
  have HR := Lib.hid fun W (h : Ext w W) => refRun_any l need T a aw cap cw W (by omega) hT1 (hr.ext h) (hw.ext h)
  rw [← hTE] at HE
  obtain ⟨n, hn⟩ : ∃ n, l.length = n := ⟨_, rfl⟩
  have HO := Lib.hid (And.intro hr (And.intro hn (And.intro (allB_all hal).2 (And.intro hTE (And.intro hej.2.2 hw)))))
  rw [hn] at HE HR hlen ⊢
  obtain ⟨L, hL⟩ : ∃ L, trI (edfT l need T) = L := ⟨_, rfl⟩
  rw [hL] at HR
  have HLL := Lib.hid hL
  have hll : L.length = T := by rw [← hL, List.length_map, edfT_length]
  clear hej hTE hT hs hr hw hal hn hL
  go_enter Tryd.func77, Tryd.ntmps77
  go_wp2_with (first
    | (go_at_call 25; go_must (with_reducible refine HE.out.mono ?_); rintro e w2 ⟨rfl, h2⟩)
    | (go_at_call 76; go_must (with_reducible refine (HR.out _ h2).mono ?_); rintro e w3 ⟨a3, c3, rfl, hi3, h3, hc3, ho3⟩))
  have HX := Lib.hid (And.intro (h2.trans h3) hi3)
  clear h2 h3 hi3 HE HR hc3 ho3
  obtain ⟨wo, hwo⟩ : ∃ wo : World, wo = w3 := ⟨_, rfl⟩
  subst hwo
  go_loopw [6] (fun v6 wr => ∃ k : Nat, k ≤ n ∧ v6 = .int .i64 k ∧ Ext wo wr ∧ Hid (∀ i, i < k → metN l need i = true)) (fun v6 _ => n - (intOf v6).toNat)
  case atStart => exact ⟨0, Nat.zero_le _, by go_num, Ext.refl _, (show ∀ i, i < 0 → _ from fun i h => absurd h (Nat.not_lt_zero _))⟩
  case round =>
    obtain ⟨k, hk, rfl, hx, HM⟩ := hrel
    by_cases hlt : k < n
    · have hkl : k < l.length := by rw [(HO.out).2.1]; exact hlt
      have g := goodJ_of (HO.out).2.2.1 hkl
      have hd1 := g.lt; have hd0 := g.rel; have hde := (HO.out).2.2.2.2.1 k hkl; have hte := (HO.out).2.2.2.1
      obtain ⟨d, hd⟩ : ∃ d : Nat, (d : Int) = at0 J.dl l k := ⟨(at0 J.dl l k).toNat, by omega⟩
      have hdT : d ≤ T := by omega
      have hd0' : 0 < d := by omega
      have HMK : Hid (metN l need k = decide (need k ≤ ((L.take d).count (k : Int) : Nat))) := by
        show metN l need k = _
        unfold metN
        rw [← hd, Int.toNat_natCast, ← HLL.out, trI_take, trI_count, edfT_take _ _ hdT]
      have hdl : l[k].dl = d := by rw [hd, at0_eq _ _ hkl]
      have hxw : Ext w wr := (HX.out).1.trans hx
      obtain ⟨b, off, rfl, hb, hJ⟩ := ((HO.out).1.ext hxw).at hkl
      have c2 := (hJ k hkl).c2
      rw [hdl] at c2
      obtain ⟨bw, ow, rfl, hbw, cwx⟩ := ((HO.out).2.2.2.2.2.ext hxw) k (by simpa using hkl)
      have c3w : wr.cell? ⟨bw, ow + k, none⟩ = some (.int .i64 (need k)) := by rw [cwx]; simp
      obtain ⟨g3, o3, rfl⟩ : ∃ g3 o3, a3 = some ⟨g3, o3, none⟩ := let ⟨g, o, e, _⟩ := (HX.out).2 0 (by omega); ⟨g, o, e⟩
      have HXW := Lib.hid (And.intro hxw (And.intro hx hb))
      obtain ⟨nd, hnd⟩ : ∃ nd, need k = nd := ⟨_, rfl⟩
      rw [hnd] at c3w HMK
      clear hJ g hd1 hd0 hde hte hd hdl hxw hx cwx hnd
      obtain ⟨wq, hwq⟩ : ∃ wq : World, wq = wr := ⟨_, rfl⟩
      subst hwq
      go_wp2_with fail
      go_loopw [7, 8] (fun v7 v8 wr => ∃ q : Nat, q ≤ d ∧ v8 = .int .i64 q ∧ v7 = .int .i64 ((L.take q).count (k : Int) : Nat) ∧ Ext wq wr) (fun _ v8 _ => d - (intOf v8).toNat)
      case atStart => exact ⟨0, Nat.zero_le _, by go_num, by simp, Ext.refl _⟩
      case round =>
        obtain ⟨q, hq, rfl, rfl, hx2⟩ := hrel
        have hcq : (L.take q).count (k : Int) ≤ q := Nat.le_trans List.count_le_length (List.length_take_le _ _)
        have c2r := (hx2.cell (HXW.out).2.2).trans c2
        by_cases hqd : q < d
        · have hqL : q < L.length := by omega
          have hqT : (q : Int) < (T : Int) := by omega
          have hqd' : (q : Int) < (d : Int) := by omega
          obtain ⟨g', o', e', _, ct⟩ := ((HX.out).2.ext ((HXW.out).2.1.trans hx2)) q hqL
          obtain ⟨rfl, rfl⟩ : g' = g3 ∧ o' = o3 := by injection e' with e; injection e with e1 e2; exact ⟨e1.symm, e2.symm⟩
          have HS := Lib.hid (count_snoc L q hqL (k : Int))
          have HX2 := Lib.hid hx2
          clear e' hx2
          generalize (L.take q).count (k : Int) = cc at *
          generalize L[q] = x at *
          go_wp2_with fail
          all_goals
            go_roundw
            case rel => exact ⟨q + 1, by omega, by go_num, by rw [HS.out]; first | (rw [if_pos (by assumption)]; go_num) | (rw [if_neg (by simp_all)]; go_num), HX2.out⟩
            case measure => simp [intOf]; omega
        · obtain rfl : q = d := by omega
          have hqq : decide ((q : Int) < (q : Int)) = false := by simp
          have c3r := (hx2.cell (b := bw) (o := ow + k) hbw).trans c3w
          generalize (L.take q).count (k : Int) = cn at *
          have HX2 := Lib.hid hx2
          clear hx2
          by_cases hcc : (cn : Int) < nd
          · have hmk0 : metN l need k = false := by rw [HMK.out]; simp; omega
            have hmf := metN_false (by rw [(HO.out).2.1]; exact hlt) hmk0
            have HMF := Lib.hid hmf
            clear hmf hmk0
            go_wp2_with fail
            all_goals
              go_ret
              exact ⟨by rw [HMF.out]; rfl, (HXW.out).1.trans HX2.out⟩
          · have hmk1 : metN l need k = true := by rw [HMK.out]; simp; omega
            have HM1 := Lib.hid hmk1
            clear hmk1
            go_wp2_with fail
            all_goals
              go_roundw
              case rel =>
                refine ⟨k + 1, by omega, by go_num, (HXW.out).2.1.trans HX2.out, ?_⟩
                show ∀ i, i < k + 1 → _
                intro i hi
                by_cases e : i = k
                · subst e; exact HM1.out
                · exact HM.out i (by omega)
              case measure => simp [intOf]; omega
    · obtain rfl : k = n := by omega
      have hmt : meetsN l need = true := by
        unfold meetsN
        rw [(HO.out).2.1, List.all_eq_true]
        exact fun i hi => HM.out i (List.mem_range.1 hi)
      have HMT := Lib.hid hmt
      clear hmt
      go_wp2_with fail
      go_ret
      exact ⟨by rw [HMT.out]; rfl, (HX.out).1.trans hx⟩

set_option maxRecDepth 100000 in
set_option maxHeartbeats 8000000 in
theorem refMeets_any (l : List J) (a : Option Addr) (cap : Nat) (w : World) (hm : l.length ≤ bigS) (hT : Tabs w) (hs : ∀ j ∈ l, j.ok) (hr : JRow w a l) :
    Calls Tryd.prog 41 #[.slice a l.length cap] w fun e w' => e = .returned (.bool (meetsB l)) ∧ Ext w w' := by
  have HA := Lib.hid (refAll_any l a cap w hm hT hs hr)
  cases hal : allB l with
  | false =>
    have hv : meetsB l = false := by unfold meetsB; rw [hal]; rfl
    rw [hv]
    rw [hal] at HA
    clear hv hal hT hs hr hm
    go_enter Tryd.func41, Tryd.ntmps41
    go_wp2_with (go_at_call 18; go_must (with_reducible refine HA.out.mono ?_); rintro e w1 ⟨rfl, h1⟩)
    go_ret
    exact ⟨rfl, h1⟩
  | true =>
    rw [hal] at HA
    rw [meetsB_N hal]
    have hlen := (allB_all hal).1
    obtain ⟨n, hn⟩ : ∃ n, l.length = n := ⟨_, rfl⟩
    have HO := Lib.hid (And.intro hn (And.intro hr (And.intro hT hs)))
    have HR : Hid (∀ W aw cw, Ext w W → IRow W aw (l.map chargeJ) → Calls Tryd.prog 77 #[.slice a n cap, .slice aw n cw] W fun e w' => e = .returned (.bool (meetsN l (at0 chargeJ l))) ∧ Ext W w') := Lib.hid fun W aw cw hW hw => by
      have h0 := refMeetsN_any l (at0 chargeJ l) a aw cap cw W (hT.ext hW) hs (hr.ext hW) hal (by rw [← map_rowN]; exact hw)
      rwa [hn] at h0
    rw [hn] at HA hlen ⊢
    clear hal hT hs hr hm hn
    generalize meetsN l (at0 chargeJ l) = res at *
    go_enter Tryd.func41, Tryd.ntmps41
    go_wp2_with (go_at_call 18; go_must (with_reducible refine HA.out.mono ?_); rintro e w1 ⟨rfl, h1⟩)
    obtain ⟨wo, hwo⟩ : ∃ wo : World, wo = w1 := ⟨_, rfl⟩
    subst hwo
    have HXO := Lib.hid h1
    clear h1 HA
    go_loopw [3, 4] (fun vv vi wr => ∃ k : Nat, k ≤ n ∧ vi = .int .i64 k ∧ wr.ownsRow wo.heap.size 3 1 vv k (((l.take k).map chargeJ).map (Value.int .i64)) ∧ Ext wo wr) (fun _ vi _ => n - (intOf vi).toNat)
    case atStart => exact ⟨0, Nat.zero_le _, by go_num, World.ownsRow_nil _ _ _ _, Ext.refl _⟩
    case round =>
      obtain ⟨k, hk, rfl, hown, hx⟩ := hrel
      by_cases hlt : k < n
      · have hkl : k < l.length := by rw [(HO.out).1]; exact hlt
        have hxw : Ext w wr := (HXO.out).trans hx
        obtain ⟨b, off, rfl, hb, hJ⟩ := ((HO.out).2.1.ext hxw).at hkl
        obtain ⟨c0, c1, c2, c3, c4, c5, c6, c7⟩ := hJ k hkl
        have HP := Lib.hid (refCharge_any l[k] wr ((HO.out).2.2.1.ext hxw) ((HO.out).2.2.2 _ (List.getElem_mem hkl)))
        have HS := Lib.hid (take_snoc l k hkl)
        have HX := Lib.hid hx
        clear hJ hx hxw
        generalize l[k] = j at *
        obtain ⟨v, hv⟩ : ∃ v, chargeJ j = v := ⟨_, rfl⟩
        rw [hv] at HP
        have HV := Lib.hid hv
        clear hv
        obtain ⟨nm, rel, dl, bud, act, val, cln, hard⟩ := j
        go_wp2_with (first
          | (go_at_call 20; go_must (with_reducible refine HP.out.mono ?_); rintro e w5 ⟨rfl, h5⟩)
          | (at_builtin; go_must (refine wpList_app1 rtInt wo.heap.size (own_ext hown h5) rfl (.tmp 14) (.tmp 20) rfl rfl [.int .i64 v] _ rfl (by simp) rfl (by simp [Value.oneCell']) (by omega) (by decide) (by have := (HX.out).size; have := h5.size; omega) _ ?_); intro v6 w6 hown6 hB6 hg6))
        go_roundw
        case rel => exact ⟨k + 1, by omega, by go_num, by rw [HS.out]; simpa [HV.out] using hown6, Below.trans ((HX.out).trans h5) hB6⟩
        case measure => simp [intOf]; omega
      · obtain rfl : k = n := by omega
        have hkl := (HO.out).1
        have hxw := (HXO.out).trans hx
        rw [← hkl, List.take_length] at hown
        obtain ⟨aw, cw, rfl, hw⟩ := own_erow (l := l.map chargeJ) (by simpa using hown)
        rw [show (l.map chargeJ).length = k by rw [List.length_map]; exact hkl]
        have HR2 := Lib.hid (HR.out wr aw cw hxw hw)
        clear hown hw hx hkl HR
        have HXW := Lib.hid hxw
        clear hxw
        go_wp2_with (go_at_call 77; go_must (with_reducible refine HR2.out.mono ?_); rintro e w7 ⟨rfl, h7⟩)
        go_ret
        exact ⟨rfl, (HXW.out).trans h7⟩
end Go.Proofs.YtnnmakkbnfckmaaDoor
