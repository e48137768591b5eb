/- Walks: edf.Slack, edf.Fits. -/
import Derived.Test.YtnnmakkbnfckmaaDoorL1
import Derived.Test.YtnnmakkbnfckmaaDoorL2
import Derived.Test.YtnnmakkbnfckmaaDoorS8
import Derived.Test.YtnnmakkbnfckmaaDoorC0
namespace Go.Proofs.YtnnmakkbnfckmaaDoor
open Go.RowKit Go.Shelf Go.Sort Go.Lib

theorem holdsK_of_parr {e : TypeId} {w : World} {B : Nat} {l : List (Int × Int)} (h : PArr e w B l) : HoldsK (encL id) 2 w B 0 l.toArray := by
  obtain ⟨rest, h⟩ := h
  intro j hj
  have hs : (flatK (encL id) 2 l.toArray).size = l.length * 2 := by rw [size_flatK]; simp
  rw [hs] at hj
  rw [get_flatK _ _ _ _ (by simpa using hj), Nat.zero_add]
  have hg := flat_get pairC 2 (fun _ => rfl) l (j / 2) (by omega) (j % 2) (by omega)
  rw [show j / 2 * 2 + j % 2 = j by omega] at hg
  have hjl : j / 2 < l.length := by omega
  refine ⟨?_, by simp [World.frozen?, h]⟩
  simp only [World.cell?, h]
  have : (l.flatMap pairC ++ rest)[j]? = (pairC l[j / 2])[j % 2]? := by
    rw [List.getElem?_append_left (by rw [flat_length pairC 2 (fun _ => rfl)]; omega), hg]
  have hz : l.toArray[j / 2]! = l[j / 2] := by rw [getElem!_pos _ _ (by simpa using hjl)]; simp
  rw [hz, List.getElem?_toArray, this]
  rcases (by omega : j % 2 = 0 ∨ j % 2 = 1) with c | c <;> rw [c] <;> rfl
theorem slackSort {w : World} {g : Nat} {l : List (Int × Int)} (hm : l.length ≤ 1000) (hp : PArr 56 w g l) : SortL id 73 #[] (fun x : Int × Int => x.1) l.toArray w g 0 := by
  refine ⟨Go.Proofs.enters_of Tryd.func73 (by kernel_rfl) rfl, ⟨fun _ => rfl, fun x v hv => ?_, holdsK_of_parr hp, hp.lt⟩, fun m os dk hs x y => ?_, by simp; omega⟩
  · simp only [encL, id, List.mem_cons, List.not_mem_nil, or_false] at hv
    rcases hv with rfl | rfl <;> rfl
  · exact slackCmp_any x y _
theorem prow_of_swl {w W : World} {g : Nat} {l : List (Int × Int)} {d : Array (Int × Int)} (hp : PArr 56 w g l) (hd : d.size = l.length) (h : SWL id w g 0 d W) : PRow W (some ⟨g, 0, none⟩) d.toList := by
  have hh := h.holds hp.lt (holdsK_of_parr hp) (by simpa using hd)
  have hlt : g < W.heap.size := h.lt hp.lt
  intro i hi
  have hi' : i < d.size := by simpa using hi
  refine ⟨g, 0, rfl, hlt, ?_, ?_⟩
  · have := (hh (i * 2) (by rw [size_flatK]; omega)).1
    rw [get_flatK _ _ _ _ (by omega)] at this
    rw [this]
    simp [encL, getElem!_pos, hi', show i * 2 / 2 = i by omega]
  · have := (hh (i * 2 + 1) (by rw [size_flatK]; omega)).1
    rw [get_flatK _ _ _ _ (by omega)] at this
    rw [Nat.add_assoc, this]
    simp [encL, getElem!_pos, hi', show (i * 2 + 1) / 2 = i by omega]

set_option maxRecDepth 100000 in
set_option maxHeartbeats 8000000 in
theorem slack_any (now : Int) (l : List (Int × Int)) (a : Option Addr) (cap : Nat) (w : World) (hm : l.length ≤ bigS) (hr : PRow w a l) :
    Calls Tryd.prog 32 #[.int .i64 now, .slice a l.length cap] w fun e w' => e = .returned (.tuple #[.int .i64 (slackR now l), .bool (slackOk now l)]) ∧ Ext w w' := by
  have HM := Lib.hid (may_any now l a cap w hm hr)
  by_cases hn : l.length = 0
  · have hl : l = [] := List.length_eq_zero_iff.1 hn
    subst hl
    have h0 : slackOk now [] = false := rfl
    rw [slack_none h0, h0]
    clear h0 HM hr hn
    go_enter Tryd.func32, Tryd.ntmps32
    go_wp2_with fail
    go_ret2
    exact ⟨rfl, Ext.refl _⟩
  · have hnb : ((l.length : Int) == 0) = false := beq_eq_false_iff_ne.2 (by omega)
    cases hb : mayB now l with
    | false =>
      have h0 : slackOk now l = false := by unfold slackOk; rw [hb]; simp
      rw [slack_none h0, h0]
      rw [hb] at HM
      clear h0 hb hr
      go_enter Tryd.func32, Tryd.ntmps32
      go_wp2_with (go_at_call 70; go_must (with_reducible refine HM.out.mono ?_); rintro e w1 ⟨rfl, h1⟩)
      go_ret2
      exact ⟨rfl, h1⟩
    | true =>
      obtain ⟨hnow, hlen, hmem⟩ := mayB_mem hb
      have h0 : slackOk now l = true := by unfold slackOk; rw [hb]; cases l <;> simp_all
      have hv : slackR now l = slackV now l := by unfold slackR; rw [h0]; rfl
      have hsl := sort_least now l
      rw [hv, h0, ← hsl]
      rw [hb] at HM
      have hn0 : 0 < l.length := by omega
      have HC := Lib.hid fun W (h : Ext w W) => cloneL_any l a cap W hn0 hlen (hr.ext h)
      obtain ⟨s, hse⟩ : ∃ s, sortK (fun x : Int × Int => x.1) l = s := ⟨_, rfl⟩
      obtain ⟨n, hnn⟩ : ∃ n, l.length = n := ⟨_, rfl⟩
      rw [hse, hnn]
      have hperm : s.Perm l := hse ▸ sortK_perm _ l
      have hsn : s.length = n := hperm.length_eq.trans hnn
      have HL := Lib.hid (And.intro (And.intro hlen hse) (And.intro hnn (And.intro hsn (fun x hx => hmem x (hperm.mem_iff.1 hx) : ∀ x ∈ s, (-1000000 ≤ x.1 ∧ x.1 ≤ 1000000) ∧ -1000000 ≤ x.2 ∧ x.2 ≤ 1000000))))
      rw [hnn] at hlen hn0 hn hnb HM HC
      clear hb h0 hv hsl hr hmem hm hse hnn hperm hsn
      go_enter Tryd.func32, Tryd.ntmps32
      go_wp2_with (first
        | (go_at_call 70; go_must (with_reducible refine HM.out.mono ?_); rintro e w1 ⟨rfl, h1⟩)
        | (go_at_call 71; go_must (with_reducible refine (HC.out _ h1).mono ?_); rintro e w2 ⟨g, cg, rfl, hp, hg, h2⟩))
      have hS := slackSort (HL.out).1.1 hp
      have hsort := sortStableL hS cg (by simp; have := (HL.out).1.1; omega)
      rw [show l.toArray.size = n by simp [(HL.out).2.1]] at hsort
      have HP := Lib.hid (And.intro hp (h1.trans h2))
      have hg' : w.heap.size ≤ g := Nat.le_trans h1.size hg
      clear hS hp h1 h2 HM HC
      go_wp2_with (go_at_call 72; with_reducible refine hsort.mono ?_; rintro e1 w3 ⟨rfl, d', hd1, hd2⟩)
      have hx3 : Ext w w3 := by
        have k1 := swk_kp hd2
        exact (((HP.out).2.kp [g]).trans k1).below (Nat.le_refl _) (by simpa using hg')
      have hd1' : d'.toList = s := by
        rw [hd1, ← (HL.out).1.2]
      have hds : d'.size = l.length := by
        have := congrArg List.length hd1'
        rw [(HL.out).2.2.1, ← (HL.out).2.1] at this
        simpa using this
      have hR : PRow w3 (some ⟨g, 0, none⟩) s := by
        have := prow_of_swl (HP.out).1 hds hd2
        rwa [hd1'] at this
      have HN := Lib.hid (HL.out).2.2.1
      have HM := Lib.hid (HL.out).2.2.2
      have HX := Lib.hid hx3
      clear hsort hd1 hd2 hds hd1' hx3 HP HL
      go_wp2_with fail
      go_loopw [7, 8, 27] (fun v7 v8 v27 wr => ∃ k : Nat, k ≤ n ∧ v27 = .int .i64 k ∧ v7 = .int .i64 (sumF posN (s.take k)) ∧ v8 = .int .i64 (leastN (spareP now s) k) ∧ Ext w3 wr) (fun _ _ v27 _ => n - (intOf v27).toNat)
      case atStart => exact ⟨0, Nat.zero_le _, rfl, rfl, rfl, Ext.refl _⟩
      case round =>
        obtain ⟨k, hk, rfl, rfl, rfl, hx⟩ := hrel
        have hkl : k ≤ s.length := by rw [HN.out]; exact hk
        have hs0 : 0 ≤ sumF posN (s.take k) := sumF_nonneg fun x _ => posN_nonneg x
        have hs1 : sumF posN (s.take k) ≤ k * 1000000 := sumF_take_le _ s k 1000000 hkl fun x hx => by have := (HM.out x hx).2; unfold posN; omega
        by_cases hlt : k < n
        · have hks : k < s.length := by rw [HN.out]; exact hlt
          obtain ⟨b, off, he, hbk, c0, c1⟩ := (hR.ext hx) k hks
          obtain ⟨rfl, rfl⟩ : b = g ∧ off = 0 := by injection he with e; injection e with e1 e2; exact ⟨e1.symm, e2.symm⟩
          rw [Nat.zero_add] at c0 c1
          have HS := Lib.hid (sumF_snoc posN s k hks)
          have HV : Hid (spareP now s k = s[k].1 - now - sumF posN (s.take (k + 1))) := by
            show spareP now s k = _
            unfold spareP dlN
            rw [at0_eq _ _ hks]
          have HP2 : Hid (posN s[k] = max s[k].2 0) := (show posN s[k] = max s[k].2 0 from rfl)
          have hxb := HM.out _ (List.getElem_mem hks)
          generalize posN s[k] = q at *
          generalize s[k].1 = x at *
          generalize s[k].2 = y at *
          generalize sumF posN (s.take k) = S at *
          clear he
          have HX2 := Lib.hid hx
          clear hx hR
          by_cases hk0 : k = 0
          · have hkb : ((k : Int) == 0) = true := beq_iff_eq.2 (by omega)
            have HL := Lib.hid (show leastN (spareP now s) (k + 1) = spareP now s k by simp [leastN, hk0])
            generalize leastN (spareP now s) k = L at *
            have hk1 : k < 1 := by omega
            clear hk0
            go_wp2_with fail
            go_roundw
            case rel => exact ⟨k + 1, by omega, by go_num, by rw [HS.out, HP2.out], by rw [HL.out, HV.out, HS.out, HP2.out], (HX2.out).trans (Ext.new _ _)⟩
            case measure => simp [intOf]; omega
          · have hkb : ((k : Int) == 0) = false := beq_eq_false_iff_ne.2 (by omega)
            have HL := Lib.hid (show leastN (spareP now s) (k + 1) = if spareP now s k < leastN (spareP now s) k then spareP now s k else leastN (spareP now s) k by simp [leastN, hk0])
            generalize leastN (spareP now s) k = L at *
            clear hk0
            go_wp2_with fail
            all_goals
              go_roundw
              case rel => exact ⟨k + 1, by omega, by go_num, by rw [HS.out, HP2.out], by rw [HL.out, HV.out, HS.out, HP2.out]; first | rw [if_pos (by assumption)] | rw [if_neg (by omega)], (HX2.out).trans (Ext.new _ _)⟩
              case measure => simp [intOf]; omega
        · obtain rfl : k = n := by omega
          go_wp2_with fail
          go_ret2
          exact ⟨rfl, HX.out.trans hx⟩

set_option maxRecDepth 100000 in
set_option maxHeartbeats 8000000 in
theorem fits_any (now : Int) (l : List (Int × Int)) (a : Option Addr) (cap : Nat) (w : World) (hm : l.length ≤ bigS) (hr : PRow w a l) :
    Calls Tryd.prog 35 #[.int .i64 now, .slice a l.length cap] w fun e w' => e = .returned (.bool (fitsB now l)) ∧ Ext w w' := by
  have HS := Lib.hid (slack_any now l a cap w hm hr)
  have HB := Lib.hid fun W (h : Ext w W) => may_any now l a cap W hm (hr.ext h)
  clear hr hm
  cases hb : mayB now l with
  | false =>
    have hf : fitsB now l = false := by unfold fitsB; rw [hb]; rfl
    rw [hf]
    rw [hb] at HB
    clear hf hb
    go_enter Tryd.func35, Tryd.ntmps35
    go_wp2_with (first
      | (go_at_call 32; go_must (with_reducible refine HS.out.mono ?_); rintro e w1 ⟨rfl, h1⟩)
      | (go_at_call 70; go_must (with_reducible refine (HB.out _ h1).mono ?_); rintro e w2 ⟨rfl, h2⟩))
    go_ret
    exact ⟨rfl, h1.trans h2⟩
  | true =>
    rw [hb] at HB
    cases hl : l.isEmpty with
    | true =>
      have hk : slackOk now l = false := by unfold slackOk; rw [hl]; rfl
      have hf : fitsB now l = true := by unfold fitsB; rw [hb, hl]; rfl
      rw [hf]
      rw [hk] at HS
      clear hf hb hk hl
      go_enter Tryd.func35, Tryd.ntmps35
      go_wp2_with (first
        | (go_at_call 32; go_must (with_reducible refine HS.out.mono ?_); rintro e w1 ⟨rfl, h1⟩)
        | (go_at_call 70; go_must (with_reducible refine (HB.out _ h1).mono ?_); rintro e w2 ⟨rfl, h2⟩))
      go_ret
      exact ⟨rfl, h1.trans h2⟩
    | false =>
      have hk : slackOk now l = true := by unfold slackOk; rw [hl, hb]; rfl
      have hv : slackR now l = slackV now l := by unfold slackR; rw [hk]; rfl
      have hf : fitsB now l = decide (0 ≤ slackV now l) := by unfold fitsB; rw [hb, hl]; rfl
      rw [hf]
      rw [hk, hv] at HS
      clear hf hb hk hl hv
      generalize slackV now l = v at *
      go_enter Tryd.func35, Tryd.ntmps35
      go_wp2_with (first
        | (go_at_call 32; go_must (with_reducible refine HS.out.mono ?_); rintro e w1 ⟨rfl, h1⟩)
        | (go_at_call 70; go_must (with_reducible refine (HB.out _ h1).mono ?_); rintro e w2 ⟨rfl, h2⟩))
      go_ret
      exact ⟨rfl, h1.trans h2⟩
end Go.Proofs.YtnnmakkbnfckmaaDoor
