/- Walks: chapter 10's own answer: run. -/
import Derived.Test.YtnnmakkbnfckmaaDoorL8
namespace Go.Proofs.YtnnmakkbnfckmaaDoor
open Go.RowKit

theorem rtBool : RowT Tryd.prog 106 4 1 1 (.bool false) := .of Tryd.underlying106 (by kernel_rfl) rfl (by decide)
/-- Block B holds these bools, and perhaps more behind them. -/
def BArr (w : World) (B : Nat) (xs : List Bool) : Prop := ∃ rest : List Value, w.heap[B]? = some (.cells (xs.map Value.bool ++ rest).toArray 4 (0, 0))
theorem BArr.lt {w : World} {B : Nat} {xs : List Bool} (h : BArr w B xs) : B < w.heap.size := let ⟨_, h⟩ := h; (Array.getElem?_eq_some_iff.1 h).1
theorem BArr.cell {w : World} {B : Nat} {xs : List Bool} (h : BArr w B xs) {i : Nat} (hi : i < xs.length) : w.cell? ⟨B, i, none⟩ = some (.bool xs[i]) := by
  obtain ⟨rest, h⟩ := h
  simp [World.cell?, h, List.getElem?_append_left, hi]
theorem BArr.frozen {w : World} {B : Nat} {xs : List Bool} (h : BArr w B xs) (i : Nat) : w.frozen? ⟨B, i, none⟩ = false := by
  obtain ⟨rest, h⟩ := h
  simp [World.frozen?, h]
theorem BArr.ext {w w' : World} {B : Nat} {xs : List Bool} (h : BArr w B xs) (hx : Ext w w') : BArr w' B xs := by
  have hl := h.lt
  obtain ⟨rest, h⟩ := h
  exact ⟨rest, (hx.block B hl).trans h⟩
theorem BArr.set {w : World} {B : Nat} {xs : List Bool} (h : BArr w B xs) {i : Nat} (hi : i < xs.length) (v : Bool) : BArr (w.setCell ⟨B, i, none⟩ (.bool v)) B (xs.set i v) := by
  obtain ⟨rest, h⟩ := h
  refine ⟨rest, ?_⟩
  rw [heap_setCell_at w B i _ _ _ h]
  simp [List.set_append_left, hi, List.map_set]
theorem BArr.row {w : World} {B : Nat} {xs : List Bool} (h : BArr w B xs) : BRow w (some ⟨B, 0, none⟩) xs := fun i hi => ⟨B, 0, rfl, h.lt, by rw [Nat.zero_add]; exact h.cell hi⟩
theorem barr_new (w : World) (n : Nat) : BArr (w.alloc (.cells (List.replicate n (Value.bool false)).toArray 4)) w.heap.size (rowN (fun _ => false) n) := by
  refine ⟨[], ?_⟩
  have e : (rowN (fun _ => false) n).map Value.bool ++ [] = List.replicate n (Value.bool false) := by
    rw [List.append_nil]
    apply List.ext_getElem (by simp)
    intro i h1 h2
    simp
  rw [e]
  exact alloc_at _ _ _ rfl
theorem iarr_new (w : World) (n : Nat) : IArr (w.alloc (.cells (List.replicate n (Value.int .i64 0)).toArray 3)) w.heap.size (rowN (fun _ => 0) n) := by
  refine ⟨[], ?_⟩
  have e : (rowN (fun _ => (0 : Int)) n).map (Value.int .i64) ++ [] = List.replicate n (Value.int .i64 0) := by
    rw [List.append_nil]
    apply List.ext_getElem (by simp)
    intro i h1 h2
    simp
  rw [e]
  exact alloc_at _ _ _ rfl
theorem rowB_fill (g : Nat → Bool) (n k : Nat) : rowN (upd (fun i => decide (i < k) && g i) k (g k)) n = rowN (fun i => decide (i < k + 1) && g i) n := by
  refine List.map_congr_left fun i _ => ?_
  show (if i = k then g k else (decide (i < k) && g i)) = (decide (i < k + 1) && g i)
  by_cases c : i = k
  · subst c; simp
  · rw [if_neg c]
    congr 1
    rw [decide_eq_decide]; omega
theorem rowB_full (g : Nat → Bool) (n : Nat) : rowN (fun i => decide (i < n) && g i) n = rowN g n := by
  refine List.map_congr_left fun i hi => ?_
  have := List.mem_range.1 hi
  simp [this]
/-- How often each ran. -/
abbrev cntOf (t : List (Option Nat)) (i : Nat) : Int := (t.count (some i) : Int)
theorem cntOf_none (t : List (Option Nat)) (n : Nat) : rowN (cntOf (t ++ [none])) n = rowN (cntOf t) n := by
  refine List.map_congr_left fun i _ => ?_
  simp [cntOf, List.count_append]
theorem cntOf_some (t : List (Option Nat)) (i n : Nat) : rowN (cntOf (t ++ [some i])) n = rowN (upd (cntOf t) i (cntOf t i + 1)) n := by
  refine List.map_congr_left fun j _ => ?_
  show ((t ++ [some i]).count (some j) : Int) = if j = i then cntOf t i + 1 else cntOf t j
  rw [List.count_append, List.count_singleton]
  by_cases h : j = i
  · subst h; simp [cntOf]
  · have h' : ¬ i = j := fun e => h e.symm
    simp [cntOf, h, h']

set_option maxRecDepth 100000 in
set_option maxHeartbeats 16000000 in
theorem refRun_any (l : List J) (need : Nat → Int) (T : Nat) (a aw : Option Addr) (cap cw : Nat) (w : World) (hm : l.length ≤ 1000) (hT : T ≤ 10000) (hr : JRow w a l) (hw : IRow w aw (rowN need l.length)) :
    Calls Tryd.prog 76 #[.slice a l.length cap, .slice aw l.length cw, .int .i64 T] w (ISl (trI (edfT l need T)) w) := by
  have mixed : Tryd.prog.follows .mixedOrders = true := by kernel_rfl
  obtain ⟨n, hn⟩ : ∃ n, l.length = n := ⟨_, rfl⟩
  have HO := Lib.hid (And.intro hn (And.intro hr hw))
  rw [hn] at hm ⊢
  clear hn hr hw
  have hmk := fun W => run_make1 rtInt rfl n (by omega) (by decide) W
  have hmb := fun W => run_make1 rtBool rfl n (by omega) (by decide) W
  go_enter Tryd.func76, Tryd.ntmps76
  go_wp2_with fail
  have hI0 := iarr_new w n
  simp only [List.toArray_replicate] at hI0
  have hx0 := Ext.new w (.cells (Array.replicate n (Value.int .i64 0)) 3)
  have hs0 : (w.alloc (.cells (Array.replicate n (Value.int .i64 0)) 3)).heap.size = w.heap.size + 1 := by simp
  generalize w.alloc (.cells (Array.replicate n (Value.int .i64 0)) 3) = wo at *
  have HX := Lib.hid hx0
  have hBr : w.heap.size < wo.heap.size := by omega
  have HBR := Lib.hid hBr
  clear hx0 hs0
  go_loopw [7, 9] (fun v7 v9 wr => ∃ m : Nat, m ≤ T ∧ v9 = .int .i64 m ∧ wr.ownsRow wo.heap.size 3 1 v7 m ((trI (edfT l need m)).map (Value.int .i64)) ∧ IArr wr w.heap.size (rowN (cntOf (edfT l need m)) n) ∧ Aside (Kp [w.heap.size] wo wr)) (fun _ v9 _ => T - (intOf v9).toNat)
  case atStart => exact ⟨0, Nat.zero_le _, by go_num, World.ownsRow_nil _ _ _ _, hI0, Kp.refl _ _⟩
  case round =>
    obtain ⟨m, hmT, rfl, hown, hI, HK⟩ := hrel
    by_cases hlt : m < T
    · have HT := Lib.hid (edfT_step l need m)
      have HTL := Lib.hid (edfT_length l need m)
      generalize edfT l need m = t at *
      have hltz : (m : Int) < (T : Int) := by omega
      have hwr : Ext w wr := ((HX.out).kp [w.heap.size]).trans HK.out |>.below (Nat.le_refl _) (by simp)
      go_wp2_with fail
      have hB0 := barr_new wr n
      simp only [List.toArray_replicate] at hB0
      have hxy := Ext.new wr (.cells (Array.replicate n (Value.bool false)) 4)
      have hsz : wr.heap.size < (wr.alloc (.cells (Array.replicate n (Value.bool false)) 4)).heap.size := by simp
      generalize wr.alloc (.cells (Array.replicate n (Value.bool false)) 4) = wy at *
      have hneB : w.heap.size < wr.heap.size := Nat.lt_of_lt_of_le hBr (HK.out).size
      have hIy := hI.ext hxy
      have HY := Lib.hid (And.intro hxy (And.intro hwr (And.intro hIy (And.intro hown hI))))
      have HKR := Lib.hid HK.out
      clear hxy hwr hI hIy hown HK hI0
      obtain ⟨wq, hwq⟩ : ∃ wq : World, wq = wr := ⟨_, rfl⟩
      subst hwq
      generalize hBm : wq.heap.size = Bm at *
      have HBM := Lib.hid hBm
      clear hBm
      go_loopw [11] (fun v11 wr => ∃ k : Nat, k ≤ n ∧ v11 = .int .i64 k ∧ BArr wr Bm (rowN (fun i => decide (i < k) && mayRun l need t i) n) ∧ Aside (Kp [Bm] wy wr)) (fun v11 _ => n - (intOf v11).toNat)
      case atStart => exact ⟨0, Nat.zero_le _, by go_num, by simpa using hB0, Kp.refl _ _⟩
      case round =>
        obtain ⟨k, hk, rfl, hB, HK⟩ := hrel
        by_cases hkn : k < n
        · have hkl : k < l.length := by rw [(HO.out).1]; exact hkn
          have hkz : (k : Int) < (n : Int) := by omega
          obtain ⟨b, off, rfl, hb, hJ⟩ := (HO.out).2.1.at hkl
          obtain ⟨bw, ow, rfl, hbw, hcw⟩ := (HO.out).2.2 k (by simpa using hkl)
          have hxw : Ext w wr := ((((HY.out).2.1.trans (HY.out).1).kp [Bm]).trans HK.out).below (Nat.le_refl _) (by simp; omega)
          have c1 := (hxw.cell hb).trans (hJ k hkl).c1
          have c2 := (hxw.cell hbw).trans hcw
          have c3 := ((HK.out).cell (b := w.heap.size) (o := k) (by omega) (by simp; omega)).trans ((HY.out).2.2.1.cell (i := k) (by simpa using hkn))
          obtain ⟨old, c4⟩ : ∃ old : Bool, wr.cell? ⟨Bm, k, none⟩ = some (.bool old) := ⟨_, hB.cell (i := k) (by simpa using hkn)⟩
          have c5 := hB.frozen k
          have hrd := at0_eq J.rel l hkl
          simp only [List.getElem_map, List.getElem_range] at c2 c3
          obtain ⟨x, hxr⟩ : ∃ x, l[k].rel = x := ⟨_, rfl⟩
          rw [hxr] at c1 hrd
          have HMR : Hid (mayRun l need t k = (decide (x ≤ m) && decide (cntOf t k < need k))) := by
            show mayRun l need t k = _
            unfold mayRun; rw [hrd, HTL.out]
          obtain ⟨cn, hcn⟩ : ∃ cn, cntOf t k = cn := ⟨_, rfl⟩
          obtain ⟨nd, hnd⟩ : ∃ nd, need k = nd := ⟨_, rfl⟩
          rw [hcn] at c3 HMR
          rw [hnd] at c2 HMR
          have HB := Lib.hid hB
          clear hJ hcw hrd hxr hcn hnd hB
          by_cases hle : x ≤ m
          · go_wp2_with fail
            go_region
            have HB2 : Hid (BArr (wr.setCell ⟨Bm, k, none⟩ (.bool (decide (cn < nd)))).drew Bm (rowN (fun i => decide (i < k + 1) && mayRun l need t i) n)) := by
              have h1 := (HB.out).set (i := k) (by simpa using hkn) (decide (cn < nd))
              have h2 : mayRun l need t k = (decide (cn < nd)) := by rw [HMR.out]; simp [hle]
              rw [rowN_set, ← h2, rowB_fill] at h1
              rw [← h2]
              exact h1
            have HK2 : Hid (Kp [Bm] wy (wr.setCell ⟨Bm, k, none⟩ (.bool (decide (cn < nd)))).drew) := (((HK.out).setCell (by simp) _).drew)
            clear c1 c2 c3 c4 c5
            go_wp2_with fail
            go_roundw
            case rel => exact ⟨k + 1, by omega, by go_num, HB2.out, HK2.out⟩
            case measure => simp [intOf]; omega
          · have hle' : decide (x ≤ (m : Int)) = false := decide_eq_false hle
            go_wp2_with fail
            go_region
            have HB2 : Hid (BArr (wr.setCell ⟨Bm, k, none⟩ (.bool false)).drew Bm (rowN (fun i => decide (i < k + 1) && mayRun l need t i) n)) := by
              have h1 := (HB.out).set (i := k) (by simpa using hkn) false
              have h2 : mayRun l need t k = false := by rw [HMR.out]; rw [hle']; rfl
              rw [rowN_set, ← h2, rowB_fill] at h1
              rw [← h2]
              exact h1
            have HK2 : Hid (Kp [Bm] wy (wr.setCell ⟨Bm, k, none⟩ (.bool false)).drew) := (((HK.out).setCell (by simp) _).drew)
            clear c1 c2 c3 c4 c5
            go_wp2_with fail
            go_roundw
            case rel => exact ⟨k + 1, by omega, by go_num, HB2.out, HK2.out⟩
            case measure => simp [intOf]; omega
        · obtain rfl : k = n := by omega
          have hrow : BRow wr (some ⟨Bm, 0, none⟩) (rowN (mayRun l need t) l.length) := by
            rw [rowB_full] at hB
            rw [(HO.out).1]
            exact hB.row
          have hxw : Ext w wr := ((((HY.out).2.1.trans (HY.out).1).kp [Bm]).trans HK.out).below (Nat.le_refl _) (by simp; omega)
          have HF := Lib.hid (first_any l (mayRun l need t) a (some ⟨Bm, 0, none⟩) cap k wr (by rw [(HO.out).1]; omega) ((HO.out).2.1.ext hxw) hrow)
          rw [(HO.out).1] at HF
          have hqr : Ext wq wr := (((HY.out).1.kp [Bm]).trans HK.out).below (Nat.le_refl _) (by simp [HBM.out])
          have hown := own_ext (HY.out).2.2.2.1 hqr
          have hI := (HY.out).2.2.2.2.ext hqr
          have HK3 := Lib.hid (And.intro ((HKR.out).ext hqr) hxw)
          have hws : w.heap.size < wo.heap.size := HBR.out
          clear hB hrow hxw HK hqr
          cases hp : pick l (mayRun l need t) with
          | none =>
            rw [hp] at HT HF
            rw [idxI_none] at HF
            clear hp
            go_wp2_with (first
              | (go_at_call 89; go_must (with_reducible refine HF.out.mono ?_); rintro e w5 ⟨rfl, h5⟩)
              | (at_builtin; go_must (refine wpList_app1 rtInt wo.heap.size (own_ext hown h5) rfl (.tmp 62) (.tmp 64) rfl rfl [.int .i64 (-1)] _ rfl (by simp) rfl (by simp [Value.oneCell']) (by omega) (by decide) (by have := (HK3.out).1.size; have := h5.size; omega) _ ?_); intro v6 w6 hown6 hB6 hg6))
            go_roundw
            case rel =>
              refine ⟨m + 1, by omega, by go_num, ?_, ?_, ?_⟩
              · rw [HT.out]; simpa [idxI] using hown6
              · rw [HT.out, cntOf_none]
                exact (hI.ext h5).below hB6 hws
              · exact (((HK3.out).1).ext h5).below_trans hB6
            case measure => simp [intOf]; omega
          | some i =>
            rw [hp] at HT HF
            rw [idxI_some] at HF
            have hil : i < l.length := (pick_some hp).1
            have hik : i < k := by rw [← (HO.out).1]; exact hil
            have hcb : (t.count (some i)) ≤ 10000 := by have := List.count_le_length (a := some i) (l := t); have := HTL.out; omega
            have hiz : (i : Int) < (k : Int) := by omega
            have hi0 : decide ((0 : Int) ≤ (i : Int)) = true := by simp
            clear hp
            go_wp2_with fail
            refine HF.out.mono ?_
            rintro e w5 ⟨rfl, h5⟩
            have hI5 := hI.ext h5
            have c3 := hI5.cell (i := i) (by simpa using hik)
            have c4 := hI5.frozen i
            simp only [List.getElem_map, List.getElem_range] at c3
            have hcn0 : 0 ≤ cntOf t i := by show (0 : Int) ≤ (t.count (some i) : Int); omega
            have hcn1 : cntOf t i ≤ 10000 := by show (t.count (some i) : Int) ≤ _; omega
            obtain ⟨v, hv⟩ : ∃ v, cntOf t i = v := ⟨_, rfl⟩
            rw [hv] at c3 hcn0 hcn1
            have hIy : Hid (IArr (w5.setCell ⟨w.heap.size, i, none⟩ (.int .i64 (v + 1))) w.heap.size (rowN (cntOf (t ++ [some i])) k)) := by
              have h1 := hI5.set (i := i) (by simpa using hik) (v + 1)
              rw [rowN_set, ← hv, ← cntOf_some] at h1
              rw [← hv]
              exact h1
            have hoy : (w5.setCell ⟨w.heap.size, i, none⟩ (.int .i64 (v + 1))).ownsRow wo.heap.size 3 1 u7 m ((trI t).map (Value.int .i64)) := own_set (own_ext hown h5) hws _
            have HKy := Lib.hid ((((HK3.out).1).ext h5).setCell (p := ⟨w.heap.size, i, none⟩) (by simp) (.int .i64 (v + 1)))
            clear hv hI hI5 hcb hown h5
            go_wp2_with (at_builtin; go_must (refine wpList_app1 rtInt wo.heap.size hoy rfl (.tmp 62) (.tmp 64) rfl rfl [.int .i64 i] _ rfl (by simp) rfl (by simp [Value.oneCell']) (by omega) (by decide) (by have := (HKy.out).size; omega) _ ?_); intro v6 w6 hown6 hB6 hg6)
            go_roundw
            case rel =>
              refine ⟨m + 1, by omega, by go_num, ?_, ?_, ?_⟩
              · rw [HT.out]; simpa [idxI] using hown6
              · rw [HT.out]
                exact (hIy.out).below hB6 hws
              · exact (HKy.out).below_trans hB6
            case measure => simp [intOf]; omega
    · obtain rfl : m = T := by omega
      have hx : Ext w wr := (((HX.out).kp [w.heap.size]).trans HK.out).below (Nat.le_refl _) (by simp)
      go_wp2_with fail
      go_ret
      refine ISl.mk (base := wo.heap.size) (e := 3) ?_ hx
      rw [List.length_map, edfT_length]
      exact hown
end Go.Proofs.YtnnmakkbnfckmaaDoor
