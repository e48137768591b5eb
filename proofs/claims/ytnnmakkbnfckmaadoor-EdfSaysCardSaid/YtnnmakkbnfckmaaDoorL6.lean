/- Walks: edf.run: jobs run by their deadlines. -/
import Derived.Test.YtnnmakkbnfckmaaDoorL4
import Derived.Test.YtnnmakkbnfckmaaDoorC0
import Derived.Test.YtnnmakkbnfckmaaDoorP9
import Derived.Test.YtnnmakkbnfckmaaDoorE1
import Derived.Maps.AppendAt
namespace Go.Proofs.YtnnmakkbnfckmaaDoor
open Go.RowKit

/-! ### What is owned and what is written beside it -/
theorem grownBy_setCell (w : World) (p : Addr) (v : Value) : w.grownBy (w.setCell p v) (some p.block) :=
  ⟨rfl, rfl, rfl, by simp [World.setCell], fun k _ hne => Below.heap_setCell _ _ _ _ (fun e => hne (by rw [e]))⟩
theorem own_set {w : World} {base e k n : Nat} {v : Value} {xs : List Value} (h : w.ownsRow base e k v n xs) {B i : Nat} (hB : B < base) (x : Value) : (w.setCell ⟨B, i, none⟩ x).ownsRow base e k v n xs :=
  h.kept (row := some B) (grownBy_setCell w ⟨B, i, none⟩ x) (by
    cases hv : v.ownBlock with
    | none => exact .inl rfl
    | some g => right; have := (h.lt g hv).1; intro e; cases e; omega)
/-- A slice of ints is handed back. -/
def ISl (l : List Int) (w : World) (e : Ending) (w' : World) : Prop := ∃ a cap, e = .returned (.slice a l.length cap) ∧ IRow w' a l ∧ Ext w w' ∧ l.length ≤ cap ∧ ∀ b o, a = some ⟨b, o, none⟩ → o = 0
theorem ISl.mk {l : List Int} {w w' : World} {base e : Nat} {v : Value} (h : w'.ownsRow base e 1 v l.length (l.map (Value.int .i64))) (hx : Ext w w') : ISl l w (.returned v) w' := by
  have h2 := h.2
  obtain ⟨a, cap, rfl, hr⟩ := own_erow h
  refine ⟨a, cap, rfl, hr, hx, ?_, ?_⟩
  · rcases h2 with ⟨e, h0⟩ | ⟨g, cap', cur, e, _, _, hnc, _⟩
    · omega
    · injection e with e1 e2 e3; omega
  · rcases h2 with ⟨e, h0⟩ | ⟨g, cap', cur, e, _, _, hnc, _⟩
    · injection e with e1 e2 e3; intro b o h; rw [e1] at h; cases h
    · injection e with e1 e2 e3; intro b o h; rw [e1] at h; injection h with h; injection h with h1 h2; exact h2.symm
theorem ISl.nil {w w' : World} (hx : Ext w w') : ISl [] w (.returned (.slice none 0 0)) w' := ⟨none, 0, rfl, ERow.nil _ _ _, hx, Nat.le_refl _, fun _ _ h => by cases h⟩
theorem find_idx {α : Type} (p : α → Bool) (l : List α) : (l.findIdx? p = none ∧ l.find? p = none) ∨ ∃ m, ∃ h : m < l.length, l.findIdx? p = some m ∧ l.find? p = some l[m] := by
  cases h : l.findIdx? p with
  | none =>
    refine .inl ⟨rfl, ?_⟩
    rw [List.findIdx?_eq_none_iff] at h
    rw [List.find?_eq_none]
    intro x hx
    simpa using h x hx
  | some m =>
    obtain ⟨hm, hp, hno⟩ := List.findIdx?_eq_some_iff_getElem.1 h
    refine .inr ⟨m, hm, rfl, ?_⟩
    rw [List.find?_eq_some_iff_getElem]
    exact ⟨hp, m, hm, rfl, fun j hj => by simpa using hno j hj⟩
theorem idx_nz {p : Int → Bool} (l : List Nat) : (nz l).findIdx? p = l.findIdx? (fun i : Nat => p (i : Int)) := by
  rw [List.findIdx?_map]; rfl

/-- What has been left of each, behind a trace. -/
abbrev leftOf (need : Nat → Int) (t : List (Option Nat)) (i : Nat) : Int := need i - (t.count (some i) : Int)

set_option maxRecDepth 100000 in
set_option maxHeartbeats 8000000 in
theorem run_no (l : List J) (ticks : Int) (g : FuncId) (a : Option Addr) (cap : Nat) (w : World) (hm : l.length ≤ bigS) (hT : Tabs w) (hs : ∀ j ∈ l, j.ok) (hr : JRow w a l) (hno : allB l = false ∨ ticks < 0) :
    Calls Tryd.prog 75 #[.slice a l.length cap, .int .i64 ticks, .func (.func g) #[] #[]] w fun e w' => e = .returned (.slice none 0 0) ∧ Ext w w' := by
  have HC := Lib.hid fun W (h : Ext w W) => all_any l a cap W hm (NameC.of (hT.ext h)) hs (hr.ext h)
  clear hT hs hr hm
  cases hal : allB l with
  | false =>
    rw [hal] at HC
    clear hal hno
    go_enter Tryd.func75, Tryd.ntmps75
    go_wp2_with (go_at_call 17; go_must (with_reducible refine (HC.out _ (Ext.new _ _)).mono ?_); rintro e w1 ⟨rfl, h1⟩)
    go_ret
    exact ⟨rfl, (Ext.new _ _).trans h1⟩
  | true =>
    have ht : ticks < 0 := by rcases hno with h | h
                              · rw [h] at hal; cases hal
                              · exact h
    rw [hal] at HC
    clear hal hno
    go_enter Tryd.func75, Tryd.ntmps75
    go_wp2_with (go_at_call 17; go_must (with_reducible refine (HC.out _ (Ext.new _ _)).mono ?_); rintro e w1 ⟨rfl, h1⟩)
    go_ret
    exact ⟨rfl, (Ext.new _ _).trans h1⟩

set_option maxRecDepth 100000 in
set_option maxHeartbeats 16000000 in
theorem keepR {wy W W' : World} {BL bj n : Nat} {nm : ByteArray} {rel dl bud act val cln : Int} {hard : Bool} (hb : bj < wy.heap.size ∧ bj ≠ BL ∧ BL + 1 < wy.heap.size) (hE : Kp [BL] W W') (h : Kp [BL] wy W ∧ W.cell? ⟨BL + 1, 0, none⟩ = some (.slice (some ⟨BL, 0, none⟩) n n) ∧ W.cell? ⟨bj, 0, none⟩ = some (.string nm) ∧ W.cell? ⟨bj, 1, none⟩ = some (.int .i64 rel) ∧ W.cell? ⟨bj, 2, none⟩ = some (.int .i64 dl) ∧ W.cell? ⟨bj, 3, none⟩ = some (.int .i64 bud) ∧ W.cell? ⟨bj, 4, none⟩ = some (.int .i64 act) ∧ W.cell? ⟨bj, 5, none⟩ = some (.int .i64 val) ∧ W.cell? ⟨bj, 6, none⟩ = some (.int .i64 cln) ∧ W.cell? ⟨bj, 7, none⟩ = some (.bool hard)) :
    Kp [BL] wy W' ∧ W'.cell? ⟨BL + 1, 0, none⟩ = some (.slice (some ⟨BL, 0, none⟩) n n) ∧ W'.cell? ⟨bj, 0, none⟩ = some (.string nm) ∧ W'.cell? ⟨bj, 1, none⟩ = some (.int .i64 rel) ∧ W'.cell? ⟨bj, 2, none⟩ = some (.int .i64 dl) ∧ W'.cell? ⟨bj, 3, none⟩ = some (.int .i64 bud) ∧ W'.cell? ⟨bj, 4, none⟩ = some (.int .i64 act) ∧ W'.cell? ⟨bj, 5, none⟩ = some (.int .i64 val) ∧ W'.cell? ⟨bj, 6, none⟩ = some (.int .i64 cln) ∧ W'.cell? ⟨bj, 7, none⟩ = some (.bool hard) := by
  obtain ⟨hx, a, a0, a1, a2, a3, a4, a5, a6, a7⟩ := h
  have q : bj < W.heap.size := Nat.lt_of_lt_of_le hb.1 hx.size
  have q1 : BL + 1 < W.heap.size := Nat.lt_of_lt_of_le hb.2.2 hx.size
  refine ⟨hx.trans hE, ?_⟩
  simp only [hE.cell q (by simpa using hb.2.1), hE.cell q1 (by simp)]
  exact ⟨a, a0, a1, a2, a3, a4, a5, a6, a7⟩
theorem rowN_fill (g : Nat → Int) (n k : Nat) : rowN (upd (fun i => if i < k then g i else 0) k (g k)) n = rowN (fun i => if i < k + 1 then g i else 0) n := by
  refine List.map_congr_left fun i _ => ?_
  show (if i = k then g k else if i < k then g i else 0) = if i < k + 1 then g i else 0
  by_cases c : i = k
  · subst c; rw [if_pos rfl, if_pos (by omega)]
  · rw [if_neg c]
    by_cases d : i < k
    · rw [if_pos d, if_pos (by omega)]
    · rw [if_neg d, if_neg (by omega)]
theorem rowN_full (g : Nat → Int) (n : Nat) : rowN (fun i => if i < n then g i else 0) n = rowN (leftOf g []) n := by
  refine List.map_congr_left fun i hi => ?_
  have := List.mem_range.1 hi
  show (if i < n then g i else 0) = g i - 0
  rw [if_pos this]; omega
theorem edfT_step (l : List J) (need : Nat → Int) (m : Nat) : edfT l need (m + 1) = edfT l need m ++ [pick l (mayRun l need (edfT l need m))] := rfl
theorem IArr.below {B BL : Nat} {w w' : World} {xs : List Int} (h : IArr w BL xs) (hB : Below B w w') (hl : BL < B) : IArr w' BL xs := by
  obtain ⟨rest, h⟩ := h
  exact ⟨rest, (hB.block BL hl).trans h⟩
theorem Kp.below_trans {S : List Nat} {w a b : World} (h : Kp S w a) (k : Below w.heap.size a b) : Kp S w b :=
  ⟨k.os.trans h.os, k.tape.trans h.tape, k.output.trans h.output, Nat.le_trans h.size k.size, fun i hi hn => (k.block i hi).trans (h.block i hi hn)⟩
theorem leftOf_none (need : Nat → Int) (t : List (Option Nat)) (n : Nat) : rowN (leftOf need (t ++ [none])) n = rowN (leftOf need t) n := by
  refine List.map_congr_left fun i _ => ?_
  simp [leftOf, List.count_append]
theorem leftOf_some (need : Nat → Int) (t : List (Option Nat)) (i n : Nat) : rowN (leftOf need (t ++ [some i])) n = rowN (upd (leftOf need t) i (leftOf need t i - 1)) n := by
  refine List.map_congr_left fun j _ => ?_
  show need j - ((t ++ [some i]).count (some j) : Nat) = if j = i then leftOf need t i - 1 else leftOf need t j
  rw [List.count_append, List.count_singleton]
  by_cases h : j = i
  · subst h; simp [leftOf]; omega
  · have h' : ¬ i = j := fun e => h e.symm
    simp [leftOf, h, h']
theorem hf_mem (l : List J) (f : J → Int) (k : Nat) (h : k < l.length) : at0 f l k = f l[k] := at0_eq _ _ h
set_option maxRecDepth 100000 in
set_option maxHeartbeats 16000000 in
theorem run_any (l : List J) (ticks : Int) (g : FuncId) (f : J → Int) (a : Option Addr) (cap : Nat) (w : World) (hT : Tabs w) (hs : ∀ j ∈ l, j.ok) (hr : JRow w a l) (hal : allB l = true) (ht : 0 ≤ ticks)
    (eg : ∀ args w, (callFunc g args).run Tryd.prog w = .ok (.enter g args) w) (hf : ∀ j ∈ l, 0 ≤ f j ∧ f j ≤ 1000000)
    (hg : ∀ j ∈ l, ∀ W, Ext w W → Calls Tryd.prog g #[j.agg] W fun e w' => e = .returned (.int .i64 (f j)) ∧ Ext W w') :
    Calls Tryd.prog 75 #[.slice a l.length cap, .int .i64 ticks, .func (.func g) #[] #[]] w (ISl (trI (edfT l (at0 f l) (min ticks 10000).toNat)) w) := by
  have mixed : Tryd.prog.follows .mixedOrders = true := by kernel_rfl
  obtain ⟨hlen, hgood⟩ := allB_all hal
  have HC := Lib.hid fun W (h : Ext w W) => all_any l a cap W (by unfold bigS; omega) (NameC.of (hT.ext h)) hs (hr.ext h)
  have HB := Lib.hid fun W (h : Ext w W) => byDeadline_any l a cap W (by omega) (hr.ext h)
  rw [hal] at HC
  obtain ⟨n, hn⟩ : ∃ n, l.length = n := ⟨_, rfl⟩
  have HO := Lib.hid (And.intro hr (And.intro hn (And.intro hf hg)))
  rw [hn] at hlen HC HB ⊢
  clear hT hs hr hal hgood hn hf hg
  have hmk := fun W => run_make1 rtInt rfl n (by omega) (by decide) W
  go_enter Tryd.func75, Tryd.ntmps75
  go_wp2_with (first
    | (go_at_call 17; go_must (with_reducible refine (HC.out _ (Ext.new _ _)).mono ?_); rintro e w1 ⟨rfl, h1⟩; obtain ⟨hc1, hf1⟩ := bcell h1; have z1 : w.heap.size < w1.heap.size := (by have := h1.size; simp at this; omega); have x1 := (Ext.new _ _).trans h1)
    | (go_at_call 27; go_must (with_reducible refine (HB.out _ x1).mono ?_); rintro e w2 ⟨ao, co, rfl, hi2, h2⟩; obtain ⟨hc2, hf2⟩ := bcell h2; have z2 : w.heap.size < w2.heap.size := Nat.lt_of_lt_of_le z1 h2.size))
  have hxz : Ext w ((w2.alloc (.cells (Array.replicate n (.int .i64 0)) 3)).alloc (.cells #[.slice (some ⟨w2.heap.size, 0, none⟩) n n] 39)) := (((x1.trans h2).alloc _).alloc _)
  have hcx : ((w2.alloc (.cells (Array.replicate n (.int .i64 0)) 3)).alloc (.cells #[.slice (some ⟨w2.heap.size, 0, none⟩) n n] 39)).cell? ⟨w.heap.size, 0, none⟩ = some (.slice a n cap) := by
    rw [(((Ext.new _ _).trans (Ext.new _ _)).cell z2), hc2 _ _ z1, hc1 _ _ (by simp)]
    simp
  have hcl : ((w2.alloc (.cells (Array.replicate n (.int .i64 0)) 3)).alloc (.cells #[.slice (some ⟨w2.heap.size, 0, none⟩) n n] 39)).cell? ⟨w2.heap.size + 1, 0, none⟩ = some (.slice (some ⟨w2.heap.size, 0, none⟩) n n) := by
    simp
  have hIA : IArr ((w2.alloc (.cells (Array.replicate n (.int .i64 0)) 3)).alloc (.cells #[.slice (some ⟨w2.heap.size, 0, none⟩) n n] 39)) w2.heap.size (rowN (fun i => if i < 0 then at0 f l i else 0) n) := by
    refine ⟨[], ?_⟩
    have e : (rowN (fun i => if i < 0 then at0 f l i else 0) n).map (Value.int .i64) ++ [] = (Array.replicate n (Value.int .i64 0)).toList := by
      rw [List.append_nil]
      apply List.ext_getElem (by simp)
      intro i h1 h2
      simp
    rw [e]
    exact alloc_old _ _ _ _ (by simp) (alloc_at _ _ _ rfl)
  have hir : ∀ i (hi : i < (nz (byDl l)).length), ∃ b o, ao = some ⟨b, o, none⟩ ∧ b < w2.heap.size ∧ ((w2.alloc (.cells (Array.replicate n (.int .i64 0)) 3)).alloc (.cells #[.slice (some ⟨w2.heap.size, 0, none⟩) n n] 39)).cell? ⟨b, o + i, none⟩ = some (.int .i64 (nz (byDl l))[i]) := fun i hi => by
    obtain ⟨b, o, e, hb, hc⟩ := hi2 i hi
    exact ⟨b, o, e, hb, (((Ext.new _ _).trans (Ext.new _ _)).cell hb).trans hc⟩
  have HIR := Lib.hid hir
  clear hir
  have hzs : w2.heap.size + 2 ≤ ((w2.alloc (.cells (Array.replicate n (.int .i64 0)) 3)).alloc (.cells #[.slice (some ⟨w2.heap.size, 0, none⟩) n n] 39)).heap.size := by simp
  generalize (w2.alloc (.cells (Array.replicate n (.int .i64 0)) 3)).alloc (.cells #[.slice (some ⟨w2.heap.size, 0, none⟩) n n] 39) = wz at *
  have HB2 : Hid (w.heap.size ≤ w2.heap.size) := (show w.heap.size ≤ w2.heap.size from Nat.le_of_lt z2)
  have hbx : w.heap.size < w2.heap.size := z2
  clear h1 hc1 hf1 x1 h2 hc2 hf2 hi2 z1 z2 HC HB
  have hir := HIR.out
  clear HIR
  generalize w2.heap.size = BL at *
  have HIR := Lib.hid hir
  clear hir
  have HW : Hid (∃ bx, w.heap.size = bx) := ⟨_, rfl⟩
  go_loopw [28] (fun v28 wr => ∃ k : Nat, k ≤ n ∧ v28 = .int .i64 k ∧ IArr wr BL (rowN (fun i => if i < k then at0 f l i else 0) n) ∧ Aside (Kp [BL] wz wr)) (fun v28 _ => n - (intOf v28).toNat)
  case atStart => exact ⟨0, Nat.zero_le _, by go_num, hIA, Kp.refl _ _⟩
  case round =>
    obtain ⟨k, hk, rfl, hI, HK⟩ := hrel
    by_cases hlt : k < n
    · have hkl : k < l.length := by rw [(HO.out).2.1]; exact hlt
      obtain ⟨b, off, rfl, hb, hJ⟩ := (HO.out).1.at hkl
      have hJk := hJ k hkl
      have hcell : ∀ o, wr.cell? ⟨b, o, none⟩ = w.cell? ⟨b, o, none⟩ := fun o =>
        ((HK.out).cell (hxz.lt hb) (by simp; omega)).trans (hxz.cell hb)
      have hJr : JCells wr b (off + k * 8) l[k] := ⟨(hcell _).trans hJk.c0, (hcell _).trans hJk.c1, (hcell _).trans hJk.c2, (hcell _).trans hJk.c3, (hcell _).trans hJk.c4, (hcell _).trans hJk.c5, (hcell _).trans hJk.c6, (hcell _).trans hJk.c7⟩
      have hclr : wr.cell? ⟨BL + 1, 0, none⟩ = some (.slice (some ⟨BL, 0, none⟩) n n) := ((HK.out).cell (by omega) (by simp)).trans hcl
      have hfk := hf_mem l f k hkl
      have hxw : Ext w wr := ((hxz.kp [BL]).trans HK.out).below (Nat.le_refl _) (by simpa using HB2.out)
      have HG : Hid (∀ W, Ext wr W → Calls Tryd.prog g #[l[k].agg] W fun e w' => e = .returned (.int .i64 (f l[k])) ∧ Ext W w') := Lib.hid fun W h => (HO.out).2.2.2 _ (List.getElem_mem hkl) W (hxw.trans h)
      clear hJ hJk hcell hxw
      have HF := Lib.hid hfk
      clear hfk
      generalize l[k] = j at *
      generalize f j = fj at *
      obtain ⟨nm, rel, dl, bud, act, val, cln, hard⟩ := j
      obtain ⟨c0, c1, c2, c3, c4, c5, c6, c7⟩ := hJr
      go_wp2_with fail
      have hI1 := hI.ext (Ext.new wr (.cells (J.cells ⟨nm, rel, dl, bud, act, val, cln, hard⟩).toArray 24))
      obtain ⟨d0, d1, d2, d3, d4, d5, d6, d7⟩ := jcells_new ⟨nm, rel, dl, bud, act, val, cln, hard⟩ wr 24
      simp only [Nat.zero_add] at d1 d2 d3 d4 d5 d6 d7
      have hcl1 := ((Ext.new wr (.cells (J.cells ⟨nm, rel, dl, bud, act, val, cln, hard⟩).toArray 24)).cell (b := BL + 1) (o := 0) (by have := (HK.out).size; omega)).trans hclr
      have hsz : (wr.alloc (.cells (J.cells ⟨nm, rel, dl, bud, act, val, cln, hard⟩).toArray 24)).heap.size = wr.heap.size + 1 := by simp
      have HK1 := Lib.hid ((HK.out).alloc (.cells (J.cells ⟨nm, rel, dl, bud, act, val, cln, hard⟩).toArray 24))
      have HX1 := Lib.hid (Ext.new wr (.cells (J.cells ⟨nm, rel, dl, bud, act, val, cln, hard⟩).toArray 24))
      generalize wr.alloc (.cells (J.cells ⟨nm, rel, dl, bud, act, val, cln, hard⟩).toArray 24) = wy at *
      have hkz : (k : Int) < (n : Int) := by omega
      have HBJ : Hid (wr.heap.size < wy.heap.size ∧ wr.heap.size ≠ BL ∧ BL + 1 < wy.heap.size) := ⟨by omega, by have := (HK.out).size; omega, by have := (HK.out).size; omega⟩
      have HI1 := Lib.hid hI1
      have hfr : ∀ W, Ext wy W → W.frozen? ⟨BL, k, none⟩ = false := fun W h => (hI1.ext h).frozen k
      obtain ⟨y, hy⟩ : ∃ y : Int, ∀ W, Ext wy W → W.cell? ⟨BL, k, none⟩ = some (.int .i64 y) := ⟨_, fun W h => (hI1.ext h).cell (i := k) (by simpa using hlt)⟩
      have HFR := Lib.hid (And.intro hfr hy)
      have HXr : Hid (Ext wr wy) := HX1
      clear c0 c1 c2 c3 c4 c5 c6 c7 hclr hcx hI1 hfr hy hsz hI
      go_region_held3 (fun W => Kp [BL] wy W ∧ W.cell? ⟨BL + 1, 0, none⟩ = some (.slice (some ⟨BL, 0, none⟩) n n) ∧ W.cell? ⟨wr.heap.size, 0, none⟩ = some (.string nm) ∧ W.cell? ⟨wr.heap.size, 1, none⟩ = some (.int .i64 rel) ∧ W.cell? ⟨wr.heap.size, 2, none⟩ = some (.int .i64 dl) ∧ W.cell? ⟨wr.heap.size, 3, none⟩ = some (.int .i64 bud) ∧ W.cell? ⟨wr.heap.size, 4, none⟩ = some (.int .i64 act) ∧ W.cell? ⟨wr.heap.size, 5, none⟩ = some (.int .i64 val) ∧ W.cell? ⟨wr.heap.size, 6, none⟩ = some (.int .i64 cln) ∧ W.cell? ⟨wr.heap.size, 7, none⟩ = some (.bool hard))
        (first
          | exact ⟨(Kp.refl _ _).drew, by assumption, by assumption, by assumption, by assumption, by assumption, by assumption, by assumption, by assumption, by assumption⟩
          | exact keepR HBJ.out (hE.kp [BL]) (by assumption)
          | exact keepR HBJ.out (Kp.setCell (Kp.refl _ _) (by simp) _) (by assumption)
          | exact keepR HBJ.out ((Kp.setCell (Kp.refl _ _) (by simp) _).drew) (by assumption))
        (((with_reducible refine (HG.out _ (by exact (HX1.out).drew)).mono ?_); rintro e w4 ⟨rfl, hE⟩; have hfz := (HFR.out).1 _ (((Ext.refl wy).drew).trans hE); have hcz := (HFR.out).2 _ (((Ext.refl wy).drew).trans hE)))
      have HI2 : Hid (IArr (w4.setCell ⟨BL, k, none⟩ (.int .i64 fj)) BL (rowN (fun i => if i < k + 1 then at0 f l i else 0) n)) := by
        have := (HI1.out.ext (((Ext.refl wy).drew).trans hE)).set (i := k) (by simpa using hlt) fj
        rw [rowN_set] at this
        have e := rowN_fill (at0 f l) n k
        rw [HF.out] at e
        rw [e] at this
        exact this
      have HK2 : Hid (Kp [BL] wz (w4.setCell ⟨BL, k, none⟩ (.int .i64 fj))) := (HK1.out).trans ((((Ext.refl wy).drew.trans hE).kp [BL]).setCell (by simp) _)
      clear hfz hcz d0 d1 d2 d3 d4 d5 d6 d7 hcl1 hE
      go_wp2_with fail
      go_roundw
      case rel => exact ⟨k + 1, by omega, by go_num, HI2.out, HK2.out⟩
      case measure => simp [intOf]; omega
    · obtain rfl : k = n := by omega
      have hI0 : IArr wr BL (rowN (leftOf (at0 f l) []) k) := by
        have e := rowN_full (at0 f l) k
        rwa [e] at hI
      have hcxr := ((HK.out).cell (b := w.heap.size) (o := 0) (by omega) (by simp; omega)).trans hcx
      have hclr := ((HK.out).cell (b := BL + 1) (o := 0) (by omega) (by simp)).trans hcl
      clear hI hcx hcl
      go_wp2_with fail
      obtain ⟨T, hTT⟩ : ∃ T : Nat, (T : Int) = min ticks 10000 := ⟨(min ticks 10000).toNat, by omega⟩
      have hT0 : T ≤ 10000 := by omega
      rw [← hTT, Int.toNat_natCast]
      have HE := Lib.hid hTT
      clear hTT ht
      obtain ⟨wo, hwo⟩ : ∃ wo : World, wo = wr := ⟨_, rfl⟩
      subst hwo
      have hxo : Ext w wo := ((hxz.kp [BL]).trans HK.out).below (Nat.le_refl _) (by simpa using HB2.out)
      have hio : ∀ i (hi : i < (nz (byDl l)).length), ∃ b o, ao = some ⟨b, o, none⟩ ∧ b < wo.heap.size ∧ b ≠ BL ∧ wo.cell? ⟨b, o + i, none⟩ = some (.int .i64 (nz (byDl l))[i]) := fun i hi => by
        obtain ⟨b, o, e, hb, hc⟩ := HIR.out i hi
        have hbz : b < wz.heap.size := by omega
        exact ⟨b, o, e, Nat.lt_of_lt_of_le hbz (HK.out).size, by omega, ((HK.out).cell hbz (by simp; omega)).trans hc⟩
      have hBo : BL + 1 < wo.heap.size := by have := (HK.out).size; omega
      have HXO := Lib.hid (And.intro hxo hio)
      clear hxo hio HK HIR hIA hxz
      go_loopw [11, 42] (fun v11 v42 wr => ∃ m : Nat, m ≤ T ∧ v42 = .int .i64 m ∧ wr.ownsRow wo.heap.size 3 1 v11 m ((trI (edfT l (at0 f l) m)).map (Value.int .i64)) ∧ IArr wr BL (rowN (leftOf (at0 f l) (edfT l (at0 f l) m)) k) ∧ Aside (Kp [BL] wo wr)) (fun _ v42 _ => T - (intOf v42).toNat)
      case atStart => exact ⟨0, Nat.zero_le _, by go_num, World.ownsRow_nil _ _ _ _, hI0, Kp.refl _ _⟩
      case round =>
        obtain ⟨m, hmT, rfl, hown, hI, HK⟩ := hrel
        by_cases hlt2 : m < T
        · have HT := Lib.hid (edfT_step l (at0 f l) m)
          have htl := edfT_length l (at0 f l) m
          have HTL := Lib.hid htl
          clear htl
          generalize edfT l (at0 f l) m = t at *
          have hix : Hid (Calls Tryd.prog 113 #[.slice ao k co, .func (.func 114) #[] #[.pointer (some ⟨w.heap.size, 0, none⟩), .pointer (some ⟨wr.heap.size, 0, none⟩), .pointer (some ⟨BL + 1, 0, none⟩)]] (wr.alloc (.cells #[.int .i64 m] 3)) fun e w' => e = .returned (.int .i64 (idxI ((byDl l).findIdx? (mayRun l (at0 f l) t)))) ∧ Ext (wr.alloc (.cells #[.int .i64 m] 3)) w') := by
            show Calls _ _ _ _ _
            have h0 := indexFuncI (nz (byDl l)) (fun x => mayRun l (at0 f l) t x.toNat) 114 #[.pointer (some ⟨w.heap.size, 0, none⟩), .pointer (some ⟨wr.heap.size, 0, none⟩), .pointer (some ⟨BL + 1, 0, none⟩)] ao co (wr.alloc (.cells #[.int .i64 m] 3)) (by rw [List.length_map, byDl_length, (HO.out).2.1]; unfold bigS; omega) (Go.Proofs.enters_of Tryd.func114 (by kernel_rfl) rfl) ?_ ?_
            · rw [idx_nz, List.length_map, byDl_length, (HO.out).2.1] at h0
              simpa using h0
            · intro x hx W hW
              obtain ⟨i, hi, rfl⟩ := List.mem_map.1 hx
              have hil : i < l.length := (byDl_mem l).1 hi
              have hik : i < k := by rw [← (HO.out).2.1]; exact hil
              obtain ⟨b, off, ha, hb, hJ⟩ := (HO.out).1.at hil
              subst ha
              have hwr : Ext w wr := (((HXO.out).1.kp [BL]).trans HK.out).below (Nat.le_refl _) (by simpa using HB2.out)
              have hwW : Ext w W := (hwr.trans (Ext.new _ _)).trans hW
              have hrW : Ext wr W := (Ext.new _ _).trans hW
              have hsz := (HK.out).size
              have e1 := hrW.cell (b := w.heap.size) (o := 0) (by omega)
              have e2 := hW.cell (b := wr.heap.size) (o := 0) (by simp)
              have e3 := hrW.cell (b := BL + 1) (o := 0) (by omega)
              have e4 := (hI.ext hrW).cell (i := i) (by simpa using hik)
              have := runPred_any k i l[i].rel (leftOf (at0 f l) t i) m w.heap.size wr.heap.size (BL + 1) b off cap BL k W hik (by omega)
                (e1.trans (((HK.out).cell (by omega) (by simp; omega)).trans hcxr)) (e2.trans (by simp)) (e3.trans (((HK.out).cell hBo (by simp)).trans hclr)) ((hwW.cell hb).trans (hJ i hil).c1) (e4.trans (by simp))
              refine Calls.mono this fun e w' ⟨he, hx⟩ => ⟨?_, hx⟩
              rw [he]
              unfold mayRun
              rw [Int.toNat_natCast, at0_eq _ _ hil, HTL.out]
              congr 3
              rw [decide_eq_decide]
              have : leftOf (at0 f l) t i = at0 f l i - (t.count (some i) : Int) := rfl
              omega
            · intro i hi
              obtain ⟨b, o, e, hb, hne, hc⟩ := (HXO.out).2 i hi
              have hbr : b < wr.heap.size := Nat.lt_of_lt_of_le hb (HK.out).size
              exact ⟨b, o, e, by simp; omega, ((Ext.new _ _).cell hbr).trans (((HK.out).cell hb (by simpa using hne)).trans hc)⟩
          rcases find_idx (mayRun l (at0 f l) t) (byDl l) with ⟨f1, f2⟩ | ⟨q, hq, f1, f2⟩
          · rw [f1, idxI_none] at hix
            have HP : Hid (pick l (mayRun l (at0 f l) t) = none) := f2
            clear f1 f2
            go_wp2_with (first
              | (go_at_call 113; go_must (with_reducible refine hix.out.mono ?_); rintro e w5 ⟨rfl, h5⟩)
              | (at_builtin; go_must (refine wpList_app1 rtInt wo.heap.size (own_ext hown ((Ext.new _ _).trans h5)) rfl (.tmp 50) (.tmp 51) rfl rfl [.int .i64 (-1)] _ rfl (by simp) rfl (by simp [Value.oneCell']) (by omega) (by decide) (by have := (HK.out).size; have := h5.size; simp at this; omega) _ ?_); intro v6 w6 hown6 hB6 hg6))
            go_roundw
            case rel =>
              refine ⟨m + 1, by omega, by go_num, ?_, ?_, ?_⟩
              · rw [HT.out, HP.out]; simpa [idxI] using hown6
              · rw [HT.out, HP.out, leftOf_none]
                exact (hI.ext ((Ext.new _ _).trans h5)).below hB6 (by omega)
              · exact ((HK.out).ext ((Ext.new _ _).trans h5)).below_trans hB6
            case measure => simp [intOf]; omega
          · rw [f1, idxI_some] at hix
            obtain ⟨i, hie⟩ : ∃ i, (byDl l)[q] = i := ⟨_, rfl⟩
            have hiB : i ∈ byDl l := hie ▸ List.getElem_mem hq
            have hil : i < l.length := (byDl_mem l).1 hiB
            have hik : i < k := by rw [← (HO.out).2.1]; exact hil
            have hqk : q < k := by have := byDl_length l; have := (HO.out).2.1; omega
            have HP : Hid (pick l (mayRun l (at0 f l) t) = some i) := by show pick _ _ = _; unfold pick; rw [f2, hie]
            have hqz : (q : Int) < (k : Int) := by omega
            have hiz : (i : Int) < (k : Int) := by omega
            have hq0 : decide ((q : Int) < 0) = false := decide_eq_false (by omega)
            obtain ⟨b, o, ha, hb, hne, hc⟩ := (HXO.out).2 q (by simpa using hq)
            subst ha
            have hbr : b < wr.heap.size := Nat.lt_of_lt_of_le hb (HK.out).size
            have HC := Lib.hid (((HK.out).cell hb (by simpa using hne)).trans hc)
            have HCL := Lib.hid (((HK.out).cell hBo (by simp)).trans hclr)
            have HIE := Lib.hid hie
            clear f1 f2 hc hcxr hclr hie hiB
            go_wp2_with (first
              | (go_at_call 113; go_must (with_reducible refine hix.out.mono ?_); rintro e w5 ⟨rfl, h5⟩))
            have hX5 : Ext wr w5 := (Ext.new _ _).trans h5
            have c1 := (hX5.cell hbr).trans HC.out
            have c2 := (hX5.cell (b := BL + 1) (o := 0) (by have := (HK.out).size; omega)).trans HCL.out
            have hI5 := hI.ext hX5
            have c3 := hI5.cell (i := i) (by simpa using hik)
            have c4 := hI5.frozen i
            simp only [List.getElem_map, List.getElem_range, HIE.out] at c1 c3
            have hlb : 0 < leftOf (at0 f l) t i := by
              have h1 := (pick_some HP.out).2.1
              unfold mayRun at h1
              simp only [Bool.and_eq_true, decide_eq_true_eq] at h1
              show 0 < at0 f l i - _
              omega
            have hub : leftOf (at0 f l) t i ≤ 1000000 := by
              have h1 := ((HO.out).2.2.1 _ (List.getElem_mem hil)).2
              rw [← at0_eq f l hil] at h1
              show at0 f l i - _ ≤ _
              omega
            obtain ⟨v, hv⟩ : ∃ v, leftOf (at0 f l) t i = v := ⟨_, rfl⟩
            rw [hv] at c3 hlb hub
            have HV := Lib.hid hv
            clear hv hI
            have HX5 := Lib.hid (And.intro hX5 hI5)
            clear hX5 hI5 h5 hix
            go_wp2_with fail
            go_region
            have hIy : IArr (w5.setCell ⟨BL, i, none⟩ (.int .i64 (v - 1))).drew BL (rowN (leftOf (at0 f l) (t ++ [some i])) k) := by
              have := (HX5.out).2.set (i := i) (by simpa using hik) (v - 1)
              rw [rowN_set, ← HV.out, ← leftOf_some] at this
              rw [← HV.out]
              exact this
            have hoy : (w5.setCell ⟨BL, i, none⟩ (.int .i64 (v - 1))).drew.ownsRow wo.heap.size 3 1 u11 m ((trI t).map (Value.int .i64)) := own_set (own_ext hown (HX5.out).1) (by omega) _
            have hKy : Kp [BL] wo (w5.setCell ⟨BL, i, none⟩ (.int .i64 (v - 1))).drew := (((HK.out).ext (HX5.out).1).setCell (by simp) _).drew
            have hcy : (w5.setCell ⟨BL, i, none⟩ (.int .i64 (v - 1))).drew.cell? ⟨b, o + q, none⟩ = some (.int .i64 i) := by
              have hlt5 : b < w5.heap.size := (HX5.out).1.lt hbr
              rw [(((Kp.refl [BL] w5).setCell (p := ⟨BL, i, none⟩) (by simp) (.int .i64 (v - 1))).drew).cell hlt5 (by simpa using hne)]
              exact c1
            clear c1 c2 c3 c4 hown
            generalize (w5.setCell ⟨BL, i, none⟩ (.int .i64 (v - 1))).drew = wy at *
            have HKy := Lib.hid hKy
            have hszy := hKy.size
            clear hKy
            go_wp2_with (at_builtin; go_must (refine wpList_app1 rtInt wo.heap.size hoy rfl (.tmp 62) (.tmp 67) rfl rfl [.int .i64 i] _ rfl (by simp) rfl (by simp [Value.oneCell']) (by omega) (by decide) (by omega) _ ?_); intro v6 w6 hown6 hB6 hg6)
            go_roundw
            case rel =>
              refine ⟨m + 1, by omega, by go_num, ?_, ?_, ?_⟩
              · rw [HT.out, HP.out]; simpa [idxI] using hown6
              · rw [HT.out, HP.out]
                exact hIy.below hB6 (by omega)
              · exact (HKy.out).below_trans hB6
            case measure => simp [intOf]; omega
        · obtain rfl : m = T := by omega
          go_wp2_with fail
          go_ret
          have hx : Ext w wr := (((HXO.out).1.kp [BL]).trans HK.out).below (Nat.le_refl _) (by simpa using HB2.out)
          refine ISl.mk (base := wo.heap.size) (e := 3) ?_ hx
          have hTm : (min ticks 10000).toNat = m := by rw [← HE.out]; rfl
          rw [List.length_map, edfT_length, hTm]
          exact hown
end Go.Proofs.YtnnmakkbnfckmaaDoor
