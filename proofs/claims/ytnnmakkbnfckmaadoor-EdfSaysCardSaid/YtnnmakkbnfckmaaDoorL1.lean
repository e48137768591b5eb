/- Walks: chapter 10's copy of what is left, what compares two of it, the sort, edf.Slack, edf.Fits. -/
import Derived.Test.YtnnmakkbnfckmaaDoorL0
import Derived.Shelf.SlSortCmp.Insertion1
-- import S9
import Derived.Test.YtnnmakkbnfckmaaDoorB1
import Derived.Test.YtnnmakkbnfckmaaDoorP5
namespace Go.Proofs.YtnnmakkbnfckmaaDoor
open Go.RowKit Go.Shelf Go.Sort Go.Lib

theorem rtLeft : RowT Tryd.prog 44 56 2 16 (.agg #[.int .i64 0, .int .i64 0]) := .of Tryd.underlying44 (by kernel_rfl) rfl (by decide)
/-- Pairs as what is appended. -/
theorem src_prow {w : World} {a : Option Addr} {l : List (Int × Int)} (h : PRow w a l) {ad : Addr} (ha : a = some ad) (c : Nat) : SrcR w 2 (.slice (some ad) l.length c) l.length (l.flatMap pairC) := by
  refine ⟨flat_length pairC 2 (fun _ => rfl) l, .inl ⟨_, c, rfl, fun j u hu => ?_⟩⟩
  have hj : j < l.length * 2 := by
    have := (List.getElem?_eq_some_iff.1 hu).1
    rwa [flat_length pairC 2 (fun _ => rfl) l] at this
  have hi : j / 2 < l.length := by omega
  obtain ⟨b, off, e, _, c0, c1⟩ := h (j / 2) hi
  rw [ha] at e
  obtain rfl : ad = ⟨b, off, none⟩ := Option.some.inj e
  have hg := flat_get pairC 2 (fun _ => rfl) l (j / 2) hi (j % 2) (by omega)
  rw [show j / 2 * 2 + j % 2 = j by omega, hu] at hg
  rw [addr_add]
  rcases (by omega : j % 2 = 0 ∨ j % 2 = 1) with e | e
  · rw [e] at hg
    rw [show off + j = off + j / 2 * 2 by omega, c0]
    simpa using hg.symm
  · rw [e] at hg
    rw [show off + j = off + j / 2 * 2 + 1 by omega, c1]
    simpa using hg.symm
theorem own_parr {w : World} {base : Nat} {v : Value} {l : List (Int × Int)} (h : w.ownsRow base 56 2 v l.length (l.flatMap pairC)) (hl : 0 < l.length) : ∃ g cap, v = .slice (some ⟨g, 0, none⟩) l.length cap ∧ PArr 56 w g l ∧ base ≤ g := by
  rcases h.2 with ⟨_, h0⟩ | ⟨g, cap, cur, rfl, hb, hg, hnc, hcm, hs, ht⟩
  · omega
  · refine ⟨g, cap, rfl, ⟨cur.toList.drop (l.length * 2), ?_⟩, hb⟩
    rw [hg, ← ht, List.take_append_drop]
theorem one_pairs (l : List (Int × Int)) : ∀ u ∈ l.flatMap pairC, u.oneCell' = true := fun u hu => by
  obtain ⟨x, _, hx⟩ := List.mem_flatMap.1 hu
  simp only [List.mem_cons, List.not_mem_nil, or_false] at hx
  rcases hx with rfl | rfl <;> rfl

theorem eql_slice_nil {P : Program} (t e : TypeId) (a : Addr) (n c : Nat) (h : P.underlying t = some (.slice e)) (w : World) : (binOp .eql t (.slice (some a) n c) (.slice none 0 0)).run P w = .ok (.bool false) w := by
  simp only [binOp]
  simp [Op.equal, Op.maxDepth, Lib.run_equalIn_slice_nil w 9999 t e (some a) n c 0 0 h]
set_option maxRecDepth 100000 in
set_option maxHeartbeats 2000000 in
theorem cloneL_any (l : List (Int × Int)) (a : Option Addr) (cap : Nat) (w : World) (h0 : 0 < l.length) (hm : l.length ≤ 1000) (hr : PRow w a l) :
    Calls Tryd.prog 71 #[.slice a l.length cap] w fun e w' => ∃ g cap', e = .returned (.slice (some ⟨g, 0, none⟩) l.length cap') ∧ PArr 56 w' g l ∧ w.heap.size ≤ g ∧ Ext w w' := by
  obtain ⟨b, off, rfl, hb⟩ : ∃ b off, a = some ⟨b, off, none⟩ ∧ b < w.heap.size := let ⟨b, off, e, hb, _⟩ := hr 0 h0; ⟨b, off, e, hb⟩
  have HR := Lib.hid hr
  have H0 := Lib.hid h0
  clear hr h0
  have heq := eql_slice_nil (P := Tryd.prog) 44 56 ⟨b, off, none⟩ l.length cap Tryd.underlying44
  go_enter Tryd.func71, Tryd.ntmps71
  go_wp2_with (at_builtin; go_must (refine wpList_appX rtLeft rfl _ _ rfl w.heap.size (v := .slice (some ⟨w.heap.size, 0, none⟩) 0 0) (n := 0) (xs := []) rfl (own_empty (by decide) (alloc_at _ _ _ rfl) (Nat.le_refl _)) rfl (src_prow (HR.out.ext (Ext.new _ _)) rfl cap) (one_pairs l) (by omega) (by decide) (by simp) ?_); intro v1 w1 hown1 hb1 hg1)
  go_ret
  rw [Nat.zero_add, List.nil_append] at hown1
  obtain ⟨g, cap', rfl, hp, hg⟩ := own_parr hown1 H0.out
  exact ⟨g, cap', rfl, hp, hg, Below.trans (Ext.new _ _) hb1⟩

theorem grow_two (W : World) (A B : Obj) : (W.alloc A).alloc B = grow (W.drewN 0) #[A, B] := by
  have h1 : (W.heap.push A).push B = W.heap ++ #[A, B] := by
    apply Array.toList_inj.1; simp
  show ({ ({ W with heap := W.heap.push A } : World) with heap := (W.heap.push A).push B } : World) = _
  rw [h1]; rfl
set_option maxRecDepth 100000 in
set_option maxHeartbeats 2000000 in
theorem slackCmp_any (x y : Int × Int) (W : World) : Calls Tryd.prog 73 #[lagg x, lagg y] W fun e w' => e = .returned (.int .i64 (Lib.compareInt x.1 y.1)) ∧ ∃ q os, w' = grow (W.drewN q) os := by
  go_enter Tryd.func73, Tryd.ntmps73
  go_wp2_with (go_at_call 69; (with_reducible refine (Tryd.cmp_Compare_int _ _ _).mono ?_); rintro e w1 ⟨rfl, rfl⟩)
  go_ret
  exact ⟨rfl, 0, #[_, _], grow_two _ _ _⟩
end Go.Proofs.YtnnmakkbnfckmaaDoor
