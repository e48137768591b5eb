/- Walks: the law's needs as the document's own. -/
import Derived.Test.YtnnmakkbnfckmaaDoorL2
namespace Go.Proofs.YtnnmakkbnfckmaaDoor
open Go.RowKit

/-! ### The law's needs as the document's own -/
theorem rtRefLeft : RowT Tryd.prog 48 92 2 16 (.agg #[.int .i64 0, .int .i64 0]) := .of Tryd.underlying48 (by kernel_rfl) rfl (by decide)
theorem keep2 {wz W W' : World} {b o : Nat} {x y : Int} (hb : b < wz.heap.size) (hE : Ext W W') (h : Ext wz W ∧ W.cell? ⟨b, o, none⟩ = some (.int .i64 x) ∧ W.cell? ⟨b, o + 1, none⟩ = some (.int .i64 y)) : Ext wz W' ∧ W'.cell? ⟨b, o, none⟩ = some (.int .i64 x) ∧ W'.cell? ⟨b, o + 1, none⟩ = some (.int .i64 y) := by
  have hq := h.1.lt hb
  exact ⟨h.1.trans hE, (hE.cell hq).trans h.2.1, (hE.cell hq).trans h.2.2⟩
theorem sj2 {wz W : World} {b o : Nat} {x y : Int} (h : Ext wz W ∧ W.cell? ⟨b, o, none⟩ = some (.int .i64 x) ∧ W.cell? ⟨b, o + 1, none⟩ = some (.int .i64 y)) : Ext wz W := h.1
theorem keepB {w W W' : World} {b o : Nat} {x y : Int} (hb : b < w.heap.size) (hE : Below w.heap.size W W') (h : Ext w W ∧ W.cell? ⟨b, o, none⟩ = some (.int .i64 x) ∧ W.cell? ⟨b, o + 1, none⟩ = some (.int .i64 y)) : Ext w W' ∧ W'.cell? ⟨b, o, none⟩ = some (.int .i64 x) ∧ W'.cell? ⟨b, o + 1, none⟩ = some (.int .i64 y) :=
  ⟨Below.trans h.1 hE, (hE.cell (p := ⟨b, o, none⟩) hb).trans h.2.1, (hE.cell (p := ⟨b, o + 1, none⟩) hb).trans h.2.2⟩
set_option maxRecDepth 100000 in
set_option maxHeartbeats 4000000 in
theorem lefts_any (l : List (Int × Int)) (a : Option Addr) (cap : Nat) (w : World) (hm : l.length ≤ 1000) (hr : PRow w a l) :
    Calls Tryd.prog 34 #[.slice a l.length cap] w fun e w' => ∃ a' cap', e = .returned (.slice a' l.length cap') ∧ PRow w' a' l ∧ Ext w w' := by
  go_enter Tryd.func34, Tryd.ntmps34
  go_wp2
  go_loopw [3, 4] (fun v3 v4 wr => ∃ k : Nat, k ≤ l.length ∧ v4 = .int .i64 k ∧ wr.ownsRow w.heap.size 92 2 v3 k ((l.take k).flatMap pairC) ∧ Ext w wr) (fun _ v4 _ => l.length - (intOf v4).toNat)
  case atStart => exact ⟨0, Nat.zero_le _, rfl, World.ownsRow_nil _ _ _ _, Ext.refl _⟩
  case round =>
    obtain ⟨k, hk, rfl, hown, hx⟩ := hrel
    by_cases hlt : k < l.length
    · obtain ⟨b, off, rfl, hb, c0, c1⟩ := hr k hlt
      rw [← hx.cell hb] at c0 c1
      have HT := Lib.hid (take_snoc l k hlt)
      have HX := Lib.hid hx
      have HB := Lib.hid hb
      have HP := Lib.hid (show pairC l[k] = [.int .i64 l[k].1, .int .i64 l[k].2] from rfl)
      clear hr hx hb
      generalize l[k].1 = x at *
      generalize l[k].2 = y at *
      go_wp2_with fail
      go_region_held3 (fun W => Ext w W ∧ W.cell? ⟨b, off + k * 2, none⟩ = some (.int .i64 x) ∧ W.cell? ⟨b, off + k * 2 + 1, none⟩ = some (.int .i64 y))
        (first | exact keep2 HB.out (Ext.new _ _) (by assumption) | exact keep2 HB.out ((Ext.new _ _).drew) (by assumption) | exact keep2 HB.out ((Ext.refl _).drew) (by assumption) | exact ⟨(HX.out).drew, by assumption, by assumption⟩ | exact keepB HB.out hb1 (by assumption))
        ((refine step_appX rtRefLeft (by rfl) _ _ (by rfl) w.heap.size (v := u3) (n := k) (by rfl) (by exact hown.alloc _) (m := 1) (news := [.int .i64 x, .int .i64 y]) (by rfl) (src_lone rfl (by exact alloc_at _ _ _ (by simp))) (by simp [Value.oneCell']) (by omega) (by decide) (by exact (sj2 (by assumption)).size) ?_; intro v1 w1 hown1 hb1 hg1))
      go_wp2_with fail
      go_roundw
      case rel => exact ⟨k + 1, hlt, by go_num, by rw [HT.out, List.flatMap_append]; simpa [HP.out] using hown1, sj2 (by assumption)⟩
      case measure => simp [intOf]; omega
    · obtain rfl : k = l.length := by omega
      rw [List.take_length] at hown
      go_wp2
      go_ret
      obtain ⟨a', cap', rfl, hp⟩ := own_prow hown
      exact ⟨a', cap', rfl, hp, hx⟩
end Go.Proofs.YtnnmakkbnfckmaaDoor
