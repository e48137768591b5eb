/- Walks: job.ByDeadline: the places in the order of the deadlines. -/
import Derived.Test.YtnnmakkbnfckmaaDoorS7
import Derived.Test.YtnnmakkbnfckmaaDoorP5
import Derived.Test.YtnnmakkbnfckmaaDoorS9
import Derived.Test.YtnnmakkbnfckmaaDoorB1
import Derived.Test.YtnnmakkbnfckmaaDoorA6
namespace Go.Proofs.YtnnmakkbnfckmaaDoor
open Go.RowKit Go.Shelf Go.Sort Go.Lib

/-- A sort turns its own row alone. -/
theorem sw_kp {α : Type} [Inhabited α] {enc : α → Value} {w0 W : World} {blk off : Nat} {dk : Array α} (S : SW enc w0 blk off dk W) : Kp [blk] w0 W := by
  obtain ⟨n, os, rfl⟩ := S
  refine ⟨rfl, rfl, rfl, ?_, fun k hk hn => ?_⟩
  · unfold sortWorld; rw [size_grow, size_putRow]; exact Nat.le_add_right _ _
  · have hn : blk ≠ k := fun e => hn (by simp [e])
    show ((mapBlock (Sort.ahead w0 n) blk (putCells enc off dk)).heap ++ os)[k]? = _
    rw [Array.getElem?_append_left (by simpa [mapBlock] using hk)]
    simp [mapBlock, Array.getElem?_modify, hn]
theorem swk_kp {α : Type} [Inhabited α] {enc : α → List Value} {k : Nat} {w0 W : World} {blk off : Nat} {dk : Array α} (S : SWK enc k w0 blk off dk W) : Kp [blk] w0 W := by
  obtain ⟨n, os, rfl⟩ := S
  exact sw_kp (enc := id) (dk := flatK enc k dk) (off := off) ⟨n, os, rfl⟩

set_option maxRecDepth 100000 in
set_option maxHeartbeats 4000000 in
/-- What compares two places by their deadlines. -/
theorem cmpDl_any (l : List J) (box b off cap : Nat) (W : World) (i k : Nat) (hi : i < l.length) (hk : k < l.length) (hm : l.length ≤ 1000000) (hx : W.cell? ⟨box, 0, none⟩ = some (.slice (some ⟨b, off, none⟩) l.length cap))
    (hc1 : W.cell? ⟨b, off + i * 8 + 2, none⟩ = some (.int .i64 l[i].dl)) (hc2 : W.cell? ⟨b, off + k * 8 + 2, none⟩ = some (.int .i64 l[k].dl)) :
    Calls Tryd.prog 68 #[.int .i64 i, .int .i64 k, .pointer (some ⟨box, 0, none⟩)] W fun e w' => e = .returned (.int .i64 (Lib.compareInt l[i].dl l[k].dl)) ∧ ∃ q, w' = W.drewN q := by
  generalize l[i].dl = x at *
  generalize l[k].dl = y at *
  generalize l.length = n at *
  have mixed : Tryd.prog.follows .mixedOrders = true := by kernel_rfl
  have hi' : (i : Int) < (n : Int) := by omega
  have hk' : (k : Int) < (n : Int) := by omega
  go_enter Tryd.func68, Tryd.ntmps68
  go_wp2_with fail
  go_quiet (first | (go_at_call 69; exact Calls.quiet_of ((Tryd.cmp_Compare_int _ _ _).mono fun _ _ h => ⟨h.1, 0, h.2⟩)))
  go_wp2
  go_ret
  exact ⟨rfl, _, rfl⟩

/-- A row of places as a row of Fin's. -/
abbrev fv {n : Nat} (i : Fin n) : Int := (i.1 : Int)
theorem holds_of_iarr {N : Nat} {w : World} {B : Nat} {xs : List Int} (h : IArr w B xs) (d : Array (Fin (N + 1))) (hd : d.size = xs.length) (he : ∀ i (hi : i < xs.length), xs[i] = fv d[i]!) : Holds (encI fv) w B 0 d := fun j hj => by
  have hj' : j < xs.length := by omega
  refine ⟨?_, ?_⟩
  · rw [Nat.zero_add, h.cell hj', he j hj']
  · rw [Nat.zero_add]; exact h.frozen j
theorem irow_of_holds {α : Type} [Inhabited α] {iv : α → Int} {w : World} {B : Nat} {d : Array α} (h : Holds (encI iv) w B 0 d) (hB : B < w.heap.size) : IRow w (some ⟨B, 0, none⟩) (d.toList.map iv) := fun i hi => by
  have hi' : i < d.size := by simpa using hi
  refine ⟨B, 0, rfl, hB, ?_⟩
  have := (h i hi').1
  rw [this]
  simp [encI, getElem!_pos, hi']
theorem finRange_map (n : Nat) : (List.finRange n).map (fun i => i.1) = List.range n := by
  apply List.ext_getElem (by simp)
  intro i h1 h2
  simp

theorem cmpDl_reads {N : Nat} (l : List J) (hl : l.length = N + 1) (hm : l.length ≤ 1000000) (a : Option Addr) (cap : Nat) (w wr : World) (hr : JRow w a l) (B size : Nat) (hB : B = w.heap.size + 1) (hk : Kp [B] (w.alloc (.cells #[.slice a l.length cap] 22)) wr) :
    CmpReads Tryd.prog 68 #[.pointer (some ⟨w.heap.size, 0, none⟩)] (encI fv) (fun x y : Fin (N + 1) => Lib.compareInt (at0 J.dl l x.1) (at0 J.dl l y.1)) B 0 size wr := fun m os dk hs x y => by
  subst hB
  have hx : x.1 < l.length := by rw [hl]; exact x.2
  have hy : y.1 < l.length := by rw [hl]; exact y.2
  obtain ⟨b, off, rfl, hb, hc⟩ := hr.at hx
  have hK : Kp [w.heap.size + 1] (w.alloc (.cells #[.slice (some ⟨b, off, none⟩) l.length cap] 22)) (sortWorld (encI fv) wr (w.heap.size + 1) 0 m dk os) := hk.trans (sw_kp ⟨m, os, rfl⟩)
  have hcl : ∀ o, (sortWorld (encI fv) wr (w.heap.size + 1) 0 m dk os).cell? ⟨b, o, none⟩ = w.cell? ⟨b, o, none⟩ := fun o =>
    (hK.cell (by simp; omega) (by simp; omega)).trans ((Ext.new w _).cell hb)
  have hbx : (sortWorld (encI fv) wr (w.heap.size + 1) 0 m dk os).cell? ⟨w.heap.size, 0, none⟩ = some (.slice (some ⟨b, off, none⟩) l.length cap) :=
    (hK.cell (by simp) (by simp)).trans (by simp)
  have := cmpDl_any l w.heap.size b off cap _ x.1 y.1 hx hy hm hbx ((hcl _).trans (hc _ hx).c2) ((hcl _).trans (hc _ hy).c2)
  rw [← at0_eq J.dl l hx, ← at0_eq J.dl l hy] at this
  exact this

set_option maxRecDepth 100000 in
set_option maxHeartbeats 4000000 in
theorem byDeadline_any (l : List J) (a : Option Addr) (cap : Nat) (w : World) (hm : l.length ≤ 1000000) (hr : JRow w a l) :
    Calls Tryd.prog 27 #[.slice a l.length cap] w fun e w' => ∃ a' cap', e = .returned (.slice a' l.length cap') ∧ IRow w' a' (nz (byDl l)) ∧ Ext w w' := by
  have mixed : Tryd.prog.follows .mixedOrders = true := by kernel_rfl
  obtain ⟨n, hn⟩ : ∃ n, l.length = n := ⟨_, rfl⟩
  rw [hn] at hm ⊢
  have HL : Hid (l.length = n ∧ JRow w a l) := ⟨hn, hr⟩
  clear hn hr
  have hmk := fun W => run_make1 rtInt rfl n hm (by decide) W
  go_enter Tryd.func27, Tryd.ntmps27
  go_wp2_with fail
  go_loopw [4, 10] (fun v4 v10 wr => ∃ (k : Nat) (xs : List Int), v10 = .int .i64 k ∧ k ≤ n ∧ xs.length = n ∧ IArr wr (w.heap.size + 1) xs ∧ Hid (∀ i (hi : i < xs.length), i < k → xs[i] = (i : Int)) ∧ Aside (Kp [w.heap.size + 1] (w.alloc (.cells #[.slice a n cap] 22)) wr)) (fun _ v10 _ => n - (intOf v10).toNat)
  case atStart =>
    refine ⟨0, List.replicate n 0, rfl, by omega, by simp, ⟨[], ?_⟩, (show ∀ i (hi : i < _), i < 0 → _ from fun i _ h => absurd h (Nat.not_lt_zero _)), (show Kp _ _ _ from (Kp.refl _ _).alloc _)⟩
    rw [List.append_nil, List.map_replicate]
    rw [List.toArray_replicate]
    exact alloc_at _ _ _ (by simp)
  case round =>
    obtain ⟨k, xs, rfl, hk, hxs, hI, HF, HK⟩ := hrel
    by_cases hlt : k < n
    · have hkx : k < xs.length := by omega
      have c0 := hI.cell hkx
      have f0 := hI.frozen k
      have hltz : (k : Int) < (n : Int) := by omega
      have S2 : Aside (IArr (wr.setCell ⟨w.heap.size + 1, k, none⟩ (.int .i64 k)) (w.heap.size + 1) (xs.set k k)) := hI.set hkx k
      generalize xs[k] = y at c0
      clear hI
      go_wp2_with fail
      go_roundw
      case rel =>
        refine ⟨k + 1, xs.set k k, by go_num, by omega, by simpa using hxs, S2.out, ?_, ?_⟩
        · show ∀ i (hi : i < _), i < k + 1 → _
          intro i hi hik
          by_cases e : i = k
          · subst e; simp
          · rw [List.getElem_set_ne (by omega)]; exact HF.out i (by simpa using hi) (by omega)
        · exact (HK.out).setCell (by simp) _
      case measure => simp [intOf]; omega
    · have hkn : k = n := by omega
      subst hkn
      have hltz : ¬ (k : Int) < (k : Int) := by omega
      clear hlt
      by_cases hn0 : k = 0
      · subst hn0
        have hc := sortNoneI (some ⟨w.heap.size + 1, 0, none⟩) 0 (.func (.func 68) #[] #[.pointer (some ⟨w.heap.size, 0, none⟩)]) wr
        go_wp2_with (go_at_call 67; with_reducible refine hc.mono ?_; rintro e1 w1 ⟨rfl, rfl⟩)
        go_ret
        refine ⟨_, _, rfl, ?_, ?_⟩
        · have : byDl l = [] := List.length_eq_zero_iff.1 (by rw [byDl_length]; exact HL.out.1)
          rw [this]; exact ERow.nil _ _ _
        · exact ((Ext.new w _).kp [w.heap.size + 1]).trans HK.out |>.below (Nat.le_refl _) (by simp)
      · obtain ⟨N, rfl⟩ : ∃ N, k = N + 1 := ⟨k - 1, by omega⟩
        have eg := Go.Proofs.enters_of Tryd.func68 (by kernel_rfl) rfl
        have hH : SortI fv 68 #[.pointer (some ⟨w.heap.size, 0, none⟩)] (fun x : Fin (N + 1) => at0 J.dl l x.1) (List.finRange (N + 1)).toArray wr (w.heap.size + 1) 0 := by
          refine ⟨eg, ⟨fun _ => rfl, holds_of_iarr hI _ (by simpa using hxs.symm) fun i hi => ?_, hI.lt⟩, ?_, by simp; omega⟩
          · rw [HF.out i hi (by omega)]
            have : i < N + 1 := by omega
            simp [fv, getElem!_pos, this]
          · have h1 := HL.out.1
            have h2 := HK.out
            rw [← h1] at h2
            exact (cmpDl_reads l h1 (by omega) a cap w wr HL.out.2 _ _ rfl h2).lays
        have hc := sortStableI hH (N + 1) (by simp; omega)
        have hsz : (List.finRange (N + 1)).toArray.size = N + 1 := by simp
        rw [hsz] at hc
        go_wp2_with (go_at_call 67; with_reducible refine hc.mono ?_; rintro e1 w1 ⟨rfl, d', h1, h2⟩)
        go_ret
        have hd : d'.size = N + 1 := by
          have := congrArg List.length h1
          rw [(sortK_perm _ _).length_eq] at this
          simpa using this
        refine ⟨_, _, rfl, ?_, ?_⟩
        · have hh := h2.holds hI.lt hH.R.hH (by simpa using hd)
          have := irow_of_holds hh (Nat.lt_of_lt_of_le hI.lt (sw_kp h2).size)
          rw [h1] at this
          have e : nz (byDl l) = (sortK (fun x : Fin (N + 1) => at0 J.dl l x.1) (List.finRange (N + 1))).map fv := by
            unfold byDl
            rw [HL.out.1, ← finRange_map, sortK_map]
            show List.map _ (List.map _ _) = _
            rw [List.map_map]
            rfl
          rw [e]
          simpa using this
        · exact (((Ext.new w _).kp [w.heap.size + 1]).trans (Kp.trans HK.out (sw_kp h2))).below (Nat.le_refl _) (by simp)
end Go.Proofs.YtnnmakkbnfckmaaDoor
