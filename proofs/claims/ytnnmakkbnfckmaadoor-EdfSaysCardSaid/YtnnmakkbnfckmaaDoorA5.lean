/- Walks: names: name.digit, name.Good, the reference's Len, GoodName. -/
import Derived.Test.YtnnmakkbnfckmaaDoorA4
import Derived.Test.YtnnmakkbnfckmaaDoorShl
import Derived.Lib.OthersKept
namespace Go.Proofs.YtnnmakkbnfckmaaDoor
open Go.RowKit

/-- Go's own tables, as the rows list them. -/
def Tabs (w : World) : Prop := Lib.Utf8Tabs 2 3 w ∧ Lib.TabIs Tryd.prog w "unicode.properties" .u8 Lib.propertiesTab ∧ Lib.RVar 1 Lib.letterT w
theorem Tabs.u8 {w : World} (h : Tabs w) : Lib.Utf8Tabs 2 3 w := h.1
theorem Tabs.ext {w w' : World} (h : Tabs w) (hx : Ext w w') : Tabs w' :=
  ⟨Utf8Tabs_below h.1 hx, TabIs_below (g := 0) (by kernel_rfl) h.2.1 hx, RVar_below h.2.2 hx⟩

theorem Ext.iterAt {w wr : World} (h : Ext w wr) {k : Nat} (hk : w.heap.size ≤ k) (s : ByteArray) (p : Nat) : Ext w (wr.iterAt k s p) :=
  Below.trans h ⟨rfl, rfl, rfl, by simp [World.iterAt], fun i hi => by simp only [World.iterAt]; rw [Array.getElem?_setIfInBounds_ne (by omega)]⟩
theorem iter_ext {w w' : World} (h : Ext w w') {k : Nat} {s : ByteArray} {p : Nat} (hk : w.heap[k]? = some (.stringIter s p)) : w'.heap[k]? = some (.stringIter s p) := by
  rw [h.block k (Array.getElem?_eq_some_iff.1 hk).1]; exact hk
theorem width_pos (s : ByteArray) (pos : Nat) : 1 ≤ (Utf8.decode s pos).2 := by
  simp only [Utf8.decode]
  repeat' split
  all_goals simp

theorem lenGo_le (s : ByteArray) : ∀ (f pos : Nat), s.size - pos < f → lenGo s f pos ≤ s.size - pos := by
  intro f
  induction f with
  | zero => intro pos h; omega
  | succ f ih =>
    intro pos h
    simp only [lenGo]
    split
    · have hw := width_pos s pos
      have := ih (pos + (Utf8.decode s pos).2) (by omega)
      omega
    · omega
theorem lenR_le {s : ByteArray} {B : Nat} (h : s.size ≤ B) : lenR s ≤ B := by
  have := lenGo_le s (s.size + 1) 0 (by omega)
  unfold lenR; omega
set_option maxRecDepth 100000 in
theorem letter_65533 : Lib.isLetterU 65533 = false := by decide +kernel
theorem letter_any (r : Int) (w : World) (hT : Tabs w) (hlo : 0 ≤ r) (hhi : r ≤ 2147483647) :
    Calls Tryd.prog 102 #[.int .i32 r] w fun e w' => e = .returned (.bool (Lib.isLetterU r)) ∧ Ext w w' :=
  Tryd.unicode_IsLetter_all r w (by omega) hhi hT.2.1 hT.2.2

theorem digit_any (r : Int) (w : World) : Calls Tryd.prog 103 #[.int .i32 r] w fun e w' => e = .returned (.bool (digitB r)) ∧ w = w' := by
  unfold digitB
  by_cases h1 : 48 ≤ r
  · go_enter Tryd.func103, Tryd.ntmps103
    go_wp2
    go_ret
    exact ⟨by simp [h1], rfl⟩
  · go_enter Tryd.func103, Tryd.ntmps103
    go_wp2
    go_ret
    exact ⟨by simp; omega, rfl⟩

set_option maxRecDepth 100000 in
set_option maxHeartbeats 4000000 in
theorem name_good (s : ByteArray) (w : World) (hs : s.size ≤ bigS) (hT : Tabs w) :
    Calls Tryd.prog 63 #[.string s] w fun e w' => e = .returned (.bool (goodName s)) ∧ Ext w w' := by
  unfold bigS at hs
  obtain ⟨ANS, hA⟩ : ∃ ANS, goodName s = ANS := ⟨_, rfl⟩
  rw [hA]
  unfold goodName at hA
  have HA := Lib.hid hA
  clear hA
  go_enter Tryd.func63, Tryd.ntmps63
  go_wp2
  go_loopg [3] (s.size + 1) (fun gk v3 wr => ∃ pos n : Nat, v3 = .int .i64 n ∧ nameGo s gk pos n = ANS ∧ s.size - pos < gk ∧ n ≤ pos ∧ wr.heap[w.heap.size]? = some (.stringIter s pos) ∧ Ext w wr)
  case atStart => exact ⟨0, 0, rfl, HA.out, by omega, Nat.le_refl _, World.iter_heap _ _ _, Ext.new _ _⟩
  case round =>
    obtain ⟨pos, n, rfl, hgo, hgk, hn, hit, hx⟩ := hrel
    obtain ⟨f, rfl⟩ : ∃ f, gk = f + 1 := ⟨gk - 1, by omega⟩
    simp only [nameGo] at hgo
    by_cases hlt : pos < s.size
    · rw [if_pos hlt] at hgo
      have hnx := fun ty => Lib.run_next_any_at (P := Tryd.prog) wr w.heap.size s pos ty hit hlt
      have hwd := width_pos s pos
      have hle := decode_le s pos
      have hit2 := Lib.iterAt_heap wr w.heap.size s pos (pos + (Utf8.decode s pos).2) hit
      have hx2 := hx.iterAt (Nat.le_refl _) s (pos + (Utf8.decode s pos).2)
      generalize Utf8.decode s pos = d at *
      obtain ⟨c, wd⟩ := d
      simp only at hnx hwd hle hgo hit2 hx2
      have HG := Lib.hid hgo
      have HI := Lib.hid hit2
      clear hgo hit hx HA hit2
      generalize wr.iterAt w.heap.size s (pos + wd) = w2 at *
      go_wp2_with (first
        | (go_at_call 102; go_must (with_reducible refine (letter_any _ _ (hT.ext hx2) (by omega) (by omega)).mono ?_); rintro e w3 ⟨rfl, hb⟩; have HB := Lib.hid hb; clear hb)
        | (go_at_call 103; go_must (with_reducible refine (digit_any _ _).mono ?_); rintro e w4 ⟨rfl, rfl⟩))
      all_goals first
        | (go_roundg f
           case measure => omega
           case rel => exact ⟨pos + wd, n + 1, by go_num, by have hg := HG.out; rw [if_neg (by unfold badRune; simp_all)] at hg; exact hg, by omega, by omega, iter_ext HB.out HI.out, hx2.trans HB.out⟩)
        | (go_ret; exact ⟨by have hg := HG.out; rw [if_pos (by unfold badRune; simp_all)] at hg; rw [← hg]; rfl, hx2.trans HB.out⟩)
    · rw [if_neg hlt] at hgo
      have hnx := fun ty => Lib.run_next_end_at (P := Tryd.prog) wr w.heap.size s pos ty hit hlt
      have HG := Lib.hid hgo
      clear hgo hit HA
      go_wp2_with (go_at_call 104; go_must (with_reducible refine (Tryd.utf8_ValidString s _ hs (hT.ext hx).u8).mono ?_); rintro e w3 ⟨rfl, hb⟩; have HB := Lib.hid hb; clear hb)
      · go_ret
        exact ⟨by rw [← HG.out]; have h1 : 1 ≤ n := by omega
                  have h2 : n ≤ 20 := by omega
                  simp [h1, h2], hx.trans HB.out⟩
      · go_ret
        exact ⟨by rw [← HG.out]; have h2 : ¬ n ≤ 20 := by omega
                  simp [h2], hx⟩
      · go_ret
        exact ⟨by rw [← HG.out]; have h2 : ¬ 1 ≤ n := by omega
                  simp [h2], hx⟩

theorem NameC.of {w : World} (hT : Tabs w) : NameC w := fun s W hs hx => name_good s W hs (hT.ext hx)

set_option maxRecDepth 100000 in
set_option maxHeartbeats 4000000 in
theorem len_any (s : ByteArray) (w : World) (hs : s.size ≤ bigS) :
    Calls Tryd.prog 105 #[.string s] w fun e w' => e = .returned (.int .i64 (lenR s)) ∧ Ext w w' := by
  unfold bigS at hs
  obtain ⟨ANS, hA⟩ : ∃ ANS, lenR s = ANS := ⟨_, rfl⟩
  rw [hA]
  unfold lenR at hA
  have HA := Lib.hid hA
  clear hA
  go_enter Tryd.func105, Tryd.ntmps105
  go_wp2
  go_loopg [3] (s.size + 1) (fun gk v3 wr => ∃ pos n : Nat, v3 = .int .i64 n ∧ lenGo s gk pos + n = ANS ∧ s.size - pos < gk ∧ n ≤ pos ∧ wr.heap[w.heap.size]? = some (.stringIter s pos) ∧ Ext w wr)
  case atStart => exact ⟨0, 0, rfl, HA.out, by omega, Nat.le_refl _, World.iter_heap _ _ _, Ext.new _ _⟩
  case round =>
    obtain ⟨pos, n, rfl, hgo, hgk, hn, hit, hx⟩ := hrel
    obtain ⟨f, rfl⟩ : ∃ f, gk = f + 1 := ⟨gk - 1, by omega⟩
    simp only [lenGo] at hgo
    by_cases hlt : pos < s.size
    · rw [if_pos hlt] at hgo
      have hnx := fun ty => Lib.run_next_any_at (P := Tryd.prog) wr w.heap.size s pos ty hit hlt
      have hwd := width_pos s pos
      have hit2 := Lib.iterAt_heap wr w.heap.size s pos (pos + (Utf8.decode s pos).2) hit
      have hx2 := hx.iterAt (Nat.le_refl _) s (pos + (Utf8.decode s pos).2)
      generalize Utf8.decode s pos = d at *
      obtain ⟨c, wd⟩ := d
      simp only at hnx hwd hgo hit2 hx2
      have HG := Lib.hid hgo
      have HI := Lib.hid hit2
      clear hgo hit hx HA hit2
      generalize wr.iterAt w.heap.size s (pos + wd) = w2 at *
      go_wp2
      go_roundg f
      case measure => omega
      case rel => exact ⟨pos + wd, n + 1, by go_num, by have := HG.out; omega, by omega, by omega, HI.out, hx2⟩
    · rw [if_neg hlt] at hgo
      have hnx := fun ty => Lib.run_next_end_at (P := Tryd.prog) wr w.heap.size s pos ty hit hlt
      have HG := Lib.hid hgo
      clear hgo hit HA
      go_wp2
      go_ret
      exact ⟨by rw [← HG.out]; simp, hx⟩

set_option maxRecDepth 100000 in
set_option maxHeartbeats 4000000 in
theorem refName_any (s : ByteArray) (w : World) (hs : s.size ≤ bigS) (hT : Tabs w) :
    Calls Tryd.prog 64 #[.string s] w fun e w' => e = .returned (.bool (refName s)) ∧ Ext w w' := by
  obtain ⟨ANS, hA⟩ : ∃ ANS, refName s = ANS := ⟨_, rfl⟩
  rw [hA]
  unfold refName at hA
  have hlb : lenR s ≤ bigS := lenR_le hs
  have HL := Lib.hid (len_any s w hs)
  unfold bigS at hs hlb
  have HA := Lib.hid hA
  clear hA
  go_enter Tryd.func64, Tryd.ntmps64
  go_wp2_with (go_at_call 105; go_must (with_reducible refine HL.out.mono ?_); rintro e w1 ⟨rfl, hb⟩)
  · go_ret
    exact ⟨by have := HA.out; rw [if_pos (by omega)] at this; rw [← this]; rfl, hb⟩
  · have hgo := HA.out
    rw [if_neg (by omega)] at hgo
    have HZ := Lib.hid hb.size
    have HB := Lib.hid hb
    clear HA hb
    go_loopg [4, 5] (s.size + 1) (fun gk v4 v5 wr => ∃ pos : Nat, refGo s gk pos = ANS ∧ s.size - pos < gk ∧ wr.heap[w1.heap.size]? = some (.stringIter s pos) ∧ Ext w1 wr)
    case atStart => exact ⟨0, hgo, by omega, World.iter_heap _ _ _, Ext.new _ _⟩
    case round =>
      obtain ⟨pos, hgo, hgk, hit, hx⟩ := hrel
      obtain ⟨f, rfl⟩ : ∃ f, gk = f + 1 := ⟨gk - 1, by omega⟩
      simp only [refGo] at hgo
      by_cases hlt : pos < s.size
      · rw [if_pos hlt] at hgo
        have hnx := fun ty => Lib.run_next_any_at (P := Tryd.prog) wr w1.heap.size s pos ty hit hlt
        have hwd := width_pos s pos
        have hle := decode_le s pos
        have hit2 := Lib.iterAt_heap wr w1.heap.size s pos (pos + (Utf8.decode s pos).2) hit
        have hx2 := hx.iterAt (Nat.le_refl _) s (pos + (Utf8.decode s pos).2)
        have hg1 : s[pos] = s.get! pos := (get_at s pos hlt).symm
        generalize Utf8.decode s pos = d at *
        obtain ⟨c, wd⟩ := d
        simp only at hnx hwd hle hgo hit2 hx2
        have HG := Lib.hid hgo
        have HI := Lib.hid hit2
        have HT := Lib.hid (hT.ext HB.out)
        clear hgo hit hx hit2 hT
        generalize wr.iterAt w1.heap.size s (pos + wd) = w2 at *
        by_cases hce : c = 65533
        · subst hce
          have hl := letter_65533
          go_wp2_with (first
            | (go_at_call 102; (with_reducible refine (letter_any 65533 w2 (HT.out.ext hx2) (by omega) (by omega)).mono ?_); rintro e w3 ⟨rfl, hb⟩; have HB3 := Lib.hid hb; clear hb)
            | (go_at_call 102; go_must (with_reducible refine (letter_any 65533 _ (HT.out.ext (hx2.trans HB3.out)) (by omega) (by omega)).mono ?_); rintro e w4 ⟨rfl, hb⟩; have HB4 := Lib.hid hb; clear hb))
          all_goals first
            | (go_roundg f
               case measure => omega
               case rel => exact ⟨pos + wd, by have hg := HG.out; clear HG; revert hg; clear hnx; intro hg; rw [if_neg (by grind)] at hg; exact hg, by omega, by first | exact HI.out | exact iter_ext HB3.out HI.out | exact iter_ext HB4.out (iter_ext HB3.out HI.out), by first | exact hx2 | exact hx2.trans HB3.out | exact (hx2.trans HB3.out).trans HB4.out⟩)
            | (go_ret; exact ⟨by have hg := HG.out; clear HG hnx; rw [if_pos (by grind)] at hg; rw [← hg]; rfl, HB.out.trans (by first | exact hx2 | exact hx2.trans HB3.out | exact (hx2.trans HB3.out).trans HB4.out)⟩)
        · have hce2 : ((c : Int) == 65533) = false := by simp; omega
          have hce3 : ¬ (c : Int) = 65533 := by omega
          go_wp2_with (first
            | (go_at_call 102; (with_reducible refine (letter_any (c : Int) w2 (HT.out.ext hx2) (by omega) (by omega)).mono ?_); rintro e w3 ⟨rfl, hb⟩; have HB3 := Lib.hid hb; clear hb)
            | (go_at_call 102; go_must (with_reducible refine (letter_any (c : Int) _ (HT.out.ext (hx2.trans HB3.out)) (by omega) (by omega)).mono ?_); rintro e w4 ⟨rfl, hb⟩; have HB4 := Lib.hid hb; clear hb))
          all_goals first
            | (go_roundg f
               case measure => omega
               case rel => exact ⟨pos + wd, by have hg := HG.out; clear HG; revert hg; clear hnx; intro hg; rw [if_neg (by grind)] at hg; exact hg, by omega, by first | exact HI.out | exact iter_ext HB3.out HI.out | exact iter_ext HB4.out (iter_ext HB3.out HI.out), by first | exact hx2 | exact hx2.trans HB3.out | exact (hx2.trans HB3.out).trans HB4.out⟩)
            | (go_ret; exact ⟨by have hg := HG.out; clear HG hnx; rw [if_pos (by grind)] at hg; rw [← hg]; rfl, HB.out.trans (by first | exact hx2 | exact hx2.trans HB3.out | exact (hx2.trans HB3.out).trans HB4.out)⟩)
      · rw [if_neg hlt] at hgo
        have hnx := fun ty => Lib.run_next_end_at (P := Tryd.prog) wr w1.heap.size s pos ty hit hlt
        have HG := Lib.hid hgo
        clear hgo hit
        go_wp2
        go_ret
        exact ⟨by rw [← HG.out]; rfl, HB.out.trans hx⟩
  · go_ret
    exact ⟨by have := HA.out; rw [if_pos (by omega)] at this; rw [← this]; rfl, hb⟩

end Go.Proofs.YtnnmakkbnfckmaaDoor
