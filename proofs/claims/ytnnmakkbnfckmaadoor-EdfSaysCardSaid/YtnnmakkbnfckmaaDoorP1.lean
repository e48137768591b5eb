/- Plain laws: the program's names are the reference's. -/
import Derived.Test.YtnnmakkbnfckmaaDoorP0
import Derived.Lib.TrimU
import Derived.Lib.DecodeN
namespace Go.Proofs.YtnnmakkbnfckmaaDoor

theorem get_drop (s : ByteArray) (i k : Nat) : (⟨(s.data.toList.drop i).toArray⟩ : ByteArray).get! k = s.get! (i + k) := by
  simp [ByteArray.get!, getElem!_def]
theorem decode_drop (s : ByteArray) (i : Nat) : Utf8.decode s i = Lib.decodeL (s.data.toList.drop i) := by
  have hs : (⟨(s.data.toList.drop i).toArray⟩ : ByteArray).size = s.size - i := by
    show (List.drop i s.data.toList).toArray.size = s.data.size - i
    simp
  unfold Lib.decodeL
  rw [Lib.decode_at, Lib.decode_at, hs]
  simp only [get_drop, Nat.zero_add, Nat.sub_zero, Nat.add_zero]

set_option maxRecDepth 100000 in
theorem letter_65533' : Lib.isLetterU 65533 = false := by decide +kernel
theorem width_pos' (s : ByteArray) (pos : Nat) : 1 ≤ (Utf8.decode s pos).2 := by rw [decode_drop]; exact Lib.decodeL_width _

def refBad (s : ByteArray) (pos : Nat) : Bool :=
  (pos == 0 && !Lib.isLetterU ((Utf8.decode s pos).1 : Int)) || (((Utf8.decode s pos).1 : Int) == 65533 && (s.get! pos).toNat != 239) || (((Utf8.decode s pos).1 : Int) != 95 && (decide (((Utf8.decode s pos).1 : Int) < 48) || decide (57 < ((Utf8.decode s pos).1 : Int))) && !Lib.isLetterU ((Utf8.decode s pos).1 : Int))

set_option maxRecDepth 100000 in
theorem refBad_eq (s : ByteArray) (pos n : Nat) (h : n = 0 ↔ pos = 0) : refBad s pos = badRune n ((Utf8.decode s pos).1 : Int) := by
  unfold refBad badRune digitB
  have h5 := letter_65533'
  have h0 : (n == 0) = (pos == 0) := by rw [Bool.eq_iff_iff]; simp [h]
  rw [h0]
  generalize ((Utf8.decode s pos).1 : Int) = c at *
  by_cases hc : c = 65533
  · subst hc; simp [h5]
  · have : (c == 65533) = false := by simp [hc]
    rw [this]
    by_cases hl : Lib.isLetterU c = true
    · simp [hl]
    · have hl' : Lib.isLetterU c = false := by simpa using hl
      rw [hl']
      by_cases h1 : c = 95 <;> by_cases h2 : c < 48 <;> by_cases h3 : 57 < c <;> simp [h1, h2, h3] <;> grind

theorem nameGo_eq (s : ByteArray) : ∀ (f pos n : Nat), s.size - pos < f → (n = 0 ↔ pos = 0) →
    nameGo s f pos n = (refGo s f pos && (decide (1 ≤ n + lenGo s f pos) && (decide (n + lenGo s f pos ≤ 20) && Lib.validD s.data.toList))) := by
  intro f
  induction f with
  | zero => intro pos n h; omega
  | succ f ih =>
    intro pos n h hn
    have hw := width_pos' s pos
    have hb := refBad_eq s pos n hn
    unfold refBad at hb
    simp only [nameGo, refGo, lenGo]
    by_cases hlt : pos < s.size
    · simp only [if_pos hlt]
      rw [hb]
      by_cases hbad : badRune n ((Utf8.decode s pos).1 : Int) = true
      · simp [hbad]
      · rw [if_neg hbad, if_neg hbad, ih _ _ (by omega) (by omega)]
        rw [show n + 1 + lenGo s f (pos + (Utf8.decode s pos).2) = n + (lenGo s f (pos + (Utf8.decode s pos).2) + 1) by omega]
    · simp [if_neg hlt]

set_option maxRecDepth 100000 in
theorem refGo_valid (s : ByteArray) : ∀ (f pos : Nat), s.size - pos < f → refGo s f pos = true → ∀ k, Lib.validGoD k (s.data.toList.drop pos) = true := by
  intro f
  induction f with
  | zero => intro pos h; omega
  | succ f ih =>
    intro pos h hr k
    have hw := width_pos' s pos
    simp only [refGo] at hr
    cases k with
    | zero => rfl
    | succ k =>
      simp only [Lib.validGoD]
      by_cases hlt : pos < s.size
      · rw [if_pos hlt] at hr
        have hb := refBad_eq s pos pos Iff.rfl
        unfold refBad at hb
        rw [hb] at hr
        by_cases hbad : badRune pos ((Utf8.decode s pos).1 : Int) = true
        · simp [hbad] at hr
        · rw [if_neg hbad] at hr
          have hne : ¬ s.data.toList.drop pos = [] := by
            intro h0
            have := congrArg List.length h0
            have hl' : pos < s.data.size := hlt
            rw [List.length_drop, Array.length_toList, List.length_nil] at this
            omega
          rw [if_neg hne, ← decode_drop]
          have h5 : ¬ ((Utf8.decode s pos).1 = 65533 ∧ (Utf8.decode s pos).2 = 1) := by
            rintro ⟨h5, _⟩
            rw [h5] at hbad
            apply hbad
            unfold badRune digitB
            have : Lib.isLetterU ((65533 : Nat) : Int) = false := letter_65533'
            rw [this]; simp
          rw [if_neg h5, List.drop_drop]
          exact ih _ (by omega) hr k
      · have : s.data.toList.drop pos = [] := by
          apply List.drop_eq_nil_of_le
          have hl' : ¬ pos < s.data.size := hlt
          rw [Array.length_toList]
          omega
        rw [if_pos this]

theorem refName_eq (s : ByteArray) : refName s = goodName s := by
  unfold refName goodName
  rw [nameGo_eq s _ 0 0 (by omega) Iff.rfl]
  simp only [Nat.zero_add]
  rw [show lenGo s (s.size + 1) 0 = lenR s from rfl]
  by_cases hr : refGo s (s.size + 1) 0 = true
  · have hv : Lib.validD s.data.toList = true := by
      have := refGo_valid s (s.size + 1) 0 (by omega) hr s.data.toList.length
      simpa [Lib.validD] using this
    rw [hr, hv]
    by_cases h1 : lenR s < 1 <;> by_cases h2 : 20 < lenR s
    all_goals simp [h1, h2]
    all_goals omega
  · have hr' : refGo s (s.size + 1) 0 = false := by simpa using hr
    rw [hr']
    simp
end Go.Proofs.YtnnmakkbnfckmaaDoor
