/- Plain laws of the merge in place: one number laid into a sorted row, the cut of two sorted rows about their middle. -/
import Derived.Test.YtnnmakkbnfckmaaDoorP2
namespace Go.Proofs.YtnnmakkbnfckmaaDoor
variable {α : Type} {key : α → Int}

theorem rotF_id (f : Nat → α) {s m e : Nat} (h1 : s ≤ m) (h2 : m ≤ e) (h : s = m ∨ m = e) : rotF f s m e = f := by
  funext x
  unfold rotF
  (repeat' split)
  all_goals first | rfl | omega | (congr 1; omega)
theorem rotF_up (f : Nat → α) {a k : Nat} (h : a ≤ k) (x : Nat) : rotF f a (a + 1) (k + 2) x = if x = k + 1 then rotF f a (a + 1) (k + 1) k else if x = k then rotF f a (a + 1) (k + 1) (k + 1) else rotF f a (a + 1) (k + 1) x := by
  unfold rotF
  (repeat' split)
  all_goals first | rfl | omega | (congr 1; omega)
theorem rotF_down (f : Nat → α) {m k : Nat} (h : k < m) (x : Nat) : rotF f k m (m + 1) x = if x = k then rotF f (k + 1) m (m + 1) (k + 1) else if x = k + 1 then rotF f (k + 1) m (m + 1) k else rotF f (k + 1) m (m + 1) x := by
  unfold rotF
  (repeat' split)
  all_goals first | rfl | omega | (congr 1; omega)
theorem ins_left {f : Nat → α} {a i b : Nat} (h1 : a + 1 ≤ i) (h2 : i ≤ b) (v : SortF key (a + 1) b f) (hl : ∀ t, a + 1 ≤ t → t < i → key (f t) < key (f a)) (hg : ∀ t, i ≤ t → t < b → key (f a) ≤ key (f t)) :
    StabF key a b f (rotF f a (a + 1) i) ∧ SortF key a b (rotF f a (a + 1) i) := by
  refine ⟨(rot_stab f (by omega) h1 fun x y p q r s => ?_).mono (Nat.le_refl _) (by omega) h2, fun x y p q r => ?_⟩
  · have : x = a := by omega
    subst this
    have := hl y r s; omega
  · by_cases c : y < i
    · by_cases c2 : y < a + (i - (a + 1))
      · rw [rotF_lo f (by omega) h1 p (by omega), rotF_lo f (by omega) h1 (by omega) c2]
        exact v _ _ (by omega) (by omega) (by omega)
      · rw [rotF_hi f (by omega) c, rotF_lo f (by omega) h1 p (by omega), show y - (i - (a + 1)) = a by omega]
        exact Int.le_of_lt (hl _ (by omega) (by omega))
    · rw [rotF_out f (Or.inr (show i ≤ y by omega))]
      by_cases d : x < i
      · by_cases d2 : x < a + (i - (a + 1))
        · rw [rotF_lo f (by omega) h1 p d2]
          exact v _ _ (by omega) (by omega) r
        · rw [rotF_hi f (by omega) d, show x - (i - (a + 1)) = a by omega]
          exact hg y (by omega) r
      · rw [rotF_out f (Or.inr (show i ≤ x by omega))]
        exact v _ _ (by omega) q r
theorem ins_right {f : Nat → α} {a i m : Nat} (h1 : a ≤ i) (h2 : i ≤ m) (u : SortF key a m f) (hl : ∀ t, a ≤ t → t < i → key (f t) ≤ key (f m)) (hg : ∀ t, i ≤ t → t < m → key (f m) < key (f t)) :
    StabF key a (m + 1) f (rotF f i m (m + 1)) ∧ SortF key a (m + 1) (rotF f i m (m + 1)) := by
  refine ⟨(rot_stab f h2 (by omega) fun x y p q r s => ?_).mono h1 (by omega) (Nat.le_refl _), fun x y p q r => ?_⟩
  · have : y = m := by omega
    subst this
    have := hg x p q; omega
  · by_cases c : x < i
    · rw [rotF_out f (Or.inl c)]
      by_cases d : y < i
      · rw [rotF_out f (Or.inl d)]; exact u _ _ p q (by omega)
      · by_cases d2 : y < i + (m + 1 - m)
        · rw [rotF_lo f h2 (by omega) (by omega) d2, show y - i + m = m by omega]; exact hl x p c
        · rw [rotF_hi f (by omega) r]; exact u _ _ p (by omega) (by omega)
    · by_cases d2 : x < i + (m + 1 - m)
      · rw [rotF_lo f h2 (by omega) (by omega) d2, rotF_hi f (by omega) r, show x - i + m = m by omega]
        exact Int.le_of_lt (hg _ (by omega) (by omega))
      · rw [rotF_hi f (by omega) (by omega), rotF_hi f (by omega) r]; exact u _ _ (by omega) (by omega) (by omega)
/-- The cut of two sorted rows about their middle. -/
theorem sym_cut {f : Nat → α} {a m b mid lo hi s e : Nat} (ham : a < m) (hmb : m < b) (hmid : mid = (a + b) / 2) (hse : s + e = mid + m) (u : SortF key a m f) (v : SortF key m b f)
    (hlh : (mid < m ∧ lo + b = mid + m ∧ hi = mid) ∨ (m ≤ mid ∧ lo = a ∧ hi = m)) (h1 : lo ≤ s) (h2 : s ≤ hi) (c1 : s = lo ∨ key (f (s - 1)) ≤ key (f e)) (c2 : s = hi ∨ key (f (e - 1)) < key (f s)) :
    a ≤ s ∧ s ≤ m ∧ m ≤ e ∧ e ≤ b ∧ s + (e - m) = mid ∧ (∀ i j, a ≤ i → i < s → e ≤ j → j < b → key (f i) ≤ key (f j)) ∧ (∀ i j, s ≤ i → i < m → m ≤ j → j < e → key (f j) < key (f i)) := by
  have q1 : a ≤ s := by omega
  have q2 : s ≤ m := by omega
  have q3 : m ≤ e := by omega
  have q4 : e ≤ b := by omega
  refine ⟨q1, q2, q3, q4, by omega, fun i j x y z w => ?_, fun i j x y z w => ?_⟩
  · rcases c1 with c | c
    · omega
    · exact Int.le_trans (u.le x (show i ≤ s - 1 by omega) (by omega)) (Int.le_trans c (v.le q3 z w))
  · rcases c2 with c | c
    · omega
    · exact Int.lt_of_le_of_lt (v.le z (show j ≤ e - 1 by omega) (by omega)) (Int.lt_of_lt_of_le c (u.le q1 x y))
/-- .. the turned row: its two halves hold two sorted parts each; merged, all is sorted. -/
theorem sym_done {f g1 g2 : Nat → α} {a m b mid s e : Nat} (h1 : a ≤ s) (h2 : s ≤ m) (h3 : m ≤ e) (h4 : e ≤ b) (ht : s + (e - m) = mid) (u : SortF key a m f) (v : SortF key m b f)
    (hl : ∀ i j, a ≤ i → i < s → e ≤ j → j < b → key (f i) ≤ key (f j)) (hg : ∀ i j, s ≤ i → i < m → m ≤ j → j < e → key (f j) < key (f i))
    (w1 : StabF key a mid (rotF f s m e) g1) (w2 : SortF key a mid g1) (w3 : StabF key mid b g1 g2) (w4 : SortF key mid b g2) : StabF key a b f g2 ∧ SortF key a b g2 := by
  obtain ⟨x1, _, _, _, _, x2⟩ := cut_turned h1 h2 h3 h4 u v hl hg
  subst ht
  exact both_merged (by omega) (by omega) x1 x2 w1 w2 w3 w4
theorem sym_parts {f : Nat → α} {a m b mid s e : Nat} (h1 : a ≤ s) (h2 : s ≤ m) (h3 : m ≤ e) (h4 : e ≤ b) (ht : s + (e - m) = mid) (u : SortF key a m f) (v : SortF key m b f)
    (hl : ∀ i j, a ≤ i → i < s → e ≤ j → j < b → key (f i) ≤ key (f j)) (hg : ∀ i j, s ≤ i → i < m → m ≤ j → j < e → key (f j) < key (f i)) :
    SortF key a s (rotF f s m e) ∧ SortF key s mid (rotF f s m e) ∧ SortF key mid e (rotF f s m e) ∧ SortF key e b (rotF f s m e) := by
  obtain ⟨_, y1, y2, y3, y4, _⟩ := cut_turned h1 h2 h3 h4 u v hl hg
  subst ht
  exact ⟨y1, y2, y3, y4⟩
/-- Two sorted parts of which one is empty are one. -/
theorem SortF.whole {f : Nat → α} {a s b : Nat} (h1 : SortF key a s f) (h2 : SortF key s b f) (h : ¬ (a < s ∧ s < b)) (hs : a ≤ s) : SortF key a b f := by
  by_cases c : a < s
  · exact h1.sub (Nat.le_refl _) (by omega)
  · have : s = a := by omega
    subst this; exact h2
end Go.Proofs.YtnnmakkbnfckmaaDoor
