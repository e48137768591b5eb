/- Plain: what is to spare, what fits; sorted or not, the least is the same; needs that fit do so, if one is less, or has more time. -/
import Derived.Test.YtnnmakkbnfckmaaDoorP6
namespace Go.Proofs.YtnnmakkbnfckmaaDoor

def inM (n : Int) : Bool := decide (-1000000 ≤ n) && decide (n ≤ 1000000)
/-- Are the numbers within their bounds? -/
def mayB (now : Int) (l : List (Int × Int)) : Bool := inM now && (decide (l.length ≤ 1000) && l.all fun x => inM x.1 && inM x.2)
/-- A sum over a row. -/
def sumF {α : Type} (f : α → Int) : List α → Int
  | [] => 0
  | x :: l => f x + sumF f l
theorem sumF_append {α : Type} (f : α → Int) (l m : List α) : sumF f (l ++ m) = sumF f l + sumF f m := by
  induction l with
  | nil => simp [sumF]
  | cons x l ih => simp only [List.cons_append, sumF, ih]; omega
theorem sumF_perm {α : Type} (f : α → Int) {l m : List α} (h : l.Perm m) : sumF f l = sumF f m := by
  induction h with
  | nil => rfl
  | cons x _ ih => simp only [sumF, ih]
  | swap x y l => simp only [sumF]; omega
  | trans _ _ a b => exact a.trans b
theorem sumF_le {α : Type} {f g : α → Int} {l : List α} (h : ∀ x ∈ l, f x ≤ g x) : sumF f l ≤ sumF g l := by
  induction l with
  | nil => exact Int.le_refl _
  | cons x l ih => have := h x (by simp); have := ih fun y hy => h y (by simp [hy]); simp only [sumF]; omega
theorem sumF_congr {α : Type} {f g : α → Int} {l : List α} (h : ∀ x ∈ l, f x = g x) : sumF f l = sumF g l :=
  Int.le_antisymm (sumF_le fun x hx => by rw [h x hx]; exact Int.le_refl _) (sumF_le fun x hx => by rw [h x hx]; exact Int.le_refl _)
theorem sumF_nonneg {α : Type} {f : α → Int} {l : List α} (h : ∀ x ∈ l, 0 ≤ f x) : 0 ≤ sumF f l := by
  induction l with
  | nil => exact Int.le_refl _
  | cons x l ih => have := h x (by simp); have := ih fun y hy => h y (by simp [hy]); simp only [sumF]; omega
theorem sumF_bound {α : Type} {f : α → Int} {l : List α} {c : Int} (h : ∀ x ∈ l, f x ≤ c) : sumF f l ≤ l.length * c := by
  induction l with
  | nil => simp [sumF]
  | cons x l ih =>
    have := h x (by simp); have := ih fun y hy => h y (by simp [hy])
    simp only [sumF, List.length_cons, Int.natCast_add, Int.add_mul]; omega
abbrev posN (x : Int × Int) : Int := max x.2 0
/-- What is needed up to a deadline. -/
def upto (l : List (Int × Int)) (D : Int) : Int := sumF (fun y => if y.1 ≤ D then posN y else 0) l
/-- The numbers of the i-th. -/
abbrev dlN (l : List (Int × Int)) (i : Nat) : Int := at0 (fun x : Int × Int => x.1) l i
/-- What the i-th has to spare. -/
def spare (now : Int) (l : List (Int × Int)) (i : Nat) : Int := dlN l i - now - upto l (dlN l i)
/-- .. of a row in order, by what stands up to it. -/
def spareP (now : Int) (s : List (Int × Int)) (i : Nat) : Int := dlN s i - now - sumF posN (s.take (i + 1))
/-- The least of the first. -/
def leastN (P : Nat → Int) : Nat → Int
  | 0 => 0
  | n + 1 => if n = 0 ∨ P n < leastN P n then P n else leastN P n
theorem leastN_is (P : Nat → Int) (n : Nat) (hn : 0 < n) : (∃ k, k < n ∧ leastN P n = P k) ∧ ∀ k, k < n → leastN P n ≤ P k := by
  induction n with
  | zero => omega
  | succ n ih =>
    simp only [leastN]
    by_cases h0 : n = 0
    · subst h0
      rw [if_pos (.inl rfl)]
      exact ⟨⟨0, by omega, rfl⟩, fun k hk => by obtain rfl : k = 0 := by omega
                                                exact Int.le_refl _⟩
    · obtain ⟨⟨k, hk, he⟩, hl⟩ := ih (by omega)
      by_cases h1 : P n < leastN P n
      · rw [if_pos (.inr h1)]
        refine ⟨⟨n, by omega, rfl⟩, fun j hj => ?_⟩
        by_cases e : j = n
        · subst e; exact Int.le_refl _
        · have := hl j (by omega); omega
      · rw [if_neg (by simp only [not_or]; exact ⟨h0, h1⟩)]
        refine ⟨⟨k, by omega, he⟩, fun j hj => ?_⟩
        by_cases e : j = n
        · subst e; omega
        · exact hl j (by omega)
theorem leastN_congr {P Q : Nat → Int} {n : Nat} (h : ∀ i, i < n → P i = Q i) : leastN P n = leastN Q n := by
  induction n with
  | zero => rfl
  | succ n ih => simp only [leastN]; rw [h n (by omega), ih fun i hi => h i (by omega)]
def slackV (now : Int) (l : List (Int × Int)) : Int := leastN (spare now l) l.length
def slackOk (now : Int) (l : List (Int × Int)) : Bool := !l.isEmpty && mayB now l
def slackR (now : Int) (l : List (Int × Int)) : Int := if slackOk now l = true then slackV now l else 0
def fitsB (now : Int) (l : List (Int × Int)) : Bool := mayB now l && (l.isEmpty || decide (0 ≤ slackV now l))

theorem upto_perm {l m : List (Int × Int)} (h : l.Perm m) (D : Int) : upto l D = upto m D := sumF_perm _ h
theorem posN_nonneg (x : Int × Int) : 0 ≤ posN x := by unfold posN; omega
/-- A row in order: what stands up to the deadline. -/
theorem upto_sorted (s : List (Int × Int)) (hs : s.Pairwise fun a b => a.1 ≤ b.1) (D : Int) : upto s D = sumF posN (s.takeWhile fun y => decide (y.1 ≤ D)) := by
  induction s with
  | nil => rfl
  | cons x s ih =>
    by_cases h : x.1 ≤ D
    · rw [List.takeWhile_cons, if_pos (by simpa using h)]
      simp only [upto, sumF, if_pos h]
      have := ih hs.of_cons
      unfold upto at this
      rw [this]
    · rw [List.takeWhile_cons, if_neg (by simpa using h)]
      have : upto (x :: s) D = sumF (fun _ => 0) (x :: s) := sumF_congr fun y hy => by
        rcases List.mem_cons.1 hy with e | e
        · subst e; rw [if_neg h]
        · have := List.rel_of_pairwise_cons hs e; rw [if_neg (by omega)]
      rw [this]
      have h1 : 0 ≤ sumF (fun _ : Int × Int => 0) (x :: s) := sumF_nonneg fun _ _ => Int.le_refl _
      have h2 := sumF_bound (f := fun _ : Int × Int => 0) (l := x :: s) (c := 0) fun _ _ => Int.le_refl _
      simp only [sumF] at *; omega
theorem takeWhile_leD {s : List (Int × Int)} {D : Int} {x : Int × Int} (h : x ∈ s.takeWhile fun y => decide (y.1 ≤ D)) : x.1 ≤ D := by
  induction s with
  | nil => simp at h
  | cons y s ih =>
    rw [List.takeWhile_cons] at h
    split at h
    · rename_i hy
      rcases List.mem_cons.1 h with e | e
      · subst e; simpa using hy
      · exact ih e
    · simp at h
theorem sort_least (now : Int) (l : List (Int × Int)) : leastN (spareP now (sortK (fun x : Int × Int => x.1) l)) l.length = slackV now l := by
  obtain ⟨s, hs⟩ : ∃ s, sortK (fun x : Int × Int => x.1) l = s := ⟨_, rfl⟩
  have hp : s.Perm l := hs ▸ sortK_perm _ l
  have hso : s.Pairwise fun a b => a.1 ≤ b.1 := hs ▸ sortK_sorted l
  rw [hs]
  have hlen : s.length = l.length := hp.length_eq
  by_cases hn : l.length = 0
  · simp [slackV, hn, leastN]
  unfold slackV
  obtain ⟨⟨k1, hk1, e1⟩, m1⟩ := leastN_is (spareP now s) l.length (by omega)
  obtain ⟨⟨k2, hk2, e2⟩, m2⟩ := leastN_is (spare now l) l.length (by omega)
  -- by what stands up to it it has no less to spare
  have ha : ∀ i, i < l.length → ∃ j, j < l.length ∧ spare now l j ≤ spareP now s i := by
    intro i hi
    have hi' : i < s.length := by omega
    have hm : s[i] ∈ l := hp.mem_iff.1 (List.getElem_mem hi')
    obtain ⟨j, hj, ej⟩ := List.getElem_of_mem hm
    refine ⟨j, hj, ?_⟩
    unfold spare spareP dlN
    rw [at0_eq _ _ hj, at0_eq _ _ hi', ej]
    have h1 : upto l s[i].1 = upto (s.take (i + 1)) s[i].1 + upto (s.drop (i + 1)) s[i].1 := by
      rw [← upto_perm hp]
      unfold upto
      rw [← sumF_append, List.take_append_drop]
    have h2 : upto (s.take (i + 1)) s[i].1 = sumF posN (s.take (i + 1)) := sumF_congr fun y hy => by
      obtain ⟨m, hm, rfl⟩ := List.getElem_of_mem hy
      rw [List.getElem_take]
      have hm' : m < i + 1 := by simp at hm; omega
      have : s[m].1 ≤ s[i].1 := by
        by_cases e : m = i
        · subst e; exact Int.le_refl _
        · exact List.pairwise_iff_getElem.1 hso m i (by omega) hi' (by omega)
      rw [if_pos this]
    have h3 : 0 ≤ upto (s.drop (i + 1)) s[i].1 := sumF_nonneg fun y _ => by have := posN_nonneg y; split <;> omega
    omega
  have hb : ∀ j, j < l.length → ∃ i, i < l.length ∧ spareP now s i ≤ spare now l j := by
    intro j hj
    obtain ⟨D, hD⟩ : ∃ D, l[j].1 = D := ⟨_, rfl⟩
    have hm : l[j] ∈ s := hp.mem_iff.2 (List.getElem_mem hj)
    obtain ⟨i, hi, ei⟩ := List.getElem_of_mem hm
    have hw : (s.takeWhile fun y => decide (y.1 ≤ D)) ++ (s.dropWhile fun y => decide (y.1 ≤ D)) = s := List.takeWhile_append_dropWhile
    obtain ⟨m, hm'⟩ : ∃ m, (s.takeWhile fun y => decide (y.1 ≤ D)).length = m := ⟨_, rfl⟩
    have htk : s.takeWhile (fun y => decide (y.1 ≤ D)) = s.take m := by
      have := congrArg (List.take m) hw
      rwa [List.take_append_of_le_length (by omega), List.take_of_length_le (by omega)] at this
    have hms : m ≤ s.length := by have := congrArg List.length hw; rw [List.length_append] at this; omega
    have him : 0 < m := by
      refine Nat.pos_of_ne_zero fun h0 => ?_
      have : s.takeWhile (fun y => decide (y.1 ≤ D)) = [] := List.length_eq_zero_iff.1 (by omega)
      cases hsc : s with
      | nil => rw [hsc] at hi; simp at hi
      | cons x r =>
        rw [hsc, List.takeWhile_cons] at this
        split at this
        · cases this
        · rename_i hx
          have : x.1 ≤ D := by
            rw [← hD, ← ei]
            have h0' : s[0].1 ≤ s[i].1 := by
              by_cases e : i = 0
              · subst e; exact Int.le_refl _
              · exact List.pairwise_iff_getElem.1 hso 0 i (by omega) hi (by omega)
            simpa [hsc] using h0'
          simp [this] at hx
    refine ⟨m - 1, by omega, ?_⟩
    have hk : m - 1 < s.length := by omega
    unfold spare spareP dlN
    rw [at0_eq _ _ hj, at0_eq _ _ hk, hD, ← upto_perm hp, upto_sorted s hso, htk, show m - 1 + 1 = m by omega]
    have : s[m - 1].1 ≤ D := by
      have : s[m - 1] ∈ s.takeWhile fun y => decide (y.1 ≤ D) := by
        rw [htk]
        exact List.mem_take_iff_getElem.2 ⟨m - 1, by omega, rfl⟩
      exact takeWhile_leD this
    omega
  obtain ⟨j1, hj1, g1⟩ := ha k1 hk1
  obtain ⟨i2, hi2, g2⟩ := hb k2 hk2
  have := m2 j1 hj1
  have := m1 i2 hi2
  omega

/-! ### What fits -/
theorem top_of (l : List (Int × Int)) (D : Int) (h : ∃ x ∈ l, x.1 ≤ D) : ∃ x ∈ l, x.1 ≤ D ∧ ∀ y ∈ l, y.1 ≤ D → y.1 ≤ x.1 := by
  induction l with
  | nil => obtain ⟨x, hx, _⟩ := h; simp at hx
  | cons z l ih =>
    by_cases hl : ∃ x ∈ l, x.1 ≤ D
    · obtain ⟨x, hx, h1, h2⟩ := ih hl
      by_cases hz : z.1 ≤ D ∧ x.1 ≤ z.1
      · refine ⟨z, by simp, hz.1, fun y hy hyD => ?_⟩
        rcases List.mem_cons.1 hy with e | e
        · subst e; exact Int.le_refl _
        · have := h2 y e hyD; omega
      · refine ⟨x, by simp [hx], h1, fun y hy hyD => ?_⟩
        rcases List.mem_cons.1 hy with e | e
        · subst e; omega
        · exact h2 y e hyD
    · obtain ⟨x, hx, hD⟩ := h
      rcases List.mem_cons.1 hx with e | e
      · subst e
        refine ⟨x, by simp, hD, fun y hy hyD => ?_⟩
        rcases List.mem_cons.1 hy with e | e
        · subst e; exact Int.le_refl _
        · exact absurd ⟨y, e, hyD⟩ hl
      · exact absurd ⟨x, e, hD⟩ hl
/-- All fit just where up to no deadline more is needed than there is. -/
theorem fits_iff (now : Int) (l : List (Int × Int)) : fitsB now l = true ↔ mayB now l = true ∧ ∀ D, (∃ x ∈ l, x.1 ≤ D) → upto l D ≤ D - now := by
  unfold fitsB
  rw [Bool.and_eq_true]
  refine and_congr_right fun hm => ?_
  cases hl : l with
  | nil => simp
  | cons z r =>
    rw [← hl]
    have hpos : 0 < l.length := by rw [hl]; simp
    have he : l.isEmpty = false := by rw [hl]; rfl
    rw [he, Bool.false_or, decide_eq_true_eq]
    obtain ⟨⟨k, hk, e⟩, hle⟩ := leastN_is (spare now l) l.length hpos
    have e' : slackV now l = spare now l k := e
    have sp : ∀ i (hi : i < l.length), spare now l i = l[i].1 - now - upto l l[i].1 := fun i hi => by unfold spare dlN; rw [at0_eq _ _ hi]
    constructor
    · intro h D hD
      obtain ⟨x, hx, h1, h2⟩ := top_of l D hD
      obtain ⟨i, hi, rfl⟩ := List.getElem_of_mem hx
      have h3 := hle i hi
      have h4 := sp i hi
      have h5 : upto l D = upto l l[i].1 := sumF_congr fun y hy => by
        by_cases hy1 : y.1 ≤ D
        · rw [if_pos hy1, if_pos (h2 y hy hy1)]
        · rw [if_neg hy1, if_neg (by omega)]
      have h6 : slackV now l = leastN (spare now l) l.length := rfl
      omega
    · intro h
      have h3 := h l[k].1 ⟨l[k], List.getElem_mem hk, Int.le_refl _⟩
      have h4 := sp k hk
      omega
theorem upto_set (l : List (Int × Int)) (k : Nat) (x : Int × Int) (D : Int) (hk : k < l.length) (h1 : x.1 ≤ D → l[k].1 ≤ D) (h2 : x.2 ≤ l[k].2) : upto (l.set k x) D ≤ upto l D := by
  induction l generalizing k with
  | nil => simp at hk
  | cons z l ih =>
    cases k with
    | zero =>
      simp only [List.getElem_cons_zero] at h1 h2
      simp only [List.set_cons_zero, upto, sumF]
      have : (if x.1 ≤ D then posN x else 0) ≤ (if z.1 ≤ D then posN z else 0) := by
        have := posN_nonneg z
        by_cases h : x.1 ≤ D
        · rw [if_pos h, if_pos (h1 h)]; unfold posN; omega
        · rw [if_neg h]; split <;> omega
      omega
    | succ k =>
      simp only [List.getElem_cons_succ] at h1 h2
      have := ih k (by simpa using hk) h1 h2
      simp only [List.set_cons_succ, upto, sumF] at *
      omega
/-- Needs that fit do so, if one is less, or has more time. -/
theorem fits_set {now : Int} {l : List (Int × Int)} (h : fitsB now l = true) (k : Nat) (x : Int × Int) (hk : k < l.length) (h1 : l[k].1 ≤ x.1) (h2 : x.2 ≤ l[k].2) (hb : inM x.1 = true ∧ inM x.2 = true) : fitsB now (l.set k x) = true := by
  obtain ⟨hm, hf⟩ := (fits_iff now l).1 h
  refine (fits_iff now _).2 ⟨?_, fun D hD => ?_⟩
  · unfold mayB at hm ⊢
    simp only [Bool.and_eq_true, List.length_set, List.all_eq_true] at hm ⊢
    refine ⟨hm.1, hm.2.1, fun y hy => ?_⟩
    rcases List.mem_or_eq_of_mem_set hy with e | e
    · exact hm.2.2 y e
    · rw [e]; exact hb
  · refine Int.le_trans (upto_set l k x D hk (fun h => by omega) h2) (hf D ?_)
    obtain ⟨y, hy, hyD⟩ := hD
    obtain ⟨i, hi, rfl⟩ := List.getElem_of_mem hy
    rw [List.getElem_set] at hyD
    split at hyD
    · exact ⟨l[k], List.getElem_mem hk, by omega⟩
    · exact ⟨l[i]'(by simpa using hi), List.getElem_mem _, hyD⟩
end Go.Proofs.YtnnmakkbnfckmaaDoor
