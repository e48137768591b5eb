/- Plain: who runs, the earliest deadline first; where no span is asked too much, all are met; what any trace that has all done shows of the spans. -/
import Derived.Test.YtnnmakkbnfckmaaDoorP5
namespace Go.Proofs.YtnnmakkbnfckmaaDoor

/-! ### The first that may -/
/-- The first place, in the order of the deadlines, that may run. -/
def pick (l : List J) (p : Nat → Bool) : Option Nat := (byDl l).find? p
/-- Is it ahead of what was found? -/
def bettr {α : Type} (key : α → Int) (x : α) : Option α → Bool
  | none => true
  | some b => decide (key x < key b)
theorem find_insK {α : Type} (key : α → Int) (p : α → Bool) (r : List α) (x : α) (hs : r.Pairwise fun a b => key a ≤ key b) :
    (insK key r x).find? p = if (p x && bettr key x (r.find? p)) = true then some x else r.find? p := by
  induction r with
  | nil => cases h : p x <;> simp [insK, h, bettr]
  | cons y r ih =>
    by_cases hy : key y ≤ key x
    · have e : insK key (y :: r) x = y :: insK key r x := by simp [insK, hy]
      rw [e]
      cases hp : p y with
      | true =>
        rw [List.find?_cons_of_pos hp, List.find?_cons_of_pos hp]
        have : decide (key x < key y) = false := by simp; omega
        simp [this, bettr]
      | false =>
        rw [List.find?_cons_of_neg (by simp [hp]), List.find?_cons_of_neg (by simp [hp])]
        exact ih hs.of_cons
    · have e : insK key (y :: r) x = x :: y :: r := by simp [insK, hy]
      rw [e]
      have hall : ∀ b, (y :: r).find? p = some b → key x < key b := fun b hb => by
        have hm := List.mem_of_find?_eq_some hb
        rcases List.mem_cons.1 hm with h | h
        · subst h; omega
        · have := List.rel_of_pairwise_cons hs h; omega
      cases hp : p x with
      | true =>
        rw [List.find?_cons_of_pos hp]
        cases hf : (y :: r).find? p with
        | none => simp [bettr]
        | some b => have := hall b hf; simp [this, bettr]
      | false => rw [List.find?_cons_of_neg (by simp [hp])]; simp
/-- One more place is looked at: is it the one that runs? -/
def firstN (l : List J) (p : Nat → Bool) (b : Option Nat) (i : Nat) : Option Nat :=
  if (p i && bettr (at0 J.dl l) i b) = true then some i else b
/-- Of the first n places the one that runs. -/
def firstB (l : List J) (p : Nat → Bool) (n : Nat) : Option Nat := (List.range n).foldl (firstN l p) none
theorem firstB_succ (l : List J) (p : Nat → Bool) (n : Nat) : firstB l p (n + 1) = firstN l p (firstB l p n) n := by
  unfold firstB; rw [List.range_succ, List.foldl_append]; rfl
theorem firstB_find (l : List J) (p : Nat → Bool) (n : Nat) : (sortK (at0 J.dl l) (List.range n)).find? p = firstB l p n := by
  induction n with
  | zero => simp [sortK, firstB]
  | succ n ih =>
    have e : sortK (at0 J.dl l) (List.range (n + 1)) = insK (at0 J.dl l) (sortK (at0 J.dl l) (List.range n)) n := by
      unfold sortK; rw [List.range_succ, List.foldl_append]; rfl
    rw [e, find_insK _ _ _ _ (sortK_sorted _), ih, firstB_succ]
    rfl
theorem firstB_eq (l : List J) (p : Nat → Bool) : firstB l p l.length = pick l p := (firstB_find l p l.length).symm
theorem firstB_lt (l : List J) (p : Nat → Bool) (n i : Nat) (h : firstB l p n = some i) : i < n := by
  induction n with
  | zero => simp [firstB] at h
  | succ n ih =>
    rw [firstB_succ] at h
    unfold firstN at h
    split at h
    · injection h with h; omega
    · have := ih h; omega
theorem pick_some {l : List J} {p : Nat → Bool} {i : Nat} (h : pick l p = some i) : i < l.length ∧ p i = true ∧ ∀ k, k < l.length → p k = true → at0 J.dl l i ≤ at0 J.dl l k := by
  have hm := List.mem_of_find?_eq_some h
  refine ⟨(byDl_mem l).1 hm, List.find?_some h, fun k hk hp => ?_⟩
  obtain ⟨_, xs, ys, he, has⟩ := List.find?_eq_some_iff_append.1 h
  have hs := byDl_sorted l
  rw [he] at hs
  have hk' : k ∈ xs ++ i :: ys := by rw [← he]; exact (byDl_mem l).2 hk
  rcases List.mem_append.1 hk' with h1 | h1
  · have := has k h1; simp [hp] at this
  · rcases List.mem_cons.1 h1 with h2 | h2
    · subst h2; exact Int.le_refl _
    · exact List.rel_of_pairwise_cons (List.pairwise_append.1 hs).2.1 h2
theorem pick_none {l : List J} {p : Nat → Bool} (h : pick l p = none) : ∀ k, k < l.length → p k = false := fun k hk => by
  have := List.find?_eq_none.1 h k ((byDl_mem l).2 hk)
  simpa using this
theorem pick_congr {l : List J} {p q : Nat → Bool} (h : ∀ i, i < l.length → p i = q i) : pick l p = pick l q := by
  unfold pick
  have : ∀ r : List Nat, (∀ i ∈ r, i < l.length) → r.find? p = r.find? q := by
    intro r
    induction r with
    | nil => intro _; rfl
    | cons x r ih =>
      intro hr
      rw [List.find?_cons, List.find?_cons, h x (hr x (by simp)), ih fun i hi => hr i (by simp [hi])]
  exact this _ fun i hi => (byDl_mem l).1 hi

/-! ### Sums and counts -/
/-- The sum of the first n. -/
def sumN (g : Nat → Int) : Nat → Int
  | 0 => 0
  | n + 1 => sumN g n + g n
theorem sumN_le {g h : Nat → Int} {n : Nat} (hh : ∀ i, i < n → g i ≤ h i) : sumN g n ≤ sumN h n := by
  induction n with
  | zero => simp [sumN]
  | succ n ih => have := ih fun i hi => hh i (by omega); have := hh n (by omega); simp only [sumN]; omega
theorem sumN_congr {g h : Nat → Int} {n : Nat} (hh : ∀ i, i < n → g i = h i) : sumN g n = sumN h n := by
  induction n with
  | zero => rfl
  | succ n ih => simp only [sumN]; rw [ih fun i hi => hh i (by omega), hh n (by omega)]
theorem sumN_lt {g h : Nat → Int} {n : Nat} (hh : ∀ i, i < n → g i ≤ h i) {k : Nat} (hk : k < n) (hs : g k < h k) : sumN g n < sumN h n := by
  induction n with
  | zero => omega
  | succ n ih =>
    simp only [sumN]
    by_cases e : k = n
    · subst e; have := sumN_le (g := g) (h := h) (n := k) fun i hi => hh i (by omega); omega
    · have := ih (fun i hi => hh i (by omega)) (by omega); have := hh n (by omega); omega
theorem sumN_add (g h : Nat → Int) (n : Nat) : sumN (fun i => g i + h i) n = sumN g n + sumN h n := by
  induction n with
  | zero => rfl
  | succ n ih => simp only [sumN]; rw [ih]; omega
theorem sumN_zero (n : Nat) : sumN (fun _ => 0) n = 0 := by
  induction n with
  | zero => rfl
  | succ n ih => simp only [sumN]; rw [ih]; rfl
/-- 1 at one place. -/
theorem sumN_one (j n : Nat) : sumN (fun i => if i = j then 1 else 0) n = if j < n then 1 else 0 := by
  induction n with
  | zero => simp [sumN]
  | succ n ih =>
    simp only [sumN]; rw [ih]
    by_cases h1 : j < n
    · rw [if_pos h1, if_neg (by omega), if_pos (by omega)]; rfl
    · by_cases h2 : n = j
      · rw [if_neg h1, if_pos h2, if_pos (by omega)]; rfl
      · rw [if_neg h1, if_neg h2, if_neg (by omega)]; rfl
/-- How often i ran ahead of tick k. -/
def cnt (f : Nat → Option Nat) (i : Nat) : Nat → Int
  | 0 => 0
  | k + 1 => cnt f i k + if f k = some i then 1 else 0
theorem cnt_mono (f : Nat → Option Nat) (i : Nat) {a b : Nat} (h : a ≤ b) : cnt f i a ≤ cnt f i b := by
  induction b with
  | zero => obtain rfl : a = 0 := by omega
            exact Int.le_refl _
  | succ b ih =>
    by_cases e : a = b + 1
    · subst e; exact Int.le_refl _
    · have := ih (by omega); simp only [cnt]; split <;> omega
theorem cnt_nonneg (f : Nat → Option Nat) (i k : Nat) : 0 ≤ cnt f i k := by
  have := cnt_mono f i (Nat.zero_le k); simpa [cnt] using this
theorem cnt_le (f : Nat → Option Nat) (i k : Nat) : cnt f i k ≤ k := by
  induction k with
  | zero => simp [cnt]
  | succ k ih => simp only [cnt]; split <;> omega
theorem cnt_congr {f g : Nat → Option Nat} {i k : Nat} (h : ∀ m, m < k → f m = g m) : cnt f i k = cnt g i k := by
  induction k with
  | zero => rfl
  | succ k ih => simp only [cnt]; rw [ih fun m hm => h m (by omega), h k (by omega)]
/-- Where it does not run, its count stays. -/
theorem cnt_still {f : Nat → Option Nat} {i a b : Nat} (hab : a ≤ b) (h : ∀ k, a ≤ k → k < b → f k ≠ some i) : cnt f i b = cnt f i a := by
  induction b with
  | zero => obtain rfl : a = 0 := by omega
            rfl
  | succ b ih =>
    by_cases e : a = b + 1
    · subst e; rfl
    · simp only [cnt]; rw [if_neg (h b (by omega) (by omega)), ih (by omega) fun k h1 h2 => h k h1 (by omega)]; omega
/-- In all no more ran than ticks went by. -/
theorem sum_cnt_le (f : Nat → Option Nat) (n : Nat) {a b : Nat} (hab : a ≤ b) : sumN (fun i => cnt f i b - cnt f i a) n ≤ (b : Int) - a := by
  induction b with
  | zero =>
    obtain rfl : a = 0 := by omega
    have := sumN_zero n
    simp [cnt, this]
  | succ b ih =>
    by_cases e : a = b + 1
    · subst e
      rw [sumN_congr (h := fun _ => 0) (fun i _ => by omega), sumN_zero]; omega
    · have h1 := ih (by omega)
      have h2 : sumN (fun i => cnt f i (b + 1) - cnt f i a) n = sumN (fun i => cnt f i b - cnt f i a) n + sumN (fun i => if f b = some i then 1 else 0) n := by
        rw [← sumN_add]
        exact sumN_congr fun i _ => by simp only [cnt]; omega
      have h3 : sumN (fun i => if f b = some i then (1 : Int) else 0) n ≤ 1 := by
        cases hb : f b with
        | none => rw [sumN_congr (h := fun _ => 0) (fun i _ => by simp), sumN_zero]; omega
        | some j =>
          rw [sumN_congr (h := fun i => if i = j then 1 else 0) (fun i _ => by simp [eq_comm]), sumN_one]
          split <;> omega
      omega

/-! ### What is asked within a span; the earliest deadline first -/
/-- What is asked within a span. -/
def dem (rel dl need : Nat → Int) (n : Nat) (s t : Int) : Int := sumN (fun i => if s ≤ rel i ∧ dl i ≤ t then need i else 0) n
/-- No span is asked too much. -/
def Calm (rel dl need : Nat → Int) (n : Nat) : Prop := ∀ s t : Int, 0 ≤ s → s ≤ t → dem rel dl need n s t ≤ t - s
/-- A schedule that runs the earliest deadline first. -/
structure EdfS (rel dl need : Nat → Int) (n : Nat) (f : Nat → Option Nat) : Prop where
  run : ∀ k i, f k = some i → i < n ∧ rel i ≤ k ∧ cnt f i k < need i ∧ ∀ j, j < n → rel j ≤ k → cnt f j k < need j → dl i ≤ dl j
  idle : ∀ k, f k = none → ∀ j, j < n → rel j ≤ k → need j ≤ cnt f j k
theorem EdfS.le {rel dl need : Nat → Int} {n : Nat} {f : Nat → Option Nat} (h : EdfS rel dl need n f) (hn : ∀ i, i < n → 0 ≤ need i) (i : Nat) (hi : i < n) (k : Nat) : cnt f i k ≤ need i := by
  induction k with
  | zero => have := hn i hi; simpa [cnt] using this
  | succ k ih =>
    simp only [cnt]
    split
    · rename_i e; have := (h.run k i e).2.2.1; omega
    · omega
/-- From the last s on ahead of D where P does not hold. -/
theorem last_gap (P : Nat → Prop) (D : Nat) : ∃ s, s ≤ D ∧ (∀ k, s ≤ k → k < D → P k) ∧ (s = 0 ∨ ∃ m, s = m + 1 ∧ ¬ P m) := by
  classical
  induction D with
  | zero => exact ⟨0, Nat.le_refl _, fun k _ h => by omega, .inl rfl⟩
  | succ D ih =>
    by_cases hp : P D
    · obtain ⟨s, h1, h2, h3⟩ := ih
      refine ⟨s, by omega, fun k hk hkD => ?_, h3⟩
      by_cases e : k = D
      · subst e; exact hp
      · exact h2 k hk (by omega)
    · exact ⟨D + 1, Nat.le_refl _, fun k h1 h2 => by omega, .inr ⟨D, rfl, hp⟩⟩
/-- Where no span is asked too much, the earliest deadline first has each done by its deadline. -/
theorem EdfS.meets {rel dl need : Nat → Int} {n : Nat} {f : Nat → Option Nat} (h : EdfS rel dl need n f) (hn : ∀ i, i < n → 0 ≤ need i) (h0 : ∀ i, i < n → 0 ≤ rel i) (hc : Calm rel dl need n)
    (i : Nat) (hi : i < n) (D : Nat) (hD : dl i = D) : need i ≤ cnt f i D := by
  refine Classical.byContradiction fun hlt => ?_
  obtain ⟨s, hs, hgood, hgap⟩ := last_gap (fun k => ∃ j, f k = some j ∧ dl j ≤ D) D
  have ha : ∀ j, j < n → dl j ≤ D → rel j < s → need j ≤ cnt f j s := by
    intro j hj hd hr
    rcases hgap with e | ⟨m, rfl, hm⟩
    · subst e; have := h0 j hj; omega
    · have hrm : rel j ≤ m := by omega
      have hmono := cnt_mono f j (Nat.le_succ m)
      refine Classical.byContradiction fun hc' => ?_
      have hlt' : cnt f j m < need j := by
        have : cnt f j m ≤ cnt f j (m + 1) := hmono
        omega
      cases hfm : f m with
      | none => have := h.idle m hfm j hj hrm; omega
      | some j' =>
        have := (h.run m j' hfm).2.2.2 j hj hrm hlt'
        exact hm ⟨j', hfm, by omega⟩
  have hri : (s : Int) ≤ rel i := by
    refine Classical.byContradiction fun hc' => ?_
    have h1 := ha i hi (by omega) (by omega)
    have h2 := cnt_mono f i hs
    omega
  have hrun : ∀ k, s ≤ k → k < D → ∃ j, f k = some j ∧ j < n ∧ (s : Int) ≤ rel j ∧ dl j ≤ D := by
    intro k h1 h2
    obtain ⟨j, hj, hd⟩ := hgood k h1 h2
    obtain ⟨a1, a2, a3, _⟩ := h.run k j hj
    refine ⟨j, hj, a1, ?_, hd⟩
    refine Classical.byContradiction fun hc' => ?_
    have b1 := ha j a1 hd (by omega)
    have b2 := cnt_mono f j h1
    omega
  have hsum : ∀ m, s ≤ m → m ≤ D → (m : Int) - s = sumN (fun j => if (s : Int) ≤ rel j ∧ dl j ≤ D then cnt f j m - cnt f j s else 0) n := by
    intro m
    induction m with
    | zero =>
      intro h1 _
      obtain rfl : s = 0 := by omega
      rw [sumN_congr (h := fun _ => 0) (fun j _ => by split <;> omega), sumN_zero]; omega
    | succ m ih =>
      intro h1 h2
      by_cases e : s = m + 1
      · subst e
        rw [sumN_congr (h := fun _ => 0) (fun j _ => by split <;> omega), sumN_zero]; omega
      · have h3 := ih (by omega) (by omega)
        obtain ⟨j, hj, hjn, hjr, hjd⟩ := hrun m (by omega) (by omega)
        have h4 : sumN (fun j => if (s : Int) ≤ rel j ∧ dl j ≤ D then cnt f j (m + 1) - cnt f j s else 0) n = sumN (fun j => if (s : Int) ≤ rel j ∧ dl j ≤ D then cnt f j m - cnt f j s else 0) n + sumN (fun i => if i = j then 1 else 0) n := by
          rw [← sumN_add]
          refine sumN_congr fun i _ => ?_
          simp only [cnt, hj, Option.some.injEq]
          by_cases ei : i = j
          · subst ei
            simp only [hjr, hjd, and_self, if_true]; omega
          · have ei' : ¬ j = i := fun x => ei x.symm
            simp only [ei, ei', if_false]; split <;> omega
        rw [sumN_one, if_pos hjn] at h4
        omega
  have hsD := hsum D hs (Nat.le_refl _)
  have hlt2 : sumN (fun j => if (s : Int) ≤ rel j ∧ dl j ≤ D then cnt f j D - cnt f j s else 0) n < dem rel dl need n s D := by
    refine sumN_lt (k := i) (fun j hj => ?_) hi ?_
    · have := h.le hn j hj D
      have := cnt_nonneg f j s
      split <;> omega
    · have := cnt_nonneg f i s
      have hdi : dl i ≤ D := by omega
      simp only [hri, hdi, and_self, if_true]; omega
  have := hc s D (by omega) (by omega)
  omega
/-- Whatever schedule has all done within their spans, no span is asked too much. -/
theorem calm_of {rel dl need : Nat → Int} {n : Nat} {f : Nat → Option Nat} {T : Nat} (hf : ∀ k j, k < T → f k = some j → rel j ≤ k ∧ (k : Int) < dl j) (hd : ∀ j, j < n → need j ≤ cnt f j T) : Calm rel dl need n := by
  intro s t h0 hst
  obtain ⟨a, rfl⟩ := Int.eq_ofNat_of_zero_le h0
  obtain ⟨b, rfl⟩ := Int.eq_ofNat_of_zero_le (Int.le_trans h0 hst)
  -- the schedule, cut at T
  let g : Nat → Option Nat := fun k => if k < T then f k else none
  have hg : ∀ k j, g k = some j → rel j ≤ k ∧ (k : Int) < dl j := fun k j h => by
    simp only [g] at h
    split at h
    · rename_i hk; exact hf k j hk h
    · cases h
  have hgT : ∀ j, cnt g j T = cnt f j T := fun j => cnt_congr fun m hm => by simp [g, hm]
  have key : dem rel dl need n a b ≤ sumN (fun j => cnt g j b - cnt g j a) n := by
    refine sumN_le fun j hj => ?_
    have hab : a ≤ b := by omega
    have hmono := cnt_mono g j hab
    split
    · rename_i hc
      have e1 : cnt g j a = 0 := by
        have := cnt_still (f := g) (i := j) (Nat.zero_le a) fun k _ hk e => by have := hg k j e; omega
        simpa [cnt] using this
      have e2 : cnt g j T ≤ cnt g j b := by
        by_cases hT : T ≤ b
        · exact cnt_mono g j hT
        · have := cnt_still (f := g) (i := j) (a := b) (b := T) (by omega) fun k hk _ e => by have := hg k j e; omega
          omega
      have := hd j hj
      have := hgT j
      omega
    · omega
  have := sum_cnt_le g n (a := a) (b := b) (by omega)
  omega
/-- Jobs that need no more: no span is asked more. -/
theorem Calm.mono {rel dl need need' : Nat → Int} {n : Nat} (h : Calm rel dl need n) (hn : ∀ i, i < n → need' i ≤ need i) : Calm rel dl need' n := fun s t h0 hst => by
  have h1 := h s t h0 hst
  have : dem rel dl need' n s t ≤ dem rel dl need n s t := sumN_le fun i hi => by
    have := hn i hi
    split <;> omega
  omega

/-! ### The schedule of jobs -/
/-- May it run in tick k, behind this trace? -/
def mayRun (l : List J) (need : Nat → Int) (t : List (Option Nat)) (i : Nat) : Bool := decide (at0 J.rel l i ≤ t.length) && decide ((t.count (some i) : Int) < need i)
/-- The trace of the first k ticks. -/
def edfT (l : List J) (need : Nat → Int) : Nat → List (Option Nat)
  | 0 => []
  | k + 1 => edfT l need k ++ [pick l (mayRun l need (edfT l need k))]
/-- Who runs in tick k. -/
def edfF (l : List J) (need : Nat → Int) (k : Nat) : Option Nat := pick l (mayRun l need (edfT l need k))
theorem edfT_length (l : List J) (need : Nat → Int) (k : Nat) : (edfT l need k).length = k := by
  induction k with
  | zero => rfl
  | succ k ih => simp [edfT, ih]
theorem edfT_count (l : List J) (need : Nat → Int) (k i : Nat) : ((edfT l need k).count (some i) : Int) = cnt (edfF l need) i k := by
  induction k with
  | zero => rfl
  | succ k ih =>
    simp only [edfT, cnt, List.count_append, List.count_singleton, Int.natCast_add, ih, edfF]
    by_cases e : pick l (mayRun l need (edfT l need k)) = some i <;> simp [e]
theorem edfT_eq (l : List J) (need : Nat → Int) (k : Nat) : edfT l need k = (List.range k).map (edfF l need) := by
  induction k with
  | zero => rfl
  | succ k ih => rw [List.range_succ, List.map_append, ← ih]; rfl
theorem edfT_take (l : List J) (need : Nat → Int) {k m : Nat} (h : k ≤ m) : (edfT l need m).take k = edfT l need k := by
  rw [edfT_eq, edfT_eq, ← List.map_take, List.take_range, Nat.min_eq_left h]
theorem edf_is (l : List J) (need : Nat → Int) : EdfS (at0 J.rel l) (at0 J.dl l) need l.length (edfF l need) := by
  refine ⟨fun k i h => ?_, fun k h j hj hr => ?_⟩
  · obtain ⟨h1, h2, h3⟩ := pick_some h
    simp only [mayRun, edfT_length, edfT_count, Bool.and_eq_true, decide_eq_true_eq] at h2 h3
    exact ⟨h1, h2.1, h2.2, fun j hj hr hc => h3 j hj ⟨hr, hc⟩⟩
  · have := pick_none h j hj
    simp only [mayRun, edfT_length, edfT_count, Bool.and_eq_false_iff, decide_eq_false_iff_not] at this
    omega
end Go.Proofs.YtnnmakkbnfckmaaDoor
