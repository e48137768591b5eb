/- Plain laws of a stable sort by a number: what keeps each class in its order, what a turn of two blocks does, and that what is sorted so is one row alone. -/
import Derived.Sort.LotA
import Derived.Sort.WalkA
namespace Go.Proofs.YtnnmakkbnfckmaaDoor
open Go.Sort
variable {α : Type} {key : α → Int}

/-- The row of what f says from a up to b. -/
def seg (f : Nat → α) (a b : Nat) : List α := (List.range' a (b - a)).map f
theorem seg_nil (f : Nat → α) {a b : Nat} (h : b ≤ a) : seg f a b = [] := by
  have : b - a = 0 := by omega
  simp [seg, this]
theorem seg_split (f : Nat → α) {a m b : Nat} (h : a ≤ m) (k : m ≤ b) : seg f a b = seg f a m ++ seg f m b := by
  unfold seg
  rw [← List.map_append, show b - a = (m - a) + (b - m) by omega, ← List.range'_append, show a + 1 * (m - a) = m by omega]
theorem seg_congr {f g : Nat → α} {a b : Nat} (h : ∀ i, a ≤ i → i < b → g i = f i) : seg g a b = seg f a b := by
  unfold seg
  refine List.map_congr_left fun i hi => ?_
  have := List.mem_range'_1.1 hi
  exact h i this.1 (by omega)
theorem seg_shift {f g : Nat → α} {a b c d : Nat} (hl : b - a = d - c) (h : ∀ i, i < b - a → g (a + i) = f (c + i)) : seg g a b = seg f c d := by
  unfold seg
  rw [← hl]
  apply List.ext_getElem (by simp)
  intro i h1 h2
  simp at h1
  simpa using h i h1
theorem mem_seg {f : Nat → α} {a b : Nat} {x : α} : x ∈ seg f a b ↔ ∃ i, a ≤ i ∧ i < b ∧ f i = x := by
  unfold seg
  simp only [List.mem_map, List.mem_range'_1]
  constructor
  · rintro ⟨i, h, rfl⟩; exact ⟨i, h.1, by omega, rfl⟩
  · rintro ⟨i, h, k, rfl⟩; exact ⟨i, ⟨h, by omega⟩, rfl⟩
theorem seg_length (f : Nat → α) (a b : Nat) : (seg f a b).length = b - a := by simp [seg]
theorem seg_one (f : Nat → α) (a : Nat) : seg f a (a + 1) = [f a] := by simp [seg]

/-- Those of one class, in order. -/
def cls (key : α → Int) (c : Int) (l : List α) : List α := l.filter fun x => decide (key x = c)
theorem cls_append (c : Int) (l r : List α) : cls key c (l ++ r) = cls key c l ++ cls key c r := by simp [cls]
theorem cls_nil_of (c : Int) (l : List α) (h : ∀ x ∈ l, key x ≠ c) : cls key c l = [] := by
  unfold cls
  rw [List.filter_eq_nil_iff]
  intro x hx
  simp [h x hx]
theorem mem_cls {c : Int} {l : List α} {x : α} : x ∈ cls key c l ↔ x ∈ l ∧ key x = c := by simp [cls]

/-- From a up to b each class keeps its order; the rest is as it was. -/
structure StabF (key : α → Int) (a b : Nat) (f g : Nat → α) : Prop where
  out : ∀ i, i < a ∨ b ≤ i → g i = f i
  cls : ∀ c, cls key c (seg g a b) = cls key c (seg f a b)
theorem StabF.refl (a b : Nat) (f : Nat → α) : StabF key a b f f := ⟨fun _ _ => rfl, fun _ => rfl⟩
theorem StabF.trans {a b : Nat} {f g h : Nat → α} (u : StabF key a b f g) (v : StabF key a b g h) : StabF key a b f h :=
  ⟨fun i hi => (v.out i hi).trans (u.out i hi), fun c => (v.cls c).trans (u.cls c)⟩
theorem StabF.mono {a b a' b' : Nat} {f g : Nat → α} (u : StabF key a b f g) (h1 : a' ≤ a) (h2 : a ≤ b) (h3 : b ≤ b') : StabF key a' b' f g := by
  refine ⟨fun i hi => u.out i (by omega), fun c => ?_⟩
  rw [seg_split g h1 (Nat.le_trans h2 h3), seg_split f h1 (Nat.le_trans h2 h3), seg_split g h2 h3, seg_split f h2 h3]
  simp only [cls_append, u.cls c]
  rw [seg_congr (f := f) (g := g) (a := a') fun i _ h => u.out i (Or.inl h), seg_congr (f := f) (g := g) (a := b) fun i h _ => u.out i (Or.inr h)]
theorem StabF.mem {a b : Nat} {f g : Nat → α} (u : StabF key a b f g) {x : α} (h : x ∈ seg g a b) : x ∈ seg f a b := by
  have := u.cls (key x)
  have h2 : x ∈ Go.Proofs.YtnnmakkbnfckmaaDoor.cls key (key x) (seg g a b) := mem_cls.2 ⟨h, rfl⟩
  rw [this] at h2
  exact (mem_cls.1 h2).1
/-- From a up to b no number is less than one ahead of it. -/
def SortF (key : α → Int) (a b : Nat) (f : Nat → α) : Prop := ∀ i j, a ≤ i → i < j → j < b → key (f i) ≤ key (f j)
theorem SortF.congr {a b : Nat} {f g : Nat → α} (h : SortF key a b f) (e : ∀ i, a ≤ i → i < b → g i = f i) : SortF key a b g := fun i j h1 h2 h3 => by
  rw [e i h1 (by omega), e j (by omega) h3]; exact h i j h1 h2 h3
theorem SortF.sub {a b a' b' : Nat} {f : Nat → α} (h : SortF key a b f) (h1 : a ≤ a') (h2 : b' ≤ b) : SortF key a' b' f := fun i j x y z => h i j (by omega) y (by omega)
theorem SortF.le {a b : Nat} {f : Nat → α} (h : SortF key a b f) {i j : Nat} (h1 : a ≤ i) (h2 : i ≤ j) (h3 : j < b) : key (f i) ≤ key (f j) := by
  by_cases e : i = j
  · subst e; exact Int.le_refl _
  · exact h i j h1 (by omega) h3

/-- What lies from p up to m, and from m up to q, turned round. -/
def rotF (f : Nat → α) (p m q : Nat) (i : Nat) : α := if p ≤ i ∧ i < q then (if i < p + (q - m) then f (i - p + m) else f (i - (q - m))) else f i
theorem rotF_out (f : Nat → α) {p m q i : Nat} (h : i < p ∨ q ≤ i) : rotF f p m q i = f i := by
  rw [rotF, if_neg (by omega)]
theorem rotF_lo (f : Nat → α) {p m q i : Nat} (hm : p ≤ m) (hq : m ≤ q) (h1 : p ≤ i) (h2 : i < p + (q - m)) : rotF f p m q i = f (i - p + m) := by
  rw [rotF, if_pos (by omega), if_pos h2]
theorem rotF_hi (f : Nat → α) {p m q i : Nat} (h1 : p + (q - m) ≤ i) (h2 : i < q) : rotF f p m q i = f (i - (q - m)) := by
  rw [rotF, if_pos (by omega), if_neg (by omega)]
theorem seg_rot (f : Nat → α) {p m q : Nat} (hm : p ≤ m) (hq : m ≤ q) : seg (rotF f p m q) p q = seg f m q ++ seg f p m := by
  rw [seg_split _ (show p ≤ p + (q - m) by omega) (show p + (q - m) ≤ q by omega)]
  congr 1
  · refine seg_shift (by omega) fun i hi => ?_
    rw [rotF_lo f hm hq (by omega) (by omega), show p + i - p + m = m + i by omega]
  · refine seg_shift (by omega) fun i hi => ?_
    rw [rotF_hi f (by omega) (by omega), show p + (q - m) + i - (q - m) = p + i by omega]
theorem rot_stab (f : Nat → α) {p m q : Nat} (hm : p ≤ m) (hq : m ≤ q) (h : ∀ i j, p ≤ i → i < m → m ≤ j → j < q → key (f j) ≠ key (f i)) : StabF key p q f (rotF f p m q) := by
  refine ⟨fun i hi => rotF_out f hi, fun c => ?_⟩
  rw [seg_rot f hm hq, seg_split f hm hq, cls_append, cls_append]
  by_cases e : ∃ x ∈ seg f p m, key x = c
  · obtain ⟨x, hx, e⟩ := e
    obtain ⟨i, h1, h2, rfl⟩ := mem_seg.1 hx
    rw [cls_nil_of c (seg f m q), List.append_nil, List.nil_append]
    intro y hy
    obtain ⟨j, h3, h4, rfl⟩ := mem_seg.1 hy
    rw [← e]; exact h i j h1 h2 h3 h4
  · rw [cls_nil_of c (seg f p m), List.append_nil, List.nil_append]
    intro x hx k
    exact e ⟨x, hx, k⟩

/-- What lies from a on and from b on, n long each, changed one for the other. -/
def swapF (f : Nat → α) (a b n : Nat) (i : Nat) : α := if a ≤ i ∧ i < a + n then f (i - a + b) else if b ≤ i ∧ i < b + n then f (i - b + a) else f i
theorem rot_swap_lo (f : Nat → α) {m i j : Nat} (hi : j < i) (him : i ≤ m) (x : Nat) : rotF (swapF f (m - i) m j) (m - (i - j)) m (m + j) x = rotF f (m - i) m (m + j) x := by
  unfold rotF swapF
  repeat' split
  all_goals first | rfl | omega | (congr 1; omega)
theorem rot_swap_hi (f : Nat → α) {m i j : Nat} (hi : i < j) (him : i ≤ m) (x : Nat) : rotF (swapF f (m - i) (m + j - i) i) (m - i) m (m + (j - i)) x = rotF f (m - i) m (m + j) x := by
  unfold rotF swapF
  repeat' split
  all_goals first | rfl | omega | (congr 1; omega)
theorem rot_swap_eq (f : Nat → α) {m i : Nat} (him : i ≤ m) (x : Nat) : swapF f (m - i) m i x = rotF f (m - i) m (m + i) x := by
  unfold rotF swapF
  repeat' split
  all_goals first | rfl | omega | (congr 1; omega)

/-- What is behind a cut of two sorted rows: the turn of the two middle parts leaves two pairs that can be merged each for itself. -/
theorem cut_turned {f : Nat → α} {a s m e b : Nat} (h1 : a ≤ s) (h2 : s ≤ m) (h3 : m ≤ e) (h4 : e ≤ b) (u : SortF key a m f) (v : SortF key m b f)
    (hl : ∀ i j, a ≤ i → i < s → e ≤ j → j < b → key (f i) ≤ key (f j)) (hg : ∀ i j, s ≤ i → i < m → m ≤ j → j < e → key (f j) < key (f i)) :
    StabF key a b f (rotF f s m e) ∧ SortF key a s (rotF f s m e) ∧ SortF key s (s + (e - m)) (rotF f s m e) ∧ SortF key (s + (e - m)) e (rotF f s m e) ∧ SortF key e b (rotF f s m e) ∧
      ∀ i j, a ≤ i → i < s + (e - m) → s + (e - m) ≤ j → j < b → key (rotF f s m e i) ≤ key (rotF f s m e j) := by
  have lo : ∀ i, s ≤ i → i < s + (e - m) → rotF f s m e i = f (i - s + m) := fun i x y => rotF_lo f h2 h3 x y
  have hi : ∀ i, s + (e - m) ≤ i → i < e → rotF f s m e i = f (i - (e - m)) := fun i x y => rotF_hi f x y
  have ot : ∀ i, i < s ∨ e ≤ i → rotF f s m e i = f i := fun i x => rotF_out f x
  refine ⟨(rot_stab f h2 h3 fun i j x y z w => ?_).mono h1 (Nat.le_trans h2 h3) h4, ?_, ?_, ?_, ?_, ?_⟩
  · have := hg i j x y z w; omega
  · intro i j x y z
    rw [ot i (by omega), ot j (by omega)]; exact u i j x y (by omega)
  · intro i j x y z
    rw [lo i x (by omega), lo j (by omega) z]; exact v _ _ (by omega) (by omega) (by omega)
  · intro i j x y z
    rw [hi i x (by omega), hi j (by omega) z]; exact u _ _ (by omega) (by omega) (by omega)
  · intro i j x y z
    rw [ot i (by omega), ot j (by omega)]; exact v i j (by omega) y (by omega)
  · intro i j x y z w
    by_cases ci : i < s
    · rw [ot i (Or.inl ci)]
      by_cases cj : j < e
      · rw [hi j z cj]; exact u _ _ x (by omega) (by omega)
      · rw [ot j (by omega)]; exact hl i j x ci (by omega) w
    · rw [lo i (by omega) y]
      by_cases cj : j < e
      · rw [hi j z cj]; exact Int.le_of_lt (hg _ _ (by omega) (by omega) (by omega) (by omega))
      · rw [ot j (by omega)]; exact v _ _ (by omega) (by omega) w
/-- .. and the two merged make one. -/
theorem both_merged {f g g1 g2 : Nat → α} {a t b : Nat} (h1 : a ≤ t) (h2 : t ≤ b) (u : StabF key a b f g) (hx : ∀ i j, a ≤ i → i < t → t ≤ j → j < b → key (g i) ≤ key (g j))
    (v : StabF key a t g g1) (vs : SortF key a t g1) (w : StabF key t b g1 g2) (ws : SortF key t b g2) : StabF key a b f g2 ∧ SortF key a b g2 := by
  refine ⟨u.trans ((v.mono (Nat.le_refl _) h1 h2).trans (w.mono h1 h2 (Nat.le_refl _))), fun i j x y z => ?_⟩
  by_cases cj : j < t
  · rw [w.out i (by omega), w.out j (Or.inl cj)]; exact vs i j x y cj
  · by_cases ci : i < t
    · obtain ⟨i', a1, a2, e1⟩ := mem_seg.1 (v.mem (mem_seg.2 ⟨i, x, ci, rfl⟩))
      have hj : g2 j ∈ seg g1 t b := w.mem (mem_seg.2 ⟨j, by omega, z, rfl⟩)
      rw [seg_congr (f := g) fun i hi _ => v.out i (Or.inr hi)] at hj
      obtain ⟨j', b1, b2, e2⟩ := mem_seg.1 hj
      rw [w.out i (Or.inl ci), ← e1, ← e2]
      exact hx i' j' a1 a2 b1 b2
    · exact ws i j (by omega) y z

/-! ### A sorted row with given classes is one row alone -/
theorem cls_one {l r : List α} (hl : l.Pairwise fun x y => key x ≤ key y) (hr : r.Pairwise fun x y => key x ≤ key y) (h : ∀ c, cls key c l = cls key c r) : l = r := by
  induction l generalizing r with
  | nil =>
    cases r with
    | nil => rfl
    | cons y r =>
      have : y ∈ cls key (key y) (y :: r) := mem_cls.2 ⟨List.mem_cons_self, rfl⟩
      rw [← h] at this
      simp [cls] at this
  | cons x l ih =>
    cases r with
    | nil =>
      have : x ∈ cls key (key x) (x :: l) := mem_cls.2 ⟨List.mem_cons_self, rfl⟩
      rw [h] at this
      simp [cls] at this
    | cons y r =>
      have hx : x ∈ y :: r := by
        have : x ∈ cls key (key x) (x :: l) := mem_cls.2 ⟨List.mem_cons_self, rfl⟩
        rw [h] at this
        exact (mem_cls.1 this).1
      have hy : y ∈ x :: l := by
        have : y ∈ cls key (key y) (y :: r) := mem_cls.2 ⟨List.mem_cons_self, rfl⟩
        rw [← h] at this
        exact (mem_cls.1 this).1
      have e1 : key y ≤ key x := by
        rcases List.mem_cons.1 hx with e | hx
        · rw [e]; exact Int.le_refl _
        · exact (List.pairwise_cons.1 hr).1 _ hx
      have e2 : key x ≤ key y := by
        rcases List.mem_cons.1 hy with e | hy
        · rw [e]; exact Int.le_refl _
        · exact (List.pairwise_cons.1 hl).1 _ hy
      have e : key x = key y := Int.le_antisymm e2 e1
      have hc := h (key x)
      simp only [cls, List.filter_cons, decide_true, if_true, e] at hc
      have hxy : x = y := (List.cons.inj hc).1
      subst hxy
      congr 1
      refine ih (List.pairwise_cons.1 hl).2 (List.pairwise_cons.1 hr).2 fun c => ?_
      have hc := h c
      simp only [cls, List.filter_cons] at hc
      unfold cls
      by_cases k : key x = c
      · simp only [k, decide_true, if_true] at hc; exact (List.cons.inj hc).2
      · simp only [k, decide_false] at hc; exact hc
theorem cls_perm [DecidableEq α] {l r : List α} (h : ∀ c, cls key c l = cls key c r) : l.Perm r := by
  rw [List.perm_iff_count]
  intro x
  have e : ∀ l : List α, (cls key (key x) l).count x = l.count x := fun l => by
    unfold cls
    rw [List.count_filter (by simp)]
  rw [← e l, ← e r, h]
theorem SortF.pairwise {a b : Nat} {f : Nat → α} (h : SortF key a b f) : (seg f a b).Pairwise fun x y => key x ≤ key y := by
  rw [List.pairwise_iff_getElem]
  intro i j hi hj hij
  simp only [seg_length] at hi hj
  simp only [seg, List.getElem_map, List.getElem_range', Nat.one_mul]
  exact h _ _ (by omega) (by omega) (by omega)

/-- The document's own way: behind all that are no greater. -/
def insK (key : α → Int) (r : List α) (x : α) : List α := r.takeWhile (fun y => decide (key y ≤ key x)) ++ x :: r.dropWhile (fun y => decide (key y ≤ key x))
def sortK (key : α → Int) (l : List α) : List α := l.foldl (insK key) []
theorem dropWhile_gt {r : List α} (hr : r.Pairwise fun x y => key x ≤ key y) (c : Int) : ∀ y ∈ r.dropWhile (fun y => decide (key y ≤ c)), c < key y := by
  induction r with
  | nil => simp
  | cons z r ih =>
    intro y hy
    rw [List.dropWhile_cons] at hy
    split at hy
    · exact ih (List.pairwise_cons.1 hr).2 y hy
    · rename_i h
      simp at h
      rcases List.mem_cons.1 hy with e | hy
      · rw [e]; exact h
      · have := (List.pairwise_cons.1 hr).1 y hy; omega
theorem takeWhile_le (r : List α) (c : Int) : ∀ y ∈ r.takeWhile (fun y => decide (key y ≤ c)), key y ≤ c := by
  induction r with
  | nil => simp
  | cons z r ih =>
    intro y hy
    rw [List.takeWhile_cons] at hy
    split at hy
    · rename_i h
      rcases List.mem_cons.1 hy with e | hy
      · rw [e]; simpa using h
      · exact ih y hy
    · simp at hy
theorem insK_sorted {r : List α} (hr : r.Pairwise fun x y => key x ≤ key y) (x : α) : (insK key r x).Pairwise fun x y => key x ≤ key y := by
  have hg := dropWhile_gt hr (key x)
  have hl := takeWhile_le (key := key) r (key x)
  unfold insK
  rw [List.pairwise_append]
  refine ⟨hr.sublist (List.takeWhile_sublist _), List.pairwise_cons.2 ⟨fun y hy => Int.le_of_lt (hg y hy), hr.sublist (List.dropWhile_sublist _)⟩, fun u hu v hv => ?_⟩
  have := hl u hu
  rcases List.mem_cons.1 hv with e | hv
  · rw [e]; exact this
  · have := hg v hv; omega
theorem insK_cls {r : List α} (hr : r.Pairwise fun x y => key x ≤ key y) (x : α) (c : Int) : cls key c (insK key r x) = cls key c (r ++ [x]) := by
  have hg := dropWhile_gt hr (key x)
  conv => rhs; rw [← List.takeWhile_append_dropWhile (p := fun y => decide (key y ≤ key x)) (l := r)]
  unfold insK
  simp only [cls_append, List.append_assoc]
  congr 1
  by_cases e : key x = c
  · have : cls key c (r.dropWhile fun y => decide (key y ≤ key x)) = [] := cls_nil_of _ _ fun y hy => by have := hg y hy; omega
    rw [this, show x :: r.dropWhile (fun y => decide (key y ≤ key x)) = [x] ++ r.dropWhile (fun y => decide (key y ≤ key x)) from rfl, cls_append, this]
    simp
  · have h1 : cls key c [x] = [] := cls_nil_of _ _ (by simp [e])
    rw [show x :: r.dropWhile (fun y => decide (key y ≤ key x)) = [x] ++ r.dropWhile (fun y => decide (key y ≤ key x)) from rfl, cls_append, h1]
    simp
theorem sortK_fold (l : List α) : ∀ r : List α, r.Pairwise (fun x y => key x ≤ key y) → (l.foldl (insK key) r).Pairwise (fun x y => key x ≤ key y) ∧ ∀ c, cls key c (l.foldl (insK key) r) = cls key c (r ++ l) := by
  induction l with
  | nil => intro r hr; exact ⟨hr, fun c => by simp⟩
  | cons x l ih =>
    intro r hr
    obtain ⟨h1, h2⟩ := ih (insK key r x) (insK_sorted hr x)
    refine ⟨h1, fun c => ?_⟩
    rw [List.foldl_cons, h2, cls_append, insK_cls hr, ← cls_append]
    simp
theorem sortK_sorted (l : List α) : (sortK key l).Pairwise fun x y => key x ≤ key y := (sortK_fold l [] List.Pairwise.nil).1
theorem sortK_cls (l : List α) (c : Int) : cls key c (sortK key l) = cls key c l := by unfold sortK; simpa using (sortK_fold l [] List.Pairwise.nil).2 c
theorem sortK_of {f g : Nat → α} {n : Nat} (h : StabF key 0 n f g) (hs : SortF key 0 n g) : seg g 0 n = sortK key (seg f 0 n) :=
  cls_one hs.pairwise (sortK_sorted _) fun c => by rw [h.cls, sortK_cls]

/-! ### Arrays -/
variable [Inhabited α]
/-- An array as a function. -/
def fa (d : Array α) (i : Nat) : α := d[i]!
theorem fa_toList (d : Array α) : seg (fa d) 0 d.size = d.toList := by
  apply List.ext_getElem (by simp [seg])
  intro i h1 h2
  simp at h2
  simp [seg, fa, getElem!_pos, h2]
theorem fa_swp (d : Array α) {i j : Nat} (hi : i < d.size) (hj : j < d.size) (x : Nat) : fa (swp d i j) x = if x = j then fa d i else if x = i then fa d j else fa d x := by
  unfold fa swp
  by_cases e : x = j
  · subst e
    rw [if_pos rfl, getElem!_set_same _ _ _ (by simpa using hj)]
  · rw [if_neg e, getElem!_set_other _ _ _ _ e]
    by_cases e2 : x = i
    · subst e2; rw [if_pos rfl, getElem!_set_same _ _ _ hi]
    · rw [if_neg e2, getElem!_set_other _ _ _ _ e2]
theorem swp_stab {d : Array α} {a b j : Nat} (h1 : a ≤ j) (h2 : j + 1 < b) (h3 : b ≤ d.size) (h : key (fa d (j + 1)) < key (fa d j)) : StabF key a b (fa d) (fa (swp d (j + 1) j)) := by
  have e : fa (swp d (j + 1) j) = rotF (fa d) j (j + 1) (j + 2) := by
    funext x
    rw [fa_swp d (by omega) (by omega)]
    unfold rotF
    repeat' split
    all_goals first | rfl | omega | (congr 1; omega)
  rw [e]
  refine (rot_stab (fa d) (by omega) (by omega) fun i k x y z w => ?_).mono h1 (by omega) (by omega)
  have : i = j := by omega
  have : k = j + 1 := by omega
  subst i k
  omega
theorem insInner_stab {lt : α → α → Bool} (hlt : ∀ x y, lt x y = decide (key x < key y)) {a b : Nat} (j : Nat) : ∀ d : Array α, j < b → b ≤ d.size → (insInner lt a j d).size = d.size ∧ StabF key a b (fa d) (fa (insInner lt a j d)) := by
  induction j with
  | zero => intro d _ _; exact ⟨rfl, StabF.refl ..⟩
  | succ j ih =>
    intro d h1 h2
    unfold insInner
    split
    · rename_i h
      simp only [Bool.and_eq_true, decide_eq_true_eq, hlt] at h
      have := ih (swp d (j + 1) j) (by omega) (by rw [size_swp]; exact h2)
      rw [size_swp] at this
      exact ⟨this.1, (swp_stab (by omega) h1 h2 h.2).trans this.2⟩
    · exact ⟨rfl, StabF.refl ..⟩
theorem insOuter_stab {lt : α → α → Bool} (hlt : ∀ x y, lt x y = decide (key x < key y)) {a b : Nat} (n : Nat) : ∀ (i : Nat) (d : Array α), b - i = n → b ≤ d.size → (insOuter lt a b i d).size = d.size ∧ StabF key a b (fa d) (fa (insOuter lt a b i d)) := by
  induction n with
  | zero => intro i d h _; rw [insOuter, if_neg (by omega)]; exact ⟨rfl, StabF.refl ..⟩
  | succ n ih =>
    intro i d h h2
    rw [insOuter, if_pos (by omega)]
    obtain ⟨s1, t1⟩ := insInner_stab hlt (a := a) i d (show i < b by omega) h2
    obtain ⟨s2, t2⟩ := ih (i + 1) (insInner lt a i d) (by omega) (by rw [s1]; exact h2)
    exact ⟨s2.trans s1, t1.trans t2⟩
omit [Inhabited α] in
theorem swo_key {lt : α → α → Bool} (hlt : ∀ x y, lt x y = decide (key x < key y)) : SWO lt :=
  ⟨fun x => by simp [hlt], fun x y z => by simp only [hlt, decide_eq_true_eq]; omega, fun x y z => by simp only [hlt, decide_eq_false_iff_not]; omega⟩
theorem insertion_stab {lt : α → α → Bool} (hlt : ∀ x y, lt x y = decide (key x < key y)) {a b : Nat} (d : Array α) (h1 : a ≤ b) (h2 : b ≤ d.size) :
    (insertionSort lt d a b).size = d.size ∧ StabF key a b (fa d) (fa (insertionSort lt d a b)) ∧ SortF key a b (fa (insertionSort lt d a b)) := by
  obtain ⟨s, t⟩ := insOuter_stab hlt (a := a) (b := b) _ (a + 1) d rfl h2
  refine ⟨s, t, fun i j x y z => ?_⟩
  have := (insertionSort_holds (swo_key hlt) d a b h1 h2).2 i j x y z
  rw [hlt] at this
  have := of_decide_eq_false this
  unfold fa
  omega

end Go.Proofs.YtnnmakkbnfckmaaDoor
