/- My own texts P0, P2, P3, P4, P5, P6, P7, P8, P9, P10 in one. -/
import Derived.Lib.IsU
import Derived.Lib.ValidU
import GoSem.Core.Utf8
import Derived.Sort.LotA
import Derived.Sort.WalkA
/- Plain words of names and jobs: what package job and chapter 8's own answer compute, over lists. No program in sight. -/
namespace Go.Proofs.YtnnmakkbnfckmaaDoor

/-- A job. -/
structure J where
  name : ByteArray
  rel : Int
  dl : Int
  bud : Int
  act : Int
  val : Int
  cln : Int
  hard : Bool

def digitB (r : Int) : Bool := decide (48 ≤ r) && decide (r ≤ 57)
/-- A rune that may not stand at place n of a name. -/
def badRune (n : Nat) (r : Int) : Bool := !Lib.isLetterU r && (n == 0 || (!digitB r && r != 95))
/-- name.Good's loop from byte pos on, n runes being read. -/
def nameGo (s : ByteArray) : Nat → Nat → Nat → Bool
  | 0, _, _ => false
  | f + 1, pos, n =>
    if pos < s.size then
      (if badRune n (Utf8.decode s pos).1 then false else nameGo s f (pos + (Utf8.decode s pos).2) (n + 1))
    else decide (1 ≤ n) && (decide (n ≤ 20) && Lib.validD s.data.toList)
def goodName (s : ByteArray) : Bool := nameGo s (s.size + 1) 0 0

/-- How many runes from pos on. -/
def lenGo (s : ByteArray) : Nat → Nat → Nat
  | 0, _ => 0
  | f + 1, pos => if pos < s.size then lenGo s f (pos + (Utf8.decode s pos).2) + 1 else 0
def lenR (s : ByteArray) : Nat := lenGo s (s.size + 1) 0
/-- The reference's loop over a name. -/
def refGo (s : ByteArray) : Nat → Nat → Bool
  | 0, _ => false
  | f + 1, pos =>
    if pos < s.size then
      (let r : Int := (Utf8.decode s pos).1
       if (pos == 0 && !Lib.isLetterU r) || (r == 65533 && (s.get! pos).toNat != 239) || (r != 95 && (decide (r < 48) || decide (57 < r)) && !Lib.isLetterU r) then false
       else refGo s f (pos + (Utf8.decode s pos).2))
    else true
def refName (s : ByteArray) : Bool := if lenR s < 1 ∨ 20 < lenR s then false else refGo s (s.size + 1) 0

/-- A place, or -1. -/
def idxI : Option Nat → Int
  | some i => i
  | none => -1
theorem idxI_some (i : Nat) : idxI (some i) = i := rfl
theorem idxI_none : idxI none = -1 := rfl

def inB (n a b : Int) : Bool := decide (a ≤ n) && decide (n ≤ b)
def timesB (j : J) : Bool := inB j.rel 0 10000 && (decide (j.rel < j.dl) && decide (j.dl ≤ 10000))
def worksB (j : J) : Bool := inB j.bud 1 1000 && (inB j.act 1 1000 && inB j.cln 0 100)
/-- job.Good. -/
def goodB (j : J) : Bool := goodName j.name && (timesB j && (worksB j && inB j.val 0 1000000))
def allB (l : List J) : Bool := decide (l.length ≤ 200) && l.all goodB
def runsB (j : J) : Bool := decide (j.act ≤ j.bud)
def chargeJ (j : J) : Int := if goodB j then j.bud + j.cln else 0
def workJ (j : J) : Int := if goodB j then (if runsB j then j.act else j.bud + j.cln) else 0
def maxDl (n : Int) (l : List J) : Int := l.foldl (fun n j => max n j.dl) n
def endJ (l : List J) : Int := if allB l then maxDl 0 l else 0

/-- Are jobs more than is asked of? -/
def heavyJ (most last : Int) (j : J) : Bool := decide (100 < j.name.size) || (decide (last < j.dl) && decide (j.dl ≤ 10000))
def heavyB (l : List J) (most last : Int) : Bool := decide (most < l.length) || l.any (heavyJ most last)

end Go.Proofs.YtnnmakkbnfckmaaDoor
/- Plain laws of a stable sort by a number: what keeps each class in its order, what a turn of two blocks does, and that what is sorted so is one row alone. -/
namespace Go.Proofs.YtnnmakkbnfckmaaDoor
open Go.Sort
variable {α : Type} {key : α → Int}

/-- The row of what f says from a up to b. -/
def seg (f : Nat → α) (a b : Nat) : List α := (List.range' a (b - a)).map f
theorem seg_nil (f : Nat → α) {a b : Nat} (h : b ≤ a) : seg f a b = [] := by
  have : b - a = 0 := by omega
  simp [seg, this]
theorem seg_split (f : Nat → α) {a m b : Nat} (h : a ≤ m) (k : m ≤ b) : seg f a b = seg f a m ++ seg f m b := by
  unfold seg
  rw [← List.map_append, show b - a = (m - a) + (b - m) by omega, ← List.range'_append, show a + 1 * (m - a) = m by omega]
theorem seg_congr {f g : Nat → α} {a b : Nat} (h : ∀ i, a ≤ i → i < b → g i = f i) : seg g a b = seg f a b := by
  unfold seg
  refine List.map_congr_left fun i hi => ?_
  have := List.mem_range'_1.1 hi
  exact h i this.1 (by omega)
theorem seg_shift {f g : Nat → α} {a b c d : Nat} (hl : b - a = d - c) (h : ∀ i, i < b - a → g (a + i) = f (c + i)) : seg g a b = seg f c d := by
  unfold seg
  rw [← hl]
  apply List.ext_getElem (by simp)
  intro i h1 h2
  simp at h1
  simpa using h i h1
theorem mem_seg {f : Nat → α} {a b : Nat} {x : α} : x ∈ seg f a b ↔ ∃ i, a ≤ i ∧ i < b ∧ f i = x := by
  unfold seg
  simp only [List.mem_map, List.mem_range'_1]
  constructor
  · rintro ⟨i, h, rfl⟩; exact ⟨i, h.1, by omega, rfl⟩
  · rintro ⟨i, h, k, rfl⟩; exact ⟨i, ⟨h, by omega⟩, rfl⟩
theorem seg_length (f : Nat → α) (a b : Nat) : (seg f a b).length = b - a := by simp [seg]
theorem seg_one (f : Nat → α) (a : Nat) : seg f a (a + 1) = [f a] := by simp [seg]

/-- Those of one class, in order. -/
def cls (key : α → Int) (c : Int) (l : List α) : List α := l.filter fun x => decide (key x = c)
theorem cls_append (c : Int) (l r : List α) : cls key c (l ++ r) = cls key c l ++ cls key c r := by simp [cls]
theorem cls_nil_of (c : Int) (l : List α) (h : ∀ x ∈ l, key x ≠ c) : cls key c l = [] := by
  unfold cls
  rw [List.filter_eq_nil_iff]
  intro x hx
  simp [h x hx]
theorem mem_cls {c : Int} {l : List α} {x : α} : x ∈ cls key c l ↔ x ∈ l ∧ key x = c := by simp [cls]

/-- From a up to b each class keeps its order; the rest is as it was. -/
structure StabF (key : α → Int) (a b : Nat) (f g : Nat → α) : Prop where
  out : ∀ i, i < a ∨ b ≤ i → g i = f i
  cls : ∀ c, cls key c (seg g a b) = cls key c (seg f a b)
theorem StabF.refl (a b : Nat) (f : Nat → α) : StabF key a b f f := ⟨fun _ _ => rfl, fun _ => rfl⟩
theorem StabF.trans {a b : Nat} {f g h : Nat → α} (u : StabF key a b f g) (v : StabF key a b g h) : StabF key a b f h :=
  ⟨fun i hi => (v.out i hi).trans (u.out i hi), fun c => (v.cls c).trans (u.cls c)⟩
theorem StabF.mono {a b a' b' : Nat} {f g : Nat → α} (u : StabF key a b f g) (h1 : a' ≤ a) (h2 : a ≤ b) (h3 : b ≤ b') : StabF key a' b' f g := by
  refine ⟨fun i hi => u.out i (by omega), fun c => ?_⟩
  rw [seg_split g h1 (Nat.le_trans h2 h3), seg_split f h1 (Nat.le_trans h2 h3), seg_split g h2 h3, seg_split f h2 h3]
  simp only [cls_append, u.cls c]
  rw [seg_congr (f := f) (g := g) (a := a') fun i _ h => u.out i (Or.inl h), seg_congr (f := f) (g := g) (a := b) fun i h _ => u.out i (Or.inr h)]
theorem StabF.mem {a b : Nat} {f g : Nat → α} (u : StabF key a b f g) {x : α} (h : x ∈ seg g a b) : x ∈ seg f a b := by
  have := u.cls (key x)
  have h2 : x ∈ Go.Proofs.YtnnmakkbnfckmaaDoor.cls key (key x) (seg g a b) := mem_cls.2 ⟨h, rfl⟩
  rw [this] at h2
  exact (mem_cls.1 h2).1
/-- From a up to b no number is less than one ahead of it. -/
def SortF (key : α → Int) (a b : Nat) (f : Nat → α) : Prop := ∀ i j, a ≤ i → i < j → j < b → key (f i) ≤ key (f j)
theorem SortF.congr {a b : Nat} {f g : Nat → α} (h : SortF key a b f) (e : ∀ i, a ≤ i → i < b → g i = f i) : SortF key a b g := fun i j h1 h2 h3 => by
  rw [e i h1 (by omega), e j (by omega) h3]; exact h i j h1 h2 h3
theorem SortF.sub {a b a' b' : Nat} {f : Nat → α} (h : SortF key a b f) (h1 : a ≤ a') (h2 : b' ≤ b) : SortF key a' b' f := fun i j x y z => h i j (by omega) y (by omega)
theorem SortF.le {a b : Nat} {f : Nat → α} (h : SortF key a b f) {i j : Nat} (h1 : a ≤ i) (h2 : i ≤ j) (h3 : j < b) : key (f i) ≤ key (f j) := by
  by_cases e : i = j
  · subst e; exact Int.le_refl _
  · exact h i j h1 (by omega) h3

/-- What lies from p up to m, and from m up to q, turned round. -/
def rotF (f : Nat → α) (p m q : Nat) (i : Nat) : α := if p ≤ i ∧ i < q then (if i < p + (q - m) then f (i - p + m) else f (i - (q - m))) else f i
theorem rotF_out (f : Nat → α) {p m q i : Nat} (h : i < p ∨ q ≤ i) : rotF f p m q i = f i := by
  rw [rotF, if_neg (by omega)]
theorem rotF_lo (f : Nat → α) {p m q i : Nat} (hm : p ≤ m) (hq : m ≤ q) (h1 : p ≤ i) (h2 : i < p + (q - m)) : rotF f p m q i = f (i - p + m) := by
  rw [rotF, if_pos (by omega), if_pos h2]
theorem rotF_hi (f : Nat → α) {p m q i : Nat} (h1 : p + (q - m) ≤ i) (h2 : i < q) : rotF f p m q i = f (i - (q - m)) := by
  rw [rotF, if_pos (by omega), if_neg (by omega)]
theorem seg_rot (f : Nat → α) {p m q : Nat} (hm : p ≤ m) (hq : m ≤ q) : seg (rotF f p m q) p q = seg f m q ++ seg f p m := by
  rw [seg_split _ (show p ≤ p + (q - m) by omega) (show p + (q - m) ≤ q by omega)]
  congr 1
  · refine seg_shift (by omega) fun i hi => ?_
    rw [rotF_lo f hm hq (by omega) (by omega), show p + i - p + m = m + i by omega]
  · refine seg_shift (by omega) fun i hi => ?_
    rw [rotF_hi f (by omega) (by omega), show p + (q - m) + i - (q - m) = p + i by omega]
theorem rot_stab (f : Nat → α) {p m q : Nat} (hm : p ≤ m) (hq : m ≤ q) (h : ∀ i j, p ≤ i → i < m → m ≤ j → j < q → key (f j) ≠ key (f i)) : StabF key p q f (rotF f p m q) := by
  refine ⟨fun i hi => rotF_out f hi, fun c => ?_⟩
  rw [seg_rot f hm hq, seg_split f hm hq, cls_append, cls_append]
  by_cases e : ∃ x ∈ seg f p m, key x = c
  · obtain ⟨x, hx, e⟩ := e
    obtain ⟨i, h1, h2, rfl⟩ := mem_seg.1 hx
    rw [cls_nil_of c (seg f m q), List.append_nil, List.nil_append]
    intro y hy
    obtain ⟨j, h3, h4, rfl⟩ := mem_seg.1 hy
    rw [← e]; exact h i j h1 h2 h3 h4
  · rw [cls_nil_of c (seg f p m), List.append_nil, List.nil_append]
    intro x hx k
    exact e ⟨x, hx, k⟩

/-- What lies from a on and from b on, n long each, changed one for the other. -/
def swapF (f : Nat → α) (a b n : Nat) (i : Nat) : α := if a ≤ i ∧ i < a + n then f (i - a + b) else if b ≤ i ∧ i < b + n then f (i - b + a) else f i
theorem rot_swap_lo (f : Nat → α) {m i j : Nat} (hi : j < i) (him : i ≤ m) (x : Nat) : rotF (swapF f (m - i) m j) (m - (i - j)) m (m + j) x = rotF f (m - i) m (m + j) x := by
  unfold rotF swapF
  repeat' split
  all_goals first | rfl | omega | (congr 1; omega)
theorem rot_swap_hi (f : Nat → α) {m i j : Nat} (hi : i < j) (him : i ≤ m) (x : Nat) : rotF (swapF f (m - i) (m + j - i) i) (m - i) m (m + (j - i)) x = rotF f (m - i) m (m + j) x := by
  unfold rotF swapF
  repeat' split
  all_goals first | rfl | omega | (congr 1; omega)
theorem rot_swap_eq (f : Nat → α) {m i : Nat} (him : i ≤ m) (x : Nat) : swapF f (m - i) m i x = rotF f (m - i) m (m + i) x := by
  unfold rotF swapF
  repeat' split
  all_goals first | rfl | omega | (congr 1; omega)

/-- What is behind a cut of two sorted rows: the turn of the two middle parts leaves two pairs that can be merged each for itself. -/
theorem cut_turned {f : Nat → α} {a s m e b : Nat} (h1 : a ≤ s) (h2 : s ≤ m) (h3 : m ≤ e) (h4 : e ≤ b) (u : SortF key a m f) (v : SortF key m b f)
    (hl : ∀ i j, a ≤ i → i < s → e ≤ j → j < b → key (f i) ≤ key (f j)) (hg : ∀ i j, s ≤ i → i < m → m ≤ j → j < e → key (f j) < key (f i)) :
    StabF key a b f (rotF f s m e) ∧ SortF key a s (rotF f s m e) ∧ SortF key s (s + (e - m)) (rotF f s m e) ∧ SortF key (s + (e - m)) e (rotF f s m e) ∧ SortF key e b (rotF f s m e) ∧
      ∀ i j, a ≤ i → i < s + (e - m) → s + (e - m) ≤ j → j < b → key (rotF f s m e i) ≤ key (rotF f s m e j) := by
  have lo : ∀ i, s ≤ i → i < s + (e - m) → rotF f s m e i = f (i - s + m) := fun i x y => rotF_lo f h2 h3 x y
  have hi : ∀ i, s + (e - m) ≤ i → i < e → rotF f s m e i = f (i - (e - m)) := fun i x y => rotF_hi f x y
  have ot : ∀ i, i < s ∨ e ≤ i → rotF f s m e i = f i := fun i x => rotF_out f x
  refine ⟨(rot_stab f h2 h3 fun i j x y z w => ?_).mono h1 (Nat.le_trans h2 h3) h4, ?_, ?_, ?_, ?_, ?_⟩
  · have := hg i j x y z w; omega
  · intro i j x y z
    rw [ot i (by omega), ot j (by omega)]; exact u i j x y (by omega)
  · intro i j x y z
    rw [lo i x (by omega), lo j (by omega) z]; exact v _ _ (by omega) (by omega) (by omega)
  · intro i j x y z
    rw [hi i x (by omega), hi j (by omega) z]; exact u _ _ (by omega) (by omega) (by omega)
  · intro i j x y z
    rw [ot i (by omega), ot j (by omega)]; exact v i j (by omega) y (by omega)
  · intro i j x y z w
    by_cases ci : i < s
    · rw [ot i (Or.inl ci)]
      by_cases cj : j < e
      · rw [hi j z cj]; exact u _ _ x (by omega) (by omega)
      · rw [ot j (by omega)]; exact hl i j x ci (by omega) w
    · rw [lo i (by omega) y]
      by_cases cj : j < e
      · rw [hi j z cj]; exact Int.le_of_lt (hg _ _ (by omega) (by omega) (by omega) (by omega))
      · rw [ot j (by omega)]; exact v _ _ (by omega) (by omega) w
/-- .. and the two merged make one. -/
theorem both_merged {f g g1 g2 : Nat → α} {a t b : Nat} (h1 : a ≤ t) (h2 : t ≤ b) (u : StabF key a b f g) (hx : ∀ i j, a ≤ i → i < t → t ≤ j → j < b → key (g i) ≤ key (g j))
    (v : StabF key a t g g1) (vs : SortF key a t g1) (w : StabF key t b g1 g2) (ws : SortF key t b g2) : StabF key a b f g2 ∧ SortF key a b g2 := by
  refine ⟨u.trans ((v.mono (Nat.le_refl _) h1 h2).trans (w.mono h1 h2 (Nat.le_refl _))), fun i j x y z => ?_⟩
  by_cases cj : j < t
  · rw [w.out i (by omega), w.out j (Or.inl cj)]; exact vs i j x y cj
  · by_cases ci : i < t
    · obtain ⟨i', a1, a2, e1⟩ := mem_seg.1 (v.mem (mem_seg.2 ⟨i, x, ci, rfl⟩))
      have hj : g2 j ∈ seg g1 t b := w.mem (mem_seg.2 ⟨j, by omega, z, rfl⟩)
      rw [seg_congr (f := g) fun i hi _ => v.out i (Or.inr hi)] at hj
      obtain ⟨j', b1, b2, e2⟩ := mem_seg.1 hj
      rw [w.out i (Or.inl ci), ← e1, ← e2]
      exact hx i' j' a1 a2 b1 b2
    · exact ws i j (by omega) y z

/-! ### A sorted row with given classes is one row alone -/
theorem cls_one {l r : List α} (hl : l.Pairwise fun x y => key x ≤ key y) (hr : r.Pairwise fun x y => key x ≤ key y) (h : ∀ c, cls key c l = cls key c r) : l = r := by
  induction l generalizing r with
  | nil =>
    cases r with
    | nil => rfl
    | cons y r =>
      have : y ∈ cls key (key y) (y :: r) := mem_cls.2 ⟨List.mem_cons_self, rfl⟩
      rw [← h] at this
      simp [cls] at this
  | cons x l ih =>
    cases r with
    | nil =>
      have : x ∈ cls key (key x) (x :: l) := mem_cls.2 ⟨List.mem_cons_self, rfl⟩
      rw [h] at this
      simp [cls] at this
    | cons y r =>
      have hx : x ∈ y :: r := by
        have : x ∈ cls key (key x) (x :: l) := mem_cls.2 ⟨List.mem_cons_self, rfl⟩
        rw [h] at this
        exact (mem_cls.1 this).1
      have hy : y ∈ x :: l := by
        have : y ∈ cls key (key y) (y :: r) := mem_cls.2 ⟨List.mem_cons_self, rfl⟩
        rw [← h] at this
        exact (mem_cls.1 this).1
      have e1 : key y ≤ key x := by
        rcases List.mem_cons.1 hx with e | hx
        · rw [e]; exact Int.le_refl _
        · exact (List.pairwise_cons.1 hr).1 _ hx
      have e2 : key x ≤ key y := by
        rcases List.mem_cons.1 hy with e | hy
        · rw [e]; exact Int.le_refl _
        · exact (List.pairwise_cons.1 hl).1 _ hy
      have e : key x = key y := Int.le_antisymm e2 e1
      have hc := h (key x)
      simp only [cls, List.filter_cons, decide_true, if_true, e] at hc
      have hxy : x = y := (List.cons.inj hc).1
      subst hxy
      congr 1
      refine ih (List.pairwise_cons.1 hl).2 (List.pairwise_cons.1 hr).2 fun c => ?_
      have hc := h c
      simp only [cls, List.filter_cons] at hc
      unfold cls
      by_cases k : key x = c
      · simp only [k, decide_true, if_true] at hc; exact (List.cons.inj hc).2
      · simp only [k, decide_false] at hc; exact hc
theorem cls_perm [DecidableEq α] {l r : List α} (h : ∀ c, cls key c l = cls key c r) : l.Perm r := by
  rw [List.perm_iff_count]
  intro x
  have e : ∀ l : List α, (cls key (key x) l).count x = l.count x := fun l => by
    unfold cls
    rw [List.count_filter (by simp)]
  rw [← e l, ← e r, h]
theorem SortF.pairwise {a b : Nat} {f : Nat → α} (h : SortF key a b f) : (seg f a b).Pairwise fun x y => key x ≤ key y := by
  rw [List.pairwise_iff_getElem]
  intro i j hi hj hij
  simp only [seg_length] at hi hj
  simp only [seg, List.getElem_map, List.getElem_range', Nat.one_mul]
  exact h _ _ (by omega) (by omega) (by omega)

/-- The document's own way: behind all that are no greater. -/
def insK (key : α → Int) (r : List α) (x : α) : List α := r.takeWhile (fun y => decide (key y ≤ key x)) ++ x :: r.dropWhile (fun y => decide (key y ≤ key x))
def sortK (key : α → Int) (l : List α) : List α := l.foldl (insK key) []
theorem dropWhile_gt {r : List α} (hr : r.Pairwise fun x y => key x ≤ key y) (c : Int) : ∀ y ∈ r.dropWhile (fun y => decide (key y ≤ c)), c < key y := by
  induction r with
  | nil => simp
  | cons z r ih =>
    intro y hy
    rw [List.dropWhile_cons] at hy
    split at hy
    · exact ih (List.pairwise_cons.1 hr).2 y hy
    · rename_i h
      simp at h
      rcases List.mem_cons.1 hy with e | hy
      · rw [e]; exact h
      · have := (List.pairwise_cons.1 hr).1 y hy; omega
theorem takeWhile_le (r : List α) (c : Int) : ∀ y ∈ r.takeWhile (fun y => decide (key y ≤ c)), key y ≤ c := by
  induction r with
  | nil => simp
  | cons z r ih =>
    intro y hy
    rw [List.takeWhile_cons] at hy
    split at hy
    · rename_i h
      rcases List.mem_cons.1 hy with e | hy
      · rw [e]; simpa using h
      · exact ih y hy
    · simp at hy
theorem insK_sorted {r : List α} (hr : r.Pairwise fun x y => key x ≤ key y) (x : α) : (insK key r x).Pairwise fun x y => key x ≤ key y := by
  have hg := dropWhile_gt hr (key x)
  have hl := takeWhile_le (key := key) r (key x)
  unfold insK
  rw [List.pairwise_append]
  refine ⟨hr.sublist (List.takeWhile_sublist _), List.pairwise_cons.2 ⟨fun y hy => Int.le_of_lt (hg y hy), hr.sublist (List.dropWhile_sublist _)⟩, fun u hu v hv => ?_⟩
  have := hl u hu
  rcases List.mem_cons.1 hv with e | hv
  · rw [e]; exact this
  · have := hg v hv; omega
theorem insK_cls {r : List α} (hr : r.Pairwise fun x y => key x ≤ key y) (x : α) (c : Int) : cls key c (insK key r x) = cls key c (r ++ [x]) := by
  have hg := dropWhile_gt hr (key x)
  conv => rhs; rw [← List.takeWhile_append_dropWhile (p := fun y => decide (key y ≤ key x)) (l := r)]
  unfold insK
  simp only [cls_append, List.append_assoc]
  congr 1
  by_cases e : key x = c
  · have : cls key c (r.dropWhile fun y => decide (key y ≤ key x)) = [] := cls_nil_of _ _ fun y hy => by have := hg y hy; omega
    rw [this, show x :: r.dropWhile (fun y => decide (key y ≤ key x)) = [x] ++ r.dropWhile (fun y => decide (key y ≤ key x)) from rfl, cls_append, this]
    simp
  · have h1 : cls key c [x] = [] := cls_nil_of _ _ (by simp [e])
    rw [show x :: r.dropWhile (fun y => decide (key y ≤ key x)) = [x] ++ r.dropWhile (fun y => decide (key y ≤ key x)) from rfl, cls_append, h1]
    simp
theorem sortK_fold (l : List α) : ∀ r : List α, r.Pairwise (fun x y => key x ≤ key y) → (l.foldl (insK key) r).Pairwise (fun x y => key x ≤ key y) ∧ ∀ c, cls key c (l.foldl (insK key) r) = cls key c (r ++ l) := by
  induction l with
  | nil => intro r hr; exact ⟨hr, fun c => by simp⟩
  | cons x l ih =>
    intro r hr
    obtain ⟨h1, h2⟩ := ih (insK key r x) (insK_sorted hr x)
    refine ⟨h1, fun c => ?_⟩
    rw [List.foldl_cons, h2, cls_append, insK_cls hr, ← cls_append]
    simp
theorem sortK_sorted (l : List α) : (sortK key l).Pairwise fun x y => key x ≤ key y := (sortK_fold l [] List.Pairwise.nil).1
theorem sortK_cls (l : List α) (c : Int) : cls key c (sortK key l) = cls key c l := by unfold sortK; simpa using (sortK_fold l [] List.Pairwise.nil).2 c
theorem sortK_of {f g : Nat → α} {n : Nat} (h : StabF key 0 n f g) (hs : SortF key 0 n g) : seg g 0 n = sortK key (seg f 0 n) :=
  cls_one hs.pairwise (sortK_sorted _) fun c => by rw [h.cls, sortK_cls]

/-! ### Arrays -/
variable [Inhabited α]
/-- An array as a function. -/
def fa (d : Array α) (i : Nat) : α := d[i]!
theorem fa_toList (d : Array α) : seg (fa d) 0 d.size = d.toList := by
  apply List.ext_getElem (by simp [seg])
  intro i h1 h2
  simp at h2
  simp [seg, fa, getElem!_pos, h2]
theorem fa_swp (d : Array α) {i j : Nat} (hi : i < d.size) (hj : j < d.size) (x : Nat) : fa (swp d i j) x = if x = j then fa d i else if x = i then fa d j else fa d x := by
  unfold fa swp
  by_cases e : x = j
  · subst e
    rw [if_pos rfl, getElem!_set_same _ _ _ (by simpa using hj)]
  · rw [if_neg e, getElem!_set_other _ _ _ _ e]
    by_cases e2 : x = i
    · subst e2; rw [if_pos rfl, getElem!_set_same _ _ _ hi]
    · rw [if_neg e2, getElem!_set_other _ _ _ _ e2]
theorem swp_stab {d : Array α} {a b j : Nat} (h1 : a ≤ j) (h2 : j + 1 < b) (h3 : b ≤ d.size) (h : key (fa d (j + 1)) < key (fa d j)) : StabF key a b (fa d) (fa (swp d (j + 1) j)) := by
  have e : fa (swp d (j + 1) j) = rotF (fa d) j (j + 1) (j + 2) := by
    funext x
    rw [fa_swp d (by omega) (by omega)]
    unfold rotF
    repeat' split
    all_goals first | rfl | omega | (congr 1; omega)
  rw [e]
  refine (rot_stab (fa d) (by omega) (by omega) fun i k x y z w => ?_).mono h1 (by omega) (by omega)
  have : i = j := by omega
  have : k = j + 1 := by omega
  subst i k
  omega
theorem insInner_stab {lt : α → α → Bool} (hlt : ∀ x y, lt x y = decide (key x < key y)) {a b : Nat} (j : Nat) : ∀ d : Array α, j < b → b ≤ d.size → (insInner lt a j d).size = d.size ∧ StabF key a b (fa d) (fa (insInner lt a j d)) := by
  induction j with
  | zero => intro d _ _; exact ⟨rfl, StabF.refl ..⟩
  | succ j ih =>
    intro d h1 h2
    unfold insInner
    split
    · rename_i h
      simp only [Bool.and_eq_true, decide_eq_true_eq, hlt] at h
      have := ih (swp d (j + 1) j) (by omega) (by rw [size_swp]; exact h2)
      rw [size_swp] at this
      exact ⟨this.1, (swp_stab (by omega) h1 h2 h.2).trans this.2⟩
    · exact ⟨rfl, StabF.refl ..⟩
theorem insOuter_stab {lt : α → α → Bool} (hlt : ∀ x y, lt x y = decide (key x < key y)) {a b : Nat} (n : Nat) : ∀ (i : Nat) (d : Array α), b - i = n → b ≤ d.size → (insOuter lt a b i d).size = d.size ∧ StabF key a b (fa d) (fa (insOuter lt a b i d)) := by
  induction n with
  | zero => intro i d h _; rw [insOuter, if_neg (by omega)]; exact ⟨rfl, StabF.refl ..⟩
  | succ n ih =>
    intro i d h h2
    rw [insOuter, if_pos (by omega)]
    obtain ⟨s1, t1⟩ := insInner_stab hlt (a := a) i d (show i < b by omega) h2
    obtain ⟨s2, t2⟩ := ih (i + 1) (insInner lt a i d) (by omega) (by rw [s1]; exact h2)
    exact ⟨s2.trans s1, t1.trans t2⟩
omit [Inhabited α] in
theorem swo_key {lt : α → α → Bool} (hlt : ∀ x y, lt x y = decide (key x < key y)) : SWO lt :=
  ⟨fun x => by simp [hlt], fun x y z => by simp only [hlt, decide_eq_true_eq]; omega, fun x y z => by simp only [hlt, decide_eq_false_iff_not]; omega⟩
theorem insertion_stab {lt : α → α → Bool} (hlt : ∀ x y, lt x y = decide (key x < key y)) {a b : Nat} (d : Array α) (h1 : a ≤ b) (h2 : b ≤ d.size) :
    (insertionSort lt d a b).size = d.size ∧ StabF key a b (fa d) (fa (insertionSort lt d a b)) ∧ SortF key a b (fa (insertionSort lt d a b)) := by
  obtain ⟨s, t⟩ := insOuter_stab hlt (a := a) (b := b) _ (a + 1) d rfl h2
  refine ⟨s, t, fun i j x y z => ?_⟩
  have := (insertionSort_holds (swo_key hlt) d a b h1 h2).2 i j x y z
  rw [hlt] at this
  have := of_decide_eq_false this
  unfold fa
  omega

end Go.Proofs.YtnnmakkbnfckmaaDoor
/- Plain laws of the merge in place: one number laid into a sorted row, the cut of two sorted rows about their middle. -/
namespace Go.Proofs.YtnnmakkbnfckmaaDoor
variable {α : Type} {key : α → Int}

theorem rotF_id (f : Nat → α) {s m e : Nat} (h1 : s ≤ m) (h2 : m ≤ e) (h : s = m ∨ m = e) : rotF f s m e = f := by
  funext x
  unfold rotF
  (repeat' split)
  all_goals first | rfl | omega | (congr 1; omega)
theorem rotF_up (f : Nat → α) {a k : Nat} (h : a ≤ k) (x : Nat) : rotF f a (a + 1) (k + 2) x = if x = k + 1 then rotF f a (a + 1) (k + 1) k else if x = k then rotF f a (a + 1) (k + 1) (k + 1) else rotF f a (a + 1) (k + 1) x := by
  unfold rotF
  (repeat' split)
  all_goals first | rfl | omega | (congr 1; omega)
theorem rotF_down (f : Nat → α) {m k : Nat} (h : k < m) (x : Nat) : rotF f k m (m + 1) x = if x = k then rotF f (k + 1) m (m + 1) (k + 1) else if x = k + 1 then rotF f (k + 1) m (m + 1) k else rotF f (k + 1) m (m + 1) x := by
  unfold rotF
  (repeat' split)
  all_goals first | rfl | omega | (congr 1; omega)
theorem ins_left {f : Nat → α} {a i b : Nat} (h1 : a + 1 ≤ i) (h2 : i ≤ b) (v : SortF key (a + 1) b f) (hl : ∀ t, a + 1 ≤ t → t < i → key (f t) < key (f a)) (hg : ∀ t, i ≤ t → t < b → key (f a) ≤ key (f t)) :
    StabF key a b f (rotF f a (a + 1) i) ∧ SortF key a b (rotF f a (a + 1) i) := by
  refine ⟨(rot_stab f (by omega) h1 fun x y p q r s => ?_).mono (Nat.le_refl _) (by omega) h2, fun x y p q r => ?_⟩
  · have : x = a := by omega
    subst this
    have := hl y r s; omega
  · by_cases c : y < i
    · by_cases c2 : y < a + (i - (a + 1))
      · rw [rotF_lo f (by omega) h1 p (by omega), rotF_lo f (by omega) h1 (by omega) c2]
        exact v _ _ (by omega) (by omega) (by omega)
      · rw [rotF_hi f (by omega) c, rotF_lo f (by omega) h1 p (by omega), show y - (i - (a + 1)) = a by omega]
        exact Int.le_of_lt (hl _ (by omega) (by omega))
    · rw [rotF_out f (Or.inr (show i ≤ y by omega))]
      by_cases d : x < i
      · by_cases d2 : x < a + (i - (a + 1))
        · rw [rotF_lo f (by omega) h1 p d2]
          exact v _ _ (by omega) (by omega) r
        · rw [rotF_hi f (by omega) d, show x - (i - (a + 1)) = a by omega]
          exact hg y (by omega) r
      · rw [rotF_out f (Or.inr (show i ≤ x by omega))]
        exact v _ _ (by omega) q r
theorem ins_right {f : Nat → α} {a i m : Nat} (h1 : a ≤ i) (h2 : i ≤ m) (u : SortF key a m f) (hl : ∀ t, a ≤ t → t < i → key (f t) ≤ key (f m)) (hg : ∀ t, i ≤ t → t < m → key (f m) < key (f t)) :
    StabF key a (m + 1) f (rotF f i m (m + 1)) ∧ SortF key a (m + 1) (rotF f i m (m + 1)) := by
  refine ⟨(rot_stab f h2 (by omega) fun x y p q r s => ?_).mono h1 (by omega) (Nat.le_refl _), fun x y p q r => ?_⟩
  · have : y = m := by omega
    subst this
    have := hg x p q; omega
  · by_cases c : x < i
    · rw [rotF_out f (Or.inl c)]
      by_cases d : y < i
      · rw [rotF_out f (Or.inl d)]; exact u _ _ p q (by omega)
      · by_cases d2 : y < i + (m + 1 - m)
        · rw [rotF_lo f h2 (by omega) (by omega) d2, show y - i + m = m by omega]; exact hl x p c
        · rw [rotF_hi f (by omega) r]; exact u _ _ p (by omega) (by omega)
    · by_cases d2 : x < i + (m + 1 - m)
      · rw [rotF_lo f h2 (by omega) (by omega) d2, rotF_hi f (by omega) r, show x - i + m = m by omega]
        exact Int.le_of_lt (hg _ (by omega) (by omega))
      · rw [rotF_hi f (by omega) (by omega), rotF_hi f (by omega) r]; exact u _ _ (by omega) (by omega) (by omega)
/-- The cut of two sorted rows about their middle. -/
theorem sym_cut {f : Nat → α} {a m b mid lo hi s e : Nat} (ham : a < m) (hmb : m < b) (hmid : mid = (a + b) / 2) (hse : s + e = mid + m) (u : SortF key a m f) (v : SortF key m b f)
    (hlh : (mid < m ∧ lo + b = mid + m ∧ hi = mid) ∨ (m ≤ mid ∧ lo = a ∧ hi = m)) (h1 : lo ≤ s) (h2 : s ≤ hi) (c1 : s = lo ∨ key (f (s - 1)) ≤ key (f e)) (c2 : s = hi ∨ key (f (e - 1)) < key (f s)) :
    a ≤ s ∧ s ≤ m ∧ m ≤ e ∧ e ≤ b ∧ s + (e - m) = mid ∧ (∀ i j, a ≤ i → i < s → e ≤ j → j < b → key (f i) ≤ key (f j)) ∧ (∀ i j, s ≤ i → i < m → m ≤ j → j < e → key (f j) < key (f i)) := by
  have q1 : a ≤ s := by omega
  have q2 : s ≤ m := by omega
  have q3 : m ≤ e := by omega
  have q4 : e ≤ b := by omega
  refine ⟨q1, q2, q3, q4, by omega, fun i j x y z w => ?_, fun i j x y z w => ?_⟩
  · rcases c1 with c | c
    · omega
    · exact Int.le_trans (u.le x (show i ≤ s - 1 by omega) (by omega)) (Int.le_trans c (v.le q3 z w))
  · rcases c2 with c | c
    · omega
    · exact Int.lt_of_le_of_lt (v.le z (show j ≤ e - 1 by omega) (by omega)) (Int.lt_of_lt_of_le c (u.le q1 x y))
/-- .. the turned row: its two halves hold two sorted parts each; merged, all is sorted. -/
theorem sym_done {f g1 g2 : Nat → α} {a m b mid s e : Nat} (h1 : a ≤ s) (h2 : s ≤ m) (h3 : m ≤ e) (h4 : e ≤ b) (ht : s + (e - m) = mid) (u : SortF key a m f) (v : SortF key m b f)
    (hl : ∀ i j, a ≤ i → i < s → e ≤ j → j < b → key (f i) ≤ key (f j)) (hg : ∀ i j, s ≤ i → i < m → m ≤ j → j < e → key (f j) < key (f i))
    (w1 : StabF key a mid (rotF f s m e) g1) (w2 : SortF key a mid g1) (w3 : StabF key mid b g1 g2) (w4 : SortF key mid b g2) : StabF key a b f g2 ∧ SortF key a b g2 := by
  obtain ⟨x1, _, _, _, _, x2⟩ := cut_turned h1 h2 h3 h4 u v hl hg
  subst ht
  exact both_merged (by omega) (by omega) x1 x2 w1 w2 w3 w4
theorem sym_parts {f : Nat → α} {a m b mid s e : Nat} (h1 : a ≤ s) (h2 : s ≤ m) (h3 : m ≤ e) (h4 : e ≤ b) (ht : s + (e - m) = mid) (u : SortF key a m f) (v : SortF key m b f)
    (hl : ∀ i j, a ≤ i → i < s → e ≤ j → j < b → key (f i) ≤ key (f j)) (hg : ∀ i j, s ≤ i → i < m → m ≤ j → j < e → key (f j) < key (f i)) :
    SortF key a s (rotF f s m e) ∧ SortF key s mid (rotF f s m e) ∧ SortF key mid e (rotF f s m e) ∧ SortF key e b (rotF f s m e) := by
  obtain ⟨_, y1, y2, y3, y4, _⟩ := cut_turned h1 h2 h3 h4 u v hl hg
  subst ht
  exact ⟨y1, y2, y3, y4⟩
/-- Two sorted parts of which one is empty are one. -/
theorem SortF.whole {f : Nat → α} {a s b : Nat} (h1 : SortF key a s f) (h2 : SortF key s b f) (h : ¬ (a < s ∧ s < b)) (hs : a ≤ s) : SortF key a b f := by
  by_cases c : a < s
  · exact h1.sub (Nat.le_refl _) (by omega)
  · have : s = a := by omega
    subst this; exact h2
end Go.Proofs.YtnnmakkbnfckmaaDoor
/- Plain laws of the stable sort's blocks: each is sorted; two by two they are merged. -/
namespace Go.Proofs.YtnnmakkbnfckmaaDoor
variable {α : Type} {key : α → Int}

theorem dvd_gap {s x a : Nat} (h1 : s ∣ x) (h2 : s ∣ a) (h : x < a) : x + s ≤ a := by
  obtain ⟨i, rfl⟩ := h1
  obtain ⟨j, rfl⟩ := h2
  have : i < j := Nat.lt_of_mul_lt_mul_left h
  calc s * i + s = s * (i + 1) := by rw [Nat.mul_add, Nat.mul_one]
    _ ≤ s * j := Nat.mul_le_mul_left s this
/-- All blocks of s are sorted, up to n. -/
def Blk (key : α → Int) (s n : Nat) (f : Nat → α) : Prop := ∀ x, s ∣ x → SortF key x (min (x + s) n) f
theorem Blk.all {s n : Nat} {f : Nat → α} (h : Blk key s n f) (hn : n ≤ s) : SortF key 0 n f := by
  have := h 0 (Nat.dvd_zero s)
  rwa [Nat.zero_add, Nat.min_eq_right hn] at this
/-- Blocks of s ahead of a are sorted. -/
def Fst (key : α → Int) (s a : Nat) (f : Nat → α) : Prop := ∀ x, s ∣ x → x < a → SortF key x (x + s) f
theorem Fst.start (s : Nat) (f : Nat → α) : Fst key s 0 f := fun x _ h => absurd h (Nat.not_lt_zero _)
theorem Fst.step {s a : Nat} {f g : Nat → α} (h : Fst key s a f) (ha : s ∣ a) (u : StabF key a (a + s) f g) (v : SortF key a (a + s) g) : Fst key s (a + s) g := fun x hx hl => by
  by_cases c : x < a
  · have := dvd_gap hx ha c
    exact (h x hx c).congr fun i _ hi => u.out i (Or.inl (by omega))
  · by_cases e : x = a
    · subst e; exact v
    · have := dvd_gap ha hx (by omega); omega
theorem Fst.last {s a n : Nat} {f g : Nat → α} (h : Fst key s a f) (ha : s ∣ a) (hn : n < a + s) (han : a ≤ n) (u : StabF key a n f g) (v : SortF key a n g) : Blk key s n g := fun x hx => by
  by_cases c : x < a
  · have := dvd_gap hx ha c
    exact ((h x hx c).congr (g := g) fun i _ hi => u.out i (Or.inl (by omega))).sub (Nat.le_refl _) (Nat.min_le_left _ _)
  · by_cases e : x = a
    · subst e; exact v.sub (Nat.le_refl _) (Nat.min_le_right _ _)
    · have := dvd_gap ha hx (by omega)
      intro i j h1 h2 h3
      have := Nat.min_le_right (x + s) n
      omega
/-- Ahead of a all blocks of 2 s are sorted, from a on all blocks of s. -/
structure Half (key : α → Int) (s n a : Nat) (f : Nat → α) : Prop where
  low : Fst key (2 * s) a f
  high : ∀ x, s ∣ x → a ≤ x → SortF key x (min (x + s) n) f
theorem Half.start {s n : Nat} {f : Nat → α} (h : Blk key s n f) : Half key s n 0 f := ⟨Fst.start _ _, fun x hx _ => h x hx⟩
theorem Half.two {s n a : Nat} {f : Nat → α} (h : Half key s n a f) (ha : 2 * s ∣ a) (hn : a + s ≤ n) : SortF key a (a + s) f ∧ SortF key (a + s) (min (a + 2 * s) n) f := by
  have hs : s ∣ a := Nat.dvd_trans ⟨2, Nat.mul_comm _ _⟩ ha
  refine ⟨?_, ?_⟩
  · have := h.high a hs (Nat.le_refl _)
    rwa [Nat.min_eq_left hn] at this
  · have := h.high (a + s) (Nat.dvd_add hs (Nat.dvd_refl s)) (Nat.le_add_right _ _)
    rwa [show a + s + s = a + 2 * s by omega] at this
theorem Half.step {s n a : Nat} {f g : Nat → α} (h : Half key s n a f) (ha : 2 * s ∣ a) (u : StabF key a (a + 2 * s) f g) (v : SortF key a (a + 2 * s) g) : Half key s n (a + 2 * s) g :=
  ⟨h.low.step ha u v, fun x hx hl => (h.high x hx (by omega)).congr fun i hi _ => u.out i (Or.inr (by omega))⟩
theorem Half.last {s n a : Nat} {f g : Nat → α} (h : Half key s n a f) (ha : 2 * s ∣ a) (hn : n < a + 2 * s) (han : a ≤ n) (u : StabF key a n f g) (v : SortF key a n g) : Blk key (2 * s) n g := h.low.last ha hn han u v
theorem Half.one {s n a : Nat} {f : Nat → α} (h : Half key s n a f) (ha : 2 * s ∣ a) (hn : n ≤ a + s) : SortF key a n f := by
  have hs : s ∣ a := Nat.dvd_trans ⟨2, Nat.mul_comm _ _⟩ ha
  have := h.high a hs (Nat.le_refl _)
  rwa [Nat.min_eq_right hn] at this
end Go.Proofs.YtnnmakkbnfckmaaDoor
/- Plain: the places of jobs in the order of their deadlines. -/
namespace Go.Proofs.YtnnmakkbnfckmaaDoor

/-- Numbers of places as ints. -/
abbrev nz (l : List Nat) : List Int := l.map fun i : Nat => (i : Int)
theorem nz_inj {l m : List Nat} (h : nz l = nz m) : l = m := by
  induction l generalizing m with
  | nil => cases m <;> simp_all
  | cons x l ih =>
    cases m with
    | nil => simp at h
    | cons y m =>
      simp only [List.map_cons, List.cons.injEq] at h
      rw [ih h.2, Int.ofNat.inj h.1]
/-- The number of the i-th, 0 where there is none. -/
def at0 {α : Type} (f : α → Int) (l : List α) (i : Nat) : Int := ((l[i]?).map f).getD 0
theorem at0_eq {α : Type} (f : α → Int) (l : List α) {i : Nat} (h : i < l.length) : at0 f l i = f l[i] := by simp [at0, h]
/-- The places of jobs in the order of their deadlines; of alike ones the first ahead. -/
def byDl (l : List J) : List Nat := sortK (at0 J.dl l) (List.range l.length)
theorem insK_map {α β : Type} (f : α → β) (key : β → Int) (r : List α) (x : α) : insK key (r.map f) (f x) = (insK (fun a => key (f a)) r x).map f := by
  unfold insK
  rw [List.map_append, List.map_cons, List.takeWhile_map, List.dropWhile_map]
  rfl
theorem sortK_map {α β : Type} (f : α → β) (key : β → Int) (l : List α) : sortK key (l.map f) = (sortK (fun a => key (f a)) l).map f := by
  unfold sortK
  have : ∀ r : List α, (l.map f).foldl (insK key) (r.map f) = (l.foldl (insK fun a => key (f a)) r).map f := by
    induction l with
    | nil => intro r; rfl
    | cons x l ih => intro r; rw [List.map_cons, List.foldl_cons, List.foldl_cons, insK_map, ih]
  exact this []
theorem sortK_perm {α : Type} (key : α → Int) (l : List α) : (sortK key l).Perm l := by
  unfold sortK
  have : ∀ r : List α, (l.foldl (insK key) r).Perm (r ++ l) := by
    induction l with
    | nil => intro r; simp
    | cons x l ih =>
      intro r
      rw [List.foldl_cons]
      refine (ih _).trans ?_
      rw [show r ++ x :: l = (r ++ [x]) ++ l by simp]
      refine List.Perm.append_right _ ?_
      unfold insK
      refine List.perm_middle.trans ?_
      rw [List.takeWhile_append_dropWhile]
      exact List.perm_append_comm (l₁ := [x])
  exact this []
theorem byDl_length (l : List J) : (byDl l).length = l.length := by rw [byDl, (sortK_perm _ _).length_eq, List.length_range]
theorem byDl_mem (l : List J) {i : Nat} : i ∈ byDl l ↔ i < l.length := by rw [byDl, (sortK_perm _ _).mem_iff, List.mem_range]
theorem byDl_nodup (l : List J) : (byDl l).Nodup := (sortK_perm _ _).nodup_iff.2 List.nodup_range
theorem byDl_sorted (l : List J) : (byDl l).Pairwise fun i j => at0 J.dl l i ≤ at0 J.dl l j := sortK_sorted _
/-- One job more: it goes behind all that have no later deadline. -/
theorem insK_cut {α : Type} (key : α → Int) (r : List α) (x : α) {k : Nat} (hk : k ≤ r.length) (h1 : ∀ i (hi : i < r.length), i < k → key r[i] ≤ key x) (h2 : ∀ hi : k < r.length, key x < key r[k]) : insK key r x = r.take k ++ [x] ++ r.drop k := by
  have ht : r.takeWhile (fun y => decide (key y ≤ key x)) = r.take k := by
    induction r generalizing k with
    | nil => simp
    | cons y r ih =>
      cases k with
      | zero =>
        have := h2 (by simp)
        simp only [List.getElem_cons_zero] at this
        rw [List.takeWhile_cons, List.take_zero, if_neg]
        simp; omega
      | succ k =>
        have := h1 0 (by simp) (by omega)
        simp only [List.getElem_cons_zero] at this
        rw [List.takeWhile_cons, List.take_succ_cons, if_pos (by simpa using this)]
        congr 1
        refine ih (by simpa using hk) (fun i hi hik => ?_) fun hi => ?_
        · have := h1 (i + 1) (by simp; omega) (by omega)
          simpa using this
        · have := h2 (by simp; omega)
          simpa using this
  have hd : r.dropWhile (fun y => decide (key y ≤ key x)) = r.drop k := by
    have e := List.takeWhile_append_dropWhile (p := fun y => decide (key y ≤ key x)) (l := r)
    rw [ht] at e
    exact List.append_cancel_left (e.trans (List.take_append_drop k r).symm)
  unfold insK
  rw [ht, hd]
  simp
end Go.Proofs.YtnnmakkbnfckmaaDoor
/- Plain: who runs, the earliest deadline first; where no span is asked too much, all are met; what any trace that has all done shows of the spans. -/
namespace Go.Proofs.YtnnmakkbnfckmaaDoor

/-! ### The first that may -/
/-- The first place, in the order of the deadlines, that may run. -/
def pick (l : List J) (p : Nat → Bool) : Option Nat := (byDl l).find? p
/-- Is it ahead of what was found? -/
def bettr {α : Type} (key : α → Int) (x : α) : Option α → Bool
  | none => true
  | some b => decide (key x < key b)
theorem find_insK {α : Type} (key : α → Int) (p : α → Bool) (r : List α) (x : α) (hs : r.Pairwise fun a b => key a ≤ key b) :
    (insK key r x).find? p = if (p x && bettr key x (r.find? p)) = true then some x else r.find? p := by
  induction r with
  | nil => cases h : p x <;> simp [insK, h, bettr]
  | cons y r ih =>
    by_cases hy : key y ≤ key x
    · have e : insK key (y :: r) x = y :: insK key r x := by simp [insK, hy]
      rw [e]
      cases hp : p y with
      | true =>
        rw [List.find?_cons_of_pos hp, List.find?_cons_of_pos hp]
        have : decide (key x < key y) = false := by simp; omega
        simp [this, bettr]
      | false =>
        rw [List.find?_cons_of_neg (by simp [hp]), List.find?_cons_of_neg (by simp [hp])]
        exact ih hs.of_cons
    · have e : insK key (y :: r) x = x :: y :: r := by simp [insK, hy]
      rw [e]
      have hall : ∀ b, (y :: r).find? p = some b → key x < key b := fun b hb => by
        have hm := List.mem_of_find?_eq_some hb
        rcases List.mem_cons.1 hm with h | h
        · subst h; omega
        · have := List.rel_of_pairwise_cons hs h; omega
      cases hp : p x with
      | true =>
        rw [List.find?_cons_of_pos hp]
        cases hf : (y :: r).find? p with
        | none => simp [bettr]
        | some b => have := hall b hf; simp [this, bettr]
      | false => rw [List.find?_cons_of_neg (by simp [hp])]; simp
/-- One more place is looked at: is it the one that runs? -/
def firstN (l : List J) (p : Nat → Bool) (b : Option Nat) (i : Nat) : Option Nat :=
  if (p i && bettr (at0 J.dl l) i b) = true then some i else b
/-- Of the first n places the one that runs. -/
def firstB (l : List J) (p : Nat → Bool) (n : Nat) : Option Nat := (List.range n).foldl (firstN l p) none
theorem firstB_succ (l : List J) (p : Nat → Bool) (n : Nat) : firstB l p (n + 1) = firstN l p (firstB l p n) n := by
  unfold firstB; rw [List.range_succ, List.foldl_append]; rfl
theorem firstB_find (l : List J) (p : Nat → Bool) (n : Nat) : (sortK (at0 J.dl l) (List.range n)).find? p = firstB l p n := by
  induction n with
  | zero => simp [sortK, firstB]
  | succ n ih =>
    have e : sortK (at0 J.dl l) (List.range (n + 1)) = insK (at0 J.dl l) (sortK (at0 J.dl l) (List.range n)) n := by
      unfold sortK; rw [List.range_succ, List.foldl_append]; rfl
    rw [e, find_insK _ _ _ _ (sortK_sorted _), ih, firstB_succ]
    rfl
theorem firstB_eq (l : List J) (p : Nat → Bool) : firstB l p l.length = pick l p := (firstB_find l p l.length).symm
theorem firstB_lt (l : List J) (p : Nat → Bool) (n i : Nat) (h : firstB l p n = some i) : i < n := by
  induction n with
  | zero => simp [firstB] at h
  | succ n ih =>
    rw [firstB_succ] at h
    unfold firstN at h
    split at h
    · injection h with h; omega
    · have := ih h; omega
theorem pick_some {l : List J} {p : Nat → Bool} {i : Nat} (h : pick l p = some i) : i < l.length ∧ p i = true ∧ ∀ k, k < l.length → p k = true → at0 J.dl l i ≤ at0 J.dl l k := by
  have hm := List.mem_of_find?_eq_some h
  refine ⟨(byDl_mem l).1 hm, List.find?_some h, fun k hk hp => ?_⟩
  obtain ⟨_, xs, ys, he, has⟩ := List.find?_eq_some_iff_append.1 h
  have hs := byDl_sorted l
  rw [he] at hs
  have hk' : k ∈ xs ++ i :: ys := by rw [← he]; exact (byDl_mem l).2 hk
  rcases List.mem_append.1 hk' with h1 | h1
  · have := has k h1; simp [hp] at this
  · rcases List.mem_cons.1 h1 with h2 | h2
    · subst h2; exact Int.le_refl _
    · exact List.rel_of_pairwise_cons (List.pairwise_append.1 hs).2.1 h2
theorem pick_none {l : List J} {p : Nat → Bool} (h : pick l p = none) : ∀ k, k < l.length → p k = false := fun k hk => by
  have := List.find?_eq_none.1 h k ((byDl_mem l).2 hk)
  simpa using this
theorem pick_congr {l : List J} {p q : Nat → Bool} (h : ∀ i, i < l.length → p i = q i) : pick l p = pick l q := by
  unfold pick
  have : ∀ r : List Nat, (∀ i ∈ r, i < l.length) → r.find? p = r.find? q := by
    intro r
    induction r with
    | nil => intro _; rfl
    | cons x r ih =>
      intro hr
      rw [List.find?_cons, List.find?_cons, h x (hr x (by simp)), ih fun i hi => hr i (by simp [hi])]
  exact this _ fun i hi => (byDl_mem l).1 hi

/-! ### Sums and counts -/
/-- The sum of the first n. -/
def sumN (g : Nat → Int) : Nat → Int
  | 0 => 0
  | n + 1 => sumN g n + g n
theorem sumN_le {g h : Nat → Int} {n : Nat} (hh : ∀ i, i < n → g i ≤ h i) : sumN g n ≤ sumN h n := by
  induction n with
  | zero => simp [sumN]
  | succ n ih => have := ih fun i hi => hh i (by omega); have := hh n (by omega); simp only [sumN]; omega
theorem sumN_congr {g h : Nat → Int} {n : Nat} (hh : ∀ i, i < n → g i = h i) : sumN g n = sumN h n := by
  induction n with
  | zero => rfl
  | succ n ih => simp only [sumN]; rw [ih fun i hi => hh i (by omega), hh n (by omega)]
theorem sumN_lt {g h : Nat → Int} {n : Nat} (hh : ∀ i, i < n → g i ≤ h i) {k : Nat} (hk : k < n) (hs : g k < h k) : sumN g n < sumN h n := by
  induction n with
  | zero => omega
  | succ n ih =>
    simp only [sumN]
    by_cases e : k = n
    · subst e; have := sumN_le (g := g) (h := h) (n := k) fun i hi => hh i (by omega); omega
    · have := ih (fun i hi => hh i (by omega)) (by omega); have := hh n (by omega); omega
theorem sumN_add (g h : Nat → Int) (n : Nat) : sumN (fun i => g i + h i) n = sumN g n + sumN h n := by
  induction n with
  | zero => rfl
  | succ n ih => simp only [sumN]; rw [ih]; omega
theorem sumN_zero (n : Nat) : sumN (fun _ => 0) n = 0 := by
  induction n with
  | zero => rfl
  | succ n ih => simp only [sumN]; rw [ih]; rfl
/-- 1 at one place. -/
theorem sumN_one (j n : Nat) : sumN (fun i => if i = j then 1 else 0) n = if j < n then 1 else 0 := by
  induction n with
  | zero => simp [sumN]
  | succ n ih =>
    simp only [sumN]; rw [ih]
    by_cases h1 : j < n
    · rw [if_pos h1, if_neg (by omega), if_pos (by omega)]; rfl
    · by_cases h2 : n = j
      · rw [if_neg h1, if_pos h2, if_pos (by omega)]; rfl
      · rw [if_neg h1, if_neg h2, if_neg (by omega)]; rfl
/-- How often i ran ahead of tick k. -/
def cnt (f : Nat → Option Nat) (i : Nat) : Nat → Int
  | 0 => 0
  | k + 1 => cnt f i k + if f k = some i then 1 else 0
theorem cnt_mono (f : Nat → Option Nat) (i : Nat) {a b : Nat} (h : a ≤ b) : cnt f i a ≤ cnt f i b := by
  induction b with
  | zero => obtain rfl : a = 0 := by omega
            exact Int.le_refl _
  | succ b ih =>
    by_cases e : a = b + 1
    · subst e; exact Int.le_refl _
    · have := ih (by omega); simp only [cnt]; split <;> omega
theorem cnt_nonneg (f : Nat → Option Nat) (i k : Nat) : 0 ≤ cnt f i k := by
  have := cnt_mono f i (Nat.zero_le k); simpa [cnt] using this
theorem cnt_le (f : Nat → Option Nat) (i k : Nat) : cnt f i k ≤ k := by
  induction k with
  | zero => simp [cnt]
  | succ k ih => simp only [cnt]; split <;> omega
theorem cnt_congr {f g : Nat → Option Nat} {i k : Nat} (h : ∀ m, m < k → f m = g m) : cnt f i k = cnt g i k := by
  induction k with
  | zero => rfl
  | succ k ih => simp only [cnt]; rw [ih fun m hm => h m (by omega), h k (by omega)]
/-- Where it does not run, its count stays. -/
theorem cnt_still {f : Nat → Option Nat} {i a b : Nat} (hab : a ≤ b) (h : ∀ k, a ≤ k → k < b → f k ≠ some i) : cnt f i b = cnt f i a := by
  induction b with
  | zero => obtain rfl : a = 0 := by omega
            rfl
  | succ b ih =>
    by_cases e : a = b + 1
    · subst e; rfl
    · simp only [cnt]; rw [if_neg (h b (by omega) (by omega)), ih (by omega) fun k h1 h2 => h k h1 (by omega)]; omega
/-- In all no more ran than ticks went by. -/
theorem sum_cnt_le (f : Nat → Option Nat) (n : Nat) {a b : Nat} (hab : a ≤ b) : sumN (fun i => cnt f i b - cnt f i a) n ≤ (b : Int) - a := by
  induction b with
  | zero =>
    obtain rfl : a = 0 := by omega
    have := sumN_zero n
    simp [cnt, this]
  | succ b ih =>
    by_cases e : a = b + 1
    · subst e
      rw [sumN_congr (h := fun _ => 0) (fun i _ => by omega), sumN_zero]; omega
    · have h1 := ih (by omega)
      have h2 : sumN (fun i => cnt f i (b + 1) - cnt f i a) n = sumN (fun i => cnt f i b - cnt f i a) n + sumN (fun i => if f b = some i then 1 else 0) n := by
        rw [← sumN_add]
        exact sumN_congr fun i _ => by simp only [cnt]; omega
      have h3 : sumN (fun i => if f b = some i then (1 : Int) else 0) n ≤ 1 := by
        cases hb : f b with
        | none => rw [sumN_congr (h := fun _ => 0) (fun i _ => by simp), sumN_zero]; omega
        | some j =>
          rw [sumN_congr (h := fun i => if i = j then 1 else 0) (fun i _ => by simp [eq_comm]), sumN_one]
          split <;> omega
      omega

/-! ### What is asked within a span; the earliest deadline first -/
/-- What is asked within a span. -/
def dem (rel dl need : Nat → Int) (n : Nat) (s t : Int) : Int := sumN (fun i => if s ≤ rel i ∧ dl i ≤ t then need i else 0) n
/-- No span is asked too much. -/
def Calm (rel dl need : Nat → Int) (n : Nat) : Prop := ∀ s t : Int, 0 ≤ s → s ≤ t → dem rel dl need n s t ≤ t - s
/-- A schedule that runs the earliest deadline first. -/
structure EdfS (rel dl need : Nat → Int) (n : Nat) (f : Nat → Option Nat) : Prop where
  run : ∀ k i, f k = some i → i < n ∧ rel i ≤ k ∧ cnt f i k < need i ∧ ∀ j, j < n → rel j ≤ k → cnt f j k < need j → dl i ≤ dl j
  idle : ∀ k, f k = none → ∀ j, j < n → rel j ≤ k → need j ≤ cnt f j k
theorem EdfS.le {rel dl need : Nat → Int} {n : Nat} {f : Nat → Option Nat} (h : EdfS rel dl need n f) (hn : ∀ i, i < n → 0 ≤ need i) (i : Nat) (hi : i < n) (k : Nat) : cnt f i k ≤ need i := by
  induction k with
  | zero => have := hn i hi; simpa [cnt] using this
  | succ k ih =>
    simp only [cnt]
    split
    · rename_i e; have := (h.run k i e).2.2.1; omega
    · omega
/-- From the last s on ahead of D where P does not hold. -/
theorem last_gap (P : Nat → Prop) (D : Nat) : ∃ s, s ≤ D ∧ (∀ k, s ≤ k → k < D → P k) ∧ (s = 0 ∨ ∃ m, s = m + 1 ∧ ¬ P m) := by
  classical
  induction D with
  | zero => exact ⟨0, Nat.le_refl _, fun k _ h => by omega, .inl rfl⟩
  | succ D ih =>
    by_cases hp : P D
    · obtain ⟨s, h1, h2, h3⟩ := ih
      refine ⟨s, by omega, fun k hk hkD => ?_, h3⟩
      by_cases e : k = D
      · subst e; exact hp
      · exact h2 k hk (by omega)
    · exact ⟨D + 1, Nat.le_refl _, fun k h1 h2 => by omega, .inr ⟨D, rfl, hp⟩⟩
/-- Where no span is asked too much, the earliest deadline first has each done by its deadline. -/
theorem EdfS.meets {rel dl need : Nat → Int} {n : Nat} {f : Nat → Option Nat} (h : EdfS rel dl need n f) (hn : ∀ i, i < n → 0 ≤ need i) (h0 : ∀ i, i < n → 0 ≤ rel i) (hc : Calm rel dl need n)
    (i : Nat) (hi : i < n) (D : Nat) (hD : dl i = D) : need i ≤ cnt f i D := by
  refine Classical.byContradiction fun hlt => ?_
  obtain ⟨s, hs, hgood, hgap⟩ := last_gap (fun k => ∃ j, f k = some j ∧ dl j ≤ D) D
  have ha : ∀ j, j < n → dl j ≤ D → rel j < s → need j ≤ cnt f j s := by
    intro j hj hd hr
    rcases hgap with e | ⟨m, rfl, hm⟩
    · subst e; have := h0 j hj; omega
    · have hrm : rel j ≤ m := by omega
      have hmono := cnt_mono f j (Nat.le_succ m)
      refine Classical.byContradiction fun hc' => ?_
      have hlt' : cnt f j m < need j := by
        have : cnt f j m ≤ cnt f j (m + 1) := hmono
        omega
      cases hfm : f m with
      | none => have := h.idle m hfm j hj hrm; omega
      | some j' =>
        have := (h.run m j' hfm).2.2.2 j hj hrm hlt'
        exact hm ⟨j', hfm, by omega⟩
  have hri : (s : Int) ≤ rel i := by
    refine Classical.byContradiction fun hc' => ?_
    have h1 := ha i hi (by omega) (by omega)
    have h2 := cnt_mono f i hs
    omega
  have hrun : ∀ k, s ≤ k → k < D → ∃ j, f k = some j ∧ j < n ∧ (s : Int) ≤ rel j ∧ dl j ≤ D := by
    intro k h1 h2
    obtain ⟨j, hj, hd⟩ := hgood k h1 h2
    obtain ⟨a1, a2, a3, _⟩ := h.run k j hj
    refine ⟨j, hj, a1, ?_, hd⟩
    refine Classical.byContradiction fun hc' => ?_
    have b1 := ha j a1 hd (by omega)
    have b2 := cnt_mono f j h1
    omega
  have hsum : ∀ m, s ≤ m → m ≤ D → (m : Int) - s = sumN (fun j => if (s : Int) ≤ rel j ∧ dl j ≤ D then cnt f j m - cnt f j s else 0) n := by
    intro m
    induction m with
    | zero =>
      intro h1 _
      obtain rfl : s = 0 := by omega
      rw [sumN_congr (h := fun _ => 0) (fun j _ => by split <;> omega), sumN_zero]; omega
    | succ m ih =>
      intro h1 h2
      by_cases e : s = m + 1
      · subst e
        rw [sumN_congr (h := fun _ => 0) (fun j _ => by split <;> omega), sumN_zero]; omega
      · have h3 := ih (by omega) (by omega)
        obtain ⟨j, hj, hjn, hjr, hjd⟩ := hrun m (by omega) (by omega)
        have h4 : sumN (fun j => if (s : Int) ≤ rel j ∧ dl j ≤ D then cnt f j (m + 1) - cnt f j s else 0) n = sumN (fun j => if (s : Int) ≤ rel j ∧ dl j ≤ D then cnt f j m - cnt f j s else 0) n + sumN (fun i => if i = j then 1 else 0) n := by
          rw [← sumN_add]
          refine sumN_congr fun i _ => ?_
          simp only [cnt, hj, Option.some.injEq]
          by_cases ei : i = j
          · subst ei
            simp only [hjr, hjd, and_self, if_true]; omega
          · have ei' : ¬ j = i := fun x => ei x.symm
            simp only [ei, ei', if_false]; split <;> omega
        rw [sumN_one, if_pos hjn] at h4
        omega
  have hsD := hsum D hs (Nat.le_refl _)
  have hlt2 : sumN (fun j => if (s : Int) ≤ rel j ∧ dl j ≤ D then cnt f j D - cnt f j s else 0) n < dem rel dl need n s D := by
    refine sumN_lt (k := i) (fun j hj => ?_) hi ?_
    · have := h.le hn j hj D
      have := cnt_nonneg f j s
      split <;> omega
    · have := cnt_nonneg f i s
      have hdi : dl i ≤ D := by omega
      simp only [hri, hdi, and_self, if_true]; omega
  have := hc s D (by omega) (by omega)
  omega
/-- Whatever schedule has all done within their spans, no span is asked too much. -/
theorem calm_of {rel dl need : Nat → Int} {n : Nat} {f : Nat → Option Nat} {T : Nat} (hf : ∀ k j, k < T → f k = some j → rel j ≤ k ∧ (k : Int) < dl j) (hd : ∀ j, j < n → need j ≤ cnt f j T) : Calm rel dl need n := by
  intro s t h0 hst
  obtain ⟨a, rfl⟩ := Int.eq_ofNat_of_zero_le h0
  obtain ⟨b, rfl⟩ := Int.eq_ofNat_of_zero_le (Int.le_trans h0 hst)
  -- the schedule, cut at T
  let g : Nat → Option Nat := fun k => if k < T then f k else none
  have hg : ∀ k j, g k = some j → rel j ≤ k ∧ (k : Int) < dl j := fun k j h => by
    simp only [g] at h
    split at h
    · rename_i hk; exact hf k j hk h
    · cases h
  have hgT : ∀ j, cnt g j T = cnt f j T := fun j => cnt_congr fun m hm => by simp [g, hm]
  have key : dem rel dl need n a b ≤ sumN (fun j => cnt g j b - cnt g j a) n := by
    refine sumN_le fun j hj => ?_
    have hab : a ≤ b := by omega
    have hmono := cnt_mono g j hab
    split
    · rename_i hc
      have e1 : cnt g j a = 0 := by
        have := cnt_still (f := g) (i := j) (Nat.zero_le a) fun k _ hk e => by have := hg k j e; omega
        simpa [cnt] using this
      have e2 : cnt g j T ≤ cnt g j b := by
        by_cases hT : T ≤ b
        · exact cnt_mono g j hT
        · have := cnt_still (f := g) (i := j) (a := b) (b := T) (by omega) fun k hk _ e => by have := hg k j e; omega
          omega
      have := hd j hj
      have := hgT j
      omega
    · omega
  have := sum_cnt_le g n (a := a) (b := b) (by omega)
  omega
/-- Jobs that need no more: no span is asked more. -/
theorem Calm.mono {rel dl need need' : Nat → Int} {n : Nat} (h : Calm rel dl need n) (hn : ∀ i, i < n → need' i ≤ need i) : Calm rel dl need' n := fun s t h0 hst => by
  have h1 := h s t h0 hst
  have : dem rel dl need' n s t ≤ dem rel dl need n s t := sumN_le fun i hi => by
    have := hn i hi
    split <;> omega
  omega

/-! ### The schedule of jobs -/
/-- May it run in tick k, behind this trace? -/
def mayRun (l : List J) (need : Nat → Int) (t : List (Option Nat)) (i : Nat) : Bool := decide (at0 J.rel l i ≤ t.length) && decide ((t.count (some i) : Int) < need i)
/-- The trace of the first k ticks. -/
def edfT (l : List J) (need : Nat → Int) : Nat → List (Option Nat)
  | 0 => []
  | k + 1 => edfT l need k ++ [pick l (mayRun l need (edfT l need k))]
/-- Who runs in tick k. -/
def edfF (l : List J) (need : Nat → Int) (k : Nat) : Option Nat := pick l (mayRun l need (edfT l need k))
theorem edfT_length (l : List J) (need : Nat → Int) (k : Nat) : (edfT l need k).length = k := by
  induction k with
  | zero => rfl
  | succ k ih => simp [edfT, ih]
theorem edfT_count (l : List J) (need : Nat → Int) (k i : Nat) : ((edfT l need k).count (some i) : Int) = cnt (edfF l need) i k := by
  induction k with
  | zero => rfl
  | succ k ih =>
    simp only [edfT, cnt, List.count_append, List.count_singleton, Int.natCast_add, ih, edfF]
    by_cases e : pick l (mayRun l need (edfT l need k)) = some i <;> simp [e]
theorem edfT_eq (l : List J) (need : Nat → Int) (k : Nat) : edfT l need k = (List.range k).map (edfF l need) := by
  induction k with
  | zero => rfl
  | succ k ih => rw [List.range_succ, List.map_append, ← ih]; rfl
theorem edfT_take (l : List J) (need : Nat → Int) {k m : Nat} (h : k ≤ m) : (edfT l need m).take k = edfT l need k := by
  rw [edfT_eq, edfT_eq, ← List.map_take, List.take_range, Nat.min_eq_left h]
theorem edf_is (l : List J) (need : Nat → Int) : EdfS (at0 J.rel l) (at0 J.dl l) need l.length (edfF l need) := by
  refine ⟨fun k i h => ?_, fun k h j hj hr => ?_⟩
  · obtain ⟨h1, h2, h3⟩ := pick_some h
    simp only [mayRun, edfT_length, edfT_count, Bool.and_eq_true, decide_eq_true_eq] at h2 h3
    exact ⟨h1, h2.1, h2.2, fun j hj hr hc => h3 j hj ⟨hr, hc⟩⟩
  · have := pick_none h j hj
    simp only [mayRun, edfT_length, edfT_count, Bool.and_eq_false_iff, decide_eq_false_iff_not] at this
    omega
end Go.Proofs.YtnnmakkbnfckmaaDoor
/- Plain: what is to spare, what fits; sorted or not, the least is the same; needs that fit do so, if one is less, or has more time. -/
namespace Go.Proofs.YtnnmakkbnfckmaaDoor

def inM (n : Int) : Bool := decide (-1000000 ≤ n) && decide (n ≤ 1000000)
/-- Are the numbers within their bounds? -/
def mayB (now : Int) (l : List (Int × Int)) : Bool := inM now && (decide (l.length ≤ 1000) && l.all fun x => inM x.1 && inM x.2)
/-- A sum over a row. -/
def sumF {α : Type} (f : α → Int) : List α → Int
  | [] => 0
  | x :: l => f x + sumF f l
theorem sumF_append {α : Type} (f : α → Int) (l m : List α) : sumF f (l ++ m) = sumF f l + sumF f m := by
  induction l with
  | nil => simp [sumF]
  | cons x l ih => simp only [List.cons_append, sumF, ih]; omega
theorem sumF_perm {α : Type} (f : α → Int) {l m : List α} (h : l.Perm m) : sumF f l = sumF f m := by
  induction h with
  | nil => rfl
  | cons x _ ih => simp only [sumF, ih]
  | swap x y l => simp only [sumF]; omega
  | trans _ _ a b => exact a.trans b
theorem sumF_le {α : Type} {f g : α → Int} {l : List α} (h : ∀ x ∈ l, f x ≤ g x) : sumF f l ≤ sumF g l := by
  induction l with
  | nil => exact Int.le_refl _
  | cons x l ih => have := h x (by simp); have := ih fun y hy => h y (by simp [hy]); simp only [sumF]; omega
theorem sumF_congr {α : Type} {f g : α → Int} {l : List α} (h : ∀ x ∈ l, f x = g x) : sumF f l = sumF g l :=
  Int.le_antisymm (sumF_le fun x hx => by rw [h x hx]; exact Int.le_refl _) (sumF_le fun x hx => by rw [h x hx]; exact Int.le_refl _)
theorem sumF_nonneg {α : Type} {f : α → Int} {l : List α} (h : ∀ x ∈ l, 0 ≤ f x) : 0 ≤ sumF f l := by
  induction l with
  | nil => exact Int.le_refl _
  | cons x l ih => have := h x (by simp); have := ih fun y hy => h y (by simp [hy]); simp only [sumF]; omega
theorem sumF_bound {α : Type} {f : α → Int} {l : List α} {c : Int} (h : ∀ x ∈ l, f x ≤ c) : sumF f l ≤ l.length * c := by
  induction l with
  | nil => simp [sumF]
  | cons x l ih =>
    have := h x (by simp); have := ih fun y hy => h y (by simp [hy])
    simp only [sumF, List.length_cons, Int.natCast_add, Int.add_mul]; omega
abbrev posN (x : Int × Int) : Int := max x.2 0
/-- What is needed up to a deadline. -/
def upto (l : List (Int × Int)) (D : Int) : Int := sumF (fun y => if y.1 ≤ D then posN y else 0) l
/-- The numbers of the i-th. -/
abbrev dlN (l : List (Int × Int)) (i : Nat) : Int := at0 (fun x : Int × Int => x.1) l i
/-- What the i-th has to spare. -/
def spare (now : Int) (l : List (Int × Int)) (i : Nat) : Int := dlN l i - now - upto l (dlN l i)
/-- .. of a row in order, by what stands up to it. -/
def spareP (now : Int) (s : List (Int × Int)) (i : Nat) : Int := dlN s i - now - sumF posN (s.take (i + 1))
/-- The least of the first. -/
def leastN (P : Nat → Int) : Nat → Int
  | 0 => 0
  | n + 1 => if n = 0 ∨ P n < leastN P n then P n else leastN P n
theorem leastN_is (P : Nat → Int) (n : Nat) (hn : 0 < n) : (∃ k, k < n ∧ leastN P n = P k) ∧ ∀ k, k < n → leastN P n ≤ P k := by
  induction n with
  | zero => omega
  | succ n ih =>
    simp only [leastN]
    by_cases h0 : n = 0
    · subst h0
      rw [if_pos (.inl rfl)]
      exact ⟨⟨0, by omega, rfl⟩, fun k hk => by obtain rfl : k = 0 := by omega
                                                exact Int.le_refl _⟩
    · obtain ⟨⟨k, hk, he⟩, hl⟩ := ih (by omega)
      by_cases h1 : P n < leastN P n
      · rw [if_pos (.inr h1)]
        refine ⟨⟨n, by omega, rfl⟩, fun j hj => ?_⟩
        by_cases e : j = n
        · subst e; exact Int.le_refl _
        · have := hl j (by omega); omega
      · rw [if_neg (by simp only [not_or]; exact ⟨h0, h1⟩)]
        refine ⟨⟨k, by omega, he⟩, fun j hj => ?_⟩
        by_cases e : j = n
        · subst e; omega
        · exact hl j (by omega)
theorem leastN_congr {P Q : Nat → Int} {n : Nat} (h : ∀ i, i < n → P i = Q i) : leastN P n = leastN Q n := by
  induction n with
  | zero => rfl
  | succ n ih => simp only [leastN]; rw [h n (by omega), ih fun i hi => h i (by omega)]
def slackV (now : Int) (l : List (Int × Int)) : Int := leastN (spare now l) l.length
def slackOk (now : Int) (l : List (Int × Int)) : Bool := !l.isEmpty && mayB now l
def slackR (now : Int) (l : List (Int × Int)) : Int := if slackOk now l = true then slackV now l else 0
def fitsB (now : Int) (l : List (Int × Int)) : Bool := mayB now l && (l.isEmpty || decide (0 ≤ slackV now l))

theorem upto_perm {l m : List (Int × Int)} (h : l.Perm m) (D : Int) : upto l D = upto m D := sumF_perm _ h
theorem posN_nonneg (x : Int × Int) : 0 ≤ posN x := by unfold posN; omega
/-- A row in order: what stands up to the deadline. -/
theorem upto_sorted (s : List (Int × Int)) (hs : s.Pairwise fun a b => a.1 ≤ b.1) (D : Int) : upto s D = sumF posN (s.takeWhile fun y => decide (y.1 ≤ D)) := by
  induction s with
  | nil => rfl
  | cons x s ih =>
    by_cases h : x.1 ≤ D
    · rw [List.takeWhile_cons, if_pos (by simpa using h)]
      simp only [upto, sumF, if_pos h]
      have := ih hs.of_cons
      unfold upto at this
      rw [this]
    · rw [List.takeWhile_cons, if_neg (by simpa using h)]
      have : upto (x :: s) D = sumF (fun _ => 0) (x :: s) := sumF_congr fun y hy => by
        rcases List.mem_cons.1 hy with e | e
        · subst e; rw [if_neg h]
        · have := List.rel_of_pairwise_cons hs e; rw [if_neg (by omega)]
      rw [this]
      have h1 : 0 ≤ sumF (fun _ : Int × Int => 0) (x :: s) := sumF_nonneg fun _ _ => Int.le_refl _
      have h2 := sumF_bound (f := fun _ : Int × Int => 0) (l := x :: s) (c := 0) fun _ _ => Int.le_refl _
      simp only [sumF] at *; omega
theorem takeWhile_leD {s : List (Int × Int)} {D : Int} {x : Int × Int} (h : x ∈ s.takeWhile fun y => decide (y.1 ≤ D)) : x.1 ≤ D := by
  induction s with
  | nil => simp at h
  | cons y s ih =>
    rw [List.takeWhile_cons] at h
    split at h
    · rename_i hy
      rcases List.mem_cons.1 h with e | e
      · subst e; simpa using hy
      · exact ih e
    · simp at h
theorem sort_least (now : Int) (l : List (Int × Int)) : leastN (spareP now (sortK (fun x : Int × Int => x.1) l)) l.length = slackV now l := by
  obtain ⟨s, hs⟩ : ∃ s, sortK (fun x : Int × Int => x.1) l = s := ⟨_, rfl⟩
  have hp : s.Perm l := hs ▸ sortK_perm _ l
  have hso : s.Pairwise fun a b => a.1 ≤ b.1 := hs ▸ sortK_sorted l
  rw [hs]
  have hlen : s.length = l.length := hp.length_eq
  by_cases hn : l.length = 0
  · simp [slackV, hn, leastN]
  unfold slackV
  obtain ⟨⟨k1, hk1, e1⟩, m1⟩ := leastN_is (spareP now s) l.length (by omega)
  obtain ⟨⟨k2, hk2, e2⟩, m2⟩ := leastN_is (spare now l) l.length (by omega)
  -- by what stands up to it it has no less to spare
  have ha : ∀ i, i < l.length → ∃ j, j < l.length ∧ spare now l j ≤ spareP now s i := by
    intro i hi
    have hi' : i < s.length := by omega
    have hm : s[i] ∈ l := hp.mem_iff.1 (List.getElem_mem hi')
    obtain ⟨j, hj, ej⟩ := List.getElem_of_mem hm
    refine ⟨j, hj, ?_⟩
    unfold spare spareP dlN
    rw [at0_eq _ _ hj, at0_eq _ _ hi', ej]
    have h1 : upto l s[i].1 = upto (s.take (i + 1)) s[i].1 + upto (s.drop (i + 1)) s[i].1 := by
      rw [← upto_perm hp]
      unfold upto
      rw [← sumF_append, List.take_append_drop]
    have h2 : upto (s.take (i + 1)) s[i].1 = sumF posN (s.take (i + 1)) := sumF_congr fun y hy => by
      obtain ⟨m, hm, rfl⟩ := List.getElem_of_mem hy
      rw [List.getElem_take]
      have hm' : m < i + 1 := by simp at hm; omega
      have : s[m].1 ≤ s[i].1 := by
        by_cases e : m = i
        · subst e; exact Int.le_refl _
        · exact List.pairwise_iff_getElem.1 hso m i (by omega) hi' (by omega)
      rw [if_pos this]
    have h3 : 0 ≤ upto (s.drop (i + 1)) s[i].1 := sumF_nonneg fun y _ => by have := posN_nonneg y; split <;> omega
    omega
  have hb : ∀ j, j < l.length → ∃ i, i < l.length ∧ spareP now s i ≤ spare now l j := by
    intro j hj
    obtain ⟨D, hD⟩ : ∃ D, l[j].1 = D := ⟨_, rfl⟩
    have hm : l[j] ∈ s := hp.mem_iff.2 (List.getElem_mem hj)
    obtain ⟨i, hi, ei⟩ := List.getElem_of_mem hm
    have hw : (s.takeWhile fun y => decide (y.1 ≤ D)) ++ (s.dropWhile fun y => decide (y.1 ≤ D)) = s := List.takeWhile_append_dropWhile
    obtain ⟨m, hm'⟩ : ∃ m, (s.takeWhile fun y => decide (y.1 ≤ D)).length = m := ⟨_, rfl⟩
    have htk : s.takeWhile (fun y => decide (y.1 ≤ D)) = s.take m := by
      have := congrArg (List.take m) hw
      rwa [List.take_append_of_le_length (by omega), List.take_of_length_le (by omega)] at this
    have hms : m ≤ s.length := by have := congrArg List.length hw; rw [List.length_append] at this; omega
    have him : 0 < m := by
      refine Nat.pos_of_ne_zero fun h0 => ?_
      have : s.takeWhile (fun y => decide (y.1 ≤ D)) = [] := List.length_eq_zero_iff.1 (by omega)
      cases hsc : s with
      | nil => rw [hsc] at hi; simp at hi
      | cons x r =>
        rw [hsc, List.takeWhile_cons] at this
        split at this
        · cases this
        · rename_i hx
          have : x.1 ≤ D := by
            rw [← hD, ← ei]
            have h0' : s[0].1 ≤ s[i].1 := by
              by_cases e : i = 0
              · subst e; exact Int.le_refl _
              · exact List.pairwise_iff_getElem.1 hso 0 i (by omega) hi (by omega)
            simpa [hsc] using h0'
          simp [this] at hx
    refine ⟨m - 1, by omega, ?_⟩
    have hk : m - 1 < s.length := by omega
    unfold spare spareP dlN
    rw [at0_eq _ _ hj, at0_eq _ _ hk, hD, ← upto_perm hp, upto_sorted s hso, htk, show m - 1 + 1 = m by omega]
    have : s[m - 1].1 ≤ D := by
      have : s[m - 1] ∈ s.takeWhile fun y => decide (y.1 ≤ D) := by
        rw [htk]
        exact List.mem_take_iff_getElem.2 ⟨m - 1, by omega, rfl⟩
      exact takeWhile_leD this
    omega
  obtain ⟨j1, hj1, g1⟩ := ha k1 hk1
  obtain ⟨i2, hi2, g2⟩ := hb k2 hk2
  have := m2 j1 hj1
  have := m1 i2 hi2
  omega

/-! ### What fits -/
theorem top_of (l : List (Int × Int)) (D : Int) (h : ∃ x ∈ l, x.1 ≤ D) : ∃ x ∈ l, x.1 ≤ D ∧ ∀ y ∈ l, y.1 ≤ D → y.1 ≤ x.1 := by
  induction l with
  | nil => obtain ⟨x, hx, _⟩ := h; simp at hx
  | cons z l ih =>
    by_cases hl : ∃ x ∈ l, x.1 ≤ D
    · obtain ⟨x, hx, h1, h2⟩ := ih hl
      by_cases hz : z.1 ≤ D ∧ x.1 ≤ z.1
      · refine ⟨z, by simp, hz.1, fun y hy hyD => ?_⟩
        rcases List.mem_cons.1 hy with e | e
        · subst e; exact Int.le_refl _
        · have := h2 y e hyD; omega
      · refine ⟨x, by simp [hx], h1, fun y hy hyD => ?_⟩
        rcases List.mem_cons.1 hy with e | e
        · subst e; omega
        · exact h2 y e hyD
    · obtain ⟨x, hx, hD⟩ := h
      rcases List.mem_cons.1 hx with e | e
      · subst e
        refine ⟨x, by simp, hD, fun y hy hyD => ?_⟩
        rcases List.mem_cons.1 hy with e | e
        · subst e; exact Int.le_refl _
        · exact absurd ⟨y, e, hyD⟩ hl
      · exact absurd ⟨x, e, hD⟩ hl
/-- All fit just where up to no deadline more is needed than there is. -/
theorem fits_iff (now : Int) (l : List (Int × Int)) : fitsB now l = true ↔ mayB now l = true ∧ ∀ D, (∃ x ∈ l, x.1 ≤ D) → upto l D ≤ D - now := by
  unfold fitsB
  rw [Bool.and_eq_true]
  refine and_congr_right fun hm => ?_
  cases hl : l with
  | nil => simp
  | cons z r =>
    rw [← hl]
    have hpos : 0 < l.length := by rw [hl]; simp
    have he : l.isEmpty = false := by rw [hl]; rfl
    rw [he, Bool.false_or, decide_eq_true_eq]
    obtain ⟨⟨k, hk, e⟩, hle⟩ := leastN_is (spare now l) l.length hpos
    have e' : slackV now l = spare now l k := e
    have sp : ∀ i (hi : i < l.length), spare now l i = l[i].1 - now - upto l l[i].1 := fun i hi => by unfold spare dlN; rw [at0_eq _ _ hi]
    constructor
    · intro h D hD
      obtain ⟨x, hx, h1, h2⟩ := top_of l D hD
      obtain ⟨i, hi, rfl⟩ := List.getElem_of_mem hx
      have h3 := hle i hi
      have h4 := sp i hi
      have h5 : upto l D = upto l l[i].1 := sumF_congr fun y hy => by
        by_cases hy1 : y.1 ≤ D
        · rw [if_pos hy1, if_pos (h2 y hy hy1)]
        · rw [if_neg hy1, if_neg (by omega)]
      have h6 : slackV now l = leastN (spare now l) l.length := rfl
      omega
    · intro h
      have h3 := h l[k].1 ⟨l[k], List.getElem_mem hk, Int.le_refl _⟩
      have h4 := sp k hk
      omega
theorem upto_set (l : List (Int × Int)) (k : Nat) (x : Int × Int) (D : Int) (hk : k < l.length) (h1 : x.1 ≤ D → l[k].1 ≤ D) (h2 : x.2 ≤ l[k].2) : upto (l.set k x) D ≤ upto l D := by
  induction l generalizing k with
  | nil => simp at hk
  | cons z l ih =>
    cases k with
    | zero =>
      simp only [List.getElem_cons_zero] at h1 h2
      simp only [List.set_cons_zero, upto, sumF]
      have : (if x.1 ≤ D then posN x else 0) ≤ (if z.1 ≤ D then posN z else 0) := by
        have := posN_nonneg z
        by_cases h : x.1 ≤ D
        · rw [if_pos h, if_pos (h1 h)]; unfold posN; omega
        · rw [if_neg h]; split <;> omega
      omega
    | succ k =>
      simp only [List.getElem_cons_succ] at h1 h2
      have := ih k (by simpa using hk) h1 h2
      simp only [List.set_cons_succ, upto, sumF] at *
      omega
/-- Needs that fit do so, if one is less, or has more time. -/
theorem fits_set {now : Int} {l : List (Int × Int)} (h : fitsB now l = true) (k : Nat) (x : Int × Int) (hk : k < l.length) (h1 : l[k].1 ≤ x.1) (h2 : x.2 ≤ l[k].2) (hb : inM x.1 = true ∧ inM x.2 = true) : fitsB now (l.set k x) = true := by
  obtain ⟨hm, hf⟩ := (fits_iff now l).1 h
  refine (fits_iff now _).2 ⟨?_, fun D hD => ?_⟩
  · unfold mayB at hm ⊢
    simp only [Bool.and_eq_true, List.length_set, List.all_eq_true] at hm ⊢
    refine ⟨hm.1, hm.2.1, fun y hy => ?_⟩
    rcases List.mem_or_eq_of_mem_set hy with e | e
    · exact hm.2.2 y e
    · rw [e]; exact hb
  · refine Int.le_trans (upto_set l k x D hk (fun h => by omega) h2) (hf D ?_)
    obtain ⟨y, hy, hyD⟩ := hD
    obtain ⟨i, hi, rfl⟩ := List.getElem_of_mem hy
    rw [List.getElem_set] at hyD
    split at hyD
    · exact ⟨l[k], List.getElem_mem hk, by omega⟩
    · exact ⟨l[i]'(by simpa using hi), List.getElem_mem _, hyD⟩
end Go.Proofs.YtnnmakkbnfckmaaDoor
/- Plain: Robust's run over functions of places: what is late goes, what comes is taken, the least worth is given up, who runs, who is taken again. -/
namespace Go.Proofs.YtnnmakkbnfckmaaDoor

/-- A number at one place is another. -/
def upd {α : Type} (f : Nat → α) (i : Nat) (v : α) : Nat → α := fun j => if j = i then v else f j
theorem upd_same {α : Type} (f : Nat → α) (i : Nat) (v : α) : upd f i v i = v := by simp [upd]
theorem upd_other {α : Type} (f : Nat → α) {i j : Nat} (v : α) (h : j ≠ i) : upd f i v j = f j := by simp [upd, h]
/-- The first n of a function as a row. -/
abbrev rowN {α : Type} (f : Nat → α) (n : Nat) : List α := (List.range n).map f
theorem rowN_set {α : Type} (f : Nat → α) (n i : Nat) (v : α) : (rowN f n).set i v = rowN (upd f i v) n := by
  apply List.ext_getElem (by simp)
  intro j h1 h2
  rw [List.getElem_set]
  by_cases e : i = j
  · subst e; simp [upd]
  · rw [if_neg e]; simp [upd, show ¬ j = i from fun h => e h.symm]
def hardAt (l : List J) (i : Nat) : Bool := ((l[i]?).map J.hard).getD false
def runsAt (l : List J) (i : Nat) : Bool := ((l[i]?).map runsB).getD false
theorem hardAt_eq (l : List J) {i : Nat} (h : i < l.length) : hardAt l i = l[i].hard := by simp [hardAt, h]
theorem runsAt_eq (l : List J) {i : Nat} (h : i < l.length) : runsAt l i = runsB l[i] := by simp [runsAt, h]

/-- What a run has come to: what each is (0 not here yet, 1 taken, 2 shed), its fate, how often it ran; who ran, who was shed, who was taken again. -/
structure RS where
  tk : Nat → Nat
  fk : Nat → Int
  fa : Nat → Int
  ran : Nat → Int
  trace : List (Option Nat)
  sheds : List Nat
  again : List Nat
/-- Is it that, and has nothing become of it? -/
def RS.op (s : RS) (t i : Nat) : Bool := s.tk i == t && s.fk i == 0
def RS.say (s : RS) (i : Nat) (kind at_ : Int) : RS := { s with fk := upd s.fk i kind, fa := upd s.fa i at_ }
variable (l : List J)
def needR (s : RS) (i : Nat) : Int := at0 chargeJ l i - s.ran i
/-- What is left of the first n that are taken. -/
def leftsTo (s : RS) (n : Nat) : List (Int × Int) := ((List.range n).filter (s.op 1)).map fun i => (at0 J.dl l i, needR l s i)
def fitsR (s : RS) (now : Int) : Bool := fitsB now (leftsTo l s l.length)
theorem leftsTo_succ (s : RS) (n : Nat) : leftsTo l s (n + 1) = leftsTo l s n ++ (if s.op 1 n = true then [(at0 J.dl l n, needR l s n)] else []) := by
  unfold leftsTo
  rw [List.range_succ, List.filter_append, List.map_append]
  congr 1
  by_cases h : s.op 1 n = true <;> simp [h]
/-- Is it one that is late in tick k? -/
def lateB (s : RS) (k : Int) (i : Nat) : Bool := s.op 2 i && decide (at0 J.dl l i - k < needR l s i)
/-- The first n that are late go. -/
def lateTo (s : RS) (k : Int) (n : Nat) : RS := { s with fk := fun i => if i < n ∧ lateB l s k i = true then 3 else s.fk i, fa := fun i => if i < n ∧ lateB l s k i = true then k else s.fa i }
def late (s : RS) (k : Int) : RS := lateTo l s k l.length
/-- One that may be given up. -/
def firmB (s : RS) (i : Nat) : Bool := s.op 1 i && (!hardAt l i && decide (s.ran i < at0 J.bud l i))
def noMore (i : Nat) : Option Nat → Bool
  | none => true
  | some b => decide (at0 J.val l i ≤ at0 J.val l b)
def leastStep (s : RS) (b : Option Nat) (i : Nat) : Option Nat := if (firmB l s i && noMore l i b) = true then some i else b
def leastTo (s : RS) (n : Nat) : Option Nat := (List.range n).foldl (leastStep l s) none
def least (s : RS) : Option Nat := leastTo l s l.length
theorem leastTo_succ (s : RS) (n : Nat) : leastTo l s (n + 1) = leastStep l s (leastTo l s n) n := by unfold leastTo; rw [List.range_succ, List.foldl_append]; rfl
theorem leastTo_some (s : RS) (n : Nat) {b : Nat} (h : leastTo l s n = some b) : b < n ∧ firmB l s b = true := by
  induction n with
  | zero => simp [leastTo] at h
  | succ n ih =>
    rw [leastTo_succ] at h
    unfold leastStep at h
    split at h
    · rename_i hc
      rw [Bool.and_eq_true] at hc
      injection h with h
      subst h
      exact ⟨by omega, hc.1⟩
    · have := ih h
      exact ⟨by omega, this.2⟩
/-- These are shed. -/
def shedL (s : RS) (L : List Nat) : RS := { s with tk := fun i => if i ∈ L then 2 else s.tk i, sheds := s.sheds ++ L }
theorem shedL_nil (s : RS) : shedL s [] = s := by unfold shedL; simp
/-- Who is given up, one after another, until all fit; none: they never do. -/
def arrGo (s : RS) (k : Int) : Nat → List Nat → Option (List Nat)
  | 0, L => if fitsR l (shedL s L) k = true then some L else none
  | f + 1, L => if fitsR l (shedL s L) k = true then some L else match least l (shedL s L) with | none => none | some b => arrGo s k f (L ++ [b])
def takeR (s : RS) (i : Nat) : RS := { s with tk := upd s.tk i 1 }
/-- One that comes is taken, or refused. -/
def arrive (s : RS) (k : Int) (i : Nat) : RS := match arrGo l (takeR s i) k l.length [] with | some L => shedL (takeR s i) L | none => s.say i 4 k
def arriveTo (s : RS) (k : Int) (n : Nat) : RS := (List.range n).foldl (fun s i => if at0 J.rel l i = k then arrive l s k i else s) s
theorem arriveTo_succ (s : RS) (k : Int) (n : Nat) : arriveTo l s k (n + 1) = if at0 J.rel l n = k then arrive l (arriveTo l s k n) k n else arriveTo l s k n := by unfold arriveTo; rw [List.range_succ, List.foldl_append]; rfl
/-- Those that are shed, the most worth ahead. -/
def againL (s : RS) : List Nat := sortK (fun i => - at0 J.val l i) ((List.range l.length).filter (s.op 2))
def againStep (k : Int) (s : RS) (i : Nat) : RS := if fitsR l (takeR s i) k = true then { takeR s i with again := s.again ++ [i] } else s
def againR (s : RS) (k : Int) : RS := (againL l s).foldl (againStep l k) s
/-- Who runs. -/
def headR (s : RS) : Option Nat := pick l (s.op 1)
/-- One tick's run. -/
def runR (s : RS) (k : Int) : RS :=
  match headR l s with
  | none => { s with trace := s.trace ++ [none] }
  | some i =>
    let s1 : RS := { s with trace := s.trace ++ [some i], ran := upd s.ran i (s.ran i + 1) }
    if s.ran i + 1 < at0 workJ l i then s1
    else if runsAt l i = false then s1.say i 2 (k + 1)
    else if at0 J.act l i < at0 J.bud l i then againR l (s1.say i 1 (k + 1)) (k + 1)
    else s1.say i 1 (k + 1)
def tickR (s : RS) (k : Int) : RS := runR l (arriveTo l (late l s k) k l.length) k
def startR : RS := ⟨fun _ => 0, fun _ => 0, fun _ => 0, fun _ => 0, [], [], []⟩
/-- Behind k ticks. -/
def robT : Nat → RS
  | 0 => startR
  | k + 1 => tickR l (robT k) k
/-- At the end those that are shed are said to be so. -/
def lastTo (s : RS) (k : Int) (n : Nat) : RS := { s with fk := fun i => if i < n ∧ s.op 2 i = true then 3 else s.fk i, fa := fun i => if i < n ∧ s.op 2 i = true then k else s.fa i }
def robust : RS := lastTo (robT l (endJ l).toNat) (endJ l) l.length
end Go.Proofs.YtnnmakkbnfckmaaDoor
/- Plain: what holds of Robust's run at each tick: the taken ones fit, so they are done by their deadlines; who was taken again was shed ahead of that. -/
namespace Go.Proofs.YtnnmakkbnfckmaaDoor

/-- What is known of each of the jobs. -/
structure GoodJ (l : List J) (i : Nat) : Prop where
  rel : 0 ≤ at0 J.rel l i
  lt : at0 J.rel l i < at0 J.dl l i
  dl : at0 J.dl l i ≤ 10000
  chg : at0 chargeJ l i ≤ 1100
  wrk : 1 ≤ at0 workJ l i
  le : at0 workJ l i ≤ at0 chargeJ l i
  bud : 1 ≤ at0 J.bud l i ∧ at0 J.bud l i ≤ at0 chargeJ l i ∧ at0 J.bud l i ≤ 1000
  val : 0 ≤ at0 J.val l i ∧ at0 J.val l i ≤ 1000000
  act : 1 ≤ at0 J.act l i ∧ at0 J.act l i ≤ 1000
  cln : 0 ≤ at0 J.cln l i ∧ at0 J.cln l i ≤ 100
  sum : at0 chargeJ l i = at0 J.bud l i + at0 J.cln l i
  runs : at0 workJ l i = if runsAt l i = true then at0 J.act l i else at0 chargeJ l i
  isR : runsAt l i = decide (at0 J.act l i ≤ at0 J.bud l i)
theorem goodJ_of {l : List J} (h : l.all goodB = true) {i : Nat} (hi : i < l.length) : GoodJ l i := by
  have hg : goodB l[i] = true := List.all_eq_true.1 h _ (List.getElem_mem hi)
  have hg' := hg
  unfold goodB timesB worksB inB at hg'
  simp only [Bool.and_eq_true, decide_eq_true_eq] at hg'
  have hc : chargeJ l[i] = l[i].bud + l[i].cln := by unfold chargeJ; rw [hg]; rfl
  have hr : runsAt l i = decide (l[i].act ≤ l[i].bud) := runsAt_eq l hi
  have hw : workJ l[i] = if runsAt l i = true then l[i].act else l[i].bud + l[i].cln := by unfold workJ; rw [hg, hr]; rfl
  have hw' : workJ l[i] ≤ chargeJ l[i] ∧ 1 ≤ workJ l[i] := by
    rw [hw, hc, hr]
    by_cases h : l[i].act ≤ l[i].bud
    · simp only [h, decide_true, if_true]; omega
    · simp only [h, decide_false, Bool.false_eq_true, if_false]; omega
  constructor <;> simp only [at0_eq _ _ hi] <;> first | omega | (rw [hw, hc]) | exact hr
theorem allB_all {l : List J} (h : allB l = true) : l.length ≤ 200 ∧ l.all goodB = true := by
  unfold allB at h
  simpa using h

theorem op_iff (s : RS) (t i : Nat) : s.op t i = true ↔ s.tk i = t ∧ s.fk i = 0 := by unfold RS.op; simp
/-- What the taken ones need up to a deadline. -/
def needS (l : List J) (s : RS) (D : Int) (n : Nat) : Int := sumN (fun i => if s.op 1 i = true ∧ at0 J.dl l i ≤ D then max (needR l s i) 0 else 0) n
theorem upto_append (a b : List (Int × Int)) (D : Int) : upto (a ++ b) D = upto a D + upto b D := sumF_append _ _ _
theorem upto_lefts (l : List J) (s : RS) (D : Int) (n : Nat) : upto (leftsTo l s n) D = needS l s D n := by
  induction n with
  | zero => rfl
  | succ n ih =>
    rw [leftsTo_succ, upto_append, ih]
    show _ = needS l s D n + (if s.op 1 n = true ∧ at0 J.dl l n ≤ D then max (needR l s n) 0 else 0)
    congr 1
    by_cases h : s.op 1 n = true
    · rw [if_pos h]
      by_cases hd : at0 J.dl l n ≤ D
      · rw [if_pos ⟨h, hd⟩]; simp [upto, sumF, hd, posN]
      · rw [if_neg (fun x => hd x.2)]; simp [upto, sumF, hd]
    · rw [if_neg h, if_neg (fun x => h x.1)]; rfl
/-- The taken ones fit. -/
def Fit (l : List J) (s : RS) (k : Int) : Prop := ∀ D, (∃ i, i < l.length ∧ s.op 1 i = true ∧ at0 J.dl l i ≤ D) → needS l s D l.length ≤ D - k
theorem lefts_mem (l : List J) (s : RS) (n : Nat) (x : Int × Int) : x ∈ leftsTo l s n ↔ ∃ i, i < n ∧ s.op 1 i = true ∧ x = (at0 J.dl l i, needR l s i) := by
  unfold leftsTo
  simp only [List.mem_map, List.mem_filter, List.mem_range]
  constructor
  · rintro ⟨i, ⟨h1, h2⟩, rfl⟩; exact ⟨i, h1, h2, rfl⟩
  · rintro ⟨i, h1, h2, rfl⟩; exact ⟨i, ⟨h1, h2⟩, rfl⟩
theorem lefts_len (l : List J) (s : RS) (n : Nat) : (leftsTo l s n).length ≤ n := by
  unfold leftsTo
  rw [List.length_map]
  have := List.length_filter_le (s.op 1) (List.range n)
  simpa using this
theorem fitsR_iff {l : List J} (hl : l.length ≤ 200) (hg : ∀ i, i < l.length → GoodJ l i) {s : RS} (hr : ∀ i, i < l.length → 0 ≤ s.ran i ∧ s.ran i ≤ at0 workJ l i) {k : Int} (h0 : 0 ≤ k) (h1 : k ≤ 100000) : fitsR l s k = true ↔ Fit l s k := by
  unfold fitsR
  rw [fits_iff]
  have hm : mayB k (leftsTo l s l.length) = true := by
    unfold mayB inM
    simp only [Bool.and_eq_true, decide_eq_true_eq, List.all_eq_true]
    refine ⟨by omega, by have := lefts_len l s l.length; omega, fun x hx => ?_⟩
    obtain ⟨i, hi, _, rfl⟩ := (lefts_mem l s l.length x).1 hx
    have g := hg i hi
    have r := hr i hi
    have g1 := g.rel; have g2 := g.lt; have g3 := g.dl; have g4 := g.chg; have g5 := g.le; have g6 := g.wrk
    simp only [needR]
    omega
  constructor
  · rintro ⟨_, h⟩ D ⟨i, hi, ho, hd⟩
    have := h D ⟨_, (lefts_mem l s l.length _).2 ⟨i, hi, ho, rfl⟩, hd⟩
    rwa [upto_lefts] at this
  · intro h
    refine ⟨hm, fun D hD => ?_⟩
    obtain ⟨x, hx, hd⟩ := hD
    obtain ⟨i, hi, ho, rfl⟩ := (lefts_mem l s l.length x).1 hx
    rw [upto_lefts]
    exact h D ⟨i, hi, ho, hd⟩
theorem needS_term (l : List J) (s : RS) {i : Nat} (hi : i < l.length) (ho : s.op 1 i = true) : needR l s i ≤ needS l s (at0 J.dl l i) l.length := by
  have h : sumN (fun j => if j = i then max (needR l s i) 0 else 0) l.length ≤ needS l s (at0 J.dl l i) l.length := by
    refine sumN_le fun j hj => ?_
    by_cases e : j = i
    · subst e; rw [if_pos rfl, if_pos ⟨ho, Int.le_refl _⟩]; exact Int.le_refl _
    · rw [if_neg e]; split <;> omega
  have h2 : ∀ n, sumN (fun j => if j = i then max (needR l s i) 0 else 0) n = if i < n then max (needR l s i) 0 else 0 := by
    intro n
    induction n with
    | zero => rfl
    | succ n ih =>
      simp only [sumN]; rw [ih]
      by_cases e1 : i < n
      · rw [if_pos e1, if_neg (by omega), if_pos (by omega)]; omega
      · by_cases e2 : n = i
        · rw [if_neg e1, if_pos e2, if_pos (by omega)]; omega
        · rw [if_neg e1, if_neg e2, if_neg (by omega)]; rfl
  rw [h2, if_pos hi] at h
  omega
theorem needS_congr {l : List J} {s s' : RS} {D : Int} (ho : ∀ i, i < l.length → s.op 1 i = s'.op 1 i) (hr : ∀ i, i < l.length → s.ran i = s'.ran i) : needS l s D l.length = needS l s' D l.length :=
  sumN_congr fun i hi => by unfold needR; rw [ho i hi, hr i hi]
theorem Fit.congr {l : List J} {s s' : RS} {k : Int} (h : Fit l s k) (ho : ∀ i, i < l.length → s.op 1 i = s'.op 1 i) (hr : ∀ i, i < l.length → s.ran i = s'.ran i) : Fit l s' k := fun D ⟨i, hi, h1, h2⟩ => by
  rw [← needS_congr ho hr]
  exact h D ⟨i, hi, by rw [ho i hi]; exact h1, h2⟩

/-- What holds in tick k, when the first m have been looked at. -/
structure InvR (l : List J) (s : RS) (k m : Nat) : Prop where
  tk2 : ∀ i, i < l.length → s.tk i ≤ 2
  new : ∀ i, i < l.length → s.fk i = 0 → (s.tk i = 0 ↔ ((k : Int) < at0 J.rel l i ∨ (at0 J.rel l i = k ∧ m ≤ i)))
  wait : ∀ i, i < l.length → ((k : Int) < at0 J.rel l i ∨ (at0 J.rel l i = k ∧ m ≤ i)) → s.fk i = 0
  ran : ∀ i, i < l.length → 0 ≤ s.ran i ∧ s.ran i ≤ at0 workJ l i
  run0 : ∀ i, i < l.length → s.fk i = 0 → s.ran i < at0 workJ l i
  new0 : ∀ i, i < l.length → s.tk i = 0 → s.ran i = 0
  fate : ∀ i, i < l.length → s.fk i = 0 ∨ (s.fk i = 1 ∧ runsAt l i = true ∧ s.ran i = at0 workJ l i ∧ s.tk i = 1) ∨ (s.fk i = 2 ∧ runsAt l i = false ∧ s.ran i = at0 workJ l i ∧ s.tk i = 1) ∨
    (s.fk i = 3 ∧ s.ran i < at0 workJ l i ∧ s.tk i = 2) ∨ (s.fk i = 4 ∧ s.ran i < at0 workJ l i ∧ s.tk i = 0)
  fa : ∀ i, i < l.length → 0 ≤ s.fa i ∧ s.fa i ≤ k
  fit : Fit l s k
  tlen : s.trace.length = k
  tcnt : ∀ i, i < l.length → (s.trace.count (some i) : Int) = s.ran i
  tin : ∀ (t : Nat) i, s.trace[t]? = some (some i) → i < l.length ∧ at0 J.rel l i ≤ t ∧ (t : Int) < at0 J.dl l i
  cnts : ∀ i, i < l.length → s.sheds.count i = s.again.count i + if s.tk i = 2 then 1 else 0
  mem : (∀ i ∈ s.sheds, i < l.length) ∧ ∀ i ∈ s.again, i < l.length
variable {l : List J}
theorem InvR.start (hg : ∀ i, i < l.length → GoodJ l i) : InvR l startR 0 0 where
  tk2 := fun _ _ => Nat.zero_le _
  new := fun i hi _ => by have g := (hg i hi).rel; simp [startR]; omega
  wait := fun _ _ _ => rfl
  ran := fun i hi => by have g := (hg i hi).wrk; simp [startR]; omega
  run0 := fun i hi _ => by have g := (hg i hi).wrk; simp [startR]; omega
  new0 := fun _ _ _ => rfl
  fate := fun _ _ => .inl rfl
  fa := fun _ _ => by simp [startR]
  fit := fun D ⟨i, _, ho, _⟩ => by simp [op_iff, startR] at ho
  tlen := rfl
  tcnt := fun _ _ => rfl
  tin := fun t i h => by simp [startR] at h
  cnts := fun _ _ => rfl
  mem := ⟨by simp [startR], by simp [startR]⟩

/-! ### What is late goes -/
theorem lateB_op {s : RS} {k : Int} {i : Nat} (h : lateB l s k i = true) : s.tk i = 2 ∧ s.fk i = 0 := by
  unfold lateB at h
  rw [Bool.and_eq_true] at h
  exact (op_iff s 2 i).1 h.1
theorem InvR.late {s : RS} {k m : Nat} (h : InvR l s k m) : InvR l (late l s k) k m := by
  have fk : ∀ i, (Go.Proofs.YtnnmakkbnfckmaaDoor.late l s k).fk i = if i < l.length ∧ lateB l s k i = true then 3 else s.fk i := fun _ => rfl
  have fa : ∀ i, (Go.Proofs.YtnnmakkbnfckmaaDoor.late l s k).fa i = if i < l.length ∧ lateB l s k i = true then (k : Int) else s.fa i := fun _ => rfl
  have f0 : ∀ i, (Go.Proofs.YtnnmakkbnfckmaaDoor.late l s k).fk i = 0 → s.fk i = 0 := fun i hi => by
    rw [fk] at hi
    split at hi
    · omega
    · exact hi
  have op1 : ∀ i, s.op 1 i = (Go.Proofs.YtnnmakkbnfckmaaDoor.late l s k).op 1 i := fun i => by
    rw [Bool.eq_iff_iff, op_iff, op_iff, fk]
    by_cases c : i < l.length ∧ lateB l s k i = true
    · have := lateB_op c.2
      rw [if_pos c]
      show s.tk i = 1 ∧ _ ↔ s.tk i = 1 ∧ _
      omega
    · rw [if_neg c]; exact Iff.rfl
  refine ⟨h.tk2, fun i hi h0 => h.new i hi (f0 i h0), fun i hi hc => ?_, h.ran, fun i hi h0 => h.run0 i hi (f0 i h0), h.new0, fun i hi => ?_, fun i hi => ?_, h.fit.congr (fun i _ => op1 i) fun _ _ => rfl, h.tlen, h.tcnt, h.tin, h.cnts, h.mem⟩
  · rw [fk]
    have w := h.wait i hi hc
    have nw := (h.new i hi w).2 hc
    split
    · rename_i c; have := lateB_op c.2; omega
    · exact w
  · rw [fk]
    split
    · rename_i c
      have := lateB_op c.2
      exact .inr (.inr (.inr (.inl ⟨rfl, h.run0 i hi this.2, this.1⟩)))
    · exact h.fate i hi
  · rw [fa]
    split
    · omega
    · exact h.fa i hi

/-! ### What comes is taken, or refused -/
theorem shedL_op (s : RS) (L : List Nat) (i : Nat) : (shedL s L).op 1 i = true ↔ i ∉ L ∧ s.op 1 i = true := by
  rw [op_iff, op_iff]
  show (if i ∈ L then 2 else s.tk i) = 1 ∧ s.fk i = 0 ↔ _
  by_cases h : i ∈ L
  · rw [if_pos h]; simp [h]
  · rw [if_neg h]; simp [h]
theorem arrGo_some {s : RS} {k : Int} {f : Nat} : ∀ {L L' : List Nat}, L.Nodup → (∀ b ∈ L, b < l.length ∧ s.op 1 b = true ∧ hardAt l b = false) → arrGo l s k f L = some L' →
    L'.Nodup ∧ (∀ b ∈ L', b < l.length ∧ s.op 1 b = true ∧ hardAt l b = false) ∧ fitsR l (shedL s L') k = true := by
  induction f with
  | zero =>
    intro L L' h1 h2 h3
    unfold arrGo at h3
    split at h3
    · injection h3 with h3; subst h3; exact ⟨h1, h2, by assumption⟩
    · cases h3
  | succ f ih =>
    intro L L' h1 h2 h3
    unfold arrGo at h3
    split at h3
    · injection h3 with h3; subst h3; exact ⟨h1, h2, by assumption⟩
    · cases hb : least l (shedL s L) with
      | none => rw [hb] at h3; cases h3
      | some b =>
        rw [hb] at h3
        obtain ⟨hbn, hbf⟩ := leastTo_some l _ _ hb
        unfold firmB at hbf
        simp only [Bool.and_eq_true, Bool.not_eq_true'] at hbf
        obtain ⟨hno, hop⟩ := (shedL_op s L b).1 hbf.1
        refine ih ?_ ?_ h3
        · rw [List.nodup_append]
          refine ⟨h1, by simp, fun x hx y hy => ?_⟩
          obtain rfl : y = b := by simpa using hy
          intro e; subst e; exact hno hx
        · intro c hc
          rcases List.mem_append.1 hc with e | e
          · exact h2 c e
          · obtain rfl : c = b := by simpa using e
            exact ⟨hbn, hop, hbf.2.1⟩
theorem take_op (s : RS) (i j : Nat) (hf : s.fk i = 0) : (takeR s i).op 1 j = true ↔ j = i ∨ s.op 1 j = true := by
  rw [op_iff, op_iff]
  show upd s.tk i 1 j = 1 ∧ s.fk j = 0 ↔ _
  unfold upd
  by_cases e : j = i
  · subst e; simp [hf]
  · simp [e]
theorem InvR.skip {s : RS} {k i : Nat} (h : InvR l s k i) (hr : at0 J.rel l i ≠ k) : InvR l s k (i + 1) :=
  have e : ∀ j, ((k : Int) < at0 J.rel l j ∨ (at0 J.rel l j = k ∧ i ≤ j)) ↔ ((k : Int) < at0 J.rel l j ∨ (at0 J.rel l j = k ∧ i + 1 ≤ j)) := fun j => by
    by_cases c : j = i
    · subst c; omega
    · omega
  { h with new := fun j hj h0 => by rw [h.new j hj h0, e], wait := fun j hj hc => h.wait j hj ((e j).2 hc) }
theorem InvR.arrive (hl : l.length ≤ 200) (hg : ∀ i, i < l.length → GoodJ l i) {s : RS} {k i : Nat} (h : InvR l s k i) (hk : k ≤ 10000) (hi : i < l.length) (hr : at0 J.rel l i = k) : InvR l (arrive l s k i) k (i + 1) := by
  have w := h.wait i hi (.inr ⟨hr, Nat.le_refl _⟩)
  have nw := (h.new i hi w).2 (.inr ⟨hr, Nat.le_refl _⟩)
  have e : ∀ j, j ≠ i → (((k : Int) < at0 J.rel l j ∨ (at0 J.rel l j = k ∧ i ≤ j)) ↔ ((k : Int) < at0 J.rel l j ∨ (at0 J.rel l j = k ∧ i + 1 ≤ j))) := fun j c => by omega
  have ne : ¬ ((k : Int) < at0 J.rel l i ∨ (at0 J.rel l i = k ∧ i + 1 ≤ i)) := by omega
  have r0 := h.new0 i hi nw
  unfold Go.Proofs.YtnnmakkbnfckmaaDoor.arrive
  cases hA : arrGo l (takeR s i) k l.length [] with
  | some L =>
    obtain ⟨hnd, hL, hfit⟩ := arrGo_some (l := l) (by simp) (by simp) hA
    have hfit' := (fitsR_iff hl hg (s := shedL (takeR s i) L) (fun j hj => h.ran j hj) (by omega) (by omega)).1 hfit
    have tk : ∀ j, (shedL (takeR s i) L).tk j = if j ∈ L then 2 else upd s.tk i 1 j := fun _ => rfl
    have inL : ∀ j, j ∈ L → s.fk j = 0 ∧ (j = i ∨ s.tk j = 1) := fun j hj => by
      obtain ⟨_, ho, _⟩ := hL j hj
      rcases (take_op s i j w).1 ho with e | e
      · subst e; exact ⟨w, .inl rfl⟩
      · have := (op_iff s 1 j).1 e; exact ⟨this.2, .inr this.1⟩
    have tkn : ∀ j, j ≠ i → j ∉ L → (shedL (takeR s i) L).tk j = s.tk j := fun j h1 h2 => by rw [tk, if_neg h2, upd_other _ _ h1]
    refine ⟨fun j hj => ?_, fun j hj h0 => ?_, fun j hj hc => ?_, h.ran, h.run0, fun j hj h0 => ?_, fun j hj => ?_, h.fa, hfit', h.tlen, h.tcnt, h.tin, fun j hj => ?_, ⟨fun j hj => ?_, h.mem.2⟩⟩
    · rw [tk]
      split
      · omega
      · unfold upd; split
        · omega
        · exact h.tk2 j hj
    · rw [tk]
      by_cases c : j = i
      · subst c
        constructor
        · intro x; split at x
          · omega
          · rw [upd_same] at x; omega
        · intro x; exact absurd x ne
      · rw [← e j c]
        by_cases d : j ∈ L
        · rw [if_pos d]
          obtain ⟨_, t⟩ := inL j d
          have := h.new j hj h0
          omega
        · rw [if_neg d, upd_other _ _ c]; exact h.new j hj h0
    · by_cases c : j = i
      · subst c; exact w
      · exact h.wait j hj ((e j c).2 hc)
    · by_cases c : j = i
      · subst c; exact r0
      · by_cases d : j ∈ L
        · rw [tk, if_pos d] at h0; omega
        · exact h.new0 j hj ((tkn j c d) ▸ h0)
    · have f := h.fate j hj
      by_cases c : j = i
      · subst c; exact .inl w
      · by_cases d : j ∈ L
        · exact .inl (inL j d).1
        · rw [tkn j c d]; exact f
    · have c0 := h.cnts j hj
      show (s.sheds ++ L).count j = s.again.count j + _
      rw [List.count_append, hnd.count, tk]
      by_cases d : j ∈ L
      · rw [if_pos d, if_pos d]
        have : s.tk j ≠ 2 := by
          rcases (inL j d).2 with e | e
          · subst e; omega
          · omega
        rw [if_neg this] at c0
        simp; omega
      · rw [if_neg d, if_neg d]
        by_cases c : j = i
        · subst c
          rw [upd_same]
          rw [nw] at c0
          simpa using c0
        · rw [upd_other _ _ c]; simpa using c0
    · rcases List.mem_append.1 hj with e | e
      · exact h.mem.1 j e
      · exact (hL j e).1
  | none =>
    have fk : ∀ j, (s.say i 4 k).fk j = upd s.fk i 4 j := fun _ => rfl
    have fo : ∀ j, j ≠ i → (s.say i 4 k).fk j = s.fk j := fun j c => upd_other _ _ c
    have f0 : ∀ j, (s.say i 4 k).fk j = 0 → j ≠ i ∧ s.fk j = 0 := fun j hj => by
      by_cases c : j = i
      · subst c; rw [fk, upd_same] at hj; omega
      · exact ⟨c, by rwa [fo j c] at hj⟩
    have op1 : ∀ j, s.op 1 j = (s.say i 4 k).op 1 j := fun j => by
      rw [Bool.eq_iff_iff, op_iff, op_iff]
      show _ ↔ s.tk j = 1 ∧ _
      by_cases c : j = i
      · subst c; omega
      · rw [fo j c]
    refine ⟨h.tk2, fun j hj h0 => ?_, fun j hj hc => ?_, h.ran, fun j hj h0 => h.run0 j hj (f0 j h0).2, h.new0, fun j hj => ?_, fun j hj => ?_, h.fit.congr (fun j _ => op1 j) fun _ _ => rfl, h.tlen, h.tcnt, h.tin, h.cnts, h.mem⟩
    · rw [← e j (f0 j h0).1]; exact h.new j hj (f0 j h0).2
    · have c : j ≠ i := fun c => by subst c; exact ne hc
      rw [fo j c]; exact h.wait j hj ((e j c).2 hc)
    · by_cases c : j = i
      · subst c
        exact .inr (.inr (.inr (.inr ⟨by rw [fk, upd_same], h.run0 j hj w, nw⟩)))
      · rw [fo j c]; exact h.fate j hj
    · show 0 ≤ upd s.fa i (k : Int) j ∧ upd s.fa i (k : Int) j ≤ k
      unfold upd
      split
      · omega
      · exact h.fa j hj
theorem InvR.arrives (hl : l.length ≤ 200) (hg : ∀ i, i < l.length → GoodJ l i) {s : RS} {k : Nat} (h : InvR l s k 0) (hk : k ≤ 10000) : ∀ n, n ≤ l.length → InvR l (arriveTo l s k n) k n := by
  intro n
  induction n with
  | zero => intro _; exact h
  | succ n ih =>
    intro hn
    rw [arriveTo_succ]
    by_cases c : at0 J.rel l n = k
    · rw [if_pos c]; exact (ih (by omega)).arrive hl hg hk (by omega) c
    · rw [if_neg c]; exact (ih (by omega)).skip c

/-! ### Who is taken again -/
theorem InvR.againStep (hl : l.length ≤ 200) (hg : ∀ i, i < l.length → GoodJ l i) {s : RS} {k i : Nat} (h : InvR l s k 0) (hk : k ≤ 10001) (hi : i < l.length) (ho : s.op 2 i = true) : InvR l (againStep l k s i) k 0 := by
  unfold Go.Proofs.YtnnmakkbnfckmaaDoor.againStep
  obtain ⟨t2, f0⟩ := (op_iff s 2 i).1 ho
  split
  · rename_i hf
    have hfit := (fitsR_iff hl hg (s := takeR s i) (fun j hj => h.ran j hj) (by omega) (by omega)).1 hf
    have tk : ∀ j, j ≠ i → (takeR s i).tk j = s.tk j := fun j c => upd_other _ _ c
    have ti : (takeR s i).tk i = 1 := upd_same _ _ _
    refine ⟨fun j hj => ?_, fun j hj h0 => ?_, h.wait, h.ran, h.run0, fun j hj h0 => ?_, fun j hj => ?_, h.fa, hfit.congr (fun _ _ => rfl) (fun _ _ => rfl), h.tlen, h.tcnt, h.tin, fun j hj => ?_, ⟨h.mem.1, fun j hj => ?_⟩⟩
    · show (takeR s i).tk j ≤ 2
      by_cases c : j = i
      · subst c; omega
      · rw [tk j c]; exact h.tk2 j hj
    · show (takeR s i).tk j = 0 ↔ _
      have := h.new j hj h0
      by_cases c : j = i
      · subst c; omega
      · rw [tk j c]; exact this
    · have h0 : (takeR s i).tk j = 0 := h0
      by_cases c : j = i
      · subst c; omega
      · rw [tk j c] at h0; exact h.new0 j hj h0
    · have f := h.fate j hj
      by_cases c : j = i
      · subst c; exact .inl f0
      · show s.fk j = 0 ∨ _
        simp only [tk j c]
        exact f
    · have c0 := h.cnts j hj
      show s.sheds.count j = (s.again ++ [i]).count j + if (takeR s i).tk j = 2 then 1 else 0
      rw [List.count_append, List.count_singleton]
      by_cases c : j = i
      · subst c; rw [ti]; rw [t2] at c0; simpa using c0
      · rw [tk j c, if_neg (by simpa using fun e => c e.symm)]; exact c0
    · rcases List.mem_append.1 hj with e | e
      · exact h.mem.2 j e
      · obtain rfl : j = i := by simpa using e
        exact hi
  · exact h
theorem againStep_op (k : Int) (s : RS) (i j : Nat) (hj : j ≠ i) (t : Nat) : (againStep l k s i).op t j = s.op t j := by
  unfold againStep
  split
  · show (upd s.tk i 1 j == t && s.fk j == 0) = _
    rw [upd_other _ _ hj]; rfl
  · rfl
theorem InvR.againL (hl : l.length ≤ 200) (hg : ∀ i, i < l.length → GoodJ l i) {k : Nat} (hk : k ≤ 10001) : ∀ (L : List Nat) {s : RS}, InvR l s k 0 → L.Nodup → (∀ i ∈ L, i < l.length ∧ s.op 2 i = true) → InvR l (L.foldl (Go.Proofs.YtnnmakkbnfckmaaDoor.againStep l k) s) k 0 := by
  intro L
  induction L with
  | nil => intro s h _ _; exact h
  | cons i L ih =>
    intro s h hnd hL
    rw [List.nodup_cons] at hnd
    obtain ⟨h1, h2⟩ := hL i (by simp)
    refine ih (h.againStep hl hg hk h1 h2) hnd.2 fun j hj => ?_
    obtain ⟨h3, h4⟩ := hL j (by simp [hj])
    exact ⟨h3, by rw [againStep_op _ _ _ _ (fun e => by subst e; exact hnd.1 hj)]; exact h4⟩
theorem againL_nodup (s : RS) : (againL l s).Nodup ∧ ∀ i ∈ againL l s, i < l.length ∧ s.op 2 i = true := by
  unfold Go.Proofs.YtnnmakkbnfckmaaDoor.againL
  refine ⟨(sortK_perm _ _).nodup_iff.2 (List.nodup_range.filter _), fun i hi => ?_⟩
  have := (sortK_perm _ _).mem_iff.1 hi
  simpa using this

/-! ### Who runs -/
theorem InvR.idle {s : RS} {k : Nat} (h : InvR l s k l.length) (hh : headR l s = none) : InvR l { s with trace := s.trace ++ [none] } (k + 1) 0 := by
  have no := pick_none hh
  have e : ∀ i, i < l.length → (((k : Int) < at0 J.rel l i ∨ (at0 J.rel l i = k ∧ l.length ≤ i)) ↔ (((k + 1 : Nat) : Int) < at0 J.rel l i ∨ (at0 J.rel l i = ((k + 1 : Nat) : Int) ∧ 0 ≤ i))) := fun i hi => by omega
  refine ⟨h.tk2, fun i hi h0 => by rw [← e i hi]; exact h.new i hi h0, fun i hi hc => h.wait i hi ((e i hi).2 hc), h.ran, h.run0, h.new0, h.fate, fun i hi => ⟨(h.fa i hi).1, by have := (h.fa i hi).2; show s.fa i ≤ _; omega⟩, ?_, by simp [h.tlen], fun i hi => ?_, fun t i ht => ?_, h.cnts, h.mem⟩
  · rintro D ⟨i, hi, ho, _⟩
    have : s.op 1 i = true := ho
    rw [no i hi] at this; cases this
  · have := h.tcnt i hi
    simpa [List.count_append] using this
  · by_cases c : t < s.trace.length
    · rw [List.getElem?_append_left c] at ht; exact h.tin t i ht
    · rw [List.getElem?_append_right (by omega)] at ht
      have : (t - s.trace.length) = 0 ∨ 0 < t - s.trace.length := by omega
      rcases this with c | c
      · rw [c] at ht; simp at ht
      · rw [List.getElem?_eq_none (by simp; omega)] at ht; cases ht
/-- One that runs: s1 is what follows, it being still open, or said to be done. -/
theorem InvR.runs (hg : ∀ i, i < l.length → GoodJ l i) {s s1 : RS} {k i : Nat} (h : InvR l s k l.length) (hh : headR l s = some i)
    (e1 : s1.tk = s.tk) (e2 : s1.ran = upd s.ran i (s.ran i + 1)) (e3 : s1.trace = s.trace ++ [some i]) (e4 : s1.sheds = s.sheds) (e5 : s1.again = s.again)
    (e6 : ∀ j, j ≠ i → s1.fk j = s.fk j ∧ s1.fa j = s.fa j) (e8 : 0 ≤ s1.fa i ∧ s1.fa i ≤ (k + 1 : Nat))
    (e7 : (s1.fk i = 0 ∧ s.ran i + 1 < at0 workJ l i) ∨ (s1.fk i = 1 ∧ runsAt l i = true ∧ s.ran i + 1 = at0 workJ l i) ∨ (s1.fk i = 2 ∧ runsAt l i = false ∧ s.ran i + 1 = at0 workJ l i)) : InvR l s1 (k + 1) 0 := by
  obtain ⟨hi, ho, hmin⟩ := pick_some hh
  obtain ⟨t1, f0⟩ := (op_iff s 1 i).1 ho
  have g := hg i hi
  have rn := h.ran i hi
  have r0 := h.run0 i hi f0
  have hrel : ¬ ((k : Int) < at0 J.rel l i ∨ (at0 J.rel l i = k ∧ l.length ≤ i)) := fun c => by
    have := (h.new i hi f0).2 c; omega
  have hneed : 1 ≤ needR l s i := by unfold needR; have := g.le; omega
  have hdl : (k : Int) < at0 J.dl l i := by
    have h1 := h.fit (at0 J.dl l i) ⟨i, hi, ho, Int.le_refl _⟩
    have h2 := needS_term l s hi ho
    omega
  have e : ∀ j, j < l.length → (((k : Int) < at0 J.rel l j ∨ (at0 J.rel l j = k ∧ l.length ≤ j)) ↔ (((k + 1 : Nat) : Int) < at0 J.rel l j ∨ (at0 J.rel l j = ((k + 1 : Nat) : Int) ∧ 0 ≤ j))) := fun j hj => by omega
  have ri : s1.ran i = s.ran i + 1 := by rw [e2, upd_same]
  have ro : ∀ j, j ≠ i → s1.ran j = s.ran j := fun j c => by rw [e2, upd_other _ _ c]
  have sub : ∀ j, s1.op 1 j = true → s.op 1 j = true := fun j hj => by
    rw [op_iff, e1] at hj
    by_cases c : j = i
    · subst c; exact ho
    · rw [op_iff, ← (e6 j c).1]; exact hj
  refine ⟨by rw [e1]; exact h.tk2, fun j hj h0 => ?_, fun j hj hc => ?_, fun j hj => ?_, fun j hj h0 => ?_, fun j hj h0 => ?_, fun j hj => ?_, fun j hj => ?_, ?_, by rw [e3]; simp [h.tlen], fun j hj => ?_, fun t j ht => ?_, by rw [e4, e5, e1]; exact h.cnts, by rw [e4, e5]; exact h.mem⟩
  · rw [e1, ← e j hj]
    by_cases c : j = i
    · subst c; exact h.new j hj f0
    · exact h.new j hj (by rw [← (e6 j c).1]; exact h0)
  · have hc' := (e j hj).2 hc
    have c : j ≠ i := fun c => by subst c; exact hrel hc'
    rw [(e6 j c).1]; exact h.wait j hj hc'
  · by_cases c : j = i
    · subst c; rw [ri]; omega
    · rw [ro j c]; exact h.ran j hj
  · by_cases c : j = i
    · subst c; rw [ri]; omega
    · rw [ro j c]; exact h.run0 j hj (by rw [← (e6 j c).1]; exact h0)
  · rw [e1] at h0
    have c : j ≠ i := fun c => by subst c; omega
    rw [ro j c]; exact h.new0 j hj h0
  · by_cases c : j = i
    · subst c
      rw [ri, e1]
      rcases e7 with e7 | e7 | e7
      · exact .inl e7.1
      · exact .inr (.inl ⟨e7.1, e7.2.1, e7.2.2, t1⟩)
      · exact .inr (.inr (.inl ⟨e7.1, e7.2.1, e7.2.2, t1⟩))
    · rw [ro j c, (e6 j c).1, e1]; exact h.fate j hj
  · by_cases c : j = i
    · subst c; exact e8
    · rw [(e6 j c).2]; have := h.fa j hj; omega
  · rintro D ⟨j, hj, hoj, hdj⟩
    have hij := hmin j hj (sub j hoj)
    have h1 := h.fit D ⟨i, hi, ho, by omega⟩
    have h2 : needS l s1 D l.length < needS l s D l.length := by
      refine sumN_lt (k := i) (fun m hm => ?_) hi ?_
      · by_cases c : m = i
        · subst c
          rw [if_pos (c := s.op 1 m = true ∧ at0 J.dl l m ≤ D) ⟨ho, by omega⟩]
          have : needR l s1 m = needR l s m - 1 := by unfold needR; rw [ri]; omega
          split <;> omega
        · have hn : needR l s1 m = needR l s m := by unfold needR; rw [ro m c]
          rw [hn]
          by_cases d : s1.op 1 m = true ∧ at0 J.dl l m ≤ D
          · rw [if_pos d, if_pos ⟨sub m d.1, d.2⟩]; exact Int.le_refl _
          · rw [if_neg d]; split <;> omega
      · rw [if_pos (c := s.op 1 i = true ∧ at0 J.dl l i ≤ D) ⟨ho, by omega⟩]
        have : needR l s1 i = needR l s i - 1 := by unfold needR; rw [ri]; omega
        split <;> omega
    omega
  · rw [e3, List.count_append, List.count_singleton]
    have := h.tcnt j hj
    by_cases c : j = i
    · subst c; rw [ri]; simp; omega
    · rw [ro j c, if_neg (by simpa using fun e => c e.symm)]; simpa using this
  · rw [e3] at ht
    by_cases c : t < s.trace.length
    · rw [List.getElem?_append_left c] at ht; exact h.tin t j ht
    · rw [List.getElem?_append_right (by omega)] at ht
      have tl := h.tlen
      by_cases d : t - s.trace.length = 0
      · rw [d] at ht
        have : i = j := by simpa using ht
        subst this
        have : t = k := by omega
        subst this
        exact ⟨hi, by omega, hdl⟩
      · rw [List.getElem?_eq_none (by simp; omega)] at ht; cases ht
theorem InvR.run (hl : l.length ≤ 200) (hg : ∀ i, i < l.length → GoodJ l i) {s : RS} {k : Nat} (h : InvR l s k l.length) (hk : k ≤ 10000) : InvR l (runR l s k) (k + 1) 0 := by
  unfold runR
  cases hh : headR l s with
  | none => exact h.idle hh
  | some i =>
    obtain ⟨hi, ho, _⟩ := pick_some hh
    obtain ⟨t1, f0⟩ := (op_iff s 1 i).1 ho
    have r0 := h.run0 i hi f0
    have fa0 := h.fa i hi
    dsimp only
    split
    · exact h.runs hg hh rfl rfl rfl rfl rfl (fun _ _ => ⟨rfl, rfl⟩) (by show 0 ≤ s.fa i ∧ s.fa i ≤ _; omega) (.inl ⟨f0, by assumption⟩)
    · rename_i hw
      split
      · rename_i hr
        exact h.runs hg hh rfl rfl rfl rfl rfl (fun j c => ⟨upd_other _ _ c, upd_other _ _ c⟩) (by show 0 ≤ upd s.fa i _ i ∧ upd s.fa i _ i ≤ _; rw [upd_same]; omega) (.inr (.inr ⟨upd_same _ _ _, hr, by omega⟩))
      · rename_i hr
        have hr' : runsAt l i = true := by simpa using hr
        have h2 := h.runs (s1 := RS.say { s with trace := s.trace ++ [some i], ran := upd s.ran i (s.ran i + 1) } i 1 (k + 1)) hg hh rfl rfl rfl rfl rfl (fun j c => ⟨upd_other _ _ c, upd_other _ _ c⟩) (by show 0 ≤ upd s.fa i _ i ∧ upd s.fa i _ i ≤ _; rw [upd_same]; omega) (.inr (.inl ⟨upd_same _ _ _, hr', by omega⟩))
        split
        · unfold againR
          obtain ⟨a1, a2⟩ := againL_nodup (l := l) (RS.say { s with trace := s.trace ++ [some i], ran := upd s.ran i (s.ran i + 1) } i 1 (k + 1))
          have := InvR.againL hl hg (k := k + 1) (by omega) _ h2 a1 a2
          simpa using this
        · exact h2
theorem robT_inv (hl : l.length ≤ 200) (hg : ∀ i, i < l.length → GoodJ l i) : ∀ k, k ≤ 10000 → InvR l (robT l k) k 0 := by
  intro k
  induction k with
  | zero => intro _; exact .start hg
  | succ k ih =>
    intro hk
    unfold robT tickR
    exact InvR.run hl hg (InvR.arrives hl hg (ih (by omega)).late (by omega) _ (Nat.le_refl _)) (by omega)
theorem maxDl_ge (l : List J) (n : Int) : n ≤ maxDl n l ∧ ∀ j ∈ l, j.dl ≤ maxDl n l := by
  induction l generalizing n with
  | nil => exact ⟨Int.le_refl _, by simp⟩
  | cons x l ih =>
    have h := ih (max n x.dl)
    unfold maxDl at h ⊢
    rw [List.foldl_cons]
    refine ⟨by omega, fun j hj => ?_⟩
    rcases List.mem_cons.1 hj with e | e
    · subst e; omega
    · exact h.2 j e
theorem maxDl_le (l : List J) (n c : Int) (hn : n ≤ c) (h : ∀ j ∈ l, j.dl ≤ c) : maxDl n l ≤ c := by
  induction l generalizing n with
  | nil => exact hn
  | cons x l ih =>
    unfold maxDl at ih ⊢
    rw [List.foldl_cons]
    exact ih _ (by have := h x (by simp); omega) fun j hj => h j (by simp [hj])
theorem endJ_is {l : List J} (h : allB l = true) : 0 ≤ endJ l ∧ endJ l ≤ 10000 ∧ ∀ i, i < l.length → at0 J.dl l i ≤ endJ l := by
  have hg := (allB_all h).2
  have e : endJ l = maxDl 0 l := by unfold endJ; rw [h]; rfl
  rw [e]
  refine ⟨(maxDl_ge l 0).1, maxDl_le l 0 10000 (by omega) fun j hj => ?_, fun i hi => ?_⟩
  · obtain ⟨i, hi, rfl⟩ := List.getElem_of_mem hj
    have := (goodJ_of hg hi).dl
    rwa [at0_eq _ _ hi] at this
  · rw [at0_eq _ _ hi]; exact (maxDl_ge l 0).2 _ (List.getElem_mem hi)
/-- At the end none is open that is not shed. -/
theorem InvR.done (hg : ∀ i, i < l.length → GoodJ l i) {s : RS} {k : Nat} (h : InvR l s k 0) (hd : ∀ i, i < l.length → at0 J.dl l i ≤ k) (i : Nat) (hi : i < l.length) (h0 : s.fk i = 0) : s.tk i = 2 := by
  have g := hg i hi
  have h2 := h.tk2 i hi
  have hn := h.new i hi h0
  have g1 := g.lt
  have g2 := hd i hi
  have a0 : s.tk i ≠ 0 := fun c => by have := hn.1 c; omega
  have a1 : s.tk i ≠ 1 := fun c => by
    have ho : s.op 1 i = true := (op_iff s 1 i).2 ⟨c, h0⟩
    have h1 := h.fit (at0 J.dl l i) ⟨i, hi, ho, Int.le_refl _⟩
    have h2 := needS_term l s hi ho
    have r := h.run0 i hi h0
    have : 1 ≤ needR l s i := by unfold needR; have := g.le; omega
    omega
  omega
end Go.Proofs.YtnnmakkbnfckmaaDoor
/- Plain: all are met just where no span is asked too much; so they are, if one is left out; so they are, if any trace does it. -/
namespace Go.Proofs.YtnnmakkbnfckmaaDoor

/-- Has each its need by its deadline? -/
def MetAll (l : List J) (need : Nat → Int) : Prop := ∀ i, i < l.length → need i ≤ ((edfT l need (at0 J.dl l i).toNat).count (some i) : Int)
theorem metAll_iff {l : List J} (hg : ∀ i, i < l.length → GoodJ l i) {need : Nat → Int} (hn : ∀ i, i < l.length → 0 ≤ need i) : MetAll l need ↔ Calm (at0 J.rel l) (at0 J.dl l) need l.length := by
  have key : ∀ k i, ((edfT l need k).count (some i) : Int) = cnt (edfF l need) i k := edfT_count l need
  constructor
  · intro h
    -- what runs behind its deadline counts for nothing: cut the schedule
    let f : Nat → Option Nat := fun k => match edfF l need k with | none => none | some i => if (k : Int) < at0 J.dl l i then some i else none
    have hf : ∀ k j, f k = some j → edfF l need k = some j ∧ (k : Int) < at0 J.dl l j := by
      intro k j hk
      simp only [f] at hk
      split at hk
      · cases hk
      · rename_i i hi
        split at hk
        · injection hk with e; subst e; exact ⟨hi, by assumption⟩
        · cases hk
    have hc : ∀ j (T : Nat), (T : Int) ≤ at0 J.dl l j → cnt f j T = cnt (edfF l need) j T := by
      intro j T hT
      induction T with
      | zero => rfl
      | succ T ih =>
        simp only [cnt]
        rw [ih (by omega)]
        congr 1
        have : (f T = some j) = (edfF l need T = some j) := by
          apply propext
          refine ⟨fun h => (hf T j h).1, fun h => ?_⟩
          simp only [f, h]
          rw [if_pos (by omega)]
        simp only [this]
    refine calm_of (f := f) (T := 10000) (fun k j _ hk => ?_) fun j hj => ?_
    · obtain ⟨h1, h2⟩ := hf k j hk
      exact ⟨((edf_is l need).run k j h1).2.1, h2⟩
    · have g := hg j hj
      have g1 := g.rel; have g2 := g.lt; have g3 := g.dl
      have h1 := h j hj
      rw [key] at h1
      have h2 := hc j (at0 J.dl l j).toNat (by omega)
      have h3 := cnt_mono f j (a := (at0 J.dl l j).toNat) (b := 10000) (by omega)
      omega
  · intro h i hi
    have g := hg i hi
    have g1 := g.rel; have g2 := g.lt
    rw [key]
    exact (edf_is l need).meets hn (fun j hj => (hg j hj).rel) h i hi _ (by omega)

/-! ### One left out -/
theorem sumF_succ {α : Type} (f : α → Int) (l : List α) (k : Nat) (h : k < l.length) : sumF f (l.take (k + 1)) = sumF f (l.take k) + f l[k] := by
  rw [List.take_succ_eq_append_getElem h, sumF_append]; simp [sumF]
theorem sumN_list {G : Nat → Int} (F : J → Int) (l : List J) (h : ∀ i (hi : i < l.length), G i = F l[i]) : sumN G l.length = sumF F l := by
  have : ∀ n, n ≤ l.length → sumN G n = sumF F (l.take n) := by
    intro n
    induction n with
    | zero => intro _; rfl
    | succ n ih =>
      intro hn
      rw [sumF_succ F l n (by omega), ← ih (by omega), ← h n (by omega)]
      rfl
  rw [this _ (Nat.le_refl _), List.take_length]
theorem dem_list (l : List J) (f : J → Int) (s t : Int) : dem (at0 J.rel l) (at0 J.dl l) (at0 f l) l.length s t = sumF (fun j => if s ≤ j.rel ∧ j.dl ≤ t then f j else 0) l :=
  sumN_list _ l fun i hi => by rw [at0_eq _ _ hi, at0_eq _ _ hi, at0_eq _ _ hi]
theorem calm_out {l : List J} (k : Nat) {f : J → Int} (hf : ∀ j ∈ l, 0 ≤ f j) (h : Calm (at0 J.rel l) (at0 J.dl l) (at0 f l) l.length) :
    Calm (at0 J.rel (l.take k ++ l.drop (k + 1))) (at0 J.dl (l.take k ++ l.drop (k + 1))) (at0 f (l.take k ++ l.drop (k + 1))) (l.take k ++ l.drop (k + 1)).length := fun s t h0 hst => by
  have h1 := h s t h0 hst
  rw [dem_list] at h1 ⊢
  refine Int.le_trans ?_ h1
  rw [sumF_append]
  have h2 : sumF (fun j => if s ≤ j.rel ∧ j.dl ≤ t then f j else 0) l = sumF (fun j => if s ≤ j.rel ∧ j.dl ≤ t then f j else 0) (l.take k) + sumF (fun j => if s ≤ j.rel ∧ j.dl ≤ t then f j else 0) (l.drop k) := by
    rw [← sumF_append, List.take_append_drop]
  rw [h2]
  by_cases hk : k < l.length
  · rw [List.drop_eq_getElem_cons hk]
    have := hf _ (List.getElem_mem hk)
    simp only [sumF]
    split <;> omega
  · rw [List.drop_of_length_le (by omega), List.drop_of_length_le (by omega)]
    exact Int.le_refl _

/-! ### When one is done -/
/-- Behind which tick i has run so often. -/
def doneK (t : List Int) (i : Int) (w : Int) : Option Nat := (List.range t.length).find? fun k => decide (((t.take (k + 1)).count i : Int) = w)
theorem doneK_some {t : List Int} {i w : Int} {k : Nat} (h : doneK t i w = some k) : k < t.length ∧ ((t.take (k + 1)).count i : Int) = w := by
  have h1 := List.mem_of_find?_eq_some h
  have h2 := List.find?_some h
  exact ⟨List.mem_range.1 h1, by simpa using h2⟩
theorem count_take_mono (t : List Int) (i : Int) {a b : Nat} (h : a ≤ b) : (t.take a).count i ≤ (t.take b).count i := by
  have : t.take a = (t.take b).take a := by rw [List.take_take, Nat.min_eq_left h]
  rw [this]
  exact (List.take_sublist _ _).count_le _
/-- Where it ran so often in all ahead of tick d, it is done by then. -/
theorem doneK_by {t : List Int} {i w : Int} (hw : 1 ≤ w) {d : Nat} (hd : d ≤ t.length) (h : w ≤ ((t.take d).count i : Int)) : ∃ k, doneK t i w = some k ∧ k < d := by
  -- the first tick behind which it ran so often
  have step : ∀ n, n ≤ d → w ≤ ((t.take n).count i : Int) → ∃ k, k < n ∧ ((t.take (k + 1)).count i : Int) = w := by
    intro n
    induction n with
    | zero => intro _ h0; simp at h0; omega
    | succ n ih =>
      intro hn h0
      by_cases hc : w ≤ ((t.take n).count i : Int)
      · obtain ⟨k, hk, e⟩ := ih (by omega) hc
        exact ⟨k, by omega, e⟩
      · refine ⟨n, by omega, ?_⟩
        have hl : n < t.length := by omega
        rw [List.take_succ_eq_append_getElem hl, List.count_append, List.count_singleton] at h0 ⊢
        split at h0 <;> rename_i e <;> simp only [e] at * <;> simp at * <;> omega
  obtain ⟨k, hk, e⟩ := step d (Nat.le_refl _) h
  cases hf : doneK t i w with
  | none =>
    have := List.find?_eq_none.1 hf k (List.mem_range.2 (by omega))
    simp [e] at this
  | some m =>
    refine ⟨m, rfl, ?_⟩
    refine Classical.byContradiction fun hm => ?_
    obtain ⟨_, m', hm', he, hno⟩ := List.find?_eq_some_iff_getElem.1 hf
    simp only [List.getElem_range] at he
    subst he
    have := hno k (by omega)
    simp [e] at this
end Go.Proofs.YtnnmakkbnfckmaaDoor
