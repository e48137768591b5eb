/- Plain laws of the stable sort's blocks: each is sorted; two by two they are merged. -/
import Derived.Test.YtnnmakkbnfckmaaDoorP3
namespace Go.Proofs.YtnnmakkbnfckmaaDoor
variable {α : Type} {key : α → Int}

theorem dvd_gap {s x a : Nat} (h1 : s ∣ x) (h2 : s ∣ a) (h : x < a) : x + s ≤ a := by
  obtain ⟨i, rfl⟩ := h1
  obtain ⟨j, rfl⟩ := h2
  have : i < j := Nat.lt_of_mul_lt_mul_left h
  calc s * i + s = s * (i + 1) := by rw [Nat.mul_add, Nat.mul_one]
    _ ≤ s * j := Nat.mul_le_mul_left s this
/-- All blocks of s are sorted, up to n. -/
def Blk (key : α → Int) (s n : Nat) (f : Nat → α) : Prop := ∀ x, s ∣ x → SortF key x (min (x + s) n) f
theorem Blk.all {s n : Nat} {f : Nat → α} (h : Blk key s n f) (hn : n ≤ s) : SortF key 0 n f := by
  have := h 0 (Nat.dvd_zero s)
  rwa [Nat.zero_add, Nat.min_eq_right hn] at this
/-- Blocks of s ahead of a are sorted. -/
def Fst (key : α → Int) (s a : Nat) (f : Nat → α) : Prop := ∀ x, s ∣ x → x < a → SortF key x (x + s) f
theorem Fst.start (s : Nat) (f : Nat → α) : Fst key s 0 f := fun x _ h => absurd h (Nat.not_lt_zero _)
theorem Fst.step {s a : Nat} {f g : Nat → α} (h : Fst key s a f) (ha : s ∣ a) (u : StabF key a (a + s) f g) (v : SortF key a (a + s) g) : Fst key s (a + s) g := fun x hx hl => by
  by_cases c : x < a
  · have := dvd_gap hx ha c
    exact (h x hx c).congr fun i _ hi => u.out i (Or.inl (by omega))
  · by_cases e : x = a
    · subst e; exact v
    · have := dvd_gap ha hx (by omega); omega
theorem Fst.last {s a n : Nat} {f g : Nat → α} (h : Fst key s a f) (ha : s ∣ a) (hn : n < a + s) (han : a ≤ n) (u : StabF key a n f g) (v : SortF key a n g) : Blk key s n g := fun x hx => by
  by_cases c : x < a
  · have := dvd_gap hx ha c
    exact ((h x hx c).congr (g := g) fun i _ hi => u.out i (Or.inl (by omega))).sub (Nat.le_refl _) (Nat.min_le_left _ _)
  · by_cases e : x = a
    · subst e; exact v.sub (Nat.le_refl _) (Nat.min_le_right _ _)
    · have := dvd_gap ha hx (by omega)
      intro i j h1 h2 h3
      have := Nat.min_le_right (x + s) n
      omega
/-- Ahead of a all blocks of 2 s are sorted, from a on all blocks of s. -/
structure Half (key : α → Int) (s n a : Nat) (f : Nat → α) : Prop where
  low : Fst key (2 * s) a f
  high : ∀ x, s ∣ x → a ≤ x → SortF key x (min (x + s) n) f
theorem Half.start {s n : Nat} {f : Nat → α} (h : Blk key s n f) : Half key s n 0 f := ⟨Fst.start _ _, fun x hx _ => h x hx⟩
theorem Half.two {s n a : Nat} {f : Nat → α} (h : Half key s n a f) (ha : 2 * s ∣ a) (hn : a + s ≤ n) : SortF key a (a + s) f ∧ SortF key (a + s) (min (a + 2 * s) n) f := by
  have hs : s ∣ a := Nat.dvd_trans ⟨2, Nat.mul_comm _ _⟩ ha
  refine ⟨?_, ?_⟩
  · have := h.high a hs (Nat.le_refl _)
    rwa [Nat.min_eq_left hn] at this
  · have := h.high (a + s) (Nat.dvd_add hs (Nat.dvd_refl s)) (Nat.le_add_right _ _)
    rwa [show a + s + s = a + 2 * s by omega] at this
theorem Half.step {s n a : Nat} {f g : Nat → α} (h : Half key s n a f) (ha : 2 * s ∣ a) (u : StabF key a (a + 2 * s) f g) (v : SortF key a (a + 2 * s) g) : Half key s n (a + 2 * s) g :=
  ⟨h.low.step ha u v, fun x hx hl => (h.high x hx (by omega)).congr fun i hi _ => u.out i (Or.inr (by omega))⟩
theorem Half.last {s n a : Nat} {f g : Nat → α} (h : Half key s n a f) (ha : 2 * s ∣ a) (hn : n < a + 2 * s) (han : a ≤ n) (u : StabF key a n f g) (v : SortF key a n g) : Blk key (2 * s) n g := h.low.last ha hn han u v
theorem Half.one {s n a : Nat} {f : Nat → α} (h : Half key s n a f) (ha : 2 * s ∣ a) (hn : n ≤ a + s) : SortF key a n f := by
  have hs : s ∣ a := Nat.dvd_trans ⟨2, Nat.mul_comm _ _⟩ ha
  have := h.high a hs (Nat.le_refl _)
  rwa [Nat.min_eq_right hn] at this
end Go.Proofs.YtnnmakkbnfckmaaDoor
