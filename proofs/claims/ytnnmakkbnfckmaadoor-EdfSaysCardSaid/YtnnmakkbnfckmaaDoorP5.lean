/- Plain: the places of jobs in the order of their deadlines. -/
import Derived.Test.YtnnmakkbnfckmaaDoorP0
import Derived.Test.YtnnmakkbnfckmaaDoorP2
namespace Go.Proofs.YtnnmakkbnfckmaaDoor

/-- Numbers of places as ints. -/
abbrev nz (l : List Nat) : List Int := l.map fun i : Nat => (i : Int)
theorem nz_inj {l m : List Nat} (h : nz l = nz m) : l = m := by
  induction l generalizing m with
  | nil => cases m <;> simp_all
  | cons x l ih =>
    cases m with
    | nil => simp at h
    | cons y m =>
      simp only [List.map_cons, List.cons.injEq] at h
      rw [ih h.2, Int.ofNat.inj h.1]
/-- The number of the i-th, 0 where there is none. -/
def at0 {α : Type} (f : α → Int) (l : List α) (i : Nat) : Int := ((l[i]?).map f).getD 0
theorem at0_eq {α : Type} (f : α → Int) (l : List α) {i : Nat} (h : i < l.length) : at0 f l i = f l[i] := by simp [at0, h]
/-- The places of jobs in the order of their deadlines; of alike ones the first ahead. -/
def byDl (l : List J) : List Nat := sortK (at0 J.dl l) (List.range l.length)
theorem insK_map {α β : Type} (f : α → β) (key : β → Int) (r : List α) (x : α) : insK key (r.map f) (f x) = (insK (fun a => key (f a)) r x).map f := by
  unfold insK
  rw [List.map_append, List.map_cons, List.takeWhile_map, List.dropWhile_map]
  rfl
theorem sortK_map {α β : Type} (f : α → β) (key : β → Int) (l : List α) : sortK key (l.map f) = (sortK (fun a => key (f a)) l).map f := by
  unfold sortK
  have : ∀ r : List α, (l.map f).foldl (insK key) (r.map f) = (l.foldl (insK fun a => key (f a)) r).map f := by
    induction l with
    | nil => intro r; rfl
    | cons x l ih => intro r; rw [List.map_cons, List.foldl_cons, List.foldl_cons, insK_map, ih]
  exact this []
theorem sortK_perm {α : Type} (key : α → Int) (l : List α) : (sortK key l).Perm l := by
  unfold sortK
  have : ∀ r : List α, (l.foldl (insK key) r).Perm (r ++ l) := by
    induction l with
    | nil => intro r; simp
    | cons x l ih =>
      intro r
      rw [List.foldl_cons]
      refine (ih _).trans ?_
      rw [show r ++ x :: l = (r ++ [x]) ++ l by simp]
      refine List.Perm.append_right _ ?_
      unfold insK
      refine List.perm_middle.trans ?_
      rw [List.takeWhile_append_dropWhile]
      exact List.perm_append_comm (l₁ := [x])
  exact this []
theorem byDl_length (l : List J) : (byDl l).length = l.length := by rw [byDl, (sortK_perm _ _).length_eq, List.length_range]
theorem byDl_mem (l : List J) {i : Nat} : i ∈ byDl l ↔ i < l.length := by rw [byDl, (sortK_perm _ _).mem_iff, List.mem_range]
theorem byDl_nodup (l : List J) : (byDl l).Nodup := (sortK_perm _ _).nodup_iff.2 List.nodup_range
theorem byDl_sorted (l : List J) : (byDl l).Pairwise fun i j => at0 J.dl l i ≤ at0 J.dl l j := sortK_sorted _
/-- One job more: it goes behind all that have no later deadline. -/
theorem insK_cut {α : Type} (key : α → Int) (r : List α) (x : α) {k : Nat} (hk : k ≤ r.length) (h1 : ∀ i (hi : i < r.length), i < k → key r[i] ≤ key x) (h2 : ∀ hi : k < r.length, key x < key r[k]) : insK key r x = r.take k ++ [x] ++ r.drop k := by
  have ht : r.takeWhile (fun y => decide (key y ≤ key x)) = r.take k := by
    induction r generalizing k with
    | nil => simp
    | cons y r ih =>
      cases k with
      | zero =>
        have := h2 (by simp)
        simp only [List.getElem_cons_zero] at this
        rw [List.takeWhile_cons, List.take_zero, if_neg]
        simp; omega
      | succ k =>
        have := h1 0 (by simp) (by omega)
        simp only [List.getElem_cons_zero] at this
        rw [List.takeWhile_cons, List.take_succ_cons, if_pos (by simpa using this)]
        congr 1
        refine ih (by simpa using hk) (fun i hi hik => ?_) fun hi => ?_
        · have := h1 (i + 1) (by simp; omega) (by omega)
          simpa using this
        · have := h2 (by simp; omega)
          simpa using this
  have hd : r.dropWhile (fun y => decide (key y ≤ key x)) = r.drop k := by
    have e := List.takeWhile_append_dropWhile (p := fun y => decide (key y ≤ key x)) (l := r)
    rw [ht] at e
    exact List.append_cancel_left (e.trans (List.take_append_drop k r).symm)
  unfold insK
  rw [ht, hd]
  simp
end Go.Proofs.YtnnmakkbnfckmaaDoor
