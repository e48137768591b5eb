/- Append: one law for whatever its second operand is; rows that a call owns; stretches of rows. -/
import Derived.Test.YtnnmakkbnfckmaaDoorB0
import Derived.Deep.RegionHeld3
import Derived.Deep.AppendLies
import Derived.Deep.AppendSrc
namespace Go.Proofs.YtnnmakkbnfckmaaDoor
open Go.RowKit

/-- What an append's second operand yields: cells behind an address, or nothing. -/
def SrcR (w : World) (k : Nat) (x : Value) (m : Nat) (news : List Value) : Prop :=
  news.length = m * k ∧ ((∃ ad c, x = .slice (some ad) m c ∧ ∀ j u, news[j]? = some u → w.cell? (ad.add j) = some u) ∨ (∃ c, x = .slice none 0 c ∧ m = 0))
theorem run_appX {P : Program} {t e k bytes : Nat} {z : Value} (hT : RowT P t e k bytes z) (ty : TypeId) {w : World} (base : Nat) {v : Value} {n : Nat} {xs : List Value} (hown : w.ownsRow base e k v n xs)
    {x : Value} {m : Nat} {news : List Value} (hs : SrcR w k x m news) (h1 : ∀ u ∈ news, u.oneCell' = true) (h63 : n + m ≤ 1000000) (hbb : bytes ≤ 1000) (hbase : base ≤ w.heap.size) :
    ∃ v' w', (Builtin.append_ #[t, t] ty #[v, x]).run P w = .ok v' w' ∧ w'.ownsRow base e k v' (n + m) (xs ++ news) ∧ Below base w w' ∧ w.grownBy w' v.ownBlock := by
  obtain ⟨h1', ⟨i, hi, hz, hsz, hby⟩, hzs, hk⟩ := hT
  have hbnd : (n + m) * bytes ≤ 140737488355328 := by
    calc (n + m) * bytes ≤ 1000000 * 1000 := Nat.mul_le_mul h63 hbb
      _ ≤ _ := by decide
  obtain ⟨hl, ⟨ad, c, rfl, hc⟩ | ⟨c, rfl, rfl⟩⟩ := hs
  · obtain ⟨v', w', hr, ho, hg, _⟩ := run_append_own (P := P) w base t ty e i z k bytes h1' hi hz hsz hby hzs hk v n xs hown ad m c news hl hc h1 (by unfold maxLen; omega) hbnd hbase
    exact ⟨v', w', hr, ho, own_below hown hg hbase, hg⟩
  · have hn : news = [] := List.eq_nil_of_length_eq_zero (by simpa using hl)
    subst hn
    refine ⟨v, w, ?_, by simpa using hown, Below.refl _ _, ⟨rfl, rfl, rfl, Nat.le_refl _, fun _ _ _ => rfl⟩⟩
    rcases hown.2 with ⟨rfl, rfl⟩ | ⟨g, cap, cur, rfl, hbg, hg, hnc, hcm, hcs, htake⟩
    · simp [Builtin.append_, run_underlying h1', sizeOf, typeInfo, hi, Builtin.lenOf, Builtin.firstCells, loadCells, loadCellsFrom]
    · have := run_append_room_src (P := P) w t t ty e i h1' hi g 0 n cap (.slice none 0 c) 0 [] (Src.ofNil w h1' c) (by omega) (by simp) (by simp)
      simpa [World.setCells] using this

theorem wp_appX {P : Program} {t e k bytes : Nat} {z : Value} {o : Oper} {a : Act} {w : World} {K : Act → World → Prop} {Q : Exit → Act → World → Prop} (hT : RowT P t e k bytes z) (s x : Operand)
    (ho : o.op = .call { callee := .builtin .append, args := #[s, x], argTypes := #[t, t] }) (base : Nat) {v : Value} {n : Nat} {xs : List Value} (hs : a.eval s = v) (hown : w.ownsRow base e k v n xs)
    {xv : Value} {m : Nat} {news : List Value} (hx : a.eval x = xv) (hsrc : SrcR w k xv m news) (h1 : ∀ u ∈ news, u.oneCell' = true) (h63 : n + m ≤ 1000000) (hbb : bytes ≤ 1000) (hbase : base ≤ w.heap.size)
    (h : ∀ v' w', w'.ownsRow base e k v' (n + m) (xs ++ news) → Below base w w' → w.grownBy w' v.ownBlock → K (a.put o.dst v') w') : o.wp P a w K Q := by
  obtain ⟨v', w', hr, h2, h3, h4⟩ := run_appX hT o.type base hown hsrc h1 h63 hbb hbase
  unfold Oper.wp execOp
  simp only [ho, resolve, invoke, builtin, Sem.run_bind, Sem.run_pure, Result.andThen_ok, List.map_toArray, List.map_cons, List.map_nil, hs, hx, hr]
  exact h v' w' h2 h3 h4
/-- .. at a step of a region that draws. -/
theorem step_appX {P : Program} {t e k bytes : Nat} {z : Value} {ops : Array Oper} {o : Oper} {a : Act} {w : World} {K : Act → World → Prop} {Q : Exit → Act → World → Prop} {E : Prop} (hT : RowT P t e k bytes z) (hgd : o.guard = none) (s x : Operand)
    (ho : o.op = .call { callee := .builtin .append, args := #[s, x], argTypes := #[t, t] }) (base : Nat) {v : Value} {n : Nat} {xs : List Value} (hs : a.eval s = v) (hown : w.ownsRow base e k v n xs)
    {xv : Value} {m : Nat} {news : List Value} (hx : a.eval x = xv) (hsrc : SrcR w k xv m news) (h1 : ∀ u ∈ news, u.oneCell' = true) (h63 : n + m ≤ 1000000) (hbb : bytes ≤ 1000) (hbase : base ≤ w.heap.size)
    (h : ∀ v' w', w'.ownsRow base e k v' (n + m) (xs ++ news) → Below base w w' → w.grownBy w' v.ownBlock → K (a.put o.dst v') w') :
    if Region.wanted o (yielded ops a.tmps) = true then Oper.wp P o a w K Q else E := by
  have hw : Region.wanted o (yielded ops a.tmps) = true := by simp [Region.wanted, hgd]
  rw [if_pos hw]
  exact wp_appX hT s x ho base hs hown hx hsrc h1 h63 hbb hbase h
/-- .. at a plain region's list. -/
theorem wpList_appX {P : Program} {t e k bytes : Nat} {z : Value} {ops : Array Oper} {rest : List Oper} {o : Oper} {a : Act} {w : World} {Q : Exit → Act → World → Prop} (hT : RowT P t e k bytes z) (hgd : o.guard = none) (s x : Operand)
    (ho : o.op = .call { callee := .builtin .append, args := #[s, x], argTypes := #[t, t] }) (base : Nat) {v : Value} {n : Nat} {xs : List Value} (hs : a.eval s = v) (hown : w.ownsRow base e k v n xs)
    {xv : Value} {m : Nat} {news : List Value} (hx : a.eval x = xv) (hsrc : SrcR w k xv m news) (h1 : ∀ u ∈ news, u.oneCell' = true) (h63 : n + m ≤ 1000000) (hbb : bytes ≤ 1000) (hbase : base ≤ w.heap.size)
    (h : ∀ v' w', w'.ownsRow base e k v' (n + m) (xs ++ news) → Below base w w' → w.grownBy w' v.ownBlock → wpList P ops Q rest (a.put o.dst v') w') : wpList P ops Q (o :: rest) a w := by
  have hw : Region.wanted o (yielded ops a.tmps) = true := by simp [Region.wanted, hgd]
  unfold wpList
  rw [if_pos hw]
  exact Or.inl (wp_appX hT s x ho base hs hown hx hsrc h1 h63 hbb hbase h)

/-! ### What is owned -/
theorem alloc_at (w : World) (o : Obj) (B : Nat) (hB : B = w.heap.size) : (w.alloc o).heap[B]? = some o := by
  subst hB
  show (w.heap.push o)[w.heap.size]? = some o
  simp
theorem alloc_old (w : World) (o : Obj) (B : Nat) (x : Obj) (hB : B < w.heap.size) (h : w.heap[B]? = some x) : (w.alloc o).heap[B]? = some x := (Below.heap_alloc w o B hB).trans h
theorem own_empty {w : World} {base e k g : Nat} (hk : 0 < k) (hg : w.heap[g]? = some (.cells #[] e (0, 0))) (hb : base ≤ g) : w.ownsRow base e k (.slice (some ⟨g, 0, none⟩) 0 0) 0 [] :=
  ⟨by simp, .inr ⟨g, 0, #[], rfl, hb, hg, Nat.le_refl _, Nat.zero_le _, by simp, by simp⟩⟩
/-- What is owned and is not empty: its block, its room. -/
theorem own_room {w : World} {base e k n : Nat} {v : Value} {xs : List Value} (h : w.ownsRow base e k v n xs) (hn : 0 < n) : ∃ g cap, v = .slice (some ⟨g, 0, none⟩) n cap ∧ n ≤ cap ∧ base ≤ g ∧ g < w.heap.size := by
  rcases h.2 with ⟨_, h0⟩ | ⟨g, cap, cur, rfl, hb, hg, hnc, _⟩
  · omega
  · exact ⟨g, cap, rfl, hnc, hb, (Array.getElem?_eq_some_iff.1 hg).1⟩
theorem addr_add (b o j : Nat) : (⟨b, o, none⟩ : Addr).add j = ⟨b, o + j, none⟩ := by unfold Addr.add; split <;> simp_all
/-- A stretch of a row as what is appended. -/
theorem src_erow {α : Type} {enc : α → Value} {w : World} {a : Option Addr} {l : List α} (h : ERow enc w a l) {b o : Nat} (ha : a = some ⟨b, o, none⟩) (s m c : Nat) (hm : s + m ≤ l.length) : SrcR w 1 (.slice (some ⟨b, o + s, none⟩) m c) m (((l.drop s).take m).map enc) := by
  refine ⟨by simp; omega, .inl ⟨_, c, rfl, fun j u hu => ?_⟩⟩
  rw [addr_add]
  simp only [List.getElem?_map, List.getElem?_take, List.getElem?_drop] at hu
  split at hu
  · rename_i hj
    have hj' : s + j < l.length := by omega
    obtain ⟨b', o', e, _, hc⟩ := h (s + j) hj'
    rw [ha] at e
    cases e
    rw [List.getElem?_eq_getElem hj'] at hu
    simp only [Option.map_some, Option.some.injEq] at hu
    rw [← hu, Nat.add_assoc]
    exact hc
  · simp at hu
theorem src_erow0 {α : Type} {enc : α → Value} {w : World} {l : List α} {b : Nat} (h : ERow enc w (some ⟨b, 0, none⟩) l) (s m c : Nat) (hm : s + m ≤ l.length) : SrcR w 1 (.slice (some ⟨b, s, none⟩) m c) m (((l.drop s).take m).map enc) := by
  have := src_erow h rfl s m c hm
  rwa [Nat.zero_add] at this
theorem one_int (xs : List Int) : ∀ u ∈ xs.map (Value.int .i64), u.oneCell' = true := fun u hu => by
  obtain ⟨x, _, rfl⟩ := List.mem_map.1 hu
  rfl
theorem src_nil (w : World) (k c : Nat) : SrcR w k (.slice none 0 c) 0 [] := ⟨by simp, .inr ⟨c, rfl, rfl⟩⟩
/-- One element that has just been laid. -/
theorem src_one {w : World} {k : Nat} {g : Nat} {vs : List Value} (hk : vs.length = k) (h : ∀ j u, vs[j]? = some u → w.cell? ⟨g, j, none⟩ = some u) : SrcR w k (.slice (some ⟨g, 0, none⟩) 1 1) 1 vs := by
  refine ⟨by omega, .inl ⟨_, 1, rfl, fun j u hu => ?_⟩⟩
  rw [addr_add, Nat.zero_add]
  exact h j u hu
theorem src_lone {w : World} {k g : Nat} {vs : List Value} {t : TypeId} (hk : vs.length = k) (h : w.heap[g]? = some (.cells vs.toArray t (0, 0))) : SrcR w k (.slice (some ⟨g, 0, none⟩) 1 1) 1 vs :=
  src_one hk fun j u hu => by simp [World.cell?, h]; simpa using hu
end Go.Proofs.YtnnmakkbnfckmaaDoor
