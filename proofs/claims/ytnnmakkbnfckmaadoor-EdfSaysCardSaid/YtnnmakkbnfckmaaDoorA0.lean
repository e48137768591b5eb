/- Base words: the worlds behind a world, jobs, rows of cells. -/
import Derived.Test.YtnnmakkbnfckmaaDoorProg
import Derived.Test.YtnnmakkbnfckmaaDoorP0
import Derived.WalkKit
import Derived.WalkSpells
import Derived.Deep.QuietTactic
import Derived.BigQuiet
import Derived.Deep.LoopGhost
import Derived.Deep.DeepCutAuto
import Derived.Lib.Hide
import Derived.Shelf.Abstract
import Derived.Deep.DeepMust
namespace Go.Proofs.YtnnmakkbnfckmaaDoor
open Go.RowKit

/-- The greatest int, behind a name. -/
def bigS : Nat := 9223372036854775807
/-- Everything that lay in w lies there still. -/
abbrev Ext (w w' : World) : Prop := Below w.heap.size w w'

theorem Ext.refl (w : World) : Ext w w := Below.refl _ _
theorem Ext.trans {a b c : World} (h : Ext a b) (k : Ext b c) : Ext a c := Below.trans h (k.mono h.size)
theorem Ext.alloc {a b : World} (h : Ext a b) (o : Obj) : Ext a (b.alloc o) := Below.alloc h h.size o
theorem Ext.drew {a b : World} (h : Ext a b) : Ext a b.drew := Below.drew h
theorem Ext.drewN {a b : World} (h : Ext a b) (n : Nat) : Ext a (b.drewN n) := ⟨h.os, h.tape, h.output, h.size, h.block⟩
theorem Ext.new (w : World) (o : Obj) : Ext w (w.alloc o) := (Ext.refl w).alloc o
theorem Ext.cell {w w' : World} (h : Ext w w') {b o : Nat} (hb : b < w.heap.size) : w'.cell? ⟨b, o, none⟩ = w.cell? ⟨b, o, none⟩ := Below.cell h (p := ⟨b, o, none⟩) hb
theorem Ext.lt {w w' : World} (h : Ext w w') {b : Nat} (hb : b < w.heap.size) : b < w'.heap.size := Nat.lt_of_lt_of_le hb h.size
/-- The two rules by which old cells and old marks read as before. -/
theorem bcell {W w1 : World} (hb : Below W.heap.size W w1) : (∀ b o, b < W.heap.size → w1.cell? ⟨b, o, none⟩ = W.cell? ⟨b, o, none⟩) ∧ (∀ b o, b < W.heap.size → w1.frozen? ⟨b, o, none⟩ = W.frozen? ⟨b, o, none⟩) :=
  ⟨fun b o h => hb.cell (p := ⟨b, o, none⟩) h, fun b o h => hb.frozen (p := ⟨b, o, none⟩) h⟩

/-- The worlds behind w. -/
def Later (w : World) := {W : World // Ext w W}

abbrev J.agg (j : J) : Value := .agg #[.string j.name, .int .i64 j.rel, .int .i64 j.dl, .int .i64 j.bud, .int .i64 j.act, .int .i64 j.val, .int .i64 j.cln, .bool j.hard]
abbrev J.cells (j : J) : List Value := [.string j.name, .int .i64 j.rel, .int .i64 j.dl, .int .i64 j.bud, .int .i64 j.act, .int .i64 j.val, .int .i64 j.cln, .bool j.hard]

/-- A job's eight cells. -/
structure JCells (w : World) (b o : Nat) (j : J) : Prop where
  c0 : w.cell? ⟨b, o, none⟩ = some (.string j.name)
  c1 : w.cell? ⟨b, o + 1, none⟩ = some (.int .i64 j.rel)
  c2 : w.cell? ⟨b, o + 2, none⟩ = some (.int .i64 j.dl)
  c3 : w.cell? ⟨b, o + 3, none⟩ = some (.int .i64 j.bud)
  c4 : w.cell? ⟨b, o + 4, none⟩ = some (.int .i64 j.act)
  c5 : w.cell? ⟨b, o + 5, none⟩ = some (.int .i64 j.val)
  c6 : w.cell? ⟨b, o + 6, none⟩ = some (.int .i64 j.cln)
  c7 : w.cell? ⟨b, o + 7, none⟩ = some (.bool j.hard)

/-- A row of jobs at an address: each lies there. -/
def JRow (w : World) (a : Option Addr) (l : List J) : Prop :=
  ∀ i (hi : i < l.length), ∃ b off, a = some ⟨b, off, none⟩ ∧ b < w.heap.size ∧ JCells w b (off + i * 8) l[i]

theorem JCells.ext {w w' : World} {b o : Nat} {j : J} (h : JCells w b o j) (hx : Ext w w') (hb : b < w.heap.size) : JCells w' b o j :=
  ⟨(hx.cell hb).trans h.c0, (hx.cell hb).trans h.c1, (hx.cell hb).trans h.c2, (hx.cell hb).trans h.c3, (hx.cell hb).trans h.c4, (hx.cell hb).trans h.c5, (hx.cell hb).trans h.c6, (hx.cell hb).trans h.c7⟩
theorem JRow.ext {w w' : World} {a : Option Addr} {l : List J} (h : JRow w a l) (hx : Ext w w') : JRow w' a l := fun i hi =>
  let ⟨b, off, ha, hb, hc⟩ := h i hi
  ⟨b, off, ha, hx.lt hb, hc.ext hx hb⟩
theorem JRow.nil (w : World) (a : Option Addr) : JRow w a [] := fun _ hi => by simp at hi
/-- Where there is a job, the row's address is known. -/
theorem JRow.at {w : World} {a : Option Addr} {l : List J} (h : JRow w a l) {i : Nat} (hi : i < l.length) : ∃ b off, a = some ⟨b, off, none⟩ ∧ b < w.heap.size ∧ ∀ i (hi : i < l.length), JCells w b (off + i * 8) l[i] := by
  obtain ⟨b, off, rfl, hb, _⟩ := h i hi
  refine ⟨b, off, rfl, hb, fun k hk => ?_⟩
  obtain ⟨b', off', he, _, hc⟩ := h k hk
  cases he
  exact hc

/-! ### Rows of other elements -/

/-- A row of elements of one cell each. -/
def ERow {α : Type} (enc : α → Value) (w : World) (a : Option Addr) (l : List α) : Prop :=
  ∀ i (hi : i < l.length), ∃ b off, a = some ⟨b, off, none⟩ ∧ b < w.heap.size ∧ w.cell? ⟨b, off + i, none⟩ = some (enc l[i])
abbrev IRow := ERow (Value.int .i64)
abbrev BRow := ERow Value.bool
/-- A row of pairs of ints. -/
def PRow (w : World) (a : Option Addr) (l : List (Int × Int)) : Prop :=
  ∀ i (hi : i < l.length), ∃ b off, a = some ⟨b, off, none⟩ ∧ b < w.heap.size ∧ w.cell? ⟨b, off + i * 2, none⟩ = some (.int .i64 l[i].1) ∧ w.cell? ⟨b, off + i * 2 + 1, none⟩ = some (.int .i64 l[i].2)
theorem ERow.ext {α : Type} {enc : α → Value} {w w' : World} {a : Option Addr} {l : List α} (h : ERow enc w a l) (hx : Ext w w') : ERow enc w' a l := fun i hi =>
  let ⟨b, off, ha, hb, hc⟩ := h i hi
  ⟨b, off, ha, hx.lt hb, (hx.cell hb).trans hc⟩
theorem PRow.ext {w w' : World} {a : Option Addr} {l : List (Int × Int)} (h : PRow w a l) (hx : Ext w w') : PRow w' a l := fun i hi =>
  let ⟨b, off, ha, hb, hc, hd⟩ := h i hi
  ⟨b, off, ha, hx.lt hb, (hx.cell hb).trans hc, (hx.cell hb).trans hd⟩
theorem ERow.nil {α : Type} (enc : α → Value) (w : World) (a : Option Addr) : ERow enc w a [] := fun _ hi => by simp at hi
theorem PRow.nil (w : World) (a : Option Addr) : PRow w a [] := fun _ hi => by simp at hi

/-! ### Rows that a call itself has made -/

theorem flat_get {α : Type} (f : α → List Value) (k : Nat) (hf : ∀ x, (f x).length = k) (l : List α) : ∀ (i : Nat) (hi : i < l.length) (m : Nat), m < k → (l.flatMap f)[i * k + m]? = (f l[i])[m]? := by
  induction l with
  | nil => intro i hi; simp at hi
  | cons x r ih =>
    intro i hi m hm
    rw [List.flatMap_cons]
    cases i with
    | zero => rw [Nat.zero_mul, Nat.zero_add, List.getElem?_append_left (by rw [hf]; exact hm)]; rfl
    | succ i =>
      rw [List.getElem?_append_right (by rw [hf, Nat.succ_mul]; omega), hf, show (i + 1) * k + m - k = i * k + m by rw [Nat.succ_mul]; omega]
      exact ih i (by simpa using hi) m hm
theorem flat_length {α : Type} (f : α → List Value) (k : Nat) (hf : ∀ x, (f x).length = k) (l : List α) : (l.flatMap f).length = l.length * k := by
  induction l with
  | nil => simp
  | cons x r ih => rw [List.flatMap_cons, List.length_append, hf, ih, List.length_cons, Nat.succ_mul, Nat.add_comm]

/-- What is told of an owned row: its value is a slice of that length; its cells; its block. -/
theorem own_form {w : World} {base e k n : Nat} {v : Value} {xs : List Value} (h : w.ownsRow base e k v n xs) :
    ∃ a cap, v = .slice a n cap ∧ (0 < n → ∃ g, a = some ⟨g, 0, none⟩ ∧ base ≤ g ∧ g < w.heap.size ∧ ∀ j, j < n * k → w.cell? ⟨g, j, none⟩ = xs[j]?) := by
  obtain ⟨h1, h2⟩ := h
  rcases h2 with ⟨rfl, rfl⟩ | ⟨g, cap, cur, rfl, hb, hg, hn, hm, hs, ht⟩
  · exact ⟨none, 0, rfl, fun h => by omega⟩
  · refine ⟨_, cap, rfl, fun _ => ⟨g, rfl, hb, (Array.getElem?_eq_some_iff.1 hg).1, fun j hj => ?_⟩⟩
    rw [← ht, List.getElem?_take, if_pos hj]
    simp [World.cell?, hg]
theorem own_jrow {w : World} {base e : Nat} {v : Value} {l : List J} (h : w.ownsRow base e 8 v l.length (l.flatMap J.cells)) : ∃ a cap, v = .slice a l.length cap ∧ JRow w a l := by
  obtain ⟨a, cap, rfl, hc⟩ := own_form h
  refine ⟨a, cap, rfl, fun i hi => ?_⟩
  obtain ⟨g, rfl, _, hg, hc⟩ := hc (by omega)
  have key : ∀ m, m < 8 → w.cell? ⟨g, i * 8 + m, none⟩ = (l[i].cells)[m]? := fun m hm => (hc _ (by omega)).trans (flat_get J.cells 8 (fun _ => rfl) l i hi m hm)
  refine ⟨g, 0, rfl, hg, ?_⟩
  rw [Nat.zero_add]
  exact ⟨key 0 (by omega), key 1 (by omega), key 2 (by omega), key 3 (by omega), key 4 (by omega), key 5 (by omega), key 6 (by omega), key 7 (by omega)⟩
theorem own_erow {α : Type} {enc : α → Value} {w : World} {base e : Nat} {v : Value} {l : List α} (h : w.ownsRow base e 1 v l.length (l.map enc)) : ∃ a cap, v = .slice a l.length cap ∧ ERow enc w a l := by
  obtain ⟨a, cap, rfl, hc⟩ := own_form h
  refine ⟨a, cap, rfl, fun i hi => ?_⟩
  obtain ⟨g, rfl, _, hg, hc⟩ := hc (by omega)
  refine ⟨g, 0, rfl, hg, ?_⟩
  rw [Nat.zero_add, hc i (by omega)]
  simp [hi]
abbrev pairC (p : Int × Int) : List Value := [.int .i64 p.1, .int .i64 p.2]
theorem own_prow {w : World} {base e : Nat} {v : Value} {l : List (Int × Int)} (h : w.ownsRow base e 2 v l.length (l.flatMap pairC)) : ∃ a cap, v = .slice a l.length cap ∧ PRow w a l := by
  obtain ⟨a, cap, rfl, hc⟩ := own_form h
  refine ⟨a, cap, rfl, fun i hi => ?_⟩
  obtain ⟨g, rfl, _, hg, hc⟩ := hc (by omega)
  have key : ∀ m, m < 2 → w.cell? ⟨g, i * 2 + m, none⟩ = (pairC l[i])[m]? := fun m hm => (hc _ (by omega)).trans (flat_get pairC 2 (fun _ => rfl) l i hi m hm)
  refine ⟨g, 0, rfl, hg, ?_⟩
  rw [Nat.zero_add]
  exact ⟨key 0 (by omega), key 1 (by omega)⟩
/-- What is owned stays so while all that is there stays. -/
theorem own_ext {w w' : World} {base e k n : Nat} {v : Value} {xs : List Value} (h : w.ownsRow base e k v n xs) (hx : Ext w w') : w'.ownsRow base e k v n xs :=
  h.kept (row := none) ⟨hx.os, hx.tape, hx.output, hx.size, fun k hk _ => hx.block k hk⟩ (by cases hv : v.ownBlock <;> simp)

/-- The program's words on a slice type t of elements e of k cells, of so many bytes. -/
def RowT (P : Program) (t e k bytes : Nat) (z : Value) : Prop :=
  P.underlying t = some (.slice e) ∧ (∃ i, P.info? e = some i ∧ i.zero = some z ∧ i.size = k ∧ i.bytes = bytes) ∧ z.cells.size = k ∧ 0 < k
theorem RowT.of {P : Program} {t e k bytes : Nat} {z : Value} (h1 : P.underlying t = some (.slice e)) (h2 : (P.info? e).map (fun i => (i.zero, i.size, i.bytes)) = some (some z, k, bytes)) (h3 : z.cells.size = k) (h4 : 0 < k) : RowT P t e k bytes z :=
  ⟨h1, info_parts h2, h3, h4⟩

/-- One append onto a row that the call owns. -/
theorem wpList_app {P : Program} {w : World} {ops : Array Oper} {rest : List Oper} {o : Oper} {a : Act} {Q : Exit → Act → World → Prop} {t e k bytes : Nat} {z : Value} (hT : RowT P t e k bytes z)
    (base : Nat) {v : Value} {n : Nat} {xs : List Value} (hown : w.ownsRow base e k v n xs) (hgd : o.guard = none) (s x : Operand)
    (ho : o.op = .call { callee := .builtin .append, args := #[s, x], argTypes := #[t, t] }) (hs : a.eval s = v)
    (ad : Addr) (m c : Nat) (hx : a.eval x = .slice (some ad) m c) (news : List Value) (hl : news.length = m * k) (hnews : ∀ j u, news[j]? = some u → w.cell? (ad.add j) = some u) (h1 : ∀ u ∈ news, u.oneCell' = true)
    (h63 : n + m ≤ 1000000) (hbb : bytes ≤ 1000) (hbase : base ≤ w.heap.size)
    (h : ∀ v' w', w'.ownsRow base e k v' (n + m) (xs ++ news) → w.grownBy w' v.ownBlock → (v' = .slice none 0 0 ↔ v = .slice none 0 0 ∧ m = 0) → wpList P ops Q rest (a.put o.dst v') w') : wpList P ops Q (o :: rest) a w := by
  obtain ⟨h1', ⟨i, hi, hz, hsz, hby⟩, hzs, hk⟩ := hT
  refine wpList_append_own w hgd s x t ho base e i z k bytes h1' hi hz hsz hby hzs hk v n xs hs hown ad m c news hx hl hnews h1 (by unfold maxLen; omega) ?_ hbase h
  calc (n + m) * bytes ≤ 1000000 * 1000 := Nat.mul_le_mul h63 hbb
    _ ≤ _ := by decide

theorem own_below {w w' : World} {base e k n : Nat} {v : Value} {xs : List Value} (h : w.ownsRow base e k v n xs) (hg : w.grownBy w' v.ownBlock) (hb : base ≤ w.heap.size) : Below base w w' :=
  (Below.refl base w).grown hg hb fun k hk => (h.lt k hk).1
/-- One append of one element that has just been laid. -/
theorem wpList_app1 {P : Program} {w : World} {ops : Array Oper} {rest : List Oper} {o : Oper} {a : Act} {Q : Exit → Act → World → Prop} {t e k bytes : Nat} {z : Value} (hT : RowT P t e k bytes z)
    (base : Nat) {v : Value} {n : Nat} {xs : List Value} (hown : w.ownsRow base e k v n xs) (hgd : o.guard = none) (s x : Operand)
    (ho : o.op = .call { callee := .builtin .append, args := #[s, x], argTypes := #[t, t] }) (hs : a.eval s = v)
    (news : List Value) (g : Nat) (hx : a.eval x = .slice (some ⟨g, 0, none⟩) 1 1) (hgw : g = w.heap.size) (hl : news.length = k) (h1 : ∀ u ∈ news, u.oneCell' = true)
    (h63 : n + 1 ≤ 1000000) (hbb : bytes ≤ 1000) (hbase : base ≤ w.heap.size) (ed : TypeId)
    (h : ∀ v' w', w'.ownsRow base e k v' (n + 1) (xs ++ news) → Below base w w' → w.grownBy w' v.ownBlock → wpList P ops Q rest (a.put o.dst v') w') : wpList P ops Q (o :: rest) a (w.alloc (.cells news.toArray ed)) := by
  subst hgw
  refine wpList_app hT base (hown.alloc _) hgd s x ho hs ⟨w.heap.size, 0, none⟩ 1 1 hx news (by omega) ?_ h1 h63 hbb (by simp; omega) fun v' w' h2 h3 _ => ?_
  · intro j u hu
    have hadd : (⟨w.heap.size, 0, none⟩ : Addr).add j = ⟨w.heap.size, j, none⟩ := by unfold Addr.add; split <;> simp_all
    rw [hadd, World.cell?_alloc_at _ _ _ _ rfl]
    simpa using hu
  · have hg : w.grownBy w' v.ownBlock := ⟨h3.os, h3.tape, h3.output, Nat.le_trans (by simp) h3.size, fun k hk hne => (h3.block k (by simp; omega) hne).trans (Below.heap_alloc w _ k hk)⟩
    exact h v' w' h2 (own_below hown hg hbase) hg

end Go.Proofs.YtnnmakkbnfckmaaDoor
