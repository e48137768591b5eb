/- My own texts A0, A1, A2, A3, A4, Shl, A5, P1, A6, B0, B1 in one. -/
import Derived.Test.YtnnmakkbnfckmaaDoorProg
import Derived.Test.YtnnmakkbnfckmaaDoorGP
import Derived.WalkKit
import Derived.WalkSpells
import Derived.Deep.QuietTactic
import Derived.BigQuiet
import Derived.Deep.LoopGhost
import Derived.Deep.DeepCutAuto
import Derived.Lib.Hide
import Derived.Shelf.Abstract
import Derived.Deep.DeepMust
import Derived.Shelf.Small.Wraps
import Derived.Shelf.Bits.Mul64
import Derived.Shelf.Unicode.PredsPay
import Derived.Shelf.Unicode.ValidAny
import Derived.Lib.OthersKept
import Derived.Lib.TrimU
import Derived.Lib.DecodeN
import Derived.BigRegion
import Derived.Deep.RegionHeld3
import Derived.Deep.AppendLies
import Derived.Deep.AppendSrc
/- Base words: the worlds behind a world, jobs, rows of cells. -/
namespace Go.Proofs.YtnnmakkbnfckmaaDoor
open Go.RowKit

/-- The greatest int, behind a name. -/
def bigS : Nat := 9223372036854775807
/-- Everything that lay in w lies there still. -/
abbrev Ext (w w' : World) : Prop := Below w.heap.size w w'

theorem Ext.refl (w : World) : Ext w w := Below.refl _ _
theorem Ext.trans {a b c : World} (h : Ext a b) (k : Ext b c) : Ext a c := Below.trans h (k.mono h.size)
theorem Ext.alloc {a b : World} (h : Ext a b) (o : Obj) : Ext a (b.alloc o) := Below.alloc h h.size o
theorem Ext.drew {a b : World} (h : Ext a b) : Ext a b.drew := Below.drew h
theorem Ext.drewN {a b : World} (h : Ext a b) (n : Nat) : Ext a (b.drewN n) := ⟨h.os, h.tape, h.output, h.size, h.block⟩
theorem Ext.new (w : World) (o : Obj) : Ext w (w.alloc o) := (Ext.refl w).alloc o
theorem Ext.cell {w w' : World} (h : Ext w w') {b o : Nat} (hb : b < w.heap.size) : w'.cell? ⟨b, o, none⟩ = w.cell? ⟨b, o, none⟩ := Below.cell h (p := ⟨b, o, none⟩) hb
theorem Ext.lt {w w' : World} (h : Ext w w') {b : Nat} (hb : b < w.heap.size) : b < w'.heap.size := Nat.lt_of_lt_of_le hb h.size
/-- The two rules by which old cells and old marks read as before. -/
theorem bcell {W w1 : World} (hb : Below W.heap.size W w1) : (∀ b o, b < W.heap.size → w1.cell? ⟨b, o, none⟩ = W.cell? ⟨b, o, none⟩) ∧ (∀ b o, b < W.heap.size → w1.frozen? ⟨b, o, none⟩ = W.frozen? ⟨b, o, none⟩) :=
  ⟨fun b o h => hb.cell (p := ⟨b, o, none⟩) h, fun b o h => hb.frozen (p := ⟨b, o, none⟩) h⟩

/-- The worlds behind w. -/
def Later (w : World) := {W : World // Ext w W}

abbrev J.agg (j : J) : Value := .agg #[.string j.name, .int .i64 j.rel, .int .i64 j.dl, .int .i64 j.bud, .int .i64 j.act, .int .i64 j.val, .int .i64 j.cln, .bool j.hard]
abbrev J.cells (j : J) : List Value := [.string j.name, .int .i64 j.rel, .int .i64 j.dl, .int .i64 j.bud, .int .i64 j.act, .int .i64 j.val, .int .i64 j.cln, .bool j.hard]

/-- A job's eight cells. -/
structure JCells (w : World) (b o : Nat) (j : J) : Prop where
  c0 : w.cell? ⟨b, o, none⟩ = some (.string j.name)
  c1 : w.cell? ⟨b, o + 1, none⟩ = some (.int .i64 j.rel)
  c2 : w.cell? ⟨b, o + 2, none⟩ = some (.int .i64 j.dl)
  c3 : w.cell? ⟨b, o + 3, none⟩ = some (.int .i64 j.bud)
  c4 : w.cell? ⟨b, o + 4, none⟩ = some (.int .i64 j.act)
  c5 : w.cell? ⟨b, o + 5, none⟩ = some (.int .i64 j.val)
  c6 : w.cell? ⟨b, o + 6, none⟩ = some (.int .i64 j.cln)
  c7 : w.cell? ⟨b, o + 7, none⟩ = some (.bool j.hard)

/-- A row of jobs at an address: each lies there. -/
def JRow (w : World) (a : Option Addr) (l : List J) : Prop :=
  ∀ i (hi : i < l.length), ∃ b off, a = some ⟨b, off, none⟩ ∧ b < w.heap.size ∧ JCells w b (off + i * 8) l[i]

theorem JCells.ext {w w' : World} {b o : Nat} {j : J} (h : JCells w b o j) (hx : Ext w w') (hb : b < w.heap.size) : JCells w' b o j :=
  ⟨(hx.cell hb).trans h.c0, (hx.cell hb).trans h.c1, (hx.cell hb).trans h.c2, (hx.cell hb).trans h.c3, (hx.cell hb).trans h.c4, (hx.cell hb).trans h.c5, (hx.cell hb).trans h.c6, (hx.cell hb).trans h.c7⟩
theorem JRow.ext {w w' : World} {a : Option Addr} {l : List J} (h : JRow w a l) (hx : Ext w w') : JRow w' a l := fun i hi =>
  let ⟨b, off, ha, hb, hc⟩ := h i hi
  ⟨b, off, ha, hx.lt hb, hc.ext hx hb⟩
theorem JRow.nil (w : World) (a : Option Addr) : JRow w a [] := fun _ hi => by simp at hi
/-- Where there is a job, the row's address is known. -/
theorem JRow.at {w : World} {a : Option Addr} {l : List J} (h : JRow w a l) {i : Nat} (hi : i < l.length) : ∃ b off, a = some ⟨b, off, none⟩ ∧ b < w.heap.size ∧ ∀ i (hi : i < l.length), JCells w b (off + i * 8) l[i] := by
  obtain ⟨b, off, rfl, hb, _⟩ := h i hi
  refine ⟨b, off, rfl, hb, fun k hk => ?_⟩
  obtain ⟨b', off', he, _, hc⟩ := h k hk
  cases he
  exact hc

/-! ### Rows of other elements -/

/-- A row of elements of one cell each. -/
def ERow {α : Type} (enc : α → Value) (w : World) (a : Option Addr) (l : List α) : Prop :=
  ∀ i (hi : i < l.length), ∃ b off, a = some ⟨b, off, none⟩ ∧ b < w.heap.size ∧ w.cell? ⟨b, off + i, none⟩ = some (enc l[i])
abbrev IRow := ERow (Value.int .i64)
abbrev BRow := ERow Value.bool
/-- A row of pairs of ints. -/
def PRow (w : World) (a : Option Addr) (l : List (Int × Int)) : Prop :=
  ∀ i (hi : i < l.length), ∃ b off, a = some ⟨b, off, none⟩ ∧ b < w.heap.size ∧ w.cell? ⟨b, off + i * 2, none⟩ = some (.int .i64 l[i].1) ∧ w.cell? ⟨b, off + i * 2 + 1, none⟩ = some (.int .i64 l[i].2)
theorem ERow.ext {α : Type} {enc : α → Value} {w w' : World} {a : Option Addr} {l : List α} (h : ERow enc w a l) (hx : Ext w w') : ERow enc w' a l := fun i hi =>
  let ⟨b, off, ha, hb, hc⟩ := h i hi
  ⟨b, off, ha, hx.lt hb, (hx.cell hb).trans hc⟩
theorem PRow.ext {w w' : World} {a : Option Addr} {l : List (Int × Int)} (h : PRow w a l) (hx : Ext w w') : PRow w' a l := fun i hi =>
  let ⟨b, off, ha, hb, hc, hd⟩ := h i hi
  ⟨b, off, ha, hx.lt hb, (hx.cell hb).trans hc, (hx.cell hb).trans hd⟩
theorem ERow.nil {α : Type} (enc : α → Value) (w : World) (a : Option Addr) : ERow enc w a [] := fun _ hi => by simp at hi
theorem PRow.nil (w : World) (a : Option Addr) : PRow w a [] := fun _ hi => by simp at hi

/-! ### Rows that a call itself has made -/

theorem flat_get {α : Type} (f : α → List Value) (k : Nat) (hf : ∀ x, (f x).length = k) (l : List α) : ∀ (i : Nat) (hi : i < l.length) (m : Nat), m < k → (l.flatMap f)[i * k + m]? = (f l[i])[m]? := by
  induction l with
  | nil => intro i hi; simp at hi
  | cons x r ih =>
    intro i hi m hm
    rw [List.flatMap_cons]
    cases i with
    | zero => rw [Nat.zero_mul, Nat.zero_add, List.getElem?_append_left (by rw [hf]; exact hm)]; rfl
    | succ i =>
      rw [List.getElem?_append_right (by rw [hf, Nat.succ_mul]; omega), hf, show (i + 1) * k + m - k = i * k + m by rw [Nat.succ_mul]; omega]
      exact ih i (by simpa using hi) m hm
theorem flat_length {α : Type} (f : α → List Value) (k : Nat) (hf : ∀ x, (f x).length = k) (l : List α) : (l.flatMap f).length = l.length * k := by
  induction l with
  | nil => simp
  | cons x r ih => rw [List.flatMap_cons, List.length_append, hf, ih, List.length_cons, Nat.succ_mul, Nat.add_comm]

/-- What is told of an owned row: its value is a slice of that length; its cells; its block. -/
theorem own_form {w : World} {base e k n : Nat} {v : Value} {xs : List Value} (h : w.ownsRow base e k v n xs) :
    ∃ a cap, v = .slice a n cap ∧ (0 < n → ∃ g, a = some ⟨g, 0, none⟩ ∧ base ≤ g ∧ g < w.heap.size ∧ ∀ j, j < n * k → w.cell? ⟨g, j, none⟩ = xs[j]?) := by
  obtain ⟨h1, h2⟩ := h
  rcases h2 with ⟨rfl, rfl⟩ | ⟨g, cap, cur, rfl, hb, hg, hn, hm, hs, ht⟩
  · exact ⟨none, 0, rfl, fun h => by omega⟩
  · refine ⟨_, cap, rfl, fun _ => ⟨g, rfl, hb, (Array.getElem?_eq_some_iff.1 hg).1, fun j hj => ?_⟩⟩
    rw [← ht, List.getElem?_take, if_pos hj]
    simp [World.cell?, hg]
theorem own_jrow {w : World} {base e : Nat} {v : Value} {l : List J} (h : w.ownsRow base e 8 v l.length (l.flatMap J.cells)) : ∃ a cap, v = .slice a l.length cap ∧ JRow w a l := by
  obtain ⟨a, cap, rfl, hc⟩ := own_form h
  refine ⟨a, cap, rfl, fun i hi => ?_⟩
  obtain ⟨g, rfl, _, hg, hc⟩ := hc (by omega)
  have key : ∀ m, m < 8 → w.cell? ⟨g, i * 8 + m, none⟩ = (l[i].cells)[m]? := fun m hm => (hc _ (by omega)).trans (flat_get J.cells 8 (fun _ => rfl) l i hi m hm)
  refine ⟨g, 0, rfl, hg, ?_⟩
  rw [Nat.zero_add]
  exact ⟨key 0 (by omega), key 1 (by omega), key 2 (by omega), key 3 (by omega), key 4 (by omega), key 5 (by omega), key 6 (by omega), key 7 (by omega)⟩
theorem own_erow {α : Type} {enc : α → Value} {w : World} {base e : Nat} {v : Value} {l : List α} (h : w.ownsRow base e 1 v l.length (l.map enc)) : ∃ a cap, v = .slice a l.length cap ∧ ERow enc w a l := by
  obtain ⟨a, cap, rfl, hc⟩ := own_form h
  refine ⟨a, cap, rfl, fun i hi => ?_⟩
  obtain ⟨g, rfl, _, hg, hc⟩ := hc (by omega)
  refine ⟨g, 0, rfl, hg, ?_⟩
  rw [Nat.zero_add, hc i (by omega)]
  simp [hi]
abbrev pairC (p : Int × Int) : List Value := [.int .i64 p.1, .int .i64 p.2]
theorem own_prow {w : World} {base e : Nat} {v : Value} {l : List (Int × Int)} (h : w.ownsRow base e 2 v l.length (l.flatMap pairC)) : ∃ a cap, v = .slice a l.length cap ∧ PRow w a l := by
  obtain ⟨a, cap, rfl, hc⟩ := own_form h
  refine ⟨a, cap, rfl, fun i hi => ?_⟩
  obtain ⟨g, rfl, _, hg, hc⟩ := hc (by omega)
  have key : ∀ m, m < 2 → w.cell? ⟨g, i * 2 + m, none⟩ = (pairC l[i])[m]? := fun m hm => (hc _ (by omega)).trans (flat_get pairC 2 (fun _ => rfl) l i hi m hm)
  refine ⟨g, 0, rfl, hg, ?_⟩
  rw [Nat.zero_add]
  exact ⟨key 0 (by omega), key 1 (by omega)⟩
/-- What is owned stays so while all that is there stays. -/
theorem own_ext {w w' : World} {base e k n : Nat} {v : Value} {xs : List Value} (h : w.ownsRow base e k v n xs) (hx : Ext w w') : w'.ownsRow base e k v n xs :=
  h.kept (row := none) ⟨hx.os, hx.tape, hx.output, hx.size, fun k hk _ => hx.block k hk⟩ (by cases hv : v.ownBlock <;> simp)

/-- The program's words on a slice type t of elements e of k cells, of so many bytes. -/
def RowT (P : Program) (t e k bytes : Nat) (z : Value) : Prop :=
  P.underlying t = some (.slice e) ∧ (∃ i, P.info? e = some i ∧ i.zero = some z ∧ i.size = k ∧ i.bytes = bytes) ∧ z.cells.size = k ∧ 0 < k
theorem RowT.of {P : Program} {t e k bytes : Nat} {z : Value} (h1 : P.underlying t = some (.slice e)) (h2 : (P.info? e).map (fun i => (i.zero, i.size, i.bytes)) = some (some z, k, bytes)) (h3 : z.cells.size = k) (h4 : 0 < k) : RowT P t e k bytes z :=
  ⟨h1, info_parts h2, h3, h4⟩

/-- One append onto a row that the call owns. -/
theorem wpList_app {P : Program} {w : World} {ops : Array Oper} {rest : List Oper} {o : Oper} {a : Act} {Q : Exit → Act → World → Prop} {t e k bytes : Nat} {z : Value} (hT : RowT P t e k bytes z)
    (base : Nat) {v : Value} {n : Nat} {xs : List Value} (hown : w.ownsRow base e k v n xs) (hgd : o.guard = none) (s x : Operand)
    (ho : o.op = .call { callee := .builtin .append, args := #[s, x], argTypes := #[t, t] }) (hs : a.eval s = v)
    (ad : Addr) (m c : Nat) (hx : a.eval x = .slice (some ad) m c) (news : List Value) (hl : news.length = m * k) (hnews : ∀ j u, news[j]? = some u → w.cell? (ad.add j) = some u) (h1 : ∀ u ∈ news, u.oneCell' = true)
    (h63 : n + m ≤ 1000000) (hbb : bytes ≤ 1000) (hbase : base ≤ w.heap.size)
    (h : ∀ v' w', w'.ownsRow base e k v' (n + m) (xs ++ news) → w.grownBy w' v.ownBlock → (v' = .slice none 0 0 ↔ v = .slice none 0 0 ∧ m = 0) → wpList P ops Q rest (a.put o.dst v') w') : wpList P ops Q (o :: rest) a w := by
  obtain ⟨h1', ⟨i, hi, hz, hsz, hby⟩, hzs, hk⟩ := hT
  refine wpList_append_own w hgd s x t ho base e i z k bytes h1' hi hz hsz hby hzs hk v n xs hs hown ad m c news hx hl hnews h1 (by unfold maxLen; omega) ?_ hbase h
  calc (n + m) * bytes ≤ 1000000 * 1000 := Nat.mul_le_mul h63 hbb
    _ ≤ _ := by decide

theorem own_below {w w' : World} {base e k n : Nat} {v : Value} {xs : List Value} (h : w.ownsRow base e k v n xs) (hg : w.grownBy w' v.ownBlock) (hb : base ≤ w.heap.size) : Below base w w' :=
  (Below.refl base w).grown hg hb fun k hk => (h.lt k hk).1
/-- One append of one element that has just been laid. -/
theorem wpList_app1 {P : Program} {w : World} {ops : Array Oper} {rest : List Oper} {o : Oper} {a : Act} {Q : Exit → Act → World → Prop} {t e k bytes : Nat} {z : Value} (hT : RowT P t e k bytes z)
    (base : Nat) {v : Value} {n : Nat} {xs : List Value} (hown : w.ownsRow base e k v n xs) (hgd : o.guard = none) (s x : Operand)
    (ho : o.op = .call { callee := .builtin .append, args := #[s, x], argTypes := #[t, t] }) (hs : a.eval s = v)
    (news : List Value) (g : Nat) (hx : a.eval x = .slice (some ⟨g, 0, none⟩) 1 1) (hgw : g = w.heap.size) (hl : news.length = k) (h1 : ∀ u ∈ news, u.oneCell' = true)
    (h63 : n + 1 ≤ 1000000) (hbb : bytes ≤ 1000) (hbase : base ≤ w.heap.size) (ed : TypeId)
    (h : ∀ v' w', w'.ownsRow base e k v' (n + 1) (xs ++ news) → Below base w w' → w.grownBy w' v.ownBlock → wpList P ops Q rest (a.put o.dst v') w') : wpList P ops Q (o :: rest) a (w.alloc (.cells news.toArray ed)) := by
  subst hgw
  refine wpList_app hT base (hown.alloc _) hgd s x ho hs ⟨w.heap.size, 0, none⟩ 1 1 hx news (by omega) ?_ h1 h63 hbb (by simp; omega) fun v' w' h2 h3 _ => ?_
  · intro j u hu
    have hadd : (⟨w.heap.size, 0, none⟩ : Addr).add j = ⟨w.heap.size, j, none⟩ := by unfold Addr.add; split <;> simp_all
    rw [hadd, World.cell?_alloc_at _ _ _ _ rfl]
    simpa using hu
  · have hg : w.grownBy w' v.ownBlock := ⟨h3.os, h3.tape, h3.output, Nat.le_trans (by simp) h3.size, fun k hk hne => (h3.block k (by simp; omega) hne).trans (Below.heap_alloc w _ k hk)⟩
    exact h v' w' h2 (own_below hown hg hbase) hg

end Go.Proofs.YtnnmakkbnfckmaaDoor
/- Walks of package job's small functions. -/
namespace Go.Proofs.YtnnmakkbnfckmaaDoor
open Go.RowKit

/-- A name's size is an int. -/
def J.ok (j : J) : Prop := j.name.size ≤ bigS
/-- What name.Good comes to, in every world behind w. -/
def NameC (w : World) : Prop := ∀ (s : ByteArray) W, s.size ≤ bigS → Ext w W → Calls Tryd.prog 63 #[.string s] W fun e w' => e = .returned (.bool (goodName s)) ∧ Ext W w'
theorem NameC.call {w : World} (h : NameC w) (s : ByteArray) (W : World) (hs : s.size ≤ bigS) (hx : Ext w W) : Calls Tryd.prog 63 #[.string s] W fun e w' => e = .returned (.bool (goodName s)) ∧ Ext W w' := h s W hs hx
theorem NameC.ext {w w' : World} (h : NameC w) (hx : Ext w w') : NameC w' := fun s W hs hw => h s W hs (hx.trans hw)

theorem in_any (n a b : Int) (w : World) : Calls Tryd.prog 62 #[.int .i64 n, .int .i64 a, .int .i64 b] w fun e w' =>
    e = .returned (.bool (inB n a b)) ∧ w = w' := by
  unfold inB
  by_cases h1 : a ≤ n
  · by_cases h2 : n ≤ b
    · go_enter Tryd.func62, Tryd.ntmps62
      go_wp2
      go_ret
      exact ⟨by simp [h1, h2], rfl⟩
    · go_enter Tryd.func62, Tryd.ntmps62
      go_wp2
      go_ret
      exact ⟨by simp [h2], rfl⟩
  · go_enter Tryd.func62, Tryd.ntmps62
    go_wp2
    go_ret
    exact ⟨by simp; omega, rfl⟩

set_option maxRecDepth 100000 in
set_option maxHeartbeats 2000000 in
theorem good_any (j : J) (w : World) (NG : NameC w) (hs : j.ok) :
    Calls Tryd.prog 15 #[j.agg] w fun e w' => e = .returned (.bool (goodB j)) ∧ Ext w w' := by
  obtain ⟨name, rel, dl, bud, act, val, cln, hard⟩ := j
  replace hs : name.size ≤ bigS := hs
  unfold J.agg goodB
  obtain ⟨T, hT⟩ : ∃ T, timesB ⟨name, rel, dl, bud, act, val, cln, hard⟩ = T := ⟨_, rfl⟩
  obtain ⟨S, hS⟩ : ∃ S, worksB ⟨name, rel, dl, bud, act, val, cln, hard⟩ = S := ⟨_, rfl⟩
  rw [hT, hS]
  unfold timesB at hT
  unfold worksB at hS
  have HT := Lib.hid hT
  have HS := Lib.hid hS
  clear hT hS
  go_enter Tryd.func15, Tryd.ntmps15
  go_upto_region 1 with fail
  go_cut [3] (fun s3 wx => s3 = .bool T ∧ wx = w.alloc (.cells #[.string name, .int .i64 rel, .int .i64 dl, .int .i64 bud, .int .i64 act, .int .i64 val, .int .i64 cln, .bool hard] 24))
  case first =>
    go_wp2_with (go_at_call 62; (with_reducible refine (in_any _ _ _ _).mono ?_); rintro e w' ⟨rfl, rfl⟩)
    all_goals (go_meet; exact ⟨by rw [← HT.out]; grind, rfl⟩)
  case rest =>
    obtain ⟨rfl, rfl⟩ := hcut
    go_upto_region 2 with fail
    go_cut [4] (fun s4 wx => s4 = .bool S ∧ wx = w.alloc (.cells #[.string name, .int .i64 rel, .int .i64 dl, .int .i64 bud, .int .i64 act, .int .i64 val, .int .i64 cln, .bool hard] 24))
    case first =>
      go_wp2_with (go_at_call 62; (with_reducible refine (in_any _ _ _ _).mono ?_); rintro e w' ⟨rfl, rfl⟩)
      all_goals (go_meet; exact ⟨by rw [← HS.out]; grind, rfl⟩)
    case rest =>
      obtain ⟨rfl, rfl⟩ := hcut
      clear HS HT
      go_wp2_with (first
        | (go_at_call 62; (with_reducible refine (in_any _ _ _ _).mono ?_); rintro e w' ⟨rfl, rfl⟩)
        | (go_at_call 63; go_must (with_reducible refine (NG.call _ _ hs (Ext.new _ _)).mono ?_); rintro e w1 ⟨rfl, hb⟩; obtain ⟨hc, hf⟩ := bcell hb))
      all_goals (go_ret; exact ⟨by first | (simp [*]; done) | grind, (Ext.new _ _).trans hb⟩)
end Go.Proofs.YtnnmakkbnfckmaaDoor
/- Walks: job.All's literal, slices.IndexFunc, ContainsFunc at jobs, job.All, Charge, Work, Runs, End. -/
namespace Go.Proofs.YtnnmakkbnfckmaaDoor
open Go.RowKit

set_option maxRecDepth 100000 in
set_option maxHeartbeats 2000000 in
theorem all1_any (j : J) (w : World) (NG : NameC w) (hs : j.ok) :
    Calls Tryd.prog 66 #[j.agg] w fun e w' => e = .returned (.bool (!goodB j)) ∧ Ext w w' := by
  unfold J.agg
  go_enter Tryd.func66, Tryd.ntmps66
  go_wp2_with (go_at_call 15; go_must (with_reducible refine (good_any j _ (NG.ext (Ext.new _ _)) hs).mono ?_); rintro e w1 ⟨rfl, hb⟩; obtain ⟨hc, hf⟩ := bcell hb)
  go_ret
  exact ⟨rfl, (Ext.new _ _).trans hb⟩

set_option maxRecDepth 100000 in
set_option maxHeartbeats 2000000 in
theorem runs_any (j : J) (w : World) :
    Calls Tryd.prog 23 #[j.agg] w fun e w' => e = .returned (.bool (runsB j)) ∧ Ext w w' := by
  unfold J.agg runsB
  go_enter Tryd.func23, Tryd.ntmps23
  go_wp2
  go_ret
  exact ⟨rfl, (Ext.new _ _)⟩

set_option maxRecDepth 100000 in
set_option maxHeartbeats 2000000 in
theorem charge_any (j : J) (w : World) (NG : NameC w) (hs : j.ok) :
    Calls Tryd.prog 19 #[j.agg] w fun e w' => e = .returned (.int .i64 (chargeJ j)) ∧ Ext w w' := by
  unfold J.agg
  have hg : goodB j = true → 1 ≤ j.bud ∧ j.bud ≤ 1000 ∧ 0 ≤ j.cln ∧ j.cln ≤ 100 := by
    unfold goodB worksB inB; simp; omega
  go_enter Tryd.func19, Tryd.ntmps19
  go_wp2_with (go_at_call 15; go_must (with_reducible refine (good_any j _ (NG.ext (Ext.new _ _)) hs).mono ?_); rintro e w1 ⟨rfl, hb⟩; obtain ⟨hc, hf⟩ := bcell hb)
  · go_ret
    exact ⟨by simp_all [chargeJ], (Ext.new _ _).trans hb⟩
  · go_ret
    refine ⟨?_, (Ext.new _ _).trans hb⟩
    have hgd : goodB j = true := by simp_all
    have := hg hgd
    rw [show wrap64 (j.bud + j.cln) = j.bud + j.cln by unfold wrap64; omega]
    simp [chargeJ, hgd]

set_option maxRecDepth 100000 in
set_option maxHeartbeats 2000000 in
theorem work_any (j : J) (w : World) (NG : NameC w) (hs : j.ok) :
    Calls Tryd.prog 21 #[j.agg] w fun e w' => e = .returned (.int .i64 (workJ j)) ∧ Ext w w' := by
  have hg : goodB j = true → 1 ≤ j.bud ∧ j.bud ≤ 1000 ∧ 0 ≤ j.cln ∧ j.cln ≤ 100 := by
    unfold goodB worksB inB; simp; omega
  go_enter Tryd.func21, Tryd.ntmps21
  go_wp2_with (first
    | (go_at_call 15; go_must (with_reducible refine (good_any j _ (NG.ext (Ext.new _ _)) hs).mono ?_); rintro e w1 ⟨rfl, hb⟩; obtain ⟨hc, hf⟩ := bcell hb)
    | (go_at_call 23; go_must (with_reducible refine (runs_any j _).mono ?_); rintro e w2 ⟨rfl, hb2⟩; obtain ⟨hc2, hf2⟩ := bcell hb2; have hz : w.heap.size < w1.heap.size := (by have := hb.size; simp at this; omega)))
  · go_ret
    exact ⟨by simp_all [workJ], (Ext.new _ _).trans hb⟩
  · go_ret
    exact ⟨by simp_all [workJ], ((Ext.new _ _).trans hb).trans hb2⟩
  · go_ret
    refine ⟨?_, ((Ext.new _ _).trans hb).trans hb2⟩
    have hgd : goodB j = true := by simp_all
    have := hg hgd
    rw [show wrap64 (j.bud + j.cln) = j.bud + j.cln by unfold wrap64; omega]
    simp_all [workJ]

set_option maxRecDepth 100000 in
set_option maxHeartbeats 2000000 in
/-- slices.IndexFunc at jobs. -/
theorem indexFuncJ (l : List J) (p : J → Bool) (g : FuncId) (lb : Array Value) (a : Option Addr) (cap : Nat) (w : World)
    (hm : l.length ≤ bigS) (eg : ∀ args w, (callFunc g args).run Tryd.prog w = .ok (.enter g args) w)
    (hp : ∀ j ∈ l, ∀ W, Ext w W → Calls Tryd.prog g (#[j.agg] ++ lb) W fun e w' => e = .returned (.bool (p j)) ∧ Ext W w')
    (hr : JRow w a l) :
    Calls Tryd.prog 106 #[.slice a l.length cap, .func (.func g) #[] lb] w fun e w' =>
      e = .returned (.int .i64 (idxI (l.findIdx? p))) ∧ Ext w w' := by
  unfold bigS at hm
  go_enter Tryd.func106, Tryd.ntmps106
  go_wp2
  go_loopw [8] (fun v8 wr => ∃ k : Nat, k ≤ l.length ∧ v8 = .int .i64 k ∧ Ext w wr ∧ ∀ i (hi : i < l.length), i < k → p l[i] = false) (fun v8 _ => l.length - (intOf v8).toNat)
  case atStart => exact ⟨0, Nat.zero_le _, rfl, Ext.refl _, fun i _ hi => by omega⟩
  case round =>
    obtain ⟨k, hk, rfl, hx, hno⟩ := hrel
    have HN := Lib.hid hno
    clear hno
    by_cases hlt : k < l.length
    · obtain ⟨b, off, rfl, hb, hcs⟩ := (hr.ext hx) k hlt
      obtain ⟨c0, c1, c2, c3, c4, c5, c6, c7⟩ := hcs
      have hpk := hp l[k] (List.getElem_mem hlt) wr hx
      have HP := Lib.hid hpk
      clear hpk hp hr
      go_wp2_with (first | (refine HP.out.mono ?_; rintro e w1 ⟨rfl, hb1⟩))
      · have hpk : p l[k] = true := by assumption
        go_ret
        refine ⟨?_, hx.trans hb1⟩
        have : l.findIdx? p = some k := by
          rw [List.findIdx?_eq_some_iff_getElem]
          exact ⟨hlt, hpk, fun j hj => by simpa using HN.out j (by omega) hj⟩
        rw [this]; rfl
      · have hpk : p l[k] = false := by assumption
        go_roundw
        case rel => exact ⟨k + 1, hlt, by go_num, hx.trans hb1, fun i hi hik => by
          rcases Nat.lt_succ_iff_lt_or_eq.1 hik with h | rfl
          · exact HN.out i hi h
          · exact hpk⟩
        case measure => simp [intOf]; omega
    · clear hp hr
      go_wp2
      go_ret
      refine ⟨?_, hx⟩
      have : l.findIdx? p = none := by
        rw [List.findIdx?_eq_none_iff]
        intro x hx
        obtain ⟨i, hi, rfl⟩ := List.getElem_of_mem hx
        exact HN.out i hi (by omega)
      rw [this]; rfl

set_option maxRecDepth 100000 in
set_option maxHeartbeats 2000000 in
/-- slices.ContainsFunc at jobs. -/
theorem containsFuncJ (l : List J) (p : J → Bool) (g : FuncId) (lb : Array Value) (a : Option Addr) (cap : Nat) (w : World)
    (hm : l.length ≤ bigS) (eg : ∀ args w, (callFunc g args).run Tryd.prog w = .ok (.enter g args) w)
    (hp : ∀ j ∈ l, ∀ W, Ext w W → Calls Tryd.prog g (#[j.agg] ++ lb) W fun e w' => e = .returned (.bool (p j)) ∧ Ext W w')
    (hr : JRow w a l) :
    Calls Tryd.prog 65 #[.slice a l.length cap, .func (.func g) #[] lb] w fun e w' =>
      e = .returned (.bool (l.any p)) ∧ Ext w w' := by
  have HC := Lib.hid (indexFuncJ l p g lb a cap w hm eg hp hr)
  clear hp eg hr
  go_enter Tryd.func65, Tryd.ntmps65
  go_wp2_with (first | (refine HC.out.mono ?_; rintro e w1 ⟨rfl, hb1⟩))
  go_ret
  refine ⟨?_, hb1⟩
  cases h : l.findIdx? p with
  | none =>
    have : l.any p = false := by
      rw [List.findIdx?_eq_none_iff] at h
      simpa using h
    simp [this, idxI_none]
  | some i =>
    have : l.any p = true := by
      rw [List.findIdx?_eq_some_iff_getElem] at h
      obtain ⟨hi, hp, _⟩ := h
      exact List.any_eq_true.2 ⟨_, List.getElem_mem hi, hp⟩
    simp [this, idxI_some]

set_option maxRecDepth 100000 in
set_option maxHeartbeats 2000000 in
/-- job.All. -/
theorem all_any (l : List J) (a : Option Addr) (cap : Nat) (w : World) (hm : l.length ≤ bigS) (NG : NameC w) (hs : ∀ j ∈ l, j.ok) (hr : JRow w a l) :
    Calls Tryd.prog 17 #[.slice a l.length cap] w fun e w' => e = .returned (.bool (allB l)) ∧ Ext w w' := by
  have HC := Lib.hid (containsFuncJ l (fun j => !goodB j) 66 #[] a cap w hm (Go.Proofs.enters_of Tryd.func66 (by kernel_rfl) rfl) (fun j hj W hW => by simpa using all1_any j W (NG.ext hW) (hs j hj)) hr)
  have hal : (!l.any fun j => !goodB j) = l.all goodB := by rw [List.all_eq_not_any_not]
  have HA := Lib.hid hal
  clear hal hr hs NG
  by_cases h2 : l.length ≤ 200
  · go_enter Tryd.func17, Tryd.ntmps17
    go_wp2_with (first | (refine HC.out.mono ?_; rintro e w1 ⟨rfl, hb1⟩))
    go_ret
    exact ⟨by unfold allB; rw [← HA.out]; simp [h2], hb1⟩
  · go_enter Tryd.func17, Tryd.ntmps17
    go_wp2
    go_ret
    exact ⟨by unfold allB; simp [h2], Ext.refl _⟩

end Go.Proofs.YtnnmakkbnfckmaaDoor
/- Walks: job.End; each law package's heavy, own, ints. -/
namespace Go.Proofs.YtnnmakkbnfckmaaDoor
open Go.RowKit

theorem maxDl_snoc (n : Int) (l : List J) (j : J) : maxDl n (l ++ [j]) = max (maxDl n l) j.dl := by simp [maxDl]
theorem take_snoc {α : Type} (l : List α) (k : Nat) (h : k < l.length) : l.take (k + 1) = l.take k ++ [l[k]] := by
  rw [List.take_succ_eq_append_getElem h]

set_option maxRecDepth 100000 in
set_option maxHeartbeats 2000000 in
theorem end_any (l : List J) (a : Option Addr) (cap : Nat) (w : World) (hm : l.length ≤ bigS) (NG : NameC w) (hs : ∀ j ∈ l, j.ok) (hr : JRow w a l) :
    Calls Tryd.prog 24 #[.slice a l.length cap] w fun e w' => e = .returned (.int .i64 (endJ l)) ∧ Ext w w' := by
  have HC := Lib.hid (all_any l a cap w hm NG hs hr)
  clear hs NG
  unfold bigS at hm
  go_enter Tryd.func24, Tryd.ntmps24
  go_wp2_with (first | (refine HC.out.mono ?_; rintro e w1 ⟨rfl, hb1⟩))
  · have hal : allB l = false := by simp_all
    go_ret
    exact ⟨by simp [endJ, hal], hb1⟩
  · have hal : allB l = true := by simp_all
    have HAL := Lib.hid hal
    have hr1 := hr.ext hb1
    have HB := Lib.hid hb1
    clear hr hb1 HC hal
    go_loopw [3, 11] (fun v3 v11 wr => ∃ k : Nat, k ≤ l.length ∧ v11 = .int .i64 k ∧ v3 = .int .i64 (maxDl 0 (l.take k)) ∧ Ext w1 wr) (fun _ v11 _ => l.length - (intOf v11).toNat)
    case atStart => exact ⟨0, Nat.zero_le _, rfl, rfl, Ext.refl _⟩
    case round =>
      obtain ⟨k, hk, rfl, rfl, hx⟩ := hrel
      by_cases hlt : k < l.length
      · obtain ⟨b, off, rfl, hb, hcs⟩ := (hr1.ext hx) k hlt
        obtain ⟨c0, c1, c2, c3, c4, c5, c6, c7⟩ := hcs
        have HM := Lib.hid (maxDl_snoc 0 (l.take k) l[k])
        have HT := Lib.hid (take_snoc l k hlt)
        generalize maxDl 0 (l.take k) = m at *
        go_wp2
        go_roundw
        case rel => exact ⟨k + 1, hlt, by go_num, by rw [HT.out, HM.out]; first | done | (congr 1; split <;> omega), hx.trans (Ext.new _ _)⟩
        case measure => simp [intOf]; omega
      · obtain rfl : k = l.length := by omega
        go_wp2
        go_ret
        exact ⟨by simp [endJ, HAL.out, List.take_length], HB.out.trans hx⟩

theorem heavy_t {l : List J} {most last : Int} {k : Nat} (hk : k < l.length) (h : heavyJ most last l[k] = true) : heavyB l most last = true := by
  simp only [heavyB, Bool.or_eq_true]
  exact .inr (List.any_eq_true.2 ⟨_, List.getElem_mem hk, h⟩)
theorem heavy_f {l : List J} {most last : Int} (h0 : (l.length : Int) ≤ most) (h : ∀ i (hi : i < l.length), i < l.length → heavyJ most last l[i] = false) : heavyB l most last = false := by
  simp only [heavyB, Bool.or_eq_false_iff, decide_eq_false_iff_not]
  refine ⟨by omega, List.any_eq_false.2 fun x hx => ?_⟩
  obtain ⟨i, hi, rfl⟩ := List.getElem_of_mem hx
  simp [h i hi hi]

set_option maxRecDepth 100000 in
set_option maxHeartbeats 2000000 in
theorem heavy_tocsinlaw8 (l : List J) (most last : Int) (a : Option Addr) (cap : Nat) (w : World) (hm : l.length ≤ bigS) (hr : JRow w a l) :
    Calls Tryd.prog 13 #[.slice a l.length cap, .int .i64 most, .int .i64 last] w fun e w' => e = .returned (.bool (heavyB l most last)) ∧ w = w' := by
  unfold bigS at hm
  by_cases h0 : most < l.length
  · go_enter Tryd.func13, Tryd.ntmps13
    go_wp2
    go_ret
    exact ⟨by simp [heavyB, h0], rfl⟩
  · go_enter Tryd.func13, Tryd.ntmps13
    go_wp2
    go_loop [7] (fun v7 => ∃ k : Nat, k ≤ l.length ∧ v7 = .int .i64 k ∧ ∀ i (hi : i < l.length), i < k → heavyJ most last l[i] = false) (fun v7 => l.length - (intOf v7).toNat)
    case atStart => exact ⟨0, Nat.zero_le _, rfl, fun i _ hi => by omega⟩
    case round =>
      obtain ⟨k, hk, rfl, hno⟩ := hrel
      have HN := Lib.hid hno
      clear hno
      by_cases hlt : k < l.length
      · obtain ⟨b, off, rfl, hb, hcs⟩ := hr k hlt
        obtain ⟨c0, c1, c2, c3, c4, c5, c6, c7⟩ := hcs
        clear hr
        go_wp2
        all_goals first
          | (go_ret; exact ⟨by rw [heavy_t hlt (by unfold heavyJ; simp only [Bool.or_eq_true, Bool.and_eq_true, decide_eq_true_eq]; omega)]; rfl, rfl⟩)
          | (go_round
             case rel => exact ⟨k + 1, hlt, by go_num, fun i hi hik => by
               rcases Nat.lt_succ_iff_lt_or_eq.1 hik with h | rfl
               · exact HN.out i hi h
               · unfold heavyJ; simp only [Bool.or_eq_false_iff, Bool.and_eq_false_iff, decide_eq_false_iff_not]; omega⟩
             case measure => simp [intOf]; omega)
      · obtain rfl : k = l.length := by omega
        go_wp2
        go_ret
        exact ⟨by rw [heavy_f h0 HN.out]; rfl, rfl⟩
set_option maxRecDepth 100000 in
set_option maxHeartbeats 2000000 in
theorem heavy_tocsinlaw10 (l : List J) (most last : Int) (a : Option Addr) (cap : Nat) (w : World) (hm : l.length ≤ bigS) (hr : JRow w a l) :
    Calls Tryd.prog 30 #[.slice a l.length cap, .int .i64 most, .int .i64 last] w fun e w' => e = .returned (.bool (heavyB l most last)) ∧ w = w' := by
  unfold bigS at hm
  by_cases h0 : most < l.length
  · go_enter Tryd.func30, Tryd.ntmps30
    go_wp2
    go_ret
    exact ⟨by simp [heavyB, h0], rfl⟩
  · go_enter Tryd.func30, Tryd.ntmps30
    go_wp2
    go_loop [7] (fun v7 => ∃ k : Nat, k ≤ l.length ∧ v7 = .int .i64 k ∧ ∀ i (hi : i < l.length), i < k → heavyJ most last l[i] = false) (fun v7 => l.length - (intOf v7).toNat)
    case atStart => exact ⟨0, Nat.zero_le _, rfl, fun i _ hi => by omega⟩
    case round =>
      obtain ⟨k, hk, rfl, hno⟩ := hrel
      have HN := Lib.hid hno
      clear hno
      by_cases hlt : k < l.length
      · obtain ⟨b, off, rfl, hb, hcs⟩ := hr k hlt
        obtain ⟨c0, c1, c2, c3, c4, c5, c6, c7⟩ := hcs
        clear hr
        go_wp2
        all_goals first
          | (go_ret; exact ⟨by rw [heavy_t hlt (by unfold heavyJ; simp only [Bool.or_eq_true, Bool.and_eq_true, decide_eq_true_eq]; omega)]; rfl, rfl⟩)
          | (go_round
             case rel => exact ⟨k + 1, hlt, by go_num, fun i hi hik => by
               rcases Nat.lt_succ_iff_lt_or_eq.1 hik with h | rfl
               · exact HN.out i hi h
               · unfold heavyJ; simp only [Bool.or_eq_false_iff, Bool.and_eq_false_iff, decide_eq_false_iff_not]; omega⟩
             case measure => simp [intOf]; omega)
      · obtain rfl : k = l.length := by omega
        go_wp2
        go_ret
        exact ⟨by rw [heavy_f h0 HN.out]; rfl, rfl⟩
set_option maxRecDepth 100000 in
set_option maxHeartbeats 2000000 in
theorem heavy_tocsinlaw20 (l : List J) (most last : Int) (a : Option Addr) (cap : Nat) (w : World) (hm : l.length ≤ bigS) (hr : JRow w a l) :
    Calls Tryd.prog 45 #[.slice a l.length cap, .int .i64 most, .int .i64 last] w fun e w' => e = .returned (.bool (heavyB l most last)) ∧ w = w' := by
  unfold bigS at hm
  by_cases h0 : most < l.length
  · go_enter Tryd.func45, Tryd.ntmps45
    go_wp2
    go_ret
    exact ⟨by simp [heavyB, h0], rfl⟩
  · go_enter Tryd.func45, Tryd.ntmps45
    go_wp2
    go_loop [7] (fun v7 => ∃ k : Nat, k ≤ l.length ∧ v7 = .int .i64 k ∧ ∀ i (hi : i < l.length), i < k → heavyJ most last l[i] = false) (fun v7 => l.length - (intOf v7).toNat)
    case atStart => exact ⟨0, Nat.zero_le _, rfl, fun i _ hi => by omega⟩
    case round =>
      obtain ⟨k, hk, rfl, hno⟩ := hrel
      have HN := Lib.hid hno
      clear hno
      by_cases hlt : k < l.length
      · obtain ⟨b, off, rfl, hb, hcs⟩ := hr k hlt
        obtain ⟨c0, c1, c2, c3, c4, c5, c6, c7⟩ := hcs
        clear hr
        go_wp2
        all_goals first
          | (go_ret; exact ⟨by rw [heavy_t hlt (by unfold heavyJ; simp only [Bool.or_eq_true, Bool.and_eq_true, decide_eq_true_eq]; omega)]; rfl, rfl⟩)
          | (go_round
             case rel => exact ⟨k + 1, hlt, by go_num, fun i hi hik => by
               rcases Nat.lt_succ_iff_lt_or_eq.1 hik with h | rfl
               · exact HN.out i hi h
               · unfold heavyJ; simp only [Bool.or_eq_false_iff, Bool.and_eq_false_iff, decide_eq_false_iff_not]; omega⟩
             case measure => simp [intOf]; omega)
      · obtain rfl : k = l.length := by omega
        go_wp2
        go_ret
        exact ⟨by rw [heavy_f h0 HN.out]; rfl, rfl⟩
set_option maxRecDepth 100000 in
set_option maxHeartbeats 2000000 in
theorem heavy_tocsinlaw19 (l : List J) (most last : Int) (a : Option Addr) (cap : Nat) (w : World) (hm : l.length ≤ bigS) (hr : JRow w a l) :
    Calls Tryd.prog 54 #[.slice a l.length cap, .int .i64 most, .int .i64 last] w fun e w' => e = .returned (.bool (heavyB l most last)) ∧ w = w' := by
  unfold bigS at hm
  by_cases h0 : most < l.length
  · go_enter Tryd.func54, Tryd.ntmps54
    go_wp2
    go_ret
    exact ⟨by simp [heavyB, h0], rfl⟩
  · go_enter Tryd.func54, Tryd.ntmps54
    go_wp2
    go_loop [7] (fun v7 => ∃ k : Nat, k ≤ l.length ∧ v7 = .int .i64 k ∧ ∀ i (hi : i < l.length), i < k → heavyJ most last l[i] = false) (fun v7 => l.length - (intOf v7).toNat)
    case atStart => exact ⟨0, Nat.zero_le _, rfl, fun i _ hi => by omega⟩
    case round =>
      obtain ⟨k, hk, rfl, hno⟩ := hrel
      have HN := Lib.hid hno
      clear hno
      by_cases hlt : k < l.length
      · obtain ⟨b, off, rfl, hb, hcs⟩ := hr k hlt
        obtain ⟨c0, c1, c2, c3, c4, c5, c6, c7⟩ := hcs
        clear hr
        go_wp2
        all_goals first
          | (go_ret; exact ⟨by rw [heavy_t hlt (by unfold heavyJ; simp only [Bool.or_eq_true, Bool.and_eq_true, decide_eq_true_eq]; omega)]; rfl, rfl⟩)
          | (go_round
             case rel => exact ⟨k + 1, hlt, by go_num, fun i hi hik => by
               rcases Nat.lt_succ_iff_lt_or_eq.1 hik with h | rfl
               · exact HN.out i hi h
               · unfold heavyJ; simp only [Bool.or_eq_false_iff, Bool.and_eq_false_iff, decide_eq_false_iff_not]; omega⟩
             case measure => simp [intOf]; omega)
      · obtain rfl : k = l.length := by omega
        go_wp2
        go_ret
        exact ⟨by rw [heavy_f h0 HN.out]; rfl, rfl⟩

end Go.Proofs.YtnnmakkbnfckmaaDoor
/- Walks: each law package's own, ints, fates, lefts. -/
namespace Go.Proofs.YtnnmakkbnfckmaaDoor
open Go.RowKit

theorem rtRefJob : RowT Tryd.prog 28 27 8 72 (.agg #[.string ByteArray.empty, .int .i64 0, .int .i64 0, .int .i64 0, .int .i64 0, .int .i64 0, .int .i64 0, .bool false]) :=
  .of Tryd.underlying28 (by kernel_rfl) rfl (by decide)
theorem rtInt : RowT Tryd.prog 39 3 1 8 (.int .i64 0) := .of Tryd.underlying39 (by kernel_rfl) rfl (by decide)

/-- A slice of jobs is handed back, in memory of the call's own or as it was; all that was there lies there still. -/
def JSl (l : List J) (w : World) (e : Ending) (w' : World) : Prop := ∃ a cap, e = .returned (.slice a l.length cap) ∧ JRow w' a l ∧ Ext w w'
theorem JSl.mk {l : List J} {w w' : World} {base e : Nat} {v : Value} (h : w'.ownsRow base e 8 v l.length (l.flatMap J.cells)) (hx : Ext w w') : JSl l w (.returned v) w' := by
  obtain ⟨a, cap, rfl, hr⟩ := own_jrow h
  exact ⟨a, cap, rfl, hr, hx⟩

set_option maxRecDepth 100000 in
set_option maxHeartbeats 2000000 in
theorem own_tocsinlaw8 (l : List J) (a : Option Addr) (cap : Nat) (w : World) (hm : l.length ≤ 1000) (hr : JRow w a l) :
    Calls Tryd.prog 14 #[.slice a l.length cap] w (JSl l w) := by
  go_enter Tryd.func14, Tryd.ntmps14
  go_wp2
  go_loopw [3, 4] (fun v3 v4 wr => ∃ k : Nat, k ≤ l.length ∧ v4 = .int .i64 k ∧ wr.ownsRow w.heap.size 27 8 v3 k ((l.take k).flatMap J.cells) ∧ Ext w wr) (fun _ v4 _ => l.length - (intOf v4).toNat)
  case atStart => exact ⟨0, Nat.zero_le _, rfl, World.ownsRow_nil _ _ _ _, Ext.refl _⟩
  case round =>
    obtain ⟨k, hk, rfl, hown, hx⟩ := hrel
    by_cases hlt : k < l.length
    · obtain ⟨b, off, rfl, hb, hcs⟩ := (hr.ext hx) k hlt
      obtain ⟨c0, c1, c2, c3, c4, c5, c6, c7⟩ := hcs
      have HT := Lib.hid (take_snoc l k hlt)
      go_wp2_with (at_builtin; go_must (refine wpList_app1 rtRefJob w.heap.size (hown.alloc _) rfl (.tmp 16) (.tmp 34) rfl rfl (J.cells l[k]) _ rfl (by simp) rfl (by simp [Value.oneCell']) (by omega) (by decide) (by have := hx.size; simp; omega) _ ?_); intro v' w1 hown1 hB1 hg1)
      go_roundw
      case rel => exact ⟨k + 1, hlt, by go_num, by rw [HT.out, List.flatMap_append]; simpa using hown1, Below.trans (hx.alloc _) hB1⟩
      case measure => simp [intOf]; omega
    · obtain rfl : k = l.length := by omega
      rw [List.take_length] at hown
      go_wp2
      go_ret
      exact JSl.mk hown hx

set_option maxRecDepth 100000 in
set_option maxHeartbeats 2000000 in
theorem ints_tocsinlaw8 (l m : List Int) (a b : Option Addr) (cap cap' : Nat) (w : World) (hl : l.length ≤ bigS) (hm : m.length ≤ bigS) (hr : IRow w a l) (hr' : IRow w b m) :
    Calls Tryd.prog 26 #[.slice a l.length cap, .slice b m.length cap'] w fun e w' => e = .returned (.bool (decide (l = m))) ∧ Ext w w' := by
  unfold bigS at hl hm
  by_cases h0 : l.length = m.length
  · have H0 := Lib.hid h0
    rw [← h0]
    clear h0
    go_enter Tryd.func26, Tryd.ntmps26
    go_wp2
    go_loopw [5] (fun v5 wr => ∃ k : Nat, k ≤ l.length ∧ v5 = .int .i64 k ∧ l.take k = m.take k ∧ Ext w wr) (fun v5 _ => l.length - (intOf v5).toNat)
    case atStart => exact ⟨0, Nat.zero_le _, rfl, rfl, Ext.refl _⟩
    case round =>
      obtain ⟨k, hk, rfl, hno, hx⟩ := hrel
      have HN := Lib.hid hno
      clear hno
      by_cases hlt : k < l.length
      · have hlt' : k < m.length := by have := H0.out; omega
        obtain ⟨b1, off, rfl, hb, c0⟩ := (hr.ext hx) k hlt
        obtain ⟨b2, off2, rfl, hb2, c1⟩ := (hr'.ext hx) k hlt'
        have T1 := Lib.hid (take_snoc l k hlt)
        have T2 := Lib.hid (take_snoc m k hlt')
        clear hr hr'
        generalize hp : l[k] = p at *
        generalize hq : m[k] = q at *
        have HP := Lib.hid hp
        have HQ := Lib.hid hq
        clear hp hq
        go_wp2
        go_quiet (fail)
        go_wp2
        · have hpq : (p != q) = true := by assumption
          go_ret
          refine ⟨?_, hx.drewN _⟩
          have : l ≠ m := by
            rintro rfl
            rw [HP.out] at HQ
            have := HQ.out
            simp [this] at hpq
          simp [this]
        · have hpq : (p != q) = false := by assumption
          go_roundw
          case rel => exact ⟨k + 1, hlt, by go_num, by rw [T1.out, T2.out, HN.out]; simp at hpq; rw [hpq], hx.drewN _⟩
          case measure => simp [intOf]; omega
      · have hkk : k = l.length := by omega
        clear hr hr'
        go_wp2
        go_ret
        refine ⟨?_, hx⟩
        have : l = m := by
          have h1 := HN.out
          rw [hkk, List.take_length, H0.out, List.take_length] at h1
          exact h1
        simp [this]
  · go_enter Tryd.func26, Tryd.ntmps26
    go_wp2
    go_ret
    exact ⟨by have : l ≠ m := fun h => h0 (by rw [h]); simp [this], Ext.refl _⟩
set_option maxRecDepth 100000 in
set_option maxHeartbeats 2000000 in
theorem ints_tocsinlaw10 (l m : List Int) (a b : Option Addr) (cap cap' : Nat) (w : World) (hl : l.length ≤ bigS) (hm : m.length ≤ bigS) (hr : IRow w a l) (hr' : IRow w b m) :
    Calls Tryd.prog 37 #[.slice a l.length cap, .slice b m.length cap'] w fun e w' => e = .returned (.bool (decide (l = m))) ∧ Ext w w' := by
  unfold bigS at hl hm
  by_cases h0 : l.length = m.length
  · have H0 := Lib.hid h0
    rw [← h0]
    clear h0
    go_enter Tryd.func37, Tryd.ntmps37
    go_wp2
    go_loopw [5] (fun v5 wr => ∃ k : Nat, k ≤ l.length ∧ v5 = .int .i64 k ∧ l.take k = m.take k ∧ Ext w wr) (fun v5 _ => l.length - (intOf v5).toNat)
    case atStart => exact ⟨0, Nat.zero_le _, rfl, rfl, Ext.refl _⟩
    case round =>
      obtain ⟨k, hk, rfl, hno, hx⟩ := hrel
      have HN := Lib.hid hno
      clear hno
      by_cases hlt : k < l.length
      · have hlt' : k < m.length := by have := H0.out; omega
        obtain ⟨b1, off, rfl, hb, c0⟩ := (hr.ext hx) k hlt
        obtain ⟨b2, off2, rfl, hb2, c1⟩ := (hr'.ext hx) k hlt'
        have T1 := Lib.hid (take_snoc l k hlt)
        have T2 := Lib.hid (take_snoc m k hlt')
        clear hr hr'
        generalize hp : l[k] = p at *
        generalize hq : m[k] = q at *
        have HP := Lib.hid hp
        have HQ := Lib.hid hq
        clear hp hq
        go_wp2
        go_quiet (fail)
        go_wp2
        · have hpq : (p != q) = true := by assumption
          go_ret
          refine ⟨?_, hx.drewN _⟩
          have : l ≠ m := by
            rintro rfl
            rw [HP.out] at HQ
            have := HQ.out
            simp [this] at hpq
          simp [this]
        · have hpq : (p != q) = false := by assumption
          go_roundw
          case rel => exact ⟨k + 1, hlt, by go_num, by rw [T1.out, T2.out, HN.out]; simp at hpq; rw [hpq], hx.drewN _⟩
          case measure => simp [intOf]; omega
      · have hkk : k = l.length := by omega
        clear hr hr'
        go_wp2
        go_ret
        refine ⟨?_, hx⟩
        have : l = m := by
          have h1 := HN.out
          rw [hkk, List.take_length, H0.out, List.take_length] at h1
          exact h1
        simp [this]
  · go_enter Tryd.func37, Tryd.ntmps37
    go_wp2
    go_ret
    exact ⟨by have : l ≠ m := fun h => h0 (by rw [h]); simp [this], Ext.refl _⟩
set_option maxRecDepth 100000 in
set_option maxHeartbeats 2000000 in
theorem ints_tocsinlaw20 (l m : List Int) (a b : Option Addr) (cap cap' : Nat) (w : World) (hl : l.length ≤ bigS) (hm : m.length ≤ bigS) (hr : IRow w a l) (hr' : IRow w b m) :
    Calls Tryd.prog 49 #[.slice a l.length cap, .slice b m.length cap'] w fun e w' => e = .returned (.bool (decide (l = m))) ∧ Ext w w' := by
  unfold bigS at hl hm
  by_cases h0 : l.length = m.length
  · have H0 := Lib.hid h0
    rw [← h0]
    clear h0
    go_enter Tryd.func49, Tryd.ntmps49
    go_wp2
    go_loopw [5] (fun v5 wr => ∃ k : Nat, k ≤ l.length ∧ v5 = .int .i64 k ∧ l.take k = m.take k ∧ Ext w wr) (fun v5 _ => l.length - (intOf v5).toNat)
    case atStart => exact ⟨0, Nat.zero_le _, rfl, rfl, Ext.refl _⟩
    case round =>
      obtain ⟨k, hk, rfl, hno, hx⟩ := hrel
      have HN := Lib.hid hno
      clear hno
      by_cases hlt : k < l.length
      · have hlt' : k < m.length := by have := H0.out; omega
        obtain ⟨b1, off, rfl, hb, c0⟩ := (hr.ext hx) k hlt
        obtain ⟨b2, off2, rfl, hb2, c1⟩ := (hr'.ext hx) k hlt'
        have T1 := Lib.hid (take_snoc l k hlt)
        have T2 := Lib.hid (take_snoc m k hlt')
        clear hr hr'
        generalize hp : l[k] = p at *
        generalize hq : m[k] = q at *
        have HP := Lib.hid hp
        have HQ := Lib.hid hq
        clear hp hq
        go_wp2
        go_quiet (fail)
        go_wp2
        · have hpq : (p != q) = true := by assumption
          go_ret
          refine ⟨?_, hx.drewN _⟩
          have : l ≠ m := by
            rintro rfl
            rw [HP.out] at HQ
            have := HQ.out
            simp [this] at hpq
          simp [this]
        · have hpq : (p != q) = false := by assumption
          go_roundw
          case rel => exact ⟨k + 1, hlt, by go_num, by rw [T1.out, T2.out, HN.out]; simp at hpq; rw [hpq], hx.drewN _⟩
          case measure => simp [intOf]; omega
      · have hkk : k = l.length := by omega
        clear hr hr'
        go_wp2
        go_ret
        refine ⟨?_, hx⟩
        have : l = m := by
          have h1 := HN.out
          rw [hkk, List.take_length, H0.out, List.take_length] at h1
          exact h1
        simp [this]
  · go_enter Tryd.func49, Tryd.ntmps49
    go_wp2
    go_ret
    exact ⟨by have : l ≠ m := fun h => h0 (by rw [h]); simp [this], Ext.refl _⟩
set_option maxRecDepth 100000 in
set_option maxHeartbeats 2000000 in
theorem ints_tocsinlaw19 (l m : List Int) (a b : Option Addr) (cap cap' : Nat) (w : World) (hl : l.length ≤ bigS) (hm : m.length ≤ bigS) (hr : IRow w a l) (hr' : IRow w b m) :
    Calls Tryd.prog 58 #[.slice a l.length cap, .slice b m.length cap'] w fun e w' => e = .returned (.bool (decide (l = m))) ∧ Ext w w' := by
  unfold bigS at hl hm
  by_cases h0 : l.length = m.length
  · have H0 := Lib.hid h0
    rw [← h0]
    clear h0
    go_enter Tryd.func58, Tryd.ntmps58
    go_wp2
    go_loopw [5] (fun v5 wr => ∃ k : Nat, k ≤ l.length ∧ v5 = .int .i64 k ∧ l.take k = m.take k ∧ Ext w wr) (fun v5 _ => l.length - (intOf v5).toNat)
    case atStart => exact ⟨0, Nat.zero_le _, rfl, rfl, Ext.refl _⟩
    case round =>
      obtain ⟨k, hk, rfl, hno, hx⟩ := hrel
      have HN := Lib.hid hno
      clear hno
      by_cases hlt : k < l.length
      · have hlt' : k < m.length := by have := H0.out; omega
        obtain ⟨b1, off, rfl, hb, c0⟩ := (hr.ext hx) k hlt
        obtain ⟨b2, off2, rfl, hb2, c1⟩ := (hr'.ext hx) k hlt'
        have T1 := Lib.hid (take_snoc l k hlt)
        have T2 := Lib.hid (take_snoc m k hlt')
        clear hr hr'
        generalize hp : l[k] = p at *
        generalize hq : m[k] = q at *
        have HP := Lib.hid hp
        have HQ := Lib.hid hq
        clear hp hq
        go_wp2
        go_quiet (fail)
        go_wp2
        · have hpq : (p != q) = true := by assumption
          go_ret
          refine ⟨?_, hx.drewN _⟩
          have : l ≠ m := by
            rintro rfl
            rw [HP.out] at HQ
            have := HQ.out
            simp [this] at hpq
          simp [this]
        · have hpq : (p != q) = false := by assumption
          go_roundw
          case rel => exact ⟨k + 1, hlt, by go_num, by rw [T1.out, T2.out, HN.out]; simp at hpq; rw [hpq], hx.drewN _⟩
          case measure => simp [intOf]; omega
      · have hkk : k = l.length := by omega
        clear hr hr'
        go_wp2
        go_ret
        refine ⟨?_, hx⟩
        have : l = m := by
          have h1 := HN.out
          rw [hkk, List.take_length, H0.out, List.take_length] at h1
          exact h1
        simp [this]
  · go_enter Tryd.func58, Tryd.ntmps58
    go_wp2
    go_ret
    exact ⟨by have : l ≠ m := fun h => h0 (by rw [h]); simp [this], Ext.refl _⟩

end Go.Proofs.YtnnmakkbnfckmaaDoor
/-
  DERIVED: THE SHELF's CONTRACTS AT THIS DUMP, IN PLAIN WORDS (tools/lay-plain.mjs out of 'TrydShl.lean', which tools/lay-shelf.mjs wrote): THE SAME DECLARATIONS UNDER THE SAME NAMES: 'import', 'namespace', 'open', 'def', 'theorem' AND NOTHING ELSE: no command of the shelf's: FOR A HAND-IN. Each laying: the table of numbers ('.._ren') and one theorem, a field a fact of the dump's own or the kernel's comparison; each contract: ONE APPLICATION.
-/
namespace Go.Proofs
open Go.Shelf
def Tryd.lays122_ren : Go.Shelf.Ren := ⟨fun | 122 => 69 | 215 => 108 | n => n, fun | 3 => 3 | 4 => 4 | n => n, fun | n => n⟩
theorem Tryd.lays122 : Go.Proofs.Lays.n122 Tryd.prog Tryd.lays122_ren := {
  mixed := by kernel_rfl
  f122 := Tryd.func69.trans (congrArg some (by kernel_rfl))
  f215 := Tryd.func108.trans (congrArg some (by kernel_rfl))
  t3 := Tryd.underlying3
  a3 := Tryd.isAgg3
  z3 := Tryd.sizeOf3
  v3 := Tryd.zeroValue3
  t4 := Tryd.underlying4
  a4 := Tryd.isAgg4
  z4 := Tryd.sizeOf4
  v4 := Tryd.zeroValue4 }
open Go.RowKit in
/-- cmp.Compare at int: "Compare returns -1 if x is less than y, 0 if x equals y, +1 if x is greater than y.": IT RETURNS 'Lib.compareInt x y'; the world is as it was. (LAID: no walk: one application.) -/
theorem Tryd.cmp_Compare_int (x y : Int) (w : World) :
    Calls Tryd.prog 69 #[.int .i64 x, .int .i64 y] w fun e w' => e = .returned (.int .i64 (Lib.compareInt x y)) ∧ w' = w := Any.cmp_Compare_int Tryd.lays122 x y w
def Tryd.lays200_ren : Go.Shelf.Ren := ⟨fun | 200 => 102 | 261 => 131 | 311 => 141 | 312 => 142 | n => n, fun | 21 => 21 | 4 => 4 | 51 => 140 | 5 => 5 | 119 => 141 | 0 => 0 | 141 => 143 | 196 => 158 | 193 => 155 | 3 => 3 | 198 => 161 | 49 => 159 | 194 => 156 | 201 => 164 | 226 => 170 | 46 => 148 | 227 => 171 | n => n, fun | 7 => 0 | 8 => 1 | n => n⟩
theorem Tryd.lays200 : Go.Proofs.Lays.n200 Tryd.prog Tryd.lays200_ren := {
  mixed := by kernel_rfl
  f200 := Tryd.func102.trans (congrArg some (by kernel_rfl))
  f261 := Tryd.func131.trans (congrArg some (by kernel_rfl))
  f311 := Tryd.func141.trans (congrArg some (by kernel_rfl))
  f312 := Tryd.func142.trans (congrArg some (by kernel_rfl))
  t0 := Tryd.underlying0
  a0 := Tryd.isAgg0
  z0 := Tryd.sizeOf0
  v0 := Tryd.zeroValue0
  t3 := Tryd.underlying3
  a3 := Tryd.isAgg3
  z3 := Tryd.sizeOf3
  v3 := Tryd.zeroValue3
  t4 := Tryd.underlying4
  a4 := Tryd.isAgg4
  z4 := Tryd.sizeOf4
  v4 := Tryd.zeroValue4
  t5 := Tryd.underlying5
  a5 := Tryd.isAgg5
  z5 := Tryd.sizeOf5
  v5 := Tryd.zeroValue5
  t21 := Tryd.underlying21
  a21 := Tryd.isAgg21
  z21 := Tryd.sizeOf21
  v21 := Tryd.zeroValue21
  t46 := Tryd.underlying148
  a46 := Tryd.isAgg148
  z46 := Tryd.sizeOf148
  v46 := Tryd.zeroValue148
  t49 := Tryd.underlying159
  a49 := Tryd.isAgg159
  z49 := Tryd.sizeOf159
  v49 := Tryd.zeroValue159
  t51 := Tryd.underlying140
  a51 := Tryd.isAgg140
  z51 := Tryd.sizeOf140
  v51 := Tryd.zeroValue140
  t119 := Tryd.underlying141
  a119 := Tryd.isAgg141
  z119 := Tryd.sizeOf141
  t141 := Tryd.underlying143
  a141 := Tryd.isAgg143
  z141 := Tryd.sizeOf143
  v141 := Tryd.zeroValue143
  t193 := Tryd.underlying155
  a193 := Tryd.isAgg155
  z193 := Tryd.sizeOf155
  v193 := Tryd.zeroValue155
  t194 := Tryd.underlying156
  a194 := Tryd.isAgg156
  z194 := Tryd.sizeOf156
  v194 := Tryd.zeroValue156
  t196 := Tryd.underlying158
  a196 := Tryd.isAgg158
  z196 := Tryd.sizeOf158
  v196 := Tryd.zeroValue158
  t198 := Tryd.underlying161
  a198 := Tryd.isAgg161
  z198 := Tryd.sizeOf161
  v198 := Tryd.zeroValue161
  t201 := Tryd.underlying164
  a201 := Tryd.isAgg164
  z201 := Tryd.sizeOf164
  v201 := Tryd.zeroValue164
  t226 := Tryd.underlying170
  a226 := Tryd.isAgg170
  z226 := Tryd.sizeOf170
  v226 := Tryd.zeroValue170
  t227 := Tryd.underlying171
  a227 := Tryd.isAgg171
  z227 := Tryd.sizeOf171
  v227 := Tryd.zeroValue171
  g7 := by kernel_rfl
  g8 := by kernel_rfl }
def Tryd.lays264_ren : Go.Shelf.Ren := ⟨fun | 264 => 158 | n => n, fun | 53 => 166 | 46 => 148 | n => n, fun | n => n⟩
theorem Tryd.lays264 : Go.Proofs.Lays.n264 Tryd.prog Tryd.lays264_ren := {
  mixed := by kernel_rfl
  f264 := Tryd.func158.trans (congrArg some (by kernel_rfl))
  t46 := Tryd.underlying148
  a46 := Tryd.isAgg148
  z46 := Tryd.sizeOf148
  v46 := Tryd.zeroValue148
  t53 := Tryd.underlying166
  a53 := Tryd.isAgg166
  z53 := Tryd.sizeOf166
  v53 := Tryd.zeroValue166 }
open Go.RowKit Go.Lib in
theorem Tryd.bits_Mul64 (x y : Nat) (hx : x < 18446744073709551616) (hy : y < 18446744073709551616) (w : World) :
    Calls Tryd.prog 158 #[.int .u64 x, .int .u64 y] w fun e w' => e = .returned (.tuple #[.int .u64 ((x * y / 18446744073709551616 : Nat) : Int), .int .u64 ((x * y % 18446744073709551616 : Nat) : Int)]) ∧ w' = w := Any.bits_Mul64 Tryd.lays264 x y hx hy w
open Go.RowKit Go.Lib in
/-- unicode.IsLetter(r) AT EVERY int32, the tables as their initialisers lay them: 'Lib.isLetterU r'. (LAID: no walk: one application.) -/
theorem Tryd.unicode_IsLetter_all (r : Int) (w : World) (hlo : -2147483648 ≤ r) (hhi : r ≤ 2147483647) (htab : Lib.TabIs Tryd.prog w "unicode.properties" .u8 Lib.propertiesTab) (hV : RVar 1 letterT w) :
    Calls Tryd.prog 102 #[.int .i32 r] w fun e w' => e = .returned (.bool (isLetterU r)) ∧ Below w.heap.size w w' := Any.unicode_IsLetter_all Tryd.lays200 (by kernel_rfl) r w hlo hhi htab hV
def Tryd.lays196_ren : Go.Shelf.Ren := ⟨fun | 196 => 104 | 259 => 132 | n => n, fun | 9 => 9 | 4 => 4 | 3 => 3 | 5 => 5 | 12 => 12 | 119 => 141 | 0 => 0 | 46 => 148 | 139 => 147 | 138 => 146 | 53 => 166 | n => n, fun | 3 => 2 | 4 => 3 | n => n⟩
theorem Tryd.lays196 : Go.Proofs.Lays.n196 Tryd.prog Tryd.lays196_ren := {
  mixed := by kernel_rfl
  f196 := Tryd.func104.trans (congrArg some (by kernel_rfl))
  f259 := Tryd.func132.trans (congrArg some (by kernel_rfl))
  t0 := Tryd.underlying0
  a0 := Tryd.isAgg0
  z0 := Tryd.sizeOf0
  v0 := Tryd.zeroValue0
  t3 := Tryd.underlying3
  a3 := Tryd.isAgg3
  z3 := Tryd.sizeOf3
  v3 := Tryd.zeroValue3
  t4 := Tryd.underlying4
  a4 := Tryd.isAgg4
  z4 := Tryd.sizeOf4
  v4 := Tryd.zeroValue4
  t5 := Tryd.underlying5
  a5 := Tryd.isAgg5
  z5 := Tryd.sizeOf5
  v5 := Tryd.zeroValue5
  t9 := Tryd.underlying9
  a9 := Tryd.isAgg9
  z9 := Tryd.sizeOf9
  v9 := Tryd.zeroValue9
  t12 := Tryd.underlying12
  a12 := Tryd.isAgg12
  z12 := Tryd.sizeOf12
  v12 := Tryd.zeroValue12
  t46 := Tryd.underlying148
  a46 := Tryd.isAgg148
  z46 := Tryd.sizeOf148
  v46 := Tryd.zeroValue148
  t53 := Tryd.underlying166
  a53 := Tryd.isAgg166
  z53 := Tryd.sizeOf166
  v53 := Tryd.zeroValue166
  t119 := Tryd.underlying141
  a119 := Tryd.isAgg141
  z119 := Tryd.sizeOf141
  t138 := Tryd.underlying146
  a138 := Tryd.isAgg146
  z138 := Tryd.sizeOf146
  v138 := Tryd.zeroValue146
  t139 := Tryd.underlying147
  a139 := Tryd.isAgg147
  z139 := Tryd.sizeOf147
  v139 := Tryd.zeroValue147
  g3 := by kernel_rfl
  g4 := by kernel_rfl }
open Go.RowKit Go.Lib in
theorem Tryd.utf8_ValidString (s : ByteArray) (w : World) (hs : s.size ≤ 9223372036854775807) (hT : Lib.Utf8Tabs 2 3 w) :
    Calls Tryd.prog 104 #[.string s] w fun e w' => e = .returned (.bool (Lib.validD s.data.toList)) ∧ Below w.heap.size w w' := Any.utf8_ValidString Tryd.lays196 s w hs hT
end Go.Proofs
/- Walks: names: name.digit, name.Good, the reference's Len, GoodName. -/
namespace Go.Proofs.YtnnmakkbnfckmaaDoor
open Go.RowKit

/-- Go's own tables, as the rows list them. -/
def Tabs (w : World) : Prop := Lib.Utf8Tabs 2 3 w ∧ Lib.TabIs Tryd.prog w "unicode.properties" .u8 Lib.propertiesTab ∧ Lib.RVar 1 Lib.letterT w
theorem Tabs.u8 {w : World} (h : Tabs w) : Lib.Utf8Tabs 2 3 w := h.1
theorem Tabs.ext {w w' : World} (h : Tabs w) (hx : Ext w w') : Tabs w' :=
  ⟨Utf8Tabs_below h.1 hx, TabIs_below (g := 0) (by kernel_rfl) h.2.1 hx, RVar_below h.2.2 hx⟩

theorem Ext.iterAt {w wr : World} (h : Ext w wr) {k : Nat} (hk : w.heap.size ≤ k) (s : ByteArray) (p : Nat) : Ext w (wr.iterAt k s p) :=
  Below.trans h ⟨rfl, rfl, rfl, by simp [World.iterAt], fun i hi => by simp only [World.iterAt]; rw [Array.getElem?_setIfInBounds_ne (by omega)]⟩
theorem iter_ext {w w' : World} (h : Ext w w') {k : Nat} {s : ByteArray} {p : Nat} (hk : w.heap[k]? = some (.stringIter s p)) : w'.heap[k]? = some (.stringIter s p) := by
  rw [h.block k (Array.getElem?_eq_some_iff.1 hk).1]; exact hk
theorem width_pos (s : ByteArray) (pos : Nat) : 1 ≤ (Utf8.decode s pos).2 := by
  simp only [Utf8.decode]
  repeat' split
  all_goals simp

theorem lenGo_le (s : ByteArray) : ∀ (f pos : Nat), s.size - pos < f → lenGo s f pos ≤ s.size - pos := by
  intro f
  induction f with
  | zero => intro pos h; omega
  | succ f ih =>
    intro pos h
    simp only [lenGo]
    split
    · have hw := width_pos s pos
      have := ih (pos + (Utf8.decode s pos).2) (by omega)
      omega
    · omega
theorem lenR_le {s : ByteArray} {B : Nat} (h : s.size ≤ B) : lenR s ≤ B := by
  have := lenGo_le s (s.size + 1) 0 (by omega)
  unfold lenR; omega
set_option maxRecDepth 100000 in
theorem letter_65533 : Lib.isLetterU 65533 = false := by decide +kernel
theorem letter_any (r : Int) (w : World) (hT : Tabs w) (hlo : 0 ≤ r) (hhi : r ≤ 2147483647) :
    Calls Tryd.prog 102 #[.int .i32 r] w fun e w' => e = .returned (.bool (Lib.isLetterU r)) ∧ Ext w w' :=
  Tryd.unicode_IsLetter_all r w (by omega) hhi hT.2.1 hT.2.2

theorem digit_any (r : Int) (w : World) : Calls Tryd.prog 103 #[.int .i32 r] w fun e w' => e = .returned (.bool (digitB r)) ∧ w = w' := by
  unfold digitB
  by_cases h1 : 48 ≤ r
  · go_enter Tryd.func103, Tryd.ntmps103
    go_wp2
    go_ret
    exact ⟨by simp [h1], rfl⟩
  · go_enter Tryd.func103, Tryd.ntmps103
    go_wp2
    go_ret
    exact ⟨by simp; omega, rfl⟩

set_option maxRecDepth 100000 in
set_option maxHeartbeats 4000000 in
theorem name_good (s : ByteArray) (w : World) (hs : s.size ≤ bigS) (hT : Tabs w) :
    Calls Tryd.prog 63 #[.string s] w fun e w' => e = .returned (.bool (goodName s)) ∧ Ext w w' := by
  unfold bigS at hs
  obtain ⟨ANS, hA⟩ : ∃ ANS, goodName s = ANS := ⟨_, rfl⟩
  rw [hA]
  unfold goodName at hA
  have HA := Lib.hid hA
  clear hA
  go_enter Tryd.func63, Tryd.ntmps63
  go_wp2
  go_loopg [3] (s.size + 1) (fun gk v3 wr => ∃ pos n : Nat, v3 = .int .i64 n ∧ nameGo s gk pos n = ANS ∧ s.size - pos < gk ∧ n ≤ pos ∧ wr.heap[w.heap.size]? = some (.stringIter s pos) ∧ Ext w wr)
  case atStart => exact ⟨0, 0, rfl, HA.out, by omega, Nat.le_refl _, World.iter_heap _ _ _, Ext.new _ _⟩
  case round =>
    obtain ⟨pos, n, rfl, hgo, hgk, hn, hit, hx⟩ := hrel
    obtain ⟨f, rfl⟩ : ∃ f, gk = f + 1 := ⟨gk - 1, by omega⟩
    simp only [nameGo] at hgo
    by_cases hlt : pos < s.size
    · rw [if_pos hlt] at hgo
      have hnx := fun ty => Lib.run_next_any_at (P := Tryd.prog) wr w.heap.size s pos ty hit hlt
      have hwd := width_pos s pos
      have hle := decode_le s pos
      have hit2 := Lib.iterAt_heap wr w.heap.size s pos (pos + (Utf8.decode s pos).2) hit
      have hx2 := hx.iterAt (Nat.le_refl _) s (pos + (Utf8.decode s pos).2)
      generalize Utf8.decode s pos = d at *
      obtain ⟨c, wd⟩ := d
      simp only at hnx hwd hle hgo hit2 hx2
      have HG := Lib.hid hgo
      have HI := Lib.hid hit2
      clear hgo hit hx HA hit2
      generalize wr.iterAt w.heap.size s (pos + wd) = w2 at *
      go_wp2_with (first
        | (go_at_call 102; go_must (with_reducible refine (letter_any _ _ (hT.ext hx2) (by omega) (by omega)).mono ?_); rintro e w3 ⟨rfl, hb⟩; have HB := Lib.hid hb; clear hb)
        | (go_at_call 103; go_must (with_reducible refine (digit_any _ _).mono ?_); rintro e w4 ⟨rfl, rfl⟩))
      all_goals first
        | (go_roundg f
           case measure => omega
           case rel => exact ⟨pos + wd, n + 1, by go_num, by have hg := HG.out; rw [if_neg (by unfold badRune; simp_all)] at hg; exact hg, by omega, by omega, iter_ext HB.out HI.out, hx2.trans HB.out⟩)
        | (go_ret; exact ⟨by have hg := HG.out; rw [if_pos (by unfold badRune; simp_all)] at hg; rw [← hg]; rfl, hx2.trans HB.out⟩)
    · rw [if_neg hlt] at hgo
      have hnx := fun ty => Lib.run_next_end_at (P := Tryd.prog) wr w.heap.size s pos ty hit hlt
      have HG := Lib.hid hgo
      clear hgo hit HA
      go_wp2_with (go_at_call 104; go_must (with_reducible refine (Tryd.utf8_ValidString s _ hs (hT.ext hx).u8).mono ?_); rintro e w3 ⟨rfl, hb⟩; have HB := Lib.hid hb; clear hb)
      · go_ret
        exact ⟨by rw [← HG.out]; have h1 : 1 ≤ n := by omega
                  have h2 : n ≤ 20 := by omega
                  simp [h1, h2], hx.trans HB.out⟩
      · go_ret
        exact ⟨by rw [← HG.out]; have h2 : ¬ n ≤ 20 := by omega
                  simp [h2], hx⟩
      · go_ret
        exact ⟨by rw [← HG.out]; have h2 : ¬ 1 ≤ n := by omega
                  simp [h2], hx⟩

theorem NameC.of {w : World} (hT : Tabs w) : NameC w := fun s W hs hx => name_good s W hs (hT.ext hx)

set_option maxRecDepth 100000 in
set_option maxHeartbeats 4000000 in
theorem len_any (s : ByteArray) (w : World) (hs : s.size ≤ bigS) :
    Calls Tryd.prog 105 #[.string s] w fun e w' => e = .returned (.int .i64 (lenR s)) ∧ Ext w w' := by
  unfold bigS at hs
  obtain ⟨ANS, hA⟩ : ∃ ANS, lenR s = ANS := ⟨_, rfl⟩
  rw [hA]
  unfold lenR at hA
  have HA := Lib.hid hA
  clear hA
  go_enter Tryd.func105, Tryd.ntmps105
  go_wp2
  go_loopg [3] (s.size + 1) (fun gk v3 wr => ∃ pos n : Nat, v3 = .int .i64 n ∧ lenGo s gk pos + n = ANS ∧ s.size - pos < gk ∧ n ≤ pos ∧ wr.heap[w.heap.size]? = some (.stringIter s pos) ∧ Ext w wr)
  case atStart => exact ⟨0, 0, rfl, HA.out, by omega, Nat.le_refl _, World.iter_heap _ _ _, Ext.new _ _⟩
  case round =>
    obtain ⟨pos, n, rfl, hgo, hgk, hn, hit, hx⟩ := hrel
    obtain ⟨f, rfl⟩ : ∃ f, gk = f + 1 := ⟨gk - 1, by omega⟩
    simp only [lenGo] at hgo
    by_cases hlt : pos < s.size
    · rw [if_pos hlt] at hgo
      have hnx := fun ty => Lib.run_next_any_at (P := Tryd.prog) wr w.heap.size s pos ty hit hlt
      have hwd := width_pos s pos
      have hit2 := Lib.iterAt_heap wr w.heap.size s pos (pos + (Utf8.decode s pos).2) hit
      have hx2 := hx.iterAt (Nat.le_refl _) s (pos + (Utf8.decode s pos).2)
      generalize Utf8.decode s pos = d at *
      obtain ⟨c, wd⟩ := d
      simp only at hnx hwd hgo hit2 hx2
      have HG := Lib.hid hgo
      have HI := Lib.hid hit2
      clear hgo hit hx HA hit2
      generalize wr.iterAt w.heap.size s (pos + wd) = w2 at *
      go_wp2
      go_roundg f
      case measure => omega
      case rel => exact ⟨pos + wd, n + 1, by go_num, by have := HG.out; omega, by omega, by omega, HI.out, hx2⟩
    · rw [if_neg hlt] at hgo
      have hnx := fun ty => Lib.run_next_end_at (P := Tryd.prog) wr w.heap.size s pos ty hit hlt
      have HG := Lib.hid hgo
      clear hgo hit HA
      go_wp2
      go_ret
      exact ⟨by rw [← HG.out]; simp, hx⟩

set_option maxRecDepth 100000 in
set_option maxHeartbeats 4000000 in
theorem refName_any (s : ByteArray) (w : World) (hs : s.size ≤ bigS) (hT : Tabs w) :
    Calls Tryd.prog 64 #[.string s] w fun e w' => e = .returned (.bool (refName s)) ∧ Ext w w' := by
  obtain ⟨ANS, hA⟩ : ∃ ANS, refName s = ANS := ⟨_, rfl⟩
  rw [hA]
  unfold refName at hA
  have hlb : lenR s ≤ bigS := lenR_le hs
  have HL := Lib.hid (len_any s w hs)
  unfold bigS at hs hlb
  have HA := Lib.hid hA
  clear hA
  go_enter Tryd.func64, Tryd.ntmps64
  go_wp2_with (go_at_call 105; go_must (with_reducible refine HL.out.mono ?_); rintro e w1 ⟨rfl, hb⟩)
  · go_ret
    exact ⟨by have := HA.out; rw [if_pos (by omega)] at this; rw [← this]; rfl, hb⟩
  · have hgo := HA.out
    rw [if_neg (by omega)] at hgo
    have HZ := Lib.hid hb.size
    have HB := Lib.hid hb
    clear HA hb
    go_loopg [4, 5] (s.size + 1) (fun gk v4 v5 wr => ∃ pos : Nat, refGo s gk pos = ANS ∧ s.size - pos < gk ∧ wr.heap[w1.heap.size]? = some (.stringIter s pos) ∧ Ext w1 wr)
    case atStart => exact ⟨0, hgo, by omega, World.iter_heap _ _ _, Ext.new _ _⟩
    case round =>
      obtain ⟨pos, hgo, hgk, hit, hx⟩ := hrel
      obtain ⟨f, rfl⟩ : ∃ f, gk = f + 1 := ⟨gk - 1, by omega⟩
      simp only [refGo] at hgo
      by_cases hlt : pos < s.size
      · rw [if_pos hlt] at hgo
        have hnx := fun ty => Lib.run_next_any_at (P := Tryd.prog) wr w1.heap.size s pos ty hit hlt
        have hwd := width_pos s pos
        have hle := decode_le s pos
        have hit2 := Lib.iterAt_heap wr w1.heap.size s pos (pos + (Utf8.decode s pos).2) hit
        have hx2 := hx.iterAt (Nat.le_refl _) s (pos + (Utf8.decode s pos).2)
        have hg1 : s[pos] = s.get! pos := (get_at s pos hlt).symm
        generalize Utf8.decode s pos = d at *
        obtain ⟨c, wd⟩ := d
        simp only at hnx hwd hle hgo hit2 hx2
        have HG := Lib.hid hgo
        have HI := Lib.hid hit2
        have HT := Lib.hid (hT.ext HB.out)
        clear hgo hit hx hit2 hT
        generalize wr.iterAt w1.heap.size s (pos + wd) = w2 at *
        by_cases hce : c = 65533
        · subst hce
          have hl := letter_65533
          go_wp2_with (first
            | (go_at_call 102; (with_reducible refine (letter_any 65533 w2 (HT.out.ext hx2) (by omega) (by omega)).mono ?_); rintro e w3 ⟨rfl, hb⟩; have HB3 := Lib.hid hb; clear hb)
            | (go_at_call 102; go_must (with_reducible refine (letter_any 65533 _ (HT.out.ext (hx2.trans HB3.out)) (by omega) (by omega)).mono ?_); rintro e w4 ⟨rfl, hb⟩; have HB4 := Lib.hid hb; clear hb))
          all_goals first
            | (go_roundg f
               case measure => omega
               case rel => exact ⟨pos + wd, by have hg := HG.out; clear HG; revert hg; clear hnx; intro hg; rw [if_neg (by grind)] at hg; exact hg, by omega, by first | exact HI.out | exact iter_ext HB3.out HI.out | exact iter_ext HB4.out (iter_ext HB3.out HI.out), by first | exact hx2 | exact hx2.trans HB3.out | exact (hx2.trans HB3.out).trans HB4.out⟩)
            | (go_ret; exact ⟨by have hg := HG.out; clear HG hnx; rw [if_pos (by grind)] at hg; rw [← hg]; rfl, HB.out.trans (by first | exact hx2 | exact hx2.trans HB3.out | exact (hx2.trans HB3.out).trans HB4.out)⟩)
        · have hce2 : ((c : Int) == 65533) = false := by simp; omega
          have hce3 : ¬ (c : Int) = 65533 := by omega
          go_wp2_with (first
            | (go_at_call 102; (with_reducible refine (letter_any (c : Int) w2 (HT.out.ext hx2) (by omega) (by omega)).mono ?_); rintro e w3 ⟨rfl, hb⟩; have HB3 := Lib.hid hb; clear hb)
            | (go_at_call 102; go_must (with_reducible refine (letter_any (c : Int) _ (HT.out.ext (hx2.trans HB3.out)) (by omega) (by omega)).mono ?_); rintro e w4 ⟨rfl, hb⟩; have HB4 := Lib.hid hb; clear hb))
          all_goals first
            | (go_roundg f
               case measure => omega
               case rel => exact ⟨pos + wd, by have hg := HG.out; clear HG; revert hg; clear hnx; intro hg; rw [if_neg (by grind)] at hg; exact hg, by omega, by first | exact HI.out | exact iter_ext HB3.out HI.out | exact iter_ext HB4.out (iter_ext HB3.out HI.out), by first | exact hx2 | exact hx2.trans HB3.out | exact (hx2.trans HB3.out).trans HB4.out⟩)
            | (go_ret; exact ⟨by have hg := HG.out; clear HG hnx; rw [if_pos (by grind)] at hg; rw [← hg]; rfl, HB.out.trans (by first | exact hx2 | exact hx2.trans HB3.out | exact (hx2.trans HB3.out).trans HB4.out)⟩)
      · rw [if_neg hlt] at hgo
        have hnx := fun ty => Lib.run_next_end_at (P := Tryd.prog) wr w1.heap.size s pos ty hit hlt
        have HG := Lib.hid hgo
        clear hgo hit
        go_wp2
        go_ret
        exact ⟨by rw [← HG.out]; rfl, HB.out.trans hx⟩
  · go_ret
    exact ⟨by have := HA.out; rw [if_pos (by omega)] at this; rw [← this]; rfl, hb⟩

end Go.Proofs.YtnnmakkbnfckmaaDoor
/- Plain laws: the program's names are the reference's. -/
namespace Go.Proofs.YtnnmakkbnfckmaaDoor

theorem get_drop (s : ByteArray) (i k : Nat) : (⟨(s.data.toList.drop i).toArray⟩ : ByteArray).get! k = s.get! (i + k) := by
  simp [ByteArray.get!, getElem!_def]
theorem decode_drop (s : ByteArray) (i : Nat) : Utf8.decode s i = Lib.decodeL (s.data.toList.drop i) := by
  have hs : (⟨(s.data.toList.drop i).toArray⟩ : ByteArray).size = s.size - i := by
    show (List.drop i s.data.toList).toArray.size = s.data.size - i
    simp
  unfold Lib.decodeL
  rw [Lib.decode_at, Lib.decode_at, hs]
  simp only [get_drop, Nat.zero_add, Nat.sub_zero, Nat.add_zero]

set_option maxRecDepth 100000 in
theorem letter_65533' : Lib.isLetterU 65533 = false := by decide +kernel
theorem width_pos' (s : ByteArray) (pos : Nat) : 1 ≤ (Utf8.decode s pos).2 := by rw [decode_drop]; exact Lib.decodeL_width _

def refBad (s : ByteArray) (pos : Nat) : Bool :=
  (pos == 0 && !Lib.isLetterU ((Utf8.decode s pos).1 : Int)) || (((Utf8.decode s pos).1 : Int) == 65533 && (s.get! pos).toNat != 239) || (((Utf8.decode s pos).1 : Int) != 95 && (decide (((Utf8.decode s pos).1 : Int) < 48) || decide (57 < ((Utf8.decode s pos).1 : Int))) && !Lib.isLetterU ((Utf8.decode s pos).1 : Int))

set_option maxRecDepth 100000 in
theorem refBad_eq (s : ByteArray) (pos n : Nat) (h : n = 0 ↔ pos = 0) : refBad s pos = badRune n ((Utf8.decode s pos).1 : Int) := by
  unfold refBad badRune digitB
  have h5 := letter_65533'
  have h0 : (n == 0) = (pos == 0) := by rw [Bool.eq_iff_iff]; simp [h]
  rw [h0]
  generalize ((Utf8.decode s pos).1 : Int) = c at *
  by_cases hc : c = 65533
  · subst hc; simp [h5]
  · have : (c == 65533) = false := by simp [hc]
    rw [this]
    by_cases hl : Lib.isLetterU c = true
    · simp [hl]
    · have hl' : Lib.isLetterU c = false := by simpa using hl
      rw [hl']
      by_cases h1 : c = 95 <;> by_cases h2 : c < 48 <;> by_cases h3 : 57 < c <;> simp [h1, h2, h3] <;> grind

theorem nameGo_eq (s : ByteArray) : ∀ (f pos n : Nat), s.size - pos < f → (n = 0 ↔ pos = 0) →
    nameGo s f pos n = (refGo s f pos && (decide (1 ≤ n + lenGo s f pos) && (decide (n + lenGo s f pos ≤ 20) && Lib.validD s.data.toList))) := by
  intro f
  induction f with
  | zero => intro pos n h; omega
  | succ f ih =>
    intro pos n h hn
    have hw := width_pos' s pos
    have hb := refBad_eq s pos n hn
    unfold refBad at hb
    simp only [nameGo, refGo, lenGo]
    by_cases hlt : pos < s.size
    · simp only [if_pos hlt]
      rw [hb]
      by_cases hbad : badRune n ((Utf8.decode s pos).1 : Int) = true
      · simp [hbad]
      · rw [if_neg hbad, if_neg hbad, ih _ _ (by omega) (by omega)]
        rw [show n + 1 + lenGo s f (pos + (Utf8.decode s pos).2) = n + (lenGo s f (pos + (Utf8.decode s pos).2) + 1) by omega]
    · simp [if_neg hlt]

set_option maxRecDepth 100000 in
theorem refGo_valid (s : ByteArray) : ∀ (f pos : Nat), s.size - pos < f → refGo s f pos = true → ∀ k, Lib.validGoD k (s.data.toList.drop pos) = true := by
  intro f
  induction f with
  | zero => intro pos h; omega
  | succ f ih =>
    intro pos h hr k
    have hw := width_pos' s pos
    simp only [refGo] at hr
    cases k with
    | zero => rfl
    | succ k =>
      simp only [Lib.validGoD]
      by_cases hlt : pos < s.size
      · rw [if_pos hlt] at hr
        have hb := refBad_eq s pos pos Iff.rfl
        unfold refBad at hb
        rw [hb] at hr
        by_cases hbad : badRune pos ((Utf8.decode s pos).1 : Int) = true
        · simp [hbad] at hr
        · rw [if_neg hbad] at hr
          have hne : ¬ s.data.toList.drop pos = [] := by
            intro h0
            have := congrArg List.length h0
            have hl' : pos < s.data.size := hlt
            rw [List.length_drop, Array.length_toList, List.length_nil] at this
            omega
          rw [if_neg hne, ← decode_drop]
          have h5 : ¬ ((Utf8.decode s pos).1 = 65533 ∧ (Utf8.decode s pos).2 = 1) := by
            rintro ⟨h5, _⟩
            rw [h5] at hbad
            apply hbad
            unfold badRune digitB
            have : Lib.isLetterU ((65533 : Nat) : Int) = false := letter_65533'
            rw [this]; simp
          rw [if_neg h5, List.drop_drop]
          exact ih _ (by omega) hr k
      · have : s.data.toList.drop pos = [] := by
          apply List.drop_eq_nil_of_le
          have hl' : ¬ pos < s.data.size := hlt
          rw [Array.length_toList]
          omega
        rw [if_pos this]

theorem refName_eq (s : ByteArray) : refName s = goodName s := by
  unfold refName goodName
  rw [nameGo_eq s _ 0 0 (by omega) Iff.rfl]
  simp only [Nat.zero_add]
  rw [show lenGo s (s.size + 1) 0 = lenR s from rfl]
  by_cases hr : refGo s (s.size + 1) 0 = true
  · have hv : Lib.validD s.data.toList = true := by
      have := refGo_valid s (s.size + 1) 0 (by omega) hr s.data.toList.length
      simpa [Lib.validD] using this
    rw [hr, hv]
    by_cases h1 : lenR s < 1 <;> by_cases h2 : 20 < lenR s
    all_goals simp [h1, h2]
    all_goals omega
  · have hr' : refGo s (s.size + 1) 0 = false := by simpa using hr
    rw [hr']
    simp
end Go.Proofs.YtnnmakkbnfckmaaDoor
/- Walks: chapter 8's own answer: Good, All, Charge, Work, End. -/
namespace Go.Proofs.YtnnmakkbnfckmaaDoor
open Go.RowKit

theorem goodB_all (j : J) : goodB j = (goodName j.name && (decide (0 ≤ j.rel) && (decide (j.rel < j.dl) && (decide (j.dl ≤ 10000) && (decide (1 ≤ j.bud) && (decide (j.bud ≤ 1000) && (decide (1 ≤ j.act) && (decide (j.act ≤ 1000) && (decide (0 ≤ j.val) && (decide (j.val ≤ 1000000) && (decide (0 ≤ j.cln) && decide (j.cln ≤ 100)))))))))))) := by
  unfold goodB timesB worksB inB
  rw [Bool.eq_iff_iff]
  simp only [Bool.and_eq_true, decide_eq_true_eq]
  constructor
  · rintro ⟨h0, h1, h2, h3⟩; simp [h0]; omega
  · rintro ⟨h0, h1⟩; simp [h0]; omega

set_option maxRecDepth 100000 in
set_option maxHeartbeats 4000000 in
theorem refGood_any (j : J) (w : World) (hT : Tabs w) (hs : j.ok) :
    Calls Tryd.prog 16 #[j.agg] w fun e w' => e = .returned (.bool (goodB j)) ∧ Ext w w' := by
  have HC := Lib.hid (refName_any j.name (w.alloc (.cells #[.string j.name, .int .i64 j.rel, .int .i64 j.dl, .int .i64 j.bud, .int .i64 j.act, .int .i64 j.val, .int .i64 j.cln, .bool j.hard] 27)) hs (hT.ext (Ext.new _ _)))
  rw [refName_eq] at HC
  obtain ⟨ANS, hA⟩ : ∃ ANS, goodB j = ANS := ⟨_, rfl⟩
  rw [hA]
  rw [goodB_all] at hA
  have HA := Lib.hid hA
  clear hA hT hs
  obtain ⟨N, hN⟩ : ∃ N, goodName j.name = N := ⟨_, rfl⟩
  rw [hN] at HC HA
  clear hN
  go_enter Tryd.func16, Tryd.ntmps16
  go_wp2_with (go_at_call 64; go_must (with_reducible refine HC.out.mono ?_); rintro e w1 ⟨rfl, hb⟩; obtain ⟨hc, hf⟩ := bcell hb)
  all_goals (clear hc hf HC)
  all_goals (go_ret; exact ⟨by rw [← HA.out]; simp_all <;> omega, (Ext.new _ _).trans hb⟩)

set_option maxRecDepth 100000 in
set_option maxHeartbeats 4000000 in
theorem refAll_any (l : List J) (a : Option Addr) (cap : Nat) (w : World) (hm : l.length ≤ bigS) (hT : Tabs w) (hs : ∀ j ∈ l, j.ok) (hr : JRow w a l) :
    Calls Tryd.prog 18 #[.slice a l.length cap] w fun e w' => e = .returned (.bool (allB l)) ∧ Ext w w' := by
  unfold bigS at hm
  go_enter Tryd.func18, Tryd.ntmps18
  go_wp2
  go_loopw [3] (fun v3 wr => ∃ k : Nat, k ≤ l.length ∧ v3 = .int .i64 k ∧ Ext w wr ∧ ∀ i (hi : i < l.length), i < k → goodB l[i] = true) (fun v3 _ => l.length - (intOf v3).toNat)
  case atStart => exact ⟨0, Nat.zero_le _, rfl, Ext.refl _, fun i _ hi => by omega⟩
  case round =>
    obtain ⟨k, hk, rfl, hx, hno⟩ := hrel
    have HN := Lib.hid hno
    clear hno
    by_cases hlt : k < l.length
    · obtain ⟨b, off, rfl, hb, hcs⟩ := (hr.ext hx) k hlt
      obtain ⟨c0, c1, c2, c3, c4, c5, c6, c7⟩ := hcs
      have HP := Lib.hid (refGood_any l[k] wr (hT.ext hx) (hs _ (List.getElem_mem hlt)))
      clear hr hs hT
      go_wp2_with (go_at_call 16; go_must (with_reducible refine HP.out.mono ?_); rintro e w1 ⟨rfl, hb1⟩)
      · have hpk : goodB l[k] = false := by simp_all
        go_ret
        refine ⟨?_, hx.trans hb1⟩
        have : allB l = false := by
          unfold allB
          rw [Bool.and_eq_false_iff]
          exact .inr (List.all_eq_false.2 ⟨_, List.getElem_mem hlt, by simp [hpk]⟩)
        rw [this]; rfl
      · have hpk : goodB l[k] = true := by simp_all
        go_roundw
        case rel => exact ⟨k + 1, hlt, by go_num, hx.trans hb1, fun i hi hik => by
          rcases Nat.lt_succ_iff_lt_or_eq.1 hik with h | rfl
          · exact HN.out i hi h
          · exact hpk⟩
        case measure => simp [intOf]; omega
    · clear hr hs hT
      go_wp2
      go_ret
      refine ⟨?_, hx⟩
      have : l.all goodB = true := by
        rw [List.all_eq_true]
        intro x hx
        obtain ⟨i, hi, rfl⟩ := List.getElem_of_mem hx
        exact HN.out i hi (by omega)
      simp [allB, this]; omega

set_option maxRecDepth 100000 in
set_option maxHeartbeats 2000000 in
theorem refCharge_any (j : J) (w : World) (hT : Tabs w) (hs : j.ok) :
    Calls Tryd.prog 20 #[j.agg] w fun e w' => e = .returned (.int .i64 (chargeJ j)) ∧ Ext w w' := by
  have hg : goodB j = true → 1 ≤ j.bud ∧ j.bud ≤ 1000 ∧ 0 ≤ j.cln ∧ j.cln ≤ 100 := by
    unfold goodB worksB inB; simp; omega
  go_enter Tryd.func20, Tryd.ntmps20
  go_wp2_with (go_at_call 16; go_must (with_reducible refine (refGood_any j _ (hT.ext (Ext.new _ _)) hs).mono ?_); rintro e w1 ⟨rfl, hb⟩; obtain ⟨hc, hf⟩ := bcell hb)
  · go_ret
    exact ⟨by simp_all [chargeJ], (Ext.new _ _).trans hb⟩
  · go_ret
    refine ⟨?_, (Ext.new _ _).trans hb⟩
    have hgd : goodB j = true := by simp_all
    have := hg hgd
    rw [show wrap64 (j.bud + j.cln) = j.bud + j.cln by unfold wrap64; omega]
    simp [chargeJ, hgd]

set_option maxRecDepth 100000 in
set_option maxHeartbeats 2000000 in
theorem refWork_any (j : J) (w : World) (hT : Tabs w) (hs : j.ok) :
    Calls Tryd.prog 22 #[j.agg] w fun e w' => e = .returned (.int .i64 (workJ j)) ∧ Ext w w' := by
  have hg : goodB j = true → 1 ≤ j.bud ∧ j.bud ≤ 1000 ∧ 0 ≤ j.cln ∧ j.cln ≤ 100 := by
    unfold goodB worksB inB; simp; omega
  go_enter Tryd.func22, Tryd.ntmps22
  go_wp2_with (go_at_call 16; go_must (with_reducible refine (refGood_any j _ (hT.ext (Ext.new _ _)) hs).mono ?_); rintro e w1 ⟨rfl, hb⟩; obtain ⟨hc, hf⟩ := bcell hb)
  · go_ret
    exact ⟨by simp_all [workJ], (Ext.new _ _).trans hb⟩
  · go_ret
    refine ⟨?_, (Ext.new _ _).trans hb⟩
    have hgd : goodB j = true := by simp_all
    have hrn : runsB j = false := by simp [runsB]; omega
    have := hg hgd
    rw [show wrap64 (j.bud + j.cln) = j.bud + j.cln by unfold wrap64; omega]
    simp [workJ, hgd, hrn]
  · go_ret
    have hgd : goodB j = true := by simp_all
    have hrn : runsB j = true := by simp [runsB]; omega
    exact ⟨by simp [workJ, hgd, hrn], (Ext.new _ _).trans hb⟩

set_option maxRecDepth 100000 in
set_option maxHeartbeats 4000000 in
theorem refEnd_any (l : List J) (a : Option Addr) (cap : Nat) (w : World) (hm : l.length ≤ bigS) (hT : Tabs w) (hs : ∀ j ∈ l, j.ok) (hr : JRow w a l) :
    Calls Tryd.prog 25 #[.slice a l.length cap] w fun e w' => e = .returned (.int .i64 (endJ l)) ∧ Ext w w' := by
  have HC := Lib.hid (fun W (hx : Ext w W) => refAll_any l a cap W hm (hT.ext hx) hs (hr.ext hx))
  clear hs hT
  unfold bigS at hm
  go_enter Tryd.func25, Tryd.ntmps25
  go_wp2
  go_loopw [3, 4] (fun v3 v4 wr => ∃ k : Nat, k ≤ l.length ∧ v4 = .int .i64 k ∧ v3 = .int .i64 (maxDl 0 (l.take k)) ∧ Ext w wr ∧ (0 < k → allB l = true)) (fun _ v4 _ => l.length - (intOf v4).toNat)
  case atStart => exact ⟨0, Nat.zero_le _, rfl, rfl, Ext.refl _, fun h => by omega⟩
  case round =>
    obtain ⟨k, hk, rfl, rfl, hx, hal⟩ := hrel
    have HAL := Lib.hid hal
    have HX := Lib.hid hx
    clear hal
    by_cases hlt : k < l.length
    · have HC1 := Lib.hid (HC.out wr hx)
      have hr1 := hr.ext hx
      clear hr HC
      obtain ⟨b, off, rfl, hb, hcs⟩ := hr1 k hlt
      have HCS := Lib.hid hcs
      clear hr1 hcs hx
      have HM := Lib.hid (maxDl_snoc 0 (l.take k) l[k])
      have HT := Lib.hid (take_snoc l k hlt)
      obtain ⟨m, hmm⟩ : ∃ m, maxDl 0 (l.take k) = m := ⟨_, rfl⟩
      rw [hmm]
      have HMM := Lib.hid hmm
      clear hmm
      go_wp2_with (go_at_call 18; go_must (with_reducible refine HC1.out.mono ?_); rintro e w1 ⟨rfl, hb1⟩; obtain ⟨c0, c1, c2, c3, c4, c5, c6, c7⟩ := HCS.out.ext hb1 hb)
      · have hal : allB l = true := by assumption
        go_roundw
        case rel => exact ⟨k + 1, hlt, by go_num, by rw [HT.out, HM.out, HMM.out]; congr 1; omega, HX.out.trans hb1, fun _ => hal⟩
        case measure => simp [intOf]; omega
      · have hal : allB l = true := by assumption
        go_roundw
        case rel => exact ⟨k + 1, hlt, by go_num, by rw [HT.out, HM.out, HMM.out]; congr 1; omega, HX.out.trans hb1, fun _ => hal⟩
        case measure => simp [intOf]; omega
      · have hal : allB l = false := by assumption
        go_ret
        refine ⟨?_, HX.out.trans hb1⟩
        have hk0 : k = 0 := by
          rcases Nat.eq_zero_or_pos k with h | h
          · exact h
          · have := HAL.out h; rw [hal] at this; cases this
        have : m = 0 := by rw [← HMM.out, hk0]; rfl
        rw [this]
        simp [endJ, hal]
    · clear hr HC
      go_wp2
      go_ret
      refine ⟨?_, HX.out⟩
      have hkl : k = l.length := by omega
      have hal : allB l = true := by
        rcases Nat.eq_zero_or_pos k with h | h
        · have : l = [] := List.length_eq_zero_iff.1 (by omega)
          rw [this]; rfl
        · exact HAL.out h
      simp [endJ, hal, hkl, List.take_length]
end Go.Proofs.YtnnmakkbnfckmaaDoor
/- Words for arrays that are written in place, for what a call may have turned, and for a region that draws, in all worlds behind one. -/
namespace Go.Proofs.YtnnmakkbnfckmaaDoor
open Go.RowKit

/-- All but the blocks on the list S lies there as it did. -/
structure Kp (S : List Nat) (w w' : World) : Prop where
  os : w'.os = w.os
  tape : w'.tape = w.tape
  output : w'.output = w.output
  size : w.heap.size ≤ w'.heap.size
  block : ∀ k, k < w.heap.size → k ∉ S → w'.heap[k]? = w.heap[k]?
theorem Kp.refl (S : List Nat) (w : World) : Kp S w w := ⟨rfl, rfl, rfl, Nat.le_refl _, fun _ _ _ => rfl⟩
theorem Kp.trans {S : List Nat} {a b c : World} (h : Kp S a b) (k : Kp S b c) : Kp S a c :=
  ⟨k.os.trans h.os, k.tape.trans h.tape, k.output.trans h.output, Nat.le_trans h.size k.size, fun i hi hn => (k.block i (Nat.lt_of_lt_of_le hi h.size) hn).trans (h.block i hi hn)⟩
theorem Ext.kp {w w' : World} (h : Ext w w') (S : List Nat) : Kp S w w' := ⟨h.os, h.tape, h.output, h.size, fun k hk _ => h.block k hk⟩
theorem Kp.ext {S : List Nat} {a b c : World} (h : Kp S a b) (k : Ext b c) : Kp S a c := h.trans (k.kp S)
theorem Kp.drew {S : List Nat} {a b : World} (h : Kp S a b) : Kp S a b.drew := ⟨h.os, h.tape, h.output, h.size, h.block⟩
theorem Kp.drewN {S : List Nat} {a b : World} (h : Kp S a b) (n : Nat) : Kp S a (b.drewN n) := ⟨h.os, h.tape, h.output, h.size, h.block⟩
theorem Kp.alloc {S : List Nat} {a b : World} (h : Kp S a b) (o : Obj) : Kp S a (b.alloc o) := h.ext (Ext.new _ _)
theorem Kp.setCell {S : List Nat} {a b : World} (h : Kp S a b) {p : Addr} (hp : p.block ∈ S) (v : Value) : Kp S a (b.setCell p v) :=
  ⟨h.os, h.tape, h.output, by simp [World.setCell]; exact h.size, fun k hk hn => by rw [Below.heap_setCell _ _ _ _ (fun e => hn (by rw [e]; exact hp))]; exact h.block k hk hn⟩
theorem Kp.cell {S : List Nat} {w w' : World} (h : Kp S w w') {b o : Nat} (hb : b < w.heap.size) (hn : b ∉ S) : w'.cell? ⟨b, o, none⟩ = w.cell? ⟨b, o, none⟩ := World.cell?_of_block (w := w) (h.block b hb hn)
theorem Kp.below {S : List Nat} {w w' : World} {B : Nat} (h : Kp S w w') (hB : B ≤ w.heap.size) (hS : ∀ k ∈ S, B ≤ k) : Below B w w' :=
  ⟨h.os, h.tape, h.output, h.size, fun k hk => h.block k (by omega) (fun hk' => by have := hS k hk'; omega)⟩

/-! ### Arrays -/
/-- Block B holds these ints, and perhaps more behind them. -/
def IArr (w : World) (B : Nat) (xs : List Int) : Prop := ∃ rest : List Value, w.heap[B]? = some (.cells (xs.map (Value.int .i64) ++ rest).toArray 3 (0, 0))
/-- Block B holds these pairs, and perhaps more behind them. -/
def PArr (e : TypeId) (w : World) (B : Nat) (xs : List (Int × Int)) : Prop := ∃ rest : List Value, w.heap[B]? = some (.cells (xs.flatMap pairC ++ rest).toArray e (0, 0))
theorem IArr.lt {w : World} {B : Nat} {xs : List Int} (h : IArr w B xs) : B < w.heap.size := let ⟨_, h⟩ := h; (Array.getElem?_eq_some_iff.1 h).1
theorem PArr.lt {e : TypeId} {w : World} {B : Nat} {xs : List (Int × Int)} (h : PArr e w B xs) : B < w.heap.size := let ⟨_, h⟩ := h; (Array.getElem?_eq_some_iff.1 h).1
theorem IArr.cell {w : World} {B : Nat} {xs : List Int} (h : IArr w B xs) {i : Nat} (hi : i < xs.length) : w.cell? ⟨B, i, none⟩ = some (.int .i64 xs[i]) := by
  obtain ⟨rest, h⟩ := h
  simp [World.cell?, h, List.getElem?_append_left, hi]
theorem IArr.frozen {w : World} {B : Nat} {xs : List Int} (h : IArr w B xs) (i : Nat) : w.frozen? ⟨B, i, none⟩ = false := by
  obtain ⟨rest, h⟩ := h
  simp [World.frozen?, h]
theorem IArr.ext {w w' : World} {B : Nat} {xs : List Int} (h : IArr w B xs) (hx : Ext w w') : IArr w' B xs := by
  have hl := h.lt
  obtain ⟨rest, h⟩ := h
  exact ⟨rest, (hx.block B hl).trans h⟩
theorem PArr.ext {e : TypeId} {w w' : World} {B : Nat} {xs : List (Int × Int)} (h : PArr e w B xs) (hx : Ext w w') : PArr e w' B xs := by
  have hl := h.lt
  obtain ⟨rest, h⟩ := h
  exact ⟨rest, (hx.block B hl).trans h⟩
theorem heap_setCell_at (w : World) (B i : Nat) (v : Value) (cs : Array Value) (e : TypeId) (h : w.heap[B]? = some (.cells cs e (0, 0))) : (w.setCell ⟨B, i, none⟩ v).heap[B]? = some (.cells (cs.setIfInBounds i v) e (0, 0)) := by
  simp [World.setCell, Array.getElem?_modify, h]
theorem IArr.set {w : World} {B : Nat} {xs : List Int} (h : IArr w B xs) {i : Nat} (hi : i < xs.length) (v : Int) : IArr (w.setCell ⟨B, i, none⟩ (.int .i64 v)) B (xs.set i v) := by
  obtain ⟨rest, h⟩ := h
  refine ⟨rest, ?_⟩
  rw [heap_setCell_at w B i _ _ _ h]
  simp [List.set_append_left, hi, List.map_set]

/-- 'make' of a row of elements of one cell. -/
theorem run_make1 {P : Program} {t e : TypeId} {bytes : Nat} {z : Value} (hT : RowT P t e 1 bytes z) (hz : z.cells = #[z]) (n : Nat) (hn : n ≤ 1000000) (hb : bytes ≤ 1000) (w : World) :
    (Instr.makeSlice t (.int .i64 n) (.int .i64 n)).run P w = .ok (.slice (some ⟨w.heap.size, 0, none⟩) n n) (w.alloc (.cells (List.replicate n z).toArray e)) := by
  obtain ⟨h1, ⟨i, hi, hzz, hsz, hby⟩, hzs, hk⟩ := hT
  have hbb : i.bytes * n ≤ 1000 * 1000000 := Nat.mul_le_mul (by omega) hn
  rw [run_make w t e i z h1 hi hzz .i64 .i64 n n (by omega) (by omega) (by rw [← Int.natCast_mul]; omega) (by omega)]
  rw [hsz, hz, Int.toNat_natCast, Nat.mul_one]
  congr 3
  apply Array.toList_inj.1
  rw [toList_madeCells_one]

/-! ### A region that draws, in every world behind the one where it begins -/
theorem wp_region_later {P : Program} {id : Nat} {Q : Exit → Act → World → Prop} {a : Act} {w : World} {l : List Oper} (hm : P.follows .mixedOrders = true) (hB : Region.lexB .any l.toArray = true)
    (h : wpQuiet P l.toArray (fun W => ∃ z : Later w, W = z.val) (fun a' => ∀ W, (∃ z : Later w, W = z.val) → Q .normal a' W) l a) : (Code.region id l.toArray true).wp P Q a w :=
  wp_region_quiet (C := fun W => ∃ z : Later w, W = z.val) hm hB ⟨⟨_, (Ext.refl w).drew⟩, rfl⟩ (by simpa using h)
theorem Calls.later {P : Program} {f : FuncId} {args : Array Value} {w : World} {z : Later w} {v : Value} (h : Calls P f args z.val fun e w' => e = .returned v ∧ Ext z.val w') :
    Calls P f args z.val fun e w'' => e = .returned v ∧ ∃ z' : Later w, w'' = z'.val :=
  h.mono fun _ w' ⟨he, hx⟩ => ⟨he, ⟨w', z.property.trans hx⟩, rfl⟩

end Go.Proofs.YtnnmakkbnfckmaaDoor
/- Append: one law for whatever its second operand is; rows that a call owns; stretches of rows. -/
namespace Go.Proofs.YtnnmakkbnfckmaaDoor
open Go.RowKit

/-- What an append's second operand yields: cells behind an address, or nothing. -/
def SrcR (w : World) (k : Nat) (x : Value) (m : Nat) (news : List Value) : Prop :=
  news.length = m * k ∧ ((∃ ad c, x = .slice (some ad) m c ∧ ∀ j u, news[j]? = some u → w.cell? (ad.add j) = some u) ∨ (∃ c, x = .slice none 0 c ∧ m = 0))
theorem run_appX {P : Program} {t e k bytes : Nat} {z : Value} (hT : RowT P t e k bytes z) (ty : TypeId) {w : World} (base : Nat) {v : Value} {n : Nat} {xs : List Value} (hown : w.ownsRow base e k v n xs)
    {x : Value} {m : Nat} {news : List Value} (hs : SrcR w k x m news) (h1 : ∀ u ∈ news, u.oneCell' = true) (h63 : n + m ≤ 1000000) (hbb : bytes ≤ 1000) (hbase : base ≤ w.heap.size) :
    ∃ v' w', (Builtin.append_ #[t, t] ty #[v, x]).run P w = .ok v' w' ∧ w'.ownsRow base e k v' (n + m) (xs ++ news) ∧ Below base w w' ∧ w.grownBy w' v.ownBlock := by
  obtain ⟨h1', ⟨i, hi, hz, hsz, hby⟩, hzs, hk⟩ := hT
  have hbnd : (n + m) * bytes ≤ 140737488355328 := by
    calc (n + m) * bytes ≤ 1000000 * 1000 := Nat.mul_le_mul h63 hbb
      _ ≤ _ := by decide
  obtain ⟨hl, ⟨ad, c, rfl, hc⟩ | ⟨c, rfl, rfl⟩⟩ := hs
  · obtain ⟨v', w', hr, ho, hg, _⟩ := run_append_own (P := P) w base t ty e i z k bytes h1' hi hz hsz hby hzs hk v n xs hown ad m c news hl hc h1 (by unfold maxLen; omega) hbnd hbase
    exact ⟨v', w', hr, ho, own_below hown hg hbase, hg⟩
  · have hn : news = [] := List.eq_nil_of_length_eq_zero (by simpa using hl)
    subst hn
    refine ⟨v, w, ?_, by simpa using hown, Below.refl _ _, ⟨rfl, rfl, rfl, Nat.le_refl _, fun _ _ _ => rfl⟩⟩
    rcases hown.2 with ⟨rfl, rfl⟩ | ⟨g, cap, cur, rfl, hbg, hg, hnc, hcm, hcs, htake⟩
    · simp [Builtin.append_, run_underlying h1', sizeOf, typeInfo, hi, Builtin.lenOf, Builtin.firstCells, loadCells, loadCellsFrom]
    · have := run_append_room_src (P := P) w t t ty e i h1' hi g 0 n cap (.slice none 0 c) 0 [] (Src.ofNil w h1' c) (by omega) (by simp) (by simp)
      simpa [World.setCells] using this

theorem wp_appX {P : Program} {t e k bytes : Nat} {z : Value} {o : Oper} {a : Act} {w : World} {K : Act → World → Prop} {Q : Exit → Act → World → Prop} (hT : RowT P t e k bytes z) (s x : Operand)
    (ho : o.op = .call { callee := .builtin .append, args := #[s, x], argTypes := #[t, t] }) (base : Nat) {v : Value} {n : Nat} {xs : List Value} (hs : a.eval s = v) (hown : w.ownsRow base e k v n xs)
    {xv : Value} {m : Nat} {news : List Value} (hx : a.eval x = xv) (hsrc : SrcR w k xv m news) (h1 : ∀ u ∈ news, u.oneCell' = true) (h63 : n + m ≤ 1000000) (hbb : bytes ≤ 1000) (hbase : base ≤ w.heap.size)
    (h : ∀ v' w', w'.ownsRow base e k v' (n + m) (xs ++ news) → Below base w w' → w.grownBy w' v.ownBlock → K (a.put o.dst v') w') : o.wp P a w K Q := by
  obtain ⟨v', w', hr, h2, h3, h4⟩ := run_appX hT o.type base hown hsrc h1 h63 hbb hbase
  unfold Oper.wp execOp
  simp only [ho, resolve, invoke, builtin, Sem.run_bind, Sem.run_pure, Result.andThen_ok, List.map_toArray, List.map_cons, List.map_nil, hs, hx, hr]
  exact h v' w' h2 h3 h4
/-- .. at a step of a region that draws. -/
theorem step_appX {P : Program} {t e k bytes : Nat} {z : Value} {ops : Array Oper} {o : Oper} {a : Act} {w : World} {K : Act → World → Prop} {Q : Exit → Act → World → Prop} {E : Prop} (hT : RowT P t e k bytes z) (hgd : o.guard = none) (s x : Operand)
    (ho : o.op = .call { callee := .builtin .append, args := #[s, x], argTypes := #[t, t] }) (base : Nat) {v : Value} {n : Nat} {xs : List Value} (hs : a.eval s = v) (hown : w.ownsRow base e k v n xs)
    {xv : Value} {m : Nat} {news : List Value} (hx : a.eval x = xv) (hsrc : SrcR w k xv m news) (h1 : ∀ u ∈ news, u.oneCell' = true) (h63 : n + m ≤ 1000000) (hbb : bytes ≤ 1000) (hbase : base ≤ w.heap.size)
    (h : ∀ v' w', w'.ownsRow base e k v' (n + m) (xs ++ news) → Below base w w' → w.grownBy w' v.ownBlock → K (a.put o.dst v') w') :
    if Region.wanted o (yielded ops a.tmps) = true then Oper.wp P o a w K Q else E := by
  have hw : Region.wanted o (yielded ops a.tmps) = true := by simp [Region.wanted, hgd]
  rw [if_pos hw]
  exact wp_appX hT s x ho base hs hown hx hsrc h1 h63 hbb hbase h
/-- .. at a plain region's list. -/
theorem wpList_appX {P : Program} {t e k bytes : Nat} {z : Value} {ops : Array Oper} {rest : List Oper} {o : Oper} {a : Act} {w : World} {Q : Exit → Act → World → Prop} (hT : RowT P t e k bytes z) (hgd : o.guard = none) (s x : Operand)
    (ho : o.op = .call { callee := .builtin .append, args := #[s, x], argTypes := #[t, t] }) (base : Nat) {v : Value} {n : Nat} {xs : List Value} (hs : a.eval s = v) (hown : w.ownsRow base e k v n xs)
    {xv : Value} {m : Nat} {news : List Value} (hx : a.eval x = xv) (hsrc : SrcR w k xv m news) (h1 : ∀ u ∈ news, u.oneCell' = true) (h63 : n + m ≤ 1000000) (hbb : bytes ≤ 1000) (hbase : base ≤ w.heap.size)
    (h : ∀ v' w', w'.ownsRow base e k v' (n + m) (xs ++ news) → Below base w w' → w.grownBy w' v.ownBlock → wpList P ops Q rest (a.put o.dst v') w') : wpList P ops Q (o :: rest) a w := by
  have hw : Region.wanted o (yielded ops a.tmps) = true := by simp [Region.wanted, hgd]
  unfold wpList
  rw [if_pos hw]
  exact Or.inl (wp_appX hT s x ho base hs hown hx hsrc h1 h63 hbb hbase h)

/-! ### What is owned -/
theorem alloc_at (w : World) (o : Obj) (B : Nat) (hB : B = w.heap.size) : (w.alloc o).heap[B]? = some o := by
  subst hB
  show (w.heap.push o)[w.heap.size]? = some o
  simp
theorem alloc_old (w : World) (o : Obj) (B : Nat) (x : Obj) (hB : B < w.heap.size) (h : w.heap[B]? = some x) : (w.alloc o).heap[B]? = some x := (Below.heap_alloc w o B hB).trans h
theorem own_empty {w : World} {base e k g : Nat} (hk : 0 < k) (hg : w.heap[g]? = some (.cells #[] e (0, 0))) (hb : base ≤ g) : w.ownsRow base e k (.slice (some ⟨g, 0, none⟩) 0 0) 0 [] :=
  ⟨by simp, .inr ⟨g, 0, #[], rfl, hb, hg, Nat.le_refl _, Nat.zero_le _, by simp, by simp⟩⟩
/-- What is owned and is not empty: its block, its room. -/
theorem own_room {w : World} {base e k n : Nat} {v : Value} {xs : List Value} (h : w.ownsRow base e k v n xs) (hn : 0 < n) : ∃ g cap, v = .slice (some ⟨g, 0, none⟩) n cap ∧ n ≤ cap ∧ base ≤ g ∧ g < w.heap.size := by
  rcases h.2 with ⟨_, h0⟩ | ⟨g, cap, cur, rfl, hb, hg, hnc, _⟩
  · omega
  · exact ⟨g, cap, rfl, hnc, hb, (Array.getElem?_eq_some_iff.1 hg).1⟩
theorem addr_add (b o j : Nat) : (⟨b, o, none⟩ : Addr).add j = ⟨b, o + j, none⟩ := by unfold Addr.add; split <;> simp_all
/-- A stretch of a row as what is appended. -/
theorem src_erow {α : Type} {enc : α → Value} {w : World} {a : Option Addr} {l : List α} (h : ERow enc w a l) {b o : Nat} (ha : a = some ⟨b, o, none⟩) (s m c : Nat) (hm : s + m ≤ l.length) : SrcR w 1 (.slice (some ⟨b, o + s, none⟩) m c) m (((l.drop s).take m).map enc) := by
  refine ⟨by simp; omega, .inl ⟨_, c, rfl, fun j u hu => ?_⟩⟩
  rw [addr_add]
  simp only [List.getElem?_map, List.getElem?_take, List.getElem?_drop] at hu
  split at hu
  · rename_i hj
    have hj' : s + j < l.length := by omega
    obtain ⟨b', o', e, _, hc⟩ := h (s + j) hj'
    rw [ha] at e
    cases e
    rw [List.getElem?_eq_getElem hj'] at hu
    simp only [Option.map_some, Option.some.injEq] at hu
    rw [← hu, Nat.add_assoc]
    exact hc
  · simp at hu
theorem src_erow0 {α : Type} {enc : α → Value} {w : World} {l : List α} {b : Nat} (h : ERow enc w (some ⟨b, 0, none⟩) l) (s m c : Nat) (hm : s + m ≤ l.length) : SrcR w 1 (.slice (some ⟨b, s, none⟩) m c) m (((l.drop s).take m).map enc) := by
  have := src_erow h rfl s m c hm
  rwa [Nat.zero_add] at this
theorem one_int (xs : List Int) : ∀ u ∈ xs.map (Value.int .i64), u.oneCell' = true := fun u hu => by
  obtain ⟨x, _, rfl⟩ := List.mem_map.1 hu
  rfl
theorem src_nil (w : World) (k c : Nat) : SrcR w k (.slice none 0 c) 0 [] := ⟨by simp, .inr ⟨c, rfl, rfl⟩⟩
/-- One element that has just been laid. -/
theorem src_one {w : World} {k : Nat} {g : Nat} {vs : List Value} (hk : vs.length = k) (h : ∀ j u, vs[j]? = some u → w.cell? ⟨g, j, none⟩ = some u) : SrcR w k (.slice (some ⟨g, 0, none⟩) 1 1) 1 vs := by
  refine ⟨by omega, .inl ⟨_, 1, rfl, fun j u hu => ?_⟩⟩
  rw [addr_add, Nat.zero_add]
  exact h j u hu
theorem src_lone {w : World} {k g : Nat} {vs : List Value} {t : TypeId} (hk : vs.length = k) (h : w.heap[g]? = some (.cells vs.toArray t (0, 0))) : SrcR w k (.slice (some ⟨g, 0, none⟩) 1 1) 1 vs :=
  src_one hk fun j u hu => by simp [World.cell?, h]; simpa using hu
end Go.Proofs.YtnnmakkbnfckmaaDoor
