/- Words for arrays that are written in place, for what a call may have turned, and for a region that draws, in all worlds behind one. -/
import Derived.Test.YtnnmakkbnfckmaaDoorA6
import Derived.BigRegion
namespace Go.Proofs.YtnnmakkbnfckmaaDoor
open Go.RowKit

/-- All but the blocks on the list S lies there as it did. -/
structure Kp (S : List Nat) (w w' : World) : Prop where
  os : w'.os = w.os
  tape : w'.tape = w.tape
  output : w'.output = w.output
  size : w.heap.size ≤ w'.heap.size
  block : ∀ k, k < w.heap.size → k ∉ S → w'.heap[k]? = w.heap[k]?
theorem Kp.refl (S : List Nat) (w : World) : Kp S w w := ⟨rfl, rfl, rfl, Nat.le_refl _, fun _ _ _ => rfl⟩
theorem Kp.trans {S : List Nat} {a b c : World} (h : Kp S a b) (k : Kp S b c) : Kp S a c :=
  ⟨k.os.trans h.os, k.tape.trans h.tape, k.output.trans h.output, Nat.le_trans h.size k.size, fun i hi hn => (k.block i (Nat.lt_of_lt_of_le hi h.size) hn).trans (h.block i hi hn)⟩
theorem Ext.kp {w w' : World} (h : Ext w w') (S : List Nat) : Kp S w w' := ⟨h.os, h.tape, h.output, h.size, fun k hk _ => h.block k hk⟩
theorem Kp.ext {S : List Nat} {a b c : World} (h : Kp S a b) (k : Ext b c) : Kp S a c := h.trans (k.kp S)
theorem Kp.drew {S : List Nat} {a b : World} (h : Kp S a b) : Kp S a b.drew := ⟨h.os, h.tape, h.output, h.size, h.block⟩
theorem Kp.drewN {S : List Nat} {a b : World} (h : Kp S a b) (n : Nat) : Kp S a (b.drewN n) := ⟨h.os, h.tape, h.output, h.size, h.block⟩
theorem Kp.alloc {S : List Nat} {a b : World} (h : Kp S a b) (o : Obj) : Kp S a (b.alloc o) := h.ext (Ext.new _ _)
theorem Kp.setCell {S : List Nat} {a b : World} (h : Kp S a b) {p : Addr} (hp : p.block ∈ S) (v : Value) : Kp S a (b.setCell p v) :=
  ⟨h.os, h.tape, h.output, by simp [World.setCell]; exact h.size, fun k hk hn => by rw [Below.heap_setCell _ _ _ _ (fun e => hn (by rw [e]; exact hp))]; exact h.block k hk hn⟩
theorem Kp.cell {S : List Nat} {w w' : World} (h : Kp S w w') {b o : Nat} (hb : b < w.heap.size) (hn : b ∉ S) : w'.cell? ⟨b, o, none⟩ = w.cell? ⟨b, o, none⟩ := World.cell?_of_block (w := w) (h.block b hb hn)
theorem Kp.below {S : List Nat} {w w' : World} {B : Nat} (h : Kp S w w') (hB : B ≤ w.heap.size) (hS : ∀ k ∈ S, B ≤ k) : Below B w w' :=
  ⟨h.os, h.tape, h.output, h.size, fun k hk => h.block k (by omega) (fun hk' => by have := hS k hk'; omega)⟩

/-! ### Arrays -/
/-- Block B holds these ints, and perhaps more behind them. -/
def IArr (w : World) (B : Nat) (xs : List Int) : Prop := ∃ rest : List Value, w.heap[B]? = some (.cells (xs.map (Value.int .i64) ++ rest).toArray 3 (0, 0))
/-- Block B holds these pairs, and perhaps more behind them. -/
def PArr (e : TypeId) (w : World) (B : Nat) (xs : List (Int × Int)) : Prop := ∃ rest : List Value, w.heap[B]? = some (.cells (xs.flatMap pairC ++ rest).toArray e (0, 0))
theorem IArr.lt {w : World} {B : Nat} {xs : List Int} (h : IArr w B xs) : B < w.heap.size := let ⟨_, h⟩ := h; (Array.getElem?_eq_some_iff.1 h).1
theorem PArr.lt {e : TypeId} {w : World} {B : Nat} {xs : List (Int × Int)} (h : PArr e w B xs) : B < w.heap.size := let ⟨_, h⟩ := h; (Array.getElem?_eq_some_iff.1 h).1
theorem IArr.cell {w : World} {B : Nat} {xs : List Int} (h : IArr w B xs) {i : Nat} (hi : i < xs.length) : w.cell? ⟨B, i, none⟩ = some (.int .i64 xs[i]) := by
  obtain ⟨rest, h⟩ := h
  simp [World.cell?, h, List.getElem?_append_left, hi]
theorem IArr.frozen {w : World} {B : Nat} {xs : List Int} (h : IArr w B xs) (i : Nat) : w.frozen? ⟨B, i, none⟩ = false := by
  obtain ⟨rest, h⟩ := h
  simp [World.frozen?, h]
theorem IArr.ext {w w' : World} {B : Nat} {xs : List Int} (h : IArr w B xs) (hx : Ext w w') : IArr w' B xs := by
  have hl := h.lt
  obtain ⟨rest, h⟩ := h
  exact ⟨rest, (hx.block B hl).trans h⟩
theorem PArr.ext {e : TypeId} {w w' : World} {B : Nat} {xs : List (Int × Int)} (h : PArr e w B xs) (hx : Ext w w') : PArr e w' B xs := by
  have hl := h.lt
  obtain ⟨rest, h⟩ := h
  exact ⟨rest, (hx.block B hl).trans h⟩
theorem heap_setCell_at (w : World) (B i : Nat) (v : Value) (cs : Array Value) (e : TypeId) (h : w.heap[B]? = some (.cells cs e (0, 0))) : (w.setCell ⟨B, i, none⟩ v).heap[B]? = some (.cells (cs.setIfInBounds i v) e (0, 0)) := by
  simp [World.setCell, Array.getElem?_modify, h]
theorem IArr.set {w : World} {B : Nat} {xs : List Int} (h : IArr w B xs) {i : Nat} (hi : i < xs.length) (v : Int) : IArr (w.setCell ⟨B, i, none⟩ (.int .i64 v)) B (xs.set i v) := by
  obtain ⟨rest, h⟩ := h
  refine ⟨rest, ?_⟩
  rw [heap_setCell_at w B i _ _ _ h]
  simp [List.set_append_left, hi, List.map_set]

/-- 'make' of a row of elements of one cell. -/
theorem run_make1 {P : Program} {t e : TypeId} {bytes : Nat} {z : Value} (hT : RowT P t e 1 bytes z) (hz : z.cells = #[z]) (n : Nat) (hn : n ≤ 1000000) (hb : bytes ≤ 1000) (w : World) :
    (Instr.makeSlice t (.int .i64 n) (.int .i64 n)).run P w = .ok (.slice (some ⟨w.heap.size, 0, none⟩) n n) (w.alloc (.cells (List.replicate n z).toArray e)) := by
  obtain ⟨h1, ⟨i, hi, hzz, hsz, hby⟩, hzs, hk⟩ := hT
  have hbb : i.bytes * n ≤ 1000 * 1000000 := Nat.mul_le_mul (by omega) hn
  rw [run_make w t e i z h1 hi hzz .i64 .i64 n n (by omega) (by omega) (by rw [← Int.natCast_mul]; omega) (by omega)]
  rw [hsz, hz, Int.toNat_natCast, Nat.mul_one]
  congr 3
  apply Array.toList_inj.1
  rw [toList_madeCells_one]

/-! ### A region that draws, in every world behind the one where it begins -/
theorem wp_region_later {P : Program} {id : Nat} {Q : Exit → Act → World → Prop} {a : Act} {w : World} {l : List Oper} (hm : P.follows .mixedOrders = true) (hB : Region.lexB .any l.toArray = true)
    (h : wpQuiet P l.toArray (fun W => ∃ z : Later w, W = z.val) (fun a' => ∀ W, (∃ z : Later w, W = z.val) → Q .normal a' W) l a) : (Code.region id l.toArray true).wp P Q a w :=
  wp_region_quiet (C := fun W => ∃ z : Later w, W = z.val) hm hB ⟨⟨_, (Ext.refl w).drew⟩, rfl⟩ (by simpa using h)
theorem Calls.later {P : Program} {f : FuncId} {args : Array Value} {w : World} {z : Later w} {v : Value} (h : Calls P f args z.val fun e w' => e = .returned v ∧ Ext z.val w') :
    Calls P f args z.val fun e w'' => e = .returned v ∧ ∃ z' : Later w, w'' = z'.val :=
  h.mono fun _ w' ⟨he, hx⟩ => ⟨he, ⟨w', z.property.trans hx⟩, rfl⟩

end Go.Proofs.YtnnmakkbnfckmaaDoor
