/- Plain: what holds of Robust's run at each tick: the taken ones fit, so they are done by their deadlines; who was taken again was shed ahead of that. -/
import Derived.Test.YtnnmakkbnfckmaaDoorP8
namespace Go.Proofs.YtnnmakkbnfckmaaDoor

/-- What is known of each of the jobs. -/
structure GoodJ (l : List J) (i : Nat) : Prop where
  rel : 0 ≤ at0 J.rel l i
  lt : at0 J.rel l i < at0 J.dl l i
  dl : at0 J.dl l i ≤ 10000
  chg : at0 chargeJ l i ≤ 1100
  wrk : 1 ≤ at0 workJ l i
  le : at0 workJ l i ≤ at0 chargeJ l i
  bud : 1 ≤ at0 J.bud l i ∧ at0 J.bud l i ≤ at0 chargeJ l i ∧ at0 J.bud l i ≤ 1000
  val : 0 ≤ at0 J.val l i ∧ at0 J.val l i ≤ 1000000
  act : 1 ≤ at0 J.act l i ∧ at0 J.act l i ≤ 1000
  cln : 0 ≤ at0 J.cln l i ∧ at0 J.cln l i ≤ 100
  sum : at0 chargeJ l i = at0 J.bud l i + at0 J.cln l i
  runs : at0 workJ l i = if runsAt l i = true then at0 J.act l i else at0 chargeJ l i
  isR : runsAt l i = decide (at0 J.act l i ≤ at0 J.bud l i)
theorem goodJ_of {l : List J} (h : l.all goodB = true) {i : Nat} (hi : i < l.length) : GoodJ l i := by
  have hg : goodB l[i] = true := List.all_eq_true.1 h _ (List.getElem_mem hi)
  have hg' := hg
  unfold goodB timesB worksB inB at hg'
  simp only [Bool.and_eq_true, decide_eq_true_eq] at hg'
  have hc : chargeJ l[i] = l[i].bud + l[i].cln := by unfold chargeJ; rw [hg]; rfl
  have hr : runsAt l i = decide (l[i].act ≤ l[i].bud) := runsAt_eq l hi
  have hw : workJ l[i] = if runsAt l i = true then l[i].act else l[i].bud + l[i].cln := by unfold workJ; rw [hg, hr]; rfl
  have hw' : workJ l[i] ≤ chargeJ l[i] ∧ 1 ≤ workJ l[i] := by
    rw [hw, hc, hr]
    by_cases h : l[i].act ≤ l[i].bud
    · simp only [h, decide_true, if_true]; omega
    · simp only [h, decide_false, Bool.false_eq_true, if_false]; omega
  constructor <;> simp only [at0_eq _ _ hi] <;> first | omega | (rw [hw, hc]) | exact hr
theorem allB_all {l : List J} (h : allB l = true) : l.length ≤ 200 ∧ l.all goodB = true := by
  unfold allB at h
  simpa using h

theorem op_iff (s : RS) (t i : Nat) : s.op t i = true ↔ s.tk i = t ∧ s.fk i = 0 := by unfold RS.op; simp
/-- What the taken ones need up to a deadline. -/
def needS (l : List J) (s : RS) (D : Int) (n : Nat) : Int := sumN (fun i => if s.op 1 i = true ∧ at0 J.dl l i ≤ D then max (needR l s i) 0 else 0) n
theorem upto_append (a b : List (Int × Int)) (D : Int) : upto (a ++ b) D = upto a D + upto b D := sumF_append _ _ _
theorem upto_lefts (l : List J) (s : RS) (D : Int) (n : Nat) : upto (leftsTo l s n) D = needS l s D n := by
  induction n with
  | zero => rfl
  | succ n ih =>
    rw [leftsTo_succ, upto_append, ih]
    show _ = needS l s D n + (if s.op 1 n = true ∧ at0 J.dl l n ≤ D then max (needR l s n) 0 else 0)
    congr 1
    by_cases h : s.op 1 n = true
    · rw [if_pos h]
      by_cases hd : at0 J.dl l n ≤ D
      · rw [if_pos ⟨h, hd⟩]; simp [upto, sumF, hd, posN]
      · rw [if_neg (fun x => hd x.2)]; simp [upto, sumF, hd]
    · rw [if_neg h, if_neg (fun x => h x.1)]; rfl
/-- The taken ones fit. -/
def Fit (l : List J) (s : RS) (k : Int) : Prop := ∀ D, (∃ i, i < l.length ∧ s.op 1 i = true ∧ at0 J.dl l i ≤ D) → needS l s D l.length ≤ D - k
theorem lefts_mem (l : List J) (s : RS) (n : Nat) (x : Int × Int) : x ∈ leftsTo l s n ↔ ∃ i, i < n ∧ s.op 1 i = true ∧ x = (at0 J.dl l i, needR l s i) := by
  unfold leftsTo
  simp only [List.mem_map, List.mem_filter, List.mem_range]
  constructor
  · rintro ⟨i, ⟨h1, h2⟩, rfl⟩; exact ⟨i, h1, h2, rfl⟩
  · rintro ⟨i, h1, h2, rfl⟩; exact ⟨i, ⟨h1, h2⟩, rfl⟩
theorem lefts_len (l : List J) (s : RS) (n : Nat) : (leftsTo l s n).length ≤ n := by
  unfold leftsTo
  rw [List.length_map]
  have := List.length_filter_le (s.op 1) (List.range n)
  simpa using this
theorem fitsR_iff {l : List J} (hl : l.length ≤ 200) (hg : ∀ i, i < l.length → GoodJ l i) {s : RS} (hr : ∀ i, i < l.length → 0 ≤ s.ran i ∧ s.ran i ≤ at0 workJ l i) {k : Int} (h0 : 0 ≤ k) (h1 : k ≤ 100000) : fitsR l s k = true ↔ Fit l s k := by
  unfold fitsR
  rw [fits_iff]
  have hm : mayB k (leftsTo l s l.length) = true := by
    unfold mayB inM
    simp only [Bool.and_eq_true, decide_eq_true_eq, List.all_eq_true]
    refine ⟨by omega, by have := lefts_len l s l.length; omega, fun x hx => ?_⟩
    obtain ⟨i, hi, _, rfl⟩ := (lefts_mem l s l.length x).1 hx
    have g := hg i hi
    have r := hr i hi
    have g1 := g.rel; have g2 := g.lt; have g3 := g.dl; have g4 := g.chg; have g5 := g.le; have g6 := g.wrk
    simp only [needR]
    omega
  constructor
  · rintro ⟨_, h⟩ D ⟨i, hi, ho, hd⟩
    have := h D ⟨_, (lefts_mem l s l.length _).2 ⟨i, hi, ho, rfl⟩, hd⟩
    rwa [upto_lefts] at this
  · intro h
    refine ⟨hm, fun D hD => ?_⟩
    obtain ⟨x, hx, hd⟩ := hD
    obtain ⟨i, hi, ho, rfl⟩ := (lefts_mem l s l.length x).1 hx
    rw [upto_lefts]
    exact h D ⟨i, hi, ho, hd⟩
theorem needS_term (l : List J) (s : RS) {i : Nat} (hi : i < l.length) (ho : s.op 1 i = true) : needR l s i ≤ needS l s (at0 J.dl l i) l.length := by
  have h : sumN (fun j => if j = i then max (needR l s i) 0 else 0) l.length ≤ needS l s (at0 J.dl l i) l.length := by
    refine sumN_le fun j hj => ?_
    by_cases e : j = i
    · subst e; rw [if_pos rfl, if_pos ⟨ho, Int.le_refl _⟩]; exact Int.le_refl _
    · rw [if_neg e]; split <;> omega
  have h2 : ∀ n, sumN (fun j => if j = i then max (needR l s i) 0 else 0) n = if i < n then max (needR l s i) 0 else 0 := by
    intro n
    induction n with
    | zero => rfl
    | succ n ih =>
      simp only [sumN]; rw [ih]
      by_cases e1 : i < n
      · rw [if_pos e1, if_neg (by omega), if_pos (by omega)]; omega
      · by_cases e2 : n = i
        · rw [if_neg e1, if_pos e2, if_pos (by omega)]; omega
        · rw [if_neg e1, if_neg e2, if_neg (by omega)]; rfl
  rw [h2, if_pos hi] at h
  omega
theorem needS_congr {l : List J} {s s' : RS} {D : Int} (ho : ∀ i, i < l.length → s.op 1 i = s'.op 1 i) (hr : ∀ i, i < l.length → s.ran i = s'.ran i) : needS l s D l.length = needS l s' D l.length :=
  sumN_congr fun i hi => by unfold needR; rw [ho i hi, hr i hi]
theorem Fit.congr {l : List J} {s s' : RS} {k : Int} (h : Fit l s k) (ho : ∀ i, i < l.length → s.op 1 i = s'.op 1 i) (hr : ∀ i, i < l.length → s.ran i = s'.ran i) : Fit l s' k := fun D ⟨i, hi, h1, h2⟩ => by
  rw [← needS_congr ho hr]
  exact h D ⟨i, hi, by rw [ho i hi]; exact h1, h2⟩

/-- What holds in tick k, when the first m have been looked at. -/
structure InvR (l : List J) (s : RS) (k m : Nat) : Prop where
  tk2 : ∀ i, i < l.length → s.tk i ≤ 2
  new : ∀ i, i < l.length → s.fk i = 0 → (s.tk i = 0 ↔ ((k : Int) < at0 J.rel l i ∨ (at0 J.rel l i = k ∧ m ≤ i)))
  wait : ∀ i, i < l.length → ((k : Int) < at0 J.rel l i ∨ (at0 J.rel l i = k ∧ m ≤ i)) → s.fk i = 0
  ran : ∀ i, i < l.length → 0 ≤ s.ran i ∧ s.ran i ≤ at0 workJ l i
  run0 : ∀ i, i < l.length → s.fk i = 0 → s.ran i < at0 workJ l i
  new0 : ∀ i, i < l.length → s.tk i = 0 → s.ran i = 0
  fate : ∀ i, i < l.length → s.fk i = 0 ∨ (s.fk i = 1 ∧ runsAt l i = true ∧ s.ran i = at0 workJ l i ∧ s.tk i = 1) ∨ (s.fk i = 2 ∧ runsAt l i = false ∧ s.ran i = at0 workJ l i ∧ s.tk i = 1) ∨
    (s.fk i = 3 ∧ s.ran i < at0 workJ l i ∧ s.tk i = 2) ∨ (s.fk i = 4 ∧ s.ran i < at0 workJ l i ∧ s.tk i = 0)
  fa : ∀ i, i < l.length → 0 ≤ s.fa i ∧ s.fa i ≤ k
  fit : Fit l s k
  tlen : s.trace.length = k
  tcnt : ∀ i, i < l.length → (s.trace.count (some i) : Int) = s.ran i
  tin : ∀ (t : Nat) i, s.trace[t]? = some (some i) → i < l.length ∧ at0 J.rel l i ≤ t ∧ (t : Int) < at0 J.dl l i
  cnts : ∀ i, i < l.length → s.sheds.count i = s.again.count i + if s.tk i = 2 then 1 else 0
  mem : (∀ i ∈ s.sheds, i < l.length) ∧ ∀ i ∈ s.again, i < l.length
variable {l : List J}
theorem InvR.start (hg : ∀ i, i < l.length → GoodJ l i) : InvR l startR 0 0 where
  tk2 := fun _ _ => Nat.zero_le _
  new := fun i hi _ => by have g := (hg i hi).rel; simp [startR]; omega
  wait := fun _ _ _ => rfl
  ran := fun i hi => by have g := (hg i hi).wrk; simp [startR]; omega
  run0 := fun i hi _ => by have g := (hg i hi).wrk; simp [startR]; omega
  new0 := fun _ _ _ => rfl
  fate := fun _ _ => .inl rfl
  fa := fun _ _ => by simp [startR]
  fit := fun D ⟨i, _, ho, _⟩ => by simp [op_iff, startR] at ho
  tlen := rfl
  tcnt := fun _ _ => rfl
  tin := fun t i h => by simp [startR] at h
  cnts := fun _ _ => rfl
  mem := ⟨by simp [startR], by simp [startR]⟩

/-! ### What is late goes -/
theorem lateB_op {s : RS} {k : Int} {i : Nat} (h : lateB l s k i = true) : s.tk i = 2 ∧ s.fk i = 0 := by
  unfold lateB at h
  rw [Bool.and_eq_true] at h
  exact (op_iff s 2 i).1 h.1
theorem InvR.late {s : RS} {k m : Nat} (h : InvR l s k m) : InvR l (late l s k) k m := by
  have fk : ∀ i, (Go.Proofs.YtnnmakkbnfckmaaDoor.late l s k).fk i = if i < l.length ∧ lateB l s k i = true then 3 else s.fk i := fun _ => rfl
  have fa : ∀ i, (Go.Proofs.YtnnmakkbnfckmaaDoor.late l s k).fa i = if i < l.length ∧ lateB l s k i = true then (k : Int) else s.fa i := fun _ => rfl
  have f0 : ∀ i, (Go.Proofs.YtnnmakkbnfckmaaDoor.late l s k).fk i = 0 → s.fk i = 0 := fun i hi => by
    rw [fk] at hi
    split at hi
    · omega
    · exact hi
  have op1 : ∀ i, s.op 1 i = (Go.Proofs.YtnnmakkbnfckmaaDoor.late l s k).op 1 i := fun i => by
    rw [Bool.eq_iff_iff, op_iff, op_iff, fk]
    by_cases c : i < l.length ∧ lateB l s k i = true
    · have := lateB_op c.2
      rw [if_pos c]
      show s.tk i = 1 ∧ _ ↔ s.tk i = 1 ∧ _
      omega
    · rw [if_neg c]; exact Iff.rfl
  refine ⟨h.tk2, fun i hi h0 => h.new i hi (f0 i h0), fun i hi hc => ?_, h.ran, fun i hi h0 => h.run0 i hi (f0 i h0), h.new0, fun i hi => ?_, fun i hi => ?_, h.fit.congr (fun i _ => op1 i) fun _ _ => rfl, h.tlen, h.tcnt, h.tin, h.cnts, h.mem⟩
  · rw [fk]
    have w := h.wait i hi hc
    have nw := (h.new i hi w).2 hc
    split
    · rename_i c; have := lateB_op c.2; omega
    · exact w
  · rw [fk]
    split
    · rename_i c
      have := lateB_op c.2
      exact .inr (.inr (.inr (.inl ⟨rfl, h.run0 i hi this.2, this.1⟩)))
    · exact h.fate i hi
  · rw [fa]
    split
    · omega
    · exact h.fa i hi

/-! ### What comes is taken, or refused -/
theorem shedL_op (s : RS) (L : List Nat) (i : Nat) : (shedL s L).op 1 i = true ↔ i ∉ L ∧ s.op 1 i = true := by
  rw [op_iff, op_iff]
  show (if i ∈ L then 2 else s.tk i) = 1 ∧ s.fk i = 0 ↔ _
  by_cases h : i ∈ L
  · rw [if_pos h]; simp [h]
  · rw [if_neg h]; simp [h]
theorem arrGo_some {s : RS} {k : Int} {f : Nat} : ∀ {L L' : List Nat}, L.Nodup → (∀ b ∈ L, b < l.length ∧ s.op 1 b = true ∧ hardAt l b = false) → arrGo l s k f L = some L' →
    L'.Nodup ∧ (∀ b ∈ L', b < l.length ∧ s.op 1 b = true ∧ hardAt l b = false) ∧ fitsR l (shedL s L') k = true := by
  induction f with
  | zero =>
    intro L L' h1 h2 h3
    unfold arrGo at h3
    split at h3
    · injection h3 with h3; subst h3; exact ⟨h1, h2, by assumption⟩
    · cases h3
  | succ f ih =>
    intro L L' h1 h2 h3
    unfold arrGo at h3
    split at h3
    · injection h3 with h3; subst h3; exact ⟨h1, h2, by assumption⟩
    · cases hb : least l (shedL s L) with
      | none => rw [hb] at h3; cases h3
      | some b =>
        rw [hb] at h3
        obtain ⟨hbn, hbf⟩ := leastTo_some l _ _ hb
        unfold firmB at hbf
        simp only [Bool.and_eq_true, Bool.not_eq_true'] at hbf
        obtain ⟨hno, hop⟩ := (shedL_op s L b).1 hbf.1
        refine ih ?_ ?_ h3
        · rw [List.nodup_append]
          refine ⟨h1, by simp, fun x hx y hy => ?_⟩
          obtain rfl : y = b := by simpa using hy
          intro e; subst e; exact hno hx
        · intro c hc
          rcases List.mem_append.1 hc with e | e
          · exact h2 c e
          · obtain rfl : c = b := by simpa using e
            exact ⟨hbn, hop, hbf.2.1⟩
theorem take_op (s : RS) (i j : Nat) (hf : s.fk i = 0) : (takeR s i).op 1 j = true ↔ j = i ∨ s.op 1 j = true := by
  rw [op_iff, op_iff]
  show upd s.tk i 1 j = 1 ∧ s.fk j = 0 ↔ _
  unfold upd
  by_cases e : j = i
  · subst e; simp [hf]
  · simp [e]
theorem InvR.skip {s : RS} {k i : Nat} (h : InvR l s k i) (hr : at0 J.rel l i ≠ k) : InvR l s k (i + 1) :=
  have e : ∀ j, ((k : Int) < at0 J.rel l j ∨ (at0 J.rel l j = k ∧ i ≤ j)) ↔ ((k : Int) < at0 J.rel l j ∨ (at0 J.rel l j = k ∧ i + 1 ≤ j)) := fun j => by
    by_cases c : j = i
    · subst c; omega
    · omega
  { h with new := fun j hj h0 => by rw [h.new j hj h0, e], wait := fun j hj hc => h.wait j hj ((e j).2 hc) }
theorem InvR.arrive (hl : l.length ≤ 200) (hg : ∀ i, i < l.length → GoodJ l i) {s : RS} {k i : Nat} (h : InvR l s k i) (hk : k ≤ 10000) (hi : i < l.length) (hr : at0 J.rel l i = k) : InvR l (arrive l s k i) k (i + 1) := by
  have w := h.wait i hi (.inr ⟨hr, Nat.le_refl _⟩)
  have nw := (h.new i hi w).2 (.inr ⟨hr, Nat.le_refl _⟩)
  have e : ∀ j, j ≠ i → (((k : Int) < at0 J.rel l j ∨ (at0 J.rel l j = k ∧ i ≤ j)) ↔ ((k : Int) < at0 J.rel l j ∨ (at0 J.rel l j = k ∧ i + 1 ≤ j))) := fun j c => by omega
  have ne : ¬ ((k : Int) < at0 J.rel l i ∨ (at0 J.rel l i = k ∧ i + 1 ≤ i)) := by omega
  have r0 := h.new0 i hi nw
  unfold Go.Proofs.YtnnmakkbnfckmaaDoor.arrive
  cases hA : arrGo l (takeR s i) k l.length [] with
  | some L =>
    obtain ⟨hnd, hL, hfit⟩ := arrGo_some (l := l) (by simp) (by simp) hA
    have hfit' := (fitsR_iff hl hg (s := shedL (takeR s i) L) (fun j hj => h.ran j hj) (by omega) (by omega)).1 hfit
    have tk : ∀ j, (shedL (takeR s i) L).tk j = if j ∈ L then 2 else upd s.tk i 1 j := fun _ => rfl
    have inL : ∀ j, j ∈ L → s.fk j = 0 ∧ (j = i ∨ s.tk j = 1) := fun j hj => by
      obtain ⟨_, ho, _⟩ := hL j hj
      rcases (take_op s i j w).1 ho with e | e
      · subst e; exact ⟨w, .inl rfl⟩
      · have := (op_iff s 1 j).1 e; exact ⟨this.2, .inr this.1⟩
    have tkn : ∀ j, j ≠ i → j ∉ L → (shedL (takeR s i) L).tk j = s.tk j := fun j h1 h2 => by rw [tk, if_neg h2, upd_other _ _ h1]
    refine ⟨fun j hj => ?_, fun j hj h0 => ?_, fun j hj hc => ?_, h.ran, h.run0, fun j hj h0 => ?_, fun j hj => ?_, h.fa, hfit', h.tlen, h.tcnt, h.tin, fun j hj => ?_, ⟨fun j hj => ?_, h.mem.2⟩⟩
    · rw [tk]
      split
      · omega
      · unfold upd; split
        · omega
        · exact h.tk2 j hj
    · rw [tk]
      by_cases c : j = i
      · subst c
        constructor
        · intro x; split at x
          · omega
          · rw [upd_same] at x; omega
        · intro x; exact absurd x ne
      · rw [← e j c]
        by_cases d : j ∈ L
        · rw [if_pos d]
          obtain ⟨_, t⟩ := inL j d
          have := h.new j hj h0
          omega
        · rw [if_neg d, upd_other _ _ c]; exact h.new j hj h0
    · by_cases c : j = i
      · subst c; exact w
      · exact h.wait j hj ((e j c).2 hc)
    · by_cases c : j = i
      · subst c; exact r0
      · by_cases d : j ∈ L
        · rw [tk, if_pos d] at h0; omega
        · exact h.new0 j hj ((tkn j c d) ▸ h0)
    · have f := h.fate j hj
      by_cases c : j = i
      · subst c; exact .inl w
      · by_cases d : j ∈ L
        · exact .inl (inL j d).1
        · rw [tkn j c d]; exact f
    · have c0 := h.cnts j hj
      show (s.sheds ++ L).count j = s.again.count j + _
      rw [List.count_append, hnd.count, tk]
      by_cases d : j ∈ L
      · rw [if_pos d, if_pos d]
        have : s.tk j ≠ 2 := by
          rcases (inL j d).2 with e | e
          · subst e; omega
          · omega
        rw [if_neg this] at c0
        simp; omega
      · rw [if_neg d, if_neg d]
        by_cases c : j = i
        · subst c
          rw [upd_same]
          rw [nw] at c0
          simpa using c0
        · rw [upd_other _ _ c]; simpa using c0
    · rcases List.mem_append.1 hj with e | e
      · exact h.mem.1 j e
      · exact (hL j e).1
  | none =>
    have fk : ∀ j, (s.say i 4 k).fk j = upd s.fk i 4 j := fun _ => rfl
    have fo : ∀ j, j ≠ i → (s.say i 4 k).fk j = s.fk j := fun j c => upd_other _ _ c
    have f0 : ∀ j, (s.say i 4 k).fk j = 0 → j ≠ i ∧ s.fk j = 0 := fun j hj => by
      by_cases c : j = i
      · subst c; rw [fk, upd_same] at hj; omega
      · exact ⟨c, by rwa [fo j c] at hj⟩
    have op1 : ∀ j, s.op 1 j = (s.say i 4 k).op 1 j := fun j => by
      rw [Bool.eq_iff_iff, op_iff, op_iff]
      show _ ↔ s.tk j = 1 ∧ _
      by_cases c : j = i
      · subst c; omega
      · rw [fo j c]
    refine ⟨h.tk2, fun j hj h0 => ?_, fun j hj hc => ?_, h.ran, fun j hj h0 => h.run0 j hj (f0 j h0).2, h.new0, fun j hj => ?_, fun j hj => ?_, h.fit.congr (fun j _ => op1 j) fun _ _ => rfl, h.tlen, h.tcnt, h.tin, h.cnts, h.mem⟩
    · rw [← e j (f0 j h0).1]; exact h.new j hj (f0 j h0).2
    · have c : j ≠ i := fun c => by subst c; exact ne hc
      rw [fo j c]; exact h.wait j hj ((e j c).2 hc)
    · by_cases c : j = i
      · subst c
        exact .inr (.inr (.inr (.inr ⟨by rw [fk, upd_same], h.run0 j hj w, nw⟩)))
      · rw [fo j c]; exact h.fate j hj
    · show 0 ≤ upd s.fa i (k : Int) j ∧ upd s.fa i (k : Int) j ≤ k
      unfold upd
      split
      · omega
      · exact h.fa j hj
theorem InvR.arrives (hl : l.length ≤ 200) (hg : ∀ i, i < l.length → GoodJ l i) {s : RS} {k : Nat} (h : InvR l s k 0) (hk : k ≤ 10000) : ∀ n, n ≤ l.length → InvR l (arriveTo l s k n) k n := by
  intro n
  induction n with
  | zero => intro _; exact h
  | succ n ih =>
    intro hn
    rw [arriveTo_succ]
    by_cases c : at0 J.rel l n = k
    · rw [if_pos c]; exact (ih (by omega)).arrive hl hg hk (by omega) c
    · rw [if_neg c]; exact (ih (by omega)).skip c

/-! ### Who is taken again -/
theorem InvR.againStep (hl : l.length ≤ 200) (hg : ∀ i, i < l.length → GoodJ l i) {s : RS} {k i : Nat} (h : InvR l s k 0) (hk : k ≤ 10001) (hi : i < l.length) (ho : s.op 2 i = true) : InvR l (againStep l k s i) k 0 := by
  unfold Go.Proofs.YtnnmakkbnfckmaaDoor.againStep
  obtain ⟨t2, f0⟩ := (op_iff s 2 i).1 ho
  split
  · rename_i hf
    have hfit := (fitsR_iff hl hg (s := takeR s i) (fun j hj => h.ran j hj) (by omega) (by omega)).1 hf
    have tk : ∀ j, j ≠ i → (takeR s i).tk j = s.tk j := fun j c => upd_other _ _ c
    have ti : (takeR s i).tk i = 1 := upd_same _ _ _
    refine ⟨fun j hj => ?_, fun j hj h0 => ?_, h.wait, h.ran, h.run0, fun j hj h0 => ?_, fun j hj => ?_, h.fa, hfit.congr (fun _ _ => rfl) (fun _ _ => rfl), h.tlen, h.tcnt, h.tin, fun j hj => ?_, ⟨h.mem.1, fun j hj => ?_⟩⟩
    · show (takeR s i).tk j ≤ 2
      by_cases c : j = i
      · subst c; omega
      · rw [tk j c]; exact h.tk2 j hj
    · show (takeR s i).tk j = 0 ↔ _
      have := h.new j hj h0
      by_cases c : j = i
      · subst c; omega
      · rw [tk j c]; exact this
    · have h0 : (takeR s i).tk j = 0 := h0
      by_cases c : j = i
      · subst c; omega
      · rw [tk j c] at h0; exact h.new0 j hj h0
    · have f := h.fate j hj
      by_cases c : j = i
      · subst c; exact .inl f0
      · show s.fk j = 0 ∨ _
        simp only [tk j c]
        exact f
    · have c0 := h.cnts j hj
      show s.sheds.count j = (s.again ++ [i]).count j + if (takeR s i).tk j = 2 then 1 else 0
      rw [List.count_append, List.count_singleton]
      by_cases c : j = i
      · subst c; rw [ti]; rw [t2] at c0; simpa using c0
      · rw [tk j c, if_neg (by simpa using fun e => c e.symm)]; exact c0
    · rcases List.mem_append.1 hj with e | e
      · exact h.mem.2 j e
      · obtain rfl : j = i := by simpa using e
        exact hi
  · exact h
theorem againStep_op (k : Int) (s : RS) (i j : Nat) (hj : j ≠ i) (t : Nat) : (againStep l k s i).op t j = s.op t j := by
  unfold againStep
  split
  · show (upd s.tk i 1 j == t && s.fk j == 0) = _
    rw [upd_other _ _ hj]; rfl
  · rfl
theorem InvR.againL (hl : l.length ≤ 200) (hg : ∀ i, i < l.length → GoodJ l i) {k : Nat} (hk : k ≤ 10001) : ∀ (L : List Nat) {s : RS}, InvR l s k 0 → L.Nodup → (∀ i ∈ L, i < l.length ∧ s.op 2 i = true) → InvR l (L.foldl (Go.Proofs.YtnnmakkbnfckmaaDoor.againStep l k) s) k 0 := by
  intro L
  induction L with
  | nil => intro s h _ _; exact h
  | cons i L ih =>
    intro s h hnd hL
    rw [List.nodup_cons] at hnd
    obtain ⟨h1, h2⟩ := hL i (by simp)
    refine ih (h.againStep hl hg hk h1 h2) hnd.2 fun j hj => ?_
    obtain ⟨h3, h4⟩ := hL j (by simp [hj])
    exact ⟨h3, by rw [againStep_op _ _ _ _ (fun e => by subst e; exact hnd.1 hj)]; exact h4⟩
theorem againL_nodup (s : RS) : (againL l s).Nodup ∧ ∀ i ∈ againL l s, i < l.length ∧ s.op 2 i = true := by
  unfold Go.Proofs.YtnnmakkbnfckmaaDoor.againL
  refine ⟨(sortK_perm _ _).nodup_iff.2 (List.nodup_range.filter _), fun i hi => ?_⟩
  have := (sortK_perm _ _).mem_iff.1 hi
  simpa using this

/-! ### Who runs -/
theorem InvR.idle {s : RS} {k : Nat} (h : InvR l s k l.length) (hh : headR l s = none) : InvR l { s with trace := s.trace ++ [none] } (k + 1) 0 := by
  have no := pick_none hh
  have e : ∀ i, i < l.length → (((k : Int) < at0 J.rel l i ∨ (at0 J.rel l i = k ∧ l.length ≤ i)) ↔ (((k + 1 : Nat) : Int) < at0 J.rel l i ∨ (at0 J.rel l i = ((k + 1 : Nat) : Int) ∧ 0 ≤ i))) := fun i hi => by omega
  refine ⟨h.tk2, fun i hi h0 => by rw [← e i hi]; exact h.new i hi h0, fun i hi hc => h.wait i hi ((e i hi).2 hc), h.ran, h.run0, h.new0, h.fate, fun i hi => ⟨(h.fa i hi).1, by have := (h.fa i hi).2; show s.fa i ≤ _; omega⟩, ?_, by simp [h.tlen], fun i hi => ?_, fun t i ht => ?_, h.cnts, h.mem⟩
  · rintro D ⟨i, hi, ho, _⟩
    have : s.op 1 i = true := ho
    rw [no i hi] at this; cases this
  · have := h.tcnt i hi
    simpa [List.count_append] using this
  · by_cases c : t < s.trace.length
    · rw [List.getElem?_append_left c] at ht; exact h.tin t i ht
    · rw [List.getElem?_append_right (by omega)] at ht
      have : (t - s.trace.length) = 0 ∨ 0 < t - s.trace.length := by omega
      rcases this with c | c
      · rw [c] at ht; simp at ht
      · rw [List.getElem?_eq_none (by simp; omega)] at ht; cases ht
/-- One that runs: s1 is what follows, it being still open, or said to be done. -/
theorem InvR.runs (hg : ∀ i, i < l.length → GoodJ l i) {s s1 : RS} {k i : Nat} (h : InvR l s k l.length) (hh : headR l s = some i)
    (e1 : s1.tk = s.tk) (e2 : s1.ran = upd s.ran i (s.ran i + 1)) (e3 : s1.trace = s.trace ++ [some i]) (e4 : s1.sheds = s.sheds) (e5 : s1.again = s.again)
    (e6 : ∀ j, j ≠ i → s1.fk j = s.fk j ∧ s1.fa j = s.fa j) (e8 : 0 ≤ s1.fa i ∧ s1.fa i ≤ (k + 1 : Nat))
    (e7 : (s1.fk i = 0 ∧ s.ran i + 1 < at0 workJ l i) ∨ (s1.fk i = 1 ∧ runsAt l i = true ∧ s.ran i + 1 = at0 workJ l i) ∨ (s1.fk i = 2 ∧ runsAt l i = false ∧ s.ran i + 1 = at0 workJ l i)) : InvR l s1 (k + 1) 0 := by
  obtain ⟨hi, ho, hmin⟩ := pick_some hh
  obtain ⟨t1, f0⟩ := (op_iff s 1 i).1 ho
  have g := hg i hi
  have rn := h.ran i hi
  have r0 := h.run0 i hi f0
  have hrel : ¬ ((k : Int) < at0 J.rel l i ∨ (at0 J.rel l i = k ∧ l.length ≤ i)) := fun c => by
    have := (h.new i hi f0).2 c; omega
  have hneed : 1 ≤ needR l s i := by unfold needR; have := g.le; omega
  have hdl : (k : Int) < at0 J.dl l i := by
    have h1 := h.fit (at0 J.dl l i) ⟨i, hi, ho, Int.le_refl _⟩
    have h2 := needS_term l s hi ho
    omega
  have e : ∀ j, j < l.length → (((k : Int) < at0 J.rel l j ∨ (at0 J.rel l j = k ∧ l.length ≤ j)) ↔ (((k + 1 : Nat) : Int) < at0 J.rel l j ∨ (at0 J.rel l j = ((k + 1 : Nat) : Int) ∧ 0 ≤ j))) := fun j hj => by omega
  have ri : s1.ran i = s.ran i + 1 := by rw [e2, upd_same]
  have ro : ∀ j, j ≠ i → s1.ran j = s.ran j := fun j c => by rw [e2, upd_other _ _ c]
  have sub : ∀ j, s1.op 1 j = true → s.op 1 j = true := fun j hj => by
    rw [op_iff, e1] at hj
    by_cases c : j = i
    · subst c; exact ho
    · rw [op_iff, ← (e6 j c).1]; exact hj
  refine ⟨by rw [e1]; exact h.tk2, fun j hj h0 => ?_, fun j hj hc => ?_, fun j hj => ?_, fun j hj h0 => ?_, fun j hj h0 => ?_, fun j hj => ?_, fun j hj => ?_, ?_, by rw [e3]; simp [h.tlen], fun j hj => ?_, fun t j ht => ?_, by rw [e4, e5, e1]; exact h.cnts, by rw [e4, e5]; exact h.mem⟩
  · rw [e1, ← e j hj]
    by_cases c : j = i
    · subst c; exact h.new j hj f0
    · exact h.new j hj (by rw [← (e6 j c).1]; exact h0)
  · have hc' := (e j hj).2 hc
    have c : j ≠ i := fun c => by subst c; exact hrel hc'
    rw [(e6 j c).1]; exact h.wait j hj hc'
  · by_cases c : j = i
    · subst c; rw [ri]; omega
    · rw [ro j c]; exact h.ran j hj
  · by_cases c : j = i
    · subst c; rw [ri]; omega
    · rw [ro j c]; exact h.run0 j hj (by rw [← (e6 j c).1]; exact h0)
  · rw [e1] at h0
    have c : j ≠ i := fun c => by subst c; omega
    rw [ro j c]; exact h.new0 j hj h0
  · by_cases c : j = i
    · subst c
      rw [ri, e1]
      rcases e7 with e7 | e7 | e7
      · exact .inl e7.1
      · exact .inr (.inl ⟨e7.1, e7.2.1, e7.2.2, t1⟩)
      · exact .inr (.inr (.inl ⟨e7.1, e7.2.1, e7.2.2, t1⟩))
    · rw [ro j c, (e6 j c).1, e1]; exact h.fate j hj
  · by_cases c : j = i
    · subst c; exact e8
    · rw [(e6 j c).2]; have := h.fa j hj; omega
  · rintro D ⟨j, hj, hoj, hdj⟩
    have hij := hmin j hj (sub j hoj)
    have h1 := h.fit D ⟨i, hi, ho, by omega⟩
    have h2 : needS l s1 D l.length < needS l s D l.length := by
      refine sumN_lt (k := i) (fun m hm => ?_) hi ?_
      · by_cases c : m = i
        · subst c
          rw [if_pos (c := s.op 1 m = true ∧ at0 J.dl l m ≤ D) ⟨ho, by omega⟩]
          have : needR l s1 m = needR l s m - 1 := by unfold needR; rw [ri]; omega
          split <;> omega
        · have hn : needR l s1 m = needR l s m := by unfold needR; rw [ro m c]
          rw [hn]
          by_cases d : s1.op 1 m = true ∧ at0 J.dl l m ≤ D
          · rw [if_pos d, if_pos ⟨sub m d.1, d.2⟩]; exact Int.le_refl _
          · rw [if_neg d]; split <;> omega
      · rw [if_pos (c := s.op 1 i = true ∧ at0 J.dl l i ≤ D) ⟨ho, by omega⟩]
        have : needR l s1 i = needR l s i - 1 := by unfold needR; rw [ri]; omega
        split <;> omega
    omega
  · rw [e3, List.count_append, List.count_singleton]
    have := h.tcnt j hj
    by_cases c : j = i
    · subst c; rw [ri]; simp; omega
    · rw [ro j c, if_neg (by simpa using fun e => c e.symm)]; simpa using this
  · rw [e3] at ht
    by_cases c : t < s.trace.length
    · rw [List.getElem?_append_left c] at ht; exact h.tin t j ht
    · rw [List.getElem?_append_right (by omega)] at ht
      have tl := h.tlen
      by_cases d : t - s.trace.length = 0
      · rw [d] at ht
        have : i = j := by simpa using ht
        subst this
        have : t = k := by omega
        subst this
        exact ⟨hi, by omega, hdl⟩
      · rw [List.getElem?_eq_none (by simp; omega)] at ht; cases ht
theorem InvR.run (hl : l.length ≤ 200) (hg : ∀ i, i < l.length → GoodJ l i) {s : RS} {k : Nat} (h : InvR l s k l.length) (hk : k ≤ 10000) : InvR l (runR l s k) (k + 1) 0 := by
  unfold runR
  cases hh : headR l s with
  | none => exact h.idle hh
  | some i =>
    obtain ⟨hi, ho, _⟩ := pick_some hh
    obtain ⟨t1, f0⟩ := (op_iff s 1 i).1 ho
    have r0 := h.run0 i hi f0
    have fa0 := h.fa i hi
    dsimp only
    split
    · exact h.runs hg hh rfl rfl rfl rfl rfl (fun _ _ => ⟨rfl, rfl⟩) (by show 0 ≤ s.fa i ∧ s.fa i ≤ _; omega) (.inl ⟨f0, by assumption⟩)
    · rename_i hw
      split
      · rename_i hr
        exact h.runs hg hh rfl rfl rfl rfl rfl (fun j c => ⟨upd_other _ _ c, upd_other _ _ c⟩) (by show 0 ≤ upd s.fa i _ i ∧ upd s.fa i _ i ≤ _; rw [upd_same]; omega) (.inr (.inr ⟨upd_same _ _ _, hr, by omega⟩))
      · rename_i hr
        have hr' : runsAt l i = true := by simpa using hr
        have h2 := h.runs (s1 := RS.say { s with trace := s.trace ++ [some i], ran := upd s.ran i (s.ran i + 1) } i 1 (k + 1)) hg hh rfl rfl rfl rfl rfl (fun j c => ⟨upd_other _ _ c, upd_other _ _ c⟩) (by show 0 ≤ upd s.fa i _ i ∧ upd s.fa i _ i ≤ _; rw [upd_same]; omega) (.inr (.inl ⟨upd_same _ _ _, hr', by omega⟩))
        split
        · unfold againR
          obtain ⟨a1, a2⟩ := againL_nodup (l := l) (RS.say { s with trace := s.trace ++ [some i], ran := upd s.ran i (s.ran i + 1) } i 1 (k + 1))
          have := InvR.againL hl hg (k := k + 1) (by omega) _ h2 a1 a2
          simpa using this
        · exact h2
theorem robT_inv (hl : l.length ≤ 200) (hg : ∀ i, i < l.length → GoodJ l i) : ∀ k, k ≤ 10000 → InvR l (robT l k) k 0 := by
  intro k
  induction k with
  | zero => intro _; exact .start hg
  | succ k ih =>
    intro hk
    unfold robT tickR
    exact InvR.run hl hg (InvR.arrives hl hg (ih (by omega)).late (by omega) _ (Nat.le_refl _)) (by omega)
theorem maxDl_ge (l : List J) (n : Int) : n ≤ maxDl n l ∧ ∀ j ∈ l, j.dl ≤ maxDl n l := by
  induction l generalizing n with
  | nil => exact ⟨Int.le_refl _, by simp⟩
  | cons x l ih =>
    have h := ih (max n x.dl)
    unfold maxDl at h ⊢
    rw [List.foldl_cons]
    refine ⟨by omega, fun j hj => ?_⟩
    rcases List.mem_cons.1 hj with e | e
    · subst e; omega
    · exact h.2 j e
theorem maxDl_le (l : List J) (n c : Int) (hn : n ≤ c) (h : ∀ j ∈ l, j.dl ≤ c) : maxDl n l ≤ c := by
  induction l generalizing n with
  | nil => exact hn
  | cons x l ih =>
    unfold maxDl at ih ⊢
    rw [List.foldl_cons]
    exact ih _ (by have := h x (by simp); omega) fun j hj => h j (by simp [hj])
theorem endJ_is {l : List J} (h : allB l = true) : 0 ≤ endJ l ∧ endJ l ≤ 10000 ∧ ∀ i, i < l.length → at0 J.dl l i ≤ endJ l := by
  have hg := (allB_all h).2
  have e : endJ l = maxDl 0 l := by unfold endJ; rw [h]; rfl
  rw [e]
  refine ⟨(maxDl_ge l 0).1, maxDl_le l 0 10000 (by omega) fun j hj => ?_, fun i hi => ?_⟩
  · obtain ⟨i, hi, rfl⟩ := List.getElem_of_mem hj
    have := (goodJ_of hg hi).dl
    rwa [at0_eq _ _ hi] at this
  · rw [at0_eq _ _ hi]; exact (maxDl_ge l 0).2 _ (List.getElem_mem hi)
/-- At the end none is open that is not shed. -/
theorem InvR.done (hg : ∀ i, i < l.length → GoodJ l i) {s : RS} {k : Nat} (h : InvR l s k 0) (hd : ∀ i, i < l.length → at0 J.dl l i ≤ k) (i : Nat) (hi : i < l.length) (h0 : s.fk i = 0) : s.tk i = 2 := by
  have g := hg i hi
  have h2 := h.tk2 i hi
  have hn := h.new i hi h0
  have g1 := g.lt
  have g2 := hd i hi
  have a0 : s.tk i ≠ 0 := fun c => by have := hn.1 c; omega
  have a1 : s.tk i ≠ 1 := fun c => by
    have ho : s.op 1 i = true := (op_iff s 1 i).2 ⟨c, h0⟩
    have h1 := h.fit (at0 J.dl l i) ⟨i, hi, ho, Int.le_refl _⟩
    have h2 := needS_term l s hi ho
    have r := h.run0 i hi h0
    have : 1 ≤ needR l s i := by unfold needR; have := g.le; omega
    omega
  omega
end Go.Proofs.YtnnmakkbnfckmaaDoor
