/- The merge in place of the library's stable sort, at a row of pairs. -/
import Derived.Test.YtnnmakkbnfckmaaDoorGS
namespace Go.Proofs.YtnnmakkbnfckmaaDoor
open Go.RowKit Go.Shelf Go.Sort Go.Lib
variable {α : Type} [Inhabited α]

/-- What a call of the merge does. -/
def SymCL (iv : α → (Int×Int)) (g : Nat) (cb : Array Value) (key : α → Int) (w0 : World) (blk off cap size : Nat) (a m b : Nat) : Prop :=
  ∀ (d : Array α) (W : World), d.size = size → SWL iv w0 blk off d W → SortF key a m (fa d) → SortF key m b (fa d) →
    Calls Tryd.prog 137 #[.slice (some ⟨blk, off, none⟩) size cap, .int .i64 a, .int .i64 m, .int .i64 b, .func (.func g) #[] cb] W fun e w' => e = .returned (.tuple #[]) ∧
      ∃ d' : Array α, d'.size = size ∧ StabF key a b (fa d) (fa d') ∧ SortF key a b (fa d') ∧ SWL iv w0 blk off d' w'

set_option maxHeartbeats 16000000 in
set_option maxRecDepth 1000000 in
theorem symBothL {iv : α → (Int×Int)} {g : Nat} {cb : Array Value} {key : α → Int} {d0 : Array α} {w0 : World} {blk off : Nat} (H : SortL iv g cb key d0 w0 blk off) (cap : Nat) {d : Array α} {w : World} (hs : d.size = d0.size) (S : SWL iv w0 blk off d w) {a m b : Nat} (ham : a + 1 < m) (hmb : m + 1 < b) (hb : b ≤ d.size)
    (hu : SortF key a m (fa d)) (hv : SortF key m b (fa d)) (ih : ∀ a' m' b', b' - a' < b - a → a' < m' → m' < b' → b' ≤ d.size → SymCL iv g cb key w0 blk off cap d.size a' m' b') :
    Calls Tryd.prog 137 #[.slice (some ⟨blk, off, none⟩) d.size cap, .int .i64 a, .int .i64 m, .int .i64 b, .func (.func g) #[] cb] w fun e w' => e = .returned (.tuple #[]) ∧
      ∃ d' : Array α, d'.size = d.size ∧ StabF key a b (fa d) (fa d') ∧ SortF key a b (fa d') ∧ SWL iv w0 blk off d' w' := by
  have hz : d.size < 4611686018427387904 := hs ▸ H.sz
  have eg := H.eg
  have ROT : Hid (∀ (dk : Array α) (W : World) (a m b : Nat), dk.size = d.size → SWL iv w0 blk off dk W → a < m → m < b → b ≤ d.size → Calls Tryd.prog 144 #[.slice (some ⟨blk, off, none⟩) d.size cap, .int .i64 a, .int .i64 m, .int .i64 b, .func (.func g) #[] cb] W fun e w' => e = .returned (.tuple #[]) ∧ ∃ d' : Array α, d'.size = d.size ∧ fa d' = rotF (fa dk) a m b ∧ SWL iv w0 blk off d' w') := fun dk W a m b h1 h2 h3 h4 h5 => by
    have := rotateL H (h1.trans hs) h2 cap (.func (.func g) #[] cb) h3 h4 (by omega)
    rwa [h1] at this
  have HH : Hid (SortL iv g cb key d0 w0 blk off) := H
  have HV : Hid (SortF key a m (fa d) ∧ SortF key m b (fa d)) := ⟨hu, hv⟩
  have IH : Hid _ := ih
  have RR : Hid (∀ x : Nat, x = d.size → x = d0.size) := fun x e => e.trans hs
  clear hs H hu hv ih
  have mixed : Tryd.prog.follows .mixedOrders = true := by kernel_rfl
  have S0 : Aside (SWL iv w0 blk off d w) := S
  clear S
  have r1 : IntKind.i64.wrap ((m : Int) - (a : Int)) = (m : Int) - (a : Int) := by rw [IntKind.wrap_i64]; omega
  have n1 : ¬ (m : Int) - (a : Int) = 1 := by omega
  have n2 : ((m : Int) - (a : Int) == 1) = false := beq_false_of_ne n1
  have r3 : IntKind.i64.wrap ((b : Int) - (m : Int)) = (b : Int) - (m : Int) := by rw [IntKind.wrap_i64]; omega
  have n3 : ¬ (b : Int) - (m : Int) = 1 := by omega
  have n4 : ((b : Int) - (m : Int) == 1) = false := beq_false_of_ne n3
  obtain ⟨mid, hmid⟩ : ∃ c, c = (a + b) / 2 := ⟨_, rfl⟩
  have hmz : ((a : Int) + (b : Int)) / 2 = (mid : Int) := by omega
  obtain ⟨n, hn⟩ : ∃ n, n = mid + m := ⟨_, rfl⟩
  have hnz : (mid : Int) + (m : Int) = (n : Int) := by omega
  have rn : IntKind.i64.wrap (n : Int) = (n : Int) := by rw [IntKind.wrap_i64]; omega
  obtain ⟨p, hp⟩ : ∃ p, p + 1 = n := ⟨n - 1, by omega⟩
  have hpz : (n : Int) - 1 = (p : Int) := by omega
  have rp : IntKind.i64.wrap (p : Int) = (p : Int) := by rw [IntKind.wrap_i64]; omega
  obtain ⟨lo, hi, hlh⟩ : ∃ lo hi, (mid < m ∧ lo + b = mid + m ∧ hi = mid) ∨ (m ≤ mid ∧ lo = a ∧ hi = m) := by
    by_cases h : mid < m
    · exact ⟨mid + m - b, mid, Or.inl ⟨h, by omega, rfl⟩⟩
    · exact ⟨a, m, Or.inr ⟨by omega, rfl, rfl⟩⟩
  have LH : Hid _ := hlh
  have LL : Hid _ := hlh
  have MID : Hid (mid = (a + b) / 2 ∧ n = mid + m ∧ p + 1 = n) := ⟨hmid, hn, hp⟩
  have hlb : a ≤ lo ∧ lo ≤ hi ∧ hi ≤ mid ∧ hi ≤ m ∧ mid < b ∧ a < mid ∧ n ≤ b + lo ∧ n < 2 * b ∧ m + hi ≤ n := by omega
  obtain ⟨b1, b2, b3, b4, b5, b6, b7, b8, b9⟩ := hlb
  clear hlh hmid hn
  go_enter Tryd.func137, Tryd.ntmps137
  go_upto_if 140 with fail
  go_cut [20, 21] (fun s r wx => s = .int .i64 lo ∧ r = .int .i64 hi ∧ wx = w)
  case first => as_aux_lemma =>
    rcases LH.out with ⟨h1, h2, h3⟩ | ⟨h1, h2, h3⟩
    · have z1 : (mid : Int) < (m : Int) := by omega
      have z2 : (n : Int) - (b : Int) = (lo : Int) := by have := MID.out; omega
      have z3 : IntKind.i64.wrap (lo : Int) = (lo : Int) := by rw [IntKind.wrap_i64]; omega
      go_wp2_with fail
      go_meet
      exact ⟨rfl, by rw [h3], rfl⟩
    · have z1 : ¬ (mid : Int) < (m : Int) := by omega
      go_wp2_with fail
      go_meet
      exact ⟨by rw [h2], by rw [h3], rfl⟩
  case rest =>
    obtain ⟨rfl, rfl, rfl⟩ := hcut
    clear LH
    go_wp2_with fail
    go_loopg [20, 21] d.size (fun gk vi vj wr => ∃ i j : Nat, vi = .int .i64 i ∧ vj = .int .i64 j ∧ lo ≤ i ∧ i ≤ j ∧ j ≤ hi ∧ j - i ≤ gk ∧ Hid ((i = lo ∨ (lo < i ∧ key (fa d (i - 1)) ≤ key (fa d (p - (i - 1))))) ∧ (j = hi ∨ key (fa d (p - j)) < key (fa d j))) ∧ Aside (SWL iv w0 blk off d wr))
    case atStart => exact ⟨lo, hi, rfl, rfl, by omega, by omega, by omega, by omega, (show _ ∧ _ from ⟨Or.inl rfl, Or.inl rfl⟩), S0⟩
    case round =>
      clear S0
      obtain ⟨i, j, rfl, rfl, hai, hij, hjb, hg, HI, S1⟩ := hrel
      by_cases hlt : i < j
      · have hltz : (i : Int) < (j : Int) := by omega
        obtain ⟨c, hcc⟩ : ∃ c, c = (i + j) / 2 := ⟨_, rfl⟩
        have hcz : ((i : Int) + (j : Int)) / 2 = (c : Int) := by omega
        obtain ⟨c', hc'⟩ : ∃ c', c' + c = p := ⟨p - c, by omega⟩
        have hcz' : (p : Int) - (c : Int) = (c' : Int) := by omega
        have rc' : IntKind.i64.wrap (c' : Int) = (c' : Int) := by rw [IntKind.wrap_i64]; omega
        have bc : (c : Int) < (d.size : Int) := by omega
        have bc' : (c' : Int) < (d.size : Int) := by omega
        obtain ⟨x, hx⟩ : ∃ x, d[c]! = x := ⟨_, rfl⟩
        obtain ⟨y, hy⟩ : ∃ y, d[c']! = y := ⟨_, rfl⟩
        obtain ⟨l1, l2⟩ := elL S1.out HH.out.R (RR.out _ rfl) c (by omega) x hx
        obtain ⟨l3, l4⟩ := elL S1.out HH.out.R (RR.out _ rfl) c' (by omega) y hy
        obtain ⟨q, hq⟩ : ∃ q, Lib.compareInt (key y) (key x) = q := ⟨_, rfl⟩
        have hcl := cmpL HH.out S1.out (RR.out _ rfl) y x q hq
        have hqk := cmp_lt q hq
        rw [← hx, ← hy] at hqk
        have HQ : Hid (q < 0 ↔ key (fa d c') < key (fa d c)) := hqk
        have hcc' : Hid (c = (i + j) / 2 ∧ c' + c = p) := ⟨hcc, hc'⟩
        clear hqk hq hx hy hcc hc'
        by_cases hneg : q < 0
        · as_aux_lemma =>
          have hnd : decide (q < 0) = true := decide_eq_true hneg
          go_wp2_with fail
          go_quiet_grown (first | (go_at_fn g; refine Calls.grown_of (hcl _ _)))
          have S2 : Aside (SWL iv w0 blk off d (grow (wr.drewN nq) osq)) := S1.out.grown nq osq
          clear l1 l2 l3 l4 hcl S1
          generalize grow (wr.drewN nq) osq = w2 at S2 ⊢
          go_wp2
          have hcc := hcc'.out
          go_roundg (c - i)
          case measure => omega
          case rel =>
            exact ⟨i, c, rfl, rfl, hai, by omega, by omega, by omega, (show _ ∧ _ from ⟨HI.out.1, Or.inr (by
              have := HQ.out
              rw [show p - c = c' by omega]; omega)⟩), S2⟩
        · as_aux_lemma =>
          have hnd : decide (q < 0) = false := decide_eq_false hneg
          go_wp2_with fail
          go_quiet_grown (first | (go_at_fn g; refine Calls.grown_of (hcl _ _)))
          have S2 : Aside (SWL iv w0 blk off d (grow (wr.drewN nq) osq)) := S1.out.grown nq osq
          clear l1 l2 l3 l4 hcl S1
          generalize grow (wr.drewN nq) osq = w2 at S2 ⊢
          go_wp2
          have hcc := hcc'.out
          go_roundg (j - (c + 1))
          case measure => omega
          case rel =>
            exact ⟨c + 1, j, by go_num, rfl, by omega, by omega, hjb, by omega, (show _ ∧ _ from ⟨Or.inr ⟨by omega, by
              have := HQ.out
              rw [show c + 1 - 1 = c by omega, show p - c = c' by omega]; omega⟩, HI.out.2⟩), S2⟩
      · have hltz : ¬ (i : Int) < (j : Int) := by omega
        have hij' : i = j := by omega
        subst hij'
        clear hlt hij
        obtain ⟨e, he⟩ : ∃ e, i + e = n := ⟨n - i, by omega⟩
        have hez : (n : Int) - (i : Int) = (e : Int) := by omega
        have re : IntKind.i64.wrap (e : Int) = (e : Int) := by rw [IntKind.wrap_i64]; omega
        have CUT := sym_cut (f := fa d) (a := a) (m := m) (b := b) (mid := mid) (lo := lo) (hi := hi) (s := i) (e := e) (key := key) (by omega) (by omega) MID.out.1 (by have := MID.out; omega) HV.out.1 HV.out.2 LL.out hai hjb
          (HI.out.1.imp id fun h => by rw [show e = p - (i - 1) by have := MID.out; have := h.1; omega]; exact h.2) (HI.out.2.imp id fun h => by rw [show e - 1 = p - i by have := MID.out; omega]; exact h)
        obtain ⟨q1, q2, q3, q4, q5, q6, q7⟩ := CUT
        have PARTS := sym_parts q1 q2 q3 q4 q5 HV.out.1 HV.out.2 q6 q7
        have DONE : Hid (∀ g1 g2 : Nat → α, StabF key a mid (rotF (fa d) i m e) g1 → SortF key a mid g1 → StabF key mid b g1 g2 → SortF key mid b g2 → StabF key a b (fa d) g2 ∧ SortF key a b g2) := fun g1 g2 => sym_done q1 q2 q3 q4 q5 HV.out.1 HV.out.2 q6 q7
        have PART : Hid _ := PARTS
        clear PARTS q6 q7 HV HI
        have HE : Hid (i + e = n) := he
        clear he b2 b3 b4 b7 b8 b9
        obtain ⟨T, hT⟩ : ∃ T : Bool, T = decide (i < m ∧ m < e) := ⟨_, rfl⟩
        have HT : Hid (T = decide (i < m ∧ m < e)) := hT
        clear hT
        go_upto_region 39 with fail
        go_cut [185] (fun s wx => s = .bool T ∧ wx = wr)
        case first => as_aux_lemma =>
          by_cases t1 : i < m
          · have z1 : (i : Int) < (m : Int) := by omega
            by_cases t2 : m < e
            · have z2 : (m : Int) < (e : Int) := by omega
              go_wp2_with fail
              all_goals (go_meet; exact ⟨by rw [HT.out]; simp [t1, t2], rfl⟩)
            · have z2 : ¬ (m : Int) < (e : Int) := by omega
              go_wp2_with fail
              all_goals (go_meet; exact ⟨by rw [HT.out]; simp [t1, t2], rfl⟩)
          · have z1 : ¬ (i : Int) < (m : Int) := by omega
            go_wp2_with fail
            all_goals (go_meet; exact ⟨by rw [HT.out]; simp [t1], rfl⟩)
        case rest =>
          obtain ⟨rfl, rfl⟩ := hcut
          go_upto_if 185 with fail
          go_cut [] (fun wx => ∃ d1 : Array α, d1.size = d.size ∧ Hid (fa d1 = rotF (fa d) i m e) ∧ Aside (SWL iv w0 blk off d1 wx))
          case first => as_aux_lemma =>
            cases T with
            | true =>
              have hh := of_decide_eq_true HT.out.symm
              have hc := ROT.out d wc i m e rfl S1.out hh.1 hh.2 (by omega)
              go_wp2_with (go_at_call 144; with_reducible refine hc.mono ?_; rintro e1 w1 ⟨rfl, d', h1, h2, h3⟩)
              go_meet
              exact ⟨d', h1, h2, h3⟩
            | false =>
              have hh := of_decide_eq_false HT.out.symm
              go_wp2_with fail
              go_meet
              exact ⟨d, rfl, (show _ = _ from (rotF_id _ q2 q3 (by omega)).symm), S1⟩
          case rest =>
            clear S1 HT
            obtain ⟨d1, hs1, HF1, S2⟩ := hcut
            obtain ⟨P1, P2, P3, P4⟩ := PART.out
            rw [← HF1.out] at P1 P2 P3 P4
            have PP : Hid (SortF key a i (fa d1) ∧ SortF key i mid (fa d1) ∧ SortF key mid e (fa d1) ∧ SortF key e b (fa d1)) := ⟨P1, P2, P3, P4⟩
            clear P1 P2 P3 P4 PART
            obtain ⟨T, hT⟩ : ∃ T : Bool, T = decide (a < i ∧ i < mid) := ⟨_, rfl⟩
            have HT : Hid (T = decide (a < i ∧ i < mid)) := hT
            clear hT
            go_upto_region 41 with fail
            go_cut [199] (fun s wx => s = .bool T ∧ wx = wc)
            case first => as_aux_lemma =>
              by_cases t1 : a < i
              · have z1 : (a : Int) < (i : Int) := by omega
                by_cases t2 : i < mid
                · have z2 : (i : Int) < (mid : Int) := by omega
                  go_wp2_with fail
                  all_goals (go_meet; exact ⟨by rw [HT.out]; simp [t1, t2], rfl⟩)
                · have z2 : ¬ (i : Int) < (mid : Int) := by omega
                  go_wp2_with fail
                  all_goals (go_meet; exact ⟨by rw [HT.out]; simp [t1, t2], rfl⟩)
              · have z1 : ¬ (a : Int) < (i : Int) := by omega
                go_wp2_with fail
                all_goals (go_meet; exact ⟨by rw [HT.out]; simp [t1], rfl⟩)
            case rest =>
              obtain ⟨rfl, rfl⟩ := hcut
              go_upto_if 199 with fail
              go_cut [] (fun wx => ∃ d2 : Array α, d2.size = d.size ∧ Hid (StabF key a mid (fa d1) (fa d2) ∧ SortF key a mid (fa d2)) ∧ Aside (SWL iv w0 blk off d2 wx))
              case first => as_aux_lemma =>
                cases T with
                | true =>
                  have hh := of_decide_eq_true HT.out.symm
                  have hc := IH.out a i mid (by omega) hh.1 hh.2 (by omega) d1 _ hs1 S2.out PP.out.1 PP.out.2.1
                  go_wp2_with (go_at_call 137; with_reducible refine hc.mono ?_; rintro e1 w1 ⟨rfl, d', h1, h2, h3, h4⟩)
                  go_meet
                  exact ⟨d', h1, ⟨h2, h3⟩, h4⟩
                | false =>
                  have hh := of_decide_eq_false HT.out.symm
                  go_wp2_with fail
                  go_meet
                  exact ⟨d1, hs1, (show _ ∧ _ from ⟨StabF.refl .., PP.out.1.whole PP.out.2.1 hh q1⟩), S2⟩
              case rest =>
                clear S2 HT
                obtain ⟨d2, hs2, HF2, S3⟩ := hcut
                have P3 : SortF key mid e (fa d2) := PP.out.2.2.1.congr fun t h1 _ => HF2.out.1.out t (Or.inr h1)
                have P4 : SortF key e b (fa d2) := PP.out.2.2.2.congr fun t h1 _ => HF2.out.1.out t (Or.inr (by have := HE.out; have := MID.out; omega))
                have Q : Hid (SortF key mid e (fa d2) ∧ SortF key e b (fa d2)) := ⟨P3, P4⟩
                have hme : mid ≤ e := by have := HE.out; have := MID.out; omega
                clear PP P3 P4
                have D : Hid (∀ g2 : Nat → α, StabF key mid b (fa d2) g2 → SortF key mid b g2 → StabF key a b (fa d) g2 ∧ SortF key a b g2) := fun g2 => DONE.out (fa d2) g2 (by rw [← HF1.out]; exact HF2.out.1) HF2.out.2
                clear DONE HF1 HF2
                by_cases t1 : mid < e
                · have z1 : (mid : Int) < (e : Int) := by omega
                  by_cases t2 : e < b
                  · have z2 : (e : Int) < (b : Int) := by omega
                    have hc := IH.out mid e b (by omega) t1 t2 (by omega) d2 _ hs2 S3.out Q.out.1 Q.out.2
                    go_wp2_with (go_at_call 137; with_reducible refine hc.mono ?_; rintro e1 w1 ⟨rfl, d', h1, h2, h3, h4⟩)
                    go_end0
                    exact ⟨rfl, d', h1, (D.out _ h2 h3).1, (D.out _ h2 h3).2, h4⟩
                  · have z2 : ¬ (e : Int) < (b : Int) := by omega
                    have hw := D.out (fa d2) (StabF.refl ..) (Q.out.1.whole Q.out.2 (fun h => t2 h.2) hme)
                    go_wp2_with fail
                    go_end0
                    exact ⟨rfl, d2, hs2, hw.1, hw.2, S3.out⟩
                · have z1 : ¬ (mid : Int) < (e : Int) := by omega
                  have hw := D.out (fa d2) (StabF.refl ..) (Q.out.1.whole Q.out.2 (fun h => t1 h.1) hme)
                  go_wp2_with fail
                  go_end0
                  exact ⟨rfl, d2, hs2, hw.1, hw.2, S3.out⟩
end Go.Proofs.YtnnmakkbnfckmaaDoor
