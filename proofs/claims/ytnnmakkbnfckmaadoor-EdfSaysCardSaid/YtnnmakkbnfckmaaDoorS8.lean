/- The library's stable sort at a row of pairs: each class in its order, all by the number. -/
import Derived.Test.YtnnmakkbnfckmaaDoorP4
import Derived.Test.YtnnmakkbnfckmaaDoorS6
namespace Go.Proofs.YtnnmakkbnfckmaaDoor
open Go.RowKit Go.Shelf Go.Sort Go.Lib
variable {α : Type} [Inhabited α]

theorem symAllL {iv : α → (Int×Int)} {g : Nat} {cb : Array Value} {key : α → Int} {d0 : Array α} {w0 : World} {blk off : Nat} (H : SortL iv g cb key d0 w0 blk off) (cap : Nat) (n : Nat) :
    ∀ a m b : Nat, b - a ≤ n → a < m → m < b → b ≤ d0.size → SymCL iv g cb key w0 blk off cap d0.size a m b := by
  induction n with
  | zero => intro a m b h1 h2 h3; omega
  | succ n ih =>
    intro a m b h1 h2 h3 h4 d W hs S u v
    by_cases c1 : m = a + 1
    · subst c1
      have := symOneL H hs S cap h3 (by omega) v
      rwa [hs] at this
    · by_cases c2 : b = m + 1
      · subst c2
        have := symLastL H hs S cap (show a + 1 < m by omega) (by omega) u
        rwa [hs] at this
      · have := symBothL H cap hs S (show a + 1 < m by omega) (show m + 1 < b by omega) (by omega) u v (fun a' m' b' x1 x2 x3 x4 => by rw [hs]; exact ih a' m' b' (by omega) x2 x3 (by omega))
        rwa [hs] at this

set_option maxHeartbeats 16000000 in
set_option maxRecDepth 1000000 in
theorem stableL {iv : α → (Int×Int)} {g : Nat} {cb : Array Value} {key : α → Int} {d : Array α} {w0 : World} {blk off : Nat} (H : SortL iv g cb key d w0 blk off) (cap : Nat) (hsm : d.size ≤ 1000000) :
    Calls Tryd.prog 112 #[.slice (some ⟨blk, off, none⟩) d.size cap, .int .i64 d.size, .func (.func g) #[] cb] w0 fun e w' => e = .returned (.tuple #[]) ∧
      ∃ d' : Array α, d'.size = d.size ∧ StabF key 0 d.size (fa d) (fa d') ∧ SortF key 0 d.size (fa d') ∧ SWL iv w0 blk off d' w' := by
  have S0 : Aside (SWL iv w0 blk off d w0) := SWK.start H.R.hH
  obtain ⟨n, hn⟩ : ∃ n, n = d.size := ⟨_, rfl⟩
  have INS : Hid (∀ (dk : Array α) (W : World) (a b : Nat), dk.size = n → SWL iv w0 blk off dk W → a ≤ b → b ≤ n → Calls Tryd.prog 136 #[.slice (some ⟨blk, off, none⟩) n cap, .int .i64 a, .int .i64 b, .func (.func g) #[] cb] W fun e w' => e = .returned (.tuple #[]) ∧ ∃ d' : Array α, d'.size = n ∧ StabF key a b (fa dk) (fa d') ∧ SortF key a b (fa d') ∧ SWL iv w0 blk off d' w') := fun dk W a b h1 h2 h3 h4 => by
    have := insertionL H (h1.trans hn) h2 cap h3 (by omega)
    rwa [h1] at this
  have SYM : Hid (∀ a m b : Nat, a < m → m < b → b ≤ n → SymCL iv g cb key w0 blk off cap n a m b) := fun a m b h1 h2 h3 => by
    rw [hn]; exact symAllL H cap _ a m b (Nat.le_refl _) h1 h2 (by omega)
  rw [← hn] at hsm
  rw [← hn]
  have HN : Hid (n = d.size) := hn
  clear hn H
  go_enter Tryd.func112, Tryd.ntmps112
  go_wp2_with fail
  go_loopg [7, 8] n (fun gk va vb wr => ∃ (a b : Nat) (dk : Array α), va = .int .i64 a ∧ vb = .int .i64 b ∧ b ≤ a + 20 ∧ a + 20 ≤ b ∧ a ≤ n ∧ n - a ≤ gk ∧ dk.size = n ∧ Hid (20 ∣ a ∧ Fst key 20 a (fa dk) ∧ StabF key 0 n (fa d) (fa dk)) ∧ Aside (SWL iv w0 blk off dk wr))
  case atStart => exact ⟨0, 20, d, by go_num, by go_num, by omega, by omega, by omega, by omega, HN.out.symm, ⟨Nat.dvd_zero _, Fst.start _ _, StabF.refl ..⟩, S0⟩
  case round =>
    clear S0
    obtain ⟨a, b, dk, rfl, rfl, hb1, hb2, han, hg, hsk, HF, S1⟩ := hrel
    by_cases hlt : b ≤ n
    · have hltz : (b : Int) ≤ (n : Int) := by omega
      have rb : IntKind.i64.wrap ((b : Int) + 20) = (b : Int) + 20 := by rw [IntKind.wrap_i64]; omega
      have hc := INS.out dk wr a b hsk S1.out (by omega) hlt
      go_wp2_with (go_at_call 136; with_reducible refine hc.mono ?_; rintro e1 w1 ⟨rfl, d', h1, h2, h3, h4⟩)
      have eab : a + 20 = b := by omega
      have HF2 : Hid (20 ∣ b ∧ Fst key 20 b (fa d') ∧ StabF key 0 n (fa d) (fa d')) := by
        rw [← eab] at h2 h3 ⊢
        exact ⟨Nat.dvd_add HF.out.1 (Nat.dvd_refl _), HF.out.2.1.step HF.out.1 h2 h3, HF.out.2.2.trans (h2.mono (by omega) (by omega) (by omega))⟩
      have S2 : Aside (SWL iv w0 blk off d' w1) := h4
      clear h2 h3 h4 hc S1 HF eab
      go_roundg (n - b)
      case measure => omega
      case rel => exact ⟨b, b + 20, d', rfl, by go_num, by omega, by omega, by omega, by omega, h1, HF2, S2⟩
    · have hltz : ¬ (b : Int) ≤ (n : Int) := by omega
      have hc := INS.out dk wr a n hsk S1.out han (Nat.le_refl _)
      go_wp2_with (go_at_call 136; with_reducible refine hc.mono ?_; rintro e1 w1 ⟨rfl, d', h1, h2, h3, h4⟩)
      have HB : Hid (Blk key 20 n (fa d') ∧ StabF key 0 n (fa d) (fa d')) := ⟨HF.out.2.1.last HF.out.1 (by omega) han h2 h3, HF.out.2.2.trans (h2.mono (by omega) han (Nat.le_refl _))⟩
      have S2 : Aside (SWL iv w0 blk off d' w1) := h4
      clear h2 h3 h4 hc S1 HF INS hb1 hb2 han hlt hltz hg
      go_loopg [6, 7, 8, 9] n (fun gk vs va vb vm wr => ∃ (s : Nat) (dk : Array α), vs = .int .i64 s ∧ 0 < s ∧ s ≤ 2 * n + 20 ∧ n - s ≤ gk ∧ dk.size = n ∧ Hid (Blk key s n (fa dk) ∧ StabF key 0 n (fa d) (fa dk)) ∧ Aside (SWL iv w0 blk off dk wr))
      case atStart => exact ⟨20, d', by go_num, by omega, by omega, by omega, h1, HB, S2⟩
      case round =>
        clear S2 HB
        obtain ⟨s, dj, rfl, hs0, hs1, hg, hsj, HB, S3⟩ := hrel
        by_cases hsn : s < n
        · have hsz : (s : Int) < (n : Int) := by omega
          obtain ⟨t, ht⟩ : ∃ t, t = 2 * s := ⟨_, rfl⟩
          have htz : 2 * (s : Int) = (t : Int) := by omega
          have htz' : (s : Int) * 2 = (t : Int) := by omega
          have rt : IntKind.i64.wrap (t : Int) = (t : Int) := by rw [IntKind.wrap_i64]; omega
          have ht1 : t ≤ 2 * s := by omega
          have ht2 : 2 * s ≤ t := by omega
          have HT : Hid (t = 2 * s) := ht
          clear ht
          go_wp2_with fail
          go_loopg [7, 8] n (fun gk va vb wr => ∃ (a b : Nat) (dk : Array α), va = .int .i64 a ∧ vb = .int .i64 b ∧ b ≤ a + t ∧ a + t ≤ b ∧ a ≤ n ∧ n - a ≤ gk ∧ dk.size = n ∧ Hid (2 * s ∣ a ∧ Half key s n a (fa dk) ∧ StabF key 0 n (fa d) (fa dk)) ∧ Aside (SWL iv w0 blk off dk wr))
          case atStart => exact ⟨0, t, dj, by go_num, rfl, by omega, by omega, by omega, by omega, hsj, ⟨Nat.dvd_zero _, Half.start HB.out.1, HB.out.2⟩, S3⟩
          case round =>
            clear S3 HB
            obtain ⟨a, b, dk, rfl, rfl, hb1, hb2, han, hg2, hsk, HF, S1⟩ := hrel
            obtain ⟨m, hm⟩ : ∃ m, m = a + s := ⟨_, rfl⟩
            have hmz : (a : Int) + (s : Int) = (m : Int) := by omega
            have rm : IntKind.i64.wrap (m : Int) = (m : Int) := by rw [IntKind.wrap_i64]; omega
            have HM : Hid (m = a + s) := hm
            clear hm
            by_cases hlt : b ≤ n
            · have hltz : (b : Int) ≤ (n : Int) := by omega
              have rb : IntKind.i64.wrap ((b : Int) + (t : Int)) = (b : Int) + (t : Int) := by rw [IntKind.wrap_i64]; omega
              have hm := HM.out
              have htw := HF.out.2.1.two HF.out.1 (by omega)
              have eb : a + 2 * s = b := by omega
              rw [← hm, Nat.min_eq_left (by omega), eb] at htw
              have hc := SYM.out a m b (by omega) (by omega) hlt dk wr hsk S1.out htw.1 htw.2
              clear hm htw
              go_wp2_with (go_at_call 137; with_reducible refine hc.mono ?_; rintro e1 w1 ⟨rfl, d', h1, h2, h3, h4⟩)
              have HF2 : Hid (2 * s ∣ b ∧ Half key s n b (fa d') ∧ StabF key 0 n (fa d) (fa d')) := by
                rw [← eb] at h2 h3 ⊢
                exact ⟨Nat.dvd_add HF.out.1 (Nat.dvd_refl _), HF.out.2.1.step HF.out.1 h2 h3, HF.out.2.2.trans (h2.mono (by omega) (by omega) (by omega))⟩
              have S2 : Aside (SWL iv w0 blk off d' w1) := h4
              clear h2 h3 h4 hc S1 HF eb
              go_roundg (n - b)
              case measure => omega
              case rel => exact ⟨b, b + t, d', rfl, by go_num, by omega, by omega, by omega, by omega, h1, HF2, S2⟩
            · have hltz : ¬ (b : Int) ≤ (n : Int) := by omega
              by_cases hmn : m < n
              · have hmnz : (m : Int) < (n : Int) := by omega
                have hm := HM.out
                have htw := HF.out.2.1.two HF.out.1 (by omega)
                rw [← hm, Nat.min_eq_right (by omega)] at htw
                have hc := SYM.out a m n (by omega) (by omega) (Nat.le_refl _) dk wr hsk S1.out htw.1 htw.2
                clear hm htw
                go_wp2_with (go_at_call 137; with_reducible refine hc.mono ?_; rintro e1 w1 ⟨rfl, d', h1, h2, h3, h4⟩)
                have HF2 : Hid (Blk key t n (fa d') ∧ StabF key 0 n (fa d) (fa d')) := by
                  rw [HT.out]
                  exact ⟨HF.out.2.1.last HF.out.1 (by omega) han h2 h3, HF.out.2.2.trans (h2.mono (by omega) han (Nat.le_refl _))⟩
                have S2 : Aside (SWL iv w0 blk off d' w1) := h4
                clear h2 h3 h4 hc S1 HF
                go_roundg (n - t)
                case measure => omega
                case rel => exact ⟨t, d', rfl, by omega, by omega, by omega, h1, HF2, S2⟩
              · have hmnz : ¬ (m : Int) < (n : Int) := by omega
                have HF2 : Hid (Blk key t n (fa dk) ∧ StabF key 0 n (fa d) (fa dk)) := by
                  rw [HT.out]
                  have hm := HM.out
                  exact ⟨HF.out.2.1.last HF.out.1 (by omega) han (StabF.refl ..) (HF.out.2.1.one HF.out.1 (by omega)), HF.out.2.2⟩
                clear HF
                go_wp2_with fail
                go_roundg (n - t)
                case measure => omega
                case rel => exact ⟨t, dk, rfl, by omega, by omega, by omega, hsk, HF2, S1⟩
        · have hsz : ¬ (s : Int) < (n : Int) := by omega
          have hA := HB.out.1.all (show n ≤ s by omega)
          go_wp2_with fail
          go_end0
          exact ⟨rfl, dj, hsj, HB.out.2, hA, S3.out⟩

set_option maxHeartbeats 4000000 in
set_option maxRecDepth 1000000 in
/-- The library's stable sort: what the row holds behind it is the stable sort of what it held. -/
theorem sortStableL {iv : α → (Int×Int)} {g : Nat} {cb : Array Value} {key : α → Int} {d : Array α} {w0 : World} {blk off : Nat} (H : SortL iv g cb key d w0 blk off) (cap : Nat) (hsm : d.size ≤ 1000000) :
    Calls Tryd.prog 72 #[.slice (some ⟨blk, off, none⟩) d.size cap, .func (.func g) #[] cb] w0 fun e w' => e = .returned (.tuple #[]) ∧ ∃ d' : Array α, d'.toList = sortK key d.toList ∧ SWL iv w0 blk off d' w' := by
  have hc := stableL H cap hsm
  go_enter Tryd.func72, Tryd.ntmps72
  go_wp2_with (go_at_call 112; with_reducible refine hc.mono ?_; rintro e1 w1 ⟨rfl, d', h1, h2, h3, h4⟩)
  go_end0
  refine ⟨rfl, d', ?_, h4⟩
  have := sortK_of h2 h3
  rw [fa_toList, ← h1, fa_toList] at this
  exact this
end Go.Proofs.YtnnmakkbnfckmaaDoor
