/- My own texts S7, S8, S9, C0, D0, E0, E1 in one. -/
import Derived.Test.YtnnmakkbnfckmaaDoorGP
import Derived.Test.YtnnmakkbnfckmaaDoorS5m
import Derived.Test.YtnnmakkbnfckmaaDoorS6m
import Derived.Test.YtnnmakkbnfckmaaDoorGS
import Derived.Test.YtnnmakkbnfckmaaDoorGA
/- The library's stable sort at a row of ints: each class in its order, all by the number. -/
namespace Go.Proofs.YtnnmakkbnfckmaaDoor
open Go.RowKit Go.Shelf Go.Sort Go.Lib
variable {α : Type} [Inhabited α]

theorem symAllI {iv : α → Int} {g : Nat} {cb : Array Value} {key : α → Int} {d0 : Array α} {w0 : World} {blk off : Nat} (H : SortI iv g cb key d0 w0 blk off) (cap : Nat) (n : Nat) :
    ∀ a m b : Nat, b - a ≤ n → a < m → m < b → b ≤ d0.size → SymCI iv g cb key w0 blk off cap d0.size a m b := by
  induction n with
  | zero => intro a m b h1 h2 h3; omega
  | succ n ih =>
    intro a m b h1 h2 h3 h4 d W hs S u v
    by_cases c1 : m = a + 1
    · subst c1
      have := symOneI H hs S cap h3 (by omega) v
      rwa [hs] at this
    · by_cases c2 : b = m + 1
      · subst c2
        have := symLastI H hs S cap (show a + 1 < m by omega) (by omega) u
        rwa [hs] at this
      · have := symBothI H cap hs S (show a + 1 < m by omega) (show m + 1 < b by omega) (by omega) u v (fun a' m' b' x1 x2 x3 x4 => by rw [hs]; exact ih a' m' b' (by omega) x2 x3 (by omega))
        rwa [hs] at this

set_option maxHeartbeats 16000000 in
set_option maxRecDepth 1000000 in
theorem stableI {iv : α → Int} {g : Nat} {cb : Array Value} {key : α → Int} {d : Array α} {w0 : World} {blk off : Nat} (H : SortI iv g cb key d w0 blk off) (cap : Nat) (hsm : d.size ≤ 1000000) :
    Calls Tryd.prog 107 #[.slice (some ⟨blk, off, none⟩) d.size cap, .int .i64 d.size, .func (.func g) #[] cb] w0 fun e w' => e = .returned (.tuple #[]) ∧
      ∃ d' : Array α, d'.size = d.size ∧ StabF key 0 d.size (fa d) (fa d') ∧ SortF key 0 d.size (fa d') ∧ SWI iv w0 blk off d' w' := by
  have S0 : Aside (SWI iv w0 blk off d w0) := SW.start H.R.hH
  obtain ⟨n, hn⟩ : ∃ n, n = d.size := ⟨_, rfl⟩
  have INS : Hid (∀ (dk : Array α) (W : World) (a b : Nat), dk.size = n → SWI iv w0 blk off dk W → a ≤ b → b ≤ n → Calls Tryd.prog 133 #[.slice (some ⟨blk, off, none⟩) n cap, .int .i64 a, .int .i64 b, .func (.func g) #[] cb] W fun e w' => e = .returned (.tuple #[]) ∧ ∃ d' : Array α, d'.size = n ∧ StabF key a b (fa dk) (fa d') ∧ SortF key a b (fa d') ∧ SWI iv w0 blk off d' w') := fun dk W a b h1 h2 h3 h4 => by
    have := insertionI H (h1.trans hn) h2 cap h3 (by omega)
    rwa [h1] at this
  have SYM : Hid (∀ a m b : Nat, a < m → m < b → b ≤ n → SymCI iv g cb key w0 blk off cap n a m b) := fun a m b h1 h2 h3 => by
    rw [hn]; exact symAllI H cap _ a m b (Nat.le_refl _) h1 h2 (by omega)
  rw [← hn] at hsm
  rw [← hn]
  have HN : Hid (n = d.size) := hn
  clear hn H
  go_enter Tryd.func107, Tryd.ntmps107
  go_wp2_with fail
  go_loopg [7, 8] n (fun gk va vb wr => ∃ (a b : Nat) (dk : Array α), va = .int .i64 a ∧ vb = .int .i64 b ∧ b ≤ a + 20 ∧ a + 20 ≤ b ∧ a ≤ n ∧ n - a ≤ gk ∧ dk.size = n ∧ Hid (20 ∣ a ∧ Fst key 20 a (fa dk) ∧ StabF key 0 n (fa d) (fa dk)) ∧ Aside (SWI iv w0 blk off dk wr))
  case atStart => exact ⟨0, 20, d, by go_num, by go_num, by omega, by omega, by omega, by omega, HN.out.symm, ⟨Nat.dvd_zero _, Fst.start _ _, StabF.refl ..⟩, S0⟩
  case round =>
    clear S0
    obtain ⟨a, b, dk, rfl, rfl, hb1, hb2, han, hg, hsk, HF, S1⟩ := hrel
    by_cases hlt : b ≤ n
    · have hltz : (b : Int) ≤ (n : Int) := by omega
      have rb : IntKind.i64.wrap ((b : Int) + 20) = (b : Int) + 20 := by rw [IntKind.wrap_i64]; omega
      have hc := INS.out dk wr a b hsk S1.out (by omega) hlt
      go_wp2_with (go_at_call 133; with_reducible refine hc.mono ?_; rintro e1 w1 ⟨rfl, d', h1, h2, h3, h4⟩)
      have eab : a + 20 = b := by omega
      have HF2 : Hid (20 ∣ b ∧ Fst key 20 b (fa d') ∧ StabF key 0 n (fa d) (fa d')) := by
        rw [← eab] at h2 h3 ⊢
        exact ⟨Nat.dvd_add HF.out.1 (Nat.dvd_refl _), HF.out.2.1.step HF.out.1 h2 h3, HF.out.2.2.trans (h2.mono (by omega) (by omega) (by omega))⟩
      have S2 : Aside (SWI iv w0 blk off d' w1) := h4
      clear h2 h3 h4 hc S1 HF eab
      go_roundg (n - b)
      case measure => omega
      case rel => exact ⟨b, b + 20, d', rfl, by go_num, by omega, by omega, by omega, by omega, h1, HF2, S2⟩
    · have hltz : ¬ (b : Int) ≤ (n : Int) := by omega
      have hc := INS.out dk wr a n hsk S1.out han (Nat.le_refl _)
      go_wp2_with (go_at_call 133; with_reducible refine hc.mono ?_; rintro e1 w1 ⟨rfl, d', h1, h2, h3, h4⟩)
      have HB : Hid (Blk key 20 n (fa d') ∧ StabF key 0 n (fa d) (fa d')) := ⟨HF.out.2.1.last HF.out.1 (by omega) han h2 h3, HF.out.2.2.trans (h2.mono (by omega) han (Nat.le_refl _))⟩
      have S2 : Aside (SWI iv w0 blk off d' w1) := h4
      clear h2 h3 h4 hc S1 HF INS hb1 hb2 han hlt hltz hg
      go_loopg [6, 7, 8, 9] n (fun gk vs va vb vm wr => ∃ (s : Nat) (dk : Array α), vs = .int .i64 s ∧ 0 < s ∧ s ≤ 2 * n + 20 ∧ n - s ≤ gk ∧ dk.size = n ∧ Hid (Blk key s n (fa dk) ∧ StabF key 0 n (fa d) (fa dk)) ∧ Aside (SWI iv w0 blk off dk wr))
      case atStart => exact ⟨20, d', by go_num, by omega, by omega, by omega, h1, HB, S2⟩
      case round =>
        clear S2 HB
        obtain ⟨s, dj, rfl, hs0, hs1, hg, hsj, HB, S3⟩ := hrel
        by_cases hsn : s < n
        · have hsz : (s : Int) < (n : Int) := by omega
          obtain ⟨t, ht⟩ : ∃ t, t = 2 * s := ⟨_, rfl⟩
          have htz : 2 * (s : Int) = (t : Int) := by omega
          have htz' : (s : Int) * 2 = (t : Int) := by omega
          have rt : IntKind.i64.wrap (t : Int) = (t : Int) := by rw [IntKind.wrap_i64]; omega
          have ht1 : t ≤ 2 * s := by omega
          have ht2 : 2 * s ≤ t := by omega
          have HT : Hid (t = 2 * s) := ht
          clear ht
          go_wp2_with fail
          go_loopg [7, 8] n (fun gk va vb wr => ∃ (a b : Nat) (dk : Array α), va = .int .i64 a ∧ vb = .int .i64 b ∧ b ≤ a + t ∧ a + t ≤ b ∧ a ≤ n ∧ n - a ≤ gk ∧ dk.size = n ∧ Hid (2 * s ∣ a ∧ Half key s n a (fa dk) ∧ StabF key 0 n (fa d) (fa dk)) ∧ Aside (SWI iv w0 blk off dk wr))
          case atStart => exact ⟨0, t, dj, by go_num, rfl, by omega, by omega, by omega, by omega, hsj, ⟨Nat.dvd_zero _, Half.start HB.out.1, HB.out.2⟩, S3⟩
          case round =>
            clear S3 HB
            obtain ⟨a, b, dk, rfl, rfl, hb1, hb2, han, hg2, hsk, HF, S1⟩ := hrel
            obtain ⟨m, hm⟩ : ∃ m, m = a + s := ⟨_, rfl⟩
            have hmz : (a : Int) + (s : Int) = (m : Int) := by omega
            have rm : IntKind.i64.wrap (m : Int) = (m : Int) := by rw [IntKind.wrap_i64]; omega
            have HM : Hid (m = a + s) := hm
            clear hm
            by_cases hlt : b ≤ n
            · have hltz : (b : Int) ≤ (n : Int) := by omega
              have rb : IntKind.i64.wrap ((b : Int) + (t : Int)) = (b : Int) + (t : Int) := by rw [IntKind.wrap_i64]; omega
              have hm := HM.out
              have htw := HF.out.2.1.two HF.out.1 (by omega)
              have eb : a + 2 * s = b := by omega
              rw [← hm, Nat.min_eq_left (by omega), eb] at htw
              have hc := SYM.out a m b (by omega) (by omega) hlt dk wr hsk S1.out htw.1 htw.2
              clear hm htw
              go_wp2_with (go_at_call 134; with_reducible refine hc.mono ?_; rintro e1 w1 ⟨rfl, d', h1, h2, h3, h4⟩)
              have HF2 : Hid (2 * s ∣ b ∧ Half key s n b (fa d') ∧ StabF key 0 n (fa d) (fa d')) := by
                rw [← eb] at h2 h3 ⊢
                exact ⟨Nat.dvd_add HF.out.1 (Nat.dvd_refl _), HF.out.2.1.step HF.out.1 h2 h3, HF.out.2.2.trans (h2.mono (by omega) (by omega) (by omega))⟩
              have S2 : Aside (SWI iv w0 blk off d' w1) := h4
              clear h2 h3 h4 hc S1 HF eb
              go_roundg (n - b)
              case measure => omega
              case rel => exact ⟨b, b + t, d', rfl, by go_num, by omega, by omega, by omega, by omega, h1, HF2, S2⟩
            · have hltz : ¬ (b : Int) ≤ (n : Int) := by omega
              by_cases hmn : m < n
              · have hmnz : (m : Int) < (n : Int) := by omega
                have hm := HM.out
                have htw := HF.out.2.1.two HF.out.1 (by omega)
                rw [← hm, Nat.min_eq_right (by omega)] at htw
                have hc := SYM.out a m n (by omega) (by omega) (Nat.le_refl _) dk wr hsk S1.out htw.1 htw.2
                clear hm htw
                go_wp2_with (go_at_call 134; with_reducible refine hc.mono ?_; rintro e1 w1 ⟨rfl, d', h1, h2, h3, h4⟩)
                have HF2 : Hid (Blk key t n (fa d') ∧ StabF key 0 n (fa d) (fa d')) := by
                  rw [HT.out]
                  exact ⟨HF.out.2.1.last HF.out.1 (by omega) han h2 h3, HF.out.2.2.trans (h2.mono (by omega) han (Nat.le_refl _))⟩
                have S2 : Aside (SWI iv w0 blk off d' w1) := h4
                clear h2 h3 h4 hc S1 HF
                go_roundg (n - t)
                case measure => omega
                case rel => exact ⟨t, d', rfl, by omega, by omega, by omega, h1, HF2, S2⟩
              · have hmnz : ¬ (m : Int) < (n : Int) := by omega
                have HF2 : Hid (Blk key t n (fa dk) ∧ StabF key 0 n (fa d) (fa dk)) := by
                  rw [HT.out]
                  have hm := HM.out
                  exact ⟨HF.out.2.1.last HF.out.1 (by omega) han (StabF.refl ..) (HF.out.2.1.one HF.out.1 (by omega)), HF.out.2.2⟩
                clear HF
                go_wp2_with fail
                go_roundg (n - t)
                case measure => omega
                case rel => exact ⟨t, dk, rfl, by omega, by omega, by omega, hsk, HF2, S1⟩
        · have hsz : ¬ (s : Int) < (n : Int) := by omega
          have hA := HB.out.1.all (show n ≤ s by omega)
          go_wp2_with fail
          go_end0
          exact ⟨rfl, dj, hsj, HB.out.2, hA, S3.out⟩

set_option maxHeartbeats 4000000 in
set_option maxRecDepth 1000000 in
/-- The library's stable sort: what the row holds behind it is the stable sort of what it held. -/
theorem sortStableI {iv : α → Int} {g : Nat} {cb : Array Value} {key : α → Int} {d : Array α} {w0 : World} {blk off : Nat} (H : SortI iv g cb key d w0 blk off) (cap : Nat) (hsm : d.size ≤ 1000000) :
    Calls Tryd.prog 67 #[.slice (some ⟨blk, off, none⟩) d.size cap, .func (.func g) #[] cb] w0 fun e w' => e = .returned (.tuple #[]) ∧ ∃ d' : Array α, d'.toList = sortK key d.toList ∧ SWI iv w0 blk off d' w' := by
  have hc := stableI H cap hsm
  go_enter Tryd.func67, Tryd.ntmps67
  go_wp2_with (go_at_call 107; with_reducible refine hc.mono ?_; rintro e1 w1 ⟨rfl, d', h1, h2, h3, h4⟩)
  go_end0
  refine ⟨rfl, d', ?_, h4⟩
  have := sortK_of h2 h3
  rw [fa_toList, ← h1, fa_toList] at this
  exact this
end Go.Proofs.YtnnmakkbnfckmaaDoor
/- The library's stable sort at a row of pairs: each class in its order, all by the number. -/
namespace Go.Proofs.YtnnmakkbnfckmaaDoor
open Go.RowKit Go.Shelf Go.Sort Go.Lib
variable {α : Type} [Inhabited α]

theorem symAllL {iv : α → (Int×Int)} {g : Nat} {cb : Array Value} {key : α → Int} {d0 : Array α} {w0 : World} {blk off : Nat} (H : SortL iv g cb key d0 w0 blk off) (cap : Nat) (n : Nat) :
    ∀ a m b : Nat, b - a ≤ n → a < m → m < b → b ≤ d0.size → SymCL iv g cb key w0 blk off cap d0.size a m b := by
  induction n with
  | zero => intro a m b h1 h2 h3; omega
  | succ n ih =>
    intro a m b h1 h2 h3 h4 d W hs S u v
    by_cases c1 : m = a + 1
    · subst c1
      have := symOneL H hs S cap h3 (by omega) v
      rwa [hs] at this
    · by_cases c2 : b = m + 1
      · subst c2
        have := symLastL H hs S cap (show a + 1 < m by omega) (by omega) u
        rwa [hs] at this
      · have := symBothL H cap hs S (show a + 1 < m by omega) (show m + 1 < b by omega) (by omega) u v (fun a' m' b' x1 x2 x3 x4 => by rw [hs]; exact ih a' m' b' (by omega) x2 x3 (by omega))
        rwa [hs] at this

set_option maxHeartbeats 16000000 in
set_option maxRecDepth 1000000 in
theorem stableL {iv : α → (Int×Int)} {g : Nat} {cb : Array Value} {key : α → Int} {d : Array α} {w0 : World} {blk off : Nat} (H : SortL iv g cb key d w0 blk off) (cap : Nat) (hsm : d.size ≤ 1000000) :
    Calls Tryd.prog 112 #[.slice (some ⟨blk, off, none⟩) d.size cap, .int .i64 d.size, .func (.func g) #[] cb] w0 fun e w' => e = .returned (.tuple #[]) ∧
      ∃ d' : Array α, d'.size = d.size ∧ StabF key 0 d.size (fa d) (fa d') ∧ SortF key 0 d.size (fa d') ∧ SWL iv w0 blk off d' w' := by
  have S0 : Aside (SWL iv w0 blk off d w0) := SWK.start H.R.hH
  obtain ⟨n, hn⟩ : ∃ n, n = d.size := ⟨_, rfl⟩
  have INS : Hid (∀ (dk : Array α) (W : World) (a b : Nat), dk.size = n → SWL iv w0 blk off dk W → a ≤ b → b ≤ n → Calls Tryd.prog 136 #[.slice (some ⟨blk, off, none⟩) n cap, .int .i64 a, .int .i64 b, .func (.func g) #[] cb] W fun e w' => e = .returned (.tuple #[]) ∧ ∃ d' : Array α, d'.size = n ∧ StabF key a b (fa dk) (fa d') ∧ SortF key a b (fa d') ∧ SWL iv w0 blk off d' w') := fun dk W a b h1 h2 h3 h4 => by
    have := insertionL H (h1.trans hn) h2 cap h3 (by omega)
    rwa [h1] at this
  have SYM : Hid (∀ a m b : Nat, a < m → m < b → b ≤ n → SymCL iv g cb key w0 blk off cap n a m b) := fun a m b h1 h2 h3 => by
    rw [hn]; exact symAllL H cap _ a m b (Nat.le_refl _) h1 h2 (by omega)
  rw [← hn] at hsm
  rw [← hn]
  have HN : Hid (n = d.size) := hn
  clear hn H
  go_enter Tryd.func112, Tryd.ntmps112
  go_wp2_with fail
  go_loopg [7, 8] n (fun gk va vb wr => ∃ (a b : Nat) (dk : Array α), va = .int .i64 a ∧ vb = .int .i64 b ∧ b ≤ a + 20 ∧ a + 20 ≤ b ∧ a ≤ n ∧ n - a ≤ gk ∧ dk.size = n ∧ Hid (20 ∣ a ∧ Fst key 20 a (fa dk) ∧ StabF key 0 n (fa d) (fa dk)) ∧ Aside (SWL iv w0 blk off dk wr))
  case atStart => exact ⟨0, 20, d, by go_num, by go_num, by omega, by omega, by omega, by omega, HN.out.symm, ⟨Nat.dvd_zero _, Fst.start _ _, StabF.refl ..⟩, S0⟩
  case round =>
    clear S0
    obtain ⟨a, b, dk, rfl, rfl, hb1, hb2, han, hg, hsk, HF, S1⟩ := hrel
    by_cases hlt : b ≤ n
    · have hltz : (b : Int) ≤ (n : Int) := by omega
      have rb : IntKind.i64.wrap ((b : Int) + 20) = (b : Int) + 20 := by rw [IntKind.wrap_i64]; omega
      have hc := INS.out dk wr a b hsk S1.out (by omega) hlt
      go_wp2_with (go_at_call 136; with_reducible refine hc.mono ?_; rintro e1 w1 ⟨rfl, d', h1, h2, h3, h4⟩)
      have eab : a + 20 = b := by omega
      have HF2 : Hid (20 ∣ b ∧ Fst key 20 b (fa d') ∧ StabF key 0 n (fa d) (fa d')) := by
        rw [← eab] at h2 h3 ⊢
        exact ⟨Nat.dvd_add HF.out.1 (Nat.dvd_refl _), HF.out.2.1.step HF.out.1 h2 h3, HF.out.2.2.trans (h2.mono (by omega) (by omega) (by omega))⟩
      have S2 : Aside (SWL iv w0 blk off d' w1) := h4
      clear h2 h3 h4 hc S1 HF eab
      go_roundg (n - b)
      case measure => omega
      case rel => exact ⟨b, b + 20, d', rfl, by go_num, by omega, by omega, by omega, by omega, h1, HF2, S2⟩
    · have hltz : ¬ (b : Int) ≤ (n : Int) := by omega
      have hc := INS.out dk wr a n hsk S1.out han (Nat.le_refl _)
      go_wp2_with (go_at_call 136; with_reducible refine hc.mono ?_; rintro e1 w1 ⟨rfl, d', h1, h2, h3, h4⟩)
      have HB : Hid (Blk key 20 n (fa d') ∧ StabF key 0 n (fa d) (fa d')) := ⟨HF.out.2.1.last HF.out.1 (by omega) han h2 h3, HF.out.2.2.trans (h2.mono (by omega) han (Nat.le_refl _))⟩
      have S2 : Aside (SWL iv w0 blk off d' w1) := h4
      clear h2 h3 h4 hc S1 HF INS hb1 hb2 han hlt hltz hg
      go_loopg [6, 7, 8, 9] n (fun gk vs va vb vm wr => ∃ (s : Nat) (dk : Array α), vs = .int .i64 s ∧ 0 < s ∧ s ≤ 2 * n + 20 ∧ n - s ≤ gk ∧ dk.size = n ∧ Hid (Blk key s n (fa dk) ∧ StabF key 0 n (fa d) (fa dk)) ∧ Aside (SWL iv w0 blk off dk wr))
      case atStart => exact ⟨20, d', by go_num, by omega, by omega, by omega, h1, HB, S2⟩
      case round =>
        clear S2 HB
        obtain ⟨s, dj, rfl, hs0, hs1, hg, hsj, HB, S3⟩ := hrel
        by_cases hsn : s < n
        · have hsz : (s : Int) < (n : Int) := by omega
          obtain ⟨t, ht⟩ : ∃ t, t = 2 * s := ⟨_, rfl⟩
          have htz : 2 * (s : Int) = (t : Int) := by omega
          have htz' : (s : Int) * 2 = (t : Int) := by omega
          have rt : IntKind.i64.wrap (t : Int) = (t : Int) := by rw [IntKind.wrap_i64]; omega
          have ht1 : t ≤ 2 * s := by omega
          have ht2 : 2 * s ≤ t := by omega
          have HT : Hid (t = 2 * s) := ht
          clear ht
          go_wp2_with fail
          go_loopg [7, 8] n (fun gk va vb wr => ∃ (a b : Nat) (dk : Array α), va = .int .i64 a ∧ vb = .int .i64 b ∧ b ≤ a + t ∧ a + t ≤ b ∧ a ≤ n ∧ n - a ≤ gk ∧ dk.size = n ∧ Hid (2 * s ∣ a ∧ Half key s n a (fa dk) ∧ StabF key 0 n (fa d) (fa dk)) ∧ Aside (SWL iv w0 blk off dk wr))
          case atStart => exact ⟨0, t, dj, by go_num, rfl, by omega, by omega, by omega, by omega, hsj, ⟨Nat.dvd_zero _, Half.start HB.out.1, HB.out.2⟩, S3⟩
          case round =>
            clear S3 HB
            obtain ⟨a, b, dk, rfl, rfl, hb1, hb2, han, hg2, hsk, HF, S1⟩ := hrel
            obtain ⟨m, hm⟩ : ∃ m, m = a + s := ⟨_, rfl⟩
            have hmz : (a : Int) + (s : Int) = (m : Int) := by omega
            have rm : IntKind.i64.wrap (m : Int) = (m : Int) := by rw [IntKind.wrap_i64]; omega
            have HM : Hid (m = a + s) := hm
            clear hm
            by_cases hlt : b ≤ n
            · have hltz : (b : Int) ≤ (n : Int) := by omega
              have rb : IntKind.i64.wrap ((b : Int) + (t : Int)) = (b : Int) + (t : Int) := by rw [IntKind.wrap_i64]; omega
              have hm := HM.out
              have htw := HF.out.2.1.two HF.out.1 (by omega)
              have eb : a + 2 * s = b := by omega
              rw [← hm, Nat.min_eq_left (by omega), eb] at htw
              have hc := SYM.out a m b (by omega) (by omega) hlt dk wr hsk S1.out htw.1 htw.2
              clear hm htw
              go_wp2_with (go_at_call 137; with_reducible refine hc.mono ?_; rintro e1 w1 ⟨rfl, d', h1, h2, h3, h4⟩)
              have HF2 : Hid (2 * s ∣ b ∧ Half key s n b (fa d') ∧ StabF key 0 n (fa d) (fa d')) := by
                rw [← eb] at h2 h3 ⊢
                exact ⟨Nat.dvd_add HF.out.1 (Nat.dvd_refl _), HF.out.2.1.step HF.out.1 h2 h3, HF.out.2.2.trans (h2.mono (by omega) (by omega) (by omega))⟩
              have S2 : Aside (SWL iv w0 blk off d' w1) := h4
              clear h2 h3 h4 hc S1 HF eb
              go_roundg (n - b)
              case measure => omega
              case rel => exact ⟨b, b + t, d', rfl, by go_num, by omega, by omega, by omega, by omega, h1, HF2, S2⟩
            · have hltz : ¬ (b : Int) ≤ (n : Int) := by omega
              by_cases hmn : m < n
              · have hmnz : (m : Int) < (n : Int) := by omega
                have hm := HM.out
                have htw := HF.out.2.1.two HF.out.1 (by omega)
                rw [← hm, Nat.min_eq_right (by omega)] at htw
                have hc := SYM.out a m n (by omega) (by omega) (Nat.le_refl _) dk wr hsk S1.out htw.1 htw.2
                clear hm htw
                go_wp2_with (go_at_call 137; with_reducible refine hc.mono ?_; rintro e1 w1 ⟨rfl, d', h1, h2, h3, h4⟩)
                have HF2 : Hid (Blk key t n (fa d') ∧ StabF key 0 n (fa d) (fa d')) := by
                  rw [HT.out]
                  exact ⟨HF.out.2.1.last HF.out.1 (by omega) han h2 h3, HF.out.2.2.trans (h2.mono (by omega) han (Nat.le_refl _))⟩
                have S2 : Aside (SWL iv w0 blk off d' w1) := h4
                clear h2 h3 h4 hc S1 HF
                go_roundg (n - t)
                case measure => omega
                case rel => exact ⟨t, d', rfl, by omega, by omega, by omega, h1, HF2, S2⟩
              · have hmnz : ¬ (m : Int) < (n : Int) := by omega
                have HF2 : Hid (Blk key t n (fa dk) ∧ StabF key 0 n (fa d) (fa dk)) := by
                  rw [HT.out]
                  have hm := HM.out
                  exact ⟨HF.out.2.1.last HF.out.1 (by omega) han (StabF.refl ..) (HF.out.2.1.one HF.out.1 (by omega)), HF.out.2.2⟩
                clear HF
                go_wp2_with fail
                go_roundg (n - t)
                case measure => omega
                case rel => exact ⟨t, dk, rfl, by omega, by omega, by omega, hsk, HF2, S1⟩
        · have hsz : ¬ (s : Int) < (n : Int) := by omega
          have hA := HB.out.1.all (show n ≤ s by omega)
          go_wp2_with fail
          go_end0
          exact ⟨rfl, dj, hsj, HB.out.2, hA, S3.out⟩

set_option maxHeartbeats 4000000 in
set_option maxRecDepth 1000000 in
/-- The library's stable sort: what the row holds behind it is the stable sort of what it held. -/
theorem sortStableL {iv : α → (Int×Int)} {g : Nat} {cb : Array Value} {key : α → Int} {d : Array α} {w0 : World} {blk off : Nat} (H : SortL iv g cb key d w0 blk off) (cap : Nat) (hsm : d.size ≤ 1000000) :
    Calls Tryd.prog 72 #[.slice (some ⟨blk, off, none⟩) d.size cap, .func (.func g) #[] cb] w0 fun e w' => e = .returned (.tuple #[]) ∧ ∃ d' : Array α, d'.toList = sortK key d.toList ∧ SWL iv w0 blk off d' w' := by
  have hc := stableL H cap hsm
  go_enter Tryd.func72, Tryd.ntmps72
  go_wp2_with (go_at_call 112; with_reducible refine hc.mono ?_; rintro e1 w1 ⟨rfl, d', h1, h2, h3, h4⟩)
  go_end0
  refine ⟨rfl, d', ?_, h4⟩
  have := sortK_of h2 h3
  rw [fa_toList, ← h1, fa_toList] at this
  exact this
end Go.Proofs.YtnnmakkbnfckmaaDoor
/- The library's stable sort at no elements. -/
namespace Go.Proofs.YtnnmakkbnfckmaaDoor
open Go.RowKit Go.Shelf Go.Sort Go.Lib
set_option maxHeartbeats 4000000 in
set_option maxRecDepth 100000 in
theorem insNoneI (a : Option Addr) (cap : Nat) (f : Value) (w : World) : Calls Tryd.prog 133 #[.slice a 0 cap, .int .i64 0, .int .i64 0, f] w fun e w' => e = .returned (.tuple #[]) ∧ w' = w := by
  go_enter Tryd.func133, Tryd.ntmps133
  go_wp2
  go_loopg [8] 0 (fun gk v wr => v = .int .i64 1 ∧ wr = w)
  case atStart => exact ⟨rfl, rfl⟩
  case round =>
    obtain ⟨rfl, rfl⟩ := hrel
    go_wp2
    go_end0
    exact ⟨rfl, rfl⟩
set_option maxHeartbeats 4000000 in
set_option maxRecDepth 100000 in
theorem stableNoneI (a : Option Addr) (cap : Nat) (f : Value) (w : World) : Calls Tryd.prog 107 #[.slice a 0 cap, .int .i64 0, f] w fun e w' => e = .returned (.tuple #[]) ∧ w' = w := by
  have hc := insNoneI a cap f w
  go_enter Tryd.func107, Tryd.ntmps107
  go_wp2_with fail
  go_loopg [7, 8] 0 (fun gk v v8 wr => v = .int .i64 0 ∧ v8 = .int .i64 20 ∧ wr = w)
  case atStart => exact ⟨rfl, rfl, rfl⟩
  case round =>
    obtain ⟨rfl, rfl, rfl⟩ := hrel
    go_wp2_with (go_at_call 133; with_reducible refine hc.mono ?_; rintro e1 w1 ⟨rfl, rfl⟩)
    go_loopg [6, 7, 8, 9] 0 (fun gk v v7 v8 v9 w2 => v = .int .i64 20 ∧ w2 = w1)
    case atStart => exact ⟨rfl, rfl⟩
    case round =>
      obtain ⟨rfl, rfl⟩ := hrel
      go_wp2_with fail
      go_end0
      exact ⟨rfl, rfl⟩
set_option maxHeartbeats 4000000 in
set_option maxRecDepth 100000 in
theorem sortNoneI (a : Option Addr) (cap : Nat) (f : Value) (w : World) : Calls Tryd.prog 67 #[.slice a 0 cap, f] w fun e w' => e = .returned (.tuple #[]) ∧ w' = w := by
  have hc := stableNoneI a cap f w
  go_enter Tryd.func67, Tryd.ntmps67
  go_wp2_with (go_at_call 107; with_reducible refine hc.mono ?_; rintro e1 w1 ⟨rfl, rfl⟩)
  go_end0
  exact ⟨rfl, rfl⟩
set_option maxHeartbeats 4000000 in
set_option maxRecDepth 100000 in
theorem insNoneL (a : Option Addr) (cap : Nat) (f : Value) (w : World) : Calls Tryd.prog 136 #[.slice a 0 cap, .int .i64 0, .int .i64 0, f] w fun e w' => e = .returned (.tuple #[]) ∧ w' = w := by
  go_enter Tryd.func136, Tryd.ntmps136
  go_wp2
  go_loopg [8] 0 (fun gk v wr => v = .int .i64 1 ∧ wr = w)
  case atStart => exact ⟨rfl, rfl⟩
  case round =>
    obtain ⟨rfl, rfl⟩ := hrel
    go_wp2
    go_end0
    exact ⟨rfl, rfl⟩
set_option maxHeartbeats 4000000 in
set_option maxRecDepth 100000 in
theorem stableNoneL (a : Option Addr) (cap : Nat) (f : Value) (w : World) : Calls Tryd.prog 112 #[.slice a 0 cap, .int .i64 0, f] w fun e w' => e = .returned (.tuple #[]) ∧ w' = w := by
  have hc := insNoneL a cap f w
  go_enter Tryd.func112, Tryd.ntmps112
  go_wp2_with fail
  go_loopg [7, 8] 0 (fun gk v v8 wr => v = .int .i64 0 ∧ v8 = .int .i64 20 ∧ wr = w)
  case atStart => exact ⟨rfl, rfl, rfl⟩
  case round =>
    obtain ⟨rfl, rfl, rfl⟩ := hrel
    go_wp2_with (go_at_call 136; with_reducible refine hc.mono ?_; rintro e1 w1 ⟨rfl, rfl⟩)
    go_loopg [6, 7, 8, 9] 0 (fun gk v v7 v8 v9 w2 => v = .int .i64 20 ∧ w2 = w1)
    case atStart => exact ⟨rfl, rfl⟩
    case round =>
      obtain ⟨rfl, rfl⟩ := hrel
      go_wp2_with fail
      go_end0
      exact ⟨rfl, rfl⟩
set_option maxHeartbeats 4000000 in
set_option maxRecDepth 100000 in
theorem sortNoneL (a : Option Addr) (cap : Nat) (f : Value) (w : World) : Calls Tryd.prog 72 #[.slice a 0 cap, f] w fun e w' => e = .returned (.tuple #[]) ∧ w' = w := by
  have hc := stableNoneL a cap f w
  go_enter Tryd.func72, Tryd.ntmps72
  go_wp2_with (go_at_call 112; with_reducible refine hc.mono ?_; rintro e1 w1 ⟨rfl, rfl⟩)
  go_end0
  exact ⟨rfl, rfl⟩
end Go.Proofs.YtnnmakkbnfckmaaDoor
/- Walks: job.ByDeadline: the places in the order of the deadlines. -/
namespace Go.Proofs.YtnnmakkbnfckmaaDoor
open Go.RowKit Go.Shelf Go.Sort Go.Lib

/-- A sort turns its own row alone. -/
theorem sw_kp {α : Type} [Inhabited α] {enc : α → Value} {w0 W : World} {blk off : Nat} {dk : Array α} (S : SW enc w0 blk off dk W) : Kp [blk] w0 W := by
  obtain ⟨n, os, rfl⟩ := S
  refine ⟨rfl, rfl, rfl, ?_, fun k hk hn => ?_⟩
  · unfold sortWorld; rw [size_grow, size_putRow]; exact Nat.le_add_right _ _
  · have hn : blk ≠ k := fun e => hn (by simp [e])
    show ((mapBlock (Sort.ahead w0 n) blk (putCells enc off dk)).heap ++ os)[k]? = _
    rw [Array.getElem?_append_left (by simpa [mapBlock] using hk)]
    simp [mapBlock, Array.getElem?_modify, hn]
theorem swk_kp {α : Type} [Inhabited α] {enc : α → List Value} {k : Nat} {w0 W : World} {blk off : Nat} {dk : Array α} (S : SWK enc k w0 blk off dk W) : Kp [blk] w0 W := by
  obtain ⟨n, os, rfl⟩ := S
  exact sw_kp (enc := id) (dk := flatK enc k dk) (off := off) ⟨n, os, rfl⟩

set_option maxRecDepth 100000 in
set_option maxHeartbeats 4000000 in
/-- What compares two places by their deadlines. -/
theorem cmpDl_any (l : List J) (box b off cap : Nat) (W : World) (i k : Nat) (hi : i < l.length) (hk : k < l.length) (hm : l.length ≤ 1000000) (hx : W.cell? ⟨box, 0, none⟩ = some (.slice (some ⟨b, off, none⟩) l.length cap))
    (hc1 : W.cell? ⟨b, off + i * 8 + 2, none⟩ = some (.int .i64 l[i].dl)) (hc2 : W.cell? ⟨b, off + k * 8 + 2, none⟩ = some (.int .i64 l[k].dl)) :
    Calls Tryd.prog 68 #[.int .i64 i, .int .i64 k, .pointer (some ⟨box, 0, none⟩)] W fun e w' => e = .returned (.int .i64 (Lib.compareInt l[i].dl l[k].dl)) ∧ ∃ q, w' = W.drewN q := by
  generalize l[i].dl = x at *
  generalize l[k].dl = y at *
  generalize l.length = n at *
  have mixed : Tryd.prog.follows .mixedOrders = true := by kernel_rfl
  have hi' : (i : Int) < (n : Int) := by omega
  have hk' : (k : Int) < (n : Int) := by omega
  go_enter Tryd.func68, Tryd.ntmps68
  go_wp2_with fail
  go_quiet (first | (go_at_call 69; exact Calls.quiet_of ((Tryd.cmp_Compare_int _ _ _).mono fun _ _ h => ⟨h.1, 0, h.2⟩)))
  go_wp2
  go_ret
  exact ⟨rfl, _, rfl⟩

/-- A row of places as a row of Fin's. -/
abbrev fv {n : Nat} (i : Fin n) : Int := (i.1 : Int)
theorem holds_of_iarr {N : Nat} {w : World} {B : Nat} {xs : List Int} (h : IArr w B xs) (d : Array (Fin (N + 1))) (hd : d.size = xs.length) (he : ∀ i (hi : i < xs.length), xs[i] = fv d[i]!) : Holds (encI fv) w B 0 d := fun j hj => by
  have hj' : j < xs.length := by omega
  refine ⟨?_, ?_⟩
  · rw [Nat.zero_add, h.cell hj', he j hj']
  · rw [Nat.zero_add]; exact h.frozen j
theorem irow_of_holds {α : Type} [Inhabited α] {iv : α → Int} {w : World} {B : Nat} {d : Array α} (h : Holds (encI iv) w B 0 d) (hB : B < w.heap.size) : IRow w (some ⟨B, 0, none⟩) (d.toList.map iv) := fun i hi => by
  have hi' : i < d.size := by simpa using hi
  refine ⟨B, 0, rfl, hB, ?_⟩
  have := (h i hi').1
  rw [this]
  simp [encI, getElem!_pos, hi']
theorem finRange_map (n : Nat) : (List.finRange n).map (fun i => i.1) = List.range n := by
  apply List.ext_getElem (by simp)
  intro i h1 h2
  simp

theorem cmpDl_reads {N : Nat} (l : List J) (hl : l.length = N + 1) (hm : l.length ≤ 1000000) (a : Option Addr) (cap : Nat) (w wr : World) (hr : JRow w a l) (B size : Nat) (hB : B = w.heap.size + 1) (hk : Kp [B] (w.alloc (.cells #[.slice a l.length cap] 22)) wr) :
    CmpReads Tryd.prog 68 #[.pointer (some ⟨w.heap.size, 0, none⟩)] (encI fv) (fun x y : Fin (N + 1) => Lib.compareInt (at0 J.dl l x.1) (at0 J.dl l y.1)) B 0 size wr := fun m os dk hs x y => by
  subst hB
  have hx : x.1 < l.length := by rw [hl]; exact x.2
  have hy : y.1 < l.length := by rw [hl]; exact y.2
  obtain ⟨b, off, rfl, hb, hc⟩ := hr.at hx
  have hK : Kp [w.heap.size + 1] (w.alloc (.cells #[.slice (some ⟨b, off, none⟩) l.length cap] 22)) (sortWorld (encI fv) wr (w.heap.size + 1) 0 m dk os) := hk.trans (sw_kp ⟨m, os, rfl⟩)
  have hcl : ∀ o, (sortWorld (encI fv) wr (w.heap.size + 1) 0 m dk os).cell? ⟨b, o, none⟩ = w.cell? ⟨b, o, none⟩ := fun o =>
    (hK.cell (by simp; omega) (by simp; omega)).trans ((Ext.new w _).cell hb)
  have hbx : (sortWorld (encI fv) wr (w.heap.size + 1) 0 m dk os).cell? ⟨w.heap.size, 0, none⟩ = some (.slice (some ⟨b, off, none⟩) l.length cap) :=
    (hK.cell (by simp) (by simp)).trans (by simp)
  have := cmpDl_any l w.heap.size b off cap _ x.1 y.1 hx hy hm hbx ((hcl _).trans (hc _ hx).c2) ((hcl _).trans (hc _ hy).c2)
  rw [← at0_eq J.dl l hx, ← at0_eq J.dl l hy] at this
  exact this

set_option maxRecDepth 100000 in
set_option maxHeartbeats 4000000 in
theorem byDeadline_any (l : List J) (a : Option Addr) (cap : Nat) (w : World) (hm : l.length ≤ 1000000) (hr : JRow w a l) :
    Calls Tryd.prog 27 #[.slice a l.length cap] w fun e w' => ∃ a' cap', e = .returned (.slice a' l.length cap') ∧ IRow w' a' (nz (byDl l)) ∧ Ext w w' := by
  have mixed : Tryd.prog.follows .mixedOrders = true := by kernel_rfl
  obtain ⟨n, hn⟩ : ∃ n, l.length = n := ⟨_, rfl⟩
  rw [hn] at hm ⊢
  have HL : Hid (l.length = n ∧ JRow w a l) := ⟨hn, hr⟩
  clear hn hr
  have hmk := fun W => run_make1 rtInt rfl n hm (by decide) W
  go_enter Tryd.func27, Tryd.ntmps27
  go_wp2_with fail
  go_loopw [4, 10] (fun v4 v10 wr => ∃ (k : Nat) (xs : List Int), v10 = .int .i64 k ∧ k ≤ n ∧ xs.length = n ∧ IArr wr (w.heap.size + 1) xs ∧ Hid (∀ i (hi : i < xs.length), i < k → xs[i] = (i : Int)) ∧ Aside (Kp [w.heap.size + 1] (w.alloc (.cells #[.slice a n cap] 22)) wr)) (fun _ v10 _ => n - (intOf v10).toNat)
  case atStart =>
    refine ⟨0, List.replicate n 0, rfl, by omega, by simp, ⟨[], ?_⟩, (show ∀ i (hi : i < _), i < 0 → _ from fun i _ h => absurd h (Nat.not_lt_zero _)), (show Kp _ _ _ from (Kp.refl _ _).alloc _)⟩
    rw [List.append_nil, List.map_replicate]
    rw [List.toArray_replicate]
    exact alloc_at _ _ _ (by simp)
  case round =>
    obtain ⟨k, xs, rfl, hk, hxs, hI, HF, HK⟩ := hrel
    by_cases hlt : k < n
    · have hkx : k < xs.length := by omega
      have c0 := hI.cell hkx
      have f0 := hI.frozen k
      have hltz : (k : Int) < (n : Int) := by omega
      have S2 : Aside (IArr (wr.setCell ⟨w.heap.size + 1, k, none⟩ (.int .i64 k)) (w.heap.size + 1) (xs.set k k)) := hI.set hkx k
      generalize xs[k] = y at c0
      clear hI
      go_wp2_with fail
      go_roundw
      case rel =>
        refine ⟨k + 1, xs.set k k, by go_num, by omega, by simpa using hxs, S2.out, ?_, ?_⟩
        · show ∀ i (hi : i < _), i < k + 1 → _
          intro i hi hik
          by_cases e : i = k
          · subst e; simp
          · rw [List.getElem_set_ne (by omega)]; exact HF.out i (by simpa using hi) (by omega)
        · exact (HK.out).setCell (by simp) _
      case measure => simp [intOf]; omega
    · have hkn : k = n := by omega
      subst hkn
      have hltz : ¬ (k : Int) < (k : Int) := by omega
      clear hlt
      by_cases hn0 : k = 0
      · subst hn0
        have hc := sortNoneI (some ⟨w.heap.size + 1, 0, none⟩) 0 (.func (.func 68) #[] #[.pointer (some ⟨w.heap.size, 0, none⟩)]) wr
        go_wp2_with (go_at_call 67; with_reducible refine hc.mono ?_; rintro e1 w1 ⟨rfl, rfl⟩)
        go_ret
        refine ⟨_, _, rfl, ?_, ?_⟩
        · have : byDl l = [] := List.length_eq_zero_iff.1 (by rw [byDl_length]; exact HL.out.1)
          rw [this]; exact ERow.nil _ _ _
        · exact ((Ext.new w _).kp [w.heap.size + 1]).trans HK.out |>.below (Nat.le_refl _) (by simp)
      · obtain ⟨N, rfl⟩ : ∃ N, k = N + 1 := ⟨k - 1, by omega⟩
        have eg := Go.Proofs.enters_of Tryd.func68 (by kernel_rfl) rfl
        have hH : SortI fv 68 #[.pointer (some ⟨w.heap.size, 0, none⟩)] (fun x : Fin (N + 1) => at0 J.dl l x.1) (List.finRange (N + 1)).toArray wr (w.heap.size + 1) 0 := by
          refine ⟨eg, ⟨fun _ => rfl, holds_of_iarr hI _ (by simpa using hxs.symm) fun i hi => ?_, hI.lt⟩, ?_, by simp; omega⟩
          · rw [HF.out i hi (by omega)]
            have : i < N + 1 := by omega
            simp [fv, getElem!_pos, this]
          · have h1 := HL.out.1
            have h2 := HK.out
            rw [← h1] at h2
            exact (cmpDl_reads l h1 (by omega) a cap w wr HL.out.2 _ _ rfl h2).lays
        have hc := sortStableI hH (N + 1) (by simp; omega)
        have hsz : (List.finRange (N + 1)).toArray.size = N + 1 := by simp
        rw [hsz] at hc
        go_wp2_with (go_at_call 67; with_reducible refine hc.mono ?_; rintro e1 w1 ⟨rfl, d', h1, h2⟩)
        go_ret
        have hd : d'.size = N + 1 := by
          have := congrArg List.length h1
          rw [(sortK_perm _ _).length_eq] at this
          simpa using this
        refine ⟨_, _, rfl, ?_, ?_⟩
        · have hh := h2.holds hI.lt hH.R.hH (by simpa using hd)
          have := irow_of_holds hh (Nat.lt_of_lt_of_le hI.lt (sw_kp h2).size)
          rw [h1] at this
          have e : nz (byDl l) = (sortK (fun x : Fin (N + 1) => at0 J.dl l x.1) (List.finRange (N + 1))).map fv := by
            unfold byDl
            rw [HL.out.1, ← finRange_map, sortK_map]
            show List.map _ (List.map _ _) = _
            rw [List.map_map]
            rfl
          rw [e]
          simpa using this
        · exact (((Ext.new w _).kp [w.heap.size + 1]).trans (Kp.trans HK.out (sw_kp h2))).below (Nat.le_refl _) (by simp)
end Go.Proofs.YtnnmakkbnfckmaaDoor
/- Walks: chapter 8's own answer: the places in the order of the deadlines, one laid in after another. -/
namespace Go.Proofs.YtnnmakkbnfckmaaDoor
open Go.RowKit Go.Shelf Go.Sort Go.Lib

/-- The first i places in the order of the deadlines. -/
def upDl (l : List J) (i : Nat) : List Nat := sortK (at0 J.dl l) (List.range i)
theorem upDl_length (l : List J) (i : Nat) : (upDl l i).length = i := by rw [upDl, (sortK_perm _ _).length_eq, List.length_range]
theorem upDl_lt (l : List J) {i k : Nat} (hk : k < (upDl l i).length) : (upDl l i)[k] < i := by
  have : (upDl l i)[k] ∈ upDl l i := List.getElem_mem hk
  exact List.mem_range.1 ((sortK_perm _ _).mem_iff.1 this)
theorem upDl_succ (l : List J) (i : Nat) {k : Nat} (hk : k ≤ i) (h1 : ∀ t (ht : t < (upDl l i).length), t < k → at0 J.dl l (upDl l i)[t] ≤ at0 J.dl l i) (h2 : ∀ h : k < (upDl l i).length, at0 J.dl l i < at0 J.dl l (upDl l i)[k]) :
    upDl l (i + 1) = (upDl l i).take k ++ [i] ++ (upDl l i).drop k := by
  have : upDl l (i + 1) = insK (at0 J.dl l) (upDl l i) i := by
    unfold upDl sortK
    rw [List.range_succ, List.foldl_append]
    rfl
  rw [this]
  exact insK_cut _ _ _ (by rw [upDl_length]; exact hk) h1 h2
/-- The row's address and room at the head of a round. -/
def Shp (a3 : Option Addr) (i c3 : Nat) : Prop := (i = 0 ∧ a3 = none ∧ c3 = 0) ∨ (0 < i ∧ i ≤ c3 ∧ ∃ g, a3 = some ⟨g, 0, none⟩)
theorem ins_fin {l : List J} {i n' B : Nat} {W : World} {v : Value} {news : List Value} (hn : n' = i + 1) (hnews : news = (nz (upDl l (i + 1))).map (Value.int .i64)) (hown : W.ownsRow B 3 1 v n' news) :
    ∃ g cap, v = .slice (some ⟨g, 0, none⟩) (i + 1) cap ∧ i + 1 ≤ cap ∧ IRow W (some ⟨g, 0, none⟩) (nz (upDl l (i + 1))) := by
  subst hn hnews
  obtain ⟨g, cap, rfl, hc, _, _⟩ := own_room hown (by omega)
  have hl : (nz (upDl l (i + 1))).length = i + 1 := by rw [List.length_map, upDl_length]
  have hown' : W.ownsRow B 3 1 (.slice (some ⟨g, 0, none⟩) (i + 1) cap) (nz (upDl l (i + 1))).length ((nz (upDl l (i + 1))).map (Value.int .i64)) := by rw [hl]; exact hown
  obtain ⟨a, cap', he, hr⟩ := own_erow hown'
  injection he with e1 e2 e3
  rw [← e1] at hr
  exact ⟨g, cap, rfl, hc, hr⟩


set_option maxRecDepth 100000 in
set_option maxHeartbeats 8000000 in
theorem refByDeadline_any (l : List J) (a : Option Addr) (cap : Nat) (w : World) (hm : l.length ≤ 100000) (hr : JRow w a l) :
    Calls Tryd.prog 28 #[.slice a l.length cap] w fun e w' => ∃ a' cap', e = .returned (.slice a' l.length cap') ∧ IRow w' a' (nz (byDl l)) ∧ Ext w w' := by
  have mixed : Tryd.prog.follows .mixedOrders = true := by kernel_rfl
  obtain ⟨n, hn⟩ : ∃ n, l.length = n := ⟨_, rfl⟩
  rw [hn] at hm ⊢
  have HL : Hid (l.length = n ∧ JRow w a l) := ⟨hn, hr⟩
  clear hn hr
  go_enter Tryd.func28, Tryd.ntmps28
  go_wp2_with fail
  go_loopg [3, 4, 5] n (fun gk v3 v4 v5 wr => ∃ (i : Nat) (c3 : Nat) (a3 : Option Addr), v4 = .int .i64 i ∧ i ≤ n ∧ n - i ≤ gk ∧ v3 = .slice a3 i c3 ∧ Ext w wr ∧ IRow wr a3 (nz (upDl l i)) ∧ Shp a3 i c3)
  case atStart => exact ⟨0, 0, none, by go_num, by omega, by omega, rfl, Ext.refl _, ERow.nil _ _ _, Or.inl ⟨rfl, rfl, rfl⟩⟩
  case round =>
    obtain ⟨i, c3, a3, rfl, hi, hgk, rfl, hx, hR, hsh⟩ := hrel
    by_cases hlt : i < n
    · have hltz : (i : Int) < (n : Int) := by omega
      obtain ⟨b, off, rfl, hb, hJ⟩ := (HL.out).2.at (i := i) (by rw [(HL.out).1]; exact hlt)
      have HX : Hid (Ext w wr) := hx
      rcases hsh with ⟨rfl, rfl, rfl⟩ | ⟨hi0, hic, g, rfl⟩
      · go_wp2_with fail
        go_loopw [5] (fun v5 w2 => v5 = .int .i64 0 ∧ w2 = wr) (fun v5 _ => 0)
        case atStart => exact ⟨rfl, rfl⟩
        case round =>
          obtain ⟨rfl, rfl⟩ := hrel
          have NEWS : Hid (∀ _ : Unit, [] ++ [] ++ [.int .i64 (0 : Nat)] ++ [] = (nz (upDl l (0 + 1))).map (Value.int .i64)) := fun _ => rfl
          go_wp2_with fail
          go_quiet (fail)
          go_wp2_with fail
          have hZ : Ext w (wr.drewN nq) := hx.drewN _
          clear hx
          generalize wr.drewN nq = wz at hZ
          go_region_held3 (fun W => Ext wz W)
            (first | exact (Ext.refl _).drew | exact Ext.drew (by assumption) | exact Ext.alloc (by assumption) _ | exact (Ext.alloc (by assumption) _).drew | exact Below.trans (by assumption) (by assumption))
            (first
              | ((refine step_appX rtInt (by rfl) _ _ (by rfl) wz.heap.size (v := .slice (some ⟨wz.heap.size, 0, none⟩) 0 0) (n := 0) (xs := []) (by rfl) (own_empty (by decide) (by first | exact alloc_at _ _ _ (by simp) | exact alloc_old _ _ _ _ (by simp) (alloc_at _ _ _ (by simp))) (by omega)) (m := 0) (by rfl) (src_nil _ _ _) (by simp) (by omega) (by decide) (Below.size (by assumption)) ?_; intro v1 w1 hown1 hb1 hg1))
              | ((refine step_appX rtInt (by rfl) _ _ (by rfl) wz.heap.size (v := .slice (some ⟨wz.heap.size + 1, 0, none⟩) 0 0) (n := 0) (xs := []) (by rfl) (own_empty (by decide) (by exact alloc_at _ _ _ (by simp)) (by omega)) (m := 0) (by rfl) (src_nil _ _ _) (by simp) (by omega) (by decide) (Below.size (by assumption)) ?_; intro v1 w1 hown1 hb1 hg1))
              | ((refine step_appX rtInt (by rfl) _ _ (by rfl) wz.heap.size (v := v1) (n := 0 + 0) (by rfl) (by first | exact hown1 | exact hown1.alloc _) (m := 1) (news := [.int .i64 (0 : Nat)]) (by rfl) (src_lone rfl (by first | exact alloc_at _ _ _ (by simp) | exact (hg1.block _ (by first | (simp; done) | (simp; omega)) (by simp [Value.ownBlock])).trans (by first | exact alloc_at _ _ _ (by simp) | exact alloc_old _ _ _ _ (by simp) (alloc_at _ _ _ (by simp))))) (by simp [Value.oneCell']) (by omega) (by decide) (Below.size (by assumption)) ?_; intro v2 w2 hown2 hb2 hg2))
              | ((refine step_appX rtInt (by rfl) _ _ (by rfl) wz.heap.size (v := v2) (n := 0 + 0 + 1) (by rfl) (by first | exact hown2 | exact hown2.alloc _) (m := 0) (by rfl) (src_nil _ _ _) (by simp) (by omega) (by decide) (Below.size (by assumption)) ?_; intro v3 w3 hown3 hb3 hg3)))
          all_goals
            rename_i hE
            clear hb1 hb2 hb3 hg1 hg2 hg3 hown1 hown2
            obtain ⟨g3, cap3, rfl, hf1, hf2⟩ := ins_fin (l := l) (i := 0) (by omega) (NEWS.out ()) hown3
            have hf3 : Ext w w3 := hZ.trans hE
            clear hown3 hE NEWS
            go_wp2_with fail
            go_roundg (n - (0 + 1))
            case rel => exact ⟨0 + 1, cap3, some ⟨g3, 0, none⟩, by go_num, by omega, by omega, rfl, hf3, hf2, Or.inr ⟨by omega, hf1, g3, rfl⟩⟩
            case measure => omega
      · have hicz : (i : Int) ≤ (c3 : Int) := by omega
        go_wp2_with fail
        go_loopw [5] (fun v5 w2 => ∃ k : Nat, v5 = .int .i64 k ∧ k ≤ i ∧ Ext wr w2 ∧ Hid (∀ t (ht : t < (upDl l i).length), t < k → at0 J.dl l (upDl l i)[t] ≤ at0 J.dl l i)) (fun v5 _ => i - (intOf v5).toNat)
        case atStart => exact ⟨0, by go_num, by omega, Ext.refl _, fun t _ h => absurd h (Nat.not_lt_zero _)⟩
        case round =>
          obtain ⟨k, rfl, hk, hx2, HB⟩ := hrel
          by_cases hki : k < i
          · have hkiz : (k : Int) < (i : Int) := by omega
            have hup : (upDl l i).length = i := upDl_length l i
            have hkl : k < (upDl l i).length := by omega
            have hRz : IRow wr (some ⟨g, 0, none⟩) (nz (upDl l i)) := hR.ext hx2
            obtain ⟨p, hp⟩ : ∃ p, (upDl l i)[k] = p := ⟨_, rfl⟩
            have hpi : p < i := by rw [← hp]; exact upDl_lt l hkl
            obtain ⟨g', o', hg', _, cp⟩ := hRz k (by simpa using hkl)
            obtain ⟨rfl, rfl⟩ : g' = g ∧ o' = 0 := by injection hg' with e; injection e with e1 e2; exact ⟨e1.symm, e2.symm⟩
            have cp : wr.cell? ⟨g', 0 + k, none⟩ = some (.int .i64 p) := by rw [cp]; simp [hp]
            rw [Nat.zero_add] at cp
            have hpl : p < l.length := by rw [(HL.out).1]; omega
            have hil : i < l.length := by rw [(HL.out).1]; omega
            have cd := (hJ p hpl).c2
            have ci := (hJ i hil).c2
            have hxx : Ext w wr := (HX.out).trans hx2
            rw [← hxx.cell hb] at cd ci
            have hpn : (p : Int) < (n : Int) := by omega
            have HD : Hid (at0 J.dl l p = l[p].dl ∧ at0 J.dl l i = l[i].dl ∧ (upDl l i)[k] = p) := ⟨at0_eq _ _ hpl, at0_eq _ _ hil, hp⟩
            generalize l[p].dl = x at cd HD
            generalize l[i].dl = y at ci HD
            have HX2 : Hid (Ext w wr ∧ IRow wr (some ⟨g', 0, none⟩) (nz (upDl l i))) := ⟨hxx, hRz⟩
            have hrl : (nz (upDl l i)).length = i := by rw [List.length_map, upDl_length]
            have HR0 : Hid (IRow _ _ _) := hR
            clear hR hRz hup hp hJ hx hxx HX
            by_cases hle : x ≤ y
            · go_wp2_with fail
              go_quiet (fail)
              go_wp2_with fail
              go_roundw
              case rel =>
                refine ⟨k + 1, by go_num, by omega, hx2.drewN _, ?_⟩
                show ∀ t (ht : t < (upDl l i).length), t < k + 1 → _
                intro t ht htk
                by_cases e : t = k
                · subst e; rw [(HD.out).2.2, (HD.out).1, (HD.out).2.1]; exact hle
                · exact HB.out t ht (by omega)
              case measure => simp [intOf]; omega
            · have hle' : decide (x ≤ y) = false := decide_eq_false hle
              go_wp2_with fail
              go_quiet (fail)
              go_wp2_with fail
              clear cp cd ci hx2
              have hR : IRow (wr.drewN nq) (some ⟨g', 0, none⟩) (nz (upDl l i)) := (HX2.out).2.ext ((Ext.refl _).drewN _)
              have hZ : Ext w (wr.drewN nq) := (HX2.out).1.drewN _
              clear HX2 HR0
              have NEWS : Hid (∀ _ : Unit, [] ++ (((nz (upDl l i)).drop 0).take k).map (Value.int .i64) ++ [.int .i64 (i : Nat)] ++ (((nz (upDl l i)).drop k).take (i - k)).map (Value.int .i64) = (nz (upDl l (i + 1))).map (Value.int .i64)) := fun _ => by
                rw [upDl_succ l i (Nat.le_of_lt hki) (HB.out) (fun h => by rw [(HD.out).2.2, (HD.out).1, (HD.out).2.1]; omega)]
                rw [List.take_of_length_le (l := (nz (upDl l i)).drop k) (by rw [List.length_drop, hrl]; exact Nat.le_refl _)]
                simp [nz, List.map_take, List.map_drop]
              clear HB HD
              generalize wr.drewN nq = wz at hZ hR
              have hck : ¬ c3 = k := by omega
              have hkc : (k : Int) ≤ (c3 : Int) := by omega
              have hkc2 : (k : Int) ≤ (i : Int) := by omega
              go_region_held3 (fun W => Ext wz W)
                (first | exact (Ext.refl _).drew | exact Ext.drew (by assumption) | exact Ext.alloc (by assumption) _ | exact (Ext.alloc (by assumption) _).drew | exact Below.trans (by assumption) (by assumption))
                (first
                  | ((refine step_appX rtInt (by rfl) _ _ (by rfl) wz.heap.size (v := .slice (some ⟨wz.heap.size, 0, none⟩) 0 0) (n := 0) (xs := []) (by rfl) (own_empty (by decide) (by first | exact alloc_at _ _ _ (by simp) | exact alloc_old _ _ _ _ (by simp) (alloc_at _ _ _ (by simp))) (by omega)) (m := k) (by rfl) (src_erow0 (ERow.ext hR (by assumption)) 0 k _ (by omega)) (one_int _) (by omega) (by decide) (Below.size (by assumption)) ?_; intro v1 w1 hown1 hb1 hg1))
                  | ((refine step_appX rtInt (by rfl) _ _ (by rfl) wz.heap.size (v := .slice (some ⟨wz.heap.size + 1, 0, none⟩) 0 0) (n := 0) (xs := []) (by rfl) (own_empty (by decide) (by exact alloc_at _ _ _ (by simp)) (by omega)) (m := k) (by rfl) (src_erow0 (ERow.ext hR (by assumption)) 0 k _ (by omega)) (one_int _) (by omega) (by decide) (Below.size (by assumption)) ?_; intro v1 w1 hown1 hb1 hg1))
                  | ((refine step_appX rtInt (by rfl) _ _ (by rfl) wz.heap.size (v := v1) (n := 0 + k) (by rfl) (by first | exact hown1 | exact hown1.alloc _) (m := 1) (news := [.int .i64 (i : Nat)]) (by rfl) (src_lone rfl (by first | exact alloc_at _ _ _ (by simp) | exact (hg1.block _ (by first | (simp; done) | (simp; omega)) (by simp [Value.ownBlock])).trans (by first | exact alloc_at _ _ _ (by simp) | exact alloc_old _ _ _ _ (by simp) (alloc_at _ _ _ (by simp))))) (by simp [Value.oneCell']) (by omega) (by decide) (Below.size (by assumption)) ?_; intro v2 w2 hown2 hb2 hg2))
                  | ((refine step_appX rtInt (by rfl) _ _ (by rfl) wz.heap.size (v := v2) (n := 0 + k + 1) (by rfl) (by first | exact hown2 | exact hown2.alloc _) (m := (i - k)) (by rfl) (src_erow0 (ERow.ext hR (by assumption)) k (i - k) _ (by omega)) (one_int _) (by omega) (by decide) (Below.size (by assumption)) ?_; intro v3 w3 hown3 hb3 hg3)))
              all_goals
                rename_i hE
                clear hb1 hb2 hb3 hg1 hg2 hg3 hown1 hown2
                obtain ⟨g3, cap3, rfl, hf1, hf2⟩ := ins_fin (l := l) (i := i) (by omega) (NEWS.out ()) hown3
                have hf3 : Ext w w3 := hZ.trans hE
                clear hown3 hE NEWS
                go_wp2_with fail
                go_roundg (n - (i + 1))
                case rel => exact ⟨i + 1, cap3, some ⟨g3, 0, none⟩, by go_num, by omega, by omega, rfl, hf3, hf2, Or.inr ⟨by omega, hf1, g3, rfl⟩⟩
                case measure => omega
          · have : k = i := by omega
            subst this
            have hkz : ¬ (k : Int) < (k : Int) := by omega
            have HX2 : Hid (Ext w wr ∧ IRow wr (some ⟨g, 0, none⟩) (nz (upDl l k))) := ⟨(HX.out).trans hx2, hR.ext hx2⟩
            have hrl : (nz (upDl l k)).length = k := by rw [List.length_map, upDl_length]
            clear HX hx2 hR hx
            go_wp2_with fail
            go_quiet (fail)
            go_wp2_with fail
            have HX : Hid (Ext w (wr.drewN nq)) := (HX2.out).1.drewN _
            have hR : IRow (wr.drewN nq) (some ⟨g, 0, none⟩) (nz (upDl l k)) := (HX2.out).2.ext ((Ext.refl _).drewN _)
            clear HX2
            have NEWS : Hid (∀ _ : Unit, [] ++ (((nz (upDl l k)).drop 0).take k).map (Value.int .i64) ++ [.int .i64 (k : Nat)] ++ (((nz (upDl l k)).drop k).take 0).map (Value.int .i64) = (nz (upDl l (k + 1))).map (Value.int .i64)) := fun _ => by
              rw [upDl_succ l k (Nat.le_refl k) (HB.out) (fun h => by rw [upDl_length] at h; omega)]
              simp [upDl_length, nz, List.take_of_length_le, List.drop_of_length_le]
            have hZ : Ext w (wr.drewN nq) := HX.out
            clear HX
            generalize wr.drewN nq = wz at hZ hR
            by_cases hck : c3 = k
            · subst hck
              go_region_held3 (fun W => Ext wz W)
                (first | exact (Ext.refl _).drew | exact Ext.drew (by assumption) | exact Ext.alloc (by assumption) _ | exact (Ext.alloc (by assumption) _).drew | exact Below.trans (by assumption) (by assumption))
                (first
                  | ((refine step_appX rtInt (by rfl) _ _ (by rfl) wz.heap.size (v := .slice (some ⟨wz.heap.size, 0, none⟩) 0 0) (n := 0) (xs := []) (by rfl) (own_empty (by decide) (by first | exact alloc_at _ _ _ (by simp) | exact alloc_old _ _ _ _ (by simp) (alloc_at _ _ _ (by simp))) (by omega)) (m := c3) (by rfl) (src_erow0 (ERow.ext hR (by assumption)) 0 c3 _ (by omega)) (one_int _) (by omega) (by decide) (Below.size (by assumption)) ?_; intro v1 w1 hown1 hb1 hg1))
                  | ((refine step_appX rtInt (by rfl) _ _ (by rfl) wz.heap.size (v := .slice (some ⟨wz.heap.size + 1, 0, none⟩) 0 0) (n := 0) (xs := []) (by rfl) (own_empty (by decide) (by exact alloc_at _ _ _ (by simp)) (by omega)) (m := c3) (by rfl) (src_erow0 (ERow.ext hR (by assumption)) 0 c3 _ (by omega)) (one_int _) (by omega) (by decide) (Below.size (by assumption)) ?_; intro v1 w1 hown1 hb1 hg1))
                  | ((refine step_appX rtInt (by rfl) _ _ (by rfl) wz.heap.size (v := v1) (n := 0 + c3) (by rfl) (by first | exact hown1 | exact hown1.alloc _) (m := 1) (news := [.int .i64 (c3 : Nat)]) (by rfl) (src_lone rfl (by first | exact alloc_at _ _ _ (by simp) | exact (hg1.block _ (by first | (simp; done) | (simp; omega)) (by simp [Value.ownBlock])).trans (by first | exact alloc_at _ _ _ (by simp) | exact alloc_old _ _ _ _ (by simp) (alloc_at _ _ _ (by simp))))) (by simp [Value.oneCell']) (by omega) (by decide) (Below.size (by assumption)) ?_; intro v2 w2 hown2 hb2 hg2))
                  | ((refine step_appX rtInt (by rfl) _ _ (by rfl) wz.heap.size (v := v2) (n := 0 + c3 + 1) (by rfl) (by first | exact hown2 | exact hown2.alloc _) (m := 0) (by rfl) (src_erow0 (ERow.ext hR (by assumption)) 0 0 _ (by omega)) (one_int _) (by omega) (by decide) (Below.size (by assumption)) ?_; intro v3 w3 hown3 hb3 hg3)))
              all_goals
                rename_i hE
                clear hb1 hb2 hb3 hg1 hg2 hg3 hown1 hown2
                obtain ⟨g3, cap3, rfl, hf1, hf2⟩ := ins_fin (l := l) (i := c3) (by omega) (NEWS.out ()) hown3
                have hf3 : Ext w w3 := hZ.trans hE
                clear hown3 hE NEWS
                go_wp2_with fail
                go_roundg (n - (c3 + 1))
                case rel => exact ⟨c3 + 1, cap3, some ⟨g3, 0, none⟩, by go_num, by omega, by omega, rfl, hf3, hf2, Or.inr ⟨by omega, hf1, g3, rfl⟩⟩
                case measure => omega
            · skip
              go_region_held3 (fun W => Ext wz W)
                (first | exact (Ext.refl _).drew | exact Ext.drew (by assumption) | exact Ext.alloc (by assumption) _ | exact (Ext.alloc (by assumption) _).drew | exact Below.trans (by assumption) (by assumption))
                (first
                  | ((refine step_appX rtInt (by rfl) _ _ (by rfl) wz.heap.size (v := .slice (some ⟨wz.heap.size, 0, none⟩) 0 0) (n := 0) (xs := []) (by rfl) (own_empty (by decide) (by first | exact alloc_at _ _ _ (by simp) | exact alloc_old _ _ _ _ (by simp) (alloc_at _ _ _ (by simp))) (by omega)) (m := k) (by rfl) (src_erow0 (ERow.ext hR (by assumption)) 0 k _ (by omega)) (one_int _) (by omega) (by decide) (Below.size (by assumption)) ?_; intro v1 w1 hown1 hb1 hg1))
                  | ((refine step_appX rtInt (by rfl) _ _ (by rfl) wz.heap.size (v := .slice (some ⟨wz.heap.size + 1, 0, none⟩) 0 0) (n := 0) (xs := []) (by rfl) (own_empty (by decide) (by exact alloc_at _ _ _ (by simp)) (by omega)) (m := k) (by rfl) (src_erow0 (ERow.ext hR (by assumption)) 0 k _ (by omega)) (one_int _) (by omega) (by decide) (Below.size (by assumption)) ?_; intro v1 w1 hown1 hb1 hg1))
                  | ((refine step_appX rtInt (by rfl) _ _ (by rfl) wz.heap.size (v := v1) (n := 0 + k) (by rfl) (by first | exact hown1 | exact hown1.alloc _) (m := 1) (news := [.int .i64 (k : Nat)]) (by rfl) (src_lone rfl (by first | exact alloc_at _ _ _ (by simp) | exact (hg1.block _ (by first | (simp; done) | (simp; omega)) (by simp [Value.ownBlock])).trans (by first | exact alloc_at _ _ _ (by simp) | exact alloc_old _ _ _ _ (by simp) (alloc_at _ _ _ (by simp))))) (by simp [Value.oneCell']) (by omega) (by decide) (Below.size (by assumption)) ?_; intro v2 w2 hown2 hb2 hg2))
                  | ((refine step_appX rtInt (by rfl) _ _ (by rfl) wz.heap.size (v := v2) (n := 0 + k + 1) (by rfl) (by first | exact hown2 | exact hown2.alloc _) (m := 0) (by rfl) (src_erow0 (ERow.ext hR (by assumption)) k 0 _ (by omega)) (one_int _) (by omega) (by decide) (Below.size (by assumption)) ?_; intro v3 w3 hown3 hb3 hg3)))
              all_goals
                rename_i hE
                clear hb1 hb2 hb3 hg1 hg2 hg3 hown1 hown2
                obtain ⟨g3, cap3, rfl, hf1, hf2⟩ := ins_fin (l := l) (i := k) (by omega) (NEWS.out ()) hown3
                have hf3 : Ext w w3 := hZ.trans hE
                clear hown3 hE NEWS
                go_wp2_with fail
                go_roundg (n - (k + 1))
                case rel => exact ⟨k + 1, cap3, some ⟨g3, 0, none⟩, by go_num, by omega, by omega, rfl, hf3, hf2, Or.inr ⟨by omega, hf1, g3, rfl⟩⟩
                case measure => omega
    · have : i = n := by omega
      subst this
      go_wp2
      go_ret
      refine ⟨a3, c3, rfl, ?_, hx⟩
      have : byDl l = upDl l i := by unfold byDl upDl; rw [(HL.out).1]
      rw [this]; exact hR
end Go.Proofs.YtnnmakkbnfckmaaDoor
/- Walks: what law 8 asks ahead of all else. -/
namespace Go.Proofs.YtnnmakkbnfckmaaDoor
open Go.RowKit

/-- One job in a block that has just been laid. -/
theorem jrow_one (j : J) (W : World) (o : Obj) (B : Nat) (t : TypeId) (hB : B = W.heap.size) (ho : o = .cells j.cells.toArray t) : JRow (W.alloc o) (some ⟨B, 0, none⟩) [j] := fun i hi => by
  subst hB ho
  have : i = 0 := by simpa using hi
  subst this
  have h := alloc_at W (.cells j.cells.toArray t) _ rfl
  refine ⟨W.heap.size, 0, rfl, by simp, ?_⟩
  simp only [Nat.zero_mul, Nat.add_zero, List.getElem_cons_zero]
  constructor <;> (simp only [World.cell?, h]; rfl)
abbrev aw8 : J := ⟨⟨#[97]⟩, 0, 9, 3, 5, 0, 2, false⟩
set_option maxRecDepth 100000 in
theorem aw8_good : goodB aw8 = true := by decide +kernel
theorem aw8_ok : aw8.ok := by unfold J.ok bigS; decide

set_option maxRecDepth 100000 in
set_option maxHeartbeats 4000000 in
theorem awake8 (w : World) (hT : Tabs w) : Calls Tryd.prog 12 #[] w fun e w' => e = .returned (.bool true) ∧ Ext w w' := by
  have e1 : workJ aw8 = 5 := by unfold workJ; rw [aw8_good]; rfl
  have e2 : chargeJ aw8 = 5 := by unfold chargeJ; rw [aw8_good]; rfl
  have e3 : runsB aw8 = false := by decide
  have e4 : endJ [aw8] = 9 := by
    have : allB [aw8] = true := by unfold allB; simp [aw8_good]
    unfold endJ; rw [this]; decide
  have C1 := Lib.hid fun W (h : Ext w W) => good_any aw8 W (NameC.of (hT.ext h)) aw8_ok
  have C2 := Lib.hid fun W (h : Ext w W) => work_any aw8 W (NameC.of (hT.ext h)) aw8_ok
  have C3 := Lib.hid fun W (h : Ext w W) => charge_any aw8 W (NameC.of (hT.ext h)) aw8_ok
  have C4 := Lib.hid fun W (h : Ext w W) => runs_any aw8 W
  have C5 : Hid (∀ W a, Ext w W → JRow W a [aw8] → Calls Tryd.prog 24 #[.slice a 1 1] W fun e w' => e = .returned (.int .i64 (endJ [aw8])) ∧ Ext W w') := Lib.hid fun W a (h : Ext w W) (hr : JRow W a [aw8]) => end_any [aw8] a 1 W (by decide) (NameC.of (hT.ext h)) (by simp [aw8_ok]) hr
  rw [aw8_good] at C1
  rw [e1] at C2
  rw [e2] at C3
  rw [e3] at C4
  rw [e4] at C5
  clear e1 e2 e3 e4 hT
  go_enter Tryd.func12, Tryd.ntmps12
  go_wp2_with (first
    | (go_at_call 15; go_must (with_reducible refine (C1.out _ (Ext.new _ _)).mono ?_); rintro e w1 ⟨rfl, h1⟩; obtain ⟨hc1, hf1⟩ := bcell h1; have x1 := (Ext.new _ _).trans h1; have z1 : w.heap.size < w1.heap.size := by have := h1.size; simp at this; omega)
    | (go_at_call 21; go_must (with_reducible refine (C2.out _ x1).mono ?_); rintro e w2 ⟨rfl, h2⟩; obtain ⟨hc2, hf2⟩ := bcell h2; have x2 := x1.trans h2; have z2 := Nat.lt_of_lt_of_le z1 h2.size)
    | (go_at_call 19; go_must (with_reducible refine (C3.out _ x2).mono ?_); rintro e w3 ⟨rfl, h3⟩; obtain ⟨hc3, hf3⟩ := bcell h3; have x3 := x2.trans h3; have z3 := Nat.lt_of_lt_of_le z2 h3.size)
    | (go_at_call 23; go_must (with_reducible refine (C4.out _ x3).mono ?_); rintro e w4 ⟨rfl, h4⟩; obtain ⟨hc4, hf4⟩ := bcell h4; have x4 := x3.trans h4; have z4 := Nat.lt_of_lt_of_le z3 h4.size)
    | (go_at_call 24; go_must (with_reducible refine (C5.out _ _ (x4.alloc _) (jrow_one aw8 _ _ _ 24 rfl rfl)).mono ?_); rintro e w5 ⟨rfl, h5⟩))
  go_ret
  exact ⟨rfl, (x4.alloc _).trans h5⟩
end Go.Proofs.YtnnmakkbnfckmaaDoor
/- Walks: JobSays. -/
namespace Go.Proofs.YtnnmakkbnfckmaaDoor
open Go.RowKit

theorem heavy_len {l : List J} {most last : Int} (h : heavyB l most last = false) : (l.length : Int) ≤ most := by
  simp only [heavyB, Bool.or_eq_false_iff, decide_eq_false_iff_not] at h
  omega

theorem jcells_new (j : J) (W : World) (t : TypeId) : JCells (W.alloc (.cells j.cells.toArray t)) W.heap.size 0 j := by
  have h := alloc_at W (.cells j.cells.toArray t) _ rfl
  constructor <;> (simp only [World.cell?, h]; rfl)
theorem jrow_one_at {w : World} {a : Option Addr} {j : J} (h : JRow w a [j]) : ∃ b off, a = some ⟨b, off, none⟩ ∧ b < w.heap.size ∧ JCells w b off j := by
  obtain ⟨b, off, h1, h2, h3⟩ := h 0 (by simp)
  exact ⟨b, off, h1, h2, by simpa using h3⟩

theorem sj_ext {wz W : World} {B3 B5 : Nat} {j : J} (h : Ext wz W ∧ W.cell? ⟨B3, 0, none⟩ = some (.string j.name) ∧ W.cell? ⟨B3, 1, none⟩ = some (.int .i64 j.rel) ∧ W.cell? ⟨B3, 2, none⟩ = some (.int .i64 j.dl) ∧ W.cell? ⟨B3, 3, none⟩ = some (.int .i64 j.bud) ∧ W.cell? ⟨B3, 4, none⟩ = some (.int .i64 j.act) ∧ W.cell? ⟨B3, 5, none⟩ = some (.int .i64 j.val) ∧ W.cell? ⟨B3, 6, none⟩ = some (.int .i64 j.cln) ∧ W.cell? ⟨B3, 7, none⟩ = some (.bool j.hard) ∧ W.cell? ⟨B5, 0, none⟩ = some (.string j.name) ∧ W.cell? ⟨B5, 1, none⟩ = some (.int .i64 j.rel) ∧ W.cell? ⟨B5, 2, none⟩ = some (.int .i64 j.dl) ∧ W.cell? ⟨B5, 3, none⟩ = some (.int .i64 j.bud) ∧ W.cell? ⟨B5, 4, none⟩ = some (.int .i64 j.act) ∧ W.cell? ⟨B5, 5, none⟩ = some (.int .i64 j.val) ∧ W.cell? ⟨B5, 6, none⟩ = some (.int .i64 j.cln) ∧ W.cell? ⟨B5, 7, none⟩ = some (.bool j.hard)) : Ext wz W := h.1
theorem keepSJ {wz W W' : World} {B3 B5 : Nat} {j : J} (h3 : B3 < wz.heap.size) (h5 : B5 < wz.heap.size) (hE : Ext W W') (h : Ext wz W ∧ W.cell? ⟨B3, 0, none⟩ = some (.string j.name) ∧ W.cell? ⟨B3, 1, none⟩ = some (.int .i64 j.rel) ∧ W.cell? ⟨B3, 2, none⟩ = some (.int .i64 j.dl) ∧ W.cell? ⟨B3, 3, none⟩ = some (.int .i64 j.bud) ∧ W.cell? ⟨B3, 4, none⟩ = some (.int .i64 j.act) ∧ W.cell? ⟨B3, 5, none⟩ = some (.int .i64 j.val) ∧ W.cell? ⟨B3, 6, none⟩ = some (.int .i64 j.cln) ∧ W.cell? ⟨B3, 7, none⟩ = some (.bool j.hard) ∧ W.cell? ⟨B5, 0, none⟩ = some (.string j.name) ∧ W.cell? ⟨B5, 1, none⟩ = some (.int .i64 j.rel) ∧ W.cell? ⟨B5, 2, none⟩ = some (.int .i64 j.dl) ∧ W.cell? ⟨B5, 3, none⟩ = some (.int .i64 j.bud) ∧ W.cell? ⟨B5, 4, none⟩ = some (.int .i64 j.act) ∧ W.cell? ⟨B5, 5, none⟩ = some (.int .i64 j.val) ∧ W.cell? ⟨B5, 6, none⟩ = some (.int .i64 j.cln) ∧ W.cell? ⟨B5, 7, none⟩ = some (.bool j.hard)) : Ext wz W' ∧ W'.cell? ⟨B3, 0, none⟩ = some (.string j.name) ∧ W'.cell? ⟨B3, 1, none⟩ = some (.int .i64 j.rel) ∧ W'.cell? ⟨B3, 2, none⟩ = some (.int .i64 j.dl) ∧ W'.cell? ⟨B3, 3, none⟩ = some (.int .i64 j.bud) ∧ W'.cell? ⟨B3, 4, none⟩ = some (.int .i64 j.act) ∧ W'.cell? ⟨B3, 5, none⟩ = some (.int .i64 j.val) ∧ W'.cell? ⟨B3, 6, none⟩ = some (.int .i64 j.cln) ∧ W'.cell? ⟨B3, 7, none⟩ = some (.bool j.hard) ∧ W'.cell? ⟨B5, 0, none⟩ = some (.string j.name) ∧ W'.cell? ⟨B5, 1, none⟩ = some (.int .i64 j.rel) ∧ W'.cell? ⟨B5, 2, none⟩ = some (.int .i64 j.dl) ∧ W'.cell? ⟨B5, 3, none⟩ = some (.int .i64 j.bud) ∧ W'.cell? ⟨B5, 4, none⟩ = some (.int .i64 j.act) ∧ W'.cell? ⟨B5, 5, none⟩ = some (.int .i64 j.val) ∧ W'.cell? ⟨B5, 6, none⟩ = some (.int .i64 j.cln) ∧ W'.cell? ⟨B5, 7, none⟩ = some (.bool j.hard) := by
  obtain ⟨hx, a0, a1, a2, a3, a4, a5, a6, a7, b0, b1, b2, b3, b4, b5, b6, b7⟩ := h
  have q3 : B3 < W.heap.size := hx.lt h3
  have q5 : B5 < W.heap.size := hx.lt h5
  refine ⟨hx.trans hE, ?_⟩
  simp only [hE.cell q3, hE.cell q5]
  exact ⟨a0, a1, a2, a3, a4, a5, a6, a7, b0, b1, b2, b3, b4, b5, b6, b7⟩

set_option maxRecDepth 100000 in
set_option maxHeartbeats 16000000 in
theorem jobSays_any (l : List J) (j : J) (a : Option Addr) (cap : Nat) (w : World) (hm : l.length ≤ bigS) (hT : Tabs w) (hs : ∀ j ∈ l, j.ok) (hj : j.ok) (hr : JRow w a l) :
    Calls Tryd.prog 3 #[.slice a l.length cap, j.agg] w fun e w' => e = .returned (.bool true) ∧ Ext w w' := by
  have mixed : Tryd.prog.follows .mixedOrders = true := by kernel_rfl
  have CA : Hid (∀ W, Ext w W → Calls Tryd.prog 12 #[] W fun e w' => e = .returned (.bool true) ∧ Ext W w') := fun W h => awake8 W (hT.ext h)
  have CH : Hid (∀ W, Ext w W → Calls Tryd.prog 13 #[.slice a l.length cap, .int .i64 30, .int .i64 10000] W fun e w' => e = .returned (.bool (heavyB l 30 10000)) ∧ W = w') := fun W h => heavy_tocsinlaw8 l 30 10000 a cap W hm (hr.ext h)
  have CO : Hid (∀ W a, JRow W a [j] → Calls Tryd.prog 14 #[.slice a 1 1] W (JSl [j] W)) := fun W a h => own_tocsinlaw8 [j] a 1 W (by simp) h
  cases hv : heavyB l 30 10000 with
  | true =>
    rw [hv] at CH
    clear hv hs hr hT hj
    go_enter Tryd.func3, Tryd.ntmps3
    go_wp2_with (first
      | (go_at_call 12; go_must (with_reducible refine (CA.out _ (Ext.new _ _)).mono ?_); rintro e w1 ⟨rfl, h1⟩; have x1 := (Ext.new _ _).trans h1)
      | (go_at_call 13; go_must (with_reducible refine (CH.out _ x1).mono ?_); rintro e w2 ⟨rfl, rfl⟩))
    go_ret
    exact ⟨rfl, x1⟩
  | false =>
    have hlen := heavy_len hv
    rw [hv] at CH
    have HO : Hid (Tabs w ∧ (∀ j ∈ l, j.ok) ∧ j.ok ∧ JRow w a l ∧ l.length ≤ 30) := ⟨hT, hs, hj, hr, by omega⟩
    clear hv hs hr hT
    by_cases hn : 100 < j.name.size
    · go_enter Tryd.func3, Tryd.ntmps3
      go_wp2_with (first
        | (go_at_call 12; go_must (with_reducible refine (CA.out _ (Ext.new _ _)).mono ?_); rintro e w1 ⟨rfl, h1⟩; obtain ⟨hc1, hf1⟩ := bcell h1; have x1 := (Ext.new _ _).trans h1)
        | (go_at_call 13; go_must (with_reducible refine (CH.out _ x1).mono ?_); rintro e w2 ⟨rfl, rfl⟩))
      go_ret
      exact ⟨rfl, x1⟩
    · go_enter Tryd.func3, Tryd.ntmps3
      go_wp2_with (first
        | (go_at_call 12; go_must (with_reducible refine (CA.out _ (Ext.new _ _)).mono ?_); rintro e w1 ⟨rfl, h1⟩; obtain ⟨hc1, hf1⟩ := bcell h1; have x1 := (Ext.new _ _).trans h1)
        | (go_at_call 13; go_must (with_reducible refine (CH.out _ x1).mono ?_); rintro e w2 ⟨rfl, rfl⟩)
        | (go_at_call 14; go_must (with_reducible refine (CO.out _ _ (jrow_one j _ _ _ 24 rfl rfl)).mono ?_); rintro e w3 ⟨a3, cap3, rfl, hr3, h3⟩; obtain ⟨hc3, hf3⟩ := bcell h3; obtain ⟨b3, o3, rfl, hb3, K⟩ := jrow_one_at hr3; obtain ⟨k0, k1, k2, k3, k4, k5, k6, k7⟩ := K))
      have z1 : w.heap.size < w1.heap.size := by have := h1.size; simp at this; omega
      have z3 : w1.heap.size < w3.heap.size := by have := h3.size; simp at this; omega
      have X3 : Hid (Ext w w3) := (x1.alloc _).trans h3
      have K1 : JCells w3 w.heap.size 0 j := by
        have k0 : JCells (w.alloc (.cells j.cells.toArray 24)) w.heap.size 0 j := jcells_new _ _ _
        exact ((k0.ext h1 (by simp)).ext (Ext.new _ _) z1).ext h3 (by simp; omega)
      clear hc1 hf1 hc3 hf3 h1 h3 hr3 x1 CA CH CO
      have HB3 : Hid (w.heap.size < (w3.alloc (.cells j.cells.toArray 27)).heap.size) := by show _ < _; simp; omega
      have HB5 : Hid (w3.heap.size < (w3.alloc (.cells j.cells.toArray 27)).heap.size) := by show _ < _; simp
      have XZ : Hid (Ext w (w3.alloc (.cells j.cells.toArray 27))) := (X3.out).alloc _
      obtain ⟨a0, a1, a2, a3, a4, a5, a6, a7⟩ := K1.ext (Ext.new w3 (.cells j.cells.toArray 27)) (show w.heap.size < w3.heap.size by omega)
      obtain ⟨b0, b1, b2, b3, b4, b5, b6, b7⟩ := jcells_new j w3 27
      simp only [Nat.zero_add] at a1 a2 a3 a4 a5 a6 a7 b1 b2 b3 b4 b5 b6 b7
      clear k0 k1 k2 k3 k4 k5 k6 k7 hb3 K1 X3 z1 z3
      generalize w.heap.size = B3 at *
      generalize w3.heap.size = B5 at *
      generalize w3.alloc (.cells j.cells.toArray 27) = wz at *
      have e0 : Ext wz wz := Ext.refl _
      have TZ : Hid (∀ W, Ext wz W → Tabs W ∧ JRow W a l) := fun W h => ⟨(HO.out).1.ext ((XZ.out).trans h), (HO.out).2.2.2.1.ext ((XZ.out).trans h)⟩
      have G15 : Hid (∀ W, Ext wz W → Calls Tryd.prog 15 #[j.agg] W fun e w' => e = .returned (.bool (goodB j)) ∧ Ext W w') := fun W h => good_any j W (NameC.of ((TZ.out W h).1)) (HO.out).2.2.1
      have G16 : Hid (∀ W, Ext wz W → Calls Tryd.prog 16 #[j.agg] W fun e w' => e = .returned (.bool (goodB j)) ∧ Ext W w') := fun W h => refGood_any j W (TZ.out W h).1 (HO.out).2.2.1
      have G17 : Hid (∀ W, Ext wz W → Calls Tryd.prog 17 #[.slice a l.length cap] W fun e w' => e = .returned (.bool (allB l)) ∧ Ext W w') := fun W h => all_any l a cap W hm (NameC.of (TZ.out W h).1) (HO.out).2.1 (TZ.out W h).2
      have G14 : Hid (∀ W, Ext wz W → Calls Tryd.prog 14 #[.slice a l.length cap] W (JSl l W)) := fun W h => own_tocsinlaw8 l a cap W (by have := (HO.out).2.2.2.2; omega) (TZ.out W h).2
      have G18 : Hid (∀ W a c, Ext wz W → JRow W a l → Calls Tryd.prog 18 #[.slice a l.length c] W fun e w' => e = .returned (.bool (allB l)) ∧ Ext W w') := fun W a c h hr => refAll_any l a c W hm (TZ.out W h).1 (HO.out).2.1 hr
      have G19 : Hid (∀ W, Ext wz W → Calls Tryd.prog 19 #[j.agg] W fun e w' => e = .returned (.int .i64 (chargeJ j)) ∧ Ext W w') := fun W h => charge_any j W (NameC.of (TZ.out W h).1) (HO.out).2.2.1
      have G20 : Hid (∀ W, Ext wz W → Calls Tryd.prog 20 #[j.agg] W fun e w' => e = .returned (.int .i64 (chargeJ j)) ∧ Ext W w') := fun W h => refCharge_any j W (TZ.out W h).1 (HO.out).2.2.1
      have G21 : Hid (∀ W, Ext wz W → Calls Tryd.prog 21 #[j.agg] W fun e w' => e = .returned (.int .i64 (workJ j)) ∧ Ext W w') := fun W h => work_any j W (NameC.of (TZ.out W h).1) (HO.out).2.2.1
      have G22 : Hid (∀ W, Ext wz W → Calls Tryd.prog 22 #[j.agg] W fun e w' => e = .returned (.int .i64 (workJ j)) ∧ Ext W w') := fun W h => refWork_any j W (TZ.out W h).1 (HO.out).2.2.1
      have G23 : Hid (∀ W, Ext wz W → Calls Tryd.prog 23 #[j.agg] W fun e w' => e = .returned (.bool (decide (j.act ≤ j.bud))) ∧ Ext W w') := fun W h => runs_any j W
      have G24 : Hid (∀ W, Ext wz W → Calls Tryd.prog 24 #[.slice a l.length cap] W fun e w' => e = .returned (.int .i64 (endJ l)) ∧ Ext W w') := fun W h => end_any l a cap W hm (NameC.of (TZ.out W h).1) (HO.out).2.1 (TZ.out W h).2
      have G25 : Hid (∀ W a c, Ext wz W → JRow W a l → Calls Tryd.prog 25 #[.slice a l.length c] W fun e w' => e = .returned (.int .i64 (endJ l)) ∧ Ext W w') := fun W a c h hr => refEnd_any l a c W hm (TZ.out W h).1 (HO.out).2.1 hr
      have G27 : Hid (∀ W, Ext wz W → Calls Tryd.prog 27 #[.slice a l.length cap] W fun e w' => ∃ a' cap', e = .returned (.slice a' l.length cap') ∧ IRow w' a' (nz (byDl l)) ∧ Ext W w') := fun W h => byDeadline_any l a cap W (by have := (HO.out).2.2.2.2; omega) (TZ.out W h).2
      have G28 : Hid (∀ W a c, Ext wz W → JRow W a l → Calls Tryd.prog 28 #[.slice a l.length c] W fun e w' => ∃ a' cap', e = .returned (.slice a' l.length cap') ∧ IRow w' a' (nz (byDl l)) ∧ Ext W w') := fun W a c h hr => refByDeadline_any l a c W (by have := (HO.out).2.2.2.2; omega) hr
      have G26 : Hid (∀ W a b c c', IRow W a (nz (byDl l)) → IRow W b (nz (byDl l)) → Calls Tryd.prog 26 #[.slice a l.length c, .slice b l.length c'] W fun e w' => e = .returned (.bool true) ∧ Ext W w') := fun W a b c c' h1 h2 => by
        have hlen : (nz (byDl l)).length = l.length := by rw [List.length_map, byDl_length]
        have := ints_tocsinlaw8 (nz (byDl l)) (nz (byDl l)) a b c c' W (by rw [hlen]; exact hm) (by rw [hlen]; exact hm) h1 h2
        rw [hlen] at this
        simpa using this
      clear TZ HO hlen hn hj hm
      go_region_held3 (fun W => Ext wz W ∧ W.cell? ⟨B3, 0, none⟩ = some (.string j.name) ∧ W.cell? ⟨B3, 1, none⟩ = some (.int .i64 j.rel) ∧ W.cell? ⟨B3, 2, none⟩ = some (.int .i64 j.dl) ∧ W.cell? ⟨B3, 3, none⟩ = some (.int .i64 j.bud) ∧ W.cell? ⟨B3, 4, none⟩ = some (.int .i64 j.act) ∧ W.cell? ⟨B3, 5, none⟩ = some (.int .i64 j.val) ∧ W.cell? ⟨B3, 6, none⟩ = some (.int .i64 j.cln) ∧ W.cell? ⟨B3, 7, none⟩ = some (.bool j.hard) ∧ W.cell? ⟨B5, 0, none⟩ = some (.string j.name) ∧ W.cell? ⟨B5, 1, none⟩ = some (.int .i64 j.rel) ∧ W.cell? ⟨B5, 2, none⟩ = some (.int .i64 j.dl) ∧ W.cell? ⟨B5, 3, none⟩ = some (.int .i64 j.bud) ∧ W.cell? ⟨B5, 4, none⟩ = some (.int .i64 j.act) ∧ W.cell? ⟨B5, 5, none⟩ = some (.int .i64 j.val) ∧ W.cell? ⟨B5, 6, none⟩ = some (.int .i64 j.cln) ∧ W.cell? ⟨B5, 7, none⟩ = some (.bool j.hard))
        (first | exact keepSJ HB3.out HB5.out hE (by assumption) | exact keepSJ HB3.out HB5.out ((Ext.refl _).drew) ⟨by assumption, by assumption, by assumption, by assumption, by assumption, by assumption, by assumption, by assumption, by assumption, by assumption, by assumption, by assumption, by assumption, by assumption, by assumption, by assumption, by assumption⟩)
        (first
          | (go_at_call 15; refine (G15.out _ (sj_ext (by assumption))).mono ?_; rintro e w4 ⟨rfl, hE⟩)
          | (go_at_call 16; refine (G16.out _ (sj_ext (by assumption))).mono ?_; rintro e w4 ⟨rfl, hE⟩)
          | (go_at_call 17; refine (G17.out _ (sj_ext (by assumption))).mono ?_; rintro e w4 ⟨rfl, hE⟩)
          | (go_at_call 14; refine (G14.out _ (sj_ext (by assumption))).mono ?_; rintro e w4 ⟨ar, capr, rfl, hrr, hEo⟩; have hE := hEo)
          | (go_at_call 18; refine (G18.out _ _ _ (sj_ext (by assumption)) hrr).mono ?_; rintro e w4 ⟨rfl, hE⟩)
          | (go_at_call 19; refine (G19.out _ (sj_ext (by assumption))).mono ?_; rintro e w4 ⟨rfl, hE⟩)
          | (go_at_call 20; refine (G20.out _ (sj_ext (by assumption))).mono ?_; rintro e w4 ⟨rfl, hE⟩)
          | (go_at_call 21; refine (G21.out _ (sj_ext (by assumption))).mono ?_; rintro e w4 ⟨rfl, hE⟩)
          | (go_at_call 22; refine (G22.out _ (sj_ext (by assumption))).mono ?_; rintro e w4 ⟨rfl, hE⟩)
          | (go_at_call 23; refine (G23.out _ (sj_ext (by assumption))).mono ?_; rintro e w4 ⟨rfl, hE⟩)
          | (go_at_call 24; refine (G24.out _ (sj_ext (by assumption))).mono ?_; rintro e w4 ⟨rfl, hE⟩)
          | (go_at_call 25; refine (G25.out _ _ _ (sj_ext (by assumption)) hrr).mono ?_; rintro e w4 ⟨rfl, hE⟩)
          | (go_at_call 27; refine (G27.out _ (sj_ext (by assumption))).mono ?_; rintro e w4 ⟨a27, c27, rfl, hi27, hE⟩)
          | (go_at_call 28; refine (G28.out _ _ _ (sj_ext (by assumption)) hrr).mono ?_; rintro e w4 ⟨a28, c28, rfl, hi28, hE28⟩; have hE := hE28)
          | (go_at_call 26; refine (G26.out _ _ _ _ _ (hi27.ext (Ext.trans hEo hE28)) hi28).mono ?_; rintro e w4 ⟨rfl, hE⟩))
      all_goals go_wp2_with fail
      all_goals go_ret
      all_goals (rename_i hfin; exact ⟨by first | rfl | simp, (XZ.out).trans (sj_ext (by assumption))⟩)
end Go.Proofs.YtnnmakkbnfckmaaDoor
