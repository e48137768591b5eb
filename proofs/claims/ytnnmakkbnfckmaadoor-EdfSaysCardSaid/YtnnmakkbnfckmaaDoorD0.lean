/- Walks: chapter 8's own answer: the places in the order of the deadlines, one laid in after another. -/
import Derived.Test.YtnnmakkbnfckmaaDoorC0
namespace Go.Proofs.YtnnmakkbnfckmaaDoor
open Go.RowKit Go.Shelf Go.Sort Go.Lib

/-- The first i places in the order of the deadlines. -/
def upDl (l : List J) (i : Nat) : List Nat := sortK (at0 J.dl l) (List.range i)
theorem upDl_length (l : List J) (i : Nat) : (upDl l i).length = i := by rw [upDl, (sortK_perm _ _).length_eq, List.length_range]
theorem upDl_lt (l : List J) {i k : Nat} (hk : k < (upDl l i).length) : (upDl l i)[k] < i := by
  have : (upDl l i)[k] ∈ upDl l i := List.getElem_mem hk
  exact List.mem_range.1 ((sortK_perm _ _).mem_iff.1 this)
theorem upDl_succ (l : List J) (i : Nat) {k : Nat} (hk : k ≤ i) (h1 : ∀ t (ht : t < (upDl l i).length), t < k → at0 J.dl l (upDl l i)[t] ≤ at0 J.dl l i) (h2 : ∀ h : k < (upDl l i).length, at0 J.dl l i < at0 J.dl l (upDl l i)[k]) :
    upDl l (i + 1) = (upDl l i).take k ++ [i] ++ (upDl l i).drop k := by
  have : upDl l (i + 1) = insK (at0 J.dl l) (upDl l i) i := by
    unfold upDl sortK
    rw [List.range_succ, List.foldl_append]
    rfl
  rw [this]
  exact insK_cut _ _ _ (by rw [upDl_length]; exact hk) h1 h2
/-- The row's address and room at the head of a round. -/
def Shp (a3 : Option Addr) (i c3 : Nat) : Prop := (i = 0 ∧ a3 = none ∧ c3 = 0) ∨ (0 < i ∧ i ≤ c3 ∧ ∃ g, a3 = some ⟨g, 0, none⟩)
theorem ins_fin {l : List J} {i n' B : Nat} {W : World} {v : Value} {news : List Value} (hn : n' = i + 1) (hnews : news = (nz (upDl l (i + 1))).map (Value.int .i64)) (hown : W.ownsRow B 3 1 v n' news) :
    ∃ g cap, v = .slice (some ⟨g, 0, none⟩) (i + 1) cap ∧ i + 1 ≤ cap ∧ IRow W (some ⟨g, 0, none⟩) (nz (upDl l (i + 1))) := by
  subst hn hnews
  obtain ⟨g, cap, rfl, hc, _, _⟩ := own_room hown (by omega)
  have hl : (nz (upDl l (i + 1))).length = i + 1 := by rw [List.length_map, upDl_length]
  have hown' : W.ownsRow B 3 1 (.slice (some ⟨g, 0, none⟩) (i + 1) cap) (nz (upDl l (i + 1))).length ((nz (upDl l (i + 1))).map (Value.int .i64)) := by rw [hl]; exact hown
  obtain ⟨a, cap', he, hr⟩ := own_erow hown'
  injection he with e1 e2 e3
  rw [← e1] at hr
  exact ⟨g, cap, rfl, hc, hr⟩


set_option maxRecDepth 100000 in
set_option maxHeartbeats 8000000 in
theorem refByDeadline_any (l : List J) (a : Option Addr) (cap : Nat) (w : World) (hm : l.length ≤ 100000) (hr : JRow w a l) :
    Calls Tryd.prog 28 #[.slice a l.length cap] w fun e w' => ∃ a' cap', e = .returned (.slice a' l.length cap') ∧ IRow w' a' (nz (byDl l)) ∧ Ext w w' := by
  have mixed : Tryd.prog.follows .mixedOrders = true := by kernel_rfl
  obtain ⟨n, hn⟩ : ∃ n, l.length = n := ⟨_, rfl⟩
  rw [hn] at hm ⊢
  have HL : Hid (l.length = n ∧ JRow w a l) := ⟨hn, hr⟩
  clear hn hr
  go_enter Tryd.func28, Tryd.ntmps28
  go_wp2_with fail
  go_loopg [3, 4, 5] n (fun gk v3 v4 v5 wr => ∃ (i : Nat) (c3 : Nat) (a3 : Option Addr), v4 = .int .i64 i ∧ i ≤ n ∧ n - i ≤ gk ∧ v3 = .slice a3 i c3 ∧ Ext w wr ∧ IRow wr a3 (nz (upDl l i)) ∧ Shp a3 i c3)
  case atStart => exact ⟨0, 0, none, by go_num, by omega, by omega, rfl, Ext.refl _, ERow.nil _ _ _, Or.inl ⟨rfl, rfl, rfl⟩⟩
  case round =>
    obtain ⟨i, c3, a3, rfl, hi, hgk, rfl, hx, hR, hsh⟩ := hrel
    by_cases hlt : i < n
    · have hltz : (i : Int) < (n : Int) := by omega
      obtain ⟨b, off, rfl, hb, hJ⟩ := (HL.out).2.at (i := i) (by rw [(HL.out).1]; exact hlt)
      have HX : Hid (Ext w wr) := hx
      rcases hsh with ⟨rfl, rfl, rfl⟩ | ⟨hi0, hic, g, rfl⟩
      · go_wp2_with fail
        go_loopw [5] (fun v5 w2 => v5 = .int .i64 0 ∧ w2 = wr) (fun v5 _ => 0)
        case atStart => exact ⟨rfl, rfl⟩
        case round =>
          obtain ⟨rfl, rfl⟩ := hrel
          have NEWS : Hid (∀ _ : Unit, [] ++ [] ++ [.int .i64 (0 : Nat)] ++ [] = (nz (upDl l (0 + 1))).map (Value.int .i64)) := fun _ => rfl
          go_wp2_with fail
          go_quiet (fail)
          go_wp2_with fail
          have hZ : Ext w (wr.drewN nq) := hx.drewN _
          clear hx
          generalize wr.drewN nq = wz at hZ
          go_region_held3 (fun W => Ext wz W)
            (first | exact (Ext.refl _).drew | exact Ext.drew (by assumption) | exact Ext.alloc (by assumption) _ | exact (Ext.alloc (by assumption) _).drew | exact Below.trans (by assumption) (by assumption))
            (first
              | ((refine step_appX rtInt (by rfl) _ _ (by rfl) wz.heap.size (v := .slice (some ⟨wz.heap.size, 0, none⟩) 0 0) (n := 0) (xs := []) (by rfl) (own_empty (by decide) (by first | exact alloc_at _ _ _ (by simp) | exact alloc_old _ _ _ _ (by simp) (alloc_at _ _ _ (by simp))) (by omega)) (m := 0) (by rfl) (src_nil _ _ _) (by simp) (by omega) (by decide) (Below.size (by assumption)) ?_; intro v1 w1 hown1 hb1 hg1))
              | ((refine step_appX rtInt (by rfl) _ _ (by rfl) wz.heap.size (v := .slice (some ⟨wz.heap.size + 1, 0, none⟩) 0 0) (n := 0) (xs := []) (by rfl) (own_empty (by decide) (by exact alloc_at _ _ _ (by simp)) (by omega)) (m := 0) (by rfl) (src_nil _ _ _) (by simp) (by omega) (by decide) (Below.size (by assumption)) ?_; intro v1 w1 hown1 hb1 hg1))
              | ((refine step_appX rtInt (by rfl) _ _ (by rfl) wz.heap.size (v := v1) (n := 0 + 0) (by rfl) (by first | exact hown1 | exact hown1.alloc _) (m := 1) (news := [.int .i64 (0 : Nat)]) (by rfl) (src_lone rfl (by first | exact alloc_at _ _ _ (by simp) | exact (hg1.block _ (by first | (simp; done) | (simp; omega)) (by simp [Value.ownBlock])).trans (by first | exact alloc_at _ _ _ (by simp) | exact alloc_old _ _ _ _ (by simp) (alloc_at _ _ _ (by simp))))) (by simp [Value.oneCell']) (by omega) (by decide) (Below.size (by assumption)) ?_; intro v2 w2 hown2 hb2 hg2))
              | ((refine step_appX rtInt (by rfl) _ _ (by rfl) wz.heap.size (v := v2) (n := 0 + 0 + 1) (by rfl) (by first | exact hown2 | exact hown2.alloc _) (m := 0) (by rfl) (src_nil _ _ _) (by simp) (by omega) (by decide) (Below.size (by assumption)) ?_; intro v3 w3 hown3 hb3 hg3)))
          all_goals
            rename_i hE
            clear hb1 hb2 hb3 hg1 hg2 hg3 hown1 hown2
            obtain ⟨g3, cap3, rfl, hf1, hf2⟩ := ins_fin (l := l) (i := 0) (by omega) (NEWS.out ()) hown3
            have hf3 : Ext w w3 := hZ.trans hE
            clear hown3 hE NEWS
            go_wp2_with fail
            go_roundg (n - (0 + 1))
            case rel => exact ⟨0 + 1, cap3, some ⟨g3, 0, none⟩, by go_num, by omega, by omega, rfl, hf3, hf2, Or.inr ⟨by omega, hf1, g3, rfl⟩⟩
            case measure => omega
      · have hicz : (i : Int) ≤ (c3 : Int) := by omega
        go_wp2_with fail
        go_loopw [5] (fun v5 w2 => ∃ k : Nat, v5 = .int .i64 k ∧ k ≤ i ∧ Ext wr w2 ∧ Hid (∀ t (ht : t < (upDl l i).length), t < k → at0 J.dl l (upDl l i)[t] ≤ at0 J.dl l i)) (fun v5 _ => i - (intOf v5).toNat)
        case atStart => exact ⟨0, by go_num, by omega, Ext.refl _, fun t _ h => absurd h (Nat.not_lt_zero _)⟩
        case round =>
          obtain ⟨k, rfl, hk, hx2, HB⟩ := hrel
          by_cases hki : k < i
          · have hkiz : (k : Int) < (i : Int) := by omega
            have hup : (upDl l i).length = i := upDl_length l i
            have hkl : k < (upDl l i).length := by omega
            have hRz : IRow wr (some ⟨g, 0, none⟩) (nz (upDl l i)) := hR.ext hx2
            obtain ⟨p, hp⟩ : ∃ p, (upDl l i)[k] = p := ⟨_, rfl⟩
            have hpi : p < i := by rw [← hp]; exact upDl_lt l hkl
            obtain ⟨g', o', hg', _, cp⟩ := hRz k (by simpa using hkl)
            obtain ⟨rfl, rfl⟩ : g' = g ∧ o' = 0 := by injection hg' with e; injection e with e1 e2; exact ⟨e1.symm, e2.symm⟩
            have cp : wr.cell? ⟨g', 0 + k, none⟩ = some (.int .i64 p) := by rw [cp]; simp [hp]
            rw [Nat.zero_add] at cp
            have hpl : p < l.length := by rw [(HL.out).1]; omega
            have hil : i < l.length := by rw [(HL.out).1]; omega
            have cd := (hJ p hpl).c2
            have ci := (hJ i hil).c2
            have hxx : Ext w wr := (HX.out).trans hx2
            rw [← hxx.cell hb] at cd ci
            have hpn : (p : Int) < (n : Int) := by omega
            have HD : Hid (at0 J.dl l p = l[p].dl ∧ at0 J.dl l i = l[i].dl ∧ (upDl l i)[k] = p) := ⟨at0_eq _ _ hpl, at0_eq _ _ hil, hp⟩
            generalize l[p].dl = x at cd HD
            generalize l[i].dl = y at ci HD
            have HX2 : Hid (Ext w wr ∧ IRow wr (some ⟨g', 0, none⟩) (nz (upDl l i))) := ⟨hxx, hRz⟩
            have hrl : (nz (upDl l i)).length = i := by rw [List.length_map, upDl_length]
            have HR0 : Hid (IRow _ _ _) := hR
            clear hR hRz hup hp hJ hx hxx HX
            by_cases hle : x ≤ y
            · go_wp2_with fail
              go_quiet (fail)
              go_wp2_with fail
              go_roundw
              case rel =>
                refine ⟨k + 1, by go_num, by omega, hx2.drewN _, ?_⟩
                show ∀ t (ht : t < (upDl l i).length), t < k + 1 → _
                intro t ht htk
                by_cases e : t = k
                · subst e; rw [(HD.out).2.2, (HD.out).1, (HD.out).2.1]; exact hle
                · exact HB.out t ht (by omega)
              case measure => simp [intOf]; omega
            · have hle' : decide (x ≤ y) = false := decide_eq_false hle
              go_wp2_with fail
              go_quiet (fail)
              go_wp2_with fail
              clear cp cd ci hx2
              have hR : IRow (wr.drewN nq) (some ⟨g', 0, none⟩) (nz (upDl l i)) := (HX2.out).2.ext ((Ext.refl _).drewN _)
              have hZ : Ext w (wr.drewN nq) := (HX2.out).1.drewN _
              clear HX2 HR0
              have NEWS : Hid (∀ _ : Unit, [] ++ (((nz (upDl l i)).drop 0).take k).map (Value.int .i64) ++ [.int .i64 (i : Nat)] ++ (((nz (upDl l i)).drop k).take (i - k)).map (Value.int .i64) = (nz (upDl l (i + 1))).map (Value.int .i64)) := fun _ => by
                rw [upDl_succ l i (Nat.le_of_lt hki) (HB.out) (fun h => by rw [(HD.out).2.2, (HD.out).1, (HD.out).2.1]; omega)]
                rw [List.take_of_length_le (l := (nz (upDl l i)).drop k) (by rw [List.length_drop, hrl]; exact Nat.le_refl _)]
                simp [nz, List.map_take, List.map_drop]
              clear HB HD
              generalize wr.drewN nq = wz at hZ hR
              have hck : ¬ c3 = k := by omega
              have hkc : (k : Int) ≤ (c3 : Int) := by omega
              have hkc2 : (k : Int) ≤ (i : Int) := by omega
              go_region_held3 (fun W => Ext wz W)
                (first | exact (Ext.refl _).drew | exact Ext.drew (by assumption) | exact Ext.alloc (by assumption) _ | exact (Ext.alloc (by assumption) _).drew | exact Below.trans (by assumption) (by assumption))
                (first
                  | ((refine step_appX rtInt (by rfl) _ _ (by rfl) wz.heap.size (v := .slice (some ⟨wz.heap.size, 0, none⟩) 0 0) (n := 0) (xs := []) (by rfl) (own_empty (by decide) (by first | exact alloc_at _ _ _ (by simp) | exact alloc_old _ _ _ _ (by simp) (alloc_at _ _ _ (by simp))) (by omega)) (m := k) (by rfl) (src_erow0 (ERow.ext hR (by assumption)) 0 k _ (by omega)) (one_int _) (by omega) (by decide) (Below.size (by assumption)) ?_; intro v1 w1 hown1 hb1 hg1))
                  | ((refine step_appX rtInt (by rfl) _ _ (by rfl) wz.heap.size (v := .slice (some ⟨wz.heap.size + 1, 0, none⟩) 0 0) (n := 0) (xs := []) (by rfl) (own_empty (by decide) (by exact alloc_at _ _ _ (by simp)) (by omega)) (m := k) (by rfl) (src_erow0 (ERow.ext hR (by assumption)) 0 k _ (by omega)) (one_int _) (by omega) (by decide) (Below.size (by assumption)) ?_; intro v1 w1 hown1 hb1 hg1))
                  | ((refine step_appX rtInt (by rfl) _ _ (by rfl) wz.heap.size (v := v1) (n := 0 + k) (by rfl) (by first | exact hown1 | exact hown1.alloc _) (m := 1) (news := [.int .i64 (i : Nat)]) (by rfl) (src_lone rfl (by first | exact alloc_at _ _ _ (by simp) | exact (hg1.block _ (by first | (simp; done) | (simp; omega)) (by simp [Value.ownBlock])).trans (by first | exact alloc_at _ _ _ (by simp) | exact alloc_old _ _ _ _ (by simp) (alloc_at _ _ _ (by simp))))) (by simp [Value.oneCell']) (by omega) (by decide) (Below.size (by assumption)) ?_; intro v2 w2 hown2 hb2 hg2))
                  | ((refine step_appX rtInt (by rfl) _ _ (by rfl) wz.heap.size (v := v2) (n := 0 + k + 1) (by rfl) (by first | exact hown2 | exact hown2.alloc _) (m := (i - k)) (by rfl) (src_erow0 (ERow.ext hR (by assumption)) k (i - k) _ (by omega)) (one_int _) (by omega) (by decide) (Below.size (by assumption)) ?_; intro v3 w3 hown3 hb3 hg3)))
              all_goals
                rename_i hE
                clear hb1 hb2 hb3 hg1 hg2 hg3 hown1 hown2
                obtain ⟨g3, cap3, rfl, hf1, hf2⟩ := ins_fin (l := l) (i := i) (by omega) (NEWS.out ()) hown3
                have hf3 : Ext w w3 := hZ.trans hE
                clear hown3 hE NEWS
                go_wp2_with fail
                go_roundg (n - (i + 1))
                case rel => exact ⟨i + 1, cap3, some ⟨g3, 0, none⟩, by go_num, by omega, by omega, rfl, hf3, hf2, Or.inr ⟨by omega, hf1, g3, rfl⟩⟩
                case measure => omega
          · have : k = i := by omega
            subst this
            have hkz : ¬ (k : Int) < (k : Int) := by omega
            have HX2 : Hid (Ext w wr ∧ IRow wr (some ⟨g, 0, none⟩) (nz (upDl l k))) := ⟨(HX.out).trans hx2, hR.ext hx2⟩
            have hrl : (nz (upDl l k)).length = k := by rw [List.length_map, upDl_length]
            clear HX hx2 hR hx
            go_wp2_with fail
            go_quiet (fail)
            go_wp2_with fail
            have HX : Hid (Ext w (wr.drewN nq)) := (HX2.out).1.drewN _
            have hR : IRow (wr.drewN nq) (some ⟨g, 0, none⟩) (nz (upDl l k)) := (HX2.out).2.ext ((Ext.refl _).drewN _)
            clear HX2
            have NEWS : Hid (∀ _ : Unit, [] ++ (((nz (upDl l k)).drop 0).take k).map (Value.int .i64) ++ [.int .i64 (k : Nat)] ++ (((nz (upDl l k)).drop k).take 0).map (Value.int .i64) = (nz (upDl l (k + 1))).map (Value.int .i64)) := fun _ => by
              rw [upDl_succ l k (Nat.le_refl k) (HB.out) (fun h => by rw [upDl_length] at h; omega)]
              simp [upDl_length, nz, List.take_of_length_le, List.drop_of_length_le]
            have hZ : Ext w (wr.drewN nq) := HX.out
            clear HX
            generalize wr.drewN nq = wz at hZ hR
            by_cases hck : c3 = k
            · subst hck
              go_region_held3 (fun W => Ext wz W)
                (first | exact (Ext.refl _).drew | exact Ext.drew (by assumption) | exact Ext.alloc (by assumption) _ | exact (Ext.alloc (by assumption) _).drew | exact Below.trans (by assumption) (by assumption))
                (first
                  | ((refine step_appX rtInt (by rfl) _ _ (by rfl) wz.heap.size (v := .slice (some ⟨wz.heap.size, 0, none⟩) 0 0) (n := 0) (xs := []) (by rfl) (own_empty (by decide) (by first | exact alloc_at _ _ _ (by simp) | exact alloc_old _ _ _ _ (by simp) (alloc_at _ _ _ (by simp))) (by omega)) (m := c3) (by rfl) (src_erow0 (ERow.ext hR (by assumption)) 0 c3 _ (by omega)) (one_int _) (by omega) (by decide) (Below.size (by assumption)) ?_; intro v1 w1 hown1 hb1 hg1))
                  | ((refine step_appX rtInt (by rfl) _ _ (by rfl) wz.heap.size (v := .slice (some ⟨wz.heap.size + 1, 0, none⟩) 0 0) (n := 0) (xs := []) (by rfl) (own_empty (by decide) (by exact alloc_at _ _ _ (by simp)) (by omega)) (m := c3) (by rfl) (src_erow0 (ERow.ext hR (by assumption)) 0 c3 _ (by omega)) (one_int _) (by omega) (by decide) (Below.size (by assumption)) ?_; intro v1 w1 hown1 hb1 hg1))
                  | ((refine step_appX rtInt (by rfl) _ _ (by rfl) wz.heap.size (v := v1) (n := 0 + c3) (by rfl) (by first | exact hown1 | exact hown1.alloc _) (m := 1) (news := [.int .i64 (c3 : Nat)]) (by rfl) (src_lone rfl (by first | exact alloc_at _ _ _ (by simp) | exact (hg1.block _ (by first | (simp; done) | (simp; omega)) (by simp [Value.ownBlock])).trans (by first | exact alloc_at _ _ _ (by simp) | exact alloc_old _ _ _ _ (by simp) (alloc_at _ _ _ (by simp))))) (by simp [Value.oneCell']) (by omega) (by decide) (Below.size (by assumption)) ?_; intro v2 w2 hown2 hb2 hg2))
                  | ((refine step_appX rtInt (by rfl) _ _ (by rfl) wz.heap.size (v := v2) (n := 0 + c3 + 1) (by rfl) (by first | exact hown2 | exact hown2.alloc _) (m := 0) (by rfl) (src_erow0 (ERow.ext hR (by assumption)) 0 0 _ (by omega)) (one_int _) (by omega) (by decide) (Below.size (by assumption)) ?_; intro v3 w3 hown3 hb3 hg3)))
              all_goals
                rename_i hE
                clear hb1 hb2 hb3 hg1 hg2 hg3 hown1 hown2
                obtain ⟨g3, cap3, rfl, hf1, hf2⟩ := ins_fin (l := l) (i := c3) (by omega) (NEWS.out ()) hown3
                have hf3 : Ext w w3 := hZ.trans hE
                clear hown3 hE NEWS
                go_wp2_with fail
                go_roundg (n - (c3 + 1))
                case rel => exact ⟨c3 + 1, cap3, some ⟨g3, 0, none⟩, by go_num, by omega, by omega, rfl, hf3, hf2, Or.inr ⟨by omega, hf1, g3, rfl⟩⟩
                case measure => omega
            · skip
              go_region_held3 (fun W => Ext wz W)
                (first | exact (Ext.refl _).drew | exact Ext.drew (by assumption) | exact Ext.alloc (by assumption) _ | exact (Ext.alloc (by assumption) _).drew | exact Below.trans (by assumption) (by assumption))
                (first
                  | ((refine step_appX rtInt (by rfl) _ _ (by rfl) wz.heap.size (v := .slice (some ⟨wz.heap.size, 0, none⟩) 0 0) (n := 0) (xs := []) (by rfl) (own_empty (by decide) (by first | exact alloc_at _ _ _ (by simp) | exact alloc_old _ _ _ _ (by simp) (alloc_at _ _ _ (by simp))) (by omega)) (m := k) (by rfl) (src_erow0 (ERow.ext hR (by assumption)) 0 k _ (by omega)) (one_int _) (by omega) (by decide) (Below.size (by assumption)) ?_; intro v1 w1 hown1 hb1 hg1))
                  | ((refine step_appX rtInt (by rfl) _ _ (by rfl) wz.heap.size (v := .slice (some ⟨wz.heap.size + 1, 0, none⟩) 0 0) (n := 0) (xs := []) (by rfl) (own_empty (by decide) (by exact alloc_at _ _ _ (by simp)) (by omega)) (m := k) (by rfl) (src_erow0 (ERow.ext hR (by assumption)) 0 k _ (by omega)) (one_int _) (by omega) (by decide) (Below.size (by assumption)) ?_; intro v1 w1 hown1 hb1 hg1))
                  | ((refine step_appX rtInt (by rfl) _ _ (by rfl) wz.heap.size (v := v1) (n := 0 + k) (by rfl) (by first | exact hown1 | exact hown1.alloc _) (m := 1) (news := [.int .i64 (k : Nat)]) (by rfl) (src_lone rfl (by first | exact alloc_at _ _ _ (by simp) | exact (hg1.block _ (by first | (simp; done) | (simp; omega)) (by simp [Value.ownBlock])).trans (by first | exact alloc_at _ _ _ (by simp) | exact alloc_old _ _ _ _ (by simp) (alloc_at _ _ _ (by simp))))) (by simp [Value.oneCell']) (by omega) (by decide) (Below.size (by assumption)) ?_; intro v2 w2 hown2 hb2 hg2))
                  | ((refine step_appX rtInt (by rfl) _ _ (by rfl) wz.heap.size (v := v2) (n := 0 + k + 1) (by rfl) (by first | exact hown2 | exact hown2.alloc _) (m := 0) (by rfl) (src_erow0 (ERow.ext hR (by assumption)) k 0 _ (by omega)) (one_int _) (by omega) (by decide) (Below.size (by assumption)) ?_; intro v3 w3 hown3 hb3 hg3)))
              all_goals
                rename_i hE
                clear hb1 hb2 hb3 hg1 hg2 hg3 hown1 hown2
                obtain ⟨g3, cap3, rfl, hf1, hf2⟩ := ins_fin (l := l) (i := k) (by omega) (NEWS.out ()) hown3
                have hf3 : Ext w w3 := hZ.trans hE
                clear hown3 hE NEWS
                go_wp2_with fail
                go_roundg (n - (k + 1))
                case rel => exact ⟨k + 1, cap3, some ⟨g3, 0, none⟩, by go_num, by omega, by omega, rfl, hf3, hf2, Or.inr ⟨by omega, hf1, g3, rfl⟩⟩
                case measure => omega
    · have : i = n := by omega
      subst this
      go_wp2
      go_ret
      refine ⟨a3, c3, rfl, ?_, hx⟩
      have : byDl l = upDl l i := by unfold byDl upDl; rw [(HL.out).1]
      rw [this]; exact hR
end Go.Proofs.YtnnmakkbnfckmaaDoor
