/- Chapter 13: the law DictBuilds. -/
import Derived.Test.YtkolmoebopfgiaaDictR
import Derived.Test.YtkolmoebopfgiaaDictK
import Derived.Test.YtkolmoebopfgiaaInts
import Derived.Deep.CutBlock
namespace Go.Proofs.Ytkolmoebopfgiaa
open Go.RowKit
set_option linter.unusedVariables false

theorem ats_nic {w : World} {B : Nat} {ao : Option Addr} {n : Nat} {l : List Vl} (h : CellsAt w B ao n (i64c (dAtsI l))) : CellsAt w B ao n (nic (dAts l)) :=
  h.congr fun i _ => by
    simp only [i64c, nic, dAtsI, List.getD_eq_getElem?_getD, List.getElem?_map]
    cases (dAts l)[i]? <;> rfl
theorem own_capI {w : World} {base n cap : Nat} {ao : Option Addr} {xs : List Value} (h : w.ownsRow base 3 1 (.slice ao n cap) n xs) : n ≤ cap := by
  rcases h.2 with ⟨-, h2⟩ | ⟨g, c2, cur, h1, -, -, h4, -⟩
  · omega
  · simp only [Value.slice.injEq] at h1; omega

set_option maxHeartbeats 16000000 in
set_option maxRecDepth 100000 in
theorem dictBuilds_walk (a0 : Int) (a1 : Option Addr) (len1 cap1 : Nat) (z1 : List Vl) (a2 : Option Addr) (len2 cap2 : Nat) (z2 : List Int) (a3 : Int) (w : World) (w0 : (Lit.int .i64 a0).wf = true) (w1 : IsVals w a1 len1 cap1 z1) (w2 : IsRow .i64 w a2 len2 cap2 z2) (w3 : (Lit.int .i64 a3).wf = true) :
    Calls Try.prog 8 #[.int .i64 a0, .slice a1 len1 cap1, .slice a2 len2 cap2, .int .i64 a3] w fun e w' => e = .returned (.bool true) ∧ Below w.heap.size w w' := by
  obtain ⟨ha1, ha2⟩ := bounds_i64 w0
  obtain ⟨hm1, hm2⟩ := bounds_i64 w3
  obtain ⟨os, hol, hob, hoc, -, holen⟩ := w2.i64
  have Hol := Lib.hid hol; have Hob := Lib.hid hob; have Hoc := Lib.hid hoc
  clear hol hob hoc w2
  obtain ⟨q, hq, hq4⟩ := modN' a0 4 (by decide)
  have Hq : Hid (a0 % 4 = (q : Int)) := Lib.hid hq
  clear hq
  obtain ⟨k, hk⟩ : ∃ k : Nat, k = q + 1 := ⟨_, rfl⟩
  have hk2 : (1 : Int) + (q : Int) = (k : Nat) := by omega
  have hk1 : 1 ≤ k := by omega
  have hk4 : k ≤ 4 := by omega
  clear hk hq4
  have hl1 := allV_length k z1
  have ok1 := allV_ok k z1 w1.2.2.2.2.2
  have hA1 := fun (w' : World) (h : IsVals w' a1 len1 cap1 z1) => all_any k a1 len1 cap1 z1 w' hk1 hk4 h
  obtain ⟨r, hr⟩ : ∃ r, r = allV k z1 := ⟨_, rfl⟩
  rw [← hr] at hl1 ok1 hA1
  have Ok1 := Lib.hid ok1
  have H60 := Lib.hid (show r.length ≤ 60 by omega)
  have HA1 := Lib.hid hA1
  obtain ⟨q40, hq40, hq40l⟩ := modN' a3 40 (by decide)
  have Hq40 : Hid (a3 % 40 = (q40 : Int)) := Lib.hid hq40
  clear hr ok1 hl1 hA1 hq40
  go_enter Try.func8, Try.ntmps8
  go_wp2_with (go_at_call 10; refine (known_any _).mono ?_; rintro e x1 ⟨rfl, hx1⟩)
  refine (within_any _ _ _ (by omega) (by omega) ha1 ha2).mono ?_; rw [Hq.out]; rintro e x2 ⟨rfl, rfl⟩
  go_wp2_with fail
  refine (HA1.out _ (w1.below hx1)).mono ?_
  rintro e x2 ⟨v, rfl, hf⟩
  have hb12 := hf.2
  have hox2 := hf.1
  obtain ⟨n0, hn0⟩ : ∃ n, n = r.length := ⟨_, rfl⟩
  rw [← hn0] at hox2
  have hn060 : n0 ≤ 60 := by rw [hn0]; exact H60.out
  have HlR : Hid (r.length = n0) := Lib.hid hn0.symm
  obtain ⟨ao0, cap0, rfl, -⟩ := own_v hox2
  have Hx1 := Lib.hid hx1; have Hb12 := Lib.hid hb12; have Hox2 := Lib.hid hox2
  clear hf hn0 w1 hx1 hb12 hox2
  go_upto_block 0 with fail
  go_cut [10] (fun v wx => ∃ (n : Nat) (rr : List Vl) (ao : Option Addr) (cap : Nat), v = .slice ao n cap ∧ n ≤ 90 ∧ Hid (rr.length = n) ∧ Hid (∀ u ∈ rr, okV u) ∧ Hid (CellsAt wx wx.heap.size ao (n * 2) (vlc rr)) ∧ Hid (ao = none → n = 0) ∧ Hid (Below w.heap.size w wx))
  case first =>
    go_wp2
    go_loopw [10, 11] (fun v i x => ∃ (j n : Nat) (rr : List Vl) (ao : Option Addr) (cap : Nat), v = .slice ao n cap ∧ i = .int .i64 (j : Nat) ∧ j ≤ 30 ∧ n ≤ 60 + j ∧ Hid (rr.length = n) ∧ Hid (∀ u ∈ rr, okV u) ∧ Hid (x.ownsRow x1.heap.size 30 2 (.slice ao n cap) n (vcs rr)) ∧ Hid (Below x1.heap.size x1 x)) (fun _ i _ => 30 - (intOf i).toNat)
    case atStart => exact ⟨0, n0, r, ao0, cap0, rfl, rfl, by decide, by omega, HlR, Ok1, Hox2, Hb12⟩
    case round =>
      clear Hb12 Hox2 HlR
      obtain ⟨j, n, rr, ao, cap, rfl, rfl, hj30, hn, HlR, Hok, hown, hbel⟩ := hrel
      obtain ⟨y, hyy⟩ : ∃ x, x = wr := ⟨_, rfl⟩
      subst hyy
      by_cases hgo : j < len2 ∧ j < 30 ∧ 0 < n
      · have d1 : decide ((j : Int) < (len2 : Int)) = true := decide_eq_true (by omega)
        have d1' : decide (j < len2) = true := decide_eq_true hgo.1
        have d2 : decide ((j : Int) < 30) = true := decide_eq_true (by omega)
        have d3 : decide ((0 : Int) < (n : Int)) = true := decide_eq_true (by omega)
        have d3' : decide (0 < n) = true := decide_eq_true hgo.2.2
        have e1 : (j : Int) < (len2 : Int) := by omega
        have e2 : (0 : Int) ≤ (j : Int) := by omega
        obtain ⟨bo, oo, rfl, hbo, co⟩ := Hoc.out j hgo.1
        obtain ⟨a, haa⟩ : ∃ a, a = os.getD j 0 := ⟨_, rfl⟩
        have ha64 : -9223372036854775808 ≤ a ∧ a ≤ 9223372036854775807 := by
          rw [haa, List.getD_eq_getElem?_getD, List.getElem?_eq_getElem (by rw [Hol.out]; exact hgo.1)]
          exact Hob.out _ (List.getElem_mem _)
        rw [i64c, ← haa] at co
        have co2 := ((bmore Hx1.out hbel.out).cell (by exact hbo)).trans co
        obtain ⟨m, hm, hml⟩ := modN' a n hgo.2.2
        have Hm : Hid (a % (n : Int) = (m : Int)) := Lib.hid hm
        have e3 : (m : Int) < (n : Int) := by omega
        have e4 : (0 : Int) ≤ (m : Int) := by omega
        have ha641 := ha64.1; have ha642 := ha64.2
        obtain ⟨aoQ, capQ, hsl, -, -, hcR, -, -⟩ := own_v hown.out
        simp only [Value.slice.injEq, true_and] at hsl
        obtain ⟨rfl, rfl⟩ := hsl
        obtain ⟨bR, oR, rfl, hbR, c0, c1⟩ := hcR.val hml
        obtain ⟨u, hu⟩ : ∃ u, u = rr.getD m vl0 := ⟨_, rfl⟩
        rw [vN, ← hu] at c0
        rw [vS, ← hu] at c1
        have huok : okV u := by
          rw [hu, List.getD_eq_getElem?_getD, List.getElem?_eq_getElem (by rw [HlR.out]; exact hml)]
          exact Hok.out _ (List.getElem_mem _)
        have Hok2 : Hid (∀ x ∈ rr ++ [u], okV x) := Lib.hid (fun x hx => by
          rcases List.mem_append.1 hx with h | h
          · exact Hok.out x h
          · simp at h; subst h; exact huok)
        have hownA := own_below hown.out ((Below.refl _ _).alloc (Nat.le_refl _) (.cells #[.int .i64 u.1, .string u.2] 30))
        have hsA : x1.heap.size ≤ (y.alloc (.cells #[.int .i64 u.1, .string u.2] 30)).heap.size := Nat.le_trans hbel.out.size (by simp)
        clear haa hm hcR hu huok ha64 co hbo hbR
        go_wp2_with fail
        refine (within_any a (n : Int) _ (by omega) (by omega) ha641 ha642).mono ?_; rw [Hm.out]; rintro e x3 ⟨rfl, rfl⟩
        go_wp2_with (at_builtin; refine wpList_append_all sl_v rfl (.tmp 46) (.tmp 57) rfl rfl hownA rfl (m := 1) (cells_one_v y 30 u) (fun h => by cases h) (fun _ _ => vlc_one _ _) (by unfold maxLen; omega) (by omega) hsA ?_)
        intro v' y2 ho2 hg2
        have hb2 : Below x1.heap.size x1 y2 := (hbel.out.alloc hbel.out.size _).grown hg2 hsA (fun k hk => (hownA.lt k hk).1)
        have ho3 : y2.ownsRow x1.heap.size 30 2 v' (n + 1) (vcs (rr ++ [u])) := by
          rw [← vcs_snoc]; exact ho2
        obtain ⟨ao3, cap3, rfl, -⟩ := own_v ho3
        have H3 := Lib.hid ho3; have Hb2 := Lib.hid hb2
        clear ho2 hg2 ho3 hb2 hownA hsA hown hbel c0 c1
        go_wp2
        go_roundw
        case rel => exact ⟨j + 1, n + 1, rr ++ [u], ao3, cap3, rfl, by go_num, by omega, by omega, Lib.hid (by rw [List.length_append, HlR.out]; rfl), Hok2, H3, Hb2⟩
        case measure => simp [intOf]; omega
      · have hexit : (j < len2 ∧ j < 30 ∧ ¬ 0 < n) ∨ (j < len2 ∧ ¬ j < 30) ∨ ¬ j < len2 := by omega
        obtain ⟨aoQ, capQ, hsl, -, -, hcR, hzR, -⟩ := own_v hown.out
        simp only [Value.slice.injEq, true_and] at hsl
        obtain ⟨rfl, rfl⟩ := hsl
        have HcR := Lib.hid hcR
        have HzR := Lib.hid (fun e => (hzR e).1)
        have Hy := Lib.hid (bmore Hx1.out hbel.out)
        have hn90 : n ≤ 90 := by omega
        clear hgo hown hbel hcR hzR
        rcases hexit with ⟨h1, h2, h3⟩ | ⟨h1, h2⟩ | h1
        · have d1 : decide ((j : Int) < (len2 : Int)) = true := decide_eq_true (by omega)
          have d1' : decide (j < len2) = true := decide_eq_true h1
          have d2 : decide ((j : Int) < 30) = true := decide_eq_true (by omega)
          have d3 : decide ((0 : Int) < (n : Int)) = false := decide_eq_false (by omega)
          have d3' : decide (0 < n) = false := decide_eq_false h3
          go_wp2
          go_meet
          exact ⟨n, rr, _, _, rfl, hn90, HlR, Hok, HcR, HzR, Hy⟩
        · have d1 : decide ((j : Int) < (len2 : Int)) = true := decide_eq_true (by omega)
          have d1' : decide (j < len2) = true := decide_eq_true h1
          have d2 : decide ((j : Int) < 30) = false := decide_eq_false (by omega)
          go_wp2
          go_meet
          exact ⟨n, rr, _, _, rfl, hn90, HlR, Hok, HcR, HzR, Hy⟩
        · have d1 : decide ((j : Int) < (len2 : Int)) = false := decide_eq_false (by omega)
          have d1' : decide (j < len2) = false := decide_eq_false h1
          go_wp2
          go_meet
          exact ⟨n, rr, _, _, rfl, hn90, HlR, Hok, HcR, HzR, Hy⟩
  case rest =>
    obtain ⟨n, rr, aoR, capR, rfl, hn90, HlR, Hok, HcR, HzR, Hwc⟩ := hcut
    clear Hb12 Hox2 Hx1
    go_wp2_with fail
    refine (within_any a3 40 _ (by omega) (by omega) hm1 hm2).mono ?_; rw [Hq40.out]; rintro e x3 ⟨rfl, rfl⟩
    have hN0 := nums3 (w := wc) (T := 3) (k0 := a3) (k1 := (q40 : Int)) (k2 := 256) ⟨hm1, hm2⟩ (by omega) (by omega)
    have hx0 := Lib.hid (balloc Hwc.out (.cells #[.int .i64 a3, .int .i64 (q40 : Int), .int .i64 256] 3))
    have hcR0 := Lib.hid (HcR.out.alloc (Nat.le_refl _) (.cells #[.int .i64 a3, .int .i64 (q40 : Int), .int .i64 256] 3))
    have HN0 := Lib.hid hN0
    obtain ⟨gK, hgK⟩ : ∃ g, g = wc.heap.size := ⟨_, rfl⟩
    rw [← hgK] at HN0
    obtain ⟨X0, hX0⟩ : ∃ X, X = wc.alloc (.cells #[.int .i64 a3, .int .i64 (q40 : Int), .int .i64 256] 3) := ⟨_, rfl⟩
    rw [← hX0] at HN0 hx0 hcR0
    have hcR1 : Hid (CellsAt X0 X0.heap.size aoR (n * 2) (vlc rr)) := Lib.hid (hcR0.out.mono (by rw [hX0]; simp))
    clear hN0
    go_wp2
    rw [← hX0, ← hgK]
    clear hgK hX0 hcR0 HcR
    go_loopw [13] (fun i wr => ∃ ii : Nat, ii ≤ 3 ∧ i = .int .i64 ii ∧ Hid (Below X0.heap.size X0 wr)) (fun i _ => 3 - (intOf i).toNat)
    case atStart => exact ⟨0, by omega, rfl, Lib.hid (Below.refl _ _)⟩
    case round =>
      obtain ⟨i, hi3, rfl, Hwr⟩ := hrel
      obtain ⟨y, hyy⟩ : ∃ x, x = wr := ⟨_, rfl⟩
      subst hyy
      by_cases hi4 : i < 3
      · have e1 : (i : Int) < 3 := by omega
        have e2 : (0 : Int) ≤ (i : Int) := by omega
        obtain ⟨kj, hcK, hkj1, hkj2⟩ := HN0.out.below Hwr.out i hi4
        have f1 : ∀ w', Grows y.drew w' → w'.cell? ⟨gK, i, none⟩ = some (.int .i64 kj) := fun w' hg => (Grows.toDrew hg).cell hcK
        have HRc := Lib.hid (hcR1.out.at Hwr.out)
        have HcK := Lib.hid hcK
        clear hcK
        by_cases hrange : kj < 0 ∨ 256 < kj
        · go_wp2
          refine wp_region_linH [(0, 0), (2, 0), (4, 0), (5, 0), (6, 0), (7, 0), (1, 1), (3, 1), (8, 1), (9, 0), (10, 0), (11, 0), (12, 0), (13, 0), (14, 0), (15, 0)] [] (by kernel_rfl) (by kernel_rfl) (fun d _ _ _ _ h => by cases d <;> exact h) ?_
          repeat (first
            | (refine wpLinH_skip rfl rfl (fun K hK => ?_); go_simp; refine hK _ ?_; clear hK K)
            | (refine wpLinH_take (v := ?_) rfl rfl (fun w' hw' => ?_) (fun K hK => ?_); rotate_left; (go_simp; rfl); (go_simp; refine hK _ ?_; clear hK K)))
          refine wpLinH_do rfl (fun K hK => ?_); go_simp; refine hK _ _ ((Grows.refl y.drew).alloc _) ?_; clear hK K
          refine wpLinH_do rfl (fun K hK => ?_)
          refine step_append_clone sl_v rfl (.tmp 69) (.tmp 70) rfl rfl rfl (HRc.out.drew.alloc (Nat.le_refl _) _) HzR.out (fun _ _ => vlc_one _ _) (by unfold maxLen; omega) (by omega) ?_
          intro aoA capA xA hcA hbA hclA
          have hbA2 : Below y.heap.size y xA := (balloc (Below.refl _ _).drew _).trans (hbA.mono (by simp))
          go_simp; refine hK _ _ (by exact hbA) ?_; clear hK K hbA hclA
          refine wpLinH_do rfl (fun K hK => ?_); go_simp
          refine (build_range k aoA n capA kj _ hrange).mono ?_
          intro e x8 hg8
          obtain ⟨rfl, hb8⟩ := hg8
          refine hK _ _ hb8 ?_; clear hK K f1 hcA
          have hy8 : Below y.heap.size y x8 := bmore hbA2 hb8
          clear hb8 hbA2
          repeat (first
            | (refine wpLinH_skip rfl rfl (fun K hK => ?_); go_simp; refine hK _ ?_; clear hK K)
            | (refine wpLinH_take (v := ?_) rfl rfl (fun w' hw' => ?_) (fun K hK => ?_); rotate_left; (go_simp; rfl); (go_simp; refine hK _ ?_; clear hK K)))
          refine wpLinH_nil ?_
          have c1 := Grows.cell hy8 HcK.out
          have hRc8 := HRc.out.at hy8
          have Hy8 := Lib.hid hy8
          clear hy8
          go_wp2_with fail
          refine (rbuild_range aoR n capR kj _ hrange).mono ?_
          intro e x9 hg9
          have hg9 := hg9
          obtain ⟨rfl, hb9⟩ := hg9
          have hy9 := Lib.hid (bmore Hy8.out hb9)
          clear hb9 c1 hRc8
          go_wp2_with fail
          refine (same_any none 0 0 [] none 0 0 [] x9 rfl rfl (by decide) (by decide) CellsAt.zero CellsAt.zero).mono ?_
          rw [decide_eq_true rfl]
          rintro e x10 ⟨rfl, mm, rfl⟩
          go_wp2_with fail
          refine (lints_same none none 0 0 0 (fun _ => 0) _ (by decide) CellsAt.zero CellsAt.zero).mono ?_
          rintro e x11 ⟨rfl, m2, rfl⟩
          have Hy11 := Lib.hid (bmore Hwr.out (below_drewN (below_drewN hy9.out mm) m2))
          clear hy9
          generalize (x9.drewN mm).drewN m2 = Z at Hy11 ⊢
          go_wp2
          go_roundw
          case rel => exact ⟨i + 1, by omega, by go_num, Hy11⟩
          case measure => simp [intOf]; omega
        · obtain ⟨most, rfl⟩ : ∃ m : Nat, kj = m := ⟨kj.toNat, by omega⟩
          have hm256 : most ≤ 256 := by omega
          by_cases hover : most < (dWords rr).length
          · go_wp2
            refine wp_region_linH [(0, 0), (2, 0), (4, 0), (5, 0), (6, 0), (7, 0), (1, 1), (3, 1), (8, 1), (9, 0), (10, 0), (11, 0), (12, 0), (13, 0), (14, 0), (15, 0)] [] (by kernel_rfl) (by kernel_rfl) (fun d _ _ _ _ h => by cases d <;> exact h) ?_
            repeat (first
              | (refine wpLinH_skip rfl rfl (fun K hK => ?_); go_simp; refine hK _ ?_; clear hK K)
              | (refine wpLinH_take (v := ?_) rfl rfl (fun w' hw' => ?_) (fun K hK => ?_); rotate_left; (go_simp; rfl); (go_simp; refine hK _ ?_; clear hK K)))
            refine wpLinH_do rfl (fun K hK => ?_); go_simp; refine hK _ _ ((Grows.refl y.drew).alloc _) ?_; clear hK K
            refine wpLinH_do rfl (fun K hK => ?_)
            refine step_append_clone sl_v rfl (.tmp 69) (.tmp 70) rfl rfl rfl (HRc.out.drew.alloc (Nat.le_refl _) _) HzR.out (fun _ _ => vlc_one _ _) (by unfold maxLen; omega) (by omega) ?_
            intro aoA capA xA hcA hbA hclA
            have hbA2 : Below y.heap.size y xA := (balloc (Below.refl _ _).drew _).trans (hbA.mono (by simp))
            go_simp; refine hK _ _ (by exact hbA) ?_; clear hK K hbA hclA
            refine wpLinH_do rfl (fun K hK => ?_); go_simp
            refine (build_over k aoA n capA rr most _ HlR.out (by omega) Hok.out hcA hm256 hover).mono ?_
            intro e x8 hg8
            obtain ⟨rfl, hb8⟩ := hg8
            refine hK _ _ hb8 ?_; clear hK K f1 hcA
            have hy8 : Below y.heap.size y x8 := bmore hbA2 hb8
            clear hb8 hbA2
            repeat (first
              | (refine wpLinH_skip rfl rfl (fun K hK => ?_); go_simp; refine hK _ ?_; clear hK K)
              | (refine wpLinH_take (v := ?_) rfl rfl (fun w' hw' => ?_) (fun K hK => ?_); rotate_left; (go_simp; rfl); (go_simp; refine hK _ ?_; clear hK K)))
            refine wpLinH_nil ?_
            have c1 := Grows.cell hy8 HcK.out
            have hRc8 := HRc.out.at hy8
            have Hy8 := Lib.hid hy8
            clear hy8
            go_wp2_with fail
            refine (rbuild_in aoR n capR rr most _ HlR.out (by omega) hRc8 hm256).mono ?_
            intro e x9 hg9
            have hg9 := Or.resolve_left hg9 (fun h => by omega) |>.2
            obtain ⟨rfl, hb9⟩ := hg9
            have hy9 := Lib.hid (bmore Hy8.out hb9)
            clear hb9 c1 hRc8
            go_wp2_with fail
            refine (same_any none 0 0 [] none 0 0 [] x9 rfl rfl (by decide) (by decide) CellsAt.zero CellsAt.zero).mono ?_
            rw [decide_eq_true rfl]
            rintro e x10 ⟨rfl, mm, rfl⟩
            go_wp2_with fail
            refine (lints_same none none 0 0 0 (fun _ => 0) _ (by decide) CellsAt.zero CellsAt.zero).mono ?_
            rintro e x11 ⟨rfl, m2, rfl⟩
            have Hy11 := Lib.hid (bmore Hwr.out (below_drewN (below_drewN hy9.out mm) m2))
            clear hy9
            generalize (x9.drewN mm).drewN m2 = Z at Hy11 ⊢
            go_wp2
            go_roundw
            case rel => exact ⟨i + 1, by omega, by go_num, Hy11⟩
            case measure => simp [intOf]; omega
          · have hfits : (dWords rr).length ≤ most := by omega
            have Hfits := Lib.hid hfits
            clear hover hrange
            go_wp2
            refine wp_region_linH [(0, 0), (2, 0), (4, 0), (5, 0), (6, 0), (7, 0), (1, 1), (3, 1), (8, 1), (9, 0), (10, 0), (11, 0), (12, 0), (13, 0), (14, 0), (15, 0)] [] (by kernel_rfl) (by kernel_rfl) (fun d _ _ _ _ h => by cases d <;> exact h) ?_
            repeat (first
              | (refine wpLinH_skip rfl rfl (fun K hK => ?_); go_simp; refine hK _ ?_; clear hK K)
              | (refine wpLinH_take (v := ?_) rfl rfl (fun w' hw' => ?_) (fun K hK => ?_); rotate_left; (go_simp; rfl); (go_simp; refine hK _ ?_; clear hK K)))
            refine wpLinH_do rfl (fun K hK => ?_); go_simp; refine hK _ _ ((Grows.refl y.drew).alloc _) ?_; clear hK K
            refine wpLinH_do rfl (fun K hK => ?_)
            refine step_append_clone sl_v rfl (.tmp 69) (.tmp 70) rfl rfl rfl (HRc.out.drew.alloc (Nat.le_refl _) _) HzR.out (fun _ _ => vlc_one _ _) (by unfold maxLen; omega) (by omega) ?_
            intro aoA capA xA hcA hbA hclA
            have hbA2 : Below y.heap.size y xA := (balloc (Below.refl _ _).drew _).trans (hbA.mono (by simp))
            go_simp; refine hK _ _ (by exact hbA) ?_; clear hK K hbA hclA
            refine wpLinH_do rfl (fun K hK => ?_); go_simp
            refine (build_yes k aoA n capA rr most _ HlR.out (by omega) Hok.out hcA hm256 Hfits.out).mono ?_
            rintro e x8 ⟨v3, u3, rfl, how3, hoa3, hb8⟩
            refine hK _ _ hb8 ?_; clear hK K f1 hcA
            have hy8 : Below y.heap.size y x8 := bmore hbA2 hb8
            obtain ⟨aW, cW, rfl, hlW, -, hcW, -, -⟩ := own_v how3
            obtain ⟨aA, cA, rfl, hcA0, -⟩ := own_i64 hoa3
            have hcapA := own_capI hoa3
            have hcA1 := hcA0
            clear hb8 hbA2 how3 hoa3
            repeat (first
              | (refine wpLinH_skip rfl rfl (fun K hK => ?_); go_simp; refine hK _ ?_; clear hK K)
              | (refine wpLinH_take (v := ?_) rfl rfl (fun w' hw' => ?_) (fun K hK => ?_); rotate_left; (go_simp; rfl); (go_simp; refine hK _ ?_; clear hK K)))
            refine wpLinH_nil ?_
            have c1 := Grows.cell hy8 HcK.out
            have hRc8 := HRc.out.at hy8
            have Hy8 := Lib.hid hy8
            clear hy8
            go_wp2_with fail
            refine (rbuild_in aoR n capR rr most _ HlR.out (by omega) hRc8 hm256).mono ?_
            intro e x9 hg9
            have hg9 := Or.resolve_right hg9 (fun h => by have := h.1; omega)
            obtain ⟨-, v4, u4, rfl, how4, hoa4, hb9⟩ := hg9
            obtain ⟨aV, cV, rfl, hlV, -, hcV, -, -⟩ := own_v how4
            obtain ⟨aT, cT, rfl, hcT0, -⟩ := own_i64 hoa4
            obtain ⟨m, hm⟩ : ∃ m, m = (dWords rr).length := ⟨_, rfl⟩
            rw [← hm] at hcW hcV
            simp only [← hm]
            have hm2 : m ≤ 256 := by have := Hfits.out; omega
            have Hm := Lib.hid hm
            have hcW9 := hcW.at hb9
            have hcA9 := hcA0.at hb9
            have hR9 := hRc8.at hb9
            have hy9 := Lib.hid (bmore Hy8.out hb9)
            clear hb9 c1 hRc8 how4 hoa4 hcW hcA0 hcA1 hm hlW hlV
            go_wp2_with fail
            refine (same_any aW m cW (dWords rr) aV m cV (dWords rr) x9 Hm.out.symm Hm.out.symm (by omega) (by omega) hcW9 hcV).mono ?_
            rw [decide_eq_true rfl]
            rintro e x10 ⟨rfl, mm, rfl⟩
            go_wp2_with fail
            refine (lints_same aA aT n cA cT (fun i => (dAtsI rr).getD i 0) _ (by omega) (hcA9.at (below_drewN (Below.refl _ _) mm)) (hcT0.at (below_drewN (Below.refl _ _) mm))).mono ?_
            rintro e x11 ⟨rfl, m2, rfl⟩
            have hbz := below_drewN (below_drewN (Below.refl x9.heap.size x9) mm) m2
            have hcWz := hcW9.at hbz
            have hcAz := ats_nic (hcA9.at hbz)
            have hcTz := ats_nic (hcT0.at hbz)
            have hRz := hR9.at hbz
            have hyz := Lib.hid (bmore hy9.out hbz)
            clear hcW9 hcA9 hcT0 hR9 hbz hcV hy9
            generalize (x9.drewN mm).drewN m2 = Z at hcWz hcAz hcTz hRz hyz ⊢
            have hlt64 : ∀ x ∈ dAts rr, x < 18446744073709551616 := fun x hx => by have h := dAts_lt rr x hx; rw [← Hm.out] at h; omega
            have hal : Hid ((dAts rr).length = n) := Lib.hid (by rw [dAts_length, HlR.out])
            have hE := dEnc_any aA n cA m (dAts rr) Z (by omega) hal.out (by omega) hcapA hcAz hlt64
            have hRE := fun w' h => rdEnc_any aT n cT m (dAts rr) w' hm2 hal.out (by omega) h hlt64
            have hback := dDec_back rr (by rw [HlR.out]; omega) (by rw [← Hm.out]; exact hm2)
            have h256 := levAny_lt (dAts rr) (dWide m : Nat) (by rw [hal.out]; omega)
            have hle := levAny_le (dAts rr) (dWide m) (by have := dWide_le m hm2; omega)
            rw [← Hm.out, HlR.out] at hback
            rw [hal.out] at hle
            obtain ⟨B, hB⟩ : ∃ B, B = levAny (dAts rr) (dWide m : Nat) := ⟨_, rfl⟩
            rw [← hB] at hE hRE hback h256 hle
            have HE := Lib.hid hE; have HRE := Lib.hid hRE; have HD := Lib.hid hback; have H256 := Lib.hid h256; have Hle := Lib.hid hle
            clear hE hRE hback h256 hle hB hcAz hlt64
            go_wp2_with fail
            refine HE.out.mono ?_
            intro e z1 hg
            obtain ⟨aoE, nE, capE, rfl, HnE, hcE, hzE, hrE, hb1⟩ := hg.opened
            have hcapE := hrE.cap
            have hnE : nE ≤ 2340 := by have := Hle.out; rw [HnE.out] at this; omega
            have hcW1 := hcWz.at hb1
            have hcT1 := hcTz.at hb1
            have hR1 := hRz.at hb1
            have hy1 := Lib.hid (bmore hyz.out hb1)
            clear hg hrE hb1 hcWz hcTz hRz hyz
            go_wp2_with fail
            refine (dDecode_any aoE nE capE (n : Nat) aW m cW B (dWords rr) _ HnE.out hcE hzE hcapE H256.out (by omega) Hm.out.symm (by omega) hcW1).mono ?_
            rw [HD.out]
            intro e z2 hg
            obtain ⟨aoX, nX, capX, rfl, HnX, -, hcX, hb2⟩ := hg.opened
            have hnX : nX = n := by rw [← HnX.out, ← HlR.out]
            subst hnX
            have hcT2 := hcT1.at hb2
            have hR2 := hR1.at hb2
            have hcE2 := hcE.at hb2
            have hy2 := Lib.hid (bmore hy1.out hb2)
            have hcv := conv_grown (cap := capE) HnE.out hcE2.drew hzE
            clear hg hb2 hcT1 hR1 hcE HnX hcW1 hy1
            go_wp2
            refine wp_region_linH [(0, 0), (1, 0), (2, 0), (3, 0), (4, 0), (5, 1), (6, 0), (7, 0), (8, 0), (9, 0), (10, 0), (11, 0), (12, 0), (13, 0), (14, 0), (15, 1), (16, 0), (17, 0)] [] (by kernel_rfl) (by kernel_rfl) (fun d _ _ _ _ h => by cases d <;> exact h) ?_
            repeat (first
              | (refine wpLinH_skip rfl rfl (fun K hK => ?_); go_simp; refine hK _ ?_; clear hK K)
              | (refine wpLinH_take (v := ?_) rfl rfl (fun w' hw' => ?_) (fun K hK => ?_); rotate_left; (go_simp; rfl); (go_simp; refine hK _ ?_; clear hK K)))
            refine wpLinH_do rfl (fun K hK => ?_); go_simp
            refine (HRE.out _ hcT2.drew).mono ?_
            intro e z3 hg
            obtain ⟨ao5, n5, cap5, rfl, Hn5, hc5, hz5, -, hb3⟩ := hg.opened
            refine hK _ _ hb3 ?_; clear hK K hcv
            have hcv5 := conv_grown (cap := cap5) Hn5.out hc5 hz5
            have hR3 := hR2.drew.at hb3
            have hcX3 := hcX.drew.at hb3
            have hy3 := Lib.hid (bmore hy2.out (Grows.toDrew hb3))
            clear hg hcT2 hcE2 hcX hc5 hR2 hb3
            repeat (first
              | (refine wpLinH_skip rfl rfl (fun K hK => ?_); go_simp; refine hK _ ?_; clear hK K)
              | (refine wpLinH_take (v := ?_) rfl rfl (fun w' hw' => ?_) (fun K hK => ?_); rotate_left; (go_simp; rfl); (go_simp; refine hK _ ?_; clear hK K)))
            refine wpLinH_do rfl (fun K hK => ?_); go_simp
            refine (same_any aoX nX capX rr aoR nX capR rr z3 HlR.out HlR.out (by omega) (by omega) hcX3 hR3).mono ?_
            rw [decide_eq_true rfl]
            rintro e z4 ⟨rfl, m3, rfl⟩
            refine hK _ _ (below_drewN (Below.refl _ _) m3) ?_; clear hK K hcv5
            repeat (first
              | (refine wpLinH_skip rfl rfl (fun K hK => ?_); go_simp; refine hK _ ?_; clear hK K)
              | (refine wpLinH_take (v := ?_) rfl rfl (fun w' hw' => ?_) (fun K hK => ?_); rotate_left; (go_simp; rfl); (go_simp; refine hK _ ?_; clear hK K)))
            refine wpLinH_nil ?_
            have Hz := Lib.hid (bmore Hwr.out (below_drewN hy3.out m3))
            clear hcX3 hR3
            go_wp2
            go_roundw
            case rel => exact ⟨i + 1, by omega, by go_num, Hz⟩
            case measure => simp [intOf]; omega
      · have hfin := Lib.hid (bmore hx0.out Hwr.out)
        go_wp2
        go_ret
        exact ⟨rfl, hfin.out⟩
end Go.Proofs.Ytkolmoebopfgiaa
