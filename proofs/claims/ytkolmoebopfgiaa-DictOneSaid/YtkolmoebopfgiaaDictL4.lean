/- Chapter 13: the law DictOne. -/
import Derived.Test.YtkolmoebopfgiaaDictD
import Derived.Test.YtkolmoebopfgiaaDictK
namespace Go.Proofs.Ytkolmoebopfgiaa
open Go.RowKit
set_option linter.unusedVariables false

theorem levDec_zero' (n : Nat) (hn : n ≤ 4000) : levDec [] n (0 : Nat) = (List.replicate n 0, 0) := by
  rw [levDec_in [] n 0 hn (by decide), if_pos rfl]
  simp only [decL]
  rw [if_neg (by simp)]
  simp
theorem dWords_rep (n : Nat) (x : Vl) (h : 1 ≤ n) : dWords (List.replicate n x) = [x] := by
  induction n with
  | zero => omega
  | succ n ih =>
    rw [List.replicate_succ', dWords_snoc]
    by_cases hn : n = 0
    · subst hn; simp [dWords, dStep]
    · rw [ih (by omega)]; simp [dStep]
theorem dAts_rep (n : Nat) (x : Vl) : dAts (List.replicate n x) = List.replicate n 0 := by
  induction n with
  | zero => rfl
  | succ n ih =>
    rw [List.replicate_succ', dAts_snoc, ih, List.replicate_succ']
    congr 1
    by_cases hn : n = 0
    · subst hn; simp [dWords, dStep, dIdx]
    · rw [dWords_rep n x (by omega)]; simp [dStep, dIdx]
theorem ats_nic {w : World} {B : Nat} {ao : Option Addr} {n : Nat} {l : List Vl} (h : CellsAt w B ao n (i64c (dAtsI l))) : CellsAt w B ao n (nic (dAts l)) :=
  h.congr fun i _ => by
    simp only [i64c, nic, dAtsI, List.getD_eq_getElem?_getD, List.getElem?_map]
    cases (dAts l)[i]? <;> rfl
theorem dDec_rep (n : Nat) (x : Vl) (hn : n ≤ 4000) : dDec [] n [x] = (List.replicate n x, 0) := by
  unfold dDec
  rw [if_neg (by simp)]
  simp only [List.length_cons, List.length_nil, show dWide (0 + 1) = 0 from rfl]
  rw [levDec_zero' n hn]
  simp

set_option maxHeartbeats 8000000 in
set_option maxRecDepth 100000 in
theorem dictOne_walk (a0 : Int) (a1 : ByteArray) (w : World) (w0 : (Lit.int .i64 a0).wf = true) (w1 : a1.size ≤ maxLen) :
    Calls Try.prog 9 #[.int .i64 a0, .string a1] w fun e w' => e = .returned (.bool true) ∧ Below w.heap.size w w' := by
  obtain ⟨ha1, ha2⟩ := bounds_i64 w0
  obtain ⟨z, hz⟩ : ∃ z, z = a1.size := ⟨_, rfl⟩
  by_cases c0 : 50 < z
  · have c1 : (50 : Int) < (a1.size : Int) := by omega
    have c2 : decide ((50 : Int) < (a1.size : Int)) = true := decide_eq_true c1
    clear c0 hz
    go_enter Try.func9, Try.ntmps9
    go_wp2_with (go_at_call 10; refine (known_any _).mono ?_; rintro e x1 ⟨rfl, hx1⟩)
    go_ret
    exact ⟨rfl, hx1⟩
  have c1 : ¬ (50 : Int) < (a1.size : Int) := by omega
  obtain ⟨q, hq, hql⟩ := modN' a0 100 (by decide)
  have Hq : Hid (a0 % 100 = (q : Int)) := Lib.hid hq
  obtain ⟨n, hn⟩ : ∃ n, n = 1 + q := ⟨_, rfl⟩
  have en : (1 : Int) + (q : Int) = (n : Int) := by omega
  have hn1 : 1 ≤ n ∧ n ≤ 100 := by omega
  obtain ⟨v, hv⟩ : ∃ v : Vl, v = (0, a1) := ⟨_, rfl⟩
  have hv1 : v.1 = 0 := by rw [hv]
  have hv2 : v.2 = a1 := by rw [hv]
  have hok : Hid (∀ u ∈ List.replicate n v, okV u) := Lib.hid (fun u hu => by
    rw [List.eq_of_mem_replicate hu, hv]
    exact ⟨⟨by simp, by simp⟩, by simp only []; omega⟩)
  have hwd : Hid (dWords (List.replicate n v) = [v]) := Lib.hid (dWords_rep n v hn1.1)
  have had : Hid (dAts (List.replicate n v) = List.replicate n 0) := Lib.hid (dAts_rep n v)
  have hdd : Hid (dDec [] n [v] = (List.replicate n v, 0)) := Lib.hid (dDec_rep n v (by omega))
  have Hv1 := Lib.hid hv1; have Hv2 := Lib.hid hv2
  clear hq hql hn hz hv hv1 hv2 c0
  go_enter Try.func9, Try.ntmps9
  go_wp2_with (go_at_call 10; refine (known_any _).mono ?_; rintro e x1 ⟨rfl, hx1⟩)
  refine (within_any _ _ _ (by omega) (by omega) ha1 ha2).mono ?_; rw [Hq.out]; rintro e x2 ⟨rfl, rfl⟩
  have Hx1 := Lib.hid hx1
  clear hx1
  go_wp2
  go_loopw [5, 6] (fun u i x => ∃ (j : Nat) (ao : Option Addr) (cap : Nat), j ≤ n ∧ u = .slice ao j cap ∧ i = .int .i64 (j : Nat) ∧ Hid (x.ownsRow x1.heap.size 30 2 (.slice ao j cap) j (vcs (List.replicate j v))) ∧ Hid (Below x1.heap.size x1 x)) (fun _ i _ => n - (intOf i).toNat)
  case atStart => exact ⟨0, none, 0, Nat.zero_le _, rfl, rfl, Lib.hid (World.ownsRow_nil _ _ _ _), Lib.hid (Below.refl _ _)⟩
  case round =>
    obtain ⟨j, ao, cap, hj, rfl, rfl, hown1, Hb0⟩ := hrel
    obtain ⟨y, hyy⟩ : ∃ x, x = wr := ⟨_, rfl⟩
    subst hyy
    by_cases hjn : j < n
    · have e2 : (j : Int) < (n : Int) := by omega
      have hownA := own_below hown1.out ((Below.refl _ _).alloc (Nat.le_refl _) (.cells #[.int .i64 0, .string a1] 30))
      have hsA : x1.heap.size ≤ (y.alloc (.cells #[.int .i64 0, .string a1] 30)).heap.size := Nat.le_trans Hb0.out.size (by simp)
      have hcv := cells_one_v y 30 v
      rw [Hv1.out, Hv2.out] at hcv
      go_wp2_with (at_builtin; refine wpList_append_all sl_v rfl (.tmp 28) (.tmp 31) rfl rfl hownA rfl (m := 1) hcv (fun h => by cases h) (fun _ _ => vlc_one _ _) (by unfold maxLen; omega) (by omega) hsA ?_)
      intro v' y2 ho2 hg2
      have hb2 : Below x1.heap.size x1 y2 := (Hb0.out.alloc Hb0.out.size _).grown hg2 hsA (fun k hk => (hownA.lt k hk).1)
      have ho3 : y2.ownsRow x1.heap.size 30 2 v' (j + 1) (vcs (List.replicate (j + 1) v)) := by
        rw [List.replicate_succ', ← vcs_snoc]
        exact ho2
      obtain ⟨ao3, cap3, rfl, -⟩ := own_v ho3
      have H3 := Lib.hid ho3; have Hb2 := Lib.hid hb2
      clear ho2 hg2 ho3 hb2 hownA hsA hown1 hcv
      go_wp2
      go_roundw
      case rel => exact ⟨j + 1, ao3, cap3, by omega, rfl, by go_num, H3, Hb2⟩
      case measure => simp [intOf]; omega
    · have e2 : ¬ (j : Int) < (n : Int) := by omega
      obtain rfl : j = n := by omega
      obtain ⟨aoL, capL, hsl, hlL, -, hcL, -, -⟩ := own_v hown1.out
      simp only [Value.slice.injEq, true_and] at hsl
      obtain ⟨rfl, rfl⟩ := hsl
      have hy := bmore Hx1.out Hb0.out
      have HlL : Hid ((List.replicate j v).length = j) := Lib.hid (List.length_replicate ..)
      clear hown1 Hb0 hlL
      go_wp2_with fail
      refine (build_yes 4 ao j cap (List.replicate j v) 1 _ HlL.out (by omega) hok.out hcL (by decide) (by rw [hwd.out]; simp)).mono ?_
      rintro e x3 ⟨v3, u3, rfl, how3, hoa3, hb3⟩
      rw [hwd.out] at how3
      obtain ⟨aW, cW, rfl, -, hncW, hcW, -, -⟩ := own_v how3
      obtain ⟨aA, cA, rfl, hcA0, -⟩ := own_i64 hoa3
      have hcapA : j ≤ cA := by
        rcases hoa3.2 with ⟨-, h2⟩ | ⟨g, c2, cur, h1, -, -, h4, -⟩
        · omega
        · simp only [Value.slice.injEq] at h1; omega
      have hcA := ats_nic hcA0
      rw [had.out] at hcA
      have hcL3 := hcL.at hb3
      have hy3 := bmore hy hb3
      clear how3 hoa3 hcL hb3 hy hcA0
      go_wp2_with fail
      refine (dDecode_any none 0 0 (j : Nat) aW 1 cW [] [v] _ rfl CellsAt.zero (fun _ => rfl) (Nat.le_refl _) (fun x h => by simp at h) (by omega) rfl (by omega) hcW).mono ?_
      rw [hdd.out]
      intro e x4 hg
      obtain ⟨aoX, nX, capX, rfl, HnX, -, hcX, hx4⟩ := hg.opened
      have hnX : nX = j := by rw [← HnX.out]; simp
      subst hnX
      have hcL4 := hcL3.at hx4
      have hcA4 := hcA.at hx4
      have hy4 := bmore hy3 hx4
      clear hg HnX hcL3 hcA hx4 hcW
      go_wp2_with fail
      refine (build_over 4 ao nX cap (List.replicate nX v) 0 _ HlL.out (by omega) hok.out hcL4 (by decide) (by rw [hwd.out]; simp)).mono ?_
      rintro e x5 ⟨rfl, hx5⟩
      have hcL5 := hcL4.at hx5
      have hcA5 := hcA4.at hx5
      have hcX5 := hcX.at hx5
      have hy5 := bmore hy4 hx5
      have hE := dEnc_any aA nX cA 1 (List.replicate nX 0) x5 (by omega) (List.length_replicate ..) (by omega) hcapA hcA5 (fun x h => by rw [List.eq_of_mem_replicate h]; decide)
      rw [show levAny (List.replicate nX 0) (dWide 1 : Nat) = [] from rfl] at hE
      have HE := Lib.hid hE
      clear hcL4 hcA4 hcX hx5 hE hcA5
      go_wp2_with fail
      refine HE.out.mono ?_
      intro e x6 hg
      obtain ⟨ao6, n6, cap6, rfl, Hn6, -, -, -, hx6⟩ := hg.opened
      have hn6 : n6 = 0 := by rw [← Hn6.out]; rfl
      subst hn6
      have hcL6 := hcL5.at hx6
      have hcX6 := hcX5.at hx6
      have hy6 := bmore hy5 hx6
      clear hg Hn6 hcL5 hcX5 hx6
      go_wp2_with fail
      refine (same_any aoX nX capX (List.replicate nX v) ao nX cap (List.replicate nX v) _ HlL.out HlL.out (by omega) (by omega) hcX6 hcL6).mono ?_
      rw [decide_eq_true rfl]
      rintro e x7 ⟨rfl, mm, rfl⟩
      have Hy7 := Lib.hid (below_drewN hy6 mm)
      go_wp2
      go_ret
      exact ⟨by simp, Hy7.out⟩
end Go.Proofs.Ytkolmoebopfgiaa
