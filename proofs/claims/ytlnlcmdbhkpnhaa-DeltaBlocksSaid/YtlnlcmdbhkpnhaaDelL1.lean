/- Chapter 12: the law DeltaBlocks. -/
import Derived.Test.YtlnlcmdbhkpnhaaDelK
import Derived.Test.YtlnlcmdbhkpnhaaDelQ
import Derived.Test.YtlnlcmdbhkpnhaaRow
namespace Go.Proofs.Ytlnlcmdbhkpnhaa
open Go.RowKit
set_option linter.unusedVariables false

theorem madeI' (n : Nat) : (madeCells #[Value.int .i64 0] n).toList = i64v (List.replicate n 0) := by
  refine List.ext_getElem (by simp [madeCells, i64v]) fun i h1 h2 => ?_
  simp [madeCells, i64v, Nat.mod_one]
theorem i64v_set (l : List Int) (j : Nat) (x : Int) : (i64v l).set j (.int .i64 x) = i64v (l.set j x) := by simp [i64v, List.map_set]
theorem stored_i64 {w : World} {base E g n cap : Nat} {l : List Int} (h : w.ownsRow base E 1 (.slice (some ⟨g, 0, none⟩) n cap) n (i64v l)) (j : Nat) (x : Int) :
    (w.setCell ⟨g, j, none⟩ (.int .i64 x)).ownsRow base E 1 (.slice (some ⟨g, 0, none⟩) n cap) n (i64v (l.set j x)) := by
  rw [← i64v_set]
  exact (h.stored j _).1
theorem cell_i64 {w : World} {base E g n cap : Nat} {l : List Int} (h : w.ownsRow base E 1 (.slice (some ⟨g, 0, none⟩) n cap) n (i64v l)) (j : Nat) (hj : j < n) :
    w.cell? ⟨g, j, none⟩ = some (i64c l j) := by
  have hl : l.length = n := by have := h.1; simpa [i64v_length] using this
  rw [h.cellAt j (by omega), i64v_at l j (by omega)]
def fillS (n at_ : Nat) (p : Int) (j : Nat) : List Int := (stepRow n at_ p).take j ++ List.replicate (n - j) 0
theorem fillS_set (n at_ : Nat) (p : Int) (j : Nat) (h : j < n) : (fillS n at_ p j).set j (if j < at_ then 0 else p) = fillS n at_ p (j + 1) := by
  unfold fillS
  have hl : ((stepRow n at_ p).take j).length = j := by rw [List.length_take, stepRow_length]; omega
  rw [List.set_append_right _ _ (by rw [hl]; exact Nat.le_refl _), hl, Nat.sub_self, show n - j = (n - (j + 1)) + 1 by omega, List.replicate_succ, List.set_cons_zero, ← stepRow_getD n at_ p j h, show (stepRow n at_ p).take (j + 1) = (stepRow n at_ p).take j ++ [(stepRow n at_ p)[j]'(by rw [stepRow_length]; exact h)] from List.take_succ_eq_append_getElem _, List.getD_eq_getElem?_getD, List.getElem?_eq_getElem (by rw [stepRow_length]; exact h)]
  simp [-List.take_append_getElem]
theorem fillS_zero (n at_ : Nat) (p : Int) : fillS n at_ p 0 = List.replicate n 0 := by simp [fillS]
theorem fillS_all (n at_ : Nat) (p : Int) : fillS n at_ p n = stepRow n at_ p := by unfold fillS; rw [List.take_of_length_le (by rw [stepRow_length]; exact Nat.le_refl _)]; simp
set_option maxHeartbeats 8000000 in
set_option maxRecDepth 100000 in
theorem deltaBlocks_walk (a0 a1 a2 : Int) (w : World) (w0 : (Lit.int .i64 a0).wf = true) (w1 : (Lit.int .i64 a1).wf = true) (w2 : (Lit.int .i64 a2).wf = true) :
    Calls Try.prog 3 #[.int .i64 a0, .int .i64 a1, .int .i64 a2] w fun e w' => e = .returned (.bool true) ∧ Below w.heap.size w w' := by
  obtain ⟨ha1, ha2⟩ := bounds_i64 w0
  obtain ⟨hb1, hb2⟩ := bounds_i64 w1
  obtain ⟨hd1, hd2⟩ := bounds_i64 w2
  obtain ⟨q, hq, hql⟩ := modN' a0 100 (by decide)
  have Hq : Hid (a0 % 100 = (q : Int)) := Lib.hid hq
  obtain ⟨n, hn⟩ : ∃ n, n = 33 + q := ⟨_, rfl⟩
  have en : (33 : Int) + (q : Int) = (n : Int) := by omega
  have hn3 : 33 ≤ n ∧ n ≤ 132 := by omega
  obtain ⟨r, hr⟩ : ∃ r, r = n - 1 := ⟨_, rfl⟩
  have er : (n : Int) - 1 = (r : Int) := by omega
  obtain ⟨k, hk, hkl⟩ := modN' a1 r (by omega)
  have Hk : Hid (a1 % (r : Int) = (k : Int)) := Lib.hid hk
  obtain ⟨at_, hat⟩ : ∃ x, x = 1 + k := ⟨_, rfl⟩
  have ea : (1 : Int) + (k : Int) = (at_ : Int) := by omega
  have hat2 : 1 ≤ at_ ∧ at_ < n := by omega
  obtain ⟨s, hs, hsl⟩ := modN' a2 40 (by decide)
  have Hs : Hid (a2 % 40 = (s : Int)) := Lib.hid hs
  have wus : IntKind.u64.wrap (s : Int) = (s : Int) := by rw [IntKind.wrap_u64]; omega
  have hr1 : 32 ≤ r ∧ r ≤ 131 := by omega
  obtain ⟨p, hp⟩ : ∃ p, p = 2 ^ s := ⟨_, rfl⟩
  have hpm : p ≤ 549755813888 := by
    rw [hp]; exact Nat.le_trans (Nat.pow_le_pow_right (by decide) (show s ≤ 39 by omega)) (by decide)
  have hp1 : 1 ≤ p := by rw [hp]; exact Nat.two_pow_pos s
  have hpI : ((2 : Int) ^ s) = (p : Int) := by rw [hp]; simp
  have hpw : IntKind.i64.wrap (2 ^ s) = (p : Int) := by rw [hpI, IntWalk.i64_in _ (by omega)]
  have Hp := Lib.hid hp
  obtain ⟨i0, hi, hz0, hz1, hz2⟩ := info_parts Try.infoI'
  clear hq hql hn hr hk hkl hat hs hp hpI
  go_enter Try.func3, Try.ntmps3
  go_wp2_with (go_at_call 12; refine (known_any _).mono ?_; rintro e x1 ⟨rfl, hx1⟩)
  refine (within_any _ _ _ (by omega) (by omega) ha1 ha2).mono ?_; rw [Hq.out]; rintro e x2 ⟨rfl, rfl⟩
  go_wp2_with fail
  refine (within_any a1 (r : Int) _ (by omega) (by omega) hb1 hb2).mono ?_; rw [Hk.out]; rintro e x3 ⟨rfl, rfl⟩
  go_wp2_with fail
  refine (within_any a2 40 _ (by omega) (by omega) hd1 hd2).mono ?_; rw [Hs.out]; rintro e x3 ⟨rfl, rfl⟩
  have Hx1 := Lib.hid hx1
  clear hx1
  go_wp2_with (at_make; refine wpList_make_g _ rfl _ _ 25 rfl x1.heap.size 3 i0 (.int .i64 0) 1 Try.underlying25 hi hz0 hz1 _ _ n rfl rfl (by rw [hz2]; omega) (by unfold maxLen; omega) (Nat.le_refl _) ?_)
  intro x2 ho hg
  rw [madeI'] at ho
  have hb2 : Below x1.heap.size x1 x2 := (Below.refl _ _).grown hg (Nat.le_refl _) (fun k h => by cases h)
  have Ho := Lib.hid ho; have Hb2 := Lib.hid hb2
  clear ho hg hb2
  go_wp2_with (at_make; refine wpList_make_g _ rfl _ _ 25 rfl x2.heap.size 3 i0 (.int .i64 0) 1 Try.underlying25 hi hz0 hz1 _ _ n rfl rfl (by rw [hz2]; omega) (by unfold maxLen; omega) (Nat.le_refl _) ?_)
  intro x3 ho hg
  rw [madeI', ← fillS_zero n at_ p] at ho
  have Hb3 := Lib.hid ((Below.refl x2.heap.size x2).grown hg (Nat.le_refl _) (fun k h => by cases h))
  have Ho3 := Lib.hid ho
  clear ho hg
  go_wp2
  go_loopw [9] (fun i x => ∃ j : Nat, j ≤ n ∧ i = .int .i64 (j : Nat) ∧ Hid (x.ownsRow x2.heap.size 3 1 (.slice (some ⟨x2.heap.size, 0, none⟩) n n) n (i64v (fillS n at_ p j))) ∧ Hid (Below x2.heap.size x2 x)) (fun i _ => n - (intOf i).toNat)
  case atStart => exact ⟨0, Nat.zero_le _, rfl, Ho3, Hb3⟩
  case round =>
    clear Ho3 Hb3
    obtain ⟨j, hj, rfl, hown, hbel⟩ := hrel
    obtain ⟨y, hyy⟩ : ∃ x, x = wr := ⟨_, rfl⟩
    subst hyy
    by_cases hjn : j < n
    · have e1 : (j : Int) < (n : Int) := by omega
      have e2 : (0 : Int) ≤ (j : Int) := by omega
      have hc1 := cell_i64 hown.out j hjn
      have hf1 := hown.out.frozenAt j
      have hst := stored_i64 hown.out j 0
      have hset := fillS_set n at_ p j hjn
      have Hbs := Lib.hid (show Below x2.heap.size x2 (y.setCell ⟨x2.heap.size, j, none⟩ (.int .i64 0)) from hbel.out.setCell (by exact Nat.le_refl _) _)
      by_cases hja : j < at_
      · have e3 : ¬ (at_ : Int) ≤ (j : Int) := by omega
        rw [if_pos hja] at hset
        rw [hset] at hst
        have Hst := Lib.hid hst
        clear hset hst hown hbel
        go_wp2
        go_roundw
        case rel => exact ⟨j + 1, by omega, by go_num, Hst, Hbs⟩
        case measure => simp [intOf]; omega
      · have e3 : (at_ : Int) ≤ (j : Int) := by omega
        rw [if_neg hja] at hset
        have hc2 := cell_i64 hst j hjn
        have hf2 := hst.frozenAt j
        have hst2 := stored_i64 hst j p
        rw [List.set_set, hset] at hst2
        have Hst := Lib.hid hst2
        have Hbs2 := Lib.hid (show Below x2.heap.size x2 ((y.setCell ⟨x2.heap.size, j, none⟩ (.int .i64 0)).setCell ⟨x2.heap.size, j, none⟩ (.int .i64 p)) from Hbs.out.setCell (by exact Nat.le_refl _) _)
        clear hset hst hst2 hown hbel
        go_wp2
        go_roundw
        case rel => exact ⟨j + 1, by omega, by go_num, Hst, Hbs2⟩
        case measure => simp [intOf]; omega
    · have e1 : ¬ (j : Int) < (n : Int) := by omega
      have hcA : CellsAt y y.heap.size (some ⟨x1.heap.size, 0, none⟩) n (i64c (List.replicate n 0)) := by
        obtain ⟨ao, cap, hs, hc, -⟩ := own_i64 Ho.out
        simp only [Value.slice.injEq, true_and] at hs
        obtain ⟨rfl, rfl⟩ := hs
        exact hc.at hbel.out
      have hcB : CellsAt y y.heap.size (some ⟨x2.heap.size, 0, none⟩) n (i64c (stepRow n at_ p)) := by
        have h := hown.out
        rw [show j = n by omega, fillS_all] at h
        obtain ⟨ao, cap, hs, hc, -⟩ := own_i64 h
        simp only [Value.slice.injEq, true_and] at hs
        obtain ⟨rfl, rfl⟩ := hs
        exact hc
      have HcA := Lib.hid hcA; have HcB := Lib.hid hcB
      have Hy := Lib.hid (bmore Hx1.out (bmore Hb2.out hbel.out))
      have hdA := dInts_any (some ⟨x1.heap.size, 0, none⟩) n n (List.replicate n 0) y (List.length_replicate ..) (by omega) hcA (fun x hx => by rw [List.eq_of_mem_replicate hx]; exact ⟨by decide, by decide⟩)
      have HdA := Lib.hid hdA
      clear hcA hcB hown hbel hdA Ho Hb2
      go_wp2_with fail
      refine HdA.out.mono ?_
      intro e y2 hg
      obtain ⟨aoP, nP, capP, rfl, HnP, -, -, -, hbP⟩ := hg.opened
      have hdB := dInts_any (some ⟨x2.heap.size, 0, none⟩) n n (stepRow n at_ p) y2 (stepRow_length ..) (by omega) (HcB.out.at hbP) (fun x hx => by
        obtain ⟨i, hi, rfl⟩ := mem_getD _ _ hx
        rw [stepRow_length] at hi
        rw [stepRow_getD _ _ _ _ hi]
        split
        · exact ⟨by decide, by decide⟩
        · exact ⟨by omega, by omega⟩)
      have HdB := Lib.hid hdB; have Hy2 := Lib.hid (bmore Hy.out hbP)
      clear hg hdB hbP HdA Hy
      go_wp2_with fail
      refine HdB.out.mono ?_
      intro e y3 hg
      obtain ⟨aoQ, nQ, capQ, rfl, HnQ, -, -, -, hbQ⟩ := hg.opened
      have Hy3 := Lib.hid (bmore Hy2.out hbQ)
      clear hg hbQ HdB Hy2
      go_wp2
      go_loop [12] (fun v => ∃ t : Nat, t ≤ s + 1 ∧ v = .int .i64 (t : Nat)) (fun v => s + 1 - (intOf v).toNat)
      case atStart => exact ⟨0, Nat.zero_le _, rfl⟩
      case round =>
        obtain ⟨t, ht, rfl⟩ := hrel
        have wt : IntKind.u64.wrap (t : Int) = (t : Int) := by rw [IntKind.wrap_u64]; omega
        obtain ⟨g, hg⟩ : ∃ g, g = p / 2 ^ t := ⟨_, rfl⟩
        have hgI : (p : Int) / 2 ^ t = (g : Int) := by rw [hg]; simp
        by_cases hts : t ≤ s
        · have hg0 : (0 : Int) < (g : Int) := by
            have h1 : 0 < g := by
              rw [hg, Hp.out]; exact Nat.div_pos (Nat.pow_le_pow_right (by decide) hts) (Nat.two_pow_pos t)
            omega
          clear hg
          go_wp2
          go_round
          case rel => exact ⟨t + 1, by omega, by go_num⟩
          case measure => simp [intOf]; omega
        · obtain rfl : t = s + 1 := by omega
          have hg0 : ¬ (0 : Int) < (g : Int) := by
            have h1 : g = 0 := by
              rw [hg, Hp.out]; exact Nat.div_eq_of_lt (Nat.pow_lt_pow_right (by decide) (by omega))
            omega
          obtain ⟨jb, hjb⟩ : ∃ jb, jb = (at_ - 1) / 32 := ⟨_, rfl⟩
          have ej : ((at_ : Int) - 1) / 32 = (jb : Int) := by omega
          obtain ⟨d, hd⟩ : ∃ d, d = r - jb * 32 := ⟨_, rfl⟩
          have ed : (r : Int) - (jb : Int) * 32 = (d : Int) := by omega
          obtain ⟨blk, hblk⟩ : ∃ b, b = min 32 d := ⟨_, rfl⟩
          have hmin := fun w' : World => run_min_int2' (P := Try.prog) (w := w') #[3, 3] 3 .i64 32 (d : Int) (blk : Int) (by omega)
          have hblk32 : blk ≤ 32 := by omega
          by_cases hb2 : blk < 2
          · have e5 : (blk : Int) < 2 := by omega
            have e6 : decide ((blk : Int) < 2) = true := decide_eq_true e5
            clear hg hjb hd hblk
            go_wp2
            go_ret
            refine ⟨?_, Hy3.out⟩
            first | rfl | simp
          · obtain ⟨M, hM⟩ : ∃ M, M = blk * (s + 1) := ⟨_, rfl⟩
            have eM : (blk : Int) * ((s : Int) + 1) = (M : Int) := by rw [hM]; simp
            have hM2 : M ≤ 32 * 40 := by rw [hM]; exact Nat.mul_le_mul hblk32 (by omega)
            obtain ⟨D, hD⟩ : ∃ D, D = (M + 7) / 8 := ⟨_, rfl⟩
            have eD : ((M : Int) + 7) / 8 = (D : Int) := by omega
            have hq : nQ = nP + D := by
              have h1 := dInts_step n at_ s (by omega) hat2.1 hat2.2 hsl (by rw [show n - 1 = r by omega, ← hjb, ← hd, ← hblk]; omega)
              rw [← Hp.out, HnQ.out, HnP.out, show n - 1 = r by omega, ← hjb, ← hd, ← hblk, ← hM, ← hD] at h1
              exact h1
            have hnP : nP ≤ 100000 := by
              have h1 := dInts_zeros n (by omega)
              rw [HnP.out] at h1; omega
            have e5 : ¬ (blk : Int) < 2 := by omega
            have e6 : decide ((blk : Int) < 2) = false := decide_eq_false e5
            have e7 : (nQ : Int) = (nP : Int) + (D : Int) := by omega
            clear hg hjb hd hblk hM hD hq
            go_wp2
            go_ret
            refine ⟨?_, Hy3.out⟩
            first | rfl | simp
end Go.Proofs.Ytlnlcmdbhkpnhaa
