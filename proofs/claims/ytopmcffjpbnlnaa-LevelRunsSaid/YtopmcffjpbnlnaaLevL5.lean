/- Chapter 10: the law LevelRuns. -/
import Derived.Test.YtopmcffjpbnlnaaLevL3
namespace Go.Proofs.Ytopmcffjpbnlnaa
open Go.RowKit
set_option linter.unusedVariables false

theorem i64_and1 (n : Int) : bits .and .i64 n 1 = n % 2 := by
  have h1 : (BitVec.ofInt 64 1).toNat = 2 ^ 1 - 1 := by decide
  have key : (BitVec.ofInt 64 n &&& BitVec.ofInt 64 1).toNat = (n % ((2 ^ 64 : Nat) : Int)).toNat % 2 ^ 1 := by
    rw [BitVec.toNat_and, BitVec.toNat_ofInt, h1, Nat.and_two_pow_sub_one_eq_mod]
  show IntKind.i64.wrap ((BitVec.ofInt 64 n &&& BitVec.ofInt 64 1).toNat : Nat) = n % 2
  rw [key, IntKind.wrap_i64]
  omega
theorem sameN_rep (n v : Nat) (h : 0 < n) : sameN (List.replicate n v) = n := by
  refine sameN_of _ n h (by simp) (fun i hi => ?_) (.inl (by simp))
  rw [List.getD_eq_getElem?_getD, List.getD_eq_getElem?_getD, List.getElem?_replicate, List.getElem?_replicate, if_pos hi, if_pos h]
theorem levAny_rep (n v wd : Nat) (h : 0 < n) (h1 : 1 ≤ wd) (h16 : wd ≤ 16) : levAny (List.replicate n v) wd = vputB (2 * n) ++ lowB v ((wd + 7) / 8) := by
  have hs := sameN_rep n v h
  have hne : List.replicate n v ≠ [] := by intro e; have := congrArg List.length e; simp at this; omega
  unfold levAny
  rw [if_neg (by omega), Int.toNat_natCast, levB_run wd _ hne (by unfold isRun; rw [hs]; simp), hs, List.drop_of_length_le (by simp), levB_nil, List.append_nil, List.getD_eq_getElem?_getD, List.getElem?_replicate, if_pos h]
  rfl
theorem vputB_head (v : Nat) (t : List Nat) : (vputB v ++ t).getD 0 0 % 2 = v % 2 := by
  unfold vputB
  rw [vputF]
  split
  · rfl
  · show (v % 128 + 128) % 2 = v % 2
    omega
theorem vputB_len1 (v : Nat) (h : v < 128) : (vputB v).length = 1 := by rw [vputB_small v h]; rfl
theorem vputB_len2 (v : Nat) (h : 128 ≤ v) (h2 : v < 16384) : (vputB v).length = 2 := by
  rw [vputB_step v (by omega) h, vputB_small (v / 128) (by omega)]; rfl
/-- Noughts and ones. -/
def altN (m : Nat) : List Nat := (List.range m).map (· % 2)
theorem altN_length (m : Nat) : (altN m).length = m := by simp [altN]
theorem altN_at (m i : Nat) (h : i < m) : (altN m).getD i 0 = i % 2 := by
  simp [altN, List.getD_eq_getElem?_getD, h]
theorem altN_lt (m wd : Nat) (h1 : 1 ≤ wd) : ∀ x ∈ altN m, x < 2 ^ wd := by
  intro x hx
  obtain ⟨i, -, rfl⟩ := List.mem_map.1 hx
  have : 2 ^ 1 ≤ 2 ^ wd := Nat.pow_le_pow_right (by decide) h1
  show i % 2 < _
  omega
theorem altN_head (m wd : Nat) (h : 2 ≤ m) (h1 : 1 ≤ wd) (h16 : wd ≤ 16) : (levAny (altN m) wd).getD 0 0 % 2 = 1 ∧ 0 < (levAny (altN m) wd).length := by
  have hl := altN_length m
  have hne : altN m ≠ [] := by intro e; rw [e] at hl; simp at hl; omega
  have hs : sameN (altN m) = 1 := sameN_of _ 1 (by decide) (by omega) (fun i hi => by rw [show i = 0 by omega]) (.inr (by rw [altN_at m 1 (by omega), altN_at m 0 (by omega)]; decide))
  unfold levAny
  rw [if_neg (by omega), Int.toNat_natCast, levB_grp wd _ hne (by unfold isRun; rw [hs, hl]; simp; omega)]
  have hv := (vputB_length (2 * ((grps (altN m)).1.length / 8) + 1)).1
  refine ⟨?_, by simp only [List.length_append]; omega⟩
  rw [List.append_assoc, vputB_head]; omega
/-- A row while it is filled. -/
def filTo (f : Nat → Nat) (n k : Nat) : List Value := (List.range k).map (fun i => Value.int .i64 ((f i : Nat) : Int)) ++ List.replicate (n - k) (.int .i64 0)
theorem filTo_set (f : Nat → Nat) (n k : Nat) (h : k < n) : (filTo f n k).set k (.int .i64 ((f k : Nat) : Int)) = filTo f n (k + 1) := by
  unfold filTo
  rw [List.set_append_right _ _ (by simp), List.length_map, List.length_range, Nat.sub_self, show n - k = (n - (k + 1)) + 1 by omega, List.replicate_succ, List.set_cons_zero, List.range_succ, List.map_append]
  simp
theorem filTo_at (f : Nat → Nat) (n k : Nat) (h : k < n) : (filTo f n k)[k]? = some (.int .i64 0) := by
  unfold filTo
  rw [List.getElem?_append_right (by simp), List.length_map, List.length_range, Nat.sub_self, List.getElem?_replicate, if_pos (by omega)]
theorem filTo_length (f : Nat → Nat) (n k : Nat) (h : k ≤ n) : (filTo f n k).length = n := by simp [filTo]; omega
theorem filTo_zero (f : Nat → Nat) (n : Nat) : filTo f n 0 = List.replicate n (.int .i64 0) := by simp [filTo]
theorem filTo_rep (n v : Nat) : filTo (fun _ => v) n n = natv (List.replicate n v) := by
  simp only [filTo, Nat.sub_self, List.replicate_zero, List.append_nil, natv]
  refine List.ext_getElem (by simp) fun i h1 h2 => by simp
theorem filTo_alt (m : Nat) : filTo (· % 2) m m = natv (altN m) := by
  simp only [filTo, Nat.sub_self, List.replicate_zero, List.append_nil, natv, altN]
  refine List.ext_getElem (by simp) fun i h1 h2 => by simp

set_option maxHeartbeats 8000000 in
set_option maxRecDepth 100000 in
theorem levelRuns_walk (a0 a1 a2 : Int) (w : World) (w0 : (Lit.int .i64 a0).wf = true) (w1 : (Lit.int .i64 a1).wf = true) (w2 : (Lit.int .i64 a2).wf = true) :
    Calls Try.prog 6 #[.int .i64 a0, .int .i64 a1, .int .i64 a2] w fun e w' => e = .returned (.bool true) ∧ Below w.heap.size w w' := by
  obtain ⟨ha1, ha2⟩ := bounds_i64 w0
  obtain ⟨hb1, hb2⟩ := bounds_i64 w1
  obtain ⟨hc1, hc2⟩ := bounds_i64 w2
  obtain ⟨q, hq, hql⟩ := modN' a0 4000 (by decide)
  obtain ⟨r, hr, hrl⟩ := modN' a2 16 (by decide)
  have Hq : Hid (a0 % 4000 = (q : Int)) := Lib.hid hq
  have Hr : Hid (a2 % 16 = (r : Int)) := Lib.hid hr
  obtain ⟨n, hn⟩ : ∃ n, n = 1 + q := ⟨_, rfl⟩
  obtain ⟨wd, hwd⟩ : ∃ wd, wd = 1 + r := ⟨_, rfl⟩
  have en : (1 : Int) + (q : Int) = (n : Int) := by omega
  have ew : (1 : Int) + (r : Int) = (wd : Int) := by omega
  have hn1 : 1 ≤ n ∧ n ≤ 4000 := by omega
  have hw1 : 1 ≤ wd ∧ wd ≤ 16 := by omega
  obtain ⟨P, eP, hP1, hP2, HP⟩ := two_pow wd hw1.2
  have eP1 : IntKind.i64.wrap (P : Int) = (P : Int) := IntWalk.i64_in _ (by omega)
  obtain ⟨v, hv, hvl⟩ := modN' a1 P (by omega)
  have Hv : Hid (a1 % (P : Int) = (v : Int)) := Lib.hid hv
  obtain ⟨m, hm⟩ : ∃ m, m = min n 200 := ⟨_, rfl⟩
  have hm1 : 1 ≤ m ∧ m ≤ 200 := by omega
  have hmin := fun (w' : World) => run_min_int2 (P := Try.prog) (w := w') #[3, 3] 3 .i64 (n : Int) 200 (m : Int) (by omega)
  obtain ⟨k7, hk7⟩ : ∃ k7, k7 = (wd + 7) / 8 := ⟨_, rfl⟩
  have e7 : ((wd : Int) + 7) / 8 = (k7 : Int) := by omega
  have h72 : k7 ≤ 2 := by omega
  have hrep := levAny_rep n v wd hn1.1 hw1.1 hw1.2
  have hvw : ∀ x ∈ List.replicate n v, x < 2 ^ wd := fun x hx => by rw [List.eq_of_mem_replicate hx, ← HP.out]; exact hvl
  rw [← hk7] at hrep
  obtain ⟨B, hB⟩ : ∃ B, B = levAny (List.replicate n v) wd := ⟨_, rfl⟩
  have hBl : B.length = (if n < 64 then 1 else 2) + k7 := by
    rw [hB, hrep, List.length_append, lowB_length]
    split
    · rw [vputB_len1 _ (by omega)]
    · rw [vputB_len2 _ (by omega) (by omega)]
  have hB0 : B.getD 0 0 % 2 = 0 := by rw [hB, hrep, vputB_head]; omega
  have hB256 : B.getD 0 0 < 256 := by rw [hB]; exact getD_lt (levAny_lt _ _ (by simp; omega)) 0
  have HB := Lib.hid hB; have HBl := Lib.hid hBl; have HB0 := Lib.hid hB0; have HB256 := Lib.hid hB256; have Hvw := Lib.hid hvw
  obtain ⟨D, hD⟩ : ∃ D, D = levAny (altN m) wd := ⟨_, rfl⟩
  have hDb := levDec_back (altN m) wd hw1.2 (by rw [altN_length]; omega) (altN_lt m wd hw1.1)
  have hD256 := levAny_lt (altN m) wd (by rw [altN_length]; omega)
  have hDle := levAny_le (altN m) wd hw1.2
  rw [altN_length] at hDb hDle
  have hDh : 2 ≤ m → D.getD 0 0 % 2 = 1 ∧ 0 < D.length := fun h => by rw [hD]; exact altN_head m wd h hw1.1 hw1.2
  rw [← hD] at hDb hD256 hDle
  have HD := Lib.hid hD; have HDb := Lib.hid hDb; have HD256 := Lib.hid hD256; have HDle := Lib.hid hDle; have HDh := Lib.hid hDh
  obtain ⟨i0, hi, hz0, hz1, hz2⟩ := info_parts Try.infoI
  clear hq hr hn hwd hv hql hrl hm hk7 hrep hB hBl hB0 hB256 hvw hD hDb hD256 hDle hDh
  go_enter Try.func6, Try.ntmps6
  go_wp2_with (go_at_call 10; refine (known_any _).mono ?_; rintro e x1 ⟨rfl, hx1⟩)
  refine (within_any _ _ _ (by omega) (by omega) hc1 hc2).mono ?_; rw [Hr.out]; rintro e x2 ⟨rfl, rfl⟩
  go_wp2_with fail
  refine (within_any _ _ _ (by omega) (by omega) ha1 ha2).mono ?_; rw [Hq.out]; rintro e x2 ⟨rfl, rfl⟩
  go_wp2_with fail
  refine (within_any _ (P : Int) _ (by omega) (by omega) hb1 hb2).mono ?_; rw [Hv.out]; rintro e x2 ⟨rfl, rfl⟩
  go_wp2_with (at_make; refine wpList_make_g _ rfl _ _ 22 rfl x1.heap.size 3 i0 (.int .i64 0) 1 Try.underlying22 hi hz0 hz1 _ _ n rfl rfl (by rw [hz2]; omega) (by unfold maxLen; omega) (Nat.le_refl _) ?_)
  intro x2 hown0 hgrow0
  have hb0 : Below x1.heap.size x1 x2 := (Below.refl _ _).grown hgrow0 (Nat.le_refl _) (fun k h => by cases h)
  have hown1 : Hid (x2.ownsRow x1.heap.size 3 1 (.slice (some ⟨x1.heap.size, 0, none⟩) n n) n (filTo (fun _ => v) n 0)) := Lib.hid (by
    rw [filTo_zero, ← madeI]; exact hown0)
  have Hb0 := Lib.hid hb0; have Hx1 := Lib.hid hx1
  clear hown0 hgrow0 hb0 hx1
  go_wp2
  go_loopw [9] (fun i x => ∃ k : Nat, k ≤ n ∧ i = .int .i64 (k : Nat) ∧ Hid (x.ownsRow x1.heap.size 3 1 (.slice (some ⟨x1.heap.size, 0, none⟩) n n) n (filTo (fun _ => v) n k)) ∧ Hid (Below x1.heap.size x1 x)) (fun i _ => n - (intOf i).toNat)
  case atStart => exact ⟨0, Nat.zero_le _, rfl, hown1, Hb0⟩
  case round =>
    clear hown1 Hb0
    obtain ⟨k, hk, rfl, hown1, Hb0⟩ := hrel
    obtain ⟨y, hyy⟩ : ∃ x, x = wr := ⟨_, rfl⟩
    subst hyy
    by_cases hkn : k < n
    · have hcell := hown1.out.cellAt k (by rw [Nat.mul_one]; exact hkn)
      rw [filTo_at _ _ _ hkn] at hcell
      have hfr := hown1.out.frozenAt k
      have hst := (hown1.out.stored k (.int .i64 (v : Nat))).1
      have hfs := filTo_set (fun _ => v) n k hkn
      rw [hfs] at hst
      have Hst := Lib.hid hst
      have Hbs := Lib.hid (show Below x1.heap.size x1 (y.setCell ⟨x1.heap.size, k, none⟩ (.int .i64 (v : Nat))) from Hb0.out.setCell (by exact Nat.le_refl _) _)
      have e1 : (k : Int) < (n : Int) := by omega
      have e2 : (0 : Int) ≤ (k : Int) := by omega
      clear hst hfs hown1 Hb0
      go_wp2
      go_roundw
      case rel => exact ⟨k + 1, by omega, by go_num, Hst, Hbs⟩
      case measure => simp [intOf]; omega
    · have e1 : ¬ (k : Int) < (n : Int) := by omega
      have hl : y.ownsRow x1.heap.size 3 1 (.slice (some ⟨x1.heap.size, 0, none⟩) n n) n (natv (List.replicate n v)) := by
        have h := hown1.out
        rw [show k = n by omega, filTo_rep] at h; exact h
      obtain ⟨aoL, capL, hsl, -, -, hcL, -⟩ := own_nat hl
      simp only [Value.slice.injEq, true_and] at hsl
      obtain ⟨rfl, rfl⟩ := hsl
      have hE := levE_any (some ⟨x1.heap.size, 0, none⟩) n n (wd : Nat) (List.replicate n v) y (List.length_replicate ..) (by omega) (Nat.le_refl _) hcL (lt64_of hw1.2 Hvw.out)
      rw [← HB.out] at hE
      have HE := Lib.hid hE
      have Hy := Lib.hid (bmore Hx1.out Hb0.out)
      clear hE hl hcL hown1 Hb0
      go_wp2_with fail
      refine HE.out.mono ?_
      intro e x3 hg
      obtain ⟨aoB, nB, capB, rfl, HnB, hcB, hzB, hrB, hx3⟩ := hg.opened
      have hx3 := bmore Hy.out hx3
      have hB1 : 0 < nB := by have h := HBl.out; rw [HnB.out] at h; omega
      obtain ⟨bB, oB, rfl, hbB, cB⟩ := hcB.first hB1
      obtain ⟨y0, hy0⟩ : ∃ y0, y0 = B.getD 0 0 := ⟨_, rfl⟩
      rw [u8c, ← hy0] at cB
      have hy0p : y0 % 2 = 0 := by rw [hy0]; exact HB0.out
      have hy256 : y0 < 256 := by rw [hy0]; exact HB256.out
      have CB := Lib.hid cB; have HbB := Lib.hid hbB
      have i1 : bits .and .i64 (y0 : Int) 1 = 0 := by rw [i64_and1]; omega
      have Hx3 := Lib.hid hx3
      clear hg hcB hzB hrB hy0 cB hbB hx3 hy0p
      by_cases h64 : n < 64
      · have d64 : ¬ (128 : Int) ≤ 2 * (n : Int) := by omega
        have hnB : Hid (nB = 1 + k7) := Lib.hid (by have h := HBl.out; rw [HnB.out, if_pos h64] at h; exact h)
        clear h64
        go_wp2_with (at_make; refine wpList_make_g _ rfl _ _ 22 rfl x3.heap.size 3 i0 (.int .i64 0) 1 Try.underlying22 hi hz0 hz1 _ _ m rfl rfl (by rw [hz2]; omega) (by unfold maxLen; omega) (Nat.le_refl _) ?_)
        intro x4 hown0 hgrow0
        have hb0 : Below x3.heap.size x3 x4 := (Below.refl _ _).grown hgrow0 (Nat.le_refl _) (fun k h => by cases h)
        have hown1 : Hid (x4.ownsRow x3.heap.size 3 1 (.slice (some ⟨x3.heap.size, 0, none⟩) m m) m (filTo (· % 2) m 0)) := Lib.hid (by
          rw [filTo_zero, ← madeI]; exact hown0)
        have Hb0 := Lib.hid hb0
        clear hown0 hgrow0 hb0
        go_wp2
        go_loopw [14] (fun i x => ∃ k : Nat, k ≤ m ∧ i = .int .i64 (k : Nat) ∧ Hid (x.ownsRow x3.heap.size 3 1 (.slice (some ⟨x3.heap.size, 0, none⟩) m m) m (filTo (· % 2) m k)) ∧ Hid (Below x3.heap.size x3 x)) (fun i _ => m - (intOf i).toNat)
        case atStart => exact ⟨0, Nat.zero_le _, rfl, hown1, Hb0⟩
        case round =>
          clear hown1 Hb0
          obtain ⟨j, hj, rfl, hown1, Hb0⟩ := hrel
          obtain ⟨z, hzz⟩ : ∃ x, x = wr := ⟨_, rfl⟩
          subst hzz
          by_cases hjm : j < m
          · have hcell := hown1.out.cellAt j (by rw [Nat.mul_one]; exact hjm)
            rw [filTo_at _ _ _ hjm] at hcell
            have hfr := hown1.out.frozenAt j
            obtain ⟨u, hu⟩ : ∃ u, u = j % 2 := ⟨_, rfl⟩
            have hst := (hown1.out.stored j (.int .i64 (u : Nat))).1
            have hfs := filTo_set (· % 2) m j hjm
            rw [hu, hfs, ← hu] at hst
            have eu : (j : Int) % 2 = (u : Int) := by omega
            have Hst := Lib.hid hst
            have Hbs := Lib.hid (show Below x3.heap.size x3 (z.setCell ⟨x3.heap.size, j, none⟩ (.int .i64 (u : Nat))) from Hb0.out.setCell (by exact Nat.le_refl _) _)
            have e1 : (j : Int) < (m : Int) := by omega
            have e2 : (0 : Int) ≤ (j : Int) := by omega
            clear hst hfs hown1 Hb0 hu
            go_wp2
            go_roundw
            case rel => exact ⟨j + 1, by omega, by go_num, Hst, Hbs⟩
            case measure => simp [intOf]; omega
          · have e1 : ¬ (j : Int) < (m : Int) := by omega
            have hl : z.ownsRow x3.heap.size 3 1 (.slice (some ⟨x3.heap.size, 0, none⟩) m m) m (natv (altN m)) := by
              have h := hown1.out
              rw [show j = m by omega, filTo_alt] at h; exact h
            obtain ⟨aoL, capL, hsl, -, -, hcL, -⟩ := own_nat hl
            simp only [Value.slice.injEq, true_and] at hsl
            obtain ⟨rfl, rfl⟩ := hsl
            have hE := levE_any (some ⟨x3.heap.size, 0, none⟩) m m (wd : Nat) (altN m) z (altN_length m) (by omega) (Nat.le_refl _) hcL (lt64_of hw1.2 (altN_lt m wd hw1.1))
            rw [← HD.out] at hE
            have HE2 := Lib.hid hE
            have Hz := Lib.hid (bmore Hx3.out Hb0.out)
            have cB2 := (Hb0.out.cell (by exact HbB.out)).trans CB.out
            clear hE hl hown1 Hb0
            go_wp2_with fail
            refine HE2.out.mono ?_
            intro e x5 hg
            obtain ⟨aoD, nD, capD, rfl, HnD, hcD, hzD, hrD, hx5⟩ := hg.opened
            have hcL5 := hcL.at hx5
            have cB3 := Grows.cell hx5 cB2
            have hx5 := bmore Hz.out hx5
            have hnD : nD ≤ 5200 := by have := HDle.out; rw [HnD.out] at this; omega
            have hcapD := hrD.cap
            clear hg hrD cB2 hcL
            go_wp2_with fail
            refine (ldec_any aoD nD capD (m : Nat) (wd : Nat) D _ HnD.out hcD hzD hcapD HD256.out (by omega)).mono ?_
            rw [HDb.out]
            intro e x6 hg
            obtain ⟨aoX, nX, capX, rfl, HnX, -, hcX, hx6⟩ := hg.opened
            have hnX : nX = m := by rw [← HnX.out, altN_length]
            subst hnX
            have hcL6 := hcL5.at hx6
            have cB4 := Grows.cell hx6 cB3
            have hcD6 := hcD.at hx6
            have Hx6 := Lib.hid (bmore hx5 hx6)
            clear hg HnX cB3 hcL5 hx5 hx6 hcD
            have bB : ((nB : Int) == 1 + (k7 : Int)) = true := by rw [beq_iff_eq]; have := hnB.out; omega
            have iB0 : (0 : Int) < (nB : Int) := by omega
            have hib := Lib.hid (fun (y : World) h1 h2 => ints_same aoX (some ⟨x3.heap.size, 0, none⟩) nX capX nX (altN nX) y (by omega) h1 h2)
            by_cases hm2 : nX < 2
            · have dm : decide ((nX : Int) < 2) = true := decide_eq_true (by omega)
              have dm2 : (nX : Int) < 2 := by omega
              go_wp2_with fail
              refine (hib.out _ hcX hcL6).mono ?_
              rintro e x7 ⟨rfl, mm, rfl⟩
              have Hx7 := Lib.hid (below_drewN Hx6.out mm)
              go_wp2
              go_ret
              exact ⟨by simp, Hx7.out⟩
            · have dm : decide ((nX : Int) < 2) = false := decide_eq_false (by omega)
              have dm2 : ¬ (nX : Int) < 2 := by omega
              have hdh := HDh.out (by omega)
              obtain ⟨bD, oD, rfl, hbD, cD⟩ := hcD6.first (by rw [← HnD.out]; exact hdh.2)
              obtain ⟨y1, hy1⟩ : ∃ y1, y1 = D.getD 0 0 := ⟨_, rfl⟩
              rw [u8c, ← hy1] at cD
              have hy1p : y1 % 2 = 1 := by rw [hy1]; exact hdh.1
              have hy1q : y1 < 256 := by rw [hy1]; exact getD_lt HD256.out 0
              have i2 : bits .and .i64 (y1 : Int) 1 = 1 := by rw [i64_and1]; omega
              have iD0 : (0 : Int) < (nD : Int) := by have := HnD.out; omega
              clear hy1 hy1p hdh hm2
              go_wp2_with fail
              refine (hib.out _ hcX hcL6).mono ?_
              rintro e x7 ⟨rfl, mm, rfl⟩
              have Hx7 := Lib.hid (below_drewN Hx6.out mm)
              go_wp2
              go_ret
              exact ⟨by simp, Hx7.out⟩
      · have d64 : (128 : Int) ≤ 2 * (n : Int) := by omega
        have hnB : Hid (nB = 2 + k7) := Lib.hid (by have h := HBl.out; rw [HnB.out, if_neg h64] at h; exact h)
        clear h64
        go_wp2_with (at_make; refine wpList_make_g _ rfl _ _ 22 rfl x3.heap.size 3 i0 (.int .i64 0) 1 Try.underlying22 hi hz0 hz1 _ _ m rfl rfl (by rw [hz2]; omega) (by unfold maxLen; omega) (Nat.le_refl _) ?_)
        intro x4 hown0 hgrow0
        have hb0 : Below x3.heap.size x3 x4 := (Below.refl _ _).grown hgrow0 (Nat.le_refl _) (fun k h => by cases h)
        have hown1 : Hid (x4.ownsRow x3.heap.size 3 1 (.slice (some ⟨x3.heap.size, 0, none⟩) m m) m (filTo (· % 2) m 0)) := Lib.hid (by
          rw [filTo_zero, ← madeI]; exact hown0)
        have Hb0 := Lib.hid hb0
        clear hown0 hgrow0 hb0
        go_wp2
        go_loopw [14] (fun i x => ∃ k : Nat, k ≤ m ∧ i = .int .i64 (k : Nat) ∧ Hid (x.ownsRow x3.heap.size 3 1 (.slice (some ⟨x3.heap.size, 0, none⟩) m m) m (filTo (· % 2) m k)) ∧ Hid (Below x3.heap.size x3 x)) (fun i _ => m - (intOf i).toNat)
        case atStart => exact ⟨0, Nat.zero_le _, rfl, hown1, Hb0⟩
        case round =>
          clear hown1 Hb0
          obtain ⟨j, hj, rfl, hown1, Hb0⟩ := hrel
          obtain ⟨z, hzz⟩ : ∃ x, x = wr := ⟨_, rfl⟩
          subst hzz
          by_cases hjm : j < m
          · have hcell := hown1.out.cellAt j (by rw [Nat.mul_one]; exact hjm)
            rw [filTo_at _ _ _ hjm] at hcell
            have hfr := hown1.out.frozenAt j
            obtain ⟨u, hu⟩ : ∃ u, u = j % 2 := ⟨_, rfl⟩
            have hst := (hown1.out.stored j (.int .i64 (u : Nat))).1
            have hfs := filTo_set (· % 2) m j hjm
            rw [hu, hfs, ← hu] at hst
            have eu : (j : Int) % 2 = (u : Int) := by omega
            have Hst := Lib.hid hst
            have Hbs := Lib.hid (show Below x3.heap.size x3 (z.setCell ⟨x3.heap.size, j, none⟩ (.int .i64 (u : Nat))) from Hb0.out.setCell (by exact Nat.le_refl _) _)
            have e1 : (j : Int) < (m : Int) := by omega
            have e2 : (0 : Int) ≤ (j : Int) := by omega
            clear hst hfs hown1 Hb0 hu
            go_wp2
            go_roundw
            case rel => exact ⟨j + 1, by omega, by go_num, Hst, Hbs⟩
            case measure => simp [intOf]; omega
          · have e1 : ¬ (j : Int) < (m : Int) := by omega
            have hl : z.ownsRow x3.heap.size 3 1 (.slice (some ⟨x3.heap.size, 0, none⟩) m m) m (natv (altN m)) := by
              have h := hown1.out
              rw [show j = m by omega, filTo_alt] at h; exact h
            obtain ⟨aoL, capL, hsl, -, -, hcL, -⟩ := own_nat hl
            simp only [Value.slice.injEq, true_and] at hsl
            obtain ⟨rfl, rfl⟩ := hsl
            have hE := levE_any (some ⟨x3.heap.size, 0, none⟩) m m (wd : Nat) (altN m) z (altN_length m) (by omega) (Nat.le_refl _) hcL (lt64_of hw1.2 (altN_lt m wd hw1.1))
            rw [← HD.out] at hE
            have HE2 := Lib.hid hE
            have Hz := Lib.hid (bmore Hx3.out Hb0.out)
            have cB2 := (Hb0.out.cell (by exact HbB.out)).trans CB.out
            clear hE hl hown1 Hb0
            go_wp2_with fail
            refine HE2.out.mono ?_
            intro e x5 hg
            obtain ⟨aoD, nD, capD, rfl, HnD, hcD, hzD, hrD, hx5⟩ := hg.opened
            have hcL5 := hcL.at hx5
            have cB3 := Grows.cell hx5 cB2
            have hx5 := bmore Hz.out hx5
            have hnD : nD ≤ 5200 := by have := HDle.out; rw [HnD.out] at this; omega
            have hcapD := hrD.cap
            clear hg hrD cB2 hcL
            go_wp2_with fail
            refine (ldec_any aoD nD capD (m : Nat) (wd : Nat) D _ HnD.out hcD hzD hcapD HD256.out (by omega)).mono ?_
            rw [HDb.out]
            intro e x6 hg
            obtain ⟨aoX, nX, capX, rfl, HnX, -, hcX, hx6⟩ := hg.opened
            have hnX : nX = m := by rw [← HnX.out, altN_length]
            subst hnX
            have hcL6 := hcL5.at hx6
            have cB4 := Grows.cell hx6 cB3
            have hcD6 := hcD.at hx6
            have Hx6 := Lib.hid (bmore hx5 hx6)
            clear hg HnX cB3 hcL5 hx5 hx6 hcD
            have bB : ((nB : Int) == 2 + (k7 : Int)) = true := by rw [beq_iff_eq]; have := hnB.out; omega
            have iB0 : (0 : Int) < (nB : Int) := by omega
            have hib := Lib.hid (fun (y : World) h1 h2 => ints_same aoX (some ⟨x3.heap.size, 0, none⟩) nX capX nX (altN nX) y (by omega) h1 h2)
            by_cases hm2 : nX < 2
            · have dm : decide ((nX : Int) < 2) = true := decide_eq_true (by omega)
              have dm2 : (nX : Int) < 2 := by omega
              go_wp2_with fail
              refine (hib.out _ hcX hcL6).mono ?_
              rintro e x7 ⟨rfl, mm, rfl⟩
              have Hx7 := Lib.hid (below_drewN Hx6.out mm)
              go_wp2
              go_ret
              exact ⟨by simp, Hx7.out⟩
            · have dm : decide ((nX : Int) < 2) = false := decide_eq_false (by omega)
              have dm2 : ¬ (nX : Int) < 2 := by omega
              have hdh := HDh.out (by omega)
              obtain ⟨bD, oD, rfl, hbD, cD⟩ := hcD6.first (by rw [← HnD.out]; exact hdh.2)
              obtain ⟨y1, hy1⟩ : ∃ y1, y1 = D.getD 0 0 := ⟨_, rfl⟩
              rw [u8c, ← hy1] at cD
              have hy1p : y1 % 2 = 1 := by rw [hy1]; exact hdh.1
              have hy1q : y1 < 256 := by rw [hy1]; exact getD_lt HD256.out 0
              have i2 : bits .and .i64 (y1 : Int) 1 = 1 := by rw [i64_and1]; omega
              have iD0 : (0 : Int) < (nD : Int) := by have := HnD.out; omega
              clear hy1 hy1p hdh hm2
              go_wp2_with fail
              refine (hib.out _ hcX hcL6).mono ?_
              rintro e x7 ⟨rfl, mm, rfl⟩
              have Hx7 := Lib.hid (below_drewN Hx6.out mm)
              go_wp2
              go_ret
              exact ⟨by simp, Hx7.out⟩
end Go.Proofs.Ytopmcffjpbnlnaa
