/- Chapter 12: the law DeltaOver. -/
import Derived.Test.YtlnlcmdbhkpnhaaDelVL
import Derived.Test.YtlnlcmdbhkpnhaaBunB
namespace Go.Proofs.Ytlnlcmdbhkpnhaa
open Go.RowKit
set_option linter.unusedVariables false

theorem over_fine (n : Int) (h : inI64 n) (h1 : -2147483648 ≤ n) (h2 : n < 2147483648) : dDecM 2 (dIntsB [n, 5]) ((2 : Nat) : Int) = ([(n, ByteArray.empty), (5, ByteArray.empty)], 0) := by
  have hr : dReadM (dIntsB [n, 5]) ((2 : Nat) : Int) = ([n, 5], (dIntsB [n, 5]).length, 0) := by
    have := dReadM_back [n, 5] [] (by simp) (fun x hx => by
      simp only [List.mem_cons, List.not_mem_nil, or_false] at hx
      rcases hx with rfl | rfl
      · exact h
      · exact ⟨by decide, by decide⟩)
    rwa [List.append_nil] at this
  unfold dDecM
  rw [if_neg (by decide), hr]
  simp only [ne_eq, not_true, if_false]
  rw [if_neg (by decide), List.drop_of_length_le (Nat.le_refl _)]
  unfold numsT
  rw [if_neg, if_neg (by simp)]
  · rfl
  · unfold badNum
    simp only [decide_true, Bool.true_and, Bool.not_eq_true, List.any_eq_false, decide_eq_true_eq]
    intro x hx
    simp only [List.mem_cons, List.not_mem_nil, or_false] at hx
    omega
theorem over_not (n : Int) (h : inI64 n) (h1 : n < -2147483648 ∨ 2147483647 < n) : dDecM 2 (dIntsB [n, 5]) ((2 : Nat) : Int) = ([], 14) := by
  have hr : dReadM (dIntsB [n, 5]) ((2 : Nat) : Int) = ([n, 5], (dIntsB [n, 5]).length, 0) := by
    have := dReadM_back [n, 5] [] (by simp) (fun x hx => by
      simp only [List.mem_cons, List.not_mem_nil, or_false] at hx
      rcases hx with rfl | rfl
      · exact h
      · exact ⟨by decide, by decide⟩)
    rwa [List.append_nil] at this
  unfold dDecM
  rw [if_neg (by decide), hr]
  simp only [ne_eq, not_true, if_false]
  rw [if_neg (by decide)]
  unfold numsT
  rw [if_pos]
  unfold badNum
  simp only [decide_true, Bool.true_and, List.any_eq_true, decide_eq_true_eq]
  exact ⟨n, List.mem_cons_self .., h1⟩
theorem over_read (m : Int) (h : inI64 m) (z : List Nat) : dReadM (dIntsB [m] ++ z) ((1 : Nat) : Int) = ([m], (dIntsB [m]).length, 0) :=
  dReadM_back [m] z (by simp) (fun x hx => by
      simp only [List.mem_cons, List.not_mem_nil, or_false] at hx
      subst hx
      exact h)
theorem over_text (k : Nat) (h : k ≤ 100) : dDecM 4 (dIntsB [(k : Int)] ++ List.replicate k 0) ((1 : Nat) : Int) = ([(0, strOf (List.replicate k 0))], 0) := by
  unfold dDecM
  rw [if_neg (by decide), over_read k ⟨by omega, by omega⟩]
  simp only [ne_eq, not_true, if_false]
  rw [if_pos (by decide), List.drop_left]
  unfold dTexts
  rw [if_neg]
  · unfold cutT cutT
    rw [if_neg (by simp), Int.toNat_natCast]
    simp
  · unfold badLen
    simp only [Bool.not_eq_true, List.any_eq_false, decide_eq_true_eq]
    intro x hx
    simp only [List.mem_cons, List.not_mem_nil, or_false] at hx
    omega
theorem over_long (m : Int) (hm : inI64 m) (h : m < 0 ∨ 100 < m) (z : List Nat) : dDecM 4 (dIntsB [m] ++ z) ((1 : Nat) : Int) = ([], 5) := by
  unfold dDecM
  rw [if_neg (by decide), over_read m hm]
  simp only [ne_eq, not_true, if_false]
  rw [if_pos (by decide)]
  unfold dTexts
  rw [if_pos]
  unfold badLen
  simp only [List.any_eq_true, decide_eq_true_eq]
  exact ⟨m, List.mem_cons_self .., h⟩

theorem strOf_size' (l : List Nat) : (strOf l).size = l.length := by
  have h : (strOf l).data.toList.length = l.length := by simp only [strOf, strOfNums_data, List.length_map]
  rw [← h, Array.length_toList]; rfl
set_option maxHeartbeats 8000000 in
set_option maxRecDepth 100000 in
theorem deltaOver_walk (a0 a1 : Int) (w : World) (w0 : (Lit.int .i64 a0).wf = true) (w1 : (Lit.int .i64 a1).wf = true) :
    Calls Try.prog 10 #[.int .i64 a0, .int .i64 a1] w fun e w' => e = .returned (.bool true) ∧ Below w.heap.size w w' := by
  obtain ⟨hn1, hn2⟩ := bounds_i64 w0
  obtain ⟨hm1, hm2⟩ := bounds_i64 w1
  have hnin : inI64 a0 := ⟨hn1, hn2⟩
  obtain ⟨q, hq, hq300⟩ := modN' a1 300 (by decide)
  have Hq : Hid (a1 % 300 = (q : Int)) := Lib.hid hq
  obtain ⟨m, hm⟩ : ∃ m : Int, (q : Int) - 100 = m := ⟨_, rfl⟩
  obtain ⟨k, hk⟩ : ∃ k : Nat, (k : Int) = max m 0 := ⟨(max m 0).toNat, by omega⟩
  have hmb : -100 ≤ m ∧ m < 200 := by omega
  have hkb : k ≤ 200 := by omega
  have hmax := fun w' : World => run_max_int2 (P := Try.prog) (w := w') #[3, 3] 3 .i64 m 0 (k : Int) hk
  have hBb := dIntsB_bound [a0, 5]
  have hCb := dIntsB_bound [m]
  have hB256 := dIntsB_lt [a0, 5] (fun x hx => by
      simp only [List.mem_cons, List.not_mem_nil, or_false] at hx
      rcases hx with rfl | rfl
      · exact hnin
      · exact ⟨by decide, by decide⟩)
  have hC256 : ∀ x ∈ dIntsB [m] ++ List.replicate k 0, x < 256 := fun x hx => by
    rcases List.mem_append.1 hx with h | h
    · exact dIntsB_lt [m] (fun x hx => by
        simp only [List.mem_cons, List.not_mem_nil, or_false] at hx
        subst hx; constructor <;> omega) x h
    · have := List.eq_of_mem_replicate h; omega
  have hfine : (-2147483648 ≤ a0 ∧ a0 < 2147483648) ∨ a0 < -2147483648 ∨ (-2147483648 ≤ a0 ∧ 2147483647 < a0) := by omega
  have hD1 : ∃ (r : List Vl × Nat), dDecM 2 (dIntsB [a0, 5]) ((2 : Nat) : Int) = r ∧ ((-2147483648 ≤ a0 ∧ a0 < 2147483648) ∧ r = ([(a0, ByteArray.empty), (5, ByteArray.empty)], 0) ∨ ¬ (-2147483648 ≤ a0 ∧ a0 < 2147483648) ∧ r = ([], 14)) := by
    by_cases h : -2147483648 ≤ a0 ∧ a0 < 2147483648
    · exact ⟨_, over_fine a0 hnin h.1 h.2, .inl ⟨h, rfl⟩⟩
    · exact ⟨_, over_not a0 hnin (by omega), .inr ⟨h, rfl⟩⟩
  have hD2 : ∃ (r : List Vl × Nat), dDecM 4 (dIntsB [m] ++ List.replicate k 0) ((1 : Nat) : Int) = r ∧ (m = (k : Int) ∧ m ≤ 100 ∧ r = ([(0, strOf (List.replicate k 0))], 0) ∨ (m < 0 ∨ 100 < m) ∧ r = ([], 5)) := by
    by_cases h : 0 ≤ m ∧ m ≤ 100
    · have hmk : m = (k : Int) := by omega
      refine ⟨_, ?_, .inl ⟨hmk, h.2, rfl⟩⟩
      rw [hmk]; exact over_text k (by omega)
    · exact ⟨_, over_long m ⟨by omega, by omega⟩ (by omega) _, .inr ⟨by omega, rfl⟩⟩
  obtain ⟨r1, HD1, hr1⟩ := hD1
  obtain ⟨r2, HD2, hr2⟩ := hD2
  obtain ⟨bs, hbs⟩ : ∃ b, b = dIntsB [a0, 5] := ⟨_, rfl⟩
  obtain ⟨cs, hcs⟩ : ∃ b, b = dIntsB [m] := ⟨_, rfl⟩
  rw [← hbs] at hBb hB256 HD1
  rw [← hcs] at hCb hC256 HD2
  have Hbs := Lib.hid hbs; have Hcs := Lib.hid hcs
  have HD1 := Lib.hid HD1; have HD2 := Lib.hid HD2; have HB := Lib.hid hB256; have HC := Lib.hid hC256
  have hBl : bs.length ≤ 1000 := by simp at hBb; omega
  have hCl : cs.length ≤ 1000 := by simp at hCb; omega
  have Hnin := Lib.hid hnin
  have Hmin : Hid (inI64 m) := Lib.hid ⟨by omega, by omega⟩
  have Hhk := Lib.hid hk
  clear hq hbs hcs hB256 hC256 hBb hCb hfine hnin hk
  go_enter Try.func10, Try.ntmps10
  go_wp2_with (go_at_call 12; refine (known_any _).mono ?_; rintro e x1 ⟨rfl, hx1⟩)
  go_wp2_with fail
  refine (dInts_any _ 2 _ [a0, 5] _ rfl (by decide) (cells_alloc x1 _ _ 2 (i64c [a0, 5]) (fun i hi => by match i, hi with | 0, _ => rfl | 1, _ => rfl)) (fun x hx => by
      simp only [List.mem_cons, List.not_mem_nil, or_false] at hx
      rcases hx with rfl | rfl
      · exact Hnin.out
      · exact ⟨by decide, by decide⟩)).mono ?_
  rw [← Hbs.out]
  intro e x2 hg
  obtain ⟨aoB, nB, capB, rfl, HnB, hcB, hzB, hrB, hbB⟩ := hg.opened
  have hx2 := bmore (balloc hx1 _) hbB
  have HDec := Lib.hid (ddecode_any 2 aoB nB capB bs ((2 : Nat) : Int) x2 (by decide) (by decide) HnB.out HB.out (by have := HnB.out; omega) hrB.cap hcB hzB)
  rw [HD1.out] at HDec
  clear hg hbB hcB hzB hrB hx1
  go_wp2_with fail
  refine HDec.out.mono ?_
  intro e x3 h
  obtain ⟨aoX, nX, capX, rfl, HlX, hcX, hx3'⟩ := h.opened
  have Hx3 := Lib.hid (bmore hx2 hx3')
  clear h hx2 hx3' hcX
  have hcase : (-2147483648 ≤ a0 ∧ a0 < 2147483648 ∧ r1.2 = 0) ∨ (-2147483648 ≤ a0 ∧ ¬ a0 < 2147483648 ∧ r1.2 = 14 ∧ nX = 0) ∨ (¬ -2147483648 ≤ a0 ∧ r1.2 = 14 ∧ nX = 0) := by
    have h1 := HlX.out
    rcases hr1 with ⟨h, rfl⟩ | ⟨h, rfl⟩
    · exact .inl ⟨h.1, h.2, rfl⟩
    · simp at h1
      omega
  clear hr1
  have hcs0 : Hid (0 < cs.length) := Lib.hid (by rw [Hcs.out]; unfold dIntsB; rw [if_neg (by simp)]; simp only [List.length_append]; have := (vputB_length (zigN ([m].getD 0 0))).1; omega)
  have hcase2 : (-2147483648 ≤ a0 ∧ decide (a0 < 2147483648) = true ∧ r1.2 = 0) ∨ (-2147483648 ≤ a0 ∧ decide (a0 < 2147483648) = false ∧ r1.2 = 14 ∧ nX = 0) ∨ (¬ -2147483648 ≤ a0 ∧ r1.2 = 14 ∧ nX = 0) := by
    rcases hcase with ⟨c1, c2, c3⟩ | ⟨c1, c2, c3⟩ | h
    · exact .inl ⟨c1, decide_eq_true c2, c3⟩
    · exact .inr (.inl ⟨c1, decide_eq_false c2, c3⟩)
    · exact .inr (.inr h)
  clear hcase
  rcases hcase2 with ⟨c1, c2, c3⟩ | ⟨c1, c2, c3, rfl⟩ | ⟨c1, c3, rfl⟩
  all_goals
    rw [c3]
    go_wp2_with fail
    refine (within_any a1 300 _ (by omega) (by omega) hm1 hm2).mono ?_
    rw [Hq.out]; rintro e x4 ⟨rfl, rfl⟩
    go_wp2_with fail
    refine (dInts_any _ 1 _ [m] _ rfl (by decide) (cells_alloc x3 _ _ 1 (i64c [m]) (fun i hi => by match i, hi with | 0, _ => rfl)) (fun x hx => by
      simp only [List.mem_cons, List.not_mem_nil, or_false] at hx
      subst hx; exact Hmin.out)).mono ?_
    rw [← Hcs.out]
    intro e x5 hg
    obtain ⟨aoC, nC, capC, rfl, HnC, -, -, hrC, hbC⟩ := hg.opened
    have hx5 := bmore (balloc Hx3.out _) hbC
    have hnC : nC ≤ 1000 := by rw [← HnC.out]; exact hCl
    have hown := (hrC.2.resolve_left (by have := hcs0.out; have := HnC.out; omega)).2
    have Hx5 := Lib.hid hx5
    have hbase := hbC.size
    clear hg hrC
    go_wp2_with (at_builtin; refine wpList_append_zeros rfl (.tmp 33) (.tmp 35) rfl rfl hown (k := k) rfl (by omega) hbase ?_)
    intro v' x6 ho6 hg6
    have hx6 : Below w.heap.size w x6 := Hx5.out.grown hg6 Hx5.out.size (fun k hk => Nat.le_trans (balloc Hx3.out _).size (hown.lt k hk).1)
    obtain ⟨aoE, capE, rfl, hlE, hcE, hzE⟩ := own_u8c ho6
    have hcp : nC + k ≤ capE := by
      rcases ho6.2 with ⟨hh, h0⟩ | ⟨g, c2, cur, hh, -, -, h4, -⟩
      · omega
      · simp only [Value.slice.injEq] at hh; omega
    have HlE := Lib.hid hlE
    have Hx6 := Lib.hid hx6
    have HDec := Lib.hid (ddecode_any 4 aoE (nC + k) capE (cs ++ List.replicate k 0) ((1 : Nat) : Int) x6 (by decide) (by decide) HlE.out HC.out (by omega) hcp hcE (fun e => (hzE e).1))
    rw [HD2.out] at HDec
    clear hown hbase ho6 hg6 hlE hcE hzE hx6
    go_wp2_with fail
    refine HDec.out.mono ?_
    intro e x7 h
    obtain ⟨aoY, nY, capY, rfl, HlY, hcY, hx7'⟩ := h.opened
    have Hx7 := Lib.hid (bmore Hx6.out hx7')
    clear h hx7'
    have hr2' := hr2
    rcases hr2' with ⟨hmk, hm100, hrr⟩ | ⟨hmo, hrr⟩
    · subst hrr
      simp only at HlY hcY
      obtain rfl : nY = 1 := by have := HlY.out; simpa using this.symm
      have e1 : (0 : Int) ≤ m := by omega
      obtain ⟨b, off, rfl, hb, d0, d1⟩ := hcY.val (i := 0) (by decide)
      have HvS : Hid ((strOf (List.replicate k 0)).size = k) := Lib.hid (by rw [strOf_size']; simp)
      obtain ⟨S, hS⟩ : ∃ S, S = strOf (List.replicate k 0) := ⟨_, rfl⟩
      rw [← hS] at HvS
      have es : (S.size : Int) = m := by rw [HvS.out]; exact hmk.symm
      have d1' : x7.cell? ⟨b, off + 1, none⟩ = some (.string S) := by rw [hS]; exact d1
      clear hS d0 d1 hcY hmk hr2
      go_wp2
      go_ret
      exact ⟨rfl, Hx7.out⟩
    · subst hrr
      simp only at HlY hcY
      obtain rfl : nY = 0 := by have := HlY.out; simpa using this.symm
      clear hcY hr2
      have hmo' : ¬ (0 : Int) ≤ m ∨ ((0 : Int) ≤ m ∧ decide (m ≤ 100) = false) := by
        by_cases h : (0 : Int) ≤ m
        · exact .inr ⟨h, decide_eq_false (by omega)⟩
        · exact .inl h
      rcases hmo' with e1 | ⟨e1, e2⟩
      all_goals
        go_wp2
        go_ret
        exact ⟨rfl, Hx7.out⟩
end Go.Proofs.Ytlnlcmdbhkpnhaa
