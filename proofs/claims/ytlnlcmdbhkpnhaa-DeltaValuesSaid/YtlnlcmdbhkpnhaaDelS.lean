/- Chapter 12: what was written is read: plain mathematics. -/
import Derived.Test.YtlnlcmdbhkpnhaaBunA
namespace Go.Proofs.Ytlnlcmdbhkpnhaa
set_option linter.unusedVariables false

theorem w64_over (last m d : Int) : w64 (last + m + (overN m d : Nat)) = w64 (last + d) := by
  unfold w64 overN
  have h : 0 ≤ (d - m) % 18446744073709551616 := Int.emod_nonneg _ (by decide)
  rw [Int.toNat_of_nonneg h]
  omega
theorem w64_back (a b : Int) (h : inI64 b) : w64 (a + w64 (b - a)) = b := by
  unfold inI64 at h; unfold w64; omega
theorem accs_diffs (m : Int) : ∀ (t : List Int) (a : Int), (∀ x ∈ t, inI64 x) → accs m a ((diffs (a :: t)).map (overN m)) = t
  | [], _, _ => rfl
  | b :: t, a, h => by
    simp only [diffs, List.map_cons, accs, w64_over]
    rw [w64_back a b (h b (List.mem_cons_self ..)), accs_diffs m t b (fun x hx => h x (List.mem_cons_of_mem _ hx))]
theorem diffs_drop1 : ∀ (l : List Int) (j : Nat), diffs (l.drop j) = (diffs l).drop j
  | [], j => by simp [diffs]
  | [a], j => by cases j <;> simp [diffs]
  | a :: b :: t, 0 => rfl
  | a :: b :: t, j + 1 => by
    simp only [List.drop_succ_cons, diffs]
    exact diffs_drop1 (b :: t) j
theorem diffs_take1 : ∀ (l : List Int) (j : Nat), diffs (l.take (j + 1)) = (diffs l).take j
  | [], j => by simp [diffs]
  | [a], j => by simp [diffs]
  | a :: b :: t, 0 => by simp [diffs]
  | a :: b :: t, j + 1 => by
    simp only [List.take_succ_cons, diffs]
    rw [← diffs_take1 (b :: t) j, List.take_succ_cons]
theorem chunk_step (d : List Int) (i : Nat) : chunk d (i + 1) = chunk (d.drop 32) i := by
  unfold chunk; rw [List.drop_drop, Nat.mul_add, Nat.mul_one, Nat.add_comm]
theorem blocksB_step (d : List Int) (h : d ≠ []) : blocksB (chunks d (nBlocks d)) = blockB (d.take 32) ++ blocksB (chunks (d.drop 32) (nBlocks (d.drop 32))) := by
  have hl := List.length_pos_iff.2 h
  have e : nBlocks d = nBlocks (d.drop 32) + 1 := by unfold nBlocks; rw [List.length_drop]; omega
  rw [e]
  unfold chunks blocksB
  rw [List.range_succ_eq_map]
  simp only [List.map_cons, List.map_map, List.flatten_cons]
  congr 1
  congr 1
  refine List.map_congr_left fun i _ => ?_
  simp [chunk_step]
theorem foldl_max_ge (l : List Nat) (a : Nat) : ∀ x ∈ l, x ≤ l.foldl max a := (foldl_max_le l a).2
theorem overs_mod (c : List Int) : (overs c).map (· % 2 ^ blockW c) = overs c := by
  conv => rhs; rw [← List.map_id (overs c)]
  refine List.map_congr_left fun x hx => ?_
  refine Nat.mod_eq_of_lt (Nat.lt_of_le_of_lt ?_ (bitLen_lt _))
  unfold maxTo
  rw [List.take_of_length_le (Nat.le_refl _)]
  exact foldl_max_ge _ _ x hx
theorem zigR_put (v : Int) (h : inI64 v) (R : List Nat) : zigR (vputB (zigN v) ++ R) = (v, R, 0) := by
  unfold zigR
  rw [vgetM_put _ _ (zigN_lt v h)]
  simp [zag_zig]
theorem minI_in (c : List Int) (h0 : 0 < c.length) (h : ∀ x ∈ c, inI64 x) : inI64 (minI c) := minTo_in c _ h0 h
theorem blockR_back (c : List Int) (l : List Int) (R : List Nat) (h1 : 0 < c.length) (h2 : c.length ≤ 32) (hc : ∀ x ∈ c, inI64 x) :
    blockR (blockB c ++ R) l c.length = (R, l ++ accs (minI c) (lastI l) (overs c), 0) := by
  have hw := blockW_le c
  unfold blockR blockB
  rw [show vputB (zigN (minI c)) ++ [blockW c] ++ packed (overs c) (blockW c) ++ R = vputB (zigN (minI c)) ++ (blockW c :: (packed (overs c) (blockW c) ++ R)) by simp, zigR_put _ (minI_in c h1 hc)]
  simp only [ne_eq, not_true, if_false]
  unfold blockT
  have hol : (overs c).length = c.length := by simp [overs]
  have hpl : (packed (overs c) (blockW c)).length = packSize c.length (blockW c) := by rw [packed_length, hol]
  have hg : (blockW c :: (packed (overs c) (blockW c) ++ R)).getD 0 0 = blockW c := rfl
  have ht : ((blockW c :: (packed (overs c) (blockW c) ++ R)).drop 1).take (packSize c.length (blockW c)) = packed (overs c) (blockW c) := by
    rw [List.drop_succ_cons, List.drop_zero, ← hpl, List.take_left]
  rw [hg, ht, if_neg (by simp), if_neg (by omega), if_neg (by simp only [List.length_cons, List.length_append, hpl]; omega)]
  have hu := unpackSpec_packed (overs c) (blockW c) (by rw [hol]; omega) hw
  rw [hol, overs_mod] at hu
  rw [hu]
  simp only [ne_eq, not_true, if_false]
  rw [← hpl, Nat.add_comm, List.drop_succ_cons, List.drop_left]
theorem blocksR_back (R : List Nat) : ∀ (K : Nat) (a : Int) (rest pre : List Int), rest.length ≤ K → pre ≠ [] → lastI pre = a → (∀ x ∈ rest, inI64 x) →
    blocksR K (blocksB (chunks (diffs (a :: rest)) (nBlocks (diffs (a :: rest)))) ++ R) pre (pre.length + rest.length) = (R, pre ++ rest, 0) := by
  intro K
  induction K with
  | zero =>
    intro a rest pre hK hp ha hin
    obtain rfl : rest = [] := List.length_eq_zero_iff.1 (by omega)
    simp [blocksR, diffs, nBlocks, chunks, blocksB]
  | succ K ih =>
    intro a rest pre hK hp ha hin
    by_cases hr : rest = []
    · subst hr
      simp [blocksR, diffs, nBlocks, chunks, blocksB]
    have hr0 := List.length_pos_iff.2 hr
    have hdl : (diffs (a :: rest)).length = rest.length := by rw [diffs_length]; simp
    rw [blocksB_step _ (fun e => by rw [e] at hdl; simp at hdl; omega), List.append_assoc]
    have hcl : ((diffs (a :: rest)).take 32).length = min (pre.length + rest.length - pre.length) 32 := by rw [List.length_take, hdl]; omega
    have hin2 : ∀ x ∈ (diffs (a :: rest)).take 32, inI64 x := fun x hx => diffs_in _ x (List.mem_of_mem_take hx)
    have hb := blockR_back ((diffs (a :: rest)).take 32) pre (blocksB (chunks ((diffs (a :: rest)).drop 32) (nBlocks ((diffs (a :: rest)).drop 32))) ++ R) (by rw [hcl]; omega) (by rw [hcl]; omega) hin2
    have hacc : accs (minI ((diffs (a :: rest)).take 32)) (lastI pre) (overs ((diffs (a :: rest)).take 32)) = rest.take 32 := by
      rw [ha, ← diffs_take1 (a :: rest) 32, List.take_succ_cons]
      exact accs_diffs _ _ _ (fun x hx => hin x (List.mem_of_mem_take hx))
    rw [hacc, hcl] at hb
    unfold blocksR
    rw [if_pos (by omega), hb]
    simp only [ne_eq, not_true, if_false]
    have hlen : pre.length + rest.length = (pre ++ rest.take 32).length + (rest.drop 32).length := by simp; omega
    have hdd : (diffs (a :: rest)).drop 32 = diffs (lastI (pre ++ rest.take 32) :: rest.drop 32) := by
      rw [← diffs_drop1]
      by_cases h32 : 32 ≤ rest.length
      · have htl : (rest.take 32).length = 32 := by rw [List.length_take]; omega
        rw [lastI_append _ _ (fun e => by rw [e] at htl; simp at htl)]
        congr 1
        have h0 : (a :: rest).drop 32 = (a :: rest)[32]'(by simp; omega) :: (a :: rest).drop 33 := by rw [List.drop_eq_getElem_cons (by simp; omega)]
        rw [h0, List.drop_succ_cons]
        congr 1
        unfold lastI
        rw [htl, List.getD_eq_getElem?_getD, List.getElem?_take_of_lt (by omega), List.getElem?_eq_getElem (by omega)]
        rfl
      · rw [List.drop_eq_nil_of_le (show (a :: rest).length ≤ 32 by simp; omega), List.drop_eq_nil_of_le (show rest.length ≤ 32 by omega)]
        rfl
    rw [hlen, hdd, ih (lastI (pre ++ rest.take 32)) (rest.drop 32) (pre ++ rest.take 32) (by rw [List.length_drop]; omega) (by simp [hp]) rfl (fun x hx => hin x (List.mem_of_mem_drop hx))]
    rw [List.append_assoc, List.take_append_drop]
/-- What was written is read, whatever stands behind. -/
theorem dReadM_back (l : List Int) (R : List Nat) (hl : l.length ≤ 4000) (hin : ∀ x ∈ l, inI64 x) : dReadM (dIntsB l ++ R) (l.length : Nat) = (l, (dIntsB l).length, 0) := by
  unfold dReadM
  rw [if_neg (by omega)]
  cases l with
  | nil => simp [dIntsB]
  | cons a rest =>
    rw [if_neg (by simp; omega)]
    have e : dIntsB (a :: rest) = vputB (zigN a) ++ blocksB (chunks (diffs (a :: rest)) (nBlocks (diffs (a :: rest)))) := by unfold dIntsB; rw [if_neg (by simp)]; rfl
    have hb := blocksR_back R (a :: rest).length a rest [a] (by simp) (by simp) rfl (fun x hx => hin x (List.mem_cons_of_mem _ hx))
    rw [show [a].length + rest.length = (a :: rest).length by simp; omega] at hb
    rw [e, List.append_assoc, zigR_put a (hin a (List.mem_cons_self ..))]
    simp only [ne_eq, not_true, if_false, Int.toNat_natCast, hb]
    refine Prod.ext rfl (Prod.ext ?_ rfl)
    simp only [List.length_append]
    omega
/-- However many numbers, the bytes are few. -/
theorem blockB_bound (c : List Int) (h2 : c.length ≤ 32) : (blockB c).length ≤ 267 := by
  unfold blockB
  have h1 := (vputB_length (zigN (minI c))).2
  have hw := blockW_le c
  have hm : c.length * blockW c ≤ 32 * 64 := Nat.mul_le_mul h2 hw
  simp only [List.length_append, packed_length, packSize, overs, List.length_map, List.length_cons, List.length_nil]
  omega
theorem blocksB_bound (d : List Int) (k : Nat) : (blocksB (chunks d k)).length ≤ 267 * k := by
  induction k with
  | zero => simp [chunks, blocksB]
  | succ k ih =>
    rw [chunks_succ, blocksB_snoc, List.length_append]
    have := blockB_bound (chunk d k) (by rw [chunk_length']; omega)
    omega
theorem dIntsB_bound (l : List Int) : (dIntsB l).length ≤ 10 + 267 * ((l.length + 31) / 32) := by
  unfold dIntsB
  split
  · simp
  · rw [List.length_append]
    have h1 := (vputB_length (zigN (l.getD 0 0))).2
    have h2 := blocksB_bound (diffs l) (nBlocks (diffs l))
    have h3 : nBlocks (diffs l) ≤ (l.length + 31) / 32 := by unfold nBlocks; rw [diffs_length]; omega
    have h4 : 267 * nBlocks (diffs l) ≤ 267 * ((l.length + 31) / 32) := Nat.mul_le_mul_left _ h3
    omega
theorem blockB_lt (c : List Int) (h0 : 0 < c.length) (hc : ∀ x ∈ c, inI64 x) : ∀ x ∈ blockB c, x < 256 := by
  intro x hx
  unfold blockB at hx
  rcases List.mem_append.1 hx with h | h
  · rcases List.mem_append.1 h with h | h
    · exact vputB_lt _ (zigN_lt _ (minI_in c h0 hc)) x h
    · simp at h; have := blockW_le c; omega
  · exact packed_lt _ _ x h
end Go.Proofs.Ytlnlcmdbhkpnhaa
