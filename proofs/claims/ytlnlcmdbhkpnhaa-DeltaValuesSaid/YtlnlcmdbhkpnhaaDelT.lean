/- Chapter 12: a block as the document reads it: plain mathematics. -/
import Derived.Test.YtlnlcmdbhkpnhaaBunA
import Derived.Test.YtlnlcmdbhkpnhaaVarR
namespace Go.Proofs.Ytlnlcmdbhkpnhaa
set_option linter.unusedVariables false

def rsA (b : List Nat) (at_ : Nat) : Nat × Nat × Nat := rvRead b at_ 0
def rsB (b : List Nat) (at_ : Nat) : Nat × Nat × Nat := rrGet b (rsA b at_).2.1 (rsA b at_).2.2 1
def rsE (b : List Nat) (at_ : Nat) : Nat := if 64 < (rsB b at_).1 then (if (rsB b at_).2.2 = 0 then 10 else (rsB b at_).2.2) else (rsB b at_).2.2
def rsC (b : List Nat) (at_ k : Nat) : List Nat × Nat × Nat := rrTake b (rsB b at_).2.1 (rsE b at_) ((packSize k (rsB b at_).1 : Nat) : Int)
theorem rrGet_err' (b : List Nat) (at_ e : Nat) (n : Int) (h : e ≠ 0) : rrGet b at_ e n = (0, at_, e) := by
  unfold rrGet rrTake
  rw [if_pos (.inl h)]; rfl
theorem rrGet_cut1 (b : List Nat) (at_ : Nat) (ha : at_ ≤ b.length) (h : (b.drop at_).length < 1) : rrGet b at_ 0 1 = (0, at_, 8) := by
  rw [List.length_drop] at h
  unfold rrGet rrTake
  rw [if_neg (show ¬ ((1 : Int) < 0 ∨ 8 < (1 : Int)) by omega), if_neg (by omega), if_pos (by omega)]; rfl
theorem rrGet_ok1 (b : List Nat) (at_ : Nat) (h : 1 ≤ (b.drop at_).length) : rrGet b at_ 0 1 = ((b.drop at_).getD 0 0, at_ + 1, 0) := by
  obtain ⟨x, t, e⟩ := List.exists_cons_of_length_pos (show 0 < (b.drop at_).length by omega)
  rw [List.length_drop] at h
  unfold rrGet rrTake
  rw [if_neg (show ¬ ((1 : Int) < 0 ∨ 8 < (1 : Int)) by omega), if_neg (by omega), if_neg (by omega), e]
  simp [numB]
theorem rsA_le (b : List Nat) (at_ : Nat) (h : at_ ≤ b.length) : (rsA b at_).2.1 ≤ b.length ∧ (rsA b at_).1 < 18446744073709551616 := by
  unfold rsA rvRead
  have h1 := vgetM_n (b.drop at_)
  have h2 := vgetM_lt (b.drop at_)
  rw [List.length_drop] at h1
  split
  · exact ⟨h, by simp⟩
  split
  · exact ⟨h, by simp⟩
  · exact ⟨by simp only []; omega, h2⟩
theorem rsB_le (b : List Nat) (at_ : Nat) (h : at_ ≤ b.length) (h256 : ∀ x ∈ b, x < 256) : (rsB b at_).2.1 ≤ b.length ∧ (rsB b at_).1 < 256 := by
  have hA := (rsA_le b at_ h).1
  unfold rsB
  by_cases he : (rsA b at_).2.2 = 0
  · rw [he]
    rcases Nat.lt_or_ge ((b.drop (rsA b at_).2.1).length) 1 with h1 | h1
    · rw [rrGet_cut1 _ _ hA h1]; exact ⟨hA, by simp⟩
    · rw [rrGet_ok1 _ _ h1]
      rw [List.length_drop] at h1
      refine ⟨by simp only []; omega, ?_⟩
      simp only [List.getD_eq_getElem?_getD, List.getElem?_drop]
      rw [List.getElem?_eq_getElem (by omega)]
      exact h256 _ (List.getElem_mem _)
  · rw [rrGet_err' _ _ _ _ he]; exact ⟨hA, by simp⟩
theorem rsC_le (b : List Nat) (at_ k : Nat) (h : at_ ≤ b.length) (h256 : ∀ x ∈ b, x < 256) : (rsC b at_ k).2.1 ≤ b.length ∧ (∀ x ∈ (rsC b at_ k).1, x < 256) ∧ (rsC b at_ k).1.length ≤ b.length := by
  have hB := (rsB_le b at_ h h256).1
  unfold rsC rrTake
  split
  · exact ⟨hB, fun x hx => by simp at hx, by simp⟩
  split
  · exact ⟨hB, fun x hx => by simp at hx, by simp⟩
  · rename_i h1 h2
    exact ⟨by simp only []; omega, fun x hx => h256 x (List.mem_of_mem_drop (List.mem_of_mem_take hx)), by simp only [List.length_take, List.length_drop]; omega⟩
theorem zigR_rs (b : List Nat) (at_ : Nat) : zigR (b.drop at_) = if (rsA b at_).2.2 ≠ 0 then (0, b.drop at_, (rsA b at_).2.2) else (zagI (rsA b at_).1, b.drop (rsA b at_).2.1, 0) := by
  unfold zigR rsA rvRead
  simp only [ne_eq, not_true_eq_false, if_false]
  by_cases h : (vgetM (b.drop at_)).2.2 = 0
  · simp [h, List.drop_drop]
  · simp [h]
theorem rs_block (b : List Nat) (at_ k : Nat) (l : List Int) (h : at_ ≤ b.length) (h256 : ∀ x ∈ b, x < 256) :
    ((rsC b at_ k).2.2 ≠ 0 → (blockR (b.drop at_) l k).2.2 = (rsC b at_ k).2.2) ∧
    ((rsC b at_ k).2.2 = 0 → (rsB b at_).1 ≤ 64 ∧
      ((unpackSpec (rsC b at_ k).1 k (rsB b at_).1).2 ≠ 0 → (blockR (b.drop at_) l k).2.2 = (unpackSpec (rsC b at_ k).1 k (rsB b at_).1).2) ∧
      ((unpackSpec (rsC b at_ k).1 k (rsB b at_).1).2 = 0 → blockR (b.drop at_) l k = (b.drop (rsC b at_ k).2.1, l ++ accs (zagI (rsA b at_).1) (lastI l) (unpackSpec (rsC b at_ k).1 k (rsB b at_).1).1, 0))) := by
  have hA := (rsA_le b at_ h).1
  have hz := zigR_rs b at_
  obtain ⟨A, hAe⟩ : ∃ A, A = rsA b at_ := ⟨_, rfl⟩
  unfold blockR
  rw [hz]
  unfold rsC rsE rsB
  rw [← hAe] at hA ⊢
  obtain ⟨v1, at1, err1⟩ := A
  simp only at hA ⊢
  by_cases he : err1 = 0
  · subst he
    simp only [ne_eq, not_true, if_false]
    unfold blockT
    rcases Nat.lt_or_ge ((b.drop at1).length) 1 with h1 | h1
    · rw [rrGet_cut1 _ _ hA h1]
      unfold rrTake
      rw [if_pos (show (b.drop at1).length = 0 by omega)]
      simp
    · rw [rrGet_ok1 _ _ h1]
      simp only
      rw [if_neg (show ¬ (b.drop at1).length = 0 by omega)]
      obtain ⟨wd, hwd⟩ : ∃ wd, wd = (b.drop at1).getD 0 0 := ⟨_, rfl⟩
      rw [← hwd]
      by_cases h64 : 64 < wd
      · simp only [if_pos h64]
        unfold rrTake
        simp
      · rw [if_neg h64, if_neg h64]
        have h1' := h1
        rw [List.length_drop] at h1
        by_cases hS : (b.drop at1).length - 1 < packSize k wd
        · rw [if_pos hS]
          rw [List.length_drop] at hS
          unfold rrTake
          rw [if_neg (by omega), if_pos (by omega)]
          simp
        · rw [if_neg hS]
          rw [List.length_drop] at hS
          have hT : rrTake b (at1 + 1) 0 ((packSize k wd : Nat) : Int) = (((b.drop at1).drop 1).take (packSize k wd), at1 + (1 + packSize k wd), 0) := by
            unfold rrTake
            by_cases h0 : packSize k wd = 0
            · rw [if_pos (.inr (by omega)), h0]; simp
            · rw [if_neg (by omega), if_neg (by omega), Int.toNat_natCast, List.drop_drop, Nat.add_assoc]
          rw [hT]
          refine ⟨fun h => absurd rfl h, fun _ => ⟨by omega, fun hu => ?_, fun hu => ?_⟩⟩
          · simp only at hu ⊢
            rw [if_pos hu]
          · simp only at hu ⊢
            rw [if_neg (fun h => h hu), List.drop_drop]
  · rw [if_pos he]
    simp only [ne_eq, he, not_false_eq_true, if_true]
    rw [rrGet_err' _ _ _ _ he]
    unfold rrTake
    simp [he]
theorem unpackSpec_no (b : List Nat) (n width : Int) (h : (unpackSpec b n width).2 ≠ 0) : (unpackSpec b n width).1 = [] := by
  unfold unpackSpec at h ⊢
  repeat' split at h
  all_goals first | (exact absurd rfl h) | skip
  · rename_i h1; rw [if_pos h1]
  · rename_i h1 h2; rw [if_neg h1, if_pos h2]
  · rename_i h1 h2 h3; rw [if_neg h1, if_neg h2, if_pos h3]
  · rename_i h1 h2 h3 h4; rw [if_neg h1, if_neg h2, if_neg h3, if_neg h4]
end Go.Proofs.Ytlnlcmdbhkpnhaa
