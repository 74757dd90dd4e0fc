/- Chapter 12: reading: plain mathematics. -/
import Derived.Test.YtlnlcmdbhkpnhaaDelP
namespace Go.Proofs.Ytlnlcmdbhkpnhaa
set_option linter.unusedVariables false

/-- A number with a sign: it, what is left, the error. -/
def zigR (b : List Nat) : Int × List Nat × Nat :=
  if (vgetM b).2.2 ≠ 0 then (0, b, (vgetM b).2.2) else (zagI (vgetM b).1, b.drop (vgetM b).2.1, 0)
/-- The numbers that steps lead to. -/
def accs (least : Int) : Int → List Nat → List Int
  | _, [] => []
  | last, v :: t => w64 (last + least + (v : Int)) :: accs least (w64 (last + least + (v : Int))) t
def lastI (l : List Int) : Int := l.getD (l.length - 1) 0
theorem lastI_snoc (l : List Int) (x : Int) : lastI (l ++ [x]) = x := by simp [lastI, List.getD_eq_getElem?_getD]
theorem lastI_append (l m : List Int) (h : m ≠ []) : lastI (l ++ m) = lastI m := by
  have := List.length_pos_iff.2 h
  simp only [lastI, List.getD_eq_getElem?_getD, List.length_append]
  rw [List.getElem?_append_right (by omega), show l.length + m.length - 1 - l.length = m.length - 1 by omega]
theorem accs_length (least : Int) (vs : List Nat) : ∀ last, (accs least last vs).length = vs.length := by
  induction vs with
  | nil => intro _; rfl
  | cons v t ih => intro last; simp [accs, ih]
theorem accs_snoc (least : Int) (vs : List Nat) (v : Nat) : ∀ last, accs least last (vs ++ [v]) = accs least last vs ++ [w64 ((if vs = [] then last else lastI (accs least last vs)) + least + (v : Int))] := by
  induction vs with
  | nil => intro _; rfl
  | cons a t ih =>
    intro last
    simp only [List.cons_append, accs, ih, reduceCtorEq, if_false]
    congr 3
    by_cases ht : t = []
    · subst ht; rfl
    · rw [if_neg ht]
      have h1 : accs least (w64 (last + least + (a : Int))) t ≠ [] := fun e => ht (List.length_eq_zero_iff.1 (by rw [← accs_length least t, e]; rfl))
      unfold lastI
      obtain ⟨y, r, e⟩ := List.exists_cons_of_ne_nil h1
      rw [e]
      simp [List.getD_eq_getElem?_getD]
/-- The row when k of the steps are done. -/
def accTo (least : Int) (l : List Int) (vs : List Nat) (k : Nat) : List Int := l ++ accs least (lastI l) (vs.take k)
theorem accTo_zero (least : Int) (l : List Int) (vs : List Nat) : accTo least l vs 0 = l := by simp [accTo, accs]
theorem accTo_length (least : Int) (l : List Int) (vs : List Nat) (k : Nat) (h : k ≤ vs.length) : (accTo least l vs k).length = l.length + k := by
  simp only [accTo, List.length_append, accs_length, List.length_take]; omega
theorem accTo_succ (least : Int) (l : List Int) (vs : List Nat) (k : Nat) (hl : l ≠ []) (h : k < vs.length) : accTo least l vs (k + 1) = accTo least l vs k ++ [w64 (lastI (accTo least l vs k) + least + (vs.getD k 0 : Nat))] := by
  unfold accTo
  rw [List.take_succ_eq_append_getElem h, accs_snoc, ← List.append_assoc, List.getD_eq_getElem?_getD, List.getElem?_eq_getElem h]
  congr 3
  by_cases hk : vs.take k = []
  · rw [if_pos hk, hk]; simp [accs]
  · rw [if_neg hk]
    have h1 : accs least (lastI l) (vs.take k) ≠ [] := fun e => hk (List.length_eq_zero_iff.1 (by rw [← accs_length least (vs.take k), e]; rfl))
    rw [lastI_append _ _ h1]; rfl
theorem accTo_all (least : Int) (l : List Int) (vs : List Nat) : accTo least l vs vs.length = l ++ accs least (lastI l) vs := by unfold accTo; rw [List.take_length]
/-- A block behind its least: what is left, the numbers, the error. -/
def blockT (least : Int) (b : List Nat) (l : List Int) (n : Nat) : List Nat × List Int × Nat :=
  if b.length = 0 then (b, l, 8) else if 64 < b.getD 0 0 then (b, l, 10)
  else if b.length - 1 < packSize n (b.getD 0 0) then (b, l, 8)
  else if (unpackSpec ((b.drop 1).take (packSize n (b.getD 0 0))) n (b.getD 0 0 : Nat)).2 ≠ 0 then (b, l, (unpackSpec ((b.drop 1).take (packSize n (b.getD 0 0))) n (b.getD 0 0 : Nat)).2)
  else (b.drop (1 + packSize n (b.getD 0 0)), l ++ accs least (lastI l) (unpackSpec ((b.drop 1).take (packSize n (b.getD 0 0))) n (b.getD 0 0 : Nat)).1, 0)
def blockR (b : List Nat) (l : List Int) (n : Nat) : List Nat × List Int × Nat :=
  if (zigR b).2.2 ≠ 0 then ((zigR b).2.1, l, (zigR b).2.2) else blockT (zigR b).1 (zigR b).2.1 l n
/-- All that follows: what is left, the numbers, the error. -/
def blocksR : Nat → List Nat → List Int → Nat → List Nat × List Int × Nat
  | 0, b, l, _ => (b, l, 0)
  | k + 1, b, l, n => if l.length < n then (if (blockR b l (min (n - l.length) 32)).2.2 ≠ 0 then blockR b l (min (n - l.length) 32) else blocksR k (blockR b l (min (n - l.length) 32)).1 (blockR b l (min (n - l.length) 32)).2.1 n) else (b, l, 0)
/-- What Read answers: the numbers, how many bytes, the error. -/
def dReadM (b : List Nat) (n : Int) : List Int × Nat × Nat :=
  if n < 0 ∨ 4000 < n then ([], 0, 1) else if n = 0 then ([], 0, 0)
  else if (zigR b).2.2 ≠ 0 then ([], 0, (zigR b).2.2)
  else if (blocksR n.toNat (zigR b).2.1 [(zigR b).1] n.toNat).2.2 ≠ 0 then ([], 0, (blocksR n.toNat (zigR b).2.1 [(zigR b).1] n.toNat).2.2)
  else ((blocksR n.toNat (zigR b).2.1 [(zigR b).1] n.toNat).2.1, b.length - (blocksR n.toNat (zigR b).2.1 [(zigR b).1] n.toNat).1.length, 0)
end Go.Proofs.Ytlnlcmdbhkpnhaa
