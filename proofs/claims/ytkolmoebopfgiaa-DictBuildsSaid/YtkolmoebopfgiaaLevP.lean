/- Chapter 10: levels as bytes: plain mathematics. -/
import Derived.Test.YtkolmoebopfgiaaVarP
import Derived.Test.YtkolmoebopfgiaaCurPut
import Derived.Test.YtkolmoebopfgiaaUnpackP
namespace Go.Proofs.Ytkolmoebopfgiaa
open Go.RowKit
set_option linter.unusedVariables false

/-- How many of the first ones are the same. -/
def sameN : List Nat → Nat
  | [] => 0
  | x :: t => 1 + (t.takeWhile (· == x)).length
def isRun (l : List Nat) : Bool := decide (8 ≤ sameN l ∨ sameN l = l.length)
theorem sameN_le (l : List Nat) : sameN l ≤ l.length := by
  cases l with
  | nil => simp [sameN]
  | cons x t =>
    have := List.Sublist.length_le (List.takeWhile_sublist (l := t) (· == x))
    simp only [sameN, List.length_cons]; omega
theorem sameN_pos (l : List Nat) (h : l ≠ []) : 0 < sameN l := by
  cases l with
  | nil => exact absurd rfl h
  | cons x t => simp only [sameN]; omega
theorem takeWhile_rep (x : Nat) (t : List Nat) : t.takeWhile (· == x) = List.replicate (t.takeWhile (· == x)).length x := by
  induction t with
  | nil => rfl
  | cons y t ih =>
    by_cases h : (y == x) = true
    · rw [List.takeWhile_cons, if_pos h, List.length_cons, List.replicate_succ, ← ih]
      rw [beq_iff_eq] at h; rw [h]
    · rw [List.takeWhile_cons, if_neg h]; rfl
theorem take_sameN (l : List Nat) : l.take (sameN l) = List.replicate (sameN l) (l.getD 0 0) := by
  cases l with
  | nil => rfl
  | cons x t =>
    have h1 : t.take (t.takeWhile (· == x)).length = t.takeWhile (· == x) := by
      conv => lhs; rhs; rw [← List.takeWhile_append_dropWhile (p := (· == x)) (l := t)]
      exact List.take_left
    simp only [sameN, Nat.add_comm 1, List.take_succ_cons, List.replicate_succ]
    rw [h1]
    conv => lhs; rw [takeWhile_rep]
    rfl
/-- The n first ones are the same, the next one is not. -/
theorem sameN_of (l : List Nat) (n : Nat) (hn : 0 < n) (hl : n ≤ l.length) (h : ∀ i, i < n → l.getD i 0 = l.getD 0 0) (hx : n = l.length ∨ l.getD n 0 ≠ l.getD 0 0) : sameN l = n := by
  cases l with
  | nil => simp at hl; omega
  | cons x t =>
    obtain ⟨m, rfl⟩ : ∃ m, n = m + 1 := ⟨n - 1, by omega⟩
    simp only [sameN]
    have key : ∀ (t : List Nat) (m : Nat), m ≤ t.length → (∀ i, i < m → t.getD i 0 = x) → (m = t.length ∨ t.getD m 0 ≠ x) → (t.takeWhile (· == x)).length = m := by
      intro t
      induction t with
      | nil => intro m hm _ _; simp at hm; subst hm; rfl
      | cons y t ih =>
        intro m hm h hx
        cases m with
        | zero =>
          have hy : ¬ (y == x) = true := by
            rw [beq_iff_eq]
            rcases hx with hx | hx
            · simp at hx
            · exact hx
          rw [List.takeWhile_cons, if_neg hy]; rfl
        | succ m =>
          have hy : y = x := h 0 (by omega)
          rw [List.takeWhile_cons, if_pos (by rw [beq_iff_eq]; exact hy), List.length_cons]
          rw [ih m (by simpa using hm) (fun i hi => by have := h (i + 1) (by omega); simpa using this) (by
            rcases hx with hx | hx
            · left; simpa using hx
            · right; simpa using hx)]
    rw [key t m (by simpa using hl) (fun i hi => by have := h (i + 1) (by omega); simpa using this) (by
      rcases hx with hx | hx
      · left; simpa using hx
      · right; simpa using hx)]
    omega

/-- Eight of the first ones, noughts behind. -/
def pad8 (l : List Nat) : List Nat := l.take 8 ++ List.replicate (8 - l.length) 0
theorem pad8_length (l : List Nat) : (pad8 l).length = 8 := by simp [pad8]; omega
/-- The groups from here on, and what is left. -/
def grpsF : Nat → List Nat → List Nat × List Nat
  | 0, l => (pad8 l, l.drop 8)
  | n + 1, l => if l.drop 8 = [] ∨ isRun (l.drop 8) = true then (pad8 l, l.drop 8) else (pad8 l ++ (grpsF n (l.drop 8)).1, (grpsF n (l.drop 8)).2)
def grps (l : List Nat) : List Nat × List Nat := grpsF l.length l
theorem grpsF_fuel (n : Nat) : ∀ (m : Nat) (l : List Nat), l.length ≤ n → l.length ≤ m → grpsF n l = grpsF m l := by
  induction n with
  | zero =>
    intro m l hn hm
    have : l = [] := List.length_eq_zero_iff.1 (by omega)
    subst this
    cases m with
    | zero => rfl
    | succ m => simp [grpsF]
  | succ n ih =>
    intro m l hn hm
    cases m with
    | zero =>
      have : l = [] := List.length_eq_zero_iff.1 (by omega)
      subst this
      simp [grpsF]
    | succ m =>
      simp only [grpsF]
      split
      · rfl
      · rename_i h
        have h8 : 8 < l.length := by
          rcases Nat.lt_or_ge 8 l.length with h8 | h8
          · exact h8
          · exact absurd (.inl (List.drop_of_length_le h8)) h
        rw [ih m (l.drop 8) (by rw [List.length_drop]; omega) (by rw [List.length_drop]; omega)]
theorem grps_last (l : List Nat) (h : l.drop 8 = [] ∨ isRun (l.drop 8) = true) : grps l = (pad8 l, l.drop 8) := by
  unfold grps
  cases hl : l.length with
  | zero => rfl
  | succ n => simp only [grpsF]; rw [if_pos h]
theorem grps_more (l : List Nat) (h : ¬ (l.drop 8 = [] ∨ isRun (l.drop 8) = true)) : grps l = (pad8 l ++ (grps (l.drop 8)).1, (grps (l.drop 8)).2) := by
  have h8 : 8 < l.length := by
    rcases Nat.lt_or_ge 8 l.length with h8 | h8
    · exact h8
    · exact absurd (.inl (List.drop_of_length_le h8)) h
  have e : grps l = grpsF (l.length - 1 + 1) l := by unfold grps; rw [show l.length - 1 + 1 = l.length by omega]
  rw [e]
  simp only [grpsF]
  rw [if_neg h]
  unfold grps
  rw [grpsF_fuel (l.length - 1) (l.drop 8).length (l.drop 8) (by rw [List.length_drop]; omega) (Nat.le_refl _)]
/-- What groups are: G eights, the row's first ones; noughts behind where the row ends. -/
theorem grps_is (n : Nat) : ∀ l : List Nat, l.length ≤ n → l ≠ [] → ∃ G, (grps l).1.length = 8 * G ∧ 0 < G ∧ 8 * (G - 1) < l.length ∧ (grps l).2 = l.drop (8 * G) ∧ (grps l).1 = l.take (8 * G) ++ List.replicate (8 * G - l.length) 0 := by
  induction n with
  | zero => intro l hn h; exact absurd (List.length_eq_zero_iff.1 (by omega)) h
  | succ n ih =>
    intro l hn h
    have hpos : 0 < l.length := List.length_pos_iff.2 h
    by_cases hx : l.drop 8 = [] ∨ isRun (l.drop 8) = true
    · rw [grps_last l hx]
      exact ⟨1, pad8_length l, by omega, by omega, rfl, rfl⟩
    · have h8 : 8 < l.length := by
        rcases Nat.lt_or_ge 8 l.length with h8 | h8
        · exact h8
        · exact absurd (.inl (List.drop_of_length_le h8)) hx
      obtain ⟨G, g1, g2, g3, g4, g5⟩ := ih (l.drop 8) (by rw [List.length_drop]; omega) (fun e => hx (.inl e))
      rw [grps_more l hx]
      rw [List.length_drop] at g3
      refine ⟨G + 1, ?_, by omega, by omega, ?_, ?_⟩
      · rw [List.length_append, pad8_length, g1]; omega
      · simp only []
        rw [g4, List.drop_drop]; congr 1; omega
      · simp only []
        rw [g5]
        unfold pad8
        rw [show 8 - l.length = 0 by omega, List.replicate_zero, List.append_nil, List.length_drop, ← List.append_assoc]
        congr 1
        · rw [show 8 * (G + 1) = 8 + 8 * G by omega, List.take_add]
        · congr 1; omega
theorem grps_shorter (l : List Nat) (h : l ≠ []) : (grps l).2.length < l.length := by
  obtain ⟨G, -, h0, -, h4, -⟩ := grps_is l.length l (Nat.le_refl _) h
  have hpos : 0 < l.length := List.length_pos_iff.2 h
  rw [h4, List.length_drop]; omega

/-- A row of levels as bytes. -/
def levF (w : Nat) : Nat → List Nat → List Nat
  | 0, _ => []
  | n + 1, l => if l = [] then [] else if isRun l = true then vputB (2 * sameN l) ++ lowB (l.getD 0 0) ((w + 7) / 8) ++ levF w n (l.drop (sameN l))
      else vputB (2 * ((grps l).1.length / 8) + 1) ++ packed (grps l).1 w ++ levF w n (grps l).2
def levB (w : Nat) (l : List Nat) : List Nat := levF w l.length l
theorem levF_fuel (w n : Nat) : ∀ (m : Nat) (l : List Nat), l.length ≤ n → l.length ≤ m → levF w n l = levF w m l := by
  induction n with
  | zero =>
    intro m l hn hm
    have : l = [] := List.length_eq_zero_iff.1 (by omega)
    subst this
    cases m <;> simp [levF]
  | succ n ih =>
    intro m l hn hm
    cases m with
    | zero =>
      have : l = [] := List.length_eq_zero_iff.1 (by omega)
      subst this
      simp [levF]
    | succ m =>
      simp only [levF]
      split
      · rfl
      rename_i h
      have := sameN_pos l h
      have := grps_shorter l h
      split
      · rw [ih m _ (by rw [List.length_drop]; omega) (by rw [List.length_drop]; omega)]
      · rw [ih m _ (by omega) (by omega)]
theorem levB_nil (w : Nat) : levB w [] = [] := rfl
theorem levB_run (w : Nat) (l : List Nat) (h : l ≠ []) (hr : isRun l = true) : levB w l = vputB (2 * sameN l) ++ lowB (l.getD 0 0) ((w + 7) / 8) ++ levB w (l.drop (sameN l)) := by
  have hpos : 0 < l.length := List.length_pos_iff.2 h
  have e : levB w l = levF w (l.length - 1 + 1) l := by unfold levB; rw [show l.length - 1 + 1 = l.length by omega]
  have := sameN_pos l h
  rw [e]
  simp only [levF]
  rw [if_neg h, if_pos hr]
  unfold levB
  rw [levF_fuel w (l.length - 1) (l.drop (sameN l)).length _ (by rw [List.length_drop]; omega) (Nat.le_refl _)]
theorem levB_grp (w : Nat) (l : List Nat) (h : l ≠ []) (hr : isRun l = false) : levB w l = vputB (2 * ((grps l).1.length / 8) + 1) ++ packed (grps l).1 w ++ levB w (grps l).2 := by
  have hpos : 0 < l.length := List.length_pos_iff.2 h
  have e : levB w l = levF w (l.length - 1 + 1) l := by unfold levB; rw [show l.length - 1 + 1 = l.length by omega]
  have := grps_shorter l h
  rw [e]
  simp only [levF]
  rw [if_neg h, if_neg (by rw [hr]; decide)]
  unfold levB
  rw [levF_fuel w (l.length - 1) (grps l).2.length _ (by omega) (Nat.le_refl _)]

/-! Reading. The bytes that are left, the levels so far; a row gives both, and an error. -/
def decRun (w n : Nat) (b l : List Nat) (k : Nat) : List Nat × List Nat × Nat :=
  if k = 0 ∨ n - l.length < k then (b, l, 10) else if b.length < (w + 7) / 8 then (b, l, 8)
  else if numB (b.take ((w + 7) / 8)) / 2 ^ w ≠ 0 then (b, l, 10) else (b.drop ((w + 7) / 8), l ++ List.replicate k (numB (b.take ((w + 7) / 8))), 0)
def decGrp (w n : Nat) (b l : List Nat) (k : Nat) : List Nat × List Nat × Nat :=
  if k = 0 ∨ n < k ∨ n - l.length ≤ 8 * (k - 1) then (b, l, 10) else if b.length < k * w then (b, l, 8)
  else if ((unpacked (b.take (k * w)) (8 * k) w).drop (n - l.length)).all (· == 0) then (b.drop (k * w), l ++ (unpacked (b.take (k * w)) (8 * k) w).take (n - l.length), 0) else (b, l, 10)
def decRow (w n : Nat) (b l : List Nat) : List Nat × List Nat × Nat :=
  if (vgetM b).2.2 ≠ 0 then (b, l, (vgetM b).2.2)
  else if (vgetM b).1 % 2 = 0 then decRun w n (b.drop (vgetM b).2.1) l ((vgetM b).1 / 2) else decGrp w n (b.drop (vgetM b).2.1) l ((vgetM b).1 / 2)
def decL (w n : Nat) : Nat → List Nat → List Nat → List Nat × Nat
  | 0, _, _ => ([], 0)
  | f + 1, b, l => if l.length < n then (if (decRow w n b l).2.2 ≠ 0 then ([], (decRow w n b l).2.2) else decL w n f (decRow w n b l).1 (decRow w n b l).2.1)
      else if 0 < b.length then ([], 9) else (l, 0)
def levDec (b : List Nat) (n width : Int) : List Nat × Nat :=
  if n < 0 ∨ 4000 < n ∨ width < 0 ∨ 16 < width then ([], 1) else decL width.toNat n.toNat (n.toNat + 1) b (if width = 0 then List.replicate n.toNat 0 else [])

theorem decRun_grow (w n : Nat) (b l : List Nat) (k : Nat) (h : (decRun w n b l k).2.2 = 0) : l.length < (decRun w n b l k).2.1.length ∧ (decRun w n b l k).2.1.length ≤ n ∧ (decRun w n b l k).1.length ≤ b.length := by
  unfold decRun at h ⊢
  split
  · rename_i h1; rw [if_pos h1] at h; simp at h
  rename_i h1; rw [if_neg h1] at h
  split
  · rename_i h2; rw [if_pos h2] at h; simp at h
  rename_i h2; rw [if_neg h2] at h
  split
  · rename_i h3; rw [if_pos h3] at h; simp at h
  simp only [List.length_append, List.length_replicate, List.length_drop]; omega
theorem decGrp_grow (w n : Nat) (b l : List Nat) (k : Nat) (h : (decGrp w n b l k).2.2 = 0) : l.length < (decGrp w n b l k).2.1.length ∧ (decGrp w n b l k).2.1.length ≤ n ∧ (decGrp w n b l k).1.length ≤ b.length := by
  unfold decGrp at h ⊢
  split
  · rename_i h1; rw [if_pos h1] at h; simp at h
  rename_i h1; rw [if_neg h1] at h
  split
  · rename_i h2; rw [if_pos h2] at h; simp at h
  rename_i h2; rw [if_neg h2] at h
  split
  · simp only [List.length_append, List.length_take, unpacked_length, List.length_drop]; omega
  · rename_i h3; rw [if_neg h3] at h; simp at h
theorem decRow_grow (w n : Nat) (b l : List Nat) (h : (decRow w n b l).2.2 = 0) : l.length < (decRow w n b l).2.1.length ∧ (decRow w n b l).2.1.length ≤ n ∧ (decRow w n b l).1.length ≤ b.length := by
  unfold decRow at h ⊢
  split
  · rename_i h1; rw [if_pos h1] at h; exact absurd h h1
  rename_i h1; rw [if_neg h1] at h
  split
  · rename_i h2; rw [if_pos h2] at h
    have := decRun_grow _ _ _ _ _ h
    rw [List.length_drop] at this; omega
  · rename_i h2; rw [if_neg h2] at h
    have := decGrp_grow _ _ _ _ _ h
    rw [List.length_drop] at this; omega
theorem decL_fuel (w n : Nat) : ∀ (f f2 : Nat) (b l : List Nat), n - l.length < f → n - l.length < f2 → decL w n f b l = decL w n f2 b l
  | 0, _, _, _, h, _ => by omega
  | _ + 1, 0, _, _, _, h => by omega
  | f + 1, f2 + 1, b, l, h1, h2 => by
    simp only [decL]
    split
    · split
      · rfl
      · rename_i h3 h4
        have := decRow_grow w n b l (by omega)
        exact decL_fuel w n f f2 _ _ (by omega) (by omega)
    · rfl
end Go.Proofs.Ytkolmoebopfgiaa
