/- Chapter 10: what was written is read as it was: plain law. -/
import Derived.Test.YtkolmoebopfgiaaLevP
namespace Go.Proofs.Ytkolmoebopfgiaa
open Go.RowKit
set_option linter.unusedVariables false

theorem numB_lowB2 (v n : Nat) : numB (lowB v n) = v % 2 ^ (8 * n) := by
  induction n with
  | zero => simp [lowB, numB, Nat.mod_one]
  | succ n ih =>
    rw [lowB, numB_append, ih, lowB_length, show (256 : Nat) = 2 ^ 8 from rfl, ← Nat.pow_mul]
    simp only [numB, Nat.mul_zero, Nat.add_zero]
    rw [show 8 * (n + 1) = 8 * n + 8 by omega, Nat.pow_add, Nat.mod_mul]
theorem vgetM_at (v : Nat) (R : List Nat) (hv : v < 18446744073709551616) : (vgetM (vputB v ++ R)).1 = v ∧ (vgetM (vputB v ++ R)).2.2 = 0 ∧ (vputB v ++ R).drop (vgetM (vputB v ++ R)).2.1 = R := by
  rw [vgetM_put v R hv]
  exact ⟨rfl, rfl, List.drop_left⟩
/-- A run is read. -/
theorem decRow_run (w n : Nat) (hw : w ≤ 16) (k x : Nat) (R acc : List Nat) (hk : 0 < k) (hkn : acc.length + k ≤ n) (hn : n ≤ 4000) (hx : x < 2 ^ w) :
    decRow w n (vputB (2 * k) ++ lowB x ((w + 7) / 8) ++ R) acc = (R, acc ++ List.replicate k x, 0) := by
  rw [List.append_assoc]
  obtain ⟨g1, g2, g3⟩ := vgetM_at (2 * k) (lowB x ((w + 7) / 8) ++ R) (by omega)
  unfold decRow
  rw [if_neg (by rw [g2]; decide), if_pos (by rw [g1]; omega), g3, g1, show 2 * k / 2 = k by omega]
  unfold decRun
  have hl := lowB_length x ((w + 7) / 8)
  have ht : (lowB x ((w + 7) / 8) ++ R).take ((w + 7) / 8) = lowB x ((w + 7) / 8) := List.take_left' hl
  have hv : x % 2 ^ (8 * ((w + 7) / 8)) = x := Nat.mod_eq_of_lt (Nat.lt_of_lt_of_le hx (Nat.pow_le_pow_right (by decide) (by omega)))
  rw [if_neg (by omega), if_neg (by rw [List.length_append, hl]; omega), ht, numB_lowB2, hv, if_neg (by rw [Nat.div_eq_of_lt hx]; simp), List.drop_left' hl]
/-- Groups are read. -/
theorem decRow_grp (w n : Nat) (hw : w ≤ 16) (G : Nat) (g R acc : List Nat) (hG : 0 < G) (hg : g.length = 8 * G) (hGn : 8 * (G - 1) < n - acc.length) (hn : n ≤ 4000) (hx : ∀ x ∈ g, x < 2 ^ w) (hz : (g.drop (n - acc.length)).all (· == 0) = true) :
    decRow w n (vputB (2 * (g.length / 8) + 1) ++ packed g w ++ R) acc = (R, acc ++ g.take (n - acc.length), 0) := by
  rw [List.append_assoc]
  rw [hg, show 8 * G / 8 = G by omega]
  obtain ⟨g1, g2, g3⟩ := vgetM_at (2 * G + 1) (packed g w ++ R) (by omega)
  unfold decRow
  rw [if_neg (by rw [g2]; decide), if_neg (by rw [g1]; omega), g3, g1, show (2 * G + 1) / 2 = G by omega]
  unfold decGrp
  have hl : (packed g w).length = G * w := by
    rw [packed_length, hg]; unfold packSize
    rw [Nat.mul_assoc]; omega
  have ht : (packed g w ++ R).take (G * w) = packed g w := List.take_left' hl
  have hu : unpacked (packed g w) (8 * G) w = g := by
    rw [← hg, unpacked_packed]
    conv => rhs; rw [← List.map_id g]
    exact List.map_congr_left fun x h => Nat.mod_eq_of_lt (hx x h)
  rw [if_neg (by omega), if_neg (by rw [List.length_append, hl]; omega), ht, hu, if_pos hz, List.drop_left' hl]

theorem decL_levB (w n : Nat) (hw : w ≤ 16) (hn : n ≤ 4000) (m : Nat) : ∀ (rest acc : List Nat), rest.length ≤ m → (∀ x ∈ rest, x < 2 ^ w) → acc.length + rest.length = n → ∀ f, rest.length < f → decL w n f (levB w rest) acc = (acc ++ rest, 0) := by
  induction m with
  | zero =>
    intro rest acc hm _ hl f hf
    have : rest = [] := List.length_eq_zero_iff.1 (by omega)
    subst this
    obtain ⟨f, rfl⟩ : ∃ k, f = k + 1 := ⟨f - 1, by simp at hf; omega⟩
    simp only [decL, levB_nil]
    rw [if_neg (by simp at hl; omega)]
    simp
  | succ m ih =>
    intro rest acc hm hx hl f hf
    by_cases h0 : rest = []
    · subst h0
      obtain ⟨f, rfl⟩ : ∃ k, f = k + 1 := ⟨f - 1, by simp at hf; omega⟩
      simp only [decL, levB_nil]
      rw [if_neg (by simp at hl; omega)]
      simp
    have hpos : 0 < rest.length := List.length_pos_iff.2 h0
    obtain ⟨f, rfl⟩ : ∃ k, f = k + 1 := ⟨f - 1, by omega⟩
    simp only [decL]
    rw [if_pos (by omega)]
    cases hr : isRun rest with
    | true =>
      have hs := sameN_pos rest h0
      have hs2 := sameN_le rest
      have hx0 : rest.getD 0 0 < 2 ^ w := by
        rw [List.getD_eq_getElem?_getD, List.getElem?_eq_getElem hpos]; exact hx _ (List.getElem_mem _)
      have hd := decRow_run w n hw (sameN rest) (rest.getD 0 0) (levB w (rest.drop (sameN rest))) acc hs (by omega) hn hx0
      rw [levB_run w rest h0 hr, hd, if_neg (by simp)]
      simp only []
      rw [ih (rest.drop (sameN rest)) _ (by rw [List.length_drop]; omega) (fun x h => hx x (List.mem_of_mem_drop h)) (by rw [List.length_append, List.length_replicate, List.length_drop]; omega) f (by rw [List.length_drop]; omega)]
      rw [← take_sameN, List.append_assoc, List.take_append_drop]
    | false =>
      obtain ⟨G, g1, g2, g3, g4, g5⟩ := grps_is rest.length rest (Nat.le_refl _) h0
      have hsh := grps_shorter rest h0
      have hgx : ∀ x ∈ (grps rest).1, x < 2 ^ w := by
        intro x h
        rw [g5] at h
        rcases List.mem_append.1 h with h | h
        · exact hx x (List.mem_of_mem_take h)
        · rw [List.eq_of_mem_replicate h]; exact Nat.two_pow_pos w
      have hleft : n - acc.length = rest.length := by omega
      have htk : (grps rest).1.take (n - acc.length) = rest.take (8 * G) := by
        rw [hleft, g5, List.take_append]
        by_cases hc : 8 * G ≤ rest.length
        · rw [List.take_of_length_le (by rw [List.length_take]; omega), show 8 * G - rest.length = 0 by omega]; simp
        · rw [List.take_of_length_le (l := rest) (by omega), List.take_of_length_le (by omega), Nat.sub_self]; simp
      have hdp : ((grps rest).1.drop (n - acc.length)).all (· == 0) = true := by
        rw [hleft, g5, List.drop_append, List.drop_of_length_le (by rw [List.length_take]; omega), List.nil_append, List.all_eq_true]
        intro x h
        rw [List.eq_of_mem_replicate (List.mem_of_mem_drop h)]; rfl
      have hd := decRow_grp w n hw G (grps rest).1 (levB w (grps rest).2) acc g2 g1 (by omega) hn hgx hdp
      rw [levB_grp w rest h0 hr, hd, if_neg (by simp)]
      simp only []
      rw [ih (grps rest).2 _ (by omega) (fun x h => hx x (by rw [g4] at h; exact List.mem_of_mem_drop h)) (by rw [htk, g4, List.length_append, List.length_take, List.length_drop]; omega) f (by omega)]
      rw [htk, g4, List.append_assoc, List.take_append_drop]

/-- What level.Encode writes at any width. -/
def levAny (l : List Nat) (width : Int) : List Nat := if width ≤ 0 ∨ 16 < width then [] else levB width.toNat l
theorem levDec_back (l : List Nat) (w : Nat) (hw : w ≤ 16) (hn : l.length ≤ 4000) (hx : ∀ x ∈ l, x < 2 ^ w) : levDec (levAny l w) l.length w = (l, 0) := by
  unfold levDec levAny
  rw [if_neg (by omega), Int.toNat_natCast, Int.toNat_natCast]
  by_cases h0 : w = 0
  · subst h0
    rw [if_pos (by simp), if_pos (by simp)]
    have hz : l = List.replicate l.length 0 := by
      refine List.eq_replicate_iff.2 ⟨rfl, fun x h => ?_⟩
      have := hx x h
      omega
    simp only [decL]
    rw [if_neg (by simp)]
    simp only [List.length_nil, Nat.lt_irrefl, if_false]
    rw [← hz]
  · rw [if_neg (by omega), if_neg (by omega)]
    have := decL_levB w l.length hw hn l.length l [] (Nat.le_refl _) hx (by simp) (l.length + 1) (by omega)
    simpa using this
end Go.Proofs.Ytkolmoebopfgiaa
