/- The code's reader and the document's, side by side: plain law. -/
import Derived.Test.YtlnlcmdbhkpnhaaCurRef
import Derived.Test.YtlnlcmdbhkpnhaaCurPut
namespace Go.Proofs.Ytlnlcmdbhkpnhaa
open Go.RowKit
set_option linter.unusedVariables false

/-- The two readers stand alike. -/
def Rel (b l : List Nat) (at_ err : Nat) : Prop := at_ ≤ b.length ∧ (err = 0 → l = b.drop at_) ∧ (err ≠ 0 → l = [])
theorem rel_take {b l : List Nat} {at_ err : Nat} (h : Rel b l at_ err) (n : Int) :
    (rdTake l err n).1 = (rrTake b at_ err n).1 ∧ (rdTake l err n).2.2 = (rrTake b at_ err n).2.2 ∧ Rel b (rdTake l err n).2.1 (rrTake b at_ err n).2.1 (rrTake b at_ err n).2.2 := by
  obtain ⟨h1, h2, h3⟩ := h
  by_cases he : err = 0
  · obtain rfl := h2 he
    subst he
    by_cases hn : n ≤ 0
    · have e1 : rdTake (b.drop at_) 0 n = ([], b.drop at_, 0) := by unfold rdTake; rw [if_neg (by omega), show n.toNat = 0 by omega]; rfl
      have e2 : rrTake b at_ 0 n = ([], at_, 0) := by unfold rrTake; rw [if_pos (.inr hn)]
      rw [e1, e2]
      exact ⟨rfl, rfl, h1, fun _ => rfl, fun h => absurd rfl h⟩
    · by_cases hlt : (b.length : Int) - at_ < n
      · have e1 : rdTake (b.drop at_) 0 n = ([], [], 8) := by unfold rdTake; rw [if_pos (by rw [List.length_drop]; omega)]; rfl
        have e2 : rrTake b at_ 0 n = ([], at_, 8) := by unfold rrTake; rw [if_neg (by omega), if_pos hlt]
        rw [e1, e2]
        exact ⟨rfl, rfl, h1, fun h => by simp at h, fun _ => rfl⟩
      · have e1 : rdTake (b.drop at_) 0 n = ((b.drop at_).take n.toNat, b.drop (at_ + n.toNat), 0) := by unfold rdTake; rw [if_neg (by rw [List.length_drop]; omega), List.drop_drop]
        have e2 : rrTake b at_ 0 n = ((b.drop at_).take n.toNat, at_ + n.toNat, 0) := by unfold rrTake; rw [if_neg (by omega), if_neg hlt]
        rw [e1, e2]
        exact ⟨rfl, rfl, by show at_ + n.toNat ≤ b.length; omega, fun _ => rfl, fun h => absurd rfl h⟩
  · obtain rfl := h3 he
    have e2 : rrTake b at_ err n = ([], at_, err) := by unfold rrTake; rw [if_pos (.inl he)]
    have e1 : rdTake [] err n = ([], [], err) := by
      unfold rdTake
      split
      · unfold rdFail; rw [if_neg he]
      · simp
    rw [e1, e2]
    exact ⟨rfl, rfl, h1, fun h => absurd h he, fun _ => rfl⟩
theorem rdTake_neg (l : List Nat) (e : Nat) (n : Int) (h : n < 0) : rdTake l e n = rdTake l e 0 := by
  unfold rdTake; rw [show n.toNat = 0 by omega]; rfl
theorem rel_get {b l : List Nat} {at_ err : Nat} (h : Rel b l at_ err) (n : Int) :
    (rdGet l err n).1 = (rrGet b at_ err n).1 ∧ (rdGet l err n).2.2 = (rrGet b at_ err n).2.2 ∧ Rel b (rdGet l err n).2.1 (rrGet b at_ err n).2.1 (rrGet b at_ err n).2.2 := by
  obtain ⟨m, hm⟩ : ∃ m : Int, m = if n < 0 ∨ 8 < n then 0 else n := ⟨_, rfl⟩
  have h1 : rdGet l err n = (numB (rdTake l err m).1, (rdTake l err m).2) := by
    unfold rdGet
    by_cases h8 : 8 < n
    · rw [if_pos h8, show m = 0 by rw [hm, if_pos (.inr h8)]]
    · rw [if_neg h8]
      by_cases h0 : n < 0
      · rw [rdTake_neg l err n h0, show m = 0 by rw [hm, if_pos (.inl h0)]]
      · rw [show m = n by rw [hm, if_neg (by omega)]]
  have h2 : rrGet b at_ err n = (numB (rrTake b at_ err m).1, (rrTake b at_ err m).2) := by unfold rrGet; rw [← hm]
  obtain ⟨r1, r2, r3⟩ := rel_take h m
  rw [h1, h2]
  exact ⟨by rw [r1], r2, r3⟩
theorem rel_fail {b l : List Nat} {at_ err : Nat} (h : Rel b l at_ err) (c : Nat) :
    (rdFail l err c).2 = (if err = 0 then c else err) ∧ Rel b (rdFail l err c).1 at_ (if err = 0 then c else err) := by
  obtain ⟨h1, h2, h3⟩ := h
  unfold rdFail
  by_cases he : err = 0
  · rw [if_pos he, if_pos he]
    refine ⟨rfl, h1, fun hc => ?_, fun hc => ?_⟩
    · show (if c = 0 then l else []) = _
      rw [if_pos hc]; exact h2 he
    · show (if c = 0 then l else []) = _
      rw [if_neg hc]
  · rw [if_neg he, if_neg he]
    exact ⟨rfl, h1, fun h => absurd h he, fun _ => rfl⟩
theorem rel_end {b l : List Nat} {at_ err : Nat} (h : Rel b l at_ err) : rrEnd b at_ err = rdEnd l err := by
  obtain ⟨h1, h2, h3⟩ := h
  unfold rrEnd rdEnd
  by_cases he : err = 0
  · rw [h2 he, List.length_drop]
    by_cases hb : at_ < b.length
    · rw [if_pos ⟨he, hb⟩, if_pos ⟨he, by omega⟩]
    · rw [if_neg (fun h => hb h.2), if_neg (fun h => by have := h.2; omega)]
  · rw [if_neg (fun h => he h.1), if_neg (fun h => he h.1)]
/-- Both readers, in one world. -/
def Both (w : World) (g lo g2 lo2 : Nat) (b : List Nat) : Prop := ∃ l at_ err, Rd w g lo l err ∧ RRd w g2 lo2 b at_ err ∧ Rel b l at_ err
theorem rel_len {b l : List Nat} {at_ err : Nat} (h : Rel b l at_ err) : l.length ≤ b.length := by
  by_cases he : err = 0
  · rw [h.2.1 he, List.length_drop]; omega
  · rw [h.2.2 he]; simp
theorem rel_lt {b l : List Nat} {at_ err : Nat} (h : Rel b l at_ err) (h256 : ∀ x ∈ b, x < 256) : ∀ x ∈ l, x < 256 := by
  by_cases he : err = 0
  · rw [h.2.1 he]; exact fun x hx => h256 x (List.mem_of_mem_drop hx)
  · rw [h.2.2 he]; simp

end Go.Proofs.Ytlnlcmdbhkpnhaa
