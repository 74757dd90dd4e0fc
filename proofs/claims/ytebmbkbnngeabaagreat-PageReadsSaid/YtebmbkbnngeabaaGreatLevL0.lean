/- Chapter 10: what the laws over levels have in common. -/
import Derived.Test.YtebmbkbnngeabaaGreatBunB
import Derived.Test.YtebmbkbnngeabaaGreatLevI
import Derived.Test.YtebmbkbnngeabaaGreatLevF
import Derived.Test.YtebmbkbnngeabaaGreatBunA
import Derived.Test.YtebmbkbnngeabaaGreatBunC
set_option linter.unusedSimpArgs false
namespace Go.Proofs.YtebmbkbnngeabaaGreat
open Go.RowKit
set_option linter.unusedVariables false
theorem lowB_lt' (v n : Nat) : ∀ x ∈ lowB v n, x < 256 := by
 induction n with
 | zero => intro x hx; simp [lowB] at hx
 | succ n ih =>
  intro x hx
  rw [lowB] at hx
  rcases List.mem_append.1 hx with h | h
  · exact ih x h
  · simp at h; omega
theorem levB_lt (w : Nat) (m : Nat) : ∀ l : List Nat, l.length ≤ m → l.length ≤ 1000000 → ∀ x ∈ levB w l, x < 256 := by
 induction m with
 | zero => intro l hm _ x hx; rw [List.length_eq_zero_iff.1 (Nat.le_zero.1 hm)] at hx; simp [levB_nil] at hx
 | succ m ih =>
  intro l hm hl x hx
  by_cases h0 : l = []
  · subst h0; simp [levB_nil] at hx
  have hpos : 0 < l.length := List.length_pos_iff.2 h0
  cases hr : isRun l with
  | true =>
   have hs := sameN_pos l h0
   have hs2 := sameN_le l
   rw [levB_run w l h0 hr] at hx
   rcases List.mem_append.1 hx with hx | hx
   · rcases List.mem_append.1 hx with hx | hx
     · exact vputB_lt _ (by omega) x hx
     · exact lowB_lt' _ _ x hx
   · exact ih (l.drop (sameN l)) (by rw [List.length_drop]; omega) (by rw [List.length_drop]; omega) x hx
  | false =>
   obtain ⟨G, g1, g2, g3, g4, g5⟩ := grps_is l.length l (Nat.le_refl _) h0
   have hsh := grps_shorter l h0
   rw [levB_grp w l h0 hr] at hx
   rcases List.mem_append.1 hx with hx | hx
   · rcases List.mem_append.1 hx with hx | hx
     · exact vputB_lt _ (by rw [g1]; omega) x hx
     · exact packed_lt _ _ x hx
   · exact ih (grps l).2 (by omega) (by omega) x hx
theorem levAny_lt (l : List Nat) (w : Int) (hl : l.length ≤ 1000000) : ∀ x ∈ levAny l w, x < 256 := by
 unfold levAny
 split
 · simp
 · exact levB_lt _ _ l (Nat.le_refl _) hl
theorem levAny_le (l : List Nat) (w : Nat) (hw : w ≤ 16) : (levAny l w).length ≤ 26 * l.length := by
 unfold levAny
 split
 · simp
 · rw [Int.toNat_natCast]; exact levB_le w hw _ l (Nat.le_refl _)
def GaveN (w : World) (l : List Nat) (e : Ending) (w' : World) : Prop := ∃ v, e = .returned v ∧ w'.ownsRow w.heap.size 3 1 v l.length (natv l) ∧ Below w.heap.size w w'
theorem GaveN.opened {w w' : World} {l : List Nat} {e : Ending} (h : GaveN w l e w') :
 ∃ ao n cap, e = .returned (.slice ao n cap) ∧ Hid (l.length = n) ∧ n ≤ cap ∧ CellsAt w' w'.heap.size ao n (nic l) ∧ (ao = none → n = 0 ∧ cap = 0) ∧ w'.ownsRow w.heap.size 3 1 (.slice ao n cap) n (natv l) ∧ Below w.heap.size w w' := by
 obtain ⟨v, rfl, ho, hb⟩ := h
 obtain ⟨ao, cap, rfl, h1, h2, h3, h4⟩ := own_nat ho
 exact ⟨ao, _, cap, rfl, Lib.hid rfl, h2, h3, h4, ho, hb⟩
theorem GaveLev.opened {w w' : World} {r : List Nat × Nat} {e : Ending} (h : GaveLev w r e w') :
 ∃ ao n cap, e = .returned (.tuple #[.slice ao n cap, .int .i64 (r.2 : Nat)]) ∧ Hid (r.1.length = n) ∧ n ≤ cap ∧ CellsAt w' w'.heap.size ao n (nic r.1) ∧ Below w.heap.size w w' := by
 obtain ⟨v, rfl, ho, hb⟩ := h
 obtain ⟨ao, cap, rfl, h1, h2, h3, h4⟩ := own_nat ho
 exact ⟨ao, _, cap, rfl, Lib.hid rfl, h2, h3, hb⟩
theorem levDec_len (b : List Nat) (n width : Int) : (levDec b n width).1.length ≤ 4000 := by
 have key : ∀ (w n f : Nat) (b l : List Nat), l.length ≤ n → (decL w n f b l).1.length ≤ n := by
  intro w n f
  induction f with
  | zero => intro b l _; simp [decL]
  | succ f ih =>
   intro b l hl
   simp only [decL]
   split
   · split
     · simp
     · rename_i h
       have := decRow_grow w n b l (by omega)
       exact ih _ _ this.2.1
   · split
     · simp
     · exact hl
 unfold levDec
 split
 · simp
 · rename_i h
   have := key width.toNat n.toNat (n.toNat + 1) b (if width = 0 then List.replicate n.toNat 0 else []) (by split <;> simp)
   omega
end Go.Proofs.YtebmbkbnngeabaaGreat
