/- More words on rows of one's own. No program. -/
import Derived.Test.YtlnlcmdbhkpnhaaMem
namespace Go.Proofs.Ytlnlcmdbhkpnhaa
open Go.RowKit
set_option linter.unusedVariables false

theorem own_below {w w' : World} {base : Nat} {e : TypeId} {size : Nat} {v : Value} {n : Nat} {xs : List Value} (h : w.ownsRow base e size v n xs) (hb : Below w.heap.size w w') : w'.ownsRow base e size v n xs :=
  ⟨h.1, h.2.imp id fun ⟨g, cap, cur, h1, h2, h3, h4⟩ => ⟨g, cap, cur, h1, h2, (hb.block g (Array.getElem?_eq_some_iff.1 h3).1).trans h3, h4⟩⟩
/-- A row of bytes of one's own, opened with its room. -/
theorem own_u8c {w : World} {base : Nat} {e : TypeId} {v : Value} {n : Nat} {l : List Nat} (h : w.ownsRow base e 1 v n (u8v l)) :
    ∃ ao cap, v = .slice ao n cap ∧ l.length = n ∧ CellsAt w w.heap.size ao n (u8c l) ∧ (ao = none → n = 0 ∧ cap = 0) := by
  have hl : l.length = n := by have := h.1; simpa [u8v_length] using this
  obtain ⟨ao, cap, rfl, hc, -⟩ := own_u8 h
  refine ⟨ao, cap, rfl, hl, hc, fun e => ?_⟩
  rcases h.2 with ⟨h1, h2⟩ | ⟨g, c2, cur, h1, _⟩
  · simp only [Value.slice.injEq] at h1; exact ⟨h2, h1.2.2⟩
  · subst e; simp at h1
theorem own_u64c {w : World} {base : Nat} {e : TypeId} {v : Value} {n : Nat} {l : List Nat} (h : w.ownsRow base e 1 v n (u64v l)) :
    ∃ ao cap, v = .slice ao n cap ∧ CellsAt w w.heap.size ao n (u64c l) ∧ (ao = none → n = 0 ∧ cap = 0) := by
  obtain ⟨ao, cap, rfl, hc, -⟩ := own_u64 h
  refine ⟨ao, cap, rfl, hc, fun e => ?_⟩
  rcases h.2 with ⟨h1, h2⟩ | ⟨g, c2, cur, h1, _⟩
  · simp only [Value.slice.injEq] at h1; exact ⟨h2, h1.2.2⟩
  · subst e; simp at h1
theorem run_min_int2 {P : Program} {w : World} (ts : Array TypeId) (t : TypeId) (k : IntKind) (x y : Int) (m : Int) (hm : m = min x y) : (Builtin.min_ ts t #[.int k x, .int k y]).run P w = .ok (.int k m) w := by
  have e : m = (if y < x then y else x) := by rw [hm]; split <;> omega
  rw [e]
  simp [Builtin.min_, Builtin.min2]
theorem below_of_drew {w x : World} (h : ∃ m, x = w.drewN m) : Below w.heap.size w x := by
  obtain ⟨m, rfl⟩ := h; exact below_drewN (Below.refl _ _) m
end Go.Proofs.Ytlnlcmdbhkpnhaa
