/- Chapter 12: what the laws over values have in common. -/
import Derived.Test.YtlnlcmdbhkpnhaaDelHE
import Derived.Test.YtlnlcmdbhkpnhaaDelHC
import Derived.Test.YtlnlcmdbhkpnhaaL11
import Derived.Test.YtlnlcmdbhkpnhaaReads
import Derived.Test.YtlnlcmdbhkpnhaaDelL6
namespace Go.Proofs.Ytlnlcmdbhkpnhaa
open Go.RowKit
set_option linter.unusedVariables false

theorem GaveDec.opened {w w' : World} {r : List Vl × Nat} {e : Ending} (h : GaveDec w r e w') :
    ∃ ao n cap, e = .returned (.tuple #[.slice ao n cap, .int .i64 (r.2 : Nat)]) ∧ Hid (r.1.length = n) ∧ CellsAt w' w'.heap.size ao (n * 2) (vlc r.1) ∧ Below w.heap.size w w' := by
  obtain ⟨v, rfl, ho, hb⟩ := h
  obtain ⟨ao, cap, rfl, h1, h2, h3, h4, -⟩ := own_v ho
  exact ⟨ao, _, cap, rfl, Lib.hid rfl, h3, hb⟩
theorem decodeM_len (kind : Int) (b : List Nat) (n : Int) : (decodeM kind b n).1.length ≤ 4000 := by
  unfold decodeM
  split
  · simp
  split
  · unfold decB
    split
    · rename_i h1 _ h2
      rw [List.length_map, unpack_len_ok b n.toNat h2]; omega
    · simp
  · unfold decM
    simp only []
    split
    · simp only [decSt_length]; omega
    · simp
theorem cutT_len : ∀ (ns : List Int) (b : List Nat), (cutT ns b).1.length ≤ ns.length
  | [], b => by unfold cutT; split <;> simp
  | n :: t, b => by
    unfold cutT
    split
    · simp
    · split
      · simp
      · have := cutT_len t (b.drop n.toNat)
        simp only [List.length_cons]; omega
theorem dDecM_len (kind : Int) (b : List Nat) (n : Int) : (dDecM kind b n).1.length ≤ 4000 := by
  have hr := dReadM_len b n
  unfold dDecM
  split
  · exact decodeM_len kind b n
  · split
    · simp
    · split
      · unfold dTexts
        split
        · simp
        · exact Nat.le_trans (cutT_len _ _) hr
      · unfold numsT
        split
        · simp
        · split
          · simp
          · rw [List.length_map]; exact hr
/-- A block of slices of bytes, each of at most top ones, none longer than its room. -/
def RowsC (w : World) (g m top : Nat) : Prop := ∀ i, i < m → ∃ ao n cap, w.cell? ⟨g, i, none⟩ = some (.slice ao n cap) ∧ n ≤ top ∧ n ≤ cap ∧ BytesX w ao n
theorem RowsC.below {w w' : World} {g m top : Nat} (h : RowsC w g m top) (hb : Below w.heap.size w w') : RowsC w' g m top := fun i hi =>
  let ⟨ao, n, cap, h1, h2, h3, h4⟩ := h i hi; ⟨ao, n, cap, Grows.cell hb h1, h2, h3, h4.below hb⟩
theorem slices4c {w : World} {T : TypeId} {top : Nat} {a0 a1 a2 a3 : Option Addr} {n0 n1 n2 n3 c0 c1 c2 c3 : Nat} (h0 : BytesX w a0 n0) (h1 : BytesX w a1 n1) (h2 : BytesX w a2 n2) (h3 : BytesX w a3 n3)
    (t0 : n0 ≤ top) (t1 : n1 ≤ top) (t2 : n2 ≤ top) (t3 : n3 ≤ top) (k0 : n0 ≤ c0) (k1 : n1 ≤ c1) (k2 : n2 ≤ c2) (k3 : n3 ≤ c3) : RowsC (w.alloc (.cells #[.slice a0 n0 c0, .slice a1 n1 c1, .slice a2 n2 c2, .slice a3 n3 c3] T)) w.heap.size 4 top := by
  have hb := balloc (Below.refl w.heap.size w) (.cells #[.slice a0 n0 c0, .slice a1 n1 c1, .slice a2 n2 c2, .slice a3 n3 c3] T)
  intro i hi
  match i, hi with
  | 0, _ => exact ⟨a0, n0, c0, by simp [go_sem], t0, k0, h0.below hb⟩
  | 1, _ => exact ⟨a1, n1, c1, by simp [go_sem], t1, k1, h1.below hb⟩
  | 2, _ => exact ⟨a2, n2, c2, by simp [go_sem], t2, k2, h2.below hb⟩
  | 3, _ => exact ⟨a3, n3, c3, by simp [go_sem], t3, k3, h3.below hb⟩
end Go.Proofs.Ytlnlcmdbhkpnhaa
