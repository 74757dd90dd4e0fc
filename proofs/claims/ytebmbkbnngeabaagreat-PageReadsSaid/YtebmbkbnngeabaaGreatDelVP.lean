/- Chapter 12: values as bytes and back: plain mathematics. -/
import Derived.Test.YtebmbkbnngeabaaGreatPlainD2
import Derived.Test.YtebmbkbnngeabaaGreatBunC
set_option linter.unusedSimpArgs false
namespace Go.Proofs.YtebmbkbnngeabaaGreat
open Go.RowKit
set_option linter.unusedVariables false
def sizesI (l : List Vl) : List Int := l.map fun v => (v.2.size : Int)
def numsI (l : List Vl) : List Int := l.map fun v => v.1
def textsB (l : List Vl) : List Nat := (l.map fun v => strB v.2).flatten
def dEncB (k : Nat) (l : List Vl) : List Nat := if k = 1 then plainB 1 l else if k = 4 then dIntsB (sizesI l) ++ textsB l else dIntsB (numsI l)
theorem sizesI_length (l : List Vl) : (sizesI l).length = l.length := by simp [sizesI]
theorem numsI_length (l : List Vl) : (numsI l).length = l.length := by simp [numsI]
theorem textsB_lt (l : List Vl) : ∀ x ∈ textsB l, x < 256 := by
 intro x hx
 obtain ⟨p, hp, hxp⟩ := List.mem_flatten.1 hx
 obtain ⟨v, -, rfl⟩ := List.mem_map.1 hp
 exact strB_lt _ x hxp
theorem textsB_le (l : List Vl) (h : ∀ v ∈ l, v.2.size ≤ 100) : (textsB l).length ≤ 100 * l.length := by
 induction l with
 | nil => simp [textsB]
 | cons v t ih =>
  have h1 := h v (List.mem_cons_self ..)
  have h2 := ih (fun u hu => h u (List.mem_cons_of_mem _ hu))
  simp only [textsB, List.map_cons, List.flatten_cons, List.length_append, List.length_cons, strB_length] at h2 ⊢
  omega
theorem textsB_snoc (l : List Vl) (v : Vl) : textsB (l ++ [v]) = textsB l ++ strB v.2 := by simp [textsB]
theorem sizesI_in (l : List Vl) (h : ∀ v ∈ l, v.2.size ≤ 100) : ∀ x ∈ sizesI l, inI64 x := by
 intro x hx
 obtain ⟨v, hv, rfl⟩ := List.mem_map.1 hx
 have := h v hv
 constructor <;> omega
theorem numsI_in (l : List Vl) (h : ∀ v ∈ l, okV v) : ∀ x ∈ numsI l, inI64 x := by
 intro x hx
 obtain ⟨v, hv, rfl⟩ := List.mem_map.1 hx
 exact ⟨(h v hv).1.1, (h v hv).1.2⟩
theorem plainB_lt' (k : Nat) (l : List Vl) : ∀ x ∈ plainB k l, x < 256 := by
 unfold plainB; split
 · exact packed_lt _ _
 · exact encs_lt _ _
def cutT : List Int → List Nat → List Vl × Nat
 | [], b => if b.length ≠ 0 then ([], 9) else ([], 0)
 | n :: t, b => if (b.length : Int) < n then ([], 8) else if (cutT t (b.drop n.toNat)).2 ≠ 0 then ([], (cutT t (b.drop n.toNat)).2) else ((0, strOf (b.take n.toNat)) :: (cutT t (b.drop n.toNat)).1, 0)
def badLen (ns : List Int) : Bool := ns.any fun n => decide (n < 0 ∨ 100 < n)
def dTexts (b : List Nat) (ns : List Int) : List Vl × Nat := if badLen ns = true then ([], 5) else cutT ns b
def badNum (kind : Int) (l : List Int) : Bool := decide (kind = 2) && l.any fun v => decide (v < -2147483648 ∨ 2147483647 < v)
def numsT (kind : Int) (b : List Nat) (l : List Int) : List Vl × Nat :=
 if badNum kind l = true then ([], 14) else if b.length ≠ 0 then ([], 9) else (l.map fun v => (v, ByteArray.empty), 0)
def dDecM (kind : Int) (b : List Nat) (n : Int) : List Vl × Nat :=
 if kind < 1 ∨ 4 < kind ∨ n < 0 ∨ 4000 < n ∨ kind = 1 then decodeM kind b n
 else if (dReadM b n).2.2 ≠ 0 then ([], (dReadM b n).2.2)
 else if kind = 4 then dTexts (b.drop (dReadM b n).2.1) (dReadM b n).1
 else numsT kind (b.drop (dReadM b n).2.1) (dReadM b n).1
def glue (acc : List Vl) (r : List Vl × Nat) : List Vl × Nat := if r.2 ≠ 0 then ([], r.2) else (acc ++ r.1, 0)
theorem glue_nil (r : List Vl × Nat) (h : r.2 ≠ 0 → r.1 = []) : glue [] r = r := by
 obtain ⟨l, e⟩ := r
 unfold glue
 by_cases he : e = 0
 · subst he; simp
 · have := h he
   simp only at this
   subst this
   simp [he]
theorem cutT_no : ∀ (ns : List Int) (b : List Nat), (cutT ns b).2 ≠ 0 → (cutT ns b).1 = []
 | [], b, h => by
  unfold cutT at h ⊢; split <;> rfl
 | n :: t, b, h => by
  unfold cutT at h ⊢
  split
  · rfl
  · split
    · rfl
    · rename_i h1 h2; rw [if_neg h1, if_neg h2] at h; exact absurd rfl h
theorem cutT_cons (n : Int) (t : List Int) (b : List Nat) (h : ¬ (b.length : Int) < n) (acc : List Vl) : glue acc (cutT (n :: t) b) = glue (acc ++ [(0, strOf (b.take n.toNat))]) (cutT t (b.drop n.toNat)) := by
 conv => lhs; unfold cutT
 rw [if_neg h]
 unfold glue
 by_cases he : (cutT t (b.drop n.toNat)).2 = 0
 · simp [he]
 · simp [he]
theorem cutT_lack (n : Int) (t : List Int) (b : List Nat) (h : (b.length : Int) < n) (acc : List Vl) : glue acc (cutT (n :: t) b) = ([], 8) := by
 unfold cutT; rw [if_pos h]; rfl
theorem cutT_done (b : List Nat) (acc : List Vl) : glue acc (cutT [] b) = if b.length ≠ 0 then ([], 9) else (acc, 0) := by
 unfold cutT glue
 by_cases h : b.length = 0
 · simp [h]
 · simp [h]
end Go.Proofs.YtebmbkbnngeabaaGreat
