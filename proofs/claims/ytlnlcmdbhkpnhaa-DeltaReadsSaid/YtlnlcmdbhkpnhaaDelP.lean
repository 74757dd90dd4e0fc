/- Chapter 12: numbers by what they differ: plain mathematics. -/
import Derived.Test.YtlnlcmdbhkpnhaaVarP
import Derived.Test.YtlnlcmdbhkpnhaaWidthP
import Derived.Test.YtlnlcmdbhkpnhaaUnpackP
namespace Go.Proofs.Ytlnlcmdbhkpnhaa
set_option linter.unusedVariables false

def inI64 (v : Int) : Prop := -9223372036854775808 ≤ v ∧ v ≤ 9223372036854775807
/-- A number with a sign as one without, and back. -/
def zigN (v : Int) : Nat := if 0 ≤ v then (2 * v).toNat else (-2 * v - 1).toNat
def zagI (u : Nat) : Int := if u % 2 = 0 then ((u / 2 : Nat) : Int) else -((u / 2 : Nat) : Int) - 1
theorem zigN_lt (v : Int) (h : inI64 v) : zigN v < 18446744073709551616 := by
  obtain ⟨h1, h2⟩ := h
  unfold zigN; split <;> omega
theorem zag_zig (v : Int) : zagI (zigN v) = v := by
  unfold zigN zagI
  split
  · rw [if_pos (by omega)]; omega
  · rw [if_neg (by omega)]; omega
theorem zagI_in (u : Nat) (h : u < 18446744073709551616) : inI64 (zagI u) := by
  unfold zagI inI64
  split <;> omega
/-- As an int holds it. -/
def w64 (n : Int) : Int := (n + 9223372036854775808) % 18446744073709551616 - 9223372036854775808
theorem w64_in (n : Int) : inI64 (w64 n) := by unfold w64 inI64; omega
theorem w64_id (n : Int) (h : inI64 n) : w64 n = n := by unfold inI64 at h; unfold w64; omega
/-- Each number less the one ahead. -/
def diffs : List Int → List Int
  | [] => []
  | [_] => []
  | a :: b :: t => w64 (b - a) :: diffs (b :: t)
theorem diffs_length : ∀ l : List Int, (diffs l).length = l.length - 1
  | [] => rfl
  | [_] => rfl
  | a :: b :: t => by simp only [diffs, List.length_cons, diffs_length (b :: t)]; omega
theorem diffs_at : ∀ (l : List Int) (i : Nat), i + 1 < l.length → (diffs l).getD i 0 = w64 (l.getD (i + 1) 0 - l.getD i 0)
  | [], i, h => by simp at h
  | [_], i, h => by simp at h
  | a :: b :: t, 0, _ => rfl
  | a :: b :: t, i + 1, h => by
    have := diffs_at (b :: t) i (by simpa using h)
    simpa [diffs] using this
theorem diffs_take (l : List Int) (k : Nat) (h : k + 1 < l.length) : (diffs l).take (k + 1) = (diffs l).take k ++ [w64 (l.getD (k + 1) 0 - l.getD k 0)] := by
  have hk : k < (diffs l).length := by rw [diffs_length]; omega
  rw [List.take_succ_eq_append_getElem hk, ← diffs_at l k h, List.getD_eq_getElem?_getD, List.getElem?_eq_getElem hk]; rfl
theorem diffs_in (l : List Int) : ∀ d ∈ diffs l, inI64 d := by
  intro d hd
  obtain ⟨i, hi, rfl⟩ := List.mem_iff_getElem.1 hd
  rw [diffs_length] at hi
  have := diffs_at l i (by omega)
  rw [List.getD_eq_getElem?_getD, List.getElem?_eq_getElem (by rw [diffs_length]; exact hi)] at this
  rw [show (diffs l)[i] = w64 (l.getD (i + 1) 0 - l.getD i 0) from this]
  exact w64_in _
/-- The least one. -/
def minTo (c : List Int) (k : Nat) : Int := (c.take k).foldl min (c.getD 0 0)
def minI (c : List Int) : Int := minTo c c.length
theorem minTo_succ (c : List Int) (k : Nat) (h : k < c.length) : minTo c (k + 1) = min (minTo c k) (c.getD k 0) := by
  unfold minTo
  rw [List.take_succ_eq_append_getElem h, List.foldl_append, List.getD_eq_getElem?_getD (i := k), List.getElem?_eq_getElem h]; rfl
theorem minTo_one (c : List Int) (h : 0 < c.length) : minTo c 1 = c.getD 0 0 := by
  rw [minTo_succ c 0 h]; simp [minTo]
theorem foldl_min_le (l : List Int) : ∀ a : Int, l.foldl min a ≤ a ∧ ∀ x ∈ l, l.foldl min a ≤ x := by
  induction l with
  | nil => intro a; simp
  | cons y t ih =>
    intro a
    obtain ⟨h1, h2⟩ := ih (min a y)
    simp only [List.foldl_cons]
    refine ⟨by omega, fun x hx => ?_⟩
    rcases List.mem_cons.1 hx with h | h
    · subst h; omega
    · exact h2 x h
theorem minI_le (c : List Int) : ∀ x ∈ c, minI c ≤ x := by
  have := (foldl_min_le (c.take c.length) (c.getD 0 0)).2
  rw [List.take_of_length_le (Nat.le_refl _)] at this
  intro x hx
  unfold minI minTo
  rw [List.take_of_length_le (Nat.le_refl _)]
  exact this x hx
theorem foldl_min_in (l : List Int) : ∀ a : Int, inI64 a → (∀ x ∈ l, inI64 x) → inI64 (l.foldl min a) := by
  induction l with
  | nil => intro a h _; exact h
  | cons y t ih =>
    intro a h hl
    simp only [List.foldl_cons]
    refine ih _ ?_ (fun x hx => hl x (List.mem_cons_of_mem _ hx))
    have := hl y (List.mem_cons_self ..)
    unfold inI64 at h this ⊢
    omega
theorem minTo_in (c : List Int) (k : Nat) (h0 : 0 < c.length) (h : ∀ x ∈ c, inI64 x) : inI64 (minTo c k) := by
  refine foldl_min_in _ _ ?_ (fun x hx => h x (List.mem_of_mem_take hx))
  rw [List.getD_eq_getElem?_getD, List.getElem?_eq_getElem h0]
  exact h _ (List.getElem_mem _)
/-- What each is above the least. -/
def overN (m d : Int) : Nat := ((d - m) % 18446744073709551616).toNat
def overs (c : List Int) : List Nat := c.map (overN (minI c))
def maxTo (m : Int) (c : List Int) (k : Nat) : Nat := ((c.take k).map (overN m)).foldl max 0
def blockW (c : List Int) : Nat := bitLen (maxTo (minI c) c c.length)
theorem overN_lt (m d : Int) : overN m d < 18446744073709551616 := by unfold overN; omega
theorem maxTo_succ (m : Int) (c : List Int) (k : Nat) (h : k < c.length) : maxTo m c (k + 1) = max (maxTo m c k) (overN m (c.getD k 0)) := by
  unfold maxTo
  rw [List.take_succ_eq_append_getElem h, List.map_append, List.foldl_append, List.getD_eq_getElem?_getD, List.getElem?_eq_getElem h]; rfl
theorem foldl_max_lt (B : Nat) (l : List Nat) : ∀ a : Nat, a < B → (∀ x ∈ l, x < B) → l.foldl max a < B := by
  induction l with
  | nil => intro a h _; exact h
  | cons y t ih =>
    intro a h hl
    simp only [List.foldl_cons]
    exact ih _ (by have := hl y (List.mem_cons_self ..); omega) (fun x hx => hl x (List.mem_cons_of_mem _ hx))
theorem maxTo_lt (m : Int) (c : List Int) (k : Nat) : maxTo m c k < 18446744073709551616 :=
  foldl_max_lt _ _ _ (by decide) (fun x hx => by obtain ⟨d, -, rfl⟩ := List.mem_map.1 hx; exact overN_lt m d)
theorem blockW_le (c : List Int) : blockW c ≤ 64 := bitLen_le64 _ (maxTo_lt _ _ _)
/-- A block's bytes. -/
def blockB (c : List Int) : List Nat := vputB (zigN (minI c)) ++ [blockW c] ++ packed (overs c) (blockW c)
/-- The first k blocks. -/
def chunk (d : List Int) (j : Nat) : List Int := (d.drop (32 * j)).take 32
def chunks (d : List Int) (k : Nat) : List (List Int) := (List.range k).map (chunk d)
theorem chunks_succ (d : List Int) (k : Nat) : chunks d (k + 1) = chunks d k ++ [chunk d k] := by simp [chunks, List.range_succ]
def nBlocks (d : List Int) : Nat := (d.length + 31) / 32
def blocksB (cs : List (List Int)) : List Nat := (cs.map blockB).flatten
theorem blocksB_snoc (cs : List (List Int)) (c : List Int) : blocksB (cs ++ [c]) = blocksB cs ++ blockB c := by simp [blocksB]
/-- Numbers' bytes. -/
def dIntsB (l : List Int) : List Nat := if l = [] then [] else vputB (zigN (l.getD 0 0)) ++ blocksB (chunks (diffs l) (nBlocks (diffs l)))
end Go.Proofs.Ytlnlcmdbhkpnhaa
