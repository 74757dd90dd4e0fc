/- Chapter 11: what values are as bytes: plain mathematics. -/
import Derived.Test.YtlnlcmdbhkpnhaaBunB
import Derived.Test.YtlnlcmdbhkpnhaaCurPut
import Derived.Test.YtlnlcmdbhkpnhaaBunA
import Derived.Lib.AppendStr
import Derived.Lib.AppendZeros
namespace Go.Proofs.Ytlnlcmdbhkpnhaa
open Go.RowKit
set_option linter.unusedVariables false

def u64of (n : Int) : Nat := (n % 18446744073709551616).toNat
theorem u64of_eq (n : Int) : n % 18446744073709551616 = (u64of n : Int) := by unfold u64of; omega
theorem u64of_lt (n : Int) : u64of n < 18446744073709551616 := by unfold u64of; omega
theorem u64of_nat (n : Nat) (h : n < 18446744073709551616) : u64of n = n := by unfold u64of; omega
def strB (s : ByteArray) : List Nat := s.data.toList.map UInt8.toNat
theorem strB_length (s : ByteArray) : (strB s).length = s.size := by simp [strB]
theorem strB_lt (s : ByteArray) : ∀ x ∈ strB s, x < 256 := by
  intro x hx
  obtain ⟨b, -, rfl⟩ := List.mem_map.1 hx
  exact UInt8.toNat_lt b
theorem strCells_u8v (s : ByteArray) : Lib.strCells s = u8v (strB s) := by simp [Lib.strCells, u8v, strB]
theorem strOf_strB (s : ByteArray) : strOf (strB s) = s := by
  apply ByteArray.ext
  apply Array.ext'
  rw [strOf, strOfNums_data]
  simp [strB, Function.comp_def]
/-- One value's bytes. -/
def enc1 (k : Nat) (v : Vl) : List Nat := if k = 4 then lowB v.2.size 4 ++ strB v.2 else lowB (u64of v.1) (if k = 2 then 4 else 8)
def encs (k : Nat) (l : List Vl) : List Nat := (l.map (enc1 k)).flatten
def plainB (k : Nat) (l : List Vl) : List Nat := if k = 1 then packed (l.map fun v => u64of v.1) 1 else encs k l

theorem encs_snoc (k : Nat) (l : List Vl) (v : Vl) : encs k (l ++ [v]) = encs k l ++ enc1 k v := by simp [encs]
theorem encs_append (k : Nat) (l m : List Vl) : encs k (l ++ m) = encs k l ++ encs k m := by simp [encs]
theorem enc1_length (k : Nat) (v : Vl) : (enc1 k v).length = if k = 4 then 4 + v.2.size else if k = 2 then 4 else 8 := by
  unfold enc1
  by_cases h4 : k = 4
  · rw [if_pos h4, if_pos h4, List.length_append, lowB_length, strB_length]
  · rw [if_neg h4, if_neg h4, lowB_length]
theorem enc1_le (k : Nat) (v : Vl) (h : v.2.size ≤ 100) : (enc1 k v).length ≤ 104 := by
  rw [enc1_length]; split <;> (try split) <;> omega
theorem encs_le (k : Nat) (l : List Vl) (h : ∀ v ∈ l, v.2.size ≤ 100) : (encs k l).length ≤ 104 * l.length := by
  induction l with
  | nil => simp [encs]
  | cons v l ih =>
    have h1 := enc1_le k v (h v (List.mem_cons_self ..))
    have h2 := ih (fun u hu => h u (List.mem_cons_of_mem _ hu))
    unfold encs at h2 ⊢
    simp only [List.map_cons, List.flatten_cons, List.length_append, List.length_cons]
    omega
theorem lowB_lt (v n : Nat) : ∀ x ∈ lowB v n, x < 256 := by
  induction n with
  | zero => intro x hx; simp [lowB] at hx
  | succ n ih =>
    intro x hx
    simp only [lowB, List.mem_append, List.mem_singleton] at hx
    rcases hx with h | h
    · exact ih x h
    · omega
theorem enc1_lt (k : Nat) (v : Vl) : ∀ x ∈ enc1 k v, x < 256 := by
  intro x hx
  unfold enc1 at hx
  split at hx
  · rcases List.mem_append.1 hx with h | h
    · exact lowB_lt _ _ x h
    · exact strB_lt _ x h
  · exact lowB_lt _ _ x hx
theorem encs_lt (k : Nat) (l : List Vl) : ∀ x ∈ encs k l, x < 256 := by
  intro x hx
  obtain ⟨p, hp, hxp⟩ := List.mem_flatten.1 hx
  obtain ⟨v, -, rfl⟩ := List.mem_map.1 hp
  exact enc1_lt k v x hxp
theorem take_vl (l : List Vl) (j : Nat) (hj : j < l.length) : l.take (j + 1) = l.take j ++ [l.getD j vl0] := by
  rw [List.take_succ_eq_append_getElem hj, List.getD_eq_getElem?_getD, List.getElem?_eq_getElem hj]; rfl
/-- 'append(row, s...)', s a text, as a step of a region. -/
theorem step_append_str {ops : Array Oper} {Q : Exit → Act → World → Prop} {o : Oper} {a : Act} {w : World} {K : Act → World → Prop} {E : Prop} (hgd : o.guard = none) (s x : Operand) (ho : o.op = .call { callee := .builtin .append, args := #[s, x], argTypes := #[26, 9] })
    {base : Nat} {v : Value} {n : Nat} {l : List Nat} (hs : a.eval s = v) (hown : w.ownsRow base 5 1 v n (u8v l)) {str : ByteArray} (hx : a.eval x = .string str)
    (hb : n + str.size ≤ 140737488355328) (hbase : base ≤ w.heap.size)
    (h : ∀ v' w', w'.ownsRow base 5 1 v' (n + str.size) (u8v (l ++ strB str)) → w.grownBy w' v.ownBlock → K (a.put o.dst v') w') :
    if Region.wanted o (yielded ops a.tmps) = true then Oper.wp Try.prog o a w K Q else E := by
  have hw : Region.wanted o (yielded ops a.tmps) = true := by simp [Region.wanted, hgd]
  rw [if_pos hw]
  obtain ⟨i0, hi, hz0, hz1, hz2⟩ := info_parts Try.infoU8
  obtain ⟨v', w', hr, h2, h3, -⟩ := Lib.run_append_own_string (P := Try.prog) w base 26 9 o.type 5 i0 Try.underlying26 Try.underlying9 hi hz0 hz1 hz2 v n (u8v l) hown str (by unfold maxLen; omega) hb hbase
  refine Lib.wp_append_run w s x 26 9 ho v (.string str) hs hx v' w' hr (h v' w' ?_ h3)
  rw [strCells_u8v, u8v_append] at h2
  exact h2
/-- A fresh row of bytes below a new base. -/
theorem RowB.own {w : World} {base : Nat} {ao : Option Addr} {n cap : Nat} {l : List Nat} (h : RowB w base ao n cap l) (hn : 0 < n) : w.ownsRow base 5 1 (.slice ao n cap) n (u8v l) := by
  rcases h.2 with ⟨h0, -⟩ | ⟨-, ho⟩
  · omega
  · exact ho
end Go.Proofs.Ytlnlcmdbhkpnhaa
