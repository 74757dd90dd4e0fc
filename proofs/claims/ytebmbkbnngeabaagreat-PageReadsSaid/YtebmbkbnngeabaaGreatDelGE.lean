/- Chapter 12: the walk over delta.Encode. -/
import Derived.Test.YtebmbkbnngeabaaGreatBunA
import Derived.Test.YtebmbkbnngeabaaGreatDelVP
import Derived.Test.YtebmbkbnngeabaaGreatDelM
import Derived.Test.YtebmbkbnngeabaaGreatBunC
set_option linter.unusedSimpArgs false
namespace Go.Proofs.YtebmbkbnngeabaaGreat
open Go.RowKit
set_option linter.unusedVariables false
def GaveC (w : World) (l : List Nat) (e : Ending) (w' : World) : Prop :=
 ∃ ao n cap, e = .returned (.slice ao n cap) ∧ Hid (l.length = n) ∧ n ≤ cap ∧ CellsAt w' w'.heap.size ao n (u8c l) ∧ (ao = none → n = 0) ∧ Below w.heap.size w w'
theorem GaveC.of_fresh {w w' : World} {v : Value} {l : List Nat} (h : Fresh w w' 5 v (u8v l)) : GaveC w l (.returned v) w' := by
 obtain ⟨ao, n, cap, rfl, Hn, hc, hz, ho⟩ := h.u8
 have hcap : n ≤ cap := by
  rcases ho.2 with ⟨h1, h2⟩ | ⟨g, c2, cur, h1, -, -, h4, -⟩
  · omega
  · simp only [Value.slice.injEq] at h1; omega
 exact ⟨ao, n, cap, rfl, Lib.hid Hn.out.symm, hcap, hc, hz, h.2⟩
theorem GaveC.of_row {w y : World} {base : Nat} {ao : Option Addr} {n cap : Nat} {l : List Nat} (hr : RowB y base ao n cap l) (hb : Below w.heap.size w y) : GaveC w l (.returned (.slice ao n cap)) y :=
 ⟨ao, n, cap, rfl, Lib.hid hr.1, hr.cap, hr.cells, hr.nil0, hb⟩
theorem wpList_append_str {ops : Array Oper} {Q : Exit → Act → World → Prop} {rest : List Oper} {o : Oper} {a : Act} {w : World} (hgd : o.guard = none) (s x : Operand) (ho : o.op = .call { callee := .builtin .append, args := #[s, x], argTypes := #[24, 9] })
 {base : Nat} {v : Value} {n : Nat} {l : List Nat} (hs : a.eval s = v) (hown : w.ownsRow base 5 1 v n (u8v l)) {str : ByteArray} (hx : a.eval x = .string str)
 (hb : n + str.size ≤ 140737488355328) (hbase : base ≤ w.heap.size)
 (h : ∀ v' w', w'.ownsRow base 5 1 v' (n + str.size) (u8v (l ++ strB str)) → w.grownBy w' v.ownBlock → wpList Tryz.prog ops Q rest (a.put o.dst v') w') : wpList Tryz.prog ops Q (o :: rest) a w := by
 refine wpList_plain hgd fun K hK => ?_
 have hw : Region.wanted o (yielded ops a.tmps) = true := by simp [Region.wanted, hgd]
 have key := step_append_str (ops := ops) (Q := Q) (K := K) (E := True) hgd s x ho hs hown hx hb hbase (fun v' w' h1 h2 => hK _ _ (h v' w' h1 h2))
 rwa [if_pos hw] at key
theorem i64v_one (l : List Int) (x : Int) : i64v l ++ (List.range 1).map (fun _ => Value.int .i64 x) = i64v (l ++ [x]) := by simp [i64v]
theorem dEncB_lt (k : Nat) (l : List Vl) (hs : ∀ v ∈ l, v.2.size ≤ 100) (hok : ∀ v ∈ l, okV v) : ∀ x ∈ dEncB k l, x < 256 := by
 unfold dEncB
 split
 · exact plainB_lt' 1 l
 · split
   · intro x hx
     rcases List.mem_append.1 hx with h | h
     · exact dIntsB_lt _ (sizesI_in l hs) x h
     · exact textsB_lt l x h
   · exact dIntsB_lt _ (numsI_in l hok)
end Go.Proofs.YtebmbkbnngeabaaGreat
