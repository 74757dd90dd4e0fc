/- 'append(row, make([]T, k)...)' onto a row of one's own, one cell an element: k noughts behind. No program but the types of bytes. -/
import Derived.Test.YtopmcffjpbnlnaaSl
import Derived.Lib.AppendZerosOnto
namespace Go.Proofs.Ytopmcffjpbnlnaa
open Go.RowKit
set_option linter.unusedVariables false

theorem zeroCells_one (z : Value) (k : Nat) : Builtin.zeroCells #[z] k = (List.replicate k z).toArray := by
  apply Array.ext
  · simp [Builtin.zeroCells]
  · intro i h1 h2
    simp [Builtin.zeroCells, Nat.mod_one]
section
variable {P : Program} {w : World} {t e tn : TypeId} {bytes : Nat} {z : Value} {kn : IntKind}
theorem run_append_own_zeros (T : SlT P t e 1 bytes z) (h1 : z.oneCell' = true) (hzc : z.cells = #[z]) (htn : P.underlying tn = some (.int kn)) (hb0 : bytes ≤ 64) {base : Nat} {v : Value} {n : Nat} {xs : List Value} (hown : w.ownsRow base e 1 v n xs) (k : Nat) (kq : IntKind)
    (hk : n + k ≤ 1000000000) (hbase : base ≤ w.heap.size) (ty : TypeId) :
    ∃ v' w', (Builtin.append_ #[t, tn] ty #[v, .int kq k]).run P w = .ok v' w' ∧ w'.ownsRow base e 1 v' (n + k) (xs ++ List.replicate k z) ∧ w.grownBy w' v.ownBlock := by
  obtain ⟨i, hi, hz, hs, hby⟩ := info_parts T.info
  have hw : IntKind.i64.wrap (k : Int) = k := by rw [IntKind.wrap_i64]; omega
  have hneg : ¬ ((k : Int) < 0) := by omega
  have hkb : k * bytes ≤ 64 * 1000000000 := by rw [Nat.mul_comm]; exact Nat.mul_le_mul hb0 (by omega)
  have h48i : ¬ (281474976710656 < (k : Int) * (i.bytes : Int)) := by
    rw [hby, ← Int.natCast_mul]; omega
  have hxl := hown.1
  rw [Nat.mul_one] at hxl
  have grown : ∀ (old : Nat), old < n + k → ∀ (row : Option Nat),
      (w.drew.alloc (.cells (xs.toArray ++ Builtin.zeroCells z.cells k ++ Builtin.zeroCells z.cells (grownCap w (n + k) old e - (n + k))) e)).ownsRow base e 1
        (.slice (some ⟨w.heap.size, 0, none⟩) (n + k) (grownCap w (n + k) old e)) (n + k) (xs ++ List.replicate k z) ∧
      w.grownBy (w.drew.alloc (.cells (xs.toArray ++ Builtin.zeroCells z.cells k ++ Builtin.zeroCells z.cells (grownCap w (n + k) old e - (n + k))) e)) row := by
    intro old ho row
    have hge := grownCap_ge w (n + k) old e
    have hcm : grownCap w (n + k) old e ≤ maxLen := grownCap_le_maxLen w (n + k) old e (by unfold maxLen; omega)
    refine ⟨⟨by simp [hxl], .inr ⟨w.heap.size, _, _, rfl, hbase, heap_alloc_new w.drew _, hge, hcm, ?_, ?_⟩⟩, ⟨rfl, rfl, rfl, by simp, fun j hj _ => heap_alloc_old w.drew _ hj⟩⟩
    · simp only [hzc, zeroCells_one, Array.size_append, List.size_toArray, List.length_replicate, hxl]
      omega
    · simp only [hzc, zeroCells_one, Array.toList_append]
      rw [Nat.mul_one]
      exact List.take_left' (by simp [hxl])
  rcases hown.2 with ⟨rfl, rfl⟩ | ⟨g, cap, cur, rfl, hbg, hg, hnc, hcm, hcs, htake⟩
  · obtain rfl : xs = [] := List.eq_nil_of_length_eq_zero (by simpa using hxl)
    by_cases hk0 : k = 0
    · subst hk0
      refine ⟨.slice none 0 0, w, ?_, World.ownsRow_nil w base e 1, ⟨rfl, rfl, rfl, Nat.le_refl _, fun _ _ _ => rfl⟩⟩
      simp [Builtin.append_, run_underlying T.und, run_underlying htn, sizeOf, typeInfo, hi, asInt, asIntOf, hs, IntKind.wrap_i64]
    · have hr := Lib.run_append_grow_zeros (P := P) w t tn ty e i z kq kn T.und htn hi hz none 0 0 [] (by simp [Builtin.firstCells]) k (by omega) (by omega) (by omega) (by omega) (by rw [hby]; omega) (by rw [hby]; exact growslice_fits (by omega) (by rw [Nat.zero_add]; omega))
      have hgr := grown 0 (by omega) (Value.ownBlock (.slice none 0 0))
      exact ⟨_, _, hr, hgr.1, hgr.2⟩
  · by_cases hroom : n + k ≤ cap
    · have hst := run_storeCells_at P g n e (List.replicate k z) 0 cur w hg (by simp; omega) (fun u hu => by rw [List.eq_of_mem_replicate hu]; exact h1)
      simp only [Nat.add_zero] at hst
      have hrun : (Builtin.append_ #[t, tn] ty #[.slice (some ⟨g, 0, none⟩) n cap, .int kq k]).run P w = .ok (.slice (some ⟨g, 0, none⟩) (n + k) cap) (w.setRow g (cur.toList.take n ++ List.replicate k z ++ cur.toList.drop (n + k)).toArray) := by
        by_cases hk0 : k = 0
        · subst hk0
          have hst' : w.setRow g (cur.toList.take n ++ List.replicate 0 z ++ cur.toList.drop (n + 0)).toArray = w := by
            simp [storeCells] at hst
            simpa using hst.symm
          rw [hst']
          have hnc' : n ≤ cap := hnc
          simp [Builtin.append_, run_underlying T.und, run_underlying htn, sizeOf, typeInfo, hi, asInt, asIntOf, hs, IntKind.wrap_i64, hnc', storeCells]
        · rw [List.length_replicate] at hst
          simp [Builtin.append_, run_underlying T.und, run_underlying htn, sizeOf, typeInfo, zeroValue, hi, hz, asInt, asIntOf, hw, hneg, hk0, h48i, hs, hroom, Addr.add_lit, hzc, zeroCells_one, hst]
      refine ⟨_, _, hrun, ⟨by simp [hxl], .inr ⟨g, cap, _, rfl, hbg, setRow_heap w g cur _ e _ hg, hroom, hcm, ?_, ?_⟩⟩, ⟨rfl, rfl, rfl, by simp, fun j _ hj => setRow_other w g j _ (fun e => hj (by simp [Value.ownBlock, e]))⟩⟩
      · simp; omega
      · rw [Nat.mul_one] at htake ⊢
        rw [htake]
        exact List.take_left' (by simp [hxl])
    · have holds : ∀ j u, xs[j]? = some u → w.cell? ((⟨g, 0, none⟩ : Addr).add j) = some u := hown.cells (g := g) rfl
      have hr := Lib.run_append_grow_zeros (P := P) w t tn ty e i z kq kn T.und htn hi hz (some ⟨g, 0, none⟩) n cap xs (run_firstCells_some (P := P) w.drew i.size n ⟨g, 0, none⟩ n cap xs (by rw [hs, Nat.mul_one]; exact hxl) (by simpa using holds)) k (by omega) (by omega) (by omega) (by omega) (by rw [hby]; omega)
        (by rw [hby]; exact growslice_fits (by omega) (by have : (n + k) * bytes ≤ 1000000000 * 64 := Nat.mul_le_mul hk hb0; omega))
      have hgr := grown cap (by omega) (Value.ownBlock (.slice (some ⟨g, 0, none⟩) n cap))
      exact ⟨_, _, hr, hgr.1, hgr.2⟩
end

theorem u8v_zeros (k : Nat) : List.replicate k (Value.int .u8 0) = u8v (List.replicate k 0) := by simp [u8v]
/-- The same of bytes, as a step of a list. -/
theorem wpList_append_zeros {ops : Array Oper} {rest : List Oper} {o : Oper} {a : Act} {Q : Exit → Act → World → Prop} {w : World} (hgd : o.guard = none) (s x : Operand) (ho : o.op = .call { callee := .builtin .append, args := #[s, x], argTypes := #[26, 3] })
    {base : Nat} {v : Value} {n : Nat} {l : List Nat} (hs : a.eval s = v) (hown : w.ownsRow base 5 1 v n (u8v l)) {k : Nat} (hx : a.eval x = .int .i64 k) (hk : n + k ≤ 1000000000) (hbase : base ≤ w.heap.size)
    (h : ∀ v' w', w'.ownsRow base 5 1 v' (n + k) (u8v (l ++ List.replicate k 0)) → w.grownBy w' v.ownBlock → wpList Try.prog ops Q rest (a.put o.dst v') w') : wpList Try.prog ops Q (o :: rest) a w := by
  obtain ⟨v', w', hr, h2, h3⟩ := run_append_own_zeros (P := Try.prog) sl_u8 rfl rfl Try.underlying3 (by decide) hown k .i64 hk hbase o.type
  refine Lib.wpList_append_run w hgd s x 26 3 ho v (.int .i64 k) hs hx v' w' hr (h v' w' ?_ h3)
  rw [u8v_zeros, u8v_append] at h2
  exact h2
/-- A row of bytes that was written out. -/
theorem own_lit (w : World) (l : List Nat) (cs : Array Value) (h : cs.toList = u8v l) (hl : l.length ≤ 1000) (n : Nat) (hn : n = l.length) : (w.alloc (.cells cs 5)).ownsRow w.heap.size 5 1 (.slice (some ⟨w.heap.size, 0, none⟩) n n) n (u8v l) := by
  subst hn
  have hs : cs.size = l.length := by rw [← Array.length_toList, h, u8v_length]
  refine ⟨by rw [u8v_length, Nat.mul_one], .inr ⟨w.heap.size, l.length, cs, rfl, Nat.le_refl _, heap_alloc_new w _, Nat.le_refl _, by unfold maxLen; omega, by omega, ?_⟩⟩
  rw [h]
  exact List.take_of_length_le (by rw [u8v_length]; omega)
end Go.Proofs.Ytopmcffjpbnlnaa
