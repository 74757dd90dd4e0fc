/- math/bits.Mul of one and a number; slices.Repeat of one number. -/
import Derived.Test.YtkolmoebopfgiaaLevE
import Derived.Laws.CopyOwn
import Derived.Test.YtkolmoebopfgiaaLinP
namespace Go.Proofs.Ytkolmoebopfgiaa
open Go.RowKit
set_option linter.unusedVariables false

theorem and32 (n : Nat) (h : n < 4294967296) : bits .and .u64 ((n : Nat) : Int) 4294967295 = ((n : Nat) : Int) := by
  have e := bits_and_u64_nat n 4294967295 (by omega) (by decide)
  rw [show ((4294967295 : Nat) : Int) = 4294967295 from rfl] at e
  rw [e]
  congr 1
  have := Nat.and_two_pow_sub_one_eq_mod n 32
  rw [show (2 : Nat) ^ 32 - 1 = 4294967295 from rfl] at this
  rw [this]
  exact Nat.mod_eq_of_lt (by omega)
set_option maxHeartbeats 1000000 in
theorem mul64_one (n : Nat) (w : World) (hn : n ≤ 4000) : Calls Try.prog 73 #[.int .u64 1, .int .u64 (n : Nat)] w fun e w' => e = .returned (.tuple #[.int .u64 0, .int .u64 (n : Nat)]) ∧ w = w' := by
  have a1 : bits .and .u64 1 4294967295 = 1 := by decide
  have a0 : bits .and .u64 0 4294967295 = 0 := by decide
  have an := and32 n (by omega)
  have d1 : (1 : Int) / 2 ^ 32 = 0 := by decide
  have dn : ((n : Nat) : Int) / 2 ^ 32 = 0 := by omega
  have dn' : ((n : Nat) : Int) / 4294967296 = 0 := by omega
  go_enter Try.func73, Try.ntmps73
  go_wp2
  go_ret2
  exact ⟨by simp, rfl⟩
set_option maxHeartbeats 1000000 in
theorem mul_one (n : Nat) (w : World) (hn : n ≤ 4000) : Calls Try.prog 69 #[.int .u64 1, .int .u64 (n : Nat)] w fun e w' => e = .returned (.tuple #[.int .u64 0, .int .u64 (n : Nat)]) ∧ w = w' := by
  go_enter Try.func69, Try.ntmps69
  go_wp2_with fail
  refine (mul64_one n _ hn).mono ?_
  rintro e x ⟨rfl, rfl⟩
  go_wp2
  go_ret2
  exact ⟨rfl, rfl⟩

/-- The row while it is filled. -/
def repTo (x : Int) (n k : Nat) : List Value := List.replicate k (.int .i64 x) ++ List.replicate (n - k) (.int .i64 0)
theorem repTo_length (x : Int) (n k : Nat) (h : k ≤ n) : (repTo x n k).length = n := by simp [repTo]; omega
theorem repTo_splice (x : Int) (n k m : Nat) (h : k + m ≤ n) : splice (repTo x n k) k (List.replicate m (.int .i64 x)) = repTo x n (k + m) := by
  unfold splice repTo
  rw [List.take_left' (by simp), List.length_replicate, List.drop_append, List.drop_of_length_le (by simp), List.nil_append, List.length_replicate, List.drop_replicate]
  rw [← List.append_assoc, List.replicate_append_replicate]
  congr 2
  omega
theorem Try.sizeI : (Try.prog.info? 3).map (·.size) = some 1 := by kernel_rfl
theorem madeI (n : Nat) : (madeCells #[Value.int .i64 0] n).toList = List.replicate n (.int .i64 0) := by
  refine List.ext_getElem (by simp [madeCells]) fun i h1 h2 => ?_
  simp [madeCells, Nat.mod_one]
set_option maxHeartbeats 4000000 in
set_option maxRecDepth 100000 in
theorem repeat_one (g off c n : Nat) (x : Int) (w : World) (hn : 1 ≤ n) (hn2 : n ≤ 4000) (hc : w.cell? ⟨g, off, none⟩ = some (.int .i64 x)) :
    Calls Try.prog 66 #[.slice (some ⟨g, off, none⟩) 1 c, .int .i64 (n : Nat)] w fun e w' => ∃ v, e = .returned v ∧ w'.ownsRow w.heap.size 3 1 v n (List.replicate n (.int .i64 x)) ∧ Below w.heap.size w w' := by
  obtain ⟨i0, hi, hz0, hz1, hz2⟩ := info_parts Try.infoI
  have hg : g < w.heap.size := World.block_lt_of_cell? w _ hc
  have e0 : ¬ ((n : Nat) : Int) < 0 := by omega
  go_enter Try.func66, Try.ntmps66
  go_wp2_with fail
  refine (mul_one n _ hn2).mono ?_
  rintro e x1 ⟨rfl, rfl⟩
  go_wp2_with (at_make; refine wpList_make_full _ rfl _ _ 26 rfl w.heap.size 3 i0 (.int .i64 0) 1 Try.underlying26 hi hz0 hz1 _ _ _ _ n rfl rfl rfl rfl ?b2 ?b3 (Nat.le_refl _) ?_)
  case b2 => rw [hz2]; omega
  case b3 => unfold maxLen; omega
  intro w0 hown0 hgrow0
  have hb0 : Below w.heap.size w w0 := (Below.refl _ _).grown hgrow0 (Nat.le_refl _) (fun k h => by cases h)
  have hg0 : w0.heap[w.heap.size]? = some (.cells (List.replicate n (Value.int .i64 0)).toArray 3 (0, 0)) := by
    rcases hown0.2 with ⟨h1, -⟩ | ⟨g1, c1, cur, h1, -, h2, -, -, h3, h4⟩
    · simp at h1
    · simp only [Value.slice.injEq, Option.some.injEq, Addr.mk.injEq] at h1
      obtain ⟨⟨rfl, -⟩, -, rfl⟩ := h1
      rw [h2, Nat.mul_one] at *
      have hc : cur.toList = List.replicate n (Value.int .i64 0) := by
        have : cur.toList.take n = cur.toList := List.take_of_length_le (by rw [Array.length_toList, h3]; exact Nat.le_refl _)
        rw [← this, h4, madeI]
      rw [← hc]
  have hc0 := (hb0.cell (by exact hg)).trans hc
  have hgw : w.heap.size ≤ w.heap.size := Nat.le_refl _
  have hn1 : ([Value.int .i64 x]).length = Nat.min 1 n := by show 1 = min 1 n; omega
  clear hown0 hgrow0
  go_wp2_with (with_reducible refine wpList_copy_splice rfl (.tmp 31) (.tmp 32) 26 26 rfl 3 Try.underlying26 Try.sizeI (some ⟨w.heap.size, 0, none⟩) (some ⟨g, off, none⟩) n n 1 c rfl rfl w.heap.size 0 (List.replicate n (Value.int .i64 0)) 3 hg0 [Value.int .i64 x] hn1 ?_ ?_ ?_ w.heap.size w hb0 hgw ?_)
  · intro j v hj
    match j, hj with
    | 0, hj => simp at hj; subst hj; simpa using hc0
  · simp; omega
  · intro v hv; simp at hv; subst hv; rfl
  intro w1 hg1 hb1
  have hs0 : splice (List.replicate n (Value.int .i64 0)) 0 [Value.int .i64 x] = repTo x n 1 := by
    have h := repTo_splice x n 0 1 (by omega)
    simpa [repTo] using h
  rw [hs0] at hg1
  clear hs0 hg0 hb0 hc0 hn1
  go_wp2
  go_loopw [8] (fun i wr => ∃ k : Nat, 1 ≤ k ∧ k ≤ n ∧ i = .int .i64 k ∧ Hid (wr.heap[w.heap.size]? = some (.cells (repTo x n k).toArray 3 (0, 0))) ∧ Below w.heap.size w wr) (fun i _ => n - (intOf i).toNat)
  case atStart => exact ⟨1, Nat.le_refl _, hn, rfl, hg1, hb1⟩
  case round =>
    clear hg1 hb1
    obtain ⟨k, hk1, hkn, rfl, hg1, hwr⟩ := hrel
    by_cases hlt : k < n
    · obtain ⟨m, hm⟩ : ∃ m, m = min k (n - k) := ⟨_, rfl⟩
      have hm1 : m ≤ k ∧ k + m ≤ n ∧ 0 < m := by omega
      obtain ⟨ao', hao, hs⟩ := slI_from (some ⟨w.heap.size, 0, none⟩) n n k (by omega) (Nat.le_refl _)
      have hao' : ao' = some ⟨w.heap.size, k, none⟩ := by
        rcases hao with h | h
        · omega
        · rw [h]; simp [Addr.add_lit]
      subst hao'
      have hcm : (List.replicate m (Value.int .i64 x)).length = Nat.min k (n - k) := by rw [List.length_replicate]; exact hm
      have e1 : (k : Int) < (n : Int) := by omega
      have e2 : (0 : Int) ≤ (k : Int) := by omega
      have e3 : (k : Int) ≤ (n : Int) := by omega
      have e4 : ¬ n = k := by omega
      have hsp := Lib.hid (repTo_splice x n k m hm1.2.1)
      have hwk : IntKind.i64.wrap ((k : Int) + (m : Int)) = (k : Int) + (m : Int) := IntWalk.i64_in _ (by omega)
      have Hg1 := Lib.hid (show wr.drew.heap[w.heap.size]? = _ from hg1.out)
      have hcells : Hid (∀ (j : Nat) (v : Value), (List.replicate m (Value.int .i64 x))[j]? = some v → wr.drew.cell? ((⟨w.heap.size, 0, none⟩ : Addr).add j) = some v) := Lib.hid (by
        intro j v hj
        have hjm : j < m := by have := (List.getElem?_eq_some_iff.1 hj).1; simpa using this
        rw [Addr.add_lit, Nat.zero_add, cell_of_row wr.drew w.heap.size j _ _ _ Hg1.out]
        rw [List.getElem?_replicate, if_pos hjm] at hj
        cases hj
        rw [List.getElem?_toArray, repTo, List.getElem?_append_left (by simp; omega), List.getElem?_replicate, if_pos (by omega)])
      clear hm hao
      go_wp2
      refine wp_region_linP [(0, 3), (1, 3), (2, 3), (3, 0), (4, 3), (5, 3), (6, 0), (7, 2), (8, 3), (9, 3)] [7] (by kernel_rfl) (by kernel_rfl) (fun d _ _ _ _ h => by cases d <;> exact h) ?_
      repeat (first
        | (refine wpLinP_skip rfl rfl (fun K hK => ?_); go_simp; refine hK _ ?_; clear hK K)
        | (refine wpLinP_pure (v := ?_) rfl rfl (fun w' => ?_) (fun K hK => ?_); rotate_left; (go_simp; rfl); (go_simp; refine hK _ ?_; clear hK K))
        | (refine wpLinP_take (v := ?_) rfl rfl (fun w' hw' => ?_) (fun K hK => ?_); rotate_left; (go_simp; rfl); (go_simp; refine hK _ ?_; clear hK K)))
      refine wpLinP_hard rfl (fun K hK => ?_)
      refine step_copy_splice rfl (.tmp 41) (.tmp 44) 26 26 rfl 3 Try.underlying26 Try.sizeI (some ⟨w.heap.size, k, none⟩) (some ⟨w.heap.size, 0, none⟩) (n - k) (n - k) k n rfl rfl w.heap.size k (repTo x n k) 3 Hg1.out (List.replicate m (Value.int .i64 x)) hcm (fun _ => ⟨rfl, _, rfl, hcells.out⟩) (by rw [List.length_replicate, repTo_length _ _ _ hkn]; omega) (fun v hv => by rw [List.eq_of_mem_replicate hv]; rfl) w.heap.size w hwr.drew hgw ?_
      intro w2 hg2 hb2
      rw [hsp.out] at hg2
      rw [List.length_replicate]
      go_simp; refine hK _ _ ?_; clear hK K
      repeat (first
        | (refine wpLinP_skip rfl rfl (fun K hK => ?_); go_simp; refine hK _ ?_; clear hK K)
        | (refine wpLinP_pure (v := ?_) rfl rfl (fun w' => ?_) (fun K hK => ?_); rotate_left; (go_simp; rfl); (go_simp; refine hK _ ?_; clear hK K))
        | (refine wpLinP_take (v := ?_) rfl rfl (fun w' hw' => ?_) (fun K hK => ?_); rotate_left; (go_simp; rfl); (go_simp; refine hK _ ?_; clear hK K)))
      refine wpLinP_nil ?_
      go_wp2
      go_roundw
      case rel => exact ⟨k + m, by omega, by omega, by go_num, hg2, hb2⟩
      case measure => simp [intOf]; omega
    · obtain rfl : k = n := by omega
      have hfin : Hid (wr.ownsRow w.heap.size 3 1 (.slice (some ⟨w.heap.size, 0, none⟩) k k) k (List.replicate k (.int .i64 x))) := Lib.hid (by
        have e : repTo x k k = List.replicate k (.int .i64 x) := by simp [repTo]
        have h := hg1.out
        rw [e] at h
        exact ⟨by simp, .inr ⟨w.heap.size, k, _, rfl, hgw, h, Nat.le_refl _, by unfold maxLen; omega, by simp, by simp⟩⟩)
      clear hg1
      go_wp2
      go_ret
      exact ⟨_, rfl, hfin.out, hwr⟩
end Go.Proofs.Ytkolmoebopfgiaa
