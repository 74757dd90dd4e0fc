/- Chapter 12: the walks over Zig, Zag, slices.Min, differences. -/
import Derived.Test.YtlnlcmdbhkpnhaaBunA
import Derived.Test.YtlnlcmdbhkpnhaaVarR
import Derived.Test.YtlnlcmdbhkpnhaaBunB
namespace Go.Proofs.Ytlnlcmdbhkpnhaa
open Go.RowKit
set_option linter.unusedVariables false

theorem xor0_u64 (x : Int) (h0 : 0 ≤ x) (h1 : x < 18446744073709551616) : bits .xor .u64 x 0 = x := by
  show IntKind.u64.wrap ((BitVec.ofInt 64 x ^^^ BitVec.ofInt 64 0).toNat : Nat) = x
  rw [show BitVec.ofInt 64 0 = 0#64 from rfl, BitVec.xor_zero, BitVec.toNat_ofInt, IntKind.wrap_u64]
  omega
theorem xor1_u64 (x : Int) (h0 : 0 ≤ x) (h1 : x < 18446744073709551616) : bits .xor .u64 x 18446744073709551615 = 18446744073709551615 - x := by
  show IntKind.u64.wrap ((BitVec.ofInt 64 x ^^^ BitVec.ofInt 64 18446744073709551615).toNat : Nat) = _
  rw [show BitVec.ofInt 64 18446744073709551615 = BitVec.allOnes 64 from by decide, BitVec.xor_allOnes, BitVec.toNat_not, BitVec.toNat_ofInt, IntKind.wrap_u64]
  omega
theorem xor0_i64 (x : Int) (h0 : -9223372036854775808 ≤ x) (h1 : x ≤ 9223372036854775807) : bits .xor .i64 x 0 = x := by
  show IntKind.i64.wrap ((BitVec.ofInt 64 x ^^^ BitVec.ofInt 64 0).toNat : Nat) = x
  rw [show BitVec.ofInt 64 0 = 0#64 from rfl, BitVec.xor_zero, BitVec.toNat_ofInt, IntKind.wrap_i64]
  omega
theorem xor1_i64 (x : Int) (h0 : -9223372036854775808 ≤ x) (h1 : x ≤ 9223372036854775807) : bits .xor .i64 x (-1) = -x - 1 := by
  show IntKind.i64.wrap ((BitVec.ofInt 64 x ^^^ BitVec.ofInt 64 (-1)).toNat : Nat) = _
  rw [show BitVec.ofInt 64 (-1) = BitVec.allOnes 64 from by decide, BitVec.xor_allOnes, BitVec.toNat_not, BitVec.toNat_ofInt, IntKind.wrap_i64]
  omega

set_option maxHeartbeats 1000000 in
theorem zig_any (v : Int) (w : World) (h : inI64 v) : Calls Try.prog 26 #[.int .i64 v] w fun e w' => e = .returned (.int .u64 (zigN v : Nat)) ∧ w = w' := by
  obtain ⟨h1, h2⟩ := h
  by_cases h0 : 0 ≤ v
  · have e1 : v / 9223372036854775808 = 0 := by omega
    have e2 : IntKind.u64.wrap v = v := by rw [IntKind.wrap_u64]; omega
    have e3 : IntKind.u64.wrap (v * 2) = 2 * v := by rw [IntKind.wrap_u64]; omega
    have e4 := xor0_u64 (2 * v) (by omega) (by omega)
    have ez : Hid ((zigN v : Int) = 2 * v) := Lib.hid (by unfold zigN; rw [if_pos h0]; omega)
    have e5 : v / 2 ^ 63 = 0 := e1
    go_enter Try.func26, Try.ntmps26
    go_wp2
    go_ret
    exact ⟨by rw [ez.out]; rfl, rfl⟩
  · have e1 : v / 9223372036854775808 = -1 := by omega
    have e2 : IntKind.u64.wrap v = v + 18446744073709551616 := by rw [IntKind.wrap_u64]; omega
    have e3 : IntKind.u64.wrap ((v + 18446744073709551616) * 2) = 2 * v + 18446744073709551616 := by rw [IntKind.wrap_u64]; omega
    have e4 := xor1_u64 (2 * v + 18446744073709551616) (by omega) (by omega)
    have ez : Hid ((zigN v : Int) = 18446744073709551615 - (2 * v + 18446744073709551616)) := Lib.hid (by unfold zigN; rw [if_neg h0]; omega)
    have e5 : v / 2 ^ 63 = -1 := e1
    have e6 : IntKind.u64.wrap (-1) = 18446744073709551615 := by decide
    go_enter Try.func26, Try.ntmps26
    go_wp2
    go_ret
    exact ⟨by rw [ez.out]; rfl, rfl⟩
set_option maxHeartbeats 1000000 in
theorem rzig_any (v : Int) (w : World) (h : inI64 v) : Calls Try.prog 38 #[.int .i64 v] w fun e w' => e = .returned (.int .u64 (zigN v : Nat)) ∧ w = w' := by
  obtain ⟨h1, h2⟩ := h
  by_cases h0 : 0 ≤ v
  · have e1 : v / 9223372036854775808 = 0 := by omega
    have e2 : IntKind.u64.wrap v = v := by rw [IntKind.wrap_u64]; omega
    have e3 : IntKind.u64.wrap (v * 2) = 2 * v := by rw [IntKind.wrap_u64]; omega
    have e4 := xor0_u64 (2 * v) (by omega) (by omega)
    have ez : Hid ((zigN v : Int) = 2 * v) := Lib.hid (by unfold zigN; rw [if_pos h0]; omega)
    have e5 : v / 2 ^ 63 = 0 := e1
    go_enter Try.func38, Try.ntmps38
    go_wp2
    go_ret
    exact ⟨by rw [ez.out]; rfl, rfl⟩
  · have e1 : v / 9223372036854775808 = -1 := by omega
    have e2 : IntKind.u64.wrap v = v + 18446744073709551616 := by rw [IntKind.wrap_u64]; omega
    have e3 : IntKind.u64.wrap ((v + 18446744073709551616) * 2) = 2 * v + 18446744073709551616 := by rw [IntKind.wrap_u64]; omega
    have e4 := xor1_u64 (2 * v + 18446744073709551616) (by omega) (by omega)
    have ez : Hid ((zigN v : Int) = 18446744073709551615 - (2 * v + 18446744073709551616)) := Lib.hid (by unfold zigN; rw [if_neg h0]; omega)
    have e5 : v / 2 ^ 63 = -1 := e1
    have e6 : IntKind.u64.wrap (-1) = 18446744073709551615 := by decide
    go_enter Try.func38, Try.ntmps38
    go_wp2
    go_ret
    exact ⟨by rw [ez.out]; rfl, rfl⟩
theorem and1' (V : Nat) (h : V < 18446744073709551616) : bits .and .u64 (V : Int) 1 = ((V % 2 : Nat) : Int) := by
  have e := bits_and_u64_nat V 1 h (by decide)
  rw [show ((1 : Nat) : Int) = 1 from rfl] at e
  rw [e, Nat.and_one_is_mod]
set_option maxHeartbeats 1000000 in
theorem zag_any (u : Nat) (w : World) (h : u < 18446744073709551616) : Calls Try.prog 62 #[.int .u64 (u : Nat)] w fun e w' => e = .returned (.int .i64 (zagI u)) ∧ w = w' := by
  have ea := and1' u h
  obtain ⟨q, hq⟩ : ∃ q, q = u / 2 := ⟨_, rfl⟩
  have eq : (u : Int) / 2 = (q : Int) := by omega
  have hq63 : q ≤ 9223372036854775807 := by omega
  have ew : IntKind.i64.wrap (q : Int) = (q : Int) := IntWalk.i64_in _ (by omega)
  by_cases h0 : u % 2 = 0
  · have e2 : bits .and .u64 (u : Int) 1 = 0 := by rw [ea, h0]; rfl
    have e4 := xor0_i64 (q : Int) (by omega) (by omega)
    have ez : Hid (zagI u = (q : Int)) := Lib.hid (by unfold zagI; rw [if_pos h0, hq])
    clear ea hq h0
    go_enter Try.func62, Try.ntmps62
    go_wp2
    go_ret
    exact ⟨by rw [ez.out]; rfl, rfl⟩
  · have e2 : bits .and .u64 (u : Int) 1 = 1 := by rw [ea, show u % 2 = 1 by omega]; rfl
    have e4 := xor1_i64 (q : Int) (by omega) (by omega)
    have ez : Hid (zagI u = -(q : Int) - 1) := Lib.hid (by unfold zagI; rw [if_neg h0, hq])
    clear ea hq h0
    go_enter Try.func62, Try.ntmps62
    go_wp2
    go_ret
    exact ⟨by rw [ez.out]; rfl, rfl⟩
set_option maxHeartbeats 1000000 in
theorem rzag_any (u : Nat) (w : World) (h : u < 18446744073709551616) : Calls Try.prog 42 #[.int .u64 (u : Nat)] w fun e w' => e = .returned (.int .i64 (zagI u)) ∧ w = w' := by
  have ea := and1' u h
  obtain ⟨q, hq⟩ : ∃ q, q = u / 2 := ⟨_, rfl⟩
  have eq : (u : Int) / 2 = (q : Int) := by omega
  have hq63 : q ≤ 9223372036854775807 := by omega
  have ew : IntKind.i64.wrap (q : Int) = (q : Int) := IntWalk.i64_in _ (by omega)
  by_cases h0 : u % 2 = 0
  · have e2 : bits .and .u64 (u : Int) 1 = 0 := by rw [ea, h0]; rfl
    have e4 := xor0_i64 (q : Int) (by omega) (by omega)
    have ez : Hid (zagI u = (q : Int)) := Lib.hid (by unfold zagI; rw [if_pos h0, hq])
    clear ea hq h0
    go_enter Try.func42, Try.ntmps42
    go_wp2
    go_ret
    exact ⟨by rw [ez.out]; rfl, rfl⟩
  · have e2 : bits .and .u64 (u : Int) 1 = 1 := by rw [ea, show u % 2 = 1 by omega]; rfl
    have e4 := xor1_i64 (q : Int) (by omega) (by omega)
    have ez : Hid (zagI u = -(q : Int) - 1) := Lib.hid (by unfold zagI; rw [if_neg h0, hq])
    clear ea hq h0
    go_enter Try.func42, Try.ntmps42
    go_wp2
    go_ret
    exact ⟨by rw [ez.out]; rfl, rfl⟩
theorem run_min_int2' {P : Program} {w : World} (ts : Array TypeId) (t : TypeId) (k : IntKind) (x y : Int) (m : Int) (hm : m = min x y) : (Builtin.min_ ts t #[.int k x, .int k y]).run P w = .ok (.int k m) w := by
  have e : m = (if y < x then y else x) := by rw [hm]; split <;> omega
  rw [e]
  simp [Builtin.min_, Builtin.min2]
theorem Try.infoI' : (Try.prog.info? 3).map (fun i => (i.zero, i.size, i.bytes)) = some (some (.int .i64 0), 1, 8) := by kernel_rfl
theorem sl_i64' : SlT Try.prog 25 3 1 8 (.int .i64 0) := ⟨Try.underlying25, Try.infoI', rfl, by decide⟩

theorem w64_wrap (n : Int) : IntKind.i64.wrap n = w64 n := by rw [IntKind.wrap_i64]; rfl
set_option maxHeartbeats 1000000 in
theorem min_any (ao : Option Addr) (n cap : Nat) (c : List Int) (w : World) (hl : c.length = n) (hn : 1 ≤ n) (hn2 : n ≤ 9223372036854775807) (hc : CellsAt w w.heap.size ao n (i64c c)) :
    Calls Try.prog 54 #[.slice ao n cap] w fun e w' => e = .returned (.int .i64 (minI c)) ∧ w = w' := by
  have Hl := Lib.hid hl; clear hl
  have e0 : ¬ (n : Int) < 1 := by omega
  have e00 : (0 : Int) < (n : Int) := by omega
  obtain ⟨b, off, rfl, -, c0⟩ := hc.first (by omega)
  obtain ⟨m0, hm0⟩ : ∃ m0, m0 = c.getD 0 0 := ⟨_, rfl⟩
  rw [i64c, ← hm0] at c0
  have Hm0 : Hid (m0 = minTo c 1) := Lib.hid (by rw [minTo_one c (by rw [Hl.out]; omega)]; exact hm0)
  clear hm0
  go_enter Try.func54, Try.ntmps54
  go_wp2
  go_loop [3, 4] (fun v i => ∃ (k : Nat) (m : Int), 1 ≤ k ∧ k ≤ n ∧ v = .int .i64 m ∧ i = .int .i64 (k : Nat) ∧ Hid (m = minTo c k)) (fun _ i => n - (intOf i).toNat)
  case atStart => exact ⟨1, m0, Nat.le_refl _, hn, rfl, rfl, Hm0⟩
  case round =>
    obtain ⟨k, m, hk1, hk, rfl, rfl, hm⟩ := hrel
    by_cases hkn : k < n
    · obtain ⟨_, _, e9, -, ck⟩ := hc k hkn
      cases e9
      obtain ⟨x, hx⟩ : ∃ x, x = c.getD k 0 := ⟨_, rfl⟩
      rw [i64c, ← hx] at ck
      obtain ⟨y, hy⟩ : ∃ y, y = min m x := ⟨_, rfl⟩
      have hmin := fun w' : World => run_min_int2' (P := Try.prog) (w := w') #[3, 3] 3 .i64 m x y hy
      have hs : Hid (y = minTo c (k + 1)) := Lib.hid (by rw [minTo_succ c k (by rw [Hl.out]; exact hkn), ← hm.out, ← hx, hy])
      have e1 : (k : Int) < (n : Int) := by omega
      have e2 : (0 : Int) ≤ (k : Int) := by omega
      clear hx hy
      go_wp2
      go_round
      case rel => exact ⟨k + 1, y, by omega, by omega, rfl, by go_num, hs⟩
      case measure => simp [intOf]; omega
    · have hkn2 : Hid (k = c.length) := Lib.hid (by rw [Hl.out]; omega)
      have e1 : ¬ (k : Int) < (n : Int) := by omega
      go_wp2
      go_ret
      refine ⟨?_, rfl⟩
      rw [hm.out, hkn2.out]; rfl

set_option maxHeartbeats 2000000 in
set_option maxRecDepth 100000 in
theorem diffs_any (ao : Option Addr) (n cap : Nat) (l : List Int) (w : World) (hl : l.length = n) (hn : n ≤ 100000) (hc : CellsAt w w.heap.size ao n (i64c l)) :
    Calls Try.prog 28 #[.slice ao n cap] w fun e w' => ∃ v, e = .returned v ∧ w'.ownsRow w.heap.size 3 1 v (n - 1) (i64v (diffs l)) ∧ Below w.heap.size w w' := by
  have Hl := Lib.hid hl; have Hc := Lib.hid hc
  clear hl hc
  go_enter Try.func28, Try.ntmps28
  go_wp2
  go_loopw [3, 4] (fun v i x => ∃ (k : Nat) (aoK : Option Addr) (capK : Nat), 1 ≤ k ∧ (k ≤ n ∨ k = 1) ∧ v = .slice aoK (k - 1) capK ∧ i = .int .i64 (k : Nat) ∧ Hid (x.ownsRow w.heap.size 3 1 (.slice aoK (k - 1) capK) (k - 1) (i64v ((diffs l).take (k - 1)))) ∧ Hid (Below w.heap.size w x)) (fun _ i _ => n - (intOf i).toNat)
  case atStart => exact ⟨1, none, 0, Nat.le_refl _, .inr rfl, rfl, rfl, Lib.hid (World.ownsRow_nil _ _ _ _), Lib.hid (Below.refl _ _)⟩
  case round =>
    obtain ⟨k, aoK, capK, hk1, hk, rfl, rfl, hown, hbel⟩ := hrel
    obtain ⟨x, hxx⟩ : ∃ x, x = wr := ⟨_, rfl⟩
    subst hxx
    obtain ⟨j, hj⟩ : ∃ j, j = k - 1 := ⟨_, rfl⟩
    rw [← hj] at hown ⊢
    by_cases hkn : k < n
    · obtain ⟨b, off, rfl, hb, ck⟩ := Hc.out k hkn
      obtain ⟨_, _, e9, -, cj⟩ := Hc.out j (by omega)
      cases e9
      obtain ⟨a, ha⟩ : ∃ a, a = l.getD k 0 := ⟨_, rfl⟩
      obtain ⟨c, hcc⟩ : ∃ c, c = l.getD j 0 := ⟨_, rfl⟩
      rw [i64c, ← ha] at ck
      rw [i64c, ← hcc] at cj
      have f1 : ∀ w', Grows x.drew w' → w'.cell? ⟨b, off + k, none⟩ = some (.int .i64 a) := fun w' hg => (Grows.toDrew hg).cell ((hbel.out.cell (by exact hb)).trans ck)
      have f2 : ∀ w', Grows x.drew w' → w'.cell? ⟨b, off + j, none⟩ = some (.int .i64 c) := fun w' hg => (Grows.toDrew hg).cell ((hbel.out.cell (by exact hb)).trans cj)
      have e1 : (k : Int) < (n : Int) := by omega
      have e2 : (0 : Int) ≤ (k : Int) := by omega
      have e3 : (k : Int) - 1 = (j : Int) := by omega
      have e4 : IntKind.i64.wrap (j : Int) = (j : Int) := IntWalk.i64_in _ (by omega)
      have e5 : (j : Int) < (n : Int) := by omega
      have e6 : (0 : Int) ≤ (j : Int) := by omega
      have e7 : IntKind.i64.wrap (a - c) = w64 (a - c) := w64_wrap _
      have htk : Hid ((diffs l).take (j + 1) = (diffs l).take j ++ [w64 (a - c)]) := Lib.hid (by
        rw [diffs_take l j (by rw [Hl.out]; omega), ha, hcc, show j + 1 = k by omega])
      have hkj : Hid (k = j + 1) := Lib.hid (by omega)
      have hownA := own_below hown.out ((Below.refl x.heap.size x).drew.alloc (Nat.le_refl _) (.cells #[.int .i64 (w64 (a - c))] 3))
      have hsA : w.heap.size ≤ (x.drew.alloc (.cells #[.int .i64 (w64 (a - c))] 3)).heap.size := Nat.le_trans hbel.out.size (by simp)
      clear ha hcc ck cj hb hj
      go_wp2
      refine wp_region_linH [(0, 0), (1, 0), (2, 0), (3, 0), (4, 0), (5, 0), (6, 0), (7, 0), (8, 0), (9, 0), (10, 0), (11, 1), (12, 2), (13, 0)] [12] (by kernel_rfl) (by kernel_rfl) (fun d _ _ _ _ h => by cases d <;> exact h) ?_
      repeat (first
        | (refine wpLinH_skip rfl rfl (fun K hK => ?_); go_simp; refine hK _ ?_; clear hK K)
        | (refine wpLinH_take (v := ?_) rfl rfl (fun w' hw' => ?_) (fun K hK => ?_); rotate_left; (go_simp; rfl); (go_simp; refine hK _ ?_; clear hK K)))
      refine wpLinH_do rfl (fun K hK => ?_); go_simp; refine hK _ _ ((Grows.refl x.drew).alloc _) ?_; clear hK K
      refine wpLinH_hard rfl (fun K hK => ?_)
      refine step_append_all1 sl_i64' rfl (.tmp 11) (.tmp 22) rfl rfl hownA rfl (cells_one x.drew 3 (.int .i64 (w64 (a - c)))) (fun h => by cases h) (fun _ _ => rfl) (by unfold maxLen; omega) (by omega) hsA ?_
      intro v' x2 ho2 hg2
      have hx2 : Below w.heap.size w x2 := (hbel.out.drew.alloc hbel.out.size _).grown hg2 hsA (fun k hk => (hownA.lt k hk).1)
      have ho3 : x2.ownsRow w.heap.size 3 1 v' (j + 1) (i64v ((diffs l).take (j + 1))) := by
        rw [htk.out, ← i64v_append]; exact ho2
      obtain ⟨ao3, cap3, rfl, -, -⟩ := own_cells ho3
      have H3 := Lib.hid ho3; have Hx2 := Lib.hid hx2
      clear ho2 hg2 ho3 hx2 hownA hsA hown
      go_simp; refine hK _ _ ?_; clear hK K f1 f2
      repeat (first
        | (refine wpLinH_skip rfl rfl (fun K hK => ?_); go_simp; refine hK _ ?_; clear hK K)
        | (refine wpLinH_take (v := ?_) rfl rfl (fun w' hw' => ?_) (fun K hK => ?_); rotate_left; (go_simp; rfl); (go_simp; refine hK _ ?_; clear hK K)))
      refine wpLinH_nil ?_
      go_wp2
      go_roundw
      case rel => exact ⟨k + 1, ao3, cap3, by omega, .inl (by omega), by rw [hkj.out]; rfl, by go_num, by rw [Nat.add_sub_cancel, hkj.out]; exact H3, Hx2⟩
      case measure => simp [intOf]; omega
    · have e1 : ¬ (k : Int) < (n : Int) := by omega
      have hfin : Hid (x.ownsRow w.heap.size 3 1 (.slice aoK j capK) (n - 1) (i64v (diffs l))) := Lib.hid (by
        have h := hown.out
        rw [List.take_of_length_le (by rw [diffs_length, Hl.out]; omega)] at h
        rw [show n - 1 = j by omega]; exact h)
      clear hown hj
      go_wp2
      go_ret
      exact ⟨_, rfl, hfin.out, hbel.out⟩
end Go.Proofs.Ytlnlcmdbhkpnhaa
