/- Chapter 4's laws: the walk over CrcJoins. -/
import Derived.Test.YtpcfelccanmggaaCrcLaws4
namespace Go.Proofs.Ytpcfelccanmggaa
open Go.RowKit
set_option linter.unusedVariables false

theorem run_min_int4 {P : Program} {w : World} (ts : Array TypeId) (t : TypeId) (k : IntKind) (x y z u : Int) (m : Int) (hm : m = min (min (min x y) z) u) : (Builtin.min_ ts t #[.int k x, .int k y, .int k z, .int k u]).run P w = .ok (.int k m) w := by
  have e : m = (if u < (if z < (if y < x then y else x) then z else (if y < x then y else x)) then u else (if z < (if y < x then y else x) then z else (if y < x then y else x))) := by
    rw [hm]; split <;> split <;> split <;> omega
  rw [e]
  simp [Builtin.min_, Builtin.min2]
/-- The first k bytes of three rows turned together, noughts behind. -/
def xor3To (a b c : List Nat) (n k : Nat) : List Nat := (List.range n).map fun i => if i < k then (a.getD i 0 ^^^ b.getD i 0) ^^^ c.getD i 0 else 0
theorem xor3To_length (a b c : List Nat) (n k : Nat) : (xor3To a b c n k).length = n := by simp [xor3To]
theorem xor3To_zero (a b c : List Nat) (n : Nat) : xor3To a b c n 0 = List.replicate n 0 := by
  refine List.ext_getElem (by simp [xor3To]) fun i h1 h2 => ?_
  simp [xor3To]
theorem xor3To_set (a b c : List Nat) (n k : Nat) (h : k < n) : (xor3To a b c n k).set k ((a.getD k 0 ^^^ b.getD k 0) ^^^ c.getD k 0) = xor3To a b c n (k + 1) := by
  refine List.ext_getElem (by simp [xor3To]) fun i h1 h2 => ?_
  rw [List.getElem_set]
  simp only [xor3To, List.getElem_map, List.getElem_range]
  by_cases e : k = i
  · subst e; rw [if_pos rfl, if_pos (by omega)]
  · rw [if_neg e]
    by_cases hik : i < k
    · rw [if_pos hik, if_pos (by omega)]
    · rw [if_neg hik, if_neg (by omega)]
theorem xor3To_full (a b c : List Nat) (n : Nat) : xor3To a b c n n = (List.range n).map fun i => (a.getD i 0 ^^^ b.getD i 0) ^^^ c.getD i 0 := by
  unfold xor3To
  refine List.map_congr_left fun i hi => ?_
  rw [if_pos (List.mem_range.1 hi)]
theorem madeU8' (N : Nat) : (madeCells #[Value.int .u8 0] N).toList = u8v (List.replicate N 0) := by
  refine List.ext_getElem (by simp [madeCells, u8v]) fun i h1 h2 => ?_
  simp [madeCells, u8v, Nat.mod_one]
theorem xor3_lt {a b c : List Nat} (ha : ∀ x ∈ a, x < 256) (hb : ∀ x ∈ b, x < 256) (hc : ∀ x ∈ c, x < 256) (n : Nat) : ∀ x ∈ xor3To a b c n n, x < 256 := by
  intro x hx
  rw [xor3To_full] at hx
  obtain ⟨i, -, rfl⟩ := List.mem_map.1 hx
  exact xor_lt8 (xor_lt8 (getD_lt ha _) (getD_lt hb _)) (getD_lt hc _)
theorem take_getD (l : List Nat) (n i : Nat) (h : i < n) : (l.take n).getD i 0 = l.getD i 0 := by
  simp [List.getD_eq_getElem?_getD, h]

set_option maxHeartbeats 4000000 in
set_option maxRecDepth 100000 in
theorem crcJoins_walk (a0 : Option Addr) (len0 cap0 : Nat) (z0 : List Int) (a1 : Option Addr) (len1 cap1 : Nat) (z1 : List Int) (a2 : Option Addr) (len2 cap2 : Nat) (z2 : List Int) (w : World) (w0 : IsRow .u8 w a0 len0 cap0 z0) (w1 : IsRow .u8 w a1 len1 cap1 z1) (w2 : IsRow .u8 w a2 len2 cap2 z2) :
    Calls Try.prog 6 #[.slice a0 len0 cap0, .slice a1 len1 cap1, .slice a2 len2 cap2] w fun e w' => e = .returned (.bool true) ∧ Below w.heap.size w w' := by
  have hcap0 : len0 ≤ cap0 := w0.open_.1
  have hcap1 : len1 ≤ cap1 := w1.open_.1
  have hcap2 : len2 ≤ cap2 := w2.open_.1
  obtain ⟨b0, hl0, hb0, hc0, hn0, hlen0⟩ := w0.u8
  obtain ⟨b1, hl1, hb1, hc1, hn1, hlen1⟩ := w1.u8
  obtain ⟨b2, hl2, hb2, hc2, hn2, hlen2⟩ := w2.u8
  have Hl0 := Lib.hid hl0; have Hl1 := Lib.hid hl1; have Hl2 := Lib.hid hl2; clear hl0 hl1 hl2
  have Hb0 := Lib.hid hb0; have Hb1 := Lib.hid hb1; have Hb2 := Lib.hid hb2; clear hb0 hb1 hb2
  obtain ⟨n, hn⟩ : ∃ n : Nat, n = min (min (min len0 len1) len2) 200 := ⟨_, rfl⟩
  have hmin := fun (w' : World) => run_min_int4 (P := Try.prog) (w := w') #[3, 3, 3, 3] 3 .i64 (len0 : Int) (len1 : Int) (len2 : Int) 200 (n : Int) (by omega)
  have e0 : n ≤ len0 := by omega
  have e1 : n ≤ len1 := by omega
  have e2 : n ≤ len2 := by omega
  have e3 : n ≤ 200 := by omega
  have q0 : (n : Int) ≤ cap0 := by omega
  have q1 : (n : Int) ≤ cap1 := by omega
  have q2 : (n : Int) ≤ cap2 := by omega
  clear hn
  obtain ⟨i0, hi, hz0, hz1, hz2⟩ := info_parts Try.infoU8
  go_enter Try.func6, Try.ntmps6
  go_wp2_with (first | (go_at_call 10; refine (known_any _).mono ?_; rintro e x1 ⟨rfl, hx1⟩) | (at_make; refine wpList_make_full _ rfl _ _ 24 rfl x1.heap.size 5 i0 (.int .u8 0) 1 Try.underlying24 hi hz0 hz1 _ _ _ _ n rfl rfl rfl rfl ?b2 ?b3 (Nat.le_refl _) ?_))
  case b2 => rw [hz2]; omega
  case b3 => unfold maxLen; omega
  intro y0 hown0 hgrow0
  clear hmin
  rw [madeU8'] at hown0
  have hy0 : Below w.heap.size w y0 := bmore hx1 ((Below.refl _ _).grown hgrow0 (Nat.le_refl _) (fun k h => by cases h))
  obtain ⟨g, hg⟩ : ∃ g, g = x1.heap.size := ⟨_, rfl⟩
  have hgw : w.heap.size ≤ g := by rw [hg]; exact hx1.size
  rw [← hg] at hown0 ⊢
  clear hg
  go_wp2
  go_loopw [9] (fun i wr => ∃ k : Nat, k ≤ n ∧ i = .int .i64 k ∧ wr.ownsRow g 5 1 (.slice (some ⟨g, 0, none⟩) n n) n (u8v (xor3To b0 b1 b2 n k)) ∧ Below w.heap.size w wr) (fun i _ => n - (intOf i).toNat)
  case atStart => exact ⟨0, Nat.zero_le _, rfl, by rw [xor3To_zero]; exact hown0, hy0⟩
  case round =>
    obtain ⟨k, hk, rfl, hown, hwr⟩ := hrel
    by_cases hkn : k < n
    · obtain ⟨p0, o0, rfl, hp0, c0⟩ := hc0 k (by omega)
      obtain ⟨p1, o1, rfl, hp1, c1⟩ := hc1 k (by omega)
      obtain ⟨p2, o2, rfl, hp2, c2⟩ := hc2 k (by omega)
      have c0' := (hwr.cell (by exact hp0)).trans c0
      have c1' := (hwr.cell (by exact hp1)).trans c1
      have c2' := (hwr.cell (by exact hp2)).trans c2
      clear c0 c1 c2 hc0 hc1 hc2
      obtain ⟨x, hx⟩ : ∃ x, x = b0.getD k 0 := ⟨_, rfl⟩
      obtain ⟨y, hy⟩ : ∃ y, y = b1.getD k 0 := ⟨_, rfl⟩
      obtain ⟨z, hz⟩ : ∃ z, z = b2.getD k 0 := ⟨_, rfl⟩
      rw [u8c, ← hx] at c0'
      rw [u8c, ← hy] at c1'
      rw [u8c, ← hz] at c2'
      have hx8 : x < 256 := by rw [hx]; exact getD_lt Hb0.out _
      have hy8 : y < 256 := by rw [hy]; exact getD_lt Hb1.out _
      have hz8 : z < 256 := by rw [hz]; exact getD_lt Hb2.out _
      have Hx := Lib.hid hx; have Hy := Lib.hid hy; have Hz := Lib.hid hz; clear hx hy hz
      have t1 := bits_xor_u8 x y hx8 hy8
      have t2 := bits_xor_u8 (x ^^^ y) z (xor_lt8 hx8 hy8) hz8
      have hfr := hown.frozenAt k
      have g0 : k < len0 := by omega
      have g1 : k < len1 := by omega
      have g2 : k < len2 := by omega
      have hs := stored_u8 hown k (x := (((x ^^^ y) ^^^ z : Nat) : Int)) rfl
      rw [Hx.out, Hy.out, Hz.out, xor3To_set b0 b1 b2 n k hkn] at hs
      have hcell := cell_u8 hown k hkn
      rw [← Hx.out, ← Hy.out, ← Hz.out] at hs
      have hbs : Below w.heap.size w (wr.setCell ⟨g, k, none⟩ (.int .u8 (((x ^^^ y) ^^^ z : Nat) : Int))).drew := (hwr.setCell (by exact hgw) _).drew
      have Hs := Lib.hid hs.drew; clear hs
      clear hown
      go_wp2
      go_region
      go_wp2
      go_roundw
      case rel => exact ⟨k + 1, by omega, by go_num, Hs.out, hbs⟩
      case measure => simp [intOf]; omega
    · obtain rfl : k = n := by omega
      have h3 : csum (xor3To b0 b1 b2 k k) = csum (b0.take k) ^^^ csum (b1.take k) ^^^ csum (b2.take k) := by
        refine csum_three _ _ _ _ ?_ ?_ ?_ ?_
        · rw [xor3To_length, List.length_take, Hl0.out]; omega
        · rw [xor3To_length, List.length_take, Hl1.out]; omega
        · rw [xor3To_length, List.length_take, Hl2.out]; omega
        · rw [xor3To_full, ← big_xor3 _ _ _ k (by rw [List.length_take, Hl0.out]; omega) (by rw [List.length_take, Hl1.out]; omega) (by rw [List.length_take, Hl2.out]; omega)]
          congr 1
          refine List.map_congr_left fun i hi => ?_
          have := List.mem_range.1 hi
          rw [take_getD _ _ _ this, take_getD _ _ _ this, take_getD _ _ _ this]
      obtain ⟨X, hX⟩ : ∃ X, Hid (X = xor3To b0 b1 b2 k k) := ⟨_, Lib.hid rfl⟩
      have hX8 : Hid (∀ x ∈ X, x < 256) := Lib.hid (by rw [hX.out]; exact xor3_lt Hb0.out Hb1.out Hb2.out k)
      have hXl : Hid (X.length = k) := Lib.hid (by rw [hX.out]; exact xor3To_length _ _ _ _ _)
      rw [← hX.out] at hown h3
      obtain ⟨ao', cap', hv, hcX, -⟩ := own_u8 hown
      simp only [Value.slice.injEq, true_and] at hv
      obtain ⟨rfl, rfl⟩ := hv
      have T0 : CellsAt wr wr.heap.size a0 k (u8c (b0.take k)) := ((hc0.at hwr).take e0).congr (fun i hi => (u8c_take _ _ _ hi).symm)
      have T1 : CellsAt wr wr.heap.size a1 k (u8c (b1.take k)) := ((hc1.at hwr).take e1).congr (fun i hi => (u8c_take _ _ _ hi).symm)
      have T2 : CellsAt wr wr.heap.size a2 k (u8c (b2.take k)) := ((hc2.at hwr).take e2).congr (fun i hi => (u8c_take _ _ _ hi).symm)
      have L0 : Hid ((b0.take k).length = k) := Lib.hid (by rw [List.length_take, Hl0.out]; omega)
      have L1 : Hid ((b1.take k).length = k) := Lib.hid (by rw [List.length_take, Hl1.out]; omega)
      have L2 : Hid ((b2.take k).length = k) := Lib.hid (by rw [List.length_take, Hl2.out]; omega)
      have B0 : Hid (∀ x ∈ b0.take k, x < 256) := Lib.hid (fun x hx => Hb0.out x (List.mem_of_mem_take hx))
      have B1 : Hid (∀ x ∈ b1.take k, x < 256) := Lib.hid (fun x hx => Hb1.out x (List.mem_of_mem_take hx))
      have B2 : Hid (∀ x ∈ b2.take k, x < 256) := Lib.hid (fun x hx => Hb2.out x (List.mem_of_mem_take hx))
      obtain ⟨s0, hs0⟩ : ∃ s, Hid (s = csum (b0.take k)) := ⟨_, Lib.hid rfl⟩
      obtain ⟨s1, hs1⟩ : ∃ s, Hid (s = csum (b1.take k)) := ⟨_, Lib.hid rfl⟩
      obtain ⟨s2, hs2⟩ : ∃ s, Hid (s = csum (b2.take k)) := ⟨_, Lib.hid rfl⟩
      have r0 : s0 < 4294967296 := by rw [hs0.out]; exact csum_lt _ B0.out
      have r1 : s1 < 4294967296 := by rw [hs1.out]; exact csum_lt _ B1.out
      have r2 : s2 < 4294967296 := by rw [hs2.out]; exact csum_lt _ B2.out
      have x1' := bits_xor_u32 s0 s1 r0 r1
      have x2' := bits_xor_u32 (s0 ^^^ s1) s2 (by have := @Nat.xor_lt_two_pow s0 s1 32 (by omega) (by omega); simpa using this) r2
      rw [← hs0.out, ← hs1.out, ← hs2.out] at h3
      have H3 := Lib.hid h3; clear h3
      have hkle : k ≤ 9223372036854775807 := by omega
      clear hc0 hc1 hc2 hown hown0
      go_wp2
      refine wp_region_relyF [(0, true), (3, true), (4, true), (5, true), (8, true), (9, true), (10, true), (14, true), (15, true), (16, true)]
        [(1, some 44, []), (2, some 45, [(1, 44)]), (6, some 49, []), (7, some 50, [(6, 49)]), (11, some 54, []), (12, some 55, [(11, 54)]), (13, some 56, [(7, 50), (12, 55)]), (17, some 60, []), (18, some 61, [(17, 60)]), (19, some 62, [(13, 56), (18, 61)]), (20, some 63, [(2, 45), (19, 62)]), (21, some 6, [(20, 63)])]
        (fun i => match i with
          | 1 => SP.part X | 2 => SP.val (.int .u32 (csum X : Nat)) | 6 => SP.part (b0.take k) | 7 => SP.val (.int .u32 (s0 : Nat)) | 11 => SP.part (b1.take k) | 12 => SP.val (.int .u32 (s1 : Nat))
          | 13 => SP.val (.int .u32 ((s0 ^^^ s1 : Nat) : Int)) | 17 => SP.part (b2.take k) | 18 => SP.val (.int .u32 (s2 : Nat)) | 19 => SP.val (.int .u32 (((s0 ^^^ s1) ^^^ s2 : Nat) : Int)) | 20 => SP.val (.bool true) | 21 => SP.val (.bool true) | _ => SP.any)
        (by kernel_rfl) (by kernel_rfl) (fun d _ _ _ _ h => by cases d <;> exact h) (fun d _ _ _ _ h => by cases d <;> exact h) ?_
      repeat (first
        | (refine wpLinK_skip rfl rfl (fun K hK => ?_); go_simp; refine hK _ ?_; clear hK K)
        | (refine wpLinK_take (v := ?_) rfl rfl (fun w' hw' => ?_) (fun K hK => ?_); rotate_left; (go_simp; rfl); (go_simp; refine hK _ ?_; clear hK K)))
      refine relyRest_mk ?_ (fun w1 hg => ?_)
      · refine relySteps_cons rfl (fun w1 hg => relyStep_nil (fun K hK => ?_)) ?_
        · go_simp
          exact hK _ _ ((Grows.refl _).alloc _) ⟨_, rfl, one_part rfl hXl.out hkle ((Grows.toDrew hg).cells hcX)⟩
        refine relySteps_cons rfl (fun w1 hg => relyStep_cons (fun v hv => relyStep_nil (fun K hK => ?_))) ?_
        · obtain ⟨g1, rfl, hp⟩ := hv
          go_simp
          refine (sum_one _ X _ hX8.out hp _).mono ?_
          rintro e x4 ⟨rfl, rfl⟩
          exact hK _ _ (Grows.refl _) rfl
        refine relySteps_cons rfl (fun w1 hg => relyStep_nil (fun K hK => ?_)) ?_
        · go_simp
          exact hK _ _ ((Grows.refl _).alloc _) ⟨_, rfl, one_part rfl L0.out hkle ((Grows.toDrew hg).cells T0)⟩
        refine relySteps_cons rfl (fun w1 hg => relyStep_cons (fun v hv => relyStep_nil (fun K hK => ?_))) ?_
        · obtain ⟨g1, rfl, hp⟩ := hv
          go_simp
          refine (sum_one _ (b0.take k) _ B0.out hp _).mono ?_
          rw [← hs0.out]
          rintro e x4 ⟨rfl, rfl⟩
          exact hK _ _ (Grows.refl _) rfl
        refine relySteps_cons rfl (fun w1 hg => relyStep_nil (fun K hK => ?_)) ?_
        · go_simp
          exact hK _ _ ((Grows.refl _).alloc _) ⟨_, rfl, one_part rfl L1.out hkle ((Grows.toDrew hg).cells T1)⟩
        refine relySteps_cons rfl (fun w1 hg => relyStep_cons (fun v hv => relyStep_nil (fun K hK => ?_))) ?_
        · obtain ⟨g1, rfl, hp⟩ := hv
          go_simp
          refine (sum_one _ (b1.take k) _ B1.out hp _).mono ?_
          rw [← hs1.out]
          rintro e x4 ⟨rfl, rfl⟩
          exact hK _ _ (Grows.refl _) rfl
        refine relySteps_cons rfl (fun w1 hg => relyStep_cons (fun v hv => relyStep_cons (fun v2 hv2 => relyStep_nil (fun K hK => ?_)))) ?_
        · obtain rfl := SP.val_eq hv
          obtain rfl := SP.val_eq hv2
          go_simp
          exact hK _ _ (Grows.refl _) rfl
        refine relySteps_cons rfl (fun w1 hg => relyStep_nil (fun K hK => ?_)) ?_
        · go_simp
          exact hK _ _ ((Grows.refl _).alloc _) ⟨_, rfl, one_part rfl L2.out hkle ((Grows.toDrew hg).cells T2)⟩
        refine relySteps_cons rfl (fun w1 hg => relyStep_cons (fun v hv => relyStep_nil (fun K hK => ?_))) ?_
        · obtain ⟨g1, rfl, hp⟩ := hv
          go_simp
          refine (sum_one _ (b2.take k) _ B2.out hp _).mono ?_
          rw [← hs2.out]
          rintro e x4 ⟨rfl, rfl⟩
          exact hK _ _ (Grows.refl _) rfl
        refine relySteps_cons rfl (fun w1 hg => relyStep_cons (fun v hv => relyStep_cons (fun v2 hv2 => relyStep_nil (fun K hK => ?_)))) ?_
        · obtain rfl := SP.val_eq hv
          obtain rfl := SP.val_eq hv2
          go_simp
          exact hK _ _ (Grows.refl _) rfl
        refine relySteps_cons rfl (fun w1 hg => relyStep_cons (fun v hv => relyStep_cons (fun v2 hv2 => relyStep_nil (fun K hK => ?_)))) ?_
        · obtain rfl := SP.val_eq hv
          obtain rfl := SP.val_eq hv2
          have hb : (((csum X : Nat) : Int) == (((s0 ^^^ s1) ^^^ s2 : Nat) : Int)) = true := by rw [H3.out]; simp
          go_simp
          exact hK _ _ (Grows.refl _) rfl
        refine relySteps_cons rfl (fun w1 hg => relyStep_cons (fun v hv => relyStep_nil (fun K hK => ?_))) relySteps_nil
        · obtain rfl := SP.val_eq hv
          go_simp
          exact hK _ _ (Grows.refl _) rfl
      · iterate 11 (refine relyEnd_cons (fun _ _ => ?_))
        refine relyEnd_cons (fun v hv => relyEnd_nil ?_)
        obtain rfl := SP.val_eq hv
        go_wp2
        go_ret
        exact ⟨rfl, bmore hwr (Grows.toDrew hg)⟩
end Go.Proofs.Ytpcfelccanmggaa
