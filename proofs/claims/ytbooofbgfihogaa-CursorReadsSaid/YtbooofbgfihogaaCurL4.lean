/- Chapter 1: the law CursorBack. -/
import Derived.Test.YtbooofbgfihogaaCurL3
namespace Go.Proofs.Ytbooofbgfihogaa
open Go.RowKit
set_option linter.unusedVariables false

/-- The bytes of the first k numbers. -/
def cbB (vs : List Nat) (ns : List Int) : Nat → List Nat
  | 0 => []
  | k + 1 => cbB vs ns k ++ lowB (vs.getD k 0) (ns.getD k 0 % 9).toNat
theorem n9 (a : Int) : (a % 9).toNat ≤ 8 := by omega
theorem cbB_len (vs : List Nat) (ns : List Int) (k : Nat) : (cbB vs ns k).length ≤ 8 * k := by
  induction k with
  | zero => simp [cbB]
  | succ k ih => simp only [cbB, List.length_append, lowB_length]; have := n9 (ns.getD k 0); omega
theorem cbB_mono (vs : List Nat) (ns : List Int) (k m : Nat) : ∃ r, cbB vs ns (k + m) = cbB vs ns k ++ r := by
  induction m with
  | zero => exact ⟨[], by simp⟩
  | succ m ih => obtain ⟨r, hr⟩ := ih; exact ⟨r ++ lowB (vs.getD (k + m) 0) (ns.getD (k + m) 0 % 9).toNat, by rw [← Nat.add_assoc, cbB, hr, List.append_assoc]⟩
/-- What is left behind the first k numbers. -/
def cbR (vs : List Nat) (ns : List Int) (N k : Nat) : List Nat := (cbB vs ns N).drop (cbB vs ns k).length
theorem cbR_step (vs : List Nat) (ns : List Int) (N k : Nat) (h : k < N) : cbR vs ns N k = lowB (vs.getD k 0) (ns.getD k 0 % 9).toNat ++ cbR vs ns N (k + 1) := by
  obtain ⟨r, hr⟩ := cbB_mono vs ns (k + 1) (N - (k + 1))
  rw [show k + 1 + (N - (k + 1)) = N by omega] at hr
  unfold cbR
  rw [hr, List.drop_left, cbB, List.append_assoc, List.drop_left]
theorem lowB_lt (v n : Nat) : ∀ x ∈ lowB v n, x < 256 := by
  induction n with
  | zero => simp [lowB]
  | succ n ih =>
    intro x hx
    rcases List.mem_append.1 hx with h | h
    · exact ih x h
    · rw [List.mem_singleton] at h; rw [h]; exact Nat.mod_lt _ (by decide)
theorem numB_lowB (v n : Nat) : numB (lowB v n) = v % 2 ^ (8 * n) := by
  induction n with
  | zero => simp [lowB, numB, Nat.mod_one]
  | succ n ih =>
    rw [lowB, numB_append, ih, lowB_length, show (256 : Nat) = 2 ^ 8 from rfl, ← Nat.pow_mul]
    simp only [numB, Nat.mul_zero, Nat.add_zero]
    rw [show 8 * (n + 1) = 8 * n + 8 by omega, Nat.pow_add, Nat.mod_mul]
theorem cbB_lt (vs : List Nat) (ns : List Int) (k : Nat) : ∀ x ∈ cbB vs ns k, x < 256 := by
  induction k with
  | zero => simp [cbB]
  | succ k ih =>
    intro x hx
    rcases List.mem_append.1 hx with h | h
    · exact ih x h
    · exact lowB_lt _ _ x h
theorem cbR_get (vs : List Nat) (ns : List Int) (N k : Nat) (h : k < N) :
    rdGet (cbR vs ns N k) 0 (((ns.getD k 0 % 9).toNat : Nat) : Int) = (vs.getD k 0 % 2 ^ (8 * (ns.getD k 0 % 9).toNat), cbR vs ns N (k + 1), 0) := by
  have h9 := n9 (ns.getD k 0)
  rw [cbR_step vs ns N k h]
  unfold rdGet
  rw [if_neg (by omega)]
  unfold rdTake
  rw [if_neg (by rw [List.length_append, lowB_length]; omega), Int.toNat_natCast]
  have hl := lowB_length (vs.getD k 0) (ns.getD k 0 % 9).toNat
  simp only
  rw [List.take_append_of_le_length (by omega), List.take_of_length_le (by omega), numB_lowB, List.drop_append_of_le_length (by omega), List.drop_of_length_le (by omega), List.nil_append]
theorem cbR_end (vs : List Nat) (ns : List Int) (N : Nat) : cbR vs ns N N = [] := by
  unfold cbR; exact List.drop_of_length_le (Nat.le_refl _)

theorem mask64 (vv n : Nat) (hn : n < 8) (hv : vv < 18446744073709551616) :
    bits .and .u64 ((vv : Nat) : Int) (IntKind.u64.wrap (IntKind.u64.wrap (2 ^ (8 * n)) - 1)) = ((vv % 2 ^ (8 * n) : Nat) : Int) := by
  have h1 : 2 ^ (8 * n) ≤ 2 ^ 56 := Nat.pow_le_pow_right (by decide) (by omega)
  have h2 : 0 < 2 ^ (8 * n) := Nat.pow_pos (by decide)
  have e : ((2 : Int) ^ (8 * n)) = ((2 ^ (8 * n) : Nat) : Int) := by rw [Int.natCast_pow]; rfl
  rw [e, IntWalk.u64_in ((2 ^ (8 * n) : Nat) : Int) (by omega), show ((2 ^ (8 * n) : Nat) : Int) - 1 = ((2 ^ (8 * n) - 1 : Nat) : Int) by omega, IntWalk.u64_in _ (by omega)]
  refine (bits_and_u64_nat _ _ hv (by omega)).trans ?_
  rw [Nat.and_two_pow_sub_one_eq_mod]
theorem getD64 {l : List Nat} (h : ∀ x ∈ l, x < 18446744073709551616) (j : Nat) : l.getD j 0 < 18446744073709551616 := by
  rw [List.getD_eq_getElem?_getD]
  rcases Nat.lt_or_ge j l.length with hj | hj
  · rw [List.getElem?_eq_getElem hj]; exact h _ (List.getElem_mem _)
  · rw [List.getElem?_eq_none hj]; decide

set_option maxHeartbeats 4000000 in
set_option maxRecDepth 100000 in
theorem cursorBack_walk (a0 : Option Addr) (len0 cap0 : Nat) (z0 : List Int) (a1 : Option Addr) (len1 cap1 : Nat) (z1 : List Int)
    (w : World) (w0 : IsRow .u64 w a0 len0 cap0 z0) (w1 : IsRow .i64 w a1 len1 cap1 z1) :
    Calls Try.prog 5 #[.slice a0 len0 cap0, .slice a1 len1 cap1] w fun e w' => e = .returned (.bool true) ∧ Below w.heap.size w w' := by
  obtain ⟨vs, hl, hb, hc, hn, hlen⟩ := w0.u64
  obtain ⟨cs, hcl, hcb, hcc, hcn, hclen⟩ := w1.i64
  have Hl := Lib.hid hl; clear hl
  have Hb := Lib.hid hb; clear hb
  have Hcl := Lib.hid hcl; clear hcl
  have Hcb := Lib.hid hcb; clear hcb
  go_enter Try.func5, Try.ntmps5
  go_upto_region 4 with (go_at_call 9; refine (known_any _).mono ?_; rintro e x1 ⟨rfl, hx1⟩)
  go_cut [6] (fun v wx => ∃ N : Nat, v = .int .i64 N ∧ N ≤ len0 ∧ N ≤ len1 ∧ N ≤ 30 ∧ wx = x1)
  case first =>
    go_wp2
    all_goals
      go_meet
      first
        | exact ⟨len0, rfl, by omega, by omega, by omega, rfl⟩
        | exact ⟨len1, rfl, by omega, by omega, by omega, rfl⟩
        | exact ⟨30, rfl, by omega, by omega, by omega, rfl⟩
        | trace_state
  case rest =>
    obtain ⟨N, rfl, hN0, hN1, hN30, rfl⟩ := hcut
    go_wp2
    go_loopw [5, 7] (fun b i wr => ∃ (k : Nat) (ao : Option Addr) (cap : Nat), k ≤ N ∧ b = .slice ao (cbB vs cs k).length cap ∧ i = .int .i64 k ∧ CellsAt wr wr.heap.size ao (cbB vs cs k).length (u8c (cbB vs cs k)) ∧ (ao = none → (cbB vs cs k).length = 0) ∧ Below w.heap.size w wr) (fun _ i _ => N - (intOf i).toNat)
    case atStart => exact ⟨0, none, 0, by omega, rfl, rfl, CellsAt.zero, fun _ => rfl, hx1⟩
    case round =>
      obtain ⟨k, ao, cap, hk, rfl, rfl, hcb, hnb, hwr⟩ := hrel
      by_cases hkN : k < N
      · obtain ⟨b, off, rfl, hbb, hc1⟩ := hc k (by omega)
        obtain ⟨b2, off2, rfl, hbb2, hc2⟩ := hcc k (by omega)
        have hc1' := (hwr.cell (by exact hbb)).trans hc1
        have hc2' := (hwr.cell (by exact hbb2)).trans hc2
        have hlt64 := getD64 Hb.out k
        obtain ⟨av, hav⟩ : ∃ av, av = cs.getD k 0 := ⟨_, rfl⟩
        obtain ⟨vv, hvv⟩ : ∃ vv, vv = vs.getD k 0 := ⟨_, rfl⟩
        have hav64 : -9223372036854775808 ≤ av ∧ av ≤ 9223372036854775807 := by
          rw [hav, List.getD_eq_getElem?_getD, List.getElem?_eq_getElem (by rw [Hcl.out]; omega)]
          exact Hcb.out _ (List.getElem_mem _)
        rw [i64c, ← hav] at hc2'
        rw [u64c, ← hvv] at hc1'
        rw [← hvv] at hlt64
        obtain ⟨n, hn2, hnl⟩ := modN av 9 (by decide)
        have Hn := Lib.hid hn2
        have Hav := Lib.hid hav
        have Hvv := Lib.hid hvv
        have hlen8 := Lib.hid (cbB_len vs cs k)
        have hwi : ∀ w, Calls Try.prog 11 #[.int .i64 av, .int .i64 9] w fun e w' => e = .returned (.int .i64 (n : Nat)) ∧ w' = w := fun w => by
          have := same_flip (within_any av 9 w (by omega) (by omega) hav64.1 hav64.2)
          rwa [show av % 9 = n from hn2] at this
        have Hwi := Lib.hid hwi
        have e1 : (k : Int) < (N : Int) := by omega
        have e2 : (k : Int) < (len0 : Int) := by omega
        have e3 : (k : Int) < (len1 : Int) := by omega
        have e4 : (0 : Int) ≤ (k : Int) := by omega
        clear hwi hn2 hav hvv hc1 hc2 hc hcc
        go_wp2
        go_still_tail 10, (by kernel_rfl)
        still_call (Hwi.out _)
        repeat still_step
        refine wpStill_nil ?_
        change wpList _ _ _ _ _ wr.drew
        go_wp2_with fail
        refine (put_any _ _ _ (cbB vs cs k) (n : Nat) vv wr.drew rfl hcb.drew hnb (by have := hlen8.out; omega) hlt64).mono ?_
        rw [show putB (cbB vs cs k) (n : Nat) vv = cbB vs cs (k + 1) by
          unfold putB; rw [if_neg (by omega), Int.toNat_natCast, cbB, ← Hvv.out, ← Hav.out, show av % 9 = n from Hn.out, Int.toNat_natCast]]
        rintro e w5 ⟨ao5, cap5, rfl, hc5, hn5, -, hx5⟩
        have hx5 := Lib.hid (hwr.drew.trans (hx5.mono (by exact hwr.size)))
        go_wp2
        go_roundw
        case rel => exact ⟨k + 1, ao5, cap5, by omega, rfl, by go_num, hc5, hn5, hx5.out⟩
        case measure => simp [intOf]; omega
      · obtain rfl : k = N := by omega
        have hlen8 := Lib.hid (cbB_len vs cs k)
        go_wp2_with fail
        refine (new_any _ _ _ (cbB vs cs k) _ rfl hcb hnb (by have := hlen8.out; omega)).mono ?_
        rintro e x2 ⟨g, rfl, hg, hr2, hx2⟩
        have hgw : w.heap.size ≤ g := Nat.le_trans hwr.size hg
        have hx2 := bmore hwr hx2
        obtain ⟨lo, hlo⟩ : ∃ lo, lo = wr.heap.size := ⟨_, rfl⟩
        rw [← hlo] at hr2
        clear hg hlo hcb hnb hwr
        go_wp2
        go_loopw [9] (fun i wy => ∃ j : Nat, j ≤ k ∧ i = .int .i64 j ∧ Rd wy g lo (cbR vs cs k j) 0 ∧ Below w.heap.size w wy) (fun i _ => k - (intOf i).toNat)
        case atStart => exact ⟨0, by omega, rfl, hr2, hx2⟩
        case round =>
          obtain ⟨j, hj, rfl, hr, hwy⟩ := hrel
          by_cases hjk : j < k
          · obtain ⟨b, off, rfl, hbb, hc1⟩ := hc j (by omega)
            obtain ⟨b2, off2, rfl, hbb2, hc2⟩ := hcc j (by omega)
            have hc1' := (hwy.cell (by exact hbb)).trans hc1
            have hc2' := (hwy.cell (by exact hbb2)).trans hc2
            have hlt64 := getD64 Hb.out j
            have hget := cbR_get vs cs k j hjk
            obtain ⟨av, hav⟩ : ∃ av, av = cs.getD j 0 := ⟨_, rfl⟩
            obtain ⟨vv, hvv⟩ : ∃ vv, vv = vs.getD j 0 := ⟨_, rfl⟩
            have hav64 : -9223372036854775808 ≤ av ∧ av ≤ 9223372036854775807 := by
              rw [hav, List.getD_eq_getElem?_getD, List.getElem?_eq_getElem (by rw [Hcl.out]; omega)]
              exact Hcb.out _ (List.getElem_mem _)
            rw [i64c, ← hav] at hc2'
            rw [u64c, ← hvv] at hc1'
            rw [← hvv] at hlt64
            obtain ⟨n, hn2, hnl⟩ := modN av 9 (by decide)
            rw [← hav, ← hvv, show av % 9 = n from hn2, Int.toNat_natCast] at hget
            have Hn := Lib.hid hn2
            have Hget := Lib.hid hget
            have e1 : (j : Int) < (k : Int) := by omega
            have e2 : (j : Int) < (len0 : Int) := by omega
            have e3 : (j : Int) < (len1 : Int) := by omega
            have e4 : (0 : Int) ≤ (j : Int) := by omega
            have hRl : (cbR vs cs k j).length ≤ 240 := by unfold cbR; rw [List.length_drop]; have := hlen8.out; omega
            have hR256 := Lib.hid (fun x hx => cbB_lt vs cs k x (List.mem_of_mem_drop (show x ∈ (cbB vs cs k).drop (cbB vs cs j).length from hx)))
            clear hn2 hav hvv hc1 hc2 hc hcc hget
            by_cases hn8 : n < 8
            · have e5 : (n : Int) < 8 := by omega
              have e6 : IntKind.i64.wrap (8 * (n : Int)) = ((8 * n : Nat) : Int) := by rw [IntWalk.i64_in _ (by omega)]; omega
              go_wp2_with fail
              refine (within_any av 9 _ (by omega) (by omega) hav64.1 hav64.2).mono ?_; rw [show av % 9 = n from Hn.out]; rintro e x4 ⟨rfl, rfl⟩
              go_wp2_with fail
              rw [mask64 vv n hn8 hlt64]
              refine (get_any _ _ _ (n : Nat) _ hr (by omega) hR256.out).mono ?_
              rw [Hget.out]
              rintro e x5 ⟨rfl, hr5, hb5⟩
              have hx5 := Lib.hid (hb5.below hwy hgw hwy.size)
              have Hr5 := Lib.hid hr5
              clear hr5 hb5 hr hwy
              go_wp2
              go_roundw
              case rel => exact ⟨j + 1, by omega, by go_num, Hr5.out, hx5.out⟩
              case measure => simp [intOf]; omega
            · obtain rfl : n = 8 := by omega
              have e7 : vv % 2 ^ (8 * 8) = vv := Nat.mod_eq_of_lt (by simpa using hlt64)
              rw [e7] at Hget
              clear e7
              go_wp2_with fail
              refine (within_any av 9 _ (by omega) (by omega) hav64.1 hav64.2).mono ?_; rw [show av % 9 = (8 : Nat) from Hn.out]; rintro e x4 ⟨rfl, rfl⟩
              go_wp2_with fail
              refine (get_any _ _ _ (8 : Nat) _ hr (by omega) hR256.out).mono ?_
              rw [Hget.out]
              rintro e x5 ⟨rfl, hr5, hb5⟩
              have hx5 := Lib.hid (hb5.below hwy hgw hwy.size)
              have Hr5 := Lib.hid hr5
              clear hr5 hb5 hr hwy
              go_wp2
              go_roundw
              case rel => exact ⟨j + 1, by omega, by go_num, Hr5.out, hx5.out⟩
              case measure => simp [intOf]; omega
          · obtain rfl : j = k := by omega
            rw [cbR_end] at hr
            go_wp2_with fail
            refine (left_any _ _ _ _ hr).mono ?_
            rintro e x4 ⟨rfl, rfl⟩
            go_wp2_with fail
            refine (end_any _ _ _ _ hr).mono ?_
            rw [show rdEnd [] 0 = 0 from rfl]
            rintro e x4 ⟨rfl, rfl⟩
            go_wp2
            go_ret
            exact ⟨rfl, hwy⟩
end Go.Proofs.Ytbooofbgfihogaa
