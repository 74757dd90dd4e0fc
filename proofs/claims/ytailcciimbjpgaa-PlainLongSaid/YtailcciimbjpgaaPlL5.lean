/- Chapter 11: the law PlainLong. -/
import Derived.Test.YtailcciimbjpgaaPlL3
import Derived.Test.YtailcciimbjpgaaZeros
namespace Go.Proofs.Ytailcciimbjpgaa
open Go.RowKit
set_option linter.unusedVariables false

/-- What is read of the law's bytes. -/
theorem long_ok (n : Nat) (h : n ≤ 100) : decodeM 4 ([n, 0, 0, 0] ++ List.replicate n 0) 1 = ([(0, strOf (List.replicate n 0))], 0) := by
  have e : ([n, 0, 0, 0] : List Nat) = lowB n 4 := by
    simp only [lowB, List.nil_append, List.cons_append]
    rw [show n / 2 ^ (8 * 0) % 256 = n by omega, show n / 2 ^ (8 * 1) % 256 = 0 by omega, show n / 2 ^ (8 * 2) % 256 = 0 by omega, show n / 2 ^ (8 * 3) % 256 = 0 by omega]
  have g := rdGet_app n (List.replicate n 0) 4 (by decide)
  rw [Nat.mod_eq_of_lt (show n < 2 ^ (8 * 4) by omega)] at g
  have t := rdTake_app (List.replicate n 0) [] n (by simp)
  rw [List.append_nil] at t
  have hv : valueM 4 (lowB n 4 ++ List.replicate n 0) 0 = ((0, strOf (List.replicate n 0)), [], 0) := by
    unfold valueM
    simp only [show (4 : Nat) = 2 ↔ False from by decide, show (4 : Nat) = 3 ↔ False from by decide, if_false]
    rw [show ((4 : Int)) = ((4 : Nat) : Int) from rfl, g]
    simp only [if_neg (show ¬ 100 < n by omega)]
    rw [t]
  unfold decodeM
  rw [if_neg (by decide), if_neg (by decide), e]
  show decM 4 (lowB n 4 ++ List.replicate n 0) 1 = _
  unfold decM
  simp only [decSt, hv]
  rfl
theorem long_no (n : Nat) (h : 100 < n) (h2 : n < 256) : decodeM 4 ([n, 0, 0, 0] ++ List.replicate n 0) 1 = ([], 5) := by
  have e : ([n, 0, 0, 0] : List Nat) = lowB n 4 := by
    simp only [lowB, List.nil_append, List.cons_append]
    rw [show n / 2 ^ (8 * 0) % 256 = n by omega, show n / 2 ^ (8 * 1) % 256 = 0 by omega, show n / 2 ^ (8 * 2) % 256 = 0 by omega, show n / 2 ^ (8 * 3) % 256 = 0 by omega]
  have g := rdGet_app n (List.replicate n 0) 4 (by decide)
  rw [Nat.mod_eq_of_lt (show n < 2 ^ (8 * 4) by omega)] at g
  have hv : valueM 4 (lowB n 4 ++ List.replicate n 0) 0 = (vl0, [], 5) := by
    unfold valueM
    simp only [show (4 : Nat) = 2 ↔ False from by decide, show (4 : Nat) = 3 ↔ False from by decide, if_false]
    rw [show ((4 : Int)) = ((4 : Nat) : Int) from rfl, g]
    simp only [if_pos h]
    rfl
  unfold decodeM
  rw [if_neg (by decide), if_neg (by decide), e]
  show decM 4 (lowB n 4 ++ List.replicate n 0) 1 = _
  unfold decM
  simp only [decSt, hv]
  rfl
theorem strOf_size (l : List Nat) : (strOf l).size = l.length := by
  show (strOf l).data.size = _
  rw [← Array.length_toList, strOf, strOfNums_data]; simp

set_option maxHeartbeats 2000000 in
set_option maxRecDepth 100000 in
theorem plainLong_walk (a0 : Int) (w : World) (w0 : (Lit.int .i64 a0).wf = true) :
    Calls Try.prog 8 #[.int .i64 a0] w fun e w' => e = .returned (.bool true) ∧ Below w.heap.size w w' := by
  obtain ⟨ha1, ha2⟩ := bounds_i64 w0
  obtain ⟨q, hq, hq8⟩ := modN' a0 8 (by decide)
  have Hq : Hid (a0 % 8 = (q : Int)) := Lib.hid hq
  clear hq
  obtain ⟨n, hn⟩ : ∃ n : Nat, n = 97 + q := ⟨_, rfl⟩
  have hn2 : (97 : Int) + (q : Int) = (n : Nat) := by omega
  have hn97 : 97 ≤ n := by omega
  have hn104 : n ≤ 104 := by omega
  clear hn hq8
  have hw : IntKind.u8.wrap (n : Int) = (n : Nat) := by rw [IntKind.wrap_u8]; omega
  have Hok : Hid (n ≤ 100 → decodeM 4 (n :: 0 :: 0 :: 0 :: List.replicate n 0) 1 = ([(0, strOf (List.replicate n 0))], 0)) := Lib.hid (long_ok n)
  have Hno : Hid (100 < n → n < 256 → decodeM 4 (n :: 0 :: 0 :: 0 :: List.replicate n 0) 1 = ([], 5)) := Lib.hid (long_no n)
  by_cases h100 : 100 < n
  · go_enter Try.func8, Try.ntmps8
    go_wp2_with (go_at_call 10; refine (known_any _).mono ?_; rintro e x1 ⟨rfl, hx1⟩)
    refine (within_any _ _ _ (by omega) (by omega) ha1 ha2).mono ?_; rw [Hq.out]; rintro e x2 ⟨rfl, rfl⟩
    go_wp2_with (at_builtin; refine wpList_append_zeros rfl (.tmp 13) (.tmp 14) rfl rfl (own_lit x1 [n, 0, 0, 0] #[.int .u8 (n : Nat), .int .u8 0, .int .u8 0, .int .u8 0] rfl (by simp) 4 rfl) (k := n) rfl (by omega) (by simp) ?_)
    intro v2 x2 ho2 hg2
    have hx2 : Below w.heap.size w x2 := (balloc hx1 _).grown hg2 (balloc hx1 _).size (fun k hk => by simp only [Value.ownBlock, Option.some.injEq] at hk; subst hk; exact hx1.size)
    obtain ⟨ao, cap, rfl, hl, hc, hz⟩ := own_u8c ho2
    have Hl := Lib.hid hl
    have hb : Hid (∀ x ∈ [n, 0, 0, 0] ++ List.replicate n 0, x < 256) := Lib.hid (by
      intro x hx
      simp only [List.cons_append, List.nil_append, List.mem_cons, List.mem_replicate] at hx
      omega)
    clear hl ho2 hg2
    go_wp2_with fail
    refine (decode_any 4 ao (4 + n) cap _ 1 _ Hl.out hb.out (by omega) hc (fun e => (hz e).1)).mono ?_
    rw [Hno.out h100 (by omega)]
    intro e x3 h
    obtain ⟨v, rfl, ho, hb3⟩ := h
    obtain ⟨ao3, cap3, rfl, -, -, -, -, -⟩ := own_v ho
    have hx3 := bmore hx2 hb3
    clear ho hb3
    go_wp2
    go_ret
    exact ⟨rfl, hx3⟩
  · go_enter Try.func8, Try.ntmps8
    go_wp2_with (go_at_call 10; refine (known_any _).mono ?_; rintro e x1 ⟨rfl, hx1⟩)
    refine (within_any _ _ _ (by omega) (by omega) ha1 ha2).mono ?_; rw [Hq.out]; rintro e x2 ⟨rfl, rfl⟩
    go_wp2_with (at_builtin; refine wpList_append_zeros rfl (.tmp 13) (.tmp 14) rfl rfl (own_lit x1 [n, 0, 0, 0] #[.int .u8 (n : Nat), .int .u8 0, .int .u8 0, .int .u8 0] rfl (by simp) 4 rfl) (k := n) rfl (by omega) (by simp) ?_)
    intro v2 x2 ho2 hg2
    have hx2 : Below w.heap.size w x2 := (balloc hx1 _).grown hg2 (balloc hx1 _).size (fun k hk => by simp only [Value.ownBlock, Option.some.injEq] at hk; subst hk; exact hx1.size)
    obtain ⟨ao, cap, rfl, hl, hc, hz⟩ := own_u8c ho2
    have Hl := Lib.hid hl
    have hb : Hid (∀ x ∈ [n, 0, 0, 0] ++ List.replicate n 0, x < 256) := Lib.hid (by
      intro x hx
      simp only [List.cons_append, List.nil_append, List.mem_cons, List.mem_replicate] at hx
      omega)
    clear hl ho2 hg2
    go_wp2_with fail
    refine (decode_any 4 ao (4 + n) cap _ 1 _ Hl.out hb.out (by omega) hc (fun e => (hz e).1)).mono ?_
    rw [Hok.out (by omega)]
    intro e x3 h
    obtain ⟨ao3, n3, cap3, rfl, hn3, hc3, hb3⟩ := h.open_
    obtain rfl : 1 = n3 := hn3.out
    obtain ⟨b, off, rfl, hbl, c0, c1⟩ := hc3.val (show 0 < 1 by decide)
    have hx3 := bmore hx2 hb3
    obtain ⟨str, hstr⟩ : ∃ str, str = strOf (List.replicate n 0) := ⟨_, rfl⟩
    have hsz : str.size = n := by rw [hstr, strOf_size, List.length_replicate]
    have c1' : x3.cell? ⟨b, off + 1, none⟩ = some (.string str) := by rw [hstr]; exact c1
    have hsz2 : ((str.size : Nat) : Int) = (n : Int) := by rw [hsz]
    clear c0 c1 hc3 hb3 hstr hsz hn3
    go_wp2
    go_ret
    exact ⟨by simp, hx3⟩
end Go.Proofs.Ytailcciimbjpgaa
