/- cursor.Put, Get. -/
import Derived.Test.YtlnlcmdbhkpnhaaCurW
import Derived.ScopeJumps
namespace Go.Proofs.Ytlnlcmdbhkpnhaa
open Go.RowKit
set_option linter.unusedVariables false

/-- The n lowest bytes. -/
def lowB (v : Nat) : Nat → List Nat
  | 0 => []
  | n + 1 => lowB v n ++ [v / 2 ^ (8 * n) % 256]
theorem lowB_length (v n : Nat) : (lowB v n).length = n := by
  induction n with
  | zero => rfl
  | succ n ih => simp [lowB, ih]
def putB (l : List Nat) (n : Int) (v : Nat) : List Nat := l ++ lowB v (if 8 < n then 0 else n.toNat)

set_option maxHeartbeats 1000000 in
theorem put_n (ao : Option Addr) (L cap : Nat) (l : List Nat) (n : Int) (m v : Nat) (w : World) (hl : l.length = L) (hc : CellsAt w w.heap.size ao L (u8c l)) (hn : ao = none → L = 0) (hb : L ≤ 140737488355000) (hv : v < 18446744073709551616)
    (hm : (n < 0 ∨ 8 < n) ∧ m = 0 ∨ n = m ∧ m ≤ 8) :
    Calls Try.prog 58 #[.slice ao L cap, .int .i64 n, .int .u64 (v : Nat)] w (GaveB w (l ++ lowB v m)) := by
  subst hl
  have hm8 : m ≤ 8 := by omega
  go_enter Try.func58, Try.ntmps58
  go_wp2
  refine wp_scope_jumps 0 (fun a' w' => ∃ (k : Nat) (ao1 : Option Addr) (cap1 : Nat) (u9 u10 u11 u12 u13 u14 u15 u16 u17 u18 u19 u20 u21 u22 u23 u24 u25 u26 u27 u28 u29 u30 u31 : Value), a' = { tmps := #[.slice ao l.length cap, .int .i64 m, .int .u64 v, undef, undef, undef, .slice none 0 0, .slice ao1 (l.length + k) cap1, .int .i64 k, u9, u10, u11, u12, u13, u14, u15, u16, u17, u18, u19, u20, u21, u22, u23, u24, u25, u26, u27, u28, u29, u30, u31], defers := [] } ∧ k ≤ m ∧ RowB w' w.heap.size ao1 (l.length + k) cap1 (l ++ lowB v k) ∧ Below w.heap.size w w') (fun a' _ => 8 - (intOf (a'.tmps.getD 8 undef)).toNat) rfl ?_ ?_
  · rcases hm with ⟨hm, rfl⟩ | ⟨rfl, hm⟩
    · rcases hm with hm | hm
      all_goals
        go_wp2_with (go_at_call 30; refine (clone_any _ _ _ l _ rfl hc hn (by omega)).mono ?_; rintro e x1 ⟨ao1, cap1, rfl, hc1, hn1, hr1, hx1⟩)
        go_step3
        go_wp2_with (go_at_call 30; refine (clone_any _ _ _ l _ rfl hc1 hn1 (by omega)).mono ?_; rintro e x2 ⟨ao2, cap2, rfl, hc2, hn2, hr2, hx2⟩)
        simp only [Exit.jump]
        go_ret
        refine ⟨ao2, cap2, ?_, ?_, ?_, ?_, bmore hx1 hx2⟩
        · simp [lowB]
        · simpa [lowB] using hc2
        · simpa [lowB] using hn2
        · have := hr2.base hx1.size; simpa [lowB] using this
    · rcases Nat.eq_zero_or_pos m with h0 | h0
      · subst h0
        go_wp2_with (go_at_call 30; refine (clone_any _ _ _ l _ rfl hc hn (by omega)).mono ?_; rintro e x1 ⟨ao1, cap1, rfl, hc1, hn1, hr1, hx1⟩)
        go_step3
        go_wp2_with (go_at_call 30; refine (clone_any _ _ _ l _ rfl hc1 hn1 (by omega)).mono ?_; rintro e x2 ⟨ao2, cap2, rfl, hc2, hn2, hr2, hx2⟩)
        simp only [Exit.jump]
        go_ret
        refine ⟨ao2, cap2, ?_, ?_, ?_, ?_, bmore hx1 hx2⟩
        · simp [lowB]
        · simpa [lowB] using hc2
        · simpa [lowB] using hn2
        · have := hr2.base hx1.size; simpa [lowB] using this
      · have e1 : (0 : Int) < (m : Int) := by omega
        have e2 : (m : Int) ≤ 8 := by omega
        go_wp2_with (go_at_call 30; refine (clone_any _ _ _ l _ rfl hc hn (by omega)).mono ?_; rintro e x1 ⟨ao1, cap1, rfl, hc1, hn1, hr1, hx1⟩)
        go_step3
        go_wp2_with (at_builtin; refine wpList_append_rowB rfl (.tmp 20) (.tmp 26) rfl rfl (hr1.alloc _) rfl rfl (cells_alloc _ _ _ 1 (u8c [v % 256]) (fun i hi => by (obtain rfl : i = 0 := (by omega)); rfl)) (fun h => by cases h) (by omega) (by have := hx1.size; simp; omega) ?_)
        intro ao2 cap2 x2 hr2 hb2 hs2
        have hb2 := (hx1.alloc hx1.size _).trans hb2
        clear hs2 hc1 hr1
        go_wp2
        go_step3
        exact ⟨rfl, 1, ao2, cap2, _, _, _, _, _, _, _, _, _, _, _, _, _, _, _, _, _, _, _, _, _, _, _, rfl, by omega, by simpa [lowB] using hr2, hb2⟩
  · rintro a' w' ⟨k, ao1, cap1, u9, u10, u11, u12, u13, u14, u15, u16, u17, u18, u19, u20, u21, u22, u23, u24, u25, u26, u27, u28, u29, u30, u31, rfl, hk, hr1, hx1⟩
    by_cases hkm : k < m
    · have e1 : (k : Int) < (m : Int) := by omega
      have e2 : (0 : Int) ≤ (k : Int) := by omega
      have e3 : (k : Int) < 8 := by omega
      have e4 : IntKind.i64.wrap (8 * (k : Int)) = ((8 * k : Nat) : Int) := by rw [IntWalk.i64_in _ (by omega)]; omega
      go_wp2_with (at_builtin; refine wpList_append_rowB rfl (.tmp 20) (.tmp 26) rfl rfl (hr1.alloc _) rfl rfl (cells_alloc _ _ _ 1 (u8c [v / 2 ^ (8 * k) % 256]) (fun i hi => by (obtain rfl : i = 0 := (by omega)); simp [u8c])) (fun h => by cases h) (by omega) (by have := hx1.size; simp; omega) ?_)
      intro ao2 cap2 x2 hr2 hb2 hs2
      have hb2 := (hx1.alloc hx1.size _).trans hb2
      clear hs2 hr1 e4
      go_wp2
      go_step3
      refine ⟨rfl, ⟨k + 1, ao2, cap2, _, _, _, _, _, _, _, _, _, _, _, _, _, _, _, _, _, _, _, _, _, _, _, rfl, by omega, by simpa [lowB, Nat.add_assoc] using hr2, hb2⟩, ?_⟩
      show 8 - (((k : Nat) : Int) + 1).toNat < 8 - ((k : Nat) : Int).toNat
      omega
    · obtain rfl : k = m := by omega
      go_wp2_with (go_at_call 30; refine (clone_any _ _ _ _ _ hr1.1 hr1.cells hr1.nil0 (by omega)).mono ?_; rintro e x2 ⟨ao2, cap2, rfl, hc2, hn2, hr2, hx2⟩)
      simp only [Exit.jump]
      go_ret
      refine ⟨ao2, cap2, ?_, ?_, ?_, ?_, bmore hx1 hx2⟩
      · simp
      · simpa using hc2
      · simpa using hn2
      · have := hr2.base hx1.size; simpa using this

theorem put_any (ao : Option Addr) (L cap : Nat) (l : List Nat) (n : Int) (v : Nat) (w : World) (hl : l.length = L) (hc : CellsAt w w.heap.size ao L (u8c l)) (hn : ao = none → L = 0) (hb : L ≤ 140737488355000) (hv : v < 18446744073709551616) :
    Calls Try.prog 58 #[.slice ao L cap, .int .i64 n, .int .u64 (v : Nat)] w (GaveB w (putB l n v)) := by
  unfold putB
  refine put_n ao L cap l n _ v w hl hc hn hb hv ?_
  split <;> omega

theorem numB_append (l m : List Nat) : numB (l ++ m) = numB l + 256 ^ l.length * numB m := by
  induction l with
  | nil => simp [numB]
  | cons x t ih => simp only [List.cons_append, numB, ih, List.length_cons, Nat.pow_succ]; rw [Nat.mul_add, Nat.mul_comm (256 ^ t.length) 256, Nat.mul_assoc]; omega
theorem numB_lt (l : List Nat) (h : ∀ x ∈ l, x < 256) : numB l < 256 ^ l.length := by
  induction l with
  | nil => simp [numB]
  | cons x t ih =>
    have h1 := h x (by simp)
    have h2 := ih fun y hy => h y (by simp [hy])
    simp only [numB, List.length_cons, Nat.pow_succ]
    omega

theorem numB_step (t : List Nat) (k : Nat) (hk : k < t.length) (h8 : k < 8) (h : ∀ x ∈ t, x < 256) :
    bits .or .u64 ((numB (t.take k) : Nat) : Int) (IntKind.u64.wrap (((t.getD k 0 : Nat) : Int) * 2 ^ (8 * k))) = ((numB (t.take (k + 1)) : Nat) : Int) := by
  have hy : t.getD k 0 < 256 := by rw [List.getD_eq_getElem?_getD, List.getElem?_eq_getElem hk]; exact h _ (List.getElem_mem _)
  have h1 : numB (t.take k) < 2 ^ (8 * k) := by
    have := numB_lt (t.take k) fun x hx => h x (List.mem_of_mem_take hx)
    rw [List.length_take_of_le (by omega), show (256 : Nat) = 2 ^ 8 from rfl, ← Nat.pow_mul] at this; exact this
  have h2 : numB (t.take (k + 1)) = 2 ^ (8 * k) * t.getD k 0 + numB (t.take k) := by
    rw [List.take_succ_eq_append_getElem hk, numB_append, List.length_take_of_le (by omega), show (256 : Nat) = 2 ^ 8 from rfl, ← Nat.pow_mul]
    rw [List.getD_eq_getElem?_getD, List.getElem?_eq_getElem hk]
    simp [numB]; omega
  have h3 : 2 ^ (8 * k) ≤ 2 ^ 56 := Nat.pow_le_pow_right (by decide) (by omega)
  have h4 : 2 ^ (8 * k) * t.getD k 0 ≤ 2 ^ (8 * k) * 255 := Nat.mul_le_mul_left _ (by omega)
  have e : IntKind.u64.wrap (((t.getD k 0 : Nat) : Int) * 2 ^ (8 * k)) = ((2 ^ (8 * k) * t.getD k 0 : Nat) : Int) := by
    have e2 : (((t.getD k 0 : Nat) : Int) * 2 ^ (8 * k)) = ((2 ^ (8 * k) * t.getD k 0 : Nat) : Int) := by
      rw [Int.natCast_mul, Int.natCast_pow, Int.mul_comm]; rfl
    rw [e2]
    exact IntWalk.u64_in _ (by omega)
  rw [e, h2]
  have h5 : numB (t.take k) < 18446744073709551616 := by omega
  have h6 : 2 ^ (8 * k) * t.getD k 0 < 18446744073709551616 := by omega
  refine (bits_or_u64_nat _ _ h5 h6).trans ?_
  rw [Nat.two_pow_add_eq_or_of_lt h1, Nat.or_comm]

set_option maxHeartbeats 1000000 in
theorem get_any (g : Nat) {lo : Nat} (l : List Nat) (e : Nat) (n : Int) (w : World) (h : Rd w g lo l e) (hl : l.length ≤ 9223372036854775807) (h256 : ∀ x ∈ l, x < 256) :
    Calls Try.prog 78 #[.pointer (some ⟨g, 0, none⟩), .int .i64 n] w fun r w' =>
      r = .returned (.int .u64 ((rdGet l e n).1 : Nat)) ∧ Rd w' g lo (rdGet l e n).2.1 (rdGet l e n).2.2 ∧ But g w w' := by
  obtain ⟨m, hm⟩ : ∃ m : Int, m = if 8 < n then 0 else n := ⟨_, rfl⟩
  have hm8 : m ≤ 8 := by split at hm <;> omega
  have hG : rdGet l e n = (numB (rdTake l e m).1, (rdTake l e m).2) := by unfold rdGet; rw [← hm]
  rw [hG]
  have hT := fun (w : World) h => take_any g (lo := lo) l e m w h hl
  have htl : (rdTake l e m).1.length ≤ 8 := by unfold rdTake; split <;> simp [List.length_take]; omega
  have ht256 : ∀ x ∈ (rdTake l e m).1, x < 256 := by
    unfold rdTake; split
    · simp
    · exact fun x hx => h256 x (List.mem_of_mem_take hx)
  obtain ⟨t, ht⟩ : ∃ t, t = rdTake l e m := ⟨_, rfl⟩
  rw [← ht] at hT htl ht256 ⊢
  have Hm := Lib.hid hm
  have H256 := Lib.hid ht256
  clear ht hG hm h256 ht256
  have hmf : ∀ (fn : Fn) (first cap : Array Value) (w : World), (Instr.makeFunc fn first cap).run Try.prog w = .ok (.func fn first cap) w := fun _ _ _ _ => rfl
  by_cases hn : 8 < n
  · obtain rfl : m = 0 := by have := Hm.out; rw [if_pos hn] at this; exact this
    go_enter Try.func78, Try.ntmps78
    go_wp2_with fail
    refine (hT _ h).mono ?_
    rintro r x1 ⟨ao, cap, rfl, hc1, hn1, hr1, hb1⟩
    have Hr := Lib.hid hr1
    have Hb := Lib.hid hb1
    clear hr1 hb1 hT h
    go_wp2
    go_loop [6, 17] (fun v i => ∃ k : Nat, k ≤ t.1.length ∧ v = .int .u64 (numB (t.1.take k) : Nat) ∧ i = .int .i64 k) (fun _ i => t.1.length - (intOf i).toNat)
    case atStart => exact ⟨0, Nat.zero_le _, rfl, rfl⟩
    case round =>
      obtain ⟨k, hk, rfl, rfl⟩ := hrel
      by_cases hkn : k < t.1.length
      · obtain ⟨b, off, rfl, -, hcc⟩ := hc1 k hkn
        have e1 : (k : Int) < (t.1.length : Int) := by omega
        have e2 : (0 : Int) ≤ (k : Int) := by omega
        have e4 : IntKind.i64.wrap (8 * (k : Int)) = ((8 * k : Nat) : Int) := by rw [IntWalk.i64_in _ (by omega)]; omega
        have hst := numB_step t.1 k hkn (by omega) H256.out
        obtain ⟨y, hy⟩ : ∃ y, y = t.1.getD k 0 := ⟨_, rfl⟩
        have hy2 : y < 256 := by rw [hy, List.getD_eq_getElem?_getD, List.getElem?_eq_getElem hkn]; exact H256.out _ (List.getElem_mem _)
        rw [← hy] at hst
        rw [u8c, ← hy] at hcc
        have Hy := Lib.hid hy
        have Hst := Lib.hid hst
        clear hc1 hy hst
        go_wp2
        refine ⟨⟨k + 1, by omega, by rw [Hst.out], by go_num⟩, ?_⟩
        simp [intOf]; omega
      · obtain rfl : k = t.1.length := by omega
        go_wp2
        go_ret
        exact ⟨rfl, Hr.out, Hb.out⟩
  · obtain rfl : m = n := by have := Hm.out; rw [if_neg hn] at this; exact this
    go_enter Try.func78, Try.ntmps78
    go_wp2_with fail
    refine (hT _ h).mono ?_
    rintro r x1 ⟨ao, cap, rfl, hc1, hn1, hr1, hb1⟩
    have Hr := Lib.hid hr1
    have Hb := Lib.hid hb1
    clear hr1 hb1 hT h
    go_wp2
    go_loop [6, 17] (fun v i => ∃ k : Nat, k ≤ t.1.length ∧ v = .int .u64 (numB (t.1.take k) : Nat) ∧ i = .int .i64 k) (fun _ i => t.1.length - (intOf i).toNat)
    case atStart => exact ⟨0, Nat.zero_le _, rfl, rfl⟩
    case round =>
      obtain ⟨k, hk, rfl, rfl⟩ := hrel
      by_cases hkn : k < t.1.length
      · obtain ⟨b, off, rfl, -, hcc⟩ := hc1 k hkn
        have e1 : (k : Int) < (t.1.length : Int) := by omega
        have e2 : (0 : Int) ≤ (k : Int) := by omega
        have e4 : IntKind.i64.wrap (8 * (k : Int)) = ((8 * k : Nat) : Int) := by rw [IntWalk.i64_in _ (by omega)]; omega
        have hst := numB_step t.1 k hkn (by omega) H256.out
        obtain ⟨y, hy⟩ : ∃ y, y = t.1.getD k 0 := ⟨_, rfl⟩
        have hy2 : y < 256 := by rw [hy, List.getD_eq_getElem?_getD, List.getElem?_eq_getElem hkn]; exact H256.out _ (List.getElem_mem _)
        rw [← hy] at hst
        rw [u8c, ← hy] at hcc
        have Hy := Lib.hid hy
        have Hst := Lib.hid hst
        clear hc1 hy hst
        go_wp2
        refine ⟨⟨k + 1, by omega, by rw [Hst.out], by go_num⟩, ?_⟩
        simp [intOf]; omega
      · obtain rfl : k = t.1.length := by omega
        go_wp2
        go_ret
        exact ⟨rfl, Hr.out, Hb.out⟩
end Go.Proofs.Ytlnlcmdbhkpnhaa
