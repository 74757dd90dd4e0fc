/- Chapter 3: the walks over varint's Put and Get, and the document's. -/
import Derived.Test.YtlnlcmdbhkpnhaaBunA
import Derived.Test.YtlnlcmdbhkpnhaaRPut
import Derived.Test.YtlnlcmdbhkpnhaaBunB
namespace Go.Proofs.Ytlnlcmdbhkpnhaa
open Go.RowKit
set_option linter.unusedVariables false

theorem or128 (v : Nat) : bits .or .u8 ((v % 256 : Nat) : Int) 128 = ((v % 128 + 128 : Nat) : Int) := by
  have h := bits_or_u8 (v % 256) 128 (by omega) (by decide)
  rw [show ((128 : Nat) : Int) = 128 from rfl] at h
  rw [h]
  congr 1
  have h2 : v % 256 = v % 128 ∨ v % 256 = v % 128 + 128 := by omega
  have hl : v % 128 < 2 ^ 7 := by omega
  have e := or_add (v % 128) 1 7 hl
  rw [show 1 * 2 ^ 7 = 128 from rfl] at e
  rcases h2 with h2 | h2
  · rw [h2, e]
  · rw [h2, ← e, Nat.or_assoc, Nat.or_self]

theorem vputF_shift (n v : Nat) (h : 128 ≤ v) (hv : v < 128 * 128 ^ n * 128) : vputF (n + 1) v = (v % 128 + 128) :: vputF n (v / 128) := by
  rw [vputF, if_neg (by omega)]
theorem vputF_ge (n : Nat) : ∀ v, v < 128 * 128 ^ n → vputF (n + 1) v = vputF n v := by
  induction n with
  | zero => intro v hv; simp only [vputF]; rw [if_pos (by omega)]
  | succ n ih =>
    intro v hv
    rw [vputF]
    conv => rhs; rw [vputF]
    split
    · rfl
    · rw [ih (v / 128) (by rw [Nat.pow_succ] at hv; omega)]
theorem vputB_step (v : Nat) (hv : v < 18446744073709551616) (h : 128 ≤ v) : vputB v = (v % 128 + 128) :: vputB (v / 128) := by
  unfold vputB
  rw [vputF_shift 8 v h (by omega), ← vputF_ge 8 (v / 128) (by omega)]

/-- One byte that was written out. -/
theorem cells_byte (w : World) (x : Int) (y : Nat) (h : x = (y : Nat)) : CellsAt (w.alloc (.cells #[.int .u8 x] 5)) (w.alloc (.cells #[.int .u8 x] 5)).heap.size (some ⟨w.heap.size, 0, none⟩) 1 (u8c [y]) :=
  cells_alloc _ _ _ 1 (u8c [y]) (fun i hi => by (obtain rfl : i = 0 := (by omega)); subst h; rfl)
theorem GaveB.of {w w' : World} {ao : Option Addr} {n cap : Nat} {l : List Nat} (hl : n = l.length) (hr : RowB w' w.heap.size ao n cap l) (hb : Below w.heap.size w w') : GaveB w l (.returned (.slice ao n cap)) w' := by
  subst hl
  exact ⟨ao, cap, rfl, hr.cells, hr.nil0, hr, hb⟩

set_option maxHeartbeats 1000000 in
theorem vput_any (ao : Option Addr) (L cap : Nat) (l : List Nat) (v : Nat) (w : World) (hl : l.length = L) (hc : CellsAt w w.heap.size ao L (u8c l)) (hn : ao = none → L = 0) (hb : L ≤ 140737488355000) (hv : v < 18446744073709551616) :
    Calls Try.prog 25 #[.slice ao L cap, .int .u64 (v : Nat)] w (GaveB w (l ++ vputB v)) := by
  subst hl
  have hvl := vputB_length v
  go_enter Try.func25, Try.ntmps25
  go_wp2
  refine wp_scope_jumps 0 (fun a' w' => ∃ (pre : List Nat) (u n : Nat) (ao1 : Option Addr) (cap1 : Nat) (u6 u7 u8 u9 u10 u11 u12 u13 u14 u15 u16 u17 u18 u19 u20 u21 u22 u23 : Value), a' = { tmps := #[.slice ao l.length cap, .int .u64 (u : Nat), undef, undef, .slice none 0 0, .slice ao1 n cap1, u6, u7, u8, u9, u10, u11, u12, u13, u14, u15, u16, u17, u18, u19, u20, u21, u22, u23], defers := [] } ∧ Hid (n = l.length + pre.length) ∧ RowB w' w.heap.size ao1 n cap1 (l ++ pre) ∧ Hid (vputB v = pre ++ vputB u) ∧ u < 18446744073709551616 ∧ Below w.heap.size w w') (fun a' _ => (intOf (a'.tmps.getD 1 undef)).toNat) rfl ?_ ?_
  · go_wp2_with (go_at_call 30; refine (clone_any _ _ _ l _ rfl hc hn (by omega)).mono ?_; rintro e x1 ⟨ao1, cap1, rfl, hc1, hn1, hr1, hx1⟩)
    go_step3
    by_cases h128 : 128 ≤ v
    · have hst := Lib.hid (vputB_step v hv h128)
      have e1 : (128 : Int) ≤ (v : Int) := by omega
      go_wp2_with (at_builtin; refine wpList_append_rowB rfl (.tmp 10) (.tmp 14) rfl rfl (hr1.alloc _) rfl rfl (cells_byte x1 _ _ (or128 v)) (fun h => by cases h) (by omega) (by have := hx1.size; simp; omega) ?_)
      intro ao2 cap2 x2 hr2 hb2 hs2
      have hb2 := (hx1.alloc hx1.size _).trans hb2
      clear hs2 hc1 hr1
      go_wp2
      go_step3
      exact ⟨rfl, [v % 128 + 128], v / 128, _, ao2, cap2, _, _, _, _, _, _, _, _, _, _, _, _, _, _, _, _, _, _, rfl, Lib.hid rfl, hr2, hst, by omega, hb2⟩
    · have hst := Lib.hid (vputB_small v (by omega))
      have e1 : ¬ (128 : Int) ≤ (v : Int) := by omega
      have hs1 := hx1.size
      go_wp2_with (at_builtin; refine wpList_append_rowB rfl (.tmp 18) (.tmp 21) rfl rfl (hr1.alloc _) rfl rfl (cells_byte x1 _ v rfl) (fun h => by cases h) (by omega) (by simp; omega) ?_)
      intro ao2 cap2 x2 hr2 hb2 hs2
      have hb2 := (hx1.alloc hs1 _).trans hb2
      clear hs2
      go_wp2_with fail
      refine (clone_any _ _ _ _ _ hr2.1 hr2.cells hr2.nil0 (by omega)).mono ?_
      rintro e x3 ⟨ao3, cap3, rfl, hc3, hn3, hr3, hx3⟩
      have hx3 := bmore hb2 hx3
      have Hg := Lib.hid (GaveB.of rfl (hr3.base hb2.size) hx3)
      clear hc3 hr3 hx3 hr2
      go_wp2
      simp only [Exit.jump]
      go_ret
      rw [hst.out]
      have hh := Hg.out
      simpa using hh
  · rintro a' w' ⟨pre, u, n, ao1, cap1, u6, u7, u8, u9, u10, u11, u12, u13, u14, u15, u16, u17, u18, u19, u20, u21, u22, u23, rfl, hn', hr1, hst, hu, hx1⟩
    have hpre : n ≤ l.length + 9 := by
      have h1 := congrArg List.length hst.out
      have h2 := vputB_length u
      have h3 := hn'.out
      rw [List.length_append] at h1
      omega
    by_cases h128 : 128 ≤ u
    · have hst2 := Lib.hid (vputB_step u hu h128)
      have e1 : (128 : Int) ≤ (u : Int) := by omega
      have hs1 := hx1.size
      go_wp2_with (at_builtin; refine wpList_append_rowB rfl (.tmp 10) (.tmp 14) rfl rfl (hr1.alloc _) rfl rfl (cells_byte w' _ _ (or128 u)) (fun h => by cases h) (by omega) (by simp; omega) ?_)
      intro ao2 cap2 x2 hr2 hb2 hs2
      have hb2 := (hx1.alloc hs1 _).trans hb2
      clear hs2 hr1
      go_wp2
      go_step3
      refine ⟨rfl, ⟨pre ++ [u % 128 + 128], u / 128, _, ao2, cap2, _, _, _, _, _, _, _, _, _, _, _, _, _, _, _, _, _, _, rfl, Lib.hid (by rw [hn'.out, List.length_append]; rfl), hr2, Lib.hid (by rw [hst.out, hst2.out, List.append_assoc]; rfl), by omega, hb2⟩, ?_⟩
      show (((u : Nat) : Int) / 128).toNat < ((u : Nat) : Int).toNat
      omega
    · have hst2 := Lib.hid (vputB_small u (by omega))
      have e1 : ¬ (128 : Int) ≤ (u : Int) := by omega
      have hs1 := hx1.size
      go_wp2_with (at_builtin; refine wpList_append_rowB rfl (.tmp 18) (.tmp 21) rfl rfl (hr1.alloc _) rfl rfl (cells_byte w' _ u rfl) (fun h => by cases h) (by omega) (by simp; omega) ?_)
      intro ao2 cap2 x2 hr2 hb2 hs2
      have hb2 := (hx1.alloc hs1 _).trans hb2
      clear hs2
      go_wp2_with fail
      refine (clone_any _ _ _ _ _ hr2.1 hr2.cells hr2.nil0 (by omega)).mono ?_
      rintro e x3 ⟨ao3, cap3, rfl, hc3, hn3, hr3, hx3⟩
      have hx3 := bmore hb2 hx3
      have Hg := Lib.hid (GaveB.of rfl (hr3.base hb2.size) hx3)
      clear hc3 hr3 hx3 hr2
      go_wp2
      simp only [Exit.jump]
      go_ret
      rw [hst.out, hst2.out]
      have hh := Hg.out
      simpa using hh

set_option maxHeartbeats 1000000 in
theorem rvput_any (ao : Option Addr) (L cap : Nat) (l : List Nat) (v : Nat) (w : World) (hl : l.length = L) (hc : CellsAt w w.heap.size ao L (u8c l)) (hn : ao = none → L = 0) (hb : L ≤ 140737488355000) (hv : v < 18446744073709551616) :
    Calls Try.prog 37 #[.slice ao L cap, .int .u64 (v : Nat)] w (GaveB w (l ++ vputB v)) := by
  subst hl
  have hvl := vputB_length v
  go_enter Try.func37, Try.ntmps37
  go_wp2_with (at_builtin; refine wpList_append_clone1 sl_u8 rfl (.tmp 5) (.tmp 6) rfl rfl rfl (hc.alloc (Nat.le_refl _) _) hn (fun _ _ => rfl) (by unfold maxLen; omega) (by omega) ?_)
  intro ao1 cap1 x1 hc1 hbD hown
  have hx1 : Below w.heap.size w x1 := (balloc (Below.refl _ _) _).trans (hbD.mono (by simp))
  have hr1 : RowB x1 w.heap.size ao1 l.length cap1 l := hown.rowB rfl (by simp)
  clear hown hbD hc1 hc
  go_wp2
  go_loopw [0, 1] (fun b i wr => ∃ (pre : List Nat) (u n : Nat) (ao2 : Option Addr) (cap2 : Nat), i = .int .u64 (u : Nat) ∧ b = .slice ao2 n cap2 ∧ Hid (n = l.length + pre.length) ∧ RowB wr w.heap.size ao2 n cap2 (l ++ pre) ∧ Hid (vputB v = pre ++ vputB u) ∧ u < 18446744073709551616 ∧ Below w.heap.size w wr) (fun _ i _ => (intOf i).toNat)
  case atStart => exact ⟨[], v, _, ao1, cap1, rfl, rfl, Lib.hid rfl, by simpa using hr1, Lib.hid rfl, hv, hx1⟩
  case round =>
    clear hr1 hx1
    obtain ⟨pre, u, n, ao2, cap2, rfl, rfl, hn', hr1, hst, hu, hx1⟩ := hrel
    have hpre : n ≤ l.length + 9 := by
      have h1 := congrArg List.length hst.out
      have h2 := vputB_length u
      have h3 := hn'.out
      rw [List.length_append] at h1
      omega
    by_cases h128 : 128 ≤ u
    · have hst2 := Lib.hid (vputB_step u hu h128)
      have e1 : (128 : Int) ≤ (u : Int) := by omega
      have hs1 := hx1.size
      go_wp2_with (at_builtin; refine wpList_append_rowB rfl (.tmp 10) (.tmp 14) rfl rfl (hr1.alloc _) rfl rfl (cells_byte wr _ _ (or128 u)) (fun h => by cases h) (by omega) (by simp; omega) ?_)
      intro ao3 cap3 x2 hr2 hb2 hs2
      have hb2 := (hx1.alloc hs1 _).trans hb2
      clear hs2 hr1
      go_wp2
      go_roundw
      case rel => exact ⟨pre ++ [u % 128 + 128], u / 128, _, ao3, cap3, rfl, rfl, Lib.hid (by rw [hn'.out, List.length_append]; rfl), hr2, Lib.hid (by rw [hst.out, hst2.out, List.append_assoc]; rfl), by omega, hb2⟩
      case measure => simp [intOf]; omega
    · have hst2 := Lib.hid (vputB_small u (by omega))
      have e1 : ¬ (128 : Int) ≤ (u : Int) := by omega
      have hs1 := hx1.size
      go_wp2_with (at_builtin; refine wpList_append_rowB rfl (.tmp 18) (.tmp 21) rfl rfl (hr1.alloc _) rfl rfl (cells_byte wr _ u rfl) (fun h => by cases h) (by omega) (by simp; omega) ?_)
      intro ao3 cap3 x2 hr2 hb2 hs2
      have hb2 := (hx1.alloc hs1 _).trans hb2
      have H2 := Lib.hid hr2; have Hb2 := Lib.hid hb2
      clear hs2 hr1 hr2 hb2
      go_wp2
      go_ret
      rw [hst.out, hst2.out]
      exact GaveB.of (by have := hn'.out; simp only [List.length_append, List.length_singleton] <;> omega) H2.out Hb2.out

theorem or_shl (v x k : Nat) (hk : k ≤ 9) (hv : v < 2 ^ (7 * k)) (hx : x < 128) (h9 : k = 9 → x ≤ 1) : bits .or .u64 ((v : Nat) : Int) (((x : Nat) : Int) * 2 ^ (7 * k) % 18446744073709551616) = ((v + x * 2 ^ (7 * k) : Nat) : Int) := by
  have hx2 : x * 2 ^ (7 * k) < 2 ^ 64 := by
    have hk' : k ≤ 8 ∨ k = 9 := by omega
    rcases hk' with h8 | rfl
    · have : 2 ^ (7 * k) ≤ 2 ^ 56 := Nat.pow_le_pow_right (by decide) (by omega)
      have : x * 2 ^ (7 * k) ≤ 127 * 2 ^ 56 := Nat.mul_le_mul (by omega) this
      omega
    · have : x * 2 ^ (7 * 9) ≤ 1 * 2 ^ (7 * 9) := Nat.mul_le_mul_right _ (h9 rfl)
      omega
  have hv2 : v < 2 ^ 64 := Nat.lt_of_lt_of_le hv (Nat.pow_le_pow_right (by decide) (by omega))
  have e : (((x : Nat) : Int) * 2 ^ (7 * k) % 18446744073709551616) = ((x * 2 ^ (7 * k) : Nat) : Int) := by
    have e2 : (((x : Nat) : Int) * 2 ^ (7 * k)) = ((x * 2 ^ (7 * k) : Nat) : Int) := by rw [Int.natCast_mul, Int.natCast_pow]; rfl
    rw [e2]; omega
  rw [e, ← or_add v x (7 * k) hv]
  exact bits_or_u64_nat _ _ (by omega) (by omega)

set_option maxHeartbeats 1000000 in
set_option maxRecDepth 100000 in
theorem vget_any (ao : Option Addr) (L cap : Nat) (b : List Nat) (w : World) (hl : b.length = L) (h256 : ∀ x ∈ b, x < 256) (hL : L ≤ 9223372036854775807) (hc : CellsAt w w.heap.size ao L (u8c b)) :
    Calls Try.prog 61 #[.slice ao L cap] w fun e w' => e = .returned (.tuple #[.int .u64 ((vgetM b).1 : Nat), .int .i64 ((vgetM b).2.1 : Nat), .int .i64 ((vgetM b).2.2 : Nat)]) ∧ w = w' := by
  have Hl := Lib.hid hl; clear hl
  have H256 := Lib.hid h256; clear h256
  go_enter Try.func61, Try.ntmps61
  go_wp2
  go_loop [2, 3, 4, 9] (fun v n e i => ∃ k u : Nat, k ≤ L ∧ k ≤ 9 ∧ u < 2 ^ (7 * k) ∧ v = .int .u64 (u : Nat) ∧ n = .int .i64 0 ∧ e = .int .i64 0 ∧ i = .int .i64 k ∧ Hid (vgetM b = vgetR (b.drop k) k u)) (fun _ _ _ i => L - (intOf i).toNat)
  case atStart => exact ⟨0, 0, Nat.zero_le _, by decide, by decide, rfl, rfl, rfl, rfl, Lib.hid rfl⟩
  case round =>
    obtain ⟨k, u, hk, hk9, hu, rfl, rfl, rfl, rfl, hR⟩ := hrel
    by_cases hlt : k < L
    · obtain ⟨bb, off, rfl, -, hcc⟩ := hc k hlt
      obtain ⟨x, hx⟩ : ∃ x, x = b.getD k 0 := ⟨_, rfl⟩
      rw [u8c, ← hx] at hcc
      have hx256 : x < 256 := by rw [hx]; exact getD_lt H256.out k
      have hd : b.drop k = x :: b.drop (k + 1) := by
        rw [List.drop_eq_getElem_cons (by rw [Hl.out]; exact hlt), hx, List.getD_eq_getElem?_getD, List.getElem?_eq_getElem (by rw [Hl.out]; exact hlt)]; rfl
      have hR2 := hR.out
      rw [hd] at hR2
      unfold vgetR at hR2
      have e1 : (k : Int) < (L : Int) := by omega
      have e2 : (0 : Int) ≤ (k : Int) := by omega
      clear hd hc hx
      by_cases h9 : k = 9 ∧ 1 < x
      · rw [if_pos h9] at hR2
        obtain ⟨rfl, h1⟩ := h9
        have HR := Lib.hid hR2; clear hR2
        go_wp2
        go_ret3
        exact ⟨by rw [HR.out]; rfl, rfl⟩
      · rw [if_neg h9] at hR2
        have g9 : k = 9 → x ≤ 1 := fun h => by omega
        by_cases h128 : x < 128
        · rw [if_pos h128] at hR2
          have e5 : (x : Int) % 128 = (x : Int) := by omega
          have e6 : (x : Int) < 128 := by omega
          have Ho := Lib.hid (or_shl u x k hk9 hu h128 g9)
          by_cases h0 : x = 0 ∧ 0 < k
          · rw [if_pos h0] at hR2
            obtain ⟨rfl, h1⟩ := h0
            have HR := Lib.hid hR2; clear hR2 e5 e6
            have bk : decide ((0 : Int) < (k : Int)) = true := decide_eq_true (by omega)
            by_cases hk9' : k = 9
            · have b8 : ((k : Int) == 9) = true := by rw [beq_iff_eq]; omega
              clear hk9'
              go_wp2
              go_ret3
              exact ⟨by rw [HR.out]; rfl, rfl⟩
            · have b8 : ((k : Int) == 9) = false := by rw [beq_eq_false_iff_ne]; omega
              clear hk9'
              go_wp2
              go_ret3
              exact ⟨by rw [HR.out]; rfl, rfl⟩
          · rw [if_neg h0] at hR2
            have HR := Lib.hid hR2; clear hR2
            by_cases hx0 : x = 0
            · have hk0 : k = 0 := by omega
              have bk : ¬ 0 < k := by omega
              have b8 : ((k : Int) == 9) = false := by rw [beq_eq_false_iff_ne]; omega
              have b0 : ((x : Int) == 0) = true := by rw [beq_iff_eq]; omega
              clear h0 hx0 hk0
              go_wp2
              go_ret3
              exact ⟨by rw [HR.out, ← Ho.out]; rfl, rfl⟩
            · have b0 : ((x : Int) == 0) = false := by rw [beq_eq_false_iff_ne]; omega
              clear h0
              by_cases hk9' : k = 9
              · have b8 : ((k : Int) == 9) = true := by rw [beq_iff_eq]; omega
                have b9 : decide ((1 : Int) < (x : Int)) = false := decide_eq_false (by have := g9 hk9'; omega)
                clear hk9'
                go_wp2
                go_ret3
                exact ⟨by rw [HR.out, ← Ho.out]; rfl, rfl⟩
              · have b8 : ((k : Int) == 9) = false := by rw [beq_eq_false_iff_ne]; omega
                clear hk9'
                go_wp2
                go_ret3
                exact ⟨by rw [HR.out, ← Ho.out]; rfl, rfl⟩
        · rw [if_neg h128] at hR2
          have HR := Lib.hid hR2; clear hR2
          have hk8 : k ≤ 8 := by omega
          have b8 : ((k : Int) == 9) = false := by rw [beq_eq_false_iff_ne]; omega
          have Ho := Lib.hid (or_shl u (x % 128) k hk9 hu (by omega) (by omega))
          have hu2 : u + x % 128 * 2 ^ (7 * k) < 2 ^ (7 * (k + 1)) := by
            have : x % 128 * 2 ^ (7 * k) ≤ 127 * 2 ^ (7 * k) := Nat.mul_le_mul_right _ (by omega)
            rw [show 7 * (k + 1) = 7 * k + 7 by omega, Nat.pow_add]
            omega
          have Hu2 := Lib.hid hu2; clear hu2
          have e6 : ¬ (x : Int) < 128 := by omega
          go_wp2
          go_round
          case rel => exact ⟨k + 1, u + x % 128 * 2 ^ (7 * k), by omega, by omega, Hu2.out, by rw [← Ho.out]; rfl, rfl, rfl, by go_num, HR⟩
          case measure => simp [intOf]; omega
    · obtain rfl : k = L := by omega
      have hR2 := hR.out
      rw [List.drop_of_length_le (by rw [Hl.out]; exact Nat.le_refl _)] at hR2
      have HR := Lib.hid hR2; clear hR2
      go_wp2
      go_ret3
      exact ⟨by rw [HR.out]; rfl, rfl⟩
end Go.Proofs.Ytlnlcmdbhkpnhaa
