/- Chapter 11: what plain.Decode gives of what plain.Encode writes: plain law. -/
import Derived.Test.YtlnlcmdbhkpnhaaPlainD2
import Derived.Test.YtlnlcmdbhkpnhaaPlK
namespace Go.Proofs.Ytlnlcmdbhkpnhaa
open Go.RowKit
set_option linter.unusedVariables false

theorem numB_lowB' (v n : Nat) : numB (lowB v n) = v % 2 ^ (8 * n) := by
  induction n with
  | zero => simp [lowB, numB, Nat.mod_one]
  | succ n ih =>
    rw [lowB, numB_append, ih, lowB_length, show (256 : Nat) = 2 ^ 8 from rfl, ← Nat.pow_mul]
    simp only [numB, Nat.mul_zero, Nat.add_zero]
    rw [show 8 * (n + 1) = 8 * n + 8 by omega, Nat.pow_add, Nat.mod_mul]

/-- A value of a kind. -/
def GoodV (k : Nat) (v : Vl) : Prop :=
  if k = 4 then v.1 = 0 ∧ v.2.size ≤ 100
  else v.2 = ByteArray.empty ∧ (if k = 1 then v.1 = 0 ∨ v.1 = 1 else if k = 2 then -2147483648 ≤ v.1 ∧ v.1 ≤ 2147483647 else -9223372036854775808 ≤ v.1 ∧ v.1 ≤ 9223372036854775807)

theorem rdTake_app (a R : List Nat) (n : Nat) (h : a.length = n) : rdTake (a ++ R) 0 (n : Int) = (a, R, 0) := by
  subst h
  unfold rdTake
  rw [Int.toNat_natCast, if_neg (by simp), List.take_left, List.drop_left]
theorem rdGet_app (x : Nat) (R : List Nat) (n : Nat) (h : n ≤ 8) : rdGet (lowB x n ++ R) 0 (n : Int) = (x % 2 ^ (8 * n), R, 0) := by
  unfold rdGet
  rw [if_neg (by omega), rdTake_app _ _ _ (lowB_length x n)]
  simp only [numB_lowB']
theorem rdTake_short (l : List Nat) (n : Nat) (h : l.length < n) : rdTake l 0 (n : Int) = ([], [], 8) := by
  unfold rdTake
  rw [Int.toNat_natCast, if_pos h]
  simp [rdFail]
theorem rdTake_dead (n : Nat) : rdTake [] 8 (n : Int) = ([], [], 8) := by
  unfold rdTake
  rw [Int.toNat_natCast]
  split
  · simp [rdFail]
  · simp

theorem valueM_enc1 (k : Nat) (v : Vl) (R : List Nat) (hk : k = 2 ∨ k = 3 ∨ k = 4) (hg : GoodV k v) : valueM k (enc1 k v ++ R) 0 = (v, R, 0) := by
  obtain ⟨n, s⟩ := v
  unfold GoodV at hg
  rcases hk with rfl | rfl | rfl
  · rw [if_neg (by decide), if_neg (by decide), if_pos rfl] at hg
    obtain ⟨hs, h1, h2⟩ := hg
    have hs' : s = ByteArray.empty := hs
    subst hs'
    simp only [] at h1 h2
    have e : enc1 2 (n, ByteArray.empty) = lowB (u64of n) 4 := rfl
    have g := rdGet_app (u64of n) R 4 (by decide)
    have e2 : IntKind.i32.wrap ((u64of n % 2 ^ (8 * 4) : Nat) : Int) = n := by
      rw [IntKind.wrap_i32]; have := u64of_eq n; omega
    unfold valueM
    rw [e]
    simp only [show (2 : Nat) = 3 ↔ False from by decide, if_false, if_true]
    rw [show ((4 : Int)) = ((4 : Nat) : Int) from rfl, g]
    simp only [e2]
  · rw [if_neg (by decide), if_neg (by decide), if_neg (by decide)] at hg
    obtain ⟨hs, h1, h2⟩ := hg
    have hs' : s = ByteArray.empty := hs
    subst hs'
    simp only [] at h1 h2
    have e : enc1 3 (n, ByteArray.empty) = lowB (u64of n) 8 := rfl
    have g := rdGet_app (u64of n) R 8 (by decide)
    have e2 : IntKind.i64.wrap ((u64of n % 2 ^ (8 * 8) : Nat) : Int) = n := by
      rw [IntKind.wrap_i64]; have := u64of_eq n; have := u64of_lt n; omega
    unfold valueM
    rw [e]
    simp only [show (3 : Nat) = 2 ↔ False from by decide, if_false, if_true]
    rw [show ((8 : Int)) = ((8 : Nat) : Int) from rfl, g]
    simp only [e2]
  · rw [if_pos rfl] at hg
    obtain ⟨h1, h2⟩ := hg
    have h1' : n = 0 := h1
    subst h1'
    simp only [] at h2
    have e : enc1 4 (0, s) = lowB s.size 4 ++ strB s := rfl
    have g := rdGet_app s.size (strB s ++ R) 4 (by decide)
    have e2 : s.size % 2 ^ (8 * 4) = s.size := Nat.mod_eq_of_lt (by omega)
    rw [e2] at g
    unfold valueM
    rw [e, List.append_assoc]
    simp only [show (4 : Nat) = 2 ↔ False from by decide, show (4 : Nat) = 3 ↔ False from by decide, if_false]
    rw [show ((4 : Int)) = ((4 : Nat) : Int) from rfl, g]
    simp only [if_neg (show ¬ 100 < s.size by omega)]
    rw [rdTake_app _ _ _ (strB_length s), strOf_strB]

theorem valueM_dead (k : Nat) (hk : k = 2 ∨ k = 3 ∨ k = 4) : (valueM k [] 8).2 = ([], 8) := by
  have g : ∀ n : Int, n = 4 ∨ n = 8 → rdGet [] 8 n = (0, [], 8) := by
    rintro n (rfl | rfl)
    · rfl
    · rfl
  rcases hk with rfl | rfl | rfl <;> rfl
theorem valueM_cut (k : Nat) (v : Vl) (m : Nat) (hk : k = 2 ∨ k = 3 ∨ k = 4) (hg : GoodV k v) (hm : m < (enc1 k v).length) : (valueM k ((enc1 k v).take m) 0).2 = ([], 8) := by
  rw [enc1_length] at hm
  by_cases h : m < (if k = 3 then 8 else 4)
  · have hl : ((enc1 k v).take m).length < (if k = 3 then 8 else 4) := by rw [List.length_take]; omega
    have g : rdGet ((enc1 k v).take m) 0 ((if k = 3 then 8 else 4 : Nat) : Int) = (0, [], 8) := by
      unfold rdGet
      rw [if_neg (by split <;> omega), rdTake_short _ _ hl]
      rfl
    unfold valueM
    rw [show (if k = 3 then (8 : Int) else 4) = ((if k = 3 then 8 else 4 : Nat) : Int) by split <;> rfl, g]
    rcases hk with rfl | rfl | rfl <;> rfl
  · have h4 : k = 4 := by
      rcases hk with rfl | rfl | rfl
      · simp at hm h; omega
      · simp at hm h; omega
      · rfl
    subst h4
    rw [if_pos rfl] at hm
    rw [if_neg (by decide)] at h
    unfold GoodV at hg
    rw [if_pos rfl] at hg
    have e : (enc1 4 v).take m = lowB v.2.size 4 ++ (strB v.2).take (m - 4) := by
      show (lowB v.2.size 4 ++ strB v.2).take m = _
      rw [List.take_append, lowB_length, List.take_of_length_le (by rw [lowB_length]; omega)]
    have g := rdGet_app v.2.size ((strB v.2).take (m - 4)) 4 (by decide)
    rw [Nat.mod_eq_of_lt (by omega : v.2.size < 2 ^ (8 * 4))] at g
    unfold valueM
    rw [e]
    simp only [show (4 : Nat) = 2 ↔ False from by decide, show (4 : Nat) = 3 ↔ False from by decide, if_false]
    rw [show ((4 : Int)) = ((4 : Nat) : Int) from rfl, g]
    simp only [if_neg (show ¬ 100 < v.2.size by omega)]
    rw [rdTake_short _ _ (by rw [List.length_take, strB_length]; omega)]

theorem decSt_encs (k : Nat) (hk : k = 2 ∨ k = 3 ∨ k = 4) : ∀ (n : Nat) (l : List Vl) (R : List Nat), l.length = n → (∀ v ∈ l, GoodV k v) → decSt k n (encs k l ++ R) 0 = (l, R, 0)
  | 0, l, R, hn, _ => by
    obtain rfl := List.length_eq_zero_iff.1 hn
    rfl
  | n + 1, l, R, hn, hg => by
    rcases List.eq_nil_or_concat l with rfl | ⟨L, v, rfl⟩
    · simp at hn
    · have ih := decSt_encs k hk n L (enc1 k v ++ R) (by simpa using hn) (fun x hx => hg x (by simp [hx]))
      rw [List.concat_eq_append, encs_snoc, List.append_assoc]
      simp only [decSt, ih, valueM_enc1 k v R hk (hg v (by simp))]
theorem decSt_cut (k : Nat) (hk : k = 2 ∨ k = 3 ∨ k = 4) : ∀ (n : Nat) (l : List Vl) (m : Nat), l.length = n → (∀ v ∈ l, GoodV k v) → m < (encs k l).length → (decSt k n ((encs k l).take m) 0).2 = ([], 8)
  | 0, l, m, hn, _, hm => by
    obtain rfl := List.length_eq_zero_iff.1 hn
    simp [encs] at hm
  | n + 1, l, m, hn, hg, hm => by
    rcases List.eq_nil_or_concat l with rfl | ⟨L, v, rfl⟩
    · simp at hn
    · have hL : L.length = n := by simpa using hn
      have hgL : ∀ x ∈ L, GoodV k x := fun x hx => hg x (by simp [hx])
      rw [List.concat_eq_append, encs_snoc] at hm ⊢
      rw [List.length_append] at hm
      rw [List.take_append]
      by_cases h : m < (encs k L).length
      · have ih := decSt_cut k hk n L m hL hgL h
        rw [show m - (encs k L).length = 0 by omega, List.take_zero, List.append_nil]
        simp only [decSt, ih, valueM_dead k hk]
      · rw [List.take_of_length_le (by omega)]
        have ih := decSt_encs k hk n L ((enc1 k v).take (m - (encs k L).length)) hL hgL
        simp only [decSt, ih, valueM_cut k v (m - (encs k L).length) hk (hg v (by simp)) (by omega)]

theorem decM_encs (k : Nat) (hk : k = 2 ∨ k = 3 ∨ k = 4) (l : List Vl) (hg : ∀ v ∈ l, GoodV k v) : decM k (encs k l) l.length = (l, 0) := by
  have h := decSt_encs k hk l.length l [] rfl hg
  rw [List.append_nil] at h
  unfold decM
  rw [h]
  rfl
theorem decM_more (k : Nat) (hk : k = 2 ∨ k = 3 ∨ k = 4) (l : List Vl) (R : List Nat) (hR : 0 < R.length) (hg : ∀ v ∈ l, GoodV k v) : decM k (encs k l ++ R) l.length = ([], 9) := by
  have h := decSt_encs k hk l.length l R rfl hg
  unfold decM
  rw [h]
  simp [rdEnd, hR]
theorem decM_cut (k : Nat) (hk : k = 2 ∨ k = 3 ∨ k = 4) (l : List Vl) (m : Nat) (hm : m < (encs k l).length) (hg : ∀ v ∈ l, GoodV k v) : decM k ((encs k l).take m) l.length = ([], 8) := by
  have h := decSt_cut k hk l.length l m rfl hg hm
  unfold decM
  simp only [h]
  simp [rdEnd]

theorem decB_packed (l : List Vl) (hn : l.length ≤ 4000) (hg : ∀ v ∈ l, GoodV 1 v) : decB (packed (l.map fun v => u64of v.1) 1) l.length = (l, 0) := by
  have h := unpackSpec_packed (l.map fun v => u64of v.1) 1 (by rw [List.length_map]; exact hn) (by decide)
  rw [List.length_map] at h
  unfold decB
  rw [show ((1 : Int)) = ((1 : Nat) : Int) from rfl, h]
  simp only [if_true, List.map_map]
  refine Prod.ext ?_ rfl
  simp only []
  rw [List.map_congr_left (g := id), List.map_id]
  intro v hv
  have := hg v hv
  obtain ⟨n, s⟩ := v
  unfold GoodV at this
  rw [if_neg (by decide), if_pos rfl] at this
  obtain ⟨hs, h⟩ := this
  have hs' : s = ByteArray.empty := hs
  subst hs'
  simp only [] at h
  rcases h with rfl | rfl <;> rfl
theorem decB_more (l : List Vl) (R : List Nat) (hR : 0 < R.length) (hn : l.length ≤ 4000) : decB (packed (l.map fun v => u64of v.1) 1 ++ R) l.length = ([], 9) := by
  have h := packed_length (l.map fun v => u64of v.1) 1
  rw [List.length_map] at h
  have e : unpackSpec (packed (l.map fun v => u64of v.1) 1 ++ R) l.length 1 = ([], 9) := by
    unfold unpackSpec
    rw [if_neg (by omega), if_neg (by rw [List.length_append, h]; simp), if_pos (by rw [List.length_append, h]; simp; omega)]
  unfold decB
  rw [e]
  rfl
theorem decB_cut (l : List Vl) (m : Nat) (hm : m < (packed (l.map fun v => u64of v.1) 1).length) (hn : l.length ≤ 4000) : decB ((packed (l.map fun v => u64of v.1) 1).take m) l.length = ([], 8) := by
  have h := packed_length (l.map fun v => u64of v.1) 1
  rw [List.length_map] at h
  have e : unpackSpec ((packed (l.map fun v => u64of v.1) 1).take m) l.length 1 = ([], 8) := by
    unfold unpackSpec
    rw [if_neg (by omega), if_pos (by rw [List.length_take]; simp; omega)]
  unfold decB
  rw [e]
  rfl

/-! Every kind. -/
theorem decode_plainB (k : Nat) (h1 : 1 ≤ k) (h4 : k ≤ 4) (l : List Vl) (hn : l.length ≤ 4000) (hg : ∀ v ∈ l, GoodV k v) : decodeM k (plainB k l) l.length = (l, 0) := by
  unfold decodeM plainB
  rw [if_neg (by omega)]
  by_cases h : k = 1
  · subst h; rw [if_pos (by decide), if_pos rfl]; exact decB_packed l hn hg
  · rw [if_neg (by omega), if_neg h]; exact decM_encs k (by omega) l hg
theorem decode_more (k : Nat) (h1 : 1 ≤ k) (h4 : k ≤ 4) (l : List Vl) (R : List Nat) (hR : 0 < R.length) (hn : l.length ≤ 4000) (hg : ∀ v ∈ l, GoodV k v) : decodeM k (plainB k l ++ R) l.length = ([], 9) := by
  unfold decodeM plainB
  rw [if_neg (by omega)]
  by_cases h : k = 1
  · subst h; rw [if_pos (by decide), if_pos rfl]; exact decB_more l R hR hn
  · rw [if_neg (by omega), if_neg h]; exact decM_more k (by omega) l R hR hg
theorem decode_cut (k : Nat) (h1 : 1 ≤ k) (h4 : k ≤ 4) (l : List Vl) (m : Nat) (hm : m < (plainB k l).length) (hn : l.length ≤ 4000) (hg : ∀ v ∈ l, GoodV k v) : decodeM k ((plainB k l).take m) l.length = ([], 8) := by
  unfold decodeM
  unfold plainB at hm ⊢
  rw [if_neg (by omega)]
  by_cases h : k = 1
  · subst h; rw [if_pos rfl] at hm; rw [if_pos (by decide), if_pos rfl]; exact decB_cut l m hm hn
  · rw [if_neg h] at hm; rw [if_neg (by omega), if_neg h]; exact decM_cut k (by omega) l m hm hg

theorem goodV_good (k : Nat) (h1 : 1 ≤ k) (h4 : k ≤ 4) (v : Vl) (hv : okV v) : GoodV k (goodV k v) := by
  obtain ⟨n, s⟩ := v
  obtain ⟨⟨a, b⟩, hs⟩ := hv
  have hk : k = 1 ∨ k = 2 ∨ k = 3 ∨ k = 4 := by omega
  rcases hk with rfl | rfl | rfl | rfl
  · refine ⟨rfl, ?_⟩
    show n % 2 = 0 ∨ n % 2 = 1
    omega
  · refine ⟨rfl, ?_⟩
    show -2147483648 ≤ IntKind.i32.wrap n ∧ IntKind.i32.wrap n ≤ 2147483647
    rw [IntKind.wrap_i32]; omega
  · refine ⟨rfl, ?_⟩
    simp only [] at a b
    show -9223372036854775808 ≤ n ∧ n ≤ 9223372036854775807
    omega
  · refine ⟨rfl, ?_⟩
    show (s.extract 0 (min s.size 100)).size ≤ 100
    rw [ByteArray.size_extract]; omega
end Go.Proofs.Ytlnlcmdbhkpnhaa
