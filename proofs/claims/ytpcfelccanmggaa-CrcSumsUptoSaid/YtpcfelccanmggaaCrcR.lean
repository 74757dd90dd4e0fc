/- The walks over the document's Sum of chapter 4, and the law's known and within. -/
import Derived.Test.YtpcfelccanmggaaCrcW
import Derived.Test.YtpcfelccanmggaaSl
import Derived.Test.YtpcfelccanmggaaRow
import Derived.Lib.SlBytesConst
namespace Go.Proofs.Ytpcfelccanmggaa
open Go.RowKit
set_option linter.unusedVariables false

set_option maxHeartbeats 400000 in
theorem within_any (a b : Int) (w : World) (hb : 0 < b) (hb2 : b ≤ 100000) (ha : -9223372036854775808 ≤ a) (ha2 : a ≤ 9223372036854775807):
    Calls Try.prog 13 #[.int .i64 a, .int .i64 b] w fun e w' => e = .returned (.int .i64 (a % b)) ∧ w = w' := by
  by_cases h0 : 0 ≤ a
  · have h1 : a.tmod b = a % b := Int.tmod_eq_emod_of_nonneg h0
    have h2 : 0 ≤ a % b := Int.emod_nonneg _ (by omega)
    go_enter Try.func13, Try.ntmps13
    go_wp2
    go_ret
    exact ⟨rfl, rfl⟩
  · by_cases hd : a % b = 0
    · have h1 : a.tmod b = 0 := Int.tmod_eq_zero_of_dvd (Int.dvd_of_emod_eq_zero hd)
      have Hd := Lib.hid hd; clear hd
      go_enter Try.func13, Try.ntmps13
      go_wp2
      go_ret
      rw [Hd.out]; exact ⟨rfl, rfl⟩
    · have h1 : a.tmod b = a % b - b := by
        rw [Int.tmod_eq_emod]
        rw [if_neg (by rintro (h | h); exact h0 h; exact hd (Int.emod_eq_zero_of_dvd h))]
        omega
      have h2 : a % b < b := Int.emod_lt_of_pos _ hb
      have h3 : 0 ≤ a % b := Int.emod_nonneg _ (by omega)
      go_enter Try.func13, Try.ntmps13
      go_wp2
      go_ret
      exact ⟨rfl, rfl⟩

/-- One part: a slice of bytes in a new block of one cell. -/
theorem one_part {w : World} {a : Option Addr} {m c k : Nat} {p : List Nat} {E : TypeId} (hk : k = w.heap.size) (hl : p.length = m) (hm : m ≤ 9223372036854775807) (hc : CellsAt w w.heap.size a m (u8c p)) :
    PartsAt (w.alloc (.cells #[.slice a m c] E)) (w.alloc (.cells #[.slice a m c] E)).heap.size (some ⟨k, 0, none⟩) 1 [p] := by
  subst hk
  refine ⟨rfl, fun i hi => ?_⟩
  obtain rfl : i = 0 := by omega
  obtain ⟨b, off, e, hb, h⟩ := cells_alloc w #[.slice a m c] E 1 (fun _ => .slice a m c) (fun i hi => by (obtain rfl : i = 0 := (by omega)); rfl) 0 (by decide)
  exact ⟨b, off, e, hb, a, m, c, h, hl, hm, (hc.alloc (Nat.le_refl _) _).mono (by simp)⟩
theorem sum_one (ao : Option Addr) (p : List Nat) (w : World) (hb : ∀ x ∈ p, x < 256) (hc : PartsAt w w.heap.size ao 1 [p]) (cap : Nat) :
    Calls Try.prog 11 #[.slice ao 1 cap] w fun e w' => e = .returned (.int .u32 (csum p : Nat)) ∧ w = w' := by
  have h := sum_n ao 1 cap [p] w (by decide) (by intro q hq; rw [List.mem_singleton] at hq; subst hq; exact hb) hc
  simpa using h

def nine : List Nat := [49, 50, 51, 52, 53, 54, 55, 56, 57]
theorem csum_nine : csum nine = 3421780262 := by decide +kernel
theorem nine_cells (w : World) (E : TypeId) : CellsAt (w.alloc (.cells #[.int .u8 49, .int .u8 50, .int .u8 51, .int .u8 52, .int .u8 53, .int .u8 54, .int .u8 55, .int .u8 56, .int .u8 57] E (9, 10))) (w.alloc (.cells #[.int .u8 49, .int .u8 50, .int .u8 51, .int .u8 52, .int .u8 53, .int .u8 54, .int .u8 55, .int .u8 56, .int .u8 57] E (9, 10))).heap.size (some ⟨w.heap.size, 0, none⟩) 9 (u8c nine) := by
  refine cells_alloc_mark w _ E (9, 10) 9 _ (fun i hi => ?_)
  match i, hi with
  | 0, _ => rfl
  | 1, _ => rfl
  | 2, _ => rfl
  | 3, _ => rfl
  | 4, _ => rfl
  | 5, _ => rfl
  | 6, _ => rfl
  | 7, _ => rfl
  | 8, _ => rfl
set_option maxHeartbeats 1000000 in
theorem known_any (w : World) :
    Calls Try.prog 10 #[] w fun e w' => e = .returned (.bool true) ∧ Below w.heap.size w w' := by
  have kc := fun (w : World) (C : Array Value) (n c : Nat) => Lib.run_convert_bytes_const (P := Try.prog) w 24 5 C n c Try.underlying24 Try.underlying5
  go_enter Try.func10, Try.ntmps10
  go_wp2_with fail
  refine (sum_one _ nine _ (by decide) (by exact one_part (by simp) rfl (by decide) (nine_cells _ _)) _).mono ?_
  rw [csum_nine]
  rintro e w1 ⟨rfl, rfl⟩
  go_wp2
  go_ret
  exact ⟨rfl, balloc (balloc (Below.refl _ _) _) _⟩
end Go.Proofs.Ytpcfelccanmggaa
