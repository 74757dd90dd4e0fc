/- Chapter 4's laws: the walk over CrcSums. -/
import Derived.Test.YtpcfelccanmggaaCrcLaws2
namespace Go.Proofs.Ytpcfelccanmggaa
open Go.RowKit
set_option linter.unusedVariables false

/-- A part that is nil has no room. -/
def PartsNil (w : World) (ao : Option Addr) (n : Nat) : Prop := ∀ i b off m c, i < n → ao = some ⟨b, off, none⟩ → w.cell? ⟨b, off + i, none⟩ = some (.slice none m c) → m = 0 ∧ c = 0
theorem PartsAt.zero (w : World) (B : Nat) (ao : Option Addr) : PartsAt w B ao 0 [] := ⟨rfl, fun i hi => absurd hi (Nat.not_lt_zero i)⟩

set_option maxHeartbeats 2000000 in
set_option maxRecDepth 100000 in
theorem crcSums_walk (a0 : Option Addr) (len0 cap0 : Nat) (ps : List (List Nat)) (w : World) (hl : len0 ≤ 9223372036854775807) (hb : ∀ p ∈ ps, ∀ x ∈ p, x < 256) (hp : PartsAt w w.heap.size a0 len0 ps) (hnil : PartsNil w a0 len0)
    (hsum : ps.flatten.length ≤ 1048576) :
    Calls Try.prog 3 #[.slice a0 len0 cap0] w fun e w' => e = .returned (.bool true) ∧ Below w.heap.size w w' := by
  have Hb := Lib.hid hb; clear hb
  have HP := Lib.hid hp
  obtain ⟨hpl, hpc⟩ := hp
  have Hpl := Lib.hid hpl; clear hpl
  have Hnil := Lib.hid hnil; clear hnil
  have hss : (((csum ps.flatten : Nat) : Int) == ((csum ps.flatten : Nat) : Int)) = true := by simp
  go_enter Try.func3, Try.ntmps3
  go_wp2_with (go_at_call 10; refine (known_any _).mono ?_; rintro e x1 ⟨rfl, hx1⟩)
  go_loopw [3, 4] (fun v i wr => ∃ (k n : Nat), k ≤ len0 ∧ i = .int .i64 k ∧ Hid (n = (ps.take k).flatten.length) ∧ wr.ownsRow w.heap.size 5 1 v n (u8v (ps.take k).flatten) ∧ Below w.heap.size w wr) (fun _ i _ => len0 - (intOf i).toNat)
  case atStart => exact ⟨0, 0, Nat.zero_le _, rfl, Lib.hid (by simp), World.ownsRow_nil _ _ _ _, hx1⟩
  case round =>
    obtain ⟨k, n, hk, rfl, hn, hown, hwr⟩ := hrel
    by_cases hkn : k < len0
    · obtain ⟨b, off, rfl, hbw, a, m, c, hcell, hm, hm2, hcs⟩ := hpc k hkn
      have hcell' := (hwr.cell (by exact hbw)).trans hcell
      have hz : a = none → m = 0 ∧ c = 0 := fun e => by subst e; exact Hnil.out k b off m c hkn rfl hcell
      have hfl : (ps.take (k + 1)).flatten.length = n + m := by
        rw [flatten_take ps k (by rw [Hpl.out]; exact hkn), List.length_append, hm, hn.out]
      have hle : n + m ≤ 1048576 := by
        have e : ps.flatten = (ps.take (k + 1)).flatten ++ (ps.drop (k + 1)).flatten := by rw [← List.flatten_append, List.take_append_drop]
        have := congrArg List.length e
        rw [List.length_append] at this
        omega
      have hu : u8v (ps.take k).flatten ++ (List.range m).map (u8c (ps.getD k [])) = u8v (ps.take (k + 1)).flatten := by
        rw [range_u8c _ m hm, u8v_append, flatten_take ps k (by rw [Hpl.out]; exact hkn)]
      have Hu := Lib.hid hu; clear hu
      have Hfl := Lib.hid hfl; clear hfl
      have hcs' := hcs.below hwr
      obtain ⟨p, hp⟩ : ∃ p, p = ps.getD k [] := ⟨_, rfl⟩
      rw [← hp] at hcs' Hu
      clear hp hm
      clear hpc hcell hcs
      go_wp2_with (at_builtin; refine wpList_append_all1 sl_u8 rfl (.tmp 13) (.tmp 17) rfl rfl hown rfl hcs' hz (fun _ _ => rfl) ?c1 ?c2 hwr.size ?_)
      case c1 => unfold maxLen; omega
      case c2 => omega
      intro v' y hown' hgrow
      rw [Hu.out] at hown'
      have hy := hwr.grown hgrow hwr.size (fun j hj => (hown.lt j hj).1)
      go_wp2
      go_roundw
      case rel => exact ⟨k + 1, n + m, by omega, by go_num, Lib.hid Hfl.out.symm, hown', hy⟩
      case measure => simp [intOf]; omega
    · obtain rfl : k = len0 := by omega
      have hall : (ps.take k).flatten = ps.flatten := by rw [List.take_of_length_le (by rw [Hpl.out]; exact Nat.le_refl _)]
      rw [hall] at hown
      have hn' : Hid (ps.flatten.length = n) := Lib.hid (by rw [hn.out, hall])
      clear hn hall
      have hF : Hid (∀ x ∈ ps.flatten, x < 256) := Lib.hid (mem_flatten_lt Hb.out)
      have hn1 : n ≤ 1048576 := by rw [← hn'.out]; exact hsum
      obtain ⟨ao, cap, rfl, hcA, -⟩ := own_u8 hown
      have hP2 := (HP.out.below hwr).mono hwr.size
      clear hown hsum hpc
      have HP2 := Lib.hid hP2; clear hP2
      by_cases h500 : 500 < n
      · go_wp2
        go_ret
        exact ⟨rfl, hwr⟩
      by_cases h20 : 20 < k
      · go_wp2
        go_ret
        exact ⟨rfl, hwr⟩
      go_wp2_with fail
      refine (sum_n a0 k cap0 ps _ hl Hb.out HP2.out).mono ?_
      rintro e x4 ⟨rfl, rfl⟩
      go_wp2_with fail
      refine (rsum_n _ _ _ _ _ hn'.out (by omega) hF.out hcA).mono ?_
      rintro e x4 ⟨rfl, rfl⟩
      go_wp2_with fail
      refine (sum_one _ ps.flatten _ hF.out (by exact one_part rfl hn'.out (by omega) hcA) _).mono ?_
      rintro e x4 ⟨rfl, rfl⟩
      go_wp2_with fail
      refine (rsum_n _ _ _ ps.flatten _ hn'.out (by omega) hF.out ((hcA.alloc (Nat.le_refl _) _).mono (by simp))).mono ?_
      rintro e x4 ⟨rfl, rfl⟩
      go_wp2_with fail
      refine (sum_n none 0 0 [] _ (by decide) (fun p hp => absurd hp List.not_mem_nil) (PartsAt.zero _ _ _)).mono ?_
      rw [show csum ([] : List (List Nat)).flatten = 0 by decide +kernel]
      rintro e x4 ⟨rfl, rfl⟩
      go_wp2
      go_ret
      exact ⟨rfl, balloc hwr _⟩
end Go.Proofs.Ytpcfelccanmggaa
