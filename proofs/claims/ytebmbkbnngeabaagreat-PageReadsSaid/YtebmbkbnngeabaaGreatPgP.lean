/- Chapter 18: page.sign, page.width. -/
import Derived.Test.YtebmbkbnngeabaaGreatBunC
import Derived.Test.YtebmbkbnngeabaaGreatDictD
set_option linter.unusedSimpArgs false
namespace Go.Proofs.YtebmbkbnngeabaaGreat
open Go.RowKit
set_option linter.unusedVariables false
def signP (enc : Int) : Int := if enc = 0 then 112 else if enc = 1 then 100 else if enc = 2 then 119 else 32
set_option maxHeartbeats 1000000 in
theorem psign_any (enc : Int) (w : World) : Calls Tryz.prog 50 #[.int .i64 enc] w fun e w' => e = .returned (.int .i32 (signP enc)) ∧ w = w' := by
 unfold signP
 by_cases h0 : enc = 0
 · subst h0
   go_enter Tryz.func50, Tryz.ntmps50
   go_wp2
   go_ret
   exact ⟨rfl, rfl⟩
 · by_cases h1 : enc = 1
   · subst h1
     go_enter Tryz.func50, Tryz.ntmps50
     go_wp2
     go_ret
     exact ⟨rfl, rfl⟩
   · by_cases h2 : enc = 2
     · subst h2
       go_enter Tryz.func50, Tryz.ntmps50
       go_wp2
       go_ret
       exact ⟨rfl, rfl⟩
     · have f0 : (enc == 0) = false := by rw [beq_eq_false_iff_ne]; exact h0
       have f1 : (enc == 1) = false := by rw [beq_eq_false_iff_ne]; exact h1
       have f2 : (enc == 2) = false := by rw [beq_eq_false_iff_ne]; exact h2
       rw [if_neg h0, if_neg h1, if_neg h2]
       go_enter Tryz.func50, Tryz.ntmps50
       go_wp2
       go_ret
       exact ⟨rfl, rfl⟩
set_option maxHeartbeats 1000000 in
theorem pwidth_any (r : Nat) (w : World) (h : r ≤ 1000000) : Calls Tryz.prog 26 #[.int .i64 (r : Nat)] w fun e w' => e = .returned (.int .i64 (bitLen r : Nat)) ∧ w = w' := by
 have hmax := fun w' : World => run_max_int2 (P := Tryz.prog) (w := w') #[3, 3] 3 .i64 (r : Int) 0 (r : Int) (by omega)
 have HW := Lib.hid (width_n r)
 go_enter Tryz.func26, Tryz.ntmps26
 go_wp2_with fail
 refine (HW.out _ (by omega)).mono ?_
 rintro e x ⟨rfl, rfl⟩
 go_wp2
 go_ret
 exact ⟨rfl, rfl⟩
end Go.Proofs.YtebmbkbnngeabaaGreat
