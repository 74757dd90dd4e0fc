/- Chapter 11: plain.Decode of whatever kind and number. -/
import Derived.Test.YtebmbkbnngeabaaGreatPlainD1
set_option linter.unusedSimpArgs false
namespace Go.Proofs.YtebmbkbnngeabaaGreat
open Go.RowKit
set_option linter.unusedVariables false
def decodeM (kind : Int) (b : List Nat) (n : Int) : List Vl × Nat :=
 if kind < 1 ∨ 4 < kind ∨ n < 0 ∨ 4000 < n then ([], 1) else if kind = 1 then decB b n.toNat else decM kind.toNat b n.toNat
def GaveDec (w : World) (r : List Vl × Nat) (e : Ending) (w' : World) : Prop := ∃ v, e = .returned (.tuple #[v, .int .i64 (r.2 : Nat)]) ∧ w'.ownsRow w.heap.size 81 2 v r.1.length (vcs r.1) ∧ Below w.heap.size w w'
set_option maxRecDepth 100000 in
set_option maxHeartbeats 400000 in
theorem sign_out (kind : Int) (w : World) (h : kind < 1 ∨ 4 < kind) : Calls Tryz.prog 84 #[.int .i64 kind] w fun e w' => e = .returned (.int .i32 32) ∧ w = w' := by
 rcases h with h | h
 · go_enter Tryz.func84, Tryz.ntmps84
   go_wp2
   go_ret
   exact ⟨rfl, rfl⟩
 · have h0 : ¬ kind < 1 := by omega
   go_enter Tryz.func84, Tryz.ntmps84
   go_wp2
   go_ret
   exact ⟨rfl, rfl⟩
theorem sign_in (kind : Int) (w : World) (h1 : 1 ≤ kind) (h4 : kind ≤ 4) : ∃ c : Int, (c == 32) = false ∧ Calls Tryz.prog 84 #[.int .i64 kind] w fun e w' => e = .returned (.int .i32 c) ∧ w = w' := by
 have h : kind = 1 ∨ kind = 2 ∨ kind = 3 ∨ kind = 4 := by omega
 rcases h with rfl | rfl | rfl | rfl
 · exact ⟨98, by decide, sign_1 w⟩
 · exact ⟨105, by decide, sign_2 w⟩
 · exact ⟨108, by decide, sign_3 w⟩
 · exact ⟨116, by decide, sign_4 w⟩
set_option maxRecDepth 100000 in
set_option maxHeartbeats 1000000 in
theorem decode_arg (kind : Int) (ao : Option Addr) (L cap : Nat) (b : List Nat) (n : Int) (w : World) (h : kind < 1 ∨ 4 < kind ∨ n < 0 ∨ 4000 < n) :
 Calls Tryz.prog 58 #[.int .i64 kind, .slice ao L cap, .int .i64 n] w (GaveDec w ([], 1)) := by
 have key : ∀ w' : World, Below w.heap.size w w' → GaveDec w ([], 1) (.returned (.tuple #[.slice none 0 0, .int .i64 1])) w' := fun w' hb => ⟨_, rfl, World.ownsRow_nil _ _ _ _, hb⟩
 have Key := Lib.hid key; clear key
 by_cases hk : kind < 1 ∨ 4 < kind
 · have hs := sign_out kind w hk
   have Hs := Lib.hid hs; clear hs hk h
   go_enter Tryz.func58, Tryz.ntmps58
   go_wp2
   refine wp_scope_jumps 0 (fun _ _ => False) (fun _ _ => 0) rfl ?_ (fun _ _ h => h.elim)
   go_wp2_with fail
   refine Hs.out.mono ?_
   rintro e x ⟨rfl, rfl⟩
   go_wp2
   simp only [Exit.jump]
   go_ret2
   exact Key.out _ (Below.refl _ _)
 · have hn : n < 0 ∨ 4000 < n := by omega
   obtain ⟨c, hc, hs⟩ := sign_in kind w (by omega) (by omega)
   have Hs := Lib.hid hs; clear hs hk h
   rcases hn with hn | hn
   · go_enter Tryz.func58, Tryz.ntmps58
     go_wp2
     refine wp_scope_jumps 0 (fun _ _ => False) (fun _ _ => 0) rfl ?_ (fun _ _ h => h.elim)
     go_wp2_with fail
     refine Hs.out.mono ?_
     rintro e x ⟨rfl, rfl⟩
     go_wp2
     simp only [Exit.jump]
     go_ret2
     exact Key.out _ (Below.refl _ _)
   · have h0 : ¬ n < 0 := by omega
     go_enter Tryz.func58, Tryz.ntmps58
     go_wp2
     refine wp_scope_jumps 0 (fun _ _ => False) (fun _ _ => 0) rfl ?_ (fun _ _ h => h.elim)
     go_wp2_with fail
     refine Hs.out.mono ?_
     rintro e x ⟨rfl, rfl⟩
     go_wp2
     simp only [Exit.jump]
     go_ret2
     exact Key.out _ (Below.refl _ _)
set_option maxRecDepth 100000 in
set_option maxHeartbeats 1000000 in
theorem decode_1 (ao : Option Addr) (L cap n : Nat) (b : List Nat) (w : World) (hl : b.length = L) (h256 : ∀ x ∈ b, x < 256) (hL : L ≤ 140737488355328) (hc : CellsAt w w.heap.size ao L (u8c b)) (hn : n ≤ 4000) :
 Calls Tryz.prog 58 #[.int .i64 1, .slice ao L cap, .int .i64 n] w (GaveDec w (decB b n)) := by
 have hB := bools_any ao L cap n b w hl h256 hL hc hn
 obtain ⟨D, hD⟩ : ∃ D, D = decB b n := ⟨_, rfl⟩
 rw [← hD] at hB ⊢
 have HB := Lib.hid hB; clear hB hD hl h256 hc
 go_enter Tryz.func58, Tryz.ntmps58
 go_wp2
 refine wp_scope_jumps 0 (fun _ _ => False) (fun _ _ => 0) rfl ?_ (fun _ _ h => h.elim)
 go_wp2_with (go_at_call 84; refine (sign_1 _).mono ?_; rintro e x0 ⟨rfl, rfl⟩)
 refine HB.out.mono ?_
 rintro e x ⟨v, rfl, ho, hb⟩
 go_wp2
 simp only [Exit.jump]
 go_ret2
 exact ⟨_, rfl, ho, hb⟩
theorem decode_any (kind : Int) (ao : Option Addr) (L cap : Nat) (b : List Nat) (n : Int) (w : World) (hl : b.length = L) (h256 : ∀ x ∈ b, x < 256) (hL : L ≤ 140737488355328) (hc : CellsAt w w.heap.size ao L (u8c b)) (hz : ao = none → L = 0) :
 Calls Tryz.prog 58 #[.int .i64 kind, .slice ao L cap, .int .i64 n] w (GaveDec w (decodeM kind b n)) := by
 unfold decodeM
 by_cases h : kind < 1 ∨ 4 < kind ∨ n < 0 ∨ 4000 < n
 · rw [if_pos h]; exact decode_arg kind ao L cap b n w h
 · rw [if_neg h]
   obtain ⟨m, rfl⟩ : ∃ m : Nat, n = m := ⟨n.toNat, by omega⟩
   rw [Int.toNat_natCast]
   have hk : kind = 1 ∨ kind = 2 ∨ kind = 3 ∨ kind = 4 := by omega
   have hm : m ≤ 4000 := by omega
   rcases hk with rfl | rfl | rfl | rfl
   · rw [if_pos rfl]; exact decode_1 ao L cap m b w hl h256 hL hc hm
   · rw [if_neg (by decide)]; exact decode_2 ao L cap m b w hl h256 hL hc hz hm
   · rw [if_neg (by decide)]; exact decode_3 ao L cap m b w hl h256 hL hc hz hm
   · rw [if_neg (by decide)]; exact decode_4 ao L cap m b w hl h256 hL hc hz hm
end Go.Proofs.YtebmbkbnngeabaaGreat
