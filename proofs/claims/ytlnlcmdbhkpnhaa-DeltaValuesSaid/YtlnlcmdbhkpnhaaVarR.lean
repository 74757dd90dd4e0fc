/- Chapter 3: the walks over the document's Get and Read. -/
import Derived.Test.YtlnlcmdbhkpnhaaVarW
import Derived.Test.YtlnlcmdbhkpnhaaRel
namespace Go.Proofs.Ytlnlcmdbhkpnhaa
open Go.RowKit
set_option linter.unusedVariables false

theorem and127 (x : Nat) (hx : x < 256) : bits .and .u8 ((x : Nat) : Int) 127 = ((x % 128 : Nat) : Int) := by
  have h := bits_and_u8 x 127 hx (by decide)
  rw [show ((127 : Nat) : Int) = 127 from rfl] at h
  rw [h]
  congr 1
  exact Nat.and_two_pow_sub_one_eq_mod x 7

set_option maxHeartbeats 1000000 in
set_option maxRecDepth 100000 in
theorem rvget_any (ao : Option Addr) (L cap : Nat) (b : List Nat) (w : World) (hl : b.length = L) (h256 : ∀ x ∈ b, x < 256) (hL : L ≤ 9223372036854775807) (hc : CellsAt w w.heap.size ao L (u8c b)) :
    Calls Try.prog 65 #[.slice ao L cap] w fun e w' => e = .returned (.tuple #[.int .u64 ((vgetM b).1 : Nat), .int .i64 ((vgetM b).2.1 : Nat), .int .i64 ((vgetM b).2.2 : Nat)]) ∧ w = w' := by
  have Hl := Lib.hid hl; clear hl
  have H256 := Lib.hid h256; clear h256
  go_enter Try.func65, Try.ntmps65
  go_wp2
  go_loop [5, 6] (fun v i => ∃ k u : Nat, k ≤ L ∧ k ≤ 9 ∧ u < 2 ^ (7 * k) ∧ v = .int .u64 (u : Nat) ∧ i = .int .i64 k ∧ Hid (vgetM b = vgetR (b.drop k) k u)) (fun _ i => L - (intOf i).toNat)
  case atStart => exact ⟨0, 0, Nat.zero_le _, by decide, by decide, rfl, rfl, Lib.hid rfl⟩
  case round =>
    obtain ⟨k, u, hk, hk9, hu, rfl, rfl, hR⟩ := hrel
    by_cases hlt : k < L
    · obtain ⟨bb, off, rfl, -, hcc⟩ := hc k hlt
      obtain ⟨x, hx⟩ : ∃ x, x = b.getD k 0 := ⟨_, rfl⟩
      rw [u8c, ← hx] at hcc
      have hx256 : x < 256 := by rw [hx]; exact getD_lt H256.out k
      have hd : b.drop k = x :: b.drop (k + 1) := by
        rw [List.drop_eq_getElem_cons (by rw [Hl.out]; exact hlt), hx, List.getD_eq_getElem?_getD, List.getElem?_eq_getElem (by rw [Hl.out]; exact hlt)]; rfl
      have hR2 := hR.out
      rw [hd] at hR2
      unfold vgetR at hR2
      have e1 : (k : Int) < (L : Int) := by omega
      have e2 : (0 : Int) ≤ (k : Int) := by omega
      have e4 : IntKind.u64.wrap (7 * (k : Int)) = ((7 * k : Nat) : Int) := by rw [IntWalk.u64_in _ (by omega)]; omega
      have ha := and127 x hx256
      clear hd hc hx
      by_cases h9 : k = 9 ∧ 1 < x
      · rw [if_pos h9] at hR2
        obtain ⟨hk9', h1⟩ := h9
        have HR := Lib.hid hR2; clear hR2
        have b8 : ((k : Int) == 9) = true := by rw [beq_iff_eq]; omega
        clear hk9'
        go_wp2
        go_ret3
        exact ⟨by rw [HR.out]; rfl, rfl⟩
      · rw [if_neg h9] at hR2
        have g9 : k = 9 → x ≤ 1 := fun h => by omega
        have Ho := Lib.hid (or_shl u (x % 128) k hk9 hu (by omega) (by omega))
        by_cases h128 : x < 128
        · rw [if_pos h128] at hR2
          have hxm : x % 128 = x := Nat.mod_eq_of_lt h128
          have e6 : (x : Int) < 128 := by omega
          by_cases h0 : x = 0 ∧ 0 < k
          · rw [if_pos h0] at hR2
            obtain ⟨rfl, h1⟩ := h0
            have HR := Lib.hid hR2; clear hR2 e6 hxm
            by_cases hk9' : k = 9
            · have b8 : ((k : Int) == 9) = true := by rw [beq_iff_eq]; omega
              clear hk9'
              go_wp2
              go_ret3
              exact ⟨by rw [HR.out]; rfl, rfl⟩
            · have b8 : ((k : Int) == 9) = false := by rw [beq_eq_false_iff_ne]; omega
              clear hk9'
              go_wp2
              go_ret3
              exact ⟨by rw [HR.out]; rfl, rfl⟩
          · rw [if_neg h0] at hR2
            have HR := Lib.hid hR2; clear hR2
            have Hxe : Hid (u + x * 2 ^ (7 * k) = u + x % 128 * 2 ^ (7 * k)) := Lib.hid (by rw [hxm])
            clear hxm
            by_cases hx0 : x = 0
            · have hk0 : k = 0 := by omega
              have bk : ¬ 0 < k := by omega
              have b8 : ((k : Int) == 9) = false := by rw [beq_eq_false_iff_ne]; omega
              have b0 : ((x : Int) == 0) = true := by rw [beq_iff_eq]; omega
              clear h0 hx0 hk0
              go_wp2
              go_ret3
              exact ⟨by rw [HR.out, Hxe.out, ← Ho.out]; rfl, rfl⟩
            · have b0 : ((x : Int) == 0) = false := by rw [beq_eq_false_iff_ne]; omega
              clear h0
              by_cases hk9' : k = 9
              · have b8 : ((k : Int) == 9) = true := by rw [beq_iff_eq]; omega
                have b9 : decide ((1 : Int) < (x : Int)) = false := decide_eq_false (by have := g9 hk9'; omega)
                clear hk9'
                go_wp2
                go_ret3
                exact ⟨by rw [HR.out, Hxe.out, ← Ho.out]; rfl, rfl⟩
              · have b8 : ((k : Int) == 9) = false := by rw [beq_eq_false_iff_ne]; omega
                clear hk9'
                go_wp2
                go_ret3
                exact ⟨by rw [HR.out, Hxe.out, ← Ho.out]; rfl, rfl⟩
        · rw [if_neg h128] at hR2
          have HR := Lib.hid hR2; clear hR2
          have hk8 : k ≤ 8 := by omega
          have b8 : ((k : Int) == 9) = false := by rw [beq_eq_false_iff_ne]; omega
          have hu2 : u + x % 128 * 2 ^ (7 * k) < 2 ^ (7 * (k + 1)) := by
            have : x % 128 * 2 ^ (7 * k) ≤ 127 * 2 ^ (7 * k) := Nat.mul_le_mul_right _ (by omega)
            rw [show 7 * (k + 1) = 7 * k + 7 by omega, Nat.pow_add]
            omega
          have Hu2 := Lib.hid hu2; clear hu2
          have e6 : ¬ (x : Int) < 128 := by omega
          go_wp2
          go_round
          case rel => exact ⟨k + 1, u + x % 128 * 2 ^ (7 * k), by omega, by omega, Hu2.out, by rw [← Ho.out]; rfl, by go_num, HR⟩
          case measure => simp [intOf]; omega
    · obtain rfl : k = L := by omega
      have hR2 := hR.out
      rw [List.drop_of_length_le (by rw [Hl.out]; exact Nat.le_refl _)] at hR2
      have HR := Lib.hid hR2; clear hR2
      go_wp2
      go_ret3
      exact ⟨by rw [HR.out]; rfl, rfl⟩

theorem RRd.slice {w : World} {g lo : Nat} {b : List Nat} {at_ err : Nat} {ao : Option Addr} {cap : Nat} (h : RRd w g lo b at_ err) (hg : w.heap[g]? = some (.cells #[.slice ao b.length cap, .int .i64 (at_ : Nat), .int .i64 (err : Nat)] 77)) :
    CellsAt w g ao b.length (u8c b) := by
  obtain ⟨ao', cap', hg', hc, -⟩ := h
  rw [hg] at hg'
  simp only [Option.some.injEq, Obj.cells.injEq, Array.mk.injEq, List.cons.injEq, Value.slice.injEq] at hg'
  obtain ⟨⟨rfl, -⟩, -⟩ := hg'.1
  exact hc
/-- What the document's varint.Read answers, and how its reader stands. -/
def rvRead (b : List Nat) (at_ err : Nat) : Nat × Nat × Nat :=
  if err ≠ 0 then (0, at_, err) else if (vgetM (b.drop at_)).2.2 ≠ 0 then (0, at_, (vgetM (b.drop at_)).2.2) else ((vgetM (b.drop at_)).1, at_ + (vgetM (b.drop at_)).2.1, 0)
set_option maxHeartbeats 2000000 in
theorem rvread_any (g : Nat) {lo : Nat} (b : List Nat) (at_ err : Nat) (w : World) (h : RRd w g lo b at_ err) (hl : b.length ≤ 1000000) (ha : at_ ≤ b.length) (h256 : ∀ x ∈ b, x < 256) :
    Calls Try.prog 43 #[.pointer (some ⟨g, 0, none⟩)] w fun r w' => r = .returned (.int .u64 ((rvRead b at_ err).1 : Nat)) ∧ RRd w' g lo b (rvRead b at_ err).2.1 (rvRead b at_ err).2.2 ∧ But g w w' := by
  have hR := Lib.hid h
  obtain ⟨ao, cap, hg, hc, hn, hlc, hlo⟩ := h
  obtain ⟨c0, c1, c2, f1, f2⟩ := three_cells hg
  have Hlo := Lib.hid hlo
  have Hg := Lib.hid hg
  clear hg hlo
  by_cases he : err = 0
  · subst he
    obtain ⟨G, hG⟩ : ∃ G, G = vgetM (b.drop at_) := ⟨_, rfl⟩
    have hrv : rvRead b at_ 0 = if G.2.2 ≠ 0 then (0, at_, G.2.2) else (G.1, at_ + G.2.1, 0) := by unfold rvRead; rw [if_neg (by decide), ← hG]
    have hGn : G.2.1 ≤ (b.drop at_).length := by rw [hG]; exact vgetM_n _
    rw [List.length_drop] at hGn
    obtain ⟨ao', hao, hs⟩ := slice_from ao b.length cap at_ (by omega) (by omega)
    have hcD : ∀ w', Below w.heap.size w w' → CellsAt w' w'.heap.size ao' (b.length - at_) (u8c (b.drop at_)) := fun w' hw' => by
      rcases hao with h0 | rfl
      · rw [h0]; exact CellsAt.zero
      · have := drop_cells (p := at_) (m := b.length - at_) ((hc.mono (Nat.le_of_lt hR.out.lt)).at hw') (by omega)
        rw [List.take_of_length_le (by rw [List.length_drop]; omega)] at this
        exact this
    have hV := fun w' hw' => rvget_any ao' (b.length - at_) (cap - at_) (b.drop at_) w' (by rw [List.length_drop]) (fun x hx => h256 x (List.mem_of_mem_drop hx)) (by omega) (hcD w' hw')
    rw [← hG] at hV
    have HV := Lib.hid hV
    clear hV hcD hG hc
    by_cases hge : G.2.2 = 0
    · rw [if_neg (by omega)] at hrv
      have b1 : ((G.2.2 : Int) != 0) = false := by rw [bne_eq_false_iff_eq]; omega
      have hs1 := fun (w' : World) (h : w'.heap[g]? = some (.cells #[.slice ao b.length cap, .int .i64 (at_ : Nat), .int .i64 (0 : Nat)] 77)) => three_set1 h (.int .i64 ((at_ : Int) + (G.2.1 : Int)))
      have Hs1 := Lib.hid hs1
      have Hrv := Lib.hid hrv
      clear hrv hge hs1
      go_enter Try.func43, Try.ntmps43
      go_wp2
      go_quiet ((go_at_call 65; exact Calls.quiet_of_same (same_flip (HV.out _ (below_drewN (Below.refl _ _) _)))))
      go_wp2
      go_ret
      rw [Hrv.out]
      have hbW : But g w ((w.drewN nq).setCell ⟨g, 1, none⟩ (.int .i64 ((at_ : Int) + (G.2.1 : Int)))) := But.setCell (But.of (below_drewN (Below.refl _ _) nq)) 1 _
      refine ⟨rfl, ⟨ao, cap, ?_, ?_, hn, hlc, Hlo.out⟩, hbW⟩
      · exact Hs1.out (w.drewN nq) Hg.out
      · exact hbW.cells (Nat.le_of_lt hR.out.lt) (Nat.le_refl _) (hR.out.slice Hg.out)
    · rw [if_pos hge] at hrv
      have b1 : ((G.2.2 : Int) != 0) = true := by rw [bne_iff_ne]; omega
      have Hrv := Lib.hid hrv
      clear hrv hge
      go_enter Try.func43, Try.ntmps43
      go_wp2
      go_quiet ((go_at_call 65; exact Calls.quiet_of_same (same_flip (HV.out _ (below_drewN (Below.refl _ _) _)))))
      go_wp2_with fail
      refine (rfail_any g (lo := lo) b at_ 0 G.2.2 _ (hR.out.keep (below_drewN (Below.refl _ _) nq))).mono ?_
      rintro e x1 ⟨rfl, hr1, hb1⟩
      rw [if_pos rfl] at hr1
      have hb1 : But g w x1 := ⟨hb1.os, hb1.tape, hb1.output, hb1.size, hb1.block⟩
      have hr1 := Lib.hid hr1
      have hb1 := Lib.hid hb1
      go_wp2
      go_ret
      rw [Hrv.out]
      exact ⟨rfl, hr1.out, hb1.out⟩
  · have e1 : ((err : Int) != 0) = true := by rw [bne_iff_ne]; omega
    rw [show rvRead b at_ err = (0, at_, err) by unfold rvRead; rw [if_pos he]]
    go_enter Try.func43, Try.ntmps43
    go_wp2
    go_ret
    exact ⟨rfl, hR.out, But.refl g w⟩
end Go.Proofs.Ytlnlcmdbhkpnhaa
