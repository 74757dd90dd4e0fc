/- The document's Put (shredderref1). -/
import Derived.Test.YtlnlcmdbhkpnhaaCurPut
namespace Go.Proofs.Ytlnlcmdbhkpnhaa
open Go.RowKit
set_option linter.unusedVariables false

theorem Cloned.rowB {w w1 x1 : World} {ao ao1 : Option Addr} {n cap1 : Nat} {l : List Nat} (hl : l.length = n) (h : Cloned w1 x1 5 ao ao1 n cap1 (u8c l)) (hw : w.heap.size ≤ w1.heap.size) : RowB x1 w.heap.size ao1 n cap1 l := by
  refine ⟨hl, ?_⟩
  have h := h.row
  rw [range_u8c l n hl] at h
  exact h.imp id fun x => ⟨x.1, own_base x.2 hw⟩

set_option maxHeartbeats 2000000 in
theorem rput_n (ao : Option Addr) (L cap : Nat) (l : List Nat) (n : Int) (m v : Nat) (w : World) (hl : l.length = L) (hc : CellsAt w w.heap.size ao L (u8c l)) (hn : ao = none → L = 0) (hb : L ≤ 140737488355000) (hv : v < 18446744073709551616)
    (hm : (n ≤ 0 ∨ 8 < n) ∧ m = 0 ∨ n = m ∧ m ≤ 8) :
    Calls Try.prog 66 #[.slice ao L cap, .int .i64 n, .int .u64 (v : Nat)] w (GaveB w (l ++ lowB v m)) := by
  subst hl
  have hm8 : m ≤ 8 := by omega
  go_enter Try.func66, Try.ntmps66
  go_wp2_with (at_builtin; refine wpList_append_clone1 sl_u8 rfl (.tmp 8) (.tmp 9) rfl rfl rfl (hc.alloc (Nat.le_refl _) _) hn (fun _ _ => rfl) (by unfold maxLen; omega) (by omega) ?_)
  intro ao1 cap1 x1 hc1 hbD hown
  have hx1 : Below w.heap.size w x1 := (balloc (Below.refl _ _) _).trans (hbD.mono (by simp))
  have hr1 : RowB x1 w.heap.size ao1 l.length cap1 l := hown.rowB rfl (by simp)
  clear hown hbD hc1 hc
  go_wp2
  go_loopw [0, 7] (fun b i wr => ∃ (k : Nat) (ao2 : Option Addr) (cap2 : Nat), k ≤ m ∧ i = .int .i64 k ∧ b = .slice ao2 (l.length + k) cap2 ∧ RowB wr w.heap.size ao2 (l.length + k) cap2 (l ++ lowB v k) ∧ Below w.heap.size w wr) (fun _ i _ => m - (intOf i).toNat)
  case atStart => exact ⟨0, ao1, cap1, Nat.zero_le _, rfl, rfl, by simpa [lowB] using hr1, hx1⟩
  case round =>
    clear hr1 hx1
    obtain ⟨k, ao2, cap2, hk, rfl, rfl, hr2, hx2⟩ := hrel
    by_cases hkm : k < m
    · have hnm : n = m := by omega
      subst hnm
      have e1 : (k : Int) < (m : Int) := by omega
      have e2 : (0 : Int) ≤ (k : Int) := by omega
      have e3 : (m : Int) ≤ 8 := by omega
      have e4 : IntKind.u64.wrap (8 * (k : Int)) = ((8 * k : Nat) : Int) := by rw [IntWalk.u64_in _ (by omega)]; omega
      go_wp2_with (at_builtin; refine wpList_append_rowB rfl (.tmp 20) (.tmp 27) rfl rfl (hr2.alloc _) rfl rfl (cells_alloc _ _ _ 1 (u8c [v / 2 ^ (8 * k) % 256]) (fun i hi => by (obtain rfl : i = 0 := (by omega)); simp [u8c])) (fun h => by cases h) (by omega) (by have := hx2.size; simp; omega) ?_)
      intro ao3 cap3 x3 hr3 hb3 hs3
      have hb3 := (hx2.alloc hx2.size _).trans hb3
      clear hs3 hr2 e4
      go_wp2
      go_roundw
      case rel => exact ⟨k + 1, ao3, cap3, by omega, by go_num, rfl, by simpa [lowB, Nat.add_assoc] using hr3, hb3⟩
      case measure => simp [intOf]; omega
    · obtain rfl : k = m := by omega
      have hend : GaveB w (l ++ lowB v k) (.returned (.slice ao2 (l.length + k) cap2)) wr := by
        have hlen : (l ++ lowB v k).length = l.length + k := by rw [List.length_append, lowB_length]
        refine ⟨ao2, cap2, by rw [hlen], by rw [hlen]; exact hr2.cells, by rw [hlen]; exact hr2.nil0, by rw [hlen]; exact hr2, hx2⟩
      have Hend := Lib.hid hend
      clear hend hr2 hx2
      rcases hm with ⟨h | h, rfl⟩ | ⟨rfl, h⟩
      · go_wp2
        go_ret
        exact Hend.out
      · go_wp2
        go_ret
        exact Hend.out
      · go_wp2
        go_ret
        exact Hend.out
theorem rput_any (ao : Option Addr) (L cap : Nat) (l : List Nat) (n : Int) (v : Nat) (w : World) (hl : l.length = L) (hc : CellsAt w w.heap.size ao L (u8c l)) (hn : ao = none → L = 0) (hb : L ≤ 140737488355000) (hv : v < 18446744073709551616) :
    Calls Try.prog 66 #[.slice ao L cap, .int .i64 n, .int .u64 (v : Nat)] w (GaveB w (putB l n v)) := by
  unfold putB
  refine rput_n ao L cap l n _ v w hl hc hn hb hv ?_
  split
  · exact .inl ⟨.inr ‹_›, rfl⟩
  · by_cases h : n ≤ 0
    · exact .inl ⟨.inl h, by omega⟩
    · exact .inr ⟨by omega, by omega⟩
end Go.Proofs.Ytlnlcmdbhkpnhaa
