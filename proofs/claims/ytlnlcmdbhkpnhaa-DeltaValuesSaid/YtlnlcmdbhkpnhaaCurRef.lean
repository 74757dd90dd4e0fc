/- The document's Reader (shredderref1). -/
import Derived.Test.YtlnlcmdbhkpnhaaCurPut
import Derived.Test.YtlnlcmdbhkpnhaaBunB
namespace Go.Proofs.Ytlnlcmdbhkpnhaa
open Go.RowKit
set_option linter.unusedVariables false

/-- The document's reader: its bytes, how far it is, its error. -/
def RRd (w : World) (g lo : Nat) (b : List Nat) (at_ err : Nat) : Prop :=
  ∃ ao cap, w.heap[g]? = some (.cells #[.slice ao b.length cap, .int .i64 (at_ : Nat), .int .i64 (err : Nat)] 77) ∧ CellsAt w g ao b.length (u8c b) ∧ (ao = none → b.length = 0) ∧ b.length ≤ cap ∧ (0 < b.length → ∀ a, ao = some a → lo ≤ a.block)
theorem RRd.lt {w : World} {g lo : Nat} {b : List Nat} {at_ err : Nat} (h : RRd w g lo b at_ err) : g < w.heap.size := by
  obtain ⟨ao, cap, h, -⟩ := h
  exact (Array.getElem?_eq_some_iff.1 h).1
theorem RRd.below {w w' : World} {g lo B : Nat} {b : List Nat} {at_ err : Nat} (h : RRd w g lo b at_ err) (hb : Below B w w') (hg : g < B) : RRd w' g lo b at_ err := by
  obtain ⟨ao, cap, h1, h2, h3⟩ := h
  refine ⟨ao, cap, (hb.block g hg).trans h1, fun i hi => ?_, h3⟩
  obtain ⟨b, off, e, hlt, hc⟩ := h2 i hi
  exact ⟨b, off, e, hlt, (hb.cell (show b < B by omega)).trans hc⟩
theorem RRd.keep {w w' : World} {g lo : Nat} {b : List Nat} {at_ err : Nat} (h : RRd w g lo b at_ err) (hb : Below w.heap.size w w') : RRd w' g lo b at_ err := h.below hb h.lt
theorem RRd.but {w w' : World} {g lo g' : Nat} {b : List Nat} {at_ err : Nat} (h : RRd w g lo b at_ err) (hb : But g' w w') (hg : g < g' ∨ g' < lo ∧ g' < g) : RRd w' g lo b at_ err := by
  have hlt := h.lt
  obtain ⟨ao, cap, h1, h2, h3, h4, h5⟩ := h
  refine ⟨ao, cap, (hb.block g hlt (by omega)).trans h1, fun i hi => ?_, h3, h4, h5⟩
  obtain ⟨b, off, rfl, hbg, hc⟩ := h2 i hi
  have := h5 (by omega) _ rfl
  simp only at this
  exact ⟨b, off, rfl, hbg, (hb.cell (show b < w.heap.size by omega) (show b ≠ g' by omega)).trans hc⟩
theorem three_cells {w : World} {g T : Nat} {a b c : Value} (h : w.heap[g]? = some (.cells #[a, b, c] T)) :
    w.cell? ⟨g, 0, none⟩ = some a ∧ w.cell? ⟨g, 1, none⟩ = some b ∧ w.cell? ⟨g, 2, none⟩ = some c ∧ w.frozen? ⟨g, 1, none⟩ = false ∧ w.frozen? ⟨g, 2, none⟩ = false := by
  refine ⟨?_, ?_, ?_, ?_, ?_⟩ <;> simp [World.cell?, World.frozen?, h]
theorem three_set1 {w : World} {g T : Nat} {a b c : Value} (h : w.heap[g]? = some (.cells #[a, b, c] T)) (v : Value) : (w.setCell ⟨g, 1, none⟩ v).heap[g]? = some (.cells #[a, v, c] T) := by
  simp only [World.setCell, Array.getElem?_modify, h]; simp
theorem three_set2 {w : World} {g T : Nat} {a b c : Value} (h : w.heap[g]? = some (.cells #[a, b, c] T)) (v : Value) : (w.setCell ⟨g, 2, none⟩ v).heap[g]? = some (.cells #[a, b, v] T) := by
  simp only [World.setCell, Array.getElem?_modify, h]; simp

set_option maxHeartbeats 1000000 in
theorem rnew_any (ao : Option Addr) (n cap : Nat) (l : List Nat) (w : World) (hl : l.length = n) (hc : CellsAt w w.heap.size ao n (u8c l)) (hn : ao = none → n = 0) (hb : n ≤ 140737488355328) :
    Calls Try.prog 41 #[.slice ao n cap] w fun e w' => ∃ g, e = .returned (.pointer (some ⟨g, 0, none⟩)) ∧ w.heap.size ≤ g ∧ RRd w' g w.heap.size l 0 0 ∧ Below w.heap.size w w' := by
  have Hl := Lib.hid hl; clear hl
  go_enter Try.func41, Try.ntmps41
  go_wp2_with (at_builtin; refine wpList_append_clone1 sl_u8 rfl (.tmp 3) (.tmp 4) rfl rfl rfl (hc.alloc (Nat.le_refl _) _) hn (fun _ _ => rfl) (by unfold maxLen; omega) (by omega) ?_)
  intro ao1 cap1 x1 hc1 hbD hown
  have hx1 : Below w.heap.size w x1 := (balloc (Below.refl _ _) _).trans (hbD.mono (by simp))
  have hr1 : RowB x1 w.heap.size ao1 n cap1 l := by
    refine ⟨Hl.out, ?_⟩
    have h := hown.row
    rw [range_u8c l n Hl.out] at h
    exact h.imp id fun x => ⟨x.1, own_base x.2 (by simp)⟩
  have Hr1 := Lib.hid hr1
  have Hx1 := Lib.hid hx1
  clear hbD hown hr1 hx1
  go_wp2
  go_ret
  refine ⟨x1.heap.size, rfl, Hx1.out.size, ⟨ao1, cap1, ?_, ?_, ?_, ?_, ?_⟩, balloc Hx1.out _⟩
  · rw [heap_alloc_new, Hl.out]; rfl
  · rw [Hl.out]
    intro i hi
    obtain ⟨b, off, e, hlt, hcc⟩ := hc1 i hi
    exact ⟨b, off, e, hlt, ((balloc (Below.refl _ _) _).cell (by exact hlt)).trans hcc⟩
  · rw [Hl.out]; exact Hr1.out.nil0
  · rw [Hl.out]; exact Hr1.out.cap
  · rw [Hl.out]; exact fun h0 a ha => Hr1.out.low h0 a ha

set_option maxHeartbeats 1000000 in
theorem rfail_any (g : Nat) {lo : Nat} (b : List Nat) (at_ err c : Nat) (w : World) (h : RRd w g lo b at_ err) :
    Calls Try.prog 45 #[.pointer (some ⟨g, 0, none⟩), .int .i64 (c : Nat)] w fun r w' => r = .returned (.tuple #[]) ∧ RRd w' g lo b at_ (if err = 0 then c else err) ∧ But g w w' := by
  obtain ⟨ao, cap, hg, hc, hn, hlc, hlo⟩ := h
  obtain ⟨c0, c1, c2, f1, f2⟩ := three_cells hg
  have Hlo := Lib.hid hlo
  by_cases he : err = 0
  · subst he
    have Hs := Lib.hid (three_set2 hg (.int .i64 (c : Nat)))
    have Hg := Lib.hid (Nat.le_of_lt (Array.getElem?_eq_some_iff.1 hg).1)
    clear hg hlo
    go_enter Try.func45, Try.ntmps45
    go_wp2
    go_end0
    exact ⟨rfl, ⟨ao, cap, Hs.out, ((But.refl g w).setCell 2 _).cells Hg.out (Nat.le_refl _) hc, hn, hlc, Hlo.out⟩, (But.refl g w).setCell 2 _⟩
  · have e1 : ((err : Int) == 0) = false := by simp; omega
    have Hg := Lib.hid hg
    rw [if_neg he]
    clear hg hlo
    go_enter Try.func45, Try.ntmps45
    go_wp2
    go_end0
    exact ⟨rfl, ⟨ao, cap, Hg.out, hc, hn, hlc, Hlo.out⟩, But.refl g w⟩
def rrEnd (b : List Nat) (at_ err : Nat) : Nat := if err = 0 ∧ at_ < b.length then 9 else err
set_option maxHeartbeats 1000000 in
theorem rend_any (g : Nat) {lo : Nat} (b : List Nat) (at_ err : Nat) (w : World) (h : RRd w g lo b at_ err) :
    Calls Try.prog 73 #[.pointer (some ⟨g, 0, none⟩)] w fun r w' => r = .returned (.int .i64 (rrEnd b at_ err : Nat)) ∧ ∃ m, w' = w.drewN m := by
  obtain ⟨ao, cap, hg, hc, hn, hlc, hlo⟩ := h
  obtain ⟨c0, c1, c2, f1, f2⟩ := three_cells hg
  clear hlo hg
  by_cases he : err = 0
  · subst he
    by_cases hl : at_ < b.length
    · have e2 : (at_ : Int) < (b.length : Int) := by omega
      have e3 : decide ((at_ : Int) < (b.length : Int)) = true := by simp; omega
      go_enter Try.func73, Try.ntmps73
      go_wp2
      go_quiet (fail)
      go_wp2
      go_ret
      exact ⟨by simp [rrEnd, hl], _, rfl⟩
    · have e3 : decide ((at_ : Int) < (b.length : Int)) = false := by simp; omega
      go_enter Try.func73, Try.ntmps73
      go_wp2
      go_quiet (fail)
      go_wp2
      go_ret
      exact ⟨by simp [rrEnd, hl], _, rfl⟩
  · have e2 : ((err : Int) == 0) = false := by simp; omega
    go_enter Try.func73, Try.ntmps73
    go_wp2
    go_quiet (fail)
    go_wp2
    go_ret
    exact ⟨by simp [rrEnd, he], _, rfl⟩

def rrTake (b : List Nat) (at_ err : Nat) (n : Int) : List Nat × Nat × Nat :=
  if err ≠ 0 ∨ n ≤ 0 then ([], at_, err) else if (b.length : Int) - at_ < n then ([], at_, 8) else ((b.drop at_).take n.toNat, at_ + n.toNat, err)
def RTook (w : World) (g lo : Nat) (b : List Nat) (t : List Nat × Nat × Nat) (r : Ending) (w' : World) : Prop :=
  ∃ ao cap, r = .returned (.slice ao t.1.length cap) ∧ CellsAt w' w'.heap.size ao t.1.length (u8c t.1) ∧ (ao = none → t.1.length = 0) ∧ RRd w' g lo b t.2.1 t.2.2 ∧ But g w w'

set_option maxHeartbeats 2000000 in
theorem rrtake_any (g : Nat) {lo : Nat} (b : List Nat) (at_ err : Nat) (n : Int) (w : World) (h : RRd w g lo b at_ err) (hl : b.length ≤ 1000000) (ha : at_ ≤ b.length) :
    Calls Try.prog 46 #[.pointer (some ⟨g, 0, none⟩), .int .i64 n] w (RTook w g lo b (rrTake b at_ err n)) := by
  have hR := Lib.hid h
  obtain ⟨ao, cap, hg, hc, hn, hlc, hlo⟩ := h
  obtain ⟨c0, c1, c2, f1, f2⟩ := three_cells hg
  have Hlo := Lib.hid hlo
  have Hg := Lib.hid hg
  clear hg hlo
  by_cases he : err = 0
  · subst he
    by_cases hn0 : n ≤ 0
    · rw [show rrTake b at_ 0 n = ([], at_, 0) by unfold rrTake; rw [if_pos (.inr hn0)]]
      go_enter Try.func46, Try.ntmps46
      go_wp2
      go_ret
      exact ⟨none, 0, rfl, CellsAt.zero, fun _ => rfl, hR.out, But.refl g w⟩
    · obtain ⟨m, rfl⟩ : ∃ m : Nat, n = m := ⟨n.toNat, by omega⟩
      by_cases hlt : (b.length : Int) - at_ < m
      · rw [show rrTake b at_ 0 m = ([], at_, 8) by unfold rrTake; rw [if_neg (by omega), if_pos hlt]]
        go_enter Try.func46, Try.ntmps46
        go_wp2
        go_quiet (fail)
        go_wp2_with fail
        refine (rfail_any g (lo := lo) b at_ 0 8 _ (hR.out.keep (below_drewN (Below.refl _ _) nq))).mono ?_
        rintro e x1 ⟨rfl, hr1, hb1⟩
        rw [if_pos rfl] at hr1
        have hb1 : But g w x1 := ⟨hb1.os, hb1.tape, hb1.output, hb1.size, hb1.block⟩
        have hr1 := Lib.hid hr1
        have hb1 := Lib.hid hb1
        go_wp2
        go_ret
        exact ⟨none, 0, rfl, CellsAt.zero, fun _ => rfl, hr1.out, hb1.out⟩
      · rw [show rrTake b at_ 0 m = ((b.drop at_).take m, at_ + m, 0) by unfold rrTake; rw [if_neg (by omega), if_neg hlt]; rfl]
        have Ht : Hid (((b.drop at_).take m).length = m) := Lib.hid (List.length_take_of_le (by rw [List.length_drop]; omega))
        have hs1 := fun (w' : World) (h : w'.heap[g]? = some (.cells #[.slice ao b.length cap, .int .i64 (at_ : Nat), .int .i64 (0 : Nat)] 77)) => three_set1 h (.int .i64 ((at_ : Int) + (m : Int)))
        obtain ⟨ao', hao, hs⟩ := slice_lh ao b.length cap at_ m (by omega)
        go_enter Try.func46, Try.ntmps46
        go_wp2
        go_quiet (fail)
        go_wp2
        have hbW : But g w ((w.drewN nq).setCell ⟨g, 1, none⟩ (.int .i64 ((at_ : Int) + (m : Int)))) := But.setCell (But.of (below_drewN (Below.refl _ _) nq)) 1 _
        have hgW := hs1 (w.drewN nq) Hg.out
        obtain ⟨W, hW⟩ : ∃ W, W = (w.drewN nq).setCell ⟨g, 1, none⟩ (.int .i64 ((at_ : Int) + (m : Int))) := ⟨_, rfl⟩
        rw [← hW] at hbW hgW ⊢
        have hcW := hbW.cells (Nat.le_of_lt hR.out.lt) (Nat.le_refl _) hc
        obtain ⟨d0, d1, d2, _, _⟩ := three_cells hgW
        have D0 := fun (w' : World) (h : Grows W.drew w') => h.toDrew.cell d0
        have D1 := fun (w' : World) (h : Grows W.drew w') => h.toDrew.cell d1
        have HgW := Lib.hid hgW
        have HbW := Lib.hid hbW
        have e5 : IntKind.i64.wrap ((at_ : Int) + (m : Int) - (m : Int)) = (at_ : Int) := by rw [IntWalk.i64_in _ (by omega)]; omega
        have e6 : IntKind.i64.wrap (at_ : Int) = (at_ : Int) := IntWalk.i64_in _ (by omega)
        clear hW hs1 c0 c1 c2 f1 f2 d0 d1 d2 hgW hbW
        refine wp_region_lin [(1, true), (2, true), (3, true), (4, true), (5, true), (6, true), (7, true), (8, true), (9, true), (10, true), (11, true), (12, true), (13, true), (14, true), (15, true), (0, false), (16, false), (17, true)] (by kernel_rfl) (by kernel_rfl) (fun d _ _ _ _ h => by cases d <;> exact h) ?_
        repeat (first
          | (refine wpLin_skip rfl rfl (fun K hK => ?_); go_simp; refine hK _ ?_; clear hK K)
          | (refine wpLin_take (v := ?_) rfl rfl (fun w' hw' => ?_) (fun K hK => ?_); rotate_left; (go_simp; rfl); (go_simp; refine hK _ ?_; clear hK K)))
        refine wpLin_do rfl (fun K hK => ?_); go_simp; refine hK _ _ ((Grows.refl W.drew).alloc _) ?_; clear hK K
        have hcA : CellsAt W W.heap.size ao' m (u8c ((b.drop at_).take m)) := by
          rcases hao with h0 | rfl
          · subst h0; exact CellsAt.zero
          · exact drop_cells (p := at_) (m := m) (hcW.mono (Nat.le_trans (Nat.le_of_lt hR.out.lt) HbW.out.size)) (by omega)
        have hnA : ao' = none → m = 0 := fun e => by
          rcases Nat.eq_zero_or_pos m with h | h
          · exact h
          · obtain ⟨_, _, e2, -⟩ := hcA 0 h
            rw [e] at e2; cases e2
        refine wpLin_do rfl (fun K hK => ?_)
        refine step_append_clone1 sl_u8 rfl (.tmp 37) (.tmp 52) rfl rfl rfl (hcA.drew.alloc (Nat.le_refl _) _) hnA (fun _ _ => rfl) (by unfold maxLen; omega) (by omega) ?_
        intro aoA capA wA hcA2 hbA hclA
        have hbA2 : Below W.heap.size W wA := (balloc (Below.refl _ _).drew _).trans (hbA.mono (by simp))
        have HbA := Lib.hid hbA2
        have hlt := hR.out.lt
        have hrA : RRd wA g lo b (at_ + m) 0 := by
          refine ⟨ao, cap, (hbA2.block g (Nat.lt_of_lt_of_le hlt HbW.out.size)).trans ?_, fun i hi => ?_, hn, hlc, Hlo.out⟩
          · rw [HgW.out, Int.natCast_add]
          · obtain ⟨b', off, e, hlt2, hcc⟩ := hcW i hi
            exact ⟨b', off, e, hlt2, (hbA2.cell (show b' < W.heap.size from Nat.lt_trans hlt2 (Nat.lt_of_lt_of_le hlt HbW.out.size))).trans hcc⟩
        have hnA2 : aoA = none → m = 0 := fun e => by
          rcases Nat.eq_zero_or_pos m with h | h
          · exact h
          · obtain ⟨_, _, e2, -⟩ := hcA2 0 h
            rw [e] at e2; cases e2
        go_simp; refine hK _ _ (by exact hbA) ?_; clear hK K hbA hbA2 hclA
        have HrA := Lib.hid hrA
        clear hrA
        repeat (first
          | (refine wpLin_skip rfl rfl (fun K hK => ?_); go_simp; refine hK _ ?_; clear hK K)
          | (refine wpLin_take (v := ?_) rfl rfl (fun w' hw' => ?_) (fun K hK => ?_); rotate_left; (go_simp; rfl); (go_simp; refine hK _ ?_; clear hK K)))
        refine wpLin_nil ?_
        go_wp2
        go_ret
        exact ⟨aoA, capA, by simp only [Ht.out]; rfl, by rw [Ht.out]; exact hcA2, by rw [Ht.out]; exact hnA2, HrA.out, HbW.out.trans (But.of HbA.out)⟩
  · have e1 : ((err : Int) != 0) = true := by simp; omega
    rw [show rrTake b at_ err n = ([], at_, err) by unfold rrTake; rw [if_pos (.inl he)]]
    go_enter Try.func46, Try.ntmps46
    go_wp2
    go_ret
    exact ⟨none, 0, rfl, CellsAt.zero, fun _ => rfl, hR.out, But.refl g w⟩

def rrGet (b : List Nat) (at_ err : Nat) (n : Int) : Nat × Nat × Nat :=
  let r := rrTake b at_ err (if n < 0 ∨ 8 < n then 0 else n)
  (numB r.1, r.2)
set_option maxHeartbeats 2000000 in
theorem rrget_any (g : Nat) {lo : Nat} (b : List Nat) (at_ err : Nat) (n : Int) (w : World) (h : RRd w g lo b at_ err) (hl : b.length ≤ 1000000) (ha : at_ ≤ b.length) (h256 : ∀ x ∈ b, x < 256) :
    Calls Try.prog 44 #[.pointer (some ⟨g, 0, none⟩), .int .i64 n] w fun r w' =>
      r = .returned (.int .u64 ((rrGet b at_ err n).1 : Nat)) ∧ RRd w' g lo b (rrGet b at_ err n).2.1 (rrGet b at_ err n).2.2 ∧ But g w w' := by
  obtain ⟨m, hm⟩ : ∃ m : Int, m = if n < 0 ∨ 8 < n then 0 else n := ⟨_, rfl⟩
  have hm8 : m ≤ 8 := by split at hm <;> omega
  have hG : rrGet b at_ err n = (numB (rrTake b at_ err m).1, (rrTake b at_ err m).2) := by unfold rrGet; rw [← hm]
  rw [hG]
  have hT := fun (w : World) h => rrtake_any g (lo := lo) b at_ err m w h hl ha
  have htl : (rrTake b at_ err m).1.length ≤ 8 := by
    unfold rrTake; split
    · simp
    · split
      · simp
      · simp only [List.length_take]; omega
  have ht256 : ∀ x ∈ (rrTake b at_ err m).1, x < 256 := by
    unfold rrTake; split
    · simp
    · split
      · simp
      · exact fun x hx => h256 x (List.mem_of_mem_drop (List.mem_of_mem_take hx))
  obtain ⟨t, ht⟩ : ∃ t, t = rrTake b at_ err m := ⟨_, rfl⟩
  rw [← ht] at hT htl ht256 ⊢
  have Hm := Lib.hid hm
  have H256 := Lib.hid ht256
  clear ht hG hm h256 ht256
  by_cases hn : n < 0
  · obtain rfl : m = 0 := by have := Hm.out; rw [if_pos (.inl hn)] at this; exact this
    go_enter Try.func44, Try.ntmps44
    go_wp2_with fail
    refine (hT _ h).mono ?_
    rintro r x1 ⟨ao, cap, rfl, hc1, hn1, hr1, hb1⟩
    have Hr := Lib.hid hr1
    have Hb := Lib.hid hb1
    clear hr1 hb1 hT h
    go_wp2
    go_loop [6, 7] (fun v i => ∃ k : Nat, k ≤ t.1.length ∧ v = .int .u64 (numB (t.1.take k) : Nat) ∧ i = .int .i64 k) (fun _ i => t.1.length - (intOf i).toNat)
    case atStart => exact ⟨0, Nat.zero_le _, rfl, rfl⟩
    case round =>
      obtain ⟨k, hk, rfl, rfl⟩ := hrel
      by_cases hkn : k < t.1.length
      · obtain ⟨b', off, rfl, -, hcc⟩ := hc1 k hkn
        have e1 : (k : Int) < (t.1.length : Int) := by omega
        have e2 : (0 : Int) ≤ (k : Int) := by omega
        have e4 : IntKind.u64.wrap (8 * (k : Int)) = ((8 * k : Nat) : Int) := by rw [IntWalk.u64_in _ (by omega)]; omega
        have hst := numB_step t.1 k hkn (by omega) H256.out
        obtain ⟨y, hy⟩ : ∃ y, y = t.1.getD k 0 := ⟨_, rfl⟩
        rw [u8c, ← hy] at hcc
        have hy2 : y < 256 := by rw [hy, List.getD_eq_getElem?_getD, List.getElem?_eq_getElem hkn]; exact H256.out _ (List.getElem_mem _)
        rw [← hy] at hst
        have Hy := Lib.hid hy
        have Hst := Lib.hid hst
        clear hc1 hy hst
        go_wp2
        refine ⟨⟨k + 1, by omega, by rw [Hst.out], by go_num⟩, ?_⟩
        simp [intOf]; omega
      · obtain rfl : k = t.1.length := by omega
        go_wp2
        go_ret
        exact ⟨rfl, Hr.out, Hb.out⟩
  · by_cases hn8 : 8 < n
    · obtain rfl : m = 0 := by have := Hm.out; rw [if_pos (.inr hn8)] at this; exact this
      go_enter Try.func44, Try.ntmps44
      go_wp2_with fail
      refine (hT _ h).mono ?_
      rintro r x1 ⟨ao, cap, rfl, hc1, hn1, hr1, hb1⟩
      have Hr := Lib.hid hr1
      have Hb := Lib.hid hb1
      clear hr1 hb1 hT h
      go_wp2
      go_loop [6, 7] (fun v i => ∃ k : Nat, k ≤ t.1.length ∧ v = .int .u64 (numB (t.1.take k) : Nat) ∧ i = .int .i64 k) (fun _ i => t.1.length - (intOf i).toNat)
      case atStart => exact ⟨0, Nat.zero_le _, rfl, rfl⟩
      case round =>
        obtain ⟨k, hk, rfl, rfl⟩ := hrel
        by_cases hkn : k < t.1.length
        · obtain ⟨b', off, rfl, -, hcc⟩ := hc1 k hkn
          have e1 : (k : Int) < (t.1.length : Int) := by omega
          have e2 : (0 : Int) ≤ (k : Int) := by omega
          have e4 : IntKind.u64.wrap (8 * (k : Int)) = ((8 * k : Nat) : Int) := by rw [IntWalk.u64_in _ (by omega)]; omega
          have hst := numB_step t.1 k hkn (by omega) H256.out
          obtain ⟨y, hy⟩ : ∃ y, y = t.1.getD k 0 := ⟨_, rfl⟩
          rw [u8c, ← hy] at hcc
          have hy2 : y < 256 := by rw [hy, List.getD_eq_getElem?_getD, List.getElem?_eq_getElem hkn]; exact H256.out _ (List.getElem_mem _)
          rw [← hy] at hst
          have Hy := Lib.hid hy
          have Hst := Lib.hid hst
          clear hc1 hy hst
          go_wp2
          refine ⟨⟨k + 1, by omega, by rw [Hst.out], by go_num⟩, ?_⟩
          simp [intOf]; omega
        · obtain rfl : k = t.1.length := by omega
          go_wp2
          go_ret
          exact ⟨rfl, Hr.out, Hb.out⟩
    · obtain rfl : m = n := by have := Hm.out; rw [if_neg (by omega)] at this; exact this
      have e0 : 0 ≤ m := by omega
      go_enter Try.func44, Try.ntmps44
      go_wp2_with fail
      refine (hT _ h).mono ?_
      rintro r x1 ⟨ao, cap, rfl, hc1, hn1, hr1, hb1⟩
      have Hr := Lib.hid hr1
      have Hb := Lib.hid hb1
      clear hr1 hb1 hT h
      go_wp2
      go_loop [6, 7] (fun v i => ∃ k : Nat, k ≤ t.1.length ∧ v = .int .u64 (numB (t.1.take k) : Nat) ∧ i = .int .i64 k) (fun _ i => t.1.length - (intOf i).toNat)
      case atStart => exact ⟨0, Nat.zero_le _, rfl, rfl⟩
      case round =>
        obtain ⟨k, hk, rfl, rfl⟩ := hrel
        by_cases hkn : k < t.1.length
        · obtain ⟨b', off, rfl, -, hcc⟩ := hc1 k hkn
          have e1 : (k : Int) < (t.1.length : Int) := by omega
          have e2 : (0 : Int) ≤ (k : Int) := by omega
          have e4 : IntKind.u64.wrap (8 * (k : Int)) = ((8 * k : Nat) : Int) := by rw [IntWalk.u64_in _ (by omega)]; omega
          have hst := numB_step t.1 k hkn (by omega) H256.out
          obtain ⟨y, hy⟩ : ∃ y, y = t.1.getD k 0 := ⟨_, rfl⟩
          rw [u8c, ← hy] at hcc
          have hy2 : y < 256 := by rw [hy, List.getD_eq_getElem?_getD, List.getElem?_eq_getElem hkn]; exact H256.out _ (List.getElem_mem _)
          rw [← hy] at hst
          have Hy := Lib.hid hy
          have Hst := Lib.hid hst
          clear hc1 hy hst
          go_wp2
          refine ⟨⟨k + 1, by omega, by rw [Hst.out], by go_num⟩, ?_⟩
          simp [intOf]; omega
        · obtain rfl : k = t.1.length := by omega
          go_wp2
          go_ret
          exact ⟨rfl, Hr.out, Hb.out⟩
end Go.Proofs.Ytlnlcmdbhkpnhaa
