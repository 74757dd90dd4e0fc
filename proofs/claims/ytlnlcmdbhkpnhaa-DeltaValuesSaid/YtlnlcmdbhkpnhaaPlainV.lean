/- Chapter 11: the walk over plain.value. -/
import Derived.Test.YtlnlcmdbhkpnhaaPlainE
namespace Go.Proofs.Ytlnlcmdbhkpnhaa
open Go.RowKit
set_option linter.unusedVariables false

/-- What plain.value gives, and leaves of the reader. -/
def valueM (k : Nat) (l : List Nat) (e : Nat) : Vl × List Nat × Nat :=
  let g := rdGet l e (if k = 3 then 8 else 4)
  if k = 2 then ((IntKind.i32.wrap g.1, ByteArray.empty), g.2)
  else if k = 3 then ((IntKind.i64.wrap g.1, ByteArray.empty), g.2)
  else if 100 < g.1 then (vl0, rdFail g.2.1 g.2.2 5)
  else ((0, strOf (rdTake g.2.1 g.2.2 (g.1 : Nat)).1), (rdTake g.2.1 g.2.2 (g.1 : Nat)).2)

/-- The block of a struct result behind a call that may have turned the reader alone. -/
theorem res_cells {w x1 : World} {g : Nat} (hg : g < w.heap.size) (h : But g (w.alloc (.cells #[.int .i64 0, .string ByteArray.empty] 32)) x1) :
    x1.heap[w.heap.size]? = some (.cells #[.int .i64 0, .string ByteArray.empty] 32) := by
  rw [h.block w.heap.size (by simp) (by omega)]
  exact heap_alloc_new w _

theorem But.tail {g : Nat} {w x1 x2 : World} (h : But g w x1) (k : Below w.heap.size x1 x2) : But g w x2 :=
  ⟨k.os.trans h.os, k.tape.trans h.tape, k.output.trans h.output, Nat.le_trans h.size k.size, fun j hj hn => (k.block j hj).trans (h.block j hj hn)⟩

theorem rdFail_le (l : List Nat) (e c : Nat) : (rdFail l e c).1.length ≤ l.length := by
  unfold rdFail; split
  · simp only []; split <;> simp
  · simp
theorem rdTake_le (l : List Nat) (e : Nat) (n : Int) : (rdTake l e n).2.1.length ≤ l.length := by
  unfold rdTake; split
  · exact rdFail_le _ _ _
  · simp [List.length_drop]
theorem rdGet_le (l : List Nat) (e : Nat) (n : Int) : (rdGet l e n).2.1.length ≤ l.length := rdTake_le _ _ _
set_option maxRecDepth 100000 in
set_option maxHeartbeats 2000000 in
theorem value_2 (g : Nat) {lo : Nat} (l : List Nat) (e : Nat) (w : World) (h : Rd w g lo l e) (hl : l.length ≤ 140737488355328) (h256 : ∀ x ∈ l, x < 256) :
    Calls Try.prog 70 #[.int .i64 2, .pointer (some ⟨g, 0, none⟩)] w fun r w' => r = .returned (vV (valueM 2 l e).1) ∧ Rd w' g lo (valueM 2 l e).2.1 (valueM 2 l e).2.2 ∧ But g w w' := by
  have hlt := h.lt
  have hG := fun (w' : World) (h : Rd w' g lo l e) => get_any g l e 4 w' h (by omega) h256
  have hM : valueM 2 l e = ((IntKind.i32.wrap (rdGet l e 4).1, ByteArray.empty), (rdGet l e 4).2) := rfl
  rw [hM]
  obtain ⟨G, hGe⟩ : ∃ G, G = rdGet l e 4 := ⟨_, rfl⟩
  rw [← hGe] at hG ⊢
  clear hM hGe
  have hR : Rd (w.alloc (.cells #[.int .i64 0, .string ByteArray.empty] 32)) g lo l e := h.keep ((Below.refl _ _).alloc (Nat.le_refl _) _)
  have HG := Lib.hid (hG _ hR); clear hG
  go_enter Try.func70, Try.ntmps70
  go_wp2_with (go_at_call 59; refine (wide_2 _).mono ?_; rintro e x0 ⟨rfl, rfl⟩)
  refine HG.out.mono ?_
  rintro e x1 ⟨rfl, hr1, hb1⟩
  have hblk := res_cells hlt hb1
  obtain ⟨c0, c1, f0, f1⟩ := two_cells hblk
  go_wp2
  have hb2 := two_set1 (two_set0 hblk (.int .i64 (wrap64 (wrap32 (G.1 : Nat))))) (.string ByteArray.empty)
  obtain ⟨d0, d1, -, -⟩ := two_cells hb2
  have hE : ByteArray.empty = ({ data := #[] } : ByteArray) := rfl
  rw [hE] at d0 d1
  have hset : Below w.heap.size x1 ((x1.setCell ⟨w.heap.size, 0, none⟩ (.int .i64 (wrap64 (wrap32 (G.1 : Nat))))).setCell ⟨w.heap.size, 1, none⟩ (.string { data := #[] })) :=
    ((Below.refl _ _).setCell (by exact Nat.le_refl _) _).setCell (by exact Nat.le_refl _) _
  refine bodyPost_ret (v := .agg #[.int .i64 (wrap64 (wrap32 (G.1 : Nat))), .string { data := #[] }]) (by simp [results, Try.results70, go_sem, d0, d1]) rfl ⟨by rw [wrap_both]; rfl, hr1.below hset hlt, ((But.of (balloc (Below.refl _ _) _)).trans hb1).tail hset⟩

set_option maxRecDepth 100000 in
set_option maxHeartbeats 2000000 in
theorem value_3 (g : Nat) {lo : Nat} (l : List Nat) (e : Nat) (w : World) (h : Rd w g lo l e) (hl : l.length ≤ 140737488355328) (h256 : ∀ x ∈ l, x < 256) :
    Calls Try.prog 70 #[.int .i64 3, .pointer (some ⟨g, 0, none⟩)] w fun r w' => r = .returned (vV (valueM 3 l e).1) ∧ Rd w' g lo (valueM 3 l e).2.1 (valueM 3 l e).2.2 ∧ But g w w' := by
  have hlt := h.lt
  have hG := fun (w' : World) (h : Rd w' g lo l e) => get_any g l e 8 w' h (by omega) h256
  have hM : valueM 3 l e = ((IntKind.i64.wrap (rdGet l e 8).1, ByteArray.empty), (rdGet l e 8).2) := rfl
  rw [hM]
  obtain ⟨G, hGe⟩ : ∃ G, G = rdGet l e 8 := ⟨_, rfl⟩
  rw [← hGe] at hG ⊢
  clear hM hGe
  have hR : Rd (w.alloc (.cells #[.int .i64 0, .string ByteArray.empty] 32)) g lo l e := h.keep ((Below.refl _ _).alloc (Nat.le_refl _) _)
  have HG := Lib.hid (hG _ hR); clear hG
  go_enter Try.func70, Try.ntmps70
  go_wp2_with (go_at_call 59; refine (wide_3 _).mono ?_; rintro e x0 ⟨rfl, rfl⟩)
  refine HG.out.mono ?_
  rintro e x1 ⟨rfl, hr1, hb1⟩
  have hblk := res_cells hlt hb1
  obtain ⟨c0, c1, f0, f1⟩ := two_cells hblk
  go_wp2
  have hb2 := two_set1 (two_set0 hblk (.int .i64 (wrap64 (G.1 : Nat)))) (.string ByteArray.empty)
  obtain ⟨d0, d1, -, -⟩ := two_cells hb2
  have hE : ByteArray.empty = ({ data := #[] } : ByteArray) := rfl
  rw [hE] at d0 d1
  have hset : Below w.heap.size x1 ((x1.setCell ⟨w.heap.size, 0, none⟩ (.int .i64 (wrap64 (G.1 : Nat)))).setCell ⟨w.heap.size, 1, none⟩ (.string { data := #[] })) :=
    ((Below.refl _ _).setCell (by exact Nat.le_refl _) _).setCell (by exact Nat.le_refl _) _
  refine bodyPost_ret (v := .agg #[.int .i64 (wrap64 (G.1 : Nat)), .string { data := #[] }]) (by simp [results, Try.results70, go_sem, d0, d1]) rfl ⟨by rw [← IntWalk.i64_left]; rfl, hr1.below hset hlt, ((But.of (balloc (Below.refl _ _) _)).trans hb1).tail hset⟩

set_option maxRecDepth 100000 in
set_option maxHeartbeats 2000000 in
theorem value_4 (g : Nat) {lo : Nat} (l : List Nat) (e : Nat) (w : World) (h : Rd w g lo l e) (hl : l.length ≤ 140737488355328) (h256 : ∀ x ∈ l, x < 256) :
    Calls Try.prog 70 #[.int .i64 4, .pointer (some ⟨g, 0, none⟩)] w fun r w' => r = .returned (vV (valueM 4 l e).1) ∧ Rd w' g lo (valueM 4 l e).2.1 (valueM 4 l e).2.2 ∧ But g w w' := by
  have hlt := h.lt
  have hG := fun (w' : World) (h : Rd w' g lo l e) => get_any g l e 4 w' h (by omega) h256
  have hGl : (rdGet l e 4).2.1.length ≤ l.length := rdGet_le l e 4
  obtain ⟨G, hGe⟩ : ∃ G, Hid (G = rdGet l e 4) := ⟨_, Lib.hid rfl⟩
  rw [← hGe.out] at hG hGl
  have hR : Rd (w.alloc (.cells #[.int .i64 0, .string ByteArray.empty] 32)) g lo l e := h.keep ((Below.refl _ _).alloc (Nat.le_refl _) _)
  have HG := Lib.hid (hG _ hR); clear hG
  by_cases h100 : 100 < G.1
  · have hM : valueM 4 l e = (vl0, rdFail G.2.1 G.2.2 5) := by
      unfold valueM; simp only [show ¬ ((4 : Nat) = 2) by decide, show ¬ ((4 : Nat) = 3) by decide, if_false]
      rw [← hGe.out, if_pos h100]
    rw [hM]
    clear hM
    go_enter Try.func70, Try.ntmps70
    go_wp2_with (go_at_call 59; refine (wide_4 _).mono ?_; rintro e x0 ⟨rfl, rfl⟩)
    refine HG.out.mono ?_
    rintro e x1 ⟨rfl, hr1, hb1⟩
    go_wp2_with fail
    refine (fail_any g G.2.1 G.2.2 5 _ hr1).mono ?_
    rintro e x2 ⟨rfl, hr2, hb2⟩
    have hbb := hb1.trans hb2
    have hblk := res_cells hlt hbb
    obtain ⟨c0, c1, f0, f1⟩ := two_cells hblk
    go_wp2
    have hb2 := two_set1 (two_set0 hblk (.int .i64 0)) (.string ByteArray.empty)
    obtain ⟨d0, d1, -, -⟩ := two_cells hb2
    have hE : ByteArray.empty = ({ data := #[] } : ByteArray) := rfl
    rw [hE] at d0 d1
    have hset : Below w.heap.size x2 ((x2.setCell ⟨w.heap.size, 0, none⟩ (.int .i64 0)).setCell ⟨w.heap.size, 1, none⟩ (.string { data := #[] })) :=
      ((Below.refl _ _).setCell (by exact Nat.le_refl _) _).setCell (by exact Nat.le_refl _) _
    refine bodyPost_ret (v := .agg #[.int .i64 0, .string { data := #[] }]) (by simp [results, Try.results70, go_sem, d0, d1]) rfl ⟨rfl, hr2.below hset hlt, ((But.of (balloc (Below.refl _ _) _)).trans hbb).tail hset⟩
  · have hM : valueM 4 l e = ((0, strOf (rdTake G.2.1 G.2.2 (G.1 : Nat)).1), (rdTake G.2.1 G.2.2 (G.1 : Nat)).2) := by
      unfold valueM; simp only [show ¬ ((4 : Nat) = 2) by decide, show ¬ ((4 : Nat) = 3) by decide, if_false]
      rw [← hGe.out, if_neg h100]
    rw [hM]
    clear hM
    obtain ⟨t, ht⟩ : ∃ t, t = rdTake G.2.1 G.2.2 (G.1 : Nat) := ⟨_, rfl⟩
    have hT := fun (w' : World) (h : Rd w' g lo G.2.1 G.2.2) => rtake_any g G.2.1 G.2.2 (G.1 : Nat) w' h (by omega)
    rw [← ht] at hT ⊢
    clear ht
    have hw64 : wrap64 (G.1 : Nat) = (G.1 : Nat) := by unfold wrap64; omega
    have HT := Lib.hid hT; clear hT
    go_enter Try.func70, Try.ntmps70
    go_wp2_with (go_at_call 59; refine (wide_4 _).mono ?_; rintro e x0 ⟨rfl, rfl⟩)
    refine HG.out.mono ?_
    rintro e x1 ⟨rfl, hr1, hb1⟩
    go_wp2_with fail
    refine (HT.out _ hr1).mono ?_
    rintro e x2 ⟨ao2, cap2, rfl, hc2, hn2, -, hr2, hb2⟩
    have hbb := hb1.trans hb2
    have hblk := res_cells hlt hbb
    obtain ⟨c0, c1, f0, f1⟩ := two_cells hblk
    have cv := run_string_of (P := Try.prog) (w := x2) (cap := cap2) 26 5 9 Try.underlying26 Try.underlying5 Try.underlying9 rfl hc2 hn2
    go_wp2
    have hb2 := two_set1 (two_set0 hblk (.int .i64 0)) (.string (strOf t.1))
    obtain ⟨d0, d1, -, -⟩ := two_cells hb2
    have hset : Below w.heap.size x2 ((x2.setCell ⟨w.heap.size, 0, none⟩ (.int .i64 0)).setCell ⟨w.heap.size, 1, none⟩ (.string (strOf t.1))) :=
      ((Below.refl _ _).setCell (by exact Nat.le_refl _) _).setCell (by exact Nat.le_refl _) _
    refine bodyPost_ret (v := .agg #[.int .i64 0, .string (strOf t.1)]) (by simp [results, Try.results70, go_sem, d0, d1]) rfl ⟨rfl, hr2.below hset hlt, ((But.of (balloc (Below.refl _ _) _)).trans hbb).tail hset⟩

end Go.Proofs.Ytlnlcmdbhkpnhaa
