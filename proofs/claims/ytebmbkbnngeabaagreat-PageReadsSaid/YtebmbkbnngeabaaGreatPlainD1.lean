/- Chapter 11: plain.bools, and plain.Decode of every kind. -/
import Derived.Test.YtebmbkbnngeabaaGreatPlainD
set_option linter.unusedSimpArgs false
namespace Go.Proofs.YtebmbkbnngeabaaGreat
open Go.RowKit
set_option linter.unusedVariables false
def decB (b : List Nat) (n : Nat) : List Vl × Nat :=
 if (unpackSpec b n 1).2 = 0 then ((unpackSpec b n 1).1.map fun v => (IntKind.i64.wrap (v : Nat), ByteArray.empty), 0) else ([], (unpackSpec b n 1).2)
theorem unpack_len_ok (b : List Nat) (n : Nat) (h : (unpackSpec b n 1).2 = 0) : (unpackSpec b n 1).1.length = n := by
 unfold unpackSpec at h ⊢
 split at h
 · simp at h
 split at h
 · simp at h
 split at h
 · simp at h
 split at h
 · rename_i h1 h2 h3 h4
   rw [if_neg h1, if_neg h2, if_neg h3, if_pos h4]
   simp [unpacked]
 · simp at h
def bTo (u : List Nat) (n j : Nat) : List Vl := ((u.take j).map fun v => (IntKind.i64.wrap (v : Nat), ByteArray.empty)) ++ List.replicate (n - j) vl0
theorem bTo_set (u : List Nat) (n j : Nat) (h : j < n) (hu : u.length = n) : (bTo u n j).set j (IntKind.i64.wrap (u.getD j 0 : Nat), ByteArray.empty) = bTo u n (j + 1) := by
 unfold bTo
 have hl : ((u.take j).map fun v => ((IntKind.i64.wrap (v : Nat), ByteArray.empty) : Vl)).length = j := by simp; omega
 rw [List.set_append_right _ _ (by rw [hl]; exact Nat.le_refl _), hl, Nat.sub_self, show n - j = (n - (j + 1)) + 1 by omega, List.replicate_succ, List.set_cons_zero]
 rw [List.take_succ_eq_append_getElem (by omega), List.map_append, List.getD_eq_getElem?_getD, List.getElem?_eq_getElem (by omega)]
 simp
theorem bTo_at (u : List Nat) (n j : Nat) (h : j < n) (hu : u.length = n) : (bTo u n j).getD j vl0 = vl0 := by
 unfold bTo
 have hl : ((u.take j).map fun v => ((IntKind.i64.wrap (v : Nat), ByteArray.empty) : Vl)).length = j := by simp; omega
 rw [getD_app_ge _ _ _ (by rw [hl]; exact Nat.le_refl _), hl, Nat.sub_self, show n - j = (n - (j + 1)) + 1 by omega, List.replicate_succ]
 rfl
theorem stored_vN {w : World} {base E g n cap : Nat} {l : List Vl} (h : w.ownsRow base E 2 (.slice (some ⟨g, 0, none⟩) n cap) n (vcs l)) (j : Nat) (hj : j < n) (x : Int) (s : ByteArray) (hs : (l.getD j vl0).2 = s) :
 (w.setCell ⟨g, j * 2, none⟩ (.int .i64 x)).ownsRow base E 2 (.slice (some ⟨g, 0, none⟩) n cap) n (vcs (l.set j (x, s))) := by
 have hl : l.length = n := by have := h.1; rw [vcs_length] at this; omega
 have h1 := (h.stored (j * 2) (.int .i64 x)).1
 have e : (vcs l).set (j * 2) (.int .i64 x) = vcs (l.set j (x, s)) := by
  rw [← vcs_set l j (x, s) (by omega)]
  have hk : j * 2 + 1 < ((vcs l).set (j * 2) (.int .i64 x)).length := by simp [vcs]; omega
  have hg : ((vcs l).set (j * 2) (.int .i64 x))[j * 2 + 1]'hk = .string s := by
   rw [List.getElem_set_ne (by omega)]
   simp only [vcs, List.getElem_map, List.getElem_range]
   rw [show j * 2 + 1 = 2 * j + 1 by omega, vlc_odd, vS, hs]
  rw [← hg, List.set_getElem_self]
 rw [← e]
 exact h1
set_option maxHeartbeats 4000000 in
set_option maxRecDepth 100000 in
theorem bools_any (ao : Option Addr) (L cap n : Nat) (b : List Nat) (w : World) (hl : b.length = L) (h256 : ∀ x ∈ b, x < 256) (hL : L ≤ 140737488355328) (hc : CellsAt w w.heap.size ao L (u8c b)) (hn : n ≤ 4000) :
 Calls Tryz.prog 85 #[.slice ao L cap, .int .i64 n] w fun e w' => ∃ v, e = .returned (.tuple #[v, .int .i64 ((decB b n).2 : Nat)]) ∧ w'.ownsRow w.heap.size 81 2 v (decB b n).1.length (vcs (decB b n).1) ∧ Below w.heap.size w w' := by
 have hU := unpack_any ao L cap (n : Nat) 1 b w hl h256 (by omega) hc
 have hD : decB b n = if (unpackSpec b n 1).2 = 0 then ((unpackSpec b n 1).1.map fun v => (IntKind.i64.wrap (v : Nat), ByteArray.empty), 0) else ([], (unpackSpec b n 1).2) := rfl
 have hlen := unpack_len_ok b n
 obtain ⟨u, hu⟩ : ∃ u, u = unpackSpec b n 1 := ⟨_, rfl⟩
 rw [← hu] at hU hD hlen
 obtain ⟨ul, er⟩ := u
 simp only at hD hlen
 clear hu hl h256
 obtain ⟨i0, hi, hz0, hz1, hz2⟩ := info_parts Tryz.infoV
 have HU := Lib.hid hU; clear hU
 by_cases h0 : er = 0
 · rw [if_pos h0] at hD
   have hul := hlen h0
   subst h0
   have HD := Lib.hid hD; have Hul := Lib.hid hul; clear hD hlen hul
   go_enter Tryz.func85, Tryz.ntmps85
   go_wp2_with fail
   refine HU.out.mono ?_
   rintro e x1 ⟨v1, rfl, hf⟩
   have hx1 := hf.2
   obtain ⟨ao1, n1, cap1, rfl, Hn1, hc1, -, -⟩ := hf.u64
   have hn1 : n1 = n := by rw [Hn1.out, Hul.out]
   subst hn1
   clear hf Hn1
   go_wp2_with (at_make; refine wpList_make_full _ rfl _ _ 31 rfl x1.heap.size 81 i0 (.agg #[.int .i64 0, .string ByteArray.empty]) 2 Tryz.underlying31 hi hz0 hz1 _ _ _ _ n1 rfl rfl rfl rfl ?b2 ?b3 (Nat.le_refl _) ?_)
   case b2 => rw [hz2]; omega
   case b3 => unfold maxLen; omega
   intro x hown0 hgrow0
   rw [madeV] at hown0
   have hbx : Below x1.heap.size x1 x := (Below.refl _ _).grown hgrow0 (Nat.le_refl _) (fun k h => by cases h)
   obtain ⟨gO, hgOe⟩ : ∃ gO, gO = x1.heap.size := ⟨_, rfl⟩
   have hwx := bmore hx1 hbx
   have hgw : w.heap.size ≤ gO := by rw [hgOe]; exact hx1.size
   rw [← hgOe] at hown0 hc1 hbx ⊢
   have hown : x.ownsRow gO 81 2 (.slice (some ⟨gO, 0, none⟩) n1 n1) n1 (vcs (bTo ul n1 0)) := by
    have e : bTo ul n1 0 = List.replicate n1 vl0 := by simp [bTo]
    rw [e]; exact hown0
   have hc2 := hc1.below hbx
   clear hown0 hgrow0 hgOe hx1 hbx hc1 hc
   go_wp2
   go_loopw [24] (fun i wr => ∃ j : Nat, j ≤ n1 ∧ i = .int .i64 j ∧ wr.ownsRow gO 81 2 (.slice (some ⟨gO, 0, none⟩) n1 n1) n1 (vcs (bTo ul n1 j)) ∧ CellsAt wr gO ao1 n1 (u64c ul) ∧ Below w.heap.size w wr) (fun i _ => n1 - (intOf i).toNat)
   case atStart => exact ⟨0, Nat.zero_le _, rfl, hown, hc2, hwx⟩
   case round =>
    clear hown hc2 hwx
    obtain ⟨j, hj, rfl, hown, hcu, hwr⟩ := hrel
    by_cases hlt : j < n1
    · obtain ⟨bb, off, rfl, hb, c0⟩ := hcu j hlt
      obtain ⟨y, hy⟩ : ∃ y, y = ul.getD j 0 := ⟨_, rfl⟩
      rw [u64c, ← hy] at c0
      obtain ⟨d0, d1⟩ := cell_v hown j hlt
      have f0 := hown.frozenAt (j * 2)
      have hst := stored_vN hown j hlt (IntKind.i64.wrap (y : Nat)) ByteArray.empty (by rw [bTo_at ul n1 j hlt Hul.out]; rfl)
      rw [hy, bTo_set ul n1 j hlt Hul.out, ← hy] at hst
      have hcu' : CellsAt (wr.setCell ⟨gO, j * 2, none⟩ (.int .i64 (IntKind.i64.wrap (y : Nat)))) gO (some ⟨bb, off, none⟩) n1 (u64c ul) := hcu.below ((Below.refl _ _).setCell (by exact Nat.le_refl _) _)
      have hw2 : Below w.heap.size w (wr.setCell ⟨gO, j * 2, none⟩ (.int .i64 (IntKind.i64.wrap (y : Nat)))) := hwr.setCell (by exact hgw) _
      rw [IntWalk.i64_left] at hst hcu' hw2
      clear hown hcu hwr hy
      go_wp2
      go_roundw
      case rel => exact ⟨j + 1, by omega, by go_num, hst, hcu', hw2⟩
      case measure => simp [intOf]; omega
    · obtain rfl : j = n1 := by omega
      have hfull : bTo ul j j = ul.map fun v => (IntKind.i64.wrap (v : Nat), ByteArray.empty) := by
       unfold bTo
       rw [List.take_of_length_le (by rw [Hul.out]; exact Nat.le_refl _)]; simp
      rw [hfull] at hown
      have Hfull := Lib.hid hfull; clear hfull
      go_wp2
      go_ret2
      rw [HD.out]
      exact ⟨_, rfl, by rw [List.length_map, Hul.out]; exact own_base hown hgw, hwr⟩
 · rw [if_neg h0] at hD
   have HD := Lib.hid hD; clear hD hlen
   have hb : ((er : Int) != 0) = true := by rw [bne_iff_ne]; omega
   clear h0
   go_enter Tryz.func85, Tryz.ntmps85
   go_wp2_with fail
   refine HU.out.mono ?_
   rintro e x1 ⟨v1, rfl, hf⟩
   have hx1 := hf.2
   clear hf
   go_wp2
   go_ret2
   rw [HD.out]
   exact ⟨_, rfl, World.ownsRow_nil _ _ _ _, hx1⟩
end Go.Proofs.YtebmbkbnngeabaaGreat
