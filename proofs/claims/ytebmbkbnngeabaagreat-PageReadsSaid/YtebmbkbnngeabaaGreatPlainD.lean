/- Chapter 11: the walk over plain.Decode. -/
import Derived.Test.YtebmbkbnngeabaaGreatBunC
import Derived.ScopeJumps
set_option linter.unusedSimpArgs false
namespace Go.Proofs.YtebmbkbnngeabaaGreat
open Go.RowKit
set_option linter.unusedVariables false
def decSt (k : Nat) : Nat → List Nat → Nat → List Vl × List Nat × Nat
 | 0, l, e => ([], l, e)
 | n + 1, l, e => let r := decSt k n l e; let v := valueM k r.2.1 r.2.2; (r.1 ++ [v.1], v.2)
theorem decSt_length (k : Nat) : ∀ (n : Nat) (l : List Nat) (e : Nat), (decSt k n l e).1.length = n
 | 0, _, _ => rfl
 | n + 1, l, e => by simp only [decSt, List.length_append, decSt_length k n l e]; rfl
theorem rdFail_mem (l : List Nat) (e c : Nat) : ∀ x ∈ (rdFail l e c).1, x ∈ l := by
 intro x hx; unfold rdFail at hx; split at hx
 · simp only [] at hx; split at hx
   · exact hx
   · simp at hx
 · simp at hx
theorem rdTake_mem (l : List Nat) (e : Nat) (n : Int) : ∀ x ∈ (rdTake l e n).2.1, x ∈ l := by
 intro x hx; unfold rdTake at hx; split at hx
 · exact rdFail_mem _ _ _ x hx
 · exact List.mem_of_mem_drop hx
theorem valueM_mem (k : Nat) (l : List Nat) (e : Nat) : ∀ x ∈ (valueM k l e).2.1, x ∈ l := by
 intro x hx
 unfold valueM at hx
 simp only [] at hx
 split at hx
 · exact rdTake_mem _ _ _ x hx
 split at hx
 · exact rdTake_mem _ _ _ x hx
 split at hx
 · exact rdTake_mem _ _ _ x (rdFail_mem _ _ _ x hx)
 · exact rdTake_mem _ _ _ x (rdTake_mem _ _ _ x hx)
theorem valueM_le (k : Nat) (l : List Nat) (e : Nat) : (valueM k l e).2.1.length ≤ l.length := by
 unfold valueM
 simp only []
 split
 · exact rdTake_le _ _ _
 split
 · exact rdTake_le _ _ _
 split
 · exact Nat.le_trans (rdFail_le _ _ _) (rdTake_le _ _ _)
 · exact Nat.le_trans (rdTake_le _ _ _) (rdTake_le _ _ _)
theorem decSt_mem (k : Nat) : ∀ (n : Nat) (l : List Nat) (e : Nat), ∀ x ∈ (decSt k n l e).2.1, x ∈ l
 | 0, _, _ => fun _ h => h
 | n + 1, l, e => fun x h => decSt_mem k n l e x (valueM_mem _ _ _ x h)
theorem decSt_le (k : Nat) : ∀ (n : Nat) (l : List Nat) (e : Nat), (decSt k n l e).2.1.length ≤ l.length
 | 0, _, _ => Nat.le_refl _
 | n + 1, l, e => Nat.le_trans (valueM_le _ _ _) (decSt_le k n l e)
def outTo (k n j : Nat) (l : List Nat) (e : Nat) : List Vl := (decSt k j l e).1 ++ List.replicate (n - j) vl0
theorem outTo_zero (k n : Nat) (l : List Nat) (e : Nat) : outTo k n 0 l e = List.replicate n vl0 := by simp [outTo, decSt]
theorem outTo_full (k n : Nat) (l : List Nat) (e : Nat) : outTo k n n l e = (decSt k n l e).1 := by simp [outTo]
theorem outTo_set (k n j : Nat) (l : List Nat) (e : Nat) (h : j < n) : (outTo k n j l e).set j (valueM k (decSt k j l e).2.1 (decSt k j l e).2.2).1 = outTo k n (j + 1) l e := by
 unfold outTo
 rw [List.set_append_right _ _ (by rw [decSt_length]; exact Nat.le_refl _), decSt_length, Nat.sub_self, show n - j = (n - (j + 1)) + 1 by omega, List.replicate_succ, List.set_cons_zero]
 simp [decSt]
theorem getD_set_v (l : List Vl) (j i : Nat) (v : Vl) (h : j < l.length) : (l.set j v).getD i vl0 = if i = j then v else l.getD i vl0 := by
 simp only [List.getD_eq_getElem?_getD, List.getElem?_set]
 by_cases e : i = j
 · subst e; simp [h]
 · rw [if_neg e, if_neg (Ne.symm e)]
theorem vcs_set (l : List Vl) (j : Nat) (v : Vl) (h : j < l.length) : ((vcs l).set (j * 2) (.int .i64 v.1)).set (j * 2 + 1) (.string v.2) = vcs (l.set j v) := by
 refine List.ext_getElem (by simp [vcs]) fun i h1 h2 => ?_
 rw [List.getElem_set, List.getElem_set]
 simp only [vcs, List.getElem_map, List.getElem_range, vlc, vN, vS]
 rw [getD_set_v l j (i / 2) v h]
 by_cases e1 : j * 2 + 1 = i
 · subst e1
   rw [if_pos rfl, if_neg (by omega), if_pos (by omega)]
 · rw [if_neg e1]
   by_cases e2 : j * 2 = i
   · subst e2
     rw [if_pos rfl, if_pos (by omega), if_pos (by omega)]
   · rw [if_neg e2, if_neg (show ¬ i / 2 = j by omega)]
theorem madeV (n : Nat) : (madeCells #[Value.int .i64 0, Value.string ByteArray.empty] (n * 2)).toList = vcs (List.replicate n vl0) := by
 refine List.ext_getElem (by simp [madeCells, vcs]) fun i h1 h2 => ?_
 have hi : i < n * 2 := by simpa [madeCells] using h1
 have hg : (List.replicate n vl0).getD (i / 2) vl0 = vl0 := by
  rw [List.getD_eq_getElem?_getD, List.getElem?_replicate]; split <;> rfl
 simp only [vcs, List.getElem_map, List.getElem_range, vlc, vN, vS, hg]
 simp only [madeCells, Array.getElem_toList, Array.getElem_map, Array.getElem_range]
 rcases Nat.mod_two_eq_zero_or_one i with h | h
 · rw [if_pos h]; show #[Value.int .i64 0, .string ByteArray.empty][i % 2]! = _; rw [h]; rfl
 · rw [if_neg (by omega)]; show #[Value.int .i64 0, .string ByteArray.empty][i % 2]! = _; rw [h]; rfl
theorem cell_v {w : World} {base E g n cap : Nat} {l : List Vl} (h : w.ownsRow base E 2 (.slice (some ⟨g, 0, none⟩) n cap) n (vcs l)) (j : Nat) (hj : j < n) :
 w.cell? ⟨g, j * 2, none⟩ = some (vN l j) ∧ w.cell? ⟨g, j * 2 + 1, none⟩ = some (vS l j) := by
 have hl : l.length = n := by have := h.1; rw [vcs_length] at this; omega
 constructor
 · rw [h.cellAt (j * 2) (by omega)]
   unfold vcs
   rw [List.getElem?_map, List.getElem?_range (by omega)]
   show some (vlc l (j * 2)) = _
   rw [Nat.mul_comm, vlc_even]
 · rw [h.cellAt (j * 2 + 1) (by omega)]
   unfold vcs
   rw [List.getElem?_map, List.getElem?_range (by omega)]
   show some (vlc l (j * 2 + 1)) = _
   rw [Nat.mul_comm, vlc_odd]
theorem stored_v {w : World} {base E g n cap : Nat} {l : List Vl} (h : w.ownsRow base E 2 (.slice (some ⟨g, 0, none⟩) n cap) n (vcs l)) (j : Nat) (hj : j < n) (v : Vl) :
 ((w.setCell ⟨g, j * 2, none⟩ (.int .i64 v.1)).setCell ⟨g, j * 2 + 1, none⟩ (.string v.2)).ownsRow base E 2 (.slice (some ⟨g, 0, none⟩) n cap) n (vcs (l.set j v)) := by
 have hl : l.length = n := by have := h.1; rw [vcs_length] at this; omega
 rw [← vcs_set l j v (by omega)]
 exact ((h.stored (j * 2) _).1.stored (j * 2 + 1) _).1
def decM (k : Nat) (b : List Nat) (n : Nat) : List Vl × Nat :=
 let r := decSt k n b 0
 if rdEnd r.2.1 r.2.2 = 0 then (r.1, 0) else ([], rdEnd r.2.1 r.2.2)
theorem own_but {w w' : World} {base g : Nat} {e : TypeId} {size : Nat} {v : Value} {n : Nat} {xs : List Value} (h : w.ownsRow base e size v n xs) (hb : But g w w') (hg : g < base) : w'.ownsRow base e size v n xs :=
 ⟨h.1, h.2.imp id fun ⟨b, cap, cur, h1, h2, h3, h4⟩ => ⟨b, cap, cur, h1, h2, (hb.block b (Array.getElem?_eq_some_iff.1 h3).1 (by omega)).trans h3, h4⟩⟩
set_option maxHeartbeats 8000000 in
set_option maxRecDepth 100000 in
theorem decode_2 (ao : Option Addr) (L cap n : Nat) (b : List Nat) (w : World) (hl : b.length = L) (h256 : ∀ x ∈ b, x < 256) (hL : L ≤ 140737488355328) (hc : CellsAt w w.heap.size ao L (u8c b)) (hz : ao = none → L = 0) (hn : n ≤ 4000) :
 Calls Tryz.prog 58 #[.int .i64 2, .slice ao L cap, .int .i64 n] w fun e w' => ∃ v, e = .returned (.tuple #[v, .int .i64 ((decM 2 b n).2 : Nat)]) ∧ w'.ownsRow w.heap.size 81 2 v (decM 2 b n).1.length (vcs (decM 2 b n).1) ∧ Below w.heap.size w w' := by
 have Hl := Lib.hid hl; clear hl
 have H256 := Lib.hid h256; clear h256
 obtain ⟨i0, hi, hz0, hz1, hz2⟩ := info_parts Tryz.infoV
 go_enter Tryz.func58, Tryz.ntmps58
 go_wp2_with (go_at_call 84; refine (sign_2 _).mono ?_; rintro e x0 ⟨rfl, rfl⟩)
 refine wp_scope_jumps 0 (fun a' x => ∃ (j g gO : Nat) (u3 u4 u5 u11 u12 u13 u14 u15 u16 u17 u18 u19 u20 u21 u22 u23 u24 u25 u26 u27 u28 u29 u30 u31 u32 u33 u34 u35 u36 u37 u38 u39 u40 u41 u42 u43 u44 u45 u46 u47 u48 u49 u50 u51 u52 : Value), a' = { tmps := #[.int .i64 2, .slice ao L cap, .int .i64 (n : Nat), u3, u4, u5, .slice none 0 0, .int .i64 0, .pointer (some ⟨g, 0, none⟩), .slice (some ⟨gO, 0, none⟩) n n, .int .i64 (j : Nat), u11, u12, u13, u14, u15, u16, u17, u18, u19, u20, u21, u22, u23, u24, u25, u26, u27, u28, u29, u30, u31, u32, u33, u34, u35, u36, u37, u38, u39, u40, u41, u42, u43, u44, u45, u46, u47, u48, u49, u50, u51, u52], defers := [] } ∧ j ≤ n ∧ w.heap.size ≤ g ∧ g < gO ∧ Rd x g w.heap.size (decSt 2 j b 0).2.1 (decSt 2 j b 0).2.2 ∧
  x.ownsRow gO 81 2 (.slice (some ⟨gO, 0, none⟩) n n) n (vcs (outTo 2 n j b 0)) ∧ Below w.heap.size w x) (fun a' _ => n - (intOf (a'.tmps.getD 10 undef)).toNat) rfl ?_ ?_
 · go_wp2_with (first
    | (go_at_call 84; refine (sign_2 _).mono ?_; rintro e x0 ⟨rfl, rfl⟩)
    | (go_at_call 86; refine (new_any ao L cap b _ Hl.out hc hz hL).mono ?_; rintro e x1 ⟨g, rfl, hgw, hr, hx1⟩)
    | (at_make; refine wpList_make_full _ rfl _ _ 31 rfl x1.heap.size 81 i0 (.agg #[.int .i64 0, .string ByteArray.empty]) 2 Tryz.underlying31 hi hz0 hz1 _ _ _ _ n rfl rfl rfl rfl ?b2 ?b3 (Nat.le_refl _) ?_))
   case b2 => rw [hz2]; omega
   case b3 => unfold maxLen; omega
   intro x hown0 hgrow0
   rw [madeV] at hown0
   have hg1 : g < x1.heap.size := hr.lt
   obtain ⟨gO, hgOe⟩ : ∃ gO, gO = x1.heap.size := ⟨_, rfl⟩
   have hbx : Below x1.heap.size x1 x := (Below.refl _ _).grown hgrow0 (Nat.le_refl _) (fun k h => by cases h)
   have hr : Rd x g w.heap.size (decSt 2 0 b 0).2.1 (decSt 2 0 b 0).2.2 := hr.keep hbx
   have hwx := bmore hx1 hbx
   rw [← hgOe] at hown0 hg1 ⊢
   have hgO : g < gO := hg1
   have hown : x.ownsRow gO 81 2 (.slice (some ⟨gO, 0, none⟩) n n) n (vcs (outTo 2 n 0 b 0)) := by rw [outTo_zero]; exact hown0
   clear hown0 hgrow0 hgOe hg1 hx1 hbx hc
   go_wp2
   go_step3
   by_cases hjn : 0 < n
   ·
    obtain ⟨lj, hlj⟩ : ∃ lj, lj = (decSt 2 0 b 0).2.1 := ⟨_, rfl⟩
    obtain ⟨ej, hej⟩ : ∃ ej, ej = (decSt 2 0 b 0).2.2 := ⟨_, rfl⟩
    have hlen : lj.length ≤ 140737488355328 := by rw [hlj]; have := decSt_le 2 0 b 0; rw [Hl.out] at this; omega
    have hm256 : ∀ x ∈ lj, x < 256 := by rw [hlj]; exact fun x hx => H256.out x (decSt_mem 2 0 b 0 x hx)
    have hout := outTo_set 2 n 0 b 0 hjn
    rw [← hlj, ← hej] at hr hout
    have hN2 : (valueM 2 lj ej).2 = (decSt 2 (0 + 1) b 0).2 := by rw [hlj, hej]; rfl
    have Hm := Lib.hid hm256; clear hm256 hlj hej
    have hV := fun (w' : World) (h : Rd w' g w.heap.size lj ej) => value_2 g lj ej w' h hlen Hm.out
    obtain ⟨V, hVe⟩ : ∃ V, V = (valueM 2 lj ej).1 := ⟨_, rfl⟩
    rw [← hVe] at hout
    rw [← hVe, hN2] at hV
    have HV := Lib.hid hV; have Hout := Lib.hid hout; clear hV hN2 hVe hout
    go_wp2_with fail
    refine (HV.out _ hr).mono ?_
    rintro e y ⟨rfl, hr', hb'⟩
    have hown' := own_but hown hb' hgO
    obtain ⟨c0, c1⟩ := cell_v hown' 0 hjn
    have f0 := hown'.frozenAt (0 * 2)
    have f1 := hown'.frozenAt (0 * 2 + 1)
    have hst := stored_v hown' 0 hjn V
    rw [Hout.out] at hst
    have hY : Below gO y ((y.setCell ⟨gO, 0 * 2, none⟩ (.int .i64 V.1)).setCell ⟨gO, 0 * 2 + 1, none⟩ (.string V.2)) := ((Below.refl _ _).setCell (by exact Nat.le_refl _) _).setCell (by exact Nat.le_refl _) _
    have hr2 := hr'.below hY hgO
    have hw2 : Below w.heap.size w ((y.setCell ⟨gO, 0 * 2, none⟩ (.int .i64 V.1)).setCell ⟨gO, 0 * 2 + 1, none⟩ (.string V.2)) := (hb'.below hwx hgw hwx.size).trans (hY.mono (by omega))
    clear hown' hr' hY hown hr hwx
    go_wp2
    go_step3
    exact ⟨rfl, 1, g, gO, _, _, _, _, _, _, _, _, _, _, _, _, _, _, _, _, _, _, _, _, _, _, _, _, _, _, _, _, _, _, _, _, _, _, _, _, _, _, _, _, _, _, _, _, _, rfl, by omega, hgw, hgO, hr2, hst, hw2⟩
   · obtain rfl : n = 0 := by omega
     have hM : decM 2 b 0 = if rdEnd (decSt 2 0 b 0).2.1 (decSt 2 0 b 0).2.2 = 0 then ((decSt 2 0 b 0).1, 0) else ([], rdEnd (decSt 2 0 b 0).2.1 (decSt 2 0 b 0).2.2) := rfl
     have hE := fun (w' : World) (h : Rd w' g w.heap.size (decSt 2 0 b 0).2.1 (decSt 2 0 b 0).2.2) => end_any g (decSt 2 0 b 0).2.1 (decSt 2 0 b 0).2.2 w' h
     obtain ⟨E, hEe⟩ : ∃ E, E = rdEnd (decSt 2 0 b 0).2.1 (decSt 2 0 b 0).2.2 := ⟨_, rfl⟩
     rw [← hEe] at hM hE
     have HE := Lib.hid hE; clear hE hEe
     rw [outTo_full] at hown
     by_cases h0 : E = 0
     · rw [if_pos h0] at hM
       subst h0
       have HM := Lib.hid hM
       clear hM
       go_wp2_with fail
       refine (HE.out _ hr).mono ?_
       rintro e y ⟨rfl, rfl⟩
       go_wp2
       simp only [Exit.jump]
       go_ret2
       rw [HM.out]
       exact ⟨_, rfl, by rw [decSt_length]; exact own_base hown (by omega), hwx⟩
     · rw [if_neg h0] at hM
       have HM := Lib.hid hM
       have hb : ((E : Int) != 0) = true := by rw [bne_iff_ne]; omega
       clear hM h0
       go_wp2_with fail
       refine (HE.out _ hr).mono ?_
       rintro e y ⟨rfl, rfl⟩
       go_wp2
       simp only [Exit.jump]
       go_ret2
       rw [HM.out]
       exact ⟨_, rfl, World.ownsRow_nil _ _ _ _, hwx⟩
 · rintro a' x ⟨j, g, gO, u3, u4, u5, u11, u12, u13, u14, u15, u16, u17, u18, u19, u20, u21, u22, u23, u24, u25, u26, u27, u28, u29, u30, u31, u32, u33, u34, u35, u36, u37, u38, u39, u40, u41, u42, u43, u44, u45, u46, u47, u48, u49, u50, u51, u52, rfl, hj, hgw, hgO, hr, hown, hwx⟩
   by_cases hjn : j < n
   ·
    obtain ⟨lj, hlj⟩ : ∃ lj, lj = (decSt 2 j b 0).2.1 := ⟨_, rfl⟩
    obtain ⟨ej, hej⟩ : ∃ ej, ej = (decSt 2 j b 0).2.2 := ⟨_, rfl⟩
    have hlen : lj.length ≤ 140737488355328 := by rw [hlj]; have := decSt_le 2 j b 0; rw [Hl.out] at this; omega
    have hm256 : ∀ x ∈ lj, x < 256 := by rw [hlj]; exact fun x hx => H256.out x (decSt_mem 2 j b 0 x hx)
    have hout := outTo_set 2 n j b 0 hjn
    rw [← hlj, ← hej] at hr hout
    have hN2 : (valueM 2 lj ej).2 = (decSt 2 (j + 1) b 0).2 := by rw [hlj, hej]; rfl
    have Hm := Lib.hid hm256; clear hm256 hlj hej
    have hV := fun (w' : World) (h : Rd w' g w.heap.size lj ej) => value_2 g lj ej w' h hlen Hm.out
    obtain ⟨V, hVe⟩ : ∃ V, V = (valueM 2 lj ej).1 := ⟨_, rfl⟩
    rw [← hVe] at hout
    rw [← hVe, hN2] at hV
    have HV := Lib.hid hV; have Hout := Lib.hid hout; clear hV hN2 hVe hout
    go_wp2_with fail
    refine (HV.out _ hr).mono ?_
    rintro e y ⟨rfl, hr', hb'⟩
    have hown' := own_but hown hb' hgO
    obtain ⟨c0, c1⟩ := cell_v hown' j hjn
    have f0 := hown'.frozenAt (j * 2)
    have f1 := hown'.frozenAt (j * 2 + 1)
    have hst := stored_v hown' j hjn V
    rw [Hout.out] at hst
    have hY : Below gO y ((y.setCell ⟨gO, j * 2, none⟩ (.int .i64 V.1)).setCell ⟨gO, j * 2 + 1, none⟩ (.string V.2)) := ((Below.refl _ _).setCell (by exact Nat.le_refl _) _).setCell (by exact Nat.le_refl _) _
    have hr2 := hr'.below hY hgO
    have hw2 : Below w.heap.size w ((y.setCell ⟨gO, j * 2, none⟩ (.int .i64 V.1)).setCell ⟨gO, j * 2 + 1, none⟩ (.string V.2)) := (hb'.below hwx hgw hwx.size).trans (hY.mono (by omega))
    clear hown' hr' hY hown hr hwx
    go_wp2
    go_step3
    refine ⟨rfl, ⟨j + 1, g, gO, _, _, _, _, _, _, _, _, _, _, _, _, _, _, _, _, _, _, _, _, _, _, _, _, _, _, _, _, _, _, _, _, _, _, _, _, _, _, _, _, _, _, _, _, _, rfl, by omega, hgw, hgO, hr2, hst, hw2⟩, ?_⟩
    show n - (((j : Nat) : Int) + 1).toNat < n - ((j : Nat) : Int).toNat
    omega
   · obtain rfl : j = n := by omega
     have hM : decM 2 b j = if rdEnd (decSt 2 j b 0).2.1 (decSt 2 j b 0).2.2 = 0 then ((decSt 2 j b 0).1, 0) else ([], rdEnd (decSt 2 j b 0).2.1 (decSt 2 j b 0).2.2) := rfl
     have hE := fun (w' : World) (h : Rd w' g w.heap.size (decSt 2 j b 0).2.1 (decSt 2 j b 0).2.2) => end_any g (decSt 2 j b 0).2.1 (decSt 2 j b 0).2.2 w' h
     obtain ⟨E, hEe⟩ : ∃ E, E = rdEnd (decSt 2 j b 0).2.1 (decSt 2 j b 0).2.2 := ⟨_, rfl⟩
     rw [← hEe] at hM hE
     have HE := Lib.hid hE; clear hE hEe
     rw [outTo_full] at hown
     by_cases h0 : E = 0
     · rw [if_pos h0] at hM
       subst h0
       have HM := Lib.hid hM
       clear hM
       go_wp2_with fail
       refine (HE.out _ hr).mono ?_
       rintro e y ⟨rfl, rfl⟩
       go_wp2
       simp only [Exit.jump]
       go_ret2
       rw [HM.out]
       exact ⟨_, rfl, by rw [decSt_length]; exact own_base hown (by omega), hwx⟩
     · rw [if_neg h0] at hM
       have HM := Lib.hid hM
       have hb : ((E : Int) != 0) = true := by rw [bne_iff_ne]; omega
       clear hM h0
       go_wp2_with fail
       refine (HE.out _ hr).mono ?_
       rintro e y ⟨rfl, rfl⟩
       go_wp2
       simp only [Exit.jump]
       go_ret2
       rw [HM.out]
       exact ⟨_, rfl, World.ownsRow_nil _ _ _ _, hwx⟩
set_option maxHeartbeats 8000000 in
set_option maxRecDepth 100000 in
theorem decode_3 (ao : Option Addr) (L cap n : Nat) (b : List Nat) (w : World) (hl : b.length = L) (h256 : ∀ x ∈ b, x < 256) (hL : L ≤ 140737488355328) (hc : CellsAt w w.heap.size ao L (u8c b)) (hz : ao = none → L = 0) (hn : n ≤ 4000) :
 Calls Tryz.prog 58 #[.int .i64 3, .slice ao L cap, .int .i64 n] w fun e w' => ∃ v, e = .returned (.tuple #[v, .int .i64 ((decM 3 b n).2 : Nat)]) ∧ w'.ownsRow w.heap.size 81 2 v (decM 3 b n).1.length (vcs (decM 3 b n).1) ∧ Below w.heap.size w w' := by
 have Hl := Lib.hid hl; clear hl
 have H256 := Lib.hid h256; clear h256
 obtain ⟨i0, hi, hz0, hz1, hz2⟩ := info_parts Tryz.infoV
 go_enter Tryz.func58, Tryz.ntmps58
 go_wp2_with (go_at_call 84; refine (sign_3 _).mono ?_; rintro e x0 ⟨rfl, rfl⟩)
 refine wp_scope_jumps 0 (fun a' x => ∃ (j g gO : Nat) (u3 u4 u5 u11 u12 u13 u14 u15 u16 u17 u18 u19 u20 u21 u22 u23 u24 u25 u26 u27 u28 u29 u30 u31 u32 u33 u34 u35 u36 u37 u38 u39 u40 u41 u42 u43 u44 u45 u46 u47 u48 u49 u50 u51 u52 : Value), a' = { tmps := #[.int .i64 3, .slice ao L cap, .int .i64 (n : Nat), u3, u4, u5, .slice none 0 0, .int .i64 0, .pointer (some ⟨g, 0, none⟩), .slice (some ⟨gO, 0, none⟩) n n, .int .i64 (j : Nat), u11, u12, u13, u14, u15, u16, u17, u18, u19, u20, u21, u22, u23, u24, u25, u26, u27, u28, u29, u30, u31, u32, u33, u34, u35, u36, u37, u38, u39, u40, u41, u42, u43, u44, u45, u46, u47, u48, u49, u50, u51, u52], defers := [] } ∧ j ≤ n ∧ w.heap.size ≤ g ∧ g < gO ∧ Rd x g w.heap.size (decSt 3 j b 0).2.1 (decSt 3 j b 0).2.2 ∧
  x.ownsRow gO 81 2 (.slice (some ⟨gO, 0, none⟩) n n) n (vcs (outTo 3 n j b 0)) ∧ Below w.heap.size w x) (fun a' _ => n - (intOf (a'.tmps.getD 10 undef)).toNat) rfl ?_ ?_
 · go_wp2_with (first
    | (go_at_call 84; refine (sign_3 _).mono ?_; rintro e x0 ⟨rfl, rfl⟩)
    | (go_at_call 86; refine (new_any ao L cap b _ Hl.out hc hz hL).mono ?_; rintro e x1 ⟨g, rfl, hgw, hr, hx1⟩)
    | (at_make; refine wpList_make_full _ rfl _ _ 31 rfl x1.heap.size 81 i0 (.agg #[.int .i64 0, .string ByteArray.empty]) 2 Tryz.underlying31 hi hz0 hz1 _ _ _ _ n rfl rfl rfl rfl ?b2 ?b3 (Nat.le_refl _) ?_))
   case b2 => rw [hz2]; omega
   case b3 => unfold maxLen; omega
   intro x hown0 hgrow0
   rw [madeV] at hown0
   have hg1 : g < x1.heap.size := hr.lt
   obtain ⟨gO, hgOe⟩ : ∃ gO, gO = x1.heap.size := ⟨_, rfl⟩
   have hbx : Below x1.heap.size x1 x := (Below.refl _ _).grown hgrow0 (Nat.le_refl _) (fun k h => by cases h)
   have hr : Rd x g w.heap.size (decSt 3 0 b 0).2.1 (decSt 3 0 b 0).2.2 := hr.keep hbx
   have hwx := bmore hx1 hbx
   rw [← hgOe] at hown0 hg1 ⊢
   have hgO : g < gO := hg1
   have hown : x.ownsRow gO 81 2 (.slice (some ⟨gO, 0, none⟩) n n) n (vcs (outTo 3 n 0 b 0)) := by rw [outTo_zero]; exact hown0
   clear hown0 hgrow0 hgOe hg1 hx1 hbx hc
   go_wp2
   go_step3
   by_cases hjn : 0 < n
   ·
    obtain ⟨lj, hlj⟩ : ∃ lj, lj = (decSt 3 0 b 0).2.1 := ⟨_, rfl⟩
    obtain ⟨ej, hej⟩ : ∃ ej, ej = (decSt 3 0 b 0).2.2 := ⟨_, rfl⟩
    have hlen : lj.length ≤ 140737488355328 := by rw [hlj]; have := decSt_le 3 0 b 0; rw [Hl.out] at this; omega
    have hm256 : ∀ x ∈ lj, x < 256 := by rw [hlj]; exact fun x hx => H256.out x (decSt_mem 3 0 b 0 x hx)
    have hout := outTo_set 3 n 0 b 0 hjn
    rw [← hlj, ← hej] at hr hout
    have hN2 : (valueM 3 lj ej).2 = (decSt 3 (0 + 1) b 0).2 := by rw [hlj, hej]; rfl
    have Hm := Lib.hid hm256; clear hm256 hlj hej
    have hV := fun (w' : World) (h : Rd w' g w.heap.size lj ej) => value_3 g lj ej w' h hlen Hm.out
    obtain ⟨V, hVe⟩ : ∃ V, V = (valueM 3 lj ej).1 := ⟨_, rfl⟩
    rw [← hVe] at hout
    rw [← hVe, hN2] at hV
    have HV := Lib.hid hV; have Hout := Lib.hid hout; clear hV hN2 hVe hout
    go_wp2_with fail
    refine (HV.out _ hr).mono ?_
    rintro e y ⟨rfl, hr', hb'⟩
    have hown' := own_but hown hb' hgO
    obtain ⟨c0, c1⟩ := cell_v hown' 0 hjn
    have f0 := hown'.frozenAt (0 * 2)
    have f1 := hown'.frozenAt (0 * 2 + 1)
    have hst := stored_v hown' 0 hjn V
    rw [Hout.out] at hst
    have hY : Below gO y ((y.setCell ⟨gO, 0 * 2, none⟩ (.int .i64 V.1)).setCell ⟨gO, 0 * 2 + 1, none⟩ (.string V.2)) := ((Below.refl _ _).setCell (by exact Nat.le_refl _) _).setCell (by exact Nat.le_refl _) _
    have hr2 := hr'.below hY hgO
    have hw2 : Below w.heap.size w ((y.setCell ⟨gO, 0 * 2, none⟩ (.int .i64 V.1)).setCell ⟨gO, 0 * 2 + 1, none⟩ (.string V.2)) := (hb'.below hwx hgw hwx.size).trans (hY.mono (by omega))
    clear hown' hr' hY hown hr hwx
    go_wp2
    go_step3
    exact ⟨rfl, 1, g, gO, _, _, _, _, _, _, _, _, _, _, _, _, _, _, _, _, _, _, _, _, _, _, _, _, _, _, _, _, _, _, _, _, _, _, _, _, _, _, _, _, _, _, _, _, _, rfl, by omega, hgw, hgO, hr2, hst, hw2⟩
   · obtain rfl : n = 0 := by omega
     have hM : decM 3 b 0 = if rdEnd (decSt 3 0 b 0).2.1 (decSt 3 0 b 0).2.2 = 0 then ((decSt 3 0 b 0).1, 0) else ([], rdEnd (decSt 3 0 b 0).2.1 (decSt 3 0 b 0).2.2) := rfl
     have hE := fun (w' : World) (h : Rd w' g w.heap.size (decSt 3 0 b 0).2.1 (decSt 3 0 b 0).2.2) => end_any g (decSt 3 0 b 0).2.1 (decSt 3 0 b 0).2.2 w' h
     obtain ⟨E, hEe⟩ : ∃ E, E = rdEnd (decSt 3 0 b 0).2.1 (decSt 3 0 b 0).2.2 := ⟨_, rfl⟩
     rw [← hEe] at hM hE
     have HE := Lib.hid hE; clear hE hEe
     rw [outTo_full] at hown
     by_cases h0 : E = 0
     · rw [if_pos h0] at hM
       subst h0
       have HM := Lib.hid hM
       clear hM
       go_wp2_with fail
       refine (HE.out _ hr).mono ?_
       rintro e y ⟨rfl, rfl⟩
       go_wp2
       simp only [Exit.jump]
       go_ret2
       rw [HM.out]
       exact ⟨_, rfl, by rw [decSt_length]; exact own_base hown (by omega), hwx⟩
     · rw [if_neg h0] at hM
       have HM := Lib.hid hM
       have hb : ((E : Int) != 0) = true := by rw [bne_iff_ne]; omega
       clear hM h0
       go_wp2_with fail
       refine (HE.out _ hr).mono ?_
       rintro e y ⟨rfl, rfl⟩
       go_wp2
       simp only [Exit.jump]
       go_ret2
       rw [HM.out]
       exact ⟨_, rfl, World.ownsRow_nil _ _ _ _, hwx⟩
 · rintro a' x ⟨j, g, gO, u3, u4, u5, u11, u12, u13, u14, u15, u16, u17, u18, u19, u20, u21, u22, u23, u24, u25, u26, u27, u28, u29, u30, u31, u32, u33, u34, u35, u36, u37, u38, u39, u40, u41, u42, u43, u44, u45, u46, u47, u48, u49, u50, u51, u52, rfl, hj, hgw, hgO, hr, hown, hwx⟩
   by_cases hjn : j < n
   ·
    obtain ⟨lj, hlj⟩ : ∃ lj, lj = (decSt 3 j b 0).2.1 := ⟨_, rfl⟩
    obtain ⟨ej, hej⟩ : ∃ ej, ej = (decSt 3 j b 0).2.2 := ⟨_, rfl⟩
    have hlen : lj.length ≤ 140737488355328 := by rw [hlj]; have := decSt_le 3 j b 0; rw [Hl.out] at this; omega
    have hm256 : ∀ x ∈ lj, x < 256 := by rw [hlj]; exact fun x hx => H256.out x (decSt_mem 3 j b 0 x hx)
    have hout := outTo_set 3 n j b 0 hjn
    rw [← hlj, ← hej] at hr hout
    have hN2 : (valueM 3 lj ej).2 = (decSt 3 (j + 1) b 0).2 := by rw [hlj, hej]; rfl
    have Hm := Lib.hid hm256; clear hm256 hlj hej
    have hV := fun (w' : World) (h : Rd w' g w.heap.size lj ej) => value_3 g lj ej w' h hlen Hm.out
    obtain ⟨V, hVe⟩ : ∃ V, V = (valueM 3 lj ej).1 := ⟨_, rfl⟩
    rw [← hVe] at hout
    rw [← hVe, hN2] at hV
    have HV := Lib.hid hV; have Hout := Lib.hid hout; clear hV hN2 hVe hout
    go_wp2_with fail
    refine (HV.out _ hr).mono ?_
    rintro e y ⟨rfl, hr', hb'⟩
    have hown' := own_but hown hb' hgO
    obtain ⟨c0, c1⟩ := cell_v hown' j hjn
    have f0 := hown'.frozenAt (j * 2)
    have f1 := hown'.frozenAt (j * 2 + 1)
    have hst := stored_v hown' j hjn V
    rw [Hout.out] at hst
    have hY : Below gO y ((y.setCell ⟨gO, j * 2, none⟩ (.int .i64 V.1)).setCell ⟨gO, j * 2 + 1, none⟩ (.string V.2)) := ((Below.refl _ _).setCell (by exact Nat.le_refl _) _).setCell (by exact Nat.le_refl _) _
    have hr2 := hr'.below hY hgO
    have hw2 : Below w.heap.size w ((y.setCell ⟨gO, j * 2, none⟩ (.int .i64 V.1)).setCell ⟨gO, j * 2 + 1, none⟩ (.string V.2)) := (hb'.below hwx hgw hwx.size).trans (hY.mono (by omega))
    clear hown' hr' hY hown hr hwx
    go_wp2
    go_step3
    refine ⟨rfl, ⟨j + 1, g, gO, _, _, _, _, _, _, _, _, _, _, _, _, _, _, _, _, _, _, _, _, _, _, _, _, _, _, _, _, _, _, _, _, _, _, _, _, _, _, _, _, _, _, _, _, _, rfl, by omega, hgw, hgO, hr2, hst, hw2⟩, ?_⟩
    show n - (((j : Nat) : Int) + 1).toNat < n - ((j : Nat) : Int).toNat
    omega
   · obtain rfl : j = n := by omega
     have hM : decM 3 b j = if rdEnd (decSt 3 j b 0).2.1 (decSt 3 j b 0).2.2 = 0 then ((decSt 3 j b 0).1, 0) else ([], rdEnd (decSt 3 j b 0).2.1 (decSt 3 j b 0).2.2) := rfl
     have hE := fun (w' : World) (h : Rd w' g w.heap.size (decSt 3 j b 0).2.1 (decSt 3 j b 0).2.2) => end_any g (decSt 3 j b 0).2.1 (decSt 3 j b 0).2.2 w' h
     obtain ⟨E, hEe⟩ : ∃ E, E = rdEnd (decSt 3 j b 0).2.1 (decSt 3 j b 0).2.2 := ⟨_, rfl⟩
     rw [← hEe] at hM hE
     have HE := Lib.hid hE; clear hE hEe
     rw [outTo_full] at hown
     by_cases h0 : E = 0
     · rw [if_pos h0] at hM
       subst h0
       have HM := Lib.hid hM
       clear hM
       go_wp2_with fail
       refine (HE.out _ hr).mono ?_
       rintro e y ⟨rfl, rfl⟩
       go_wp2
       simp only [Exit.jump]
       go_ret2
       rw [HM.out]
       exact ⟨_, rfl, by rw [decSt_length]; exact own_base hown (by omega), hwx⟩
     · rw [if_neg h0] at hM
       have HM := Lib.hid hM
       have hb : ((E : Int) != 0) = true := by rw [bne_iff_ne]; omega
       clear hM h0
       go_wp2_with fail
       refine (HE.out _ hr).mono ?_
       rintro e y ⟨rfl, rfl⟩
       go_wp2
       simp only [Exit.jump]
       go_ret2
       rw [HM.out]
       exact ⟨_, rfl, World.ownsRow_nil _ _ _ _, hwx⟩
set_option maxHeartbeats 8000000 in
set_option maxRecDepth 100000 in
theorem decode_4 (ao : Option Addr) (L cap n : Nat) (b : List Nat) (w : World) (hl : b.length = L) (h256 : ∀ x ∈ b, x < 256) (hL : L ≤ 140737488355328) (hc : CellsAt w w.heap.size ao L (u8c b)) (hz : ao = none → L = 0) (hn : n ≤ 4000) :
 Calls Tryz.prog 58 #[.int .i64 4, .slice ao L cap, .int .i64 n] w fun e w' => ∃ v, e = .returned (.tuple #[v, .int .i64 ((decM 4 b n).2 : Nat)]) ∧ w'.ownsRow w.heap.size 81 2 v (decM 4 b n).1.length (vcs (decM 4 b n).1) ∧ Below w.heap.size w w' := by
 have Hl := Lib.hid hl; clear hl
 have H256 := Lib.hid h256; clear h256
 obtain ⟨i0, hi, hz0, hz1, hz2⟩ := info_parts Tryz.infoV
 go_enter Tryz.func58, Tryz.ntmps58
 go_wp2_with (go_at_call 84; refine (sign_4 _).mono ?_; rintro e x0 ⟨rfl, rfl⟩)
 refine wp_scope_jumps 0 (fun a' x => ∃ (j g gO : Nat) (u3 u4 u5 u11 u12 u13 u14 u15 u16 u17 u18 u19 u20 u21 u22 u23 u24 u25 u26 u27 u28 u29 u30 u31 u32 u33 u34 u35 u36 u37 u38 u39 u40 u41 u42 u43 u44 u45 u46 u47 u48 u49 u50 u51 u52 : Value), a' = { tmps := #[.int .i64 4, .slice ao L cap, .int .i64 (n : Nat), u3, u4, u5, .slice none 0 0, .int .i64 0, .pointer (some ⟨g, 0, none⟩), .slice (some ⟨gO, 0, none⟩) n n, .int .i64 (j : Nat), u11, u12, u13, u14, u15, u16, u17, u18, u19, u20, u21, u22, u23, u24, u25, u26, u27, u28, u29, u30, u31, u32, u33, u34, u35, u36, u37, u38, u39, u40, u41, u42, u43, u44, u45, u46, u47, u48, u49, u50, u51, u52], defers := [] } ∧ j ≤ n ∧ w.heap.size ≤ g ∧ g < gO ∧ Rd x g w.heap.size (decSt 4 j b 0).2.1 (decSt 4 j b 0).2.2 ∧
  x.ownsRow gO 81 2 (.slice (some ⟨gO, 0, none⟩) n n) n (vcs (outTo 4 n j b 0)) ∧ Below w.heap.size w x) (fun a' _ => n - (intOf (a'.tmps.getD 10 undef)).toNat) rfl ?_ ?_
 · go_wp2_with (first
    | (go_at_call 84; refine (sign_4 _).mono ?_; rintro e x0 ⟨rfl, rfl⟩)
    | (go_at_call 86; refine (new_any ao L cap b _ Hl.out hc hz hL).mono ?_; rintro e x1 ⟨g, rfl, hgw, hr, hx1⟩)
    | (at_make; refine wpList_make_full _ rfl _ _ 31 rfl x1.heap.size 81 i0 (.agg #[.int .i64 0, .string ByteArray.empty]) 2 Tryz.underlying31 hi hz0 hz1 _ _ _ _ n rfl rfl rfl rfl ?b2 ?b3 (Nat.le_refl _) ?_))
   case b2 => rw [hz2]; omega
   case b3 => unfold maxLen; omega
   intro x hown0 hgrow0
   rw [madeV] at hown0
   have hg1 : g < x1.heap.size := hr.lt
   obtain ⟨gO, hgOe⟩ : ∃ gO, gO = x1.heap.size := ⟨_, rfl⟩
   have hbx : Below x1.heap.size x1 x := (Below.refl _ _).grown hgrow0 (Nat.le_refl _) (fun k h => by cases h)
   have hr : Rd x g w.heap.size (decSt 4 0 b 0).2.1 (decSt 4 0 b 0).2.2 := hr.keep hbx
   have hwx := bmore hx1 hbx
   rw [← hgOe] at hown0 hg1 ⊢
   have hgO : g < gO := hg1
   have hown : x.ownsRow gO 81 2 (.slice (some ⟨gO, 0, none⟩) n n) n (vcs (outTo 4 n 0 b 0)) := by rw [outTo_zero]; exact hown0
   clear hown0 hgrow0 hgOe hg1 hx1 hbx hc
   go_wp2
   go_step3
   by_cases hjn : 0 < n
   ·
    obtain ⟨lj, hlj⟩ : ∃ lj, lj = (decSt 4 0 b 0).2.1 := ⟨_, rfl⟩
    obtain ⟨ej, hej⟩ : ∃ ej, ej = (decSt 4 0 b 0).2.2 := ⟨_, rfl⟩
    have hlen : lj.length ≤ 140737488355328 := by rw [hlj]; have := decSt_le 4 0 b 0; rw [Hl.out] at this; omega
    have hm256 : ∀ x ∈ lj, x < 256 := by rw [hlj]; exact fun x hx => H256.out x (decSt_mem 4 0 b 0 x hx)
    have hout := outTo_set 4 n 0 b 0 hjn
    rw [← hlj, ← hej] at hr hout
    have hN2 : (valueM 4 lj ej).2 = (decSt 4 (0 + 1) b 0).2 := by rw [hlj, hej]; rfl
    have Hm := Lib.hid hm256; clear hm256 hlj hej
    have hV := fun (w' : World) (h : Rd w' g w.heap.size lj ej) => value_4 g lj ej w' h hlen Hm.out
    obtain ⟨V, hVe⟩ : ∃ V, V = (valueM 4 lj ej).1 := ⟨_, rfl⟩
    rw [← hVe] at hout
    rw [← hVe, hN2] at hV
    have HV := Lib.hid hV; have Hout := Lib.hid hout; clear hV hN2 hVe hout
    go_wp2_with fail
    refine (HV.out _ hr).mono ?_
    rintro e y ⟨rfl, hr', hb'⟩
    have hown' := own_but hown hb' hgO
    obtain ⟨c0, c1⟩ := cell_v hown' 0 hjn
    have f0 := hown'.frozenAt (0 * 2)
    have f1 := hown'.frozenAt (0 * 2 + 1)
    have hst := stored_v hown' 0 hjn V
    rw [Hout.out] at hst
    have hY : Below gO y ((y.setCell ⟨gO, 0 * 2, none⟩ (.int .i64 V.1)).setCell ⟨gO, 0 * 2 + 1, none⟩ (.string V.2)) := ((Below.refl _ _).setCell (by exact Nat.le_refl _) _).setCell (by exact Nat.le_refl _) _
    have hr2 := hr'.below hY hgO
    have hw2 : Below w.heap.size w ((y.setCell ⟨gO, 0 * 2, none⟩ (.int .i64 V.1)).setCell ⟨gO, 0 * 2 + 1, none⟩ (.string V.2)) := (hb'.below hwx hgw hwx.size).trans (hY.mono (by omega))
    clear hown' hr' hY hown hr hwx
    go_wp2
    go_step3
    exact ⟨rfl, 1, g, gO, _, _, _, _, _, _, _, _, _, _, _, _, _, _, _, _, _, _, _, _, _, _, _, _, _, _, _, _, _, _, _, _, _, _, _, _, _, _, _, _, _, _, _, _, _, rfl, by omega, hgw, hgO, hr2, hst, hw2⟩
   · obtain rfl : n = 0 := by omega
     have hM : decM 4 b 0 = if rdEnd (decSt 4 0 b 0).2.1 (decSt 4 0 b 0).2.2 = 0 then ((decSt 4 0 b 0).1, 0) else ([], rdEnd (decSt 4 0 b 0).2.1 (decSt 4 0 b 0).2.2) := rfl
     have hE := fun (w' : World) (h : Rd w' g w.heap.size (decSt 4 0 b 0).2.1 (decSt 4 0 b 0).2.2) => end_any g (decSt 4 0 b 0).2.1 (decSt 4 0 b 0).2.2 w' h
     obtain ⟨E, hEe⟩ : ∃ E, E = rdEnd (decSt 4 0 b 0).2.1 (decSt 4 0 b 0).2.2 := ⟨_, rfl⟩
     rw [← hEe] at hM hE
     have HE := Lib.hid hE; clear hE hEe
     rw [outTo_full] at hown
     by_cases h0 : E = 0
     · rw [if_pos h0] at hM
       subst h0
       have HM := Lib.hid hM
       clear hM
       go_wp2_with fail
       refine (HE.out _ hr).mono ?_
       rintro e y ⟨rfl, rfl⟩
       go_wp2
       simp only [Exit.jump]
       go_ret2
       rw [HM.out]
       exact ⟨_, rfl, by rw [decSt_length]; exact own_base hown (by omega), hwx⟩
     · rw [if_neg h0] at hM
       have HM := Lib.hid hM
       have hb : ((E : Int) != 0) = true := by rw [bne_iff_ne]; omega
       clear hM h0
       go_wp2_with fail
       refine (HE.out _ hr).mono ?_
       rintro e y ⟨rfl, rfl⟩
       go_wp2
       simp only [Exit.jump]
       go_ret2
       rw [HM.out]
       exact ⟨_, rfl, World.ownsRow_nil _ _ _ _, hwx⟩
 · rintro a' x ⟨j, g, gO, u3, u4, u5, u11, u12, u13, u14, u15, u16, u17, u18, u19, u20, u21, u22, u23, u24, u25, u26, u27, u28, u29, u30, u31, u32, u33, u34, u35, u36, u37, u38, u39, u40, u41, u42, u43, u44, u45, u46, u47, u48, u49, u50, u51, u52, rfl, hj, hgw, hgO, hr, hown, hwx⟩
   by_cases hjn : j < n
   ·
    obtain ⟨lj, hlj⟩ : ∃ lj, lj = (decSt 4 j b 0).2.1 := ⟨_, rfl⟩
    obtain ⟨ej, hej⟩ : ∃ ej, ej = (decSt 4 j b 0).2.2 := ⟨_, rfl⟩
    have hlen : lj.length ≤ 140737488355328 := by rw [hlj]; have := decSt_le 4 j b 0; rw [Hl.out] at this; omega
    have hm256 : ∀ x ∈ lj, x < 256 := by rw [hlj]; exact fun x hx => H256.out x (decSt_mem 4 j b 0 x hx)
    have hout := outTo_set 4 n j b 0 hjn
    rw [← hlj, ← hej] at hr hout
    have hN2 : (valueM 4 lj ej).2 = (decSt 4 (j + 1) b 0).2 := by rw [hlj, hej]; rfl
    have Hm := Lib.hid hm256; clear hm256 hlj hej
    have hV := fun (w' : World) (h : Rd w' g w.heap.size lj ej) => value_4 g lj ej w' h hlen Hm.out
    obtain ⟨V, hVe⟩ : ∃ V, V = (valueM 4 lj ej).1 := ⟨_, rfl⟩
    rw [← hVe] at hout
    rw [← hVe, hN2] at hV
    have HV := Lib.hid hV; have Hout := Lib.hid hout; clear hV hN2 hVe hout
    go_wp2_with fail
    refine (HV.out _ hr).mono ?_
    rintro e y ⟨rfl, hr', hb'⟩
    have hown' := own_but hown hb' hgO
    obtain ⟨c0, c1⟩ := cell_v hown' j hjn
    have f0 := hown'.frozenAt (j * 2)
    have f1 := hown'.frozenAt (j * 2 + 1)
    have hst := stored_v hown' j hjn V
    rw [Hout.out] at hst
    have hY : Below gO y ((y.setCell ⟨gO, j * 2, none⟩ (.int .i64 V.1)).setCell ⟨gO, j * 2 + 1, none⟩ (.string V.2)) := ((Below.refl _ _).setCell (by exact Nat.le_refl _) _).setCell (by exact Nat.le_refl _) _
    have hr2 := hr'.below hY hgO
    have hw2 : Below w.heap.size w ((y.setCell ⟨gO, j * 2, none⟩ (.int .i64 V.1)).setCell ⟨gO, j * 2 + 1, none⟩ (.string V.2)) := (hb'.below hwx hgw hwx.size).trans (hY.mono (by omega))
    clear hown' hr' hY hown hr hwx
    go_wp2
    go_step3
    refine ⟨rfl, ⟨j + 1, g, gO, _, _, _, _, _, _, _, _, _, _, _, _, _, _, _, _, _, _, _, _, _, _, _, _, _, _, _, _, _, _, _, _, _, _, _, _, _, _, _, _, _, _, _, _, _, rfl, by omega, hgw, hgO, hr2, hst, hw2⟩, ?_⟩
    show n - (((j : Nat) : Int) + 1).toNat < n - ((j : Nat) : Int).toNat
    omega
   · obtain rfl : j = n := by omega
     have hM : decM 4 b j = if rdEnd (decSt 4 j b 0).2.1 (decSt 4 j b 0).2.2 = 0 then ((decSt 4 j b 0).1, 0) else ([], rdEnd (decSt 4 j b 0).2.1 (decSt 4 j b 0).2.2) := rfl
     have hE := fun (w' : World) (h : Rd w' g w.heap.size (decSt 4 j b 0).2.1 (decSt 4 j b 0).2.2) => end_any g (decSt 4 j b 0).2.1 (decSt 4 j b 0).2.2 w' h
     obtain ⟨E, hEe⟩ : ∃ E, E = rdEnd (decSt 4 j b 0).2.1 (decSt 4 j b 0).2.2 := ⟨_, rfl⟩
     rw [← hEe] at hM hE
     have HE := Lib.hid hE; clear hE hEe
     rw [outTo_full] at hown
     by_cases h0 : E = 0
     · rw [if_pos h0] at hM
       subst h0
       have HM := Lib.hid hM
       clear hM
       go_wp2_with fail
       refine (HE.out _ hr).mono ?_
       rintro e y ⟨rfl, rfl⟩
       go_wp2
       simp only [Exit.jump]
       go_ret2
       rw [HM.out]
       exact ⟨_, rfl, by rw [decSt_length]; exact own_base hown (by omega), hwx⟩
     · rw [if_neg h0] at hM
       have HM := Lib.hid hM
       have hb : ((E : Int) != 0) = true := by rw [bne_iff_ne]; omega
       clear hM h0
       go_wp2_with fail
       refine (HE.out _ hr).mono ?_
       rintro e y ⟨rfl, rfl⟩
       go_wp2
       simp only [Exit.jump]
       go_ret2
       rw [HM.out]
       exact ⟨_, rfl, World.ownsRow_nil _ _ _ _, hwx⟩
end Go.Proofs.YtebmbkbnngeabaaGreat
