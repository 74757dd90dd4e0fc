/- Chapter 12: the walk over a block's writing. -/
import Derived.Test.YtlnlcmdbhkpnhaaDelW
import Derived.Test.YtlnlcmdbhkpnhaaUnpack
namespace Go.Proofs.Ytlnlcmdbhkpnhaa
open Go.RowKit
set_option linter.unusedVariables false

theorem GaveB.opened {w w' : World} {l : List Nat} {e : Ending} (h : GaveB w l e w') :
    ∃ ao n cap, e = .returned (.slice ao n cap) ∧ Hid (l.length = n) ∧ CellsAt w' w'.heap.size ao n (u8c l) ∧ (ao = none → n = 0) ∧ RowB w' w.heap.size ao n cap l ∧ Below w.heap.size w w' := by
  obtain ⟨ao, cap, rfl, h1, h2, h3, h4⟩ := h
  exact ⟨ao, _, cap, rfl, Lib.hid rfl, h1, h2, h3, h4⟩
theorem RowB.below {w w' : World} {base : Nat} {ao : Option Addr} {n cap : Nat} {l : List Nat} (h : RowB w base ao n cap l) (hb : Below w.heap.size w w') : RowB w' base ao n cap l := by
  refine ⟨h.1, h.2.imp id fun x => ⟨x.1, ?_⟩⟩
  exact ⟨x.2.1, x.2.2.imp id fun ⟨g, cap, cur, h1, h2, h3, h4⟩ => ⟨g, cap, cur, h1, h2, (hb.block g (Array.getElem?_eq_some_iff.1 h3).1).trans h3, h4⟩⟩
/-- The row while it is filled. -/
def ovTo (m : Int) (c : List Int) (n j : Nat) : List Nat := (c.take j).map (overN m) ++ List.replicate (n - j) 0
theorem ovTo_length (m : Int) (c : List Int) (n j : Nat) (h : c.length = n) (hj : j ≤ n) : (ovTo m c n j).length = n := by simp [ovTo]; omega
theorem ovTo_set (m : Int) (c : List Int) (n j : Nat) (h : c.length = n) (hj : j < n) : (ovTo m c n j).set j (overN m (c.getD j 0)) = ovTo m c n (j + 1) := by
  unfold ovTo
  have hl : ((c.take j).map (overN m)).length = j := by simp; omega
  rw [List.set_append_right _ _ (by rw [hl]; exact Nat.le_refl _), hl, Nat.sub_self, show n - j = (n - (j + 1)) + 1 by omega, List.replicate_succ, List.set_cons_zero, show c.take (j + 1) = c.take j ++ [c[j]] from List.take_succ_eq_append_getElem (by omega), List.getD_eq_getElem?_getD, List.getElem?_eq_getElem (by omega), List.map_append]
  simp [-List.take_append_getElem]
theorem ovTo_zero (m : Int) (c : List Int) (n : Nat) : ovTo m c n 0 = List.replicate n 0 := by simp [ovTo]
theorem ovTo_all (m : Int) (c : List Int) (n : Nat) (h : c.length = n) : ovTo m c n n = c.map (overN m) := by simp [ovTo, ← h]

set_option maxHeartbeats 4000000 in
set_option maxRecDepth 100000 in
theorem written_any (aoB : Option Addr) (nB capB : Nat) (pre : List Nat) (aoL : Option Addr) (n cap : Nat) (c : List Int) (w : World) (hpl : pre.length = nB) (hcB : CellsAt w w.heap.size aoB nB (u8c pre)) (hzB : aoB = none → nB = 0) (hnB : nB ≤ 100000000)
    (hl : c.length = n) (hn : 1 ≤ n) (hn2 : n ≤ 4000) (hc : CellsAt w w.heap.size aoL n (i64c c)) (hin : ∀ x ∈ c, inI64 x) :
    Calls Try.prog 29 #[.slice aoB nB capB, .slice aoL n cap] w (GaveB w (pre ++ blockB c)) := by
  have Hpl := Lib.hid hpl; have Hl := Lib.hid hl; have Hin := Lib.hid hin; have HcB := Lib.hid hcB; have Hc := Lib.hid hc
  obtain ⟨m, hm⟩ : ∃ m, m = minI c := ⟨_, rfl⟩
  have hmin64 : inI64 m := by rw [hm]; exact minTo_in c c.length (by omega) hin
  have HM := Lib.hid (min_any aoL n cap c w hl hn (by omega) hc)
  rw [← hm] at HM
  have Hm := Lib.hid hm; have Hmin := Lib.hid hmin64
  obtain ⟨mU, hmU⟩ : ∃ mU : Nat, (mU : Int) = m % 18446744073709551616 := ⟨(m % 18446744073709551616).toNat, by omega⟩
  have emU : IntKind.u64.wrap m = (mU : Int) := by rw [IntKind.wrap_u64]; omega
  have HmU := Lib.hid hmU
  obtain ⟨i0, hi, hz0, hz1, hz2⟩ := info_parts Try.infoU64
  clear hpl hl hin hcB hc hm hmin64 hmU
  go_enter Try.func29, Try.ntmps29
  go_wp2_with fail
  refine HM.out.mono ?_
  rintro e x ⟨rfl, rfl⟩
  go_wp2_with (at_make; refine wpList_make_g _ rfl _ _ 70 rfl w.heap.size 54 i0 (.int .u64 0) 1 Try.underlying70 hi hz0 hz1 _ _ n rfl rfl (by rw [hz2]; omega) (by unfold maxLen; omega) (Nat.le_refl _) ?_)
  intro x1 hown0 hgrow0
  have hb0 : Below w.heap.size w x1 := (Below.refl _ _).grown hgrow0 (Nat.le_refl _) (fun k h => by cases h)
  have hown1 : Hid (x1.ownsRow w.heap.size 54 1 (.slice (some ⟨w.heap.size, 0, none⟩) n n) n (u64v (ovTo m c n 0))) := Lib.hid (by
    rw [ovTo_zero, ← madeU64]; exact hown0)
  have Hb0 := Lib.hid hb0
  clear hown0 hgrow0 hb0
  go_wp2
  go_loopw [6, 18] (fun v i x => ∃ j mx : Nat, j ≤ n ∧ v = .int .u64 (mx : Nat) ∧ i = .int .i64 (j : Nat) ∧ Hid (mx = maxTo m c j) ∧ Hid (x.ownsRow w.heap.size 54 1 (.slice (some ⟨w.heap.size, 0, none⟩) n n) n (u64v (ovTo m c n j))) ∧ Hid (Below w.heap.size w x)) (fun _ i _ => n - (intOf i).toNat)
  case atStart => exact ⟨0, 0, Nat.zero_le _, rfl, rfl, Lib.hid (by simp [maxTo]), hown1, Hb0⟩
  case round =>
    clear hown1 Hb0
    obtain ⟨j, mx, hj, rfl, rfl, hmx, hown, hbel⟩ := hrel
    obtain ⟨y, hyy⟩ : ∃ x, x = wr := ⟨_, rfl⟩
    subst hyy
    by_cases hjn : j < n
    · obtain ⟨b, off, rfl, hb, cd⟩ := Hc.out j hjn
      obtain ⟨d, hd⟩ : ∃ d, d = c.getD j 0 := ⟨_, rfl⟩
      rw [i64c, ← hd] at cd
      have cd2 := (hbel.out.cell (by exact hb)).trans cd
      obtain ⟨dU, hdU⟩ : ∃ dU : Nat, (dU : Int) = d % 18446744073709551616 := ⟨(d % 18446744073709551616).toNat, by omega⟩
      have edU : IntKind.u64.wrap d = (dU : Int) := by rw [IntKind.wrap_u64]; omega
      obtain ⟨o, ho⟩ : ∃ o, o = overN m d := ⟨_, rfl⟩
      have eo : IntKind.u64.wrap ((dU : Int) - (mU : Int)) = (o : Int) := by
        have h1 := HmU.out
        rw [IntKind.wrap_u64, ho]; unfold overN; omega
      obtain ⟨mx2, hmx2⟩ : ∃ x, x = max mx o := ⟨_, rfl⟩
      have hmax := fun w' : World => run_max_int2 (P := Try.prog) (w := w') #[54, 54] 54 .u64 (mx : Int) (o : Int) (mx2 : Int) (by omega)
      have hs : Hid (mx2 = maxTo m c (j + 1)) := Lib.hid (by rw [maxTo_succ m c j (by rw [Hl.out]; exact hjn), ← hmx.out, ← hd, ← ho, hmx2])
      have hcell := cell_u64 hown.out j hjn
      have hfr := hown.out.frozenAt j
      have hst := stored_u64 hown.out j (x := (o : Int)) (y := o) rfl
      rw [ho, hd, ovTo_set m c n j Hl.out hjn, ← hd, ← ho] at hst
      have Hst := Lib.hid hst
      have Hbs := Lib.hid (show Below w.heap.size w (y.setCell ⟨w.heap.size, j, none⟩ (.int .u64 (o : Int))) from hbel.out.setCell (by exact Nat.le_refl _) _)
      have e1 : (j : Int) < (n : Int) := by omega
      have e2 : (0 : Int) ≤ (j : Int) := by omega
      clear hd cd hdU ho hmx2 hst hown hbel hb
      go_wp2
      go_roundw
      case rel => exact ⟨j + 1, mx2, by omega, rfl, by go_num, hs, Hst, Hbs⟩
      case measure => simp [intOf]; omega
    · have e1 : ¬ (j : Int) < (n : Int) := by omega
      obtain ⟨os, hos⟩ : ∃ os, os = overs c := ⟨_, rfl⟩
      obtain ⟨W, hW⟩ : ∃ W, W = blockW c := ⟨_, rfl⟩
      have hownF : y.ownsRow w.heap.size 54 1 (.slice (some ⟨w.heap.size, 0, none⟩) n n) n (u64v os) := by
        have h := hown.out
        rw [show j = n by omega, ovTo_all m c n Hl.out] at h
        rw [hos]; unfold overs; rw [← Hm.out]; exact h
      obtain ⟨aoU, capU, hsl, hcU, -⟩ := own_u64 hownF
      simp only [Value.slice.injEq, true_and] at hsl
      obtain ⟨rfl, rfl⟩ := hsl
      have hmxW : bitLen mx = W := by
        rw [hmx.out, show j = n by omega, hW]; unfold blockW; rw [← Hm.out, Hl.out]
      have hmx64 : mx < 18446744073709551616 := by rw [hmx.out]; exact maxTo_lt _ _ _
      have hWd := width_n mx y hmx64
      rw [hmxW] at hWd
      have hW64 : W ≤ 64 := by rw [hW]; exact blockW_le c
      have wW : IntKind.u8.wrap (W : Int) = (W : Int) := by rw [IntKind.wrap_u8]; omega
      have hol : Hid (os.length = n) := Lib.hid (by rw [hos]; unfold overs; rw [List.length_map, Hl.out])
      have ho64 : Hid (∀ x ∈ os, x < 18446744073709551616) := Lib.hid (fun x hx => by
        rw [hos] at hx
        obtain ⟨d, -, rfl⟩ := List.mem_map.1 hx
        exact overN_lt _ _)
      have hpk : Hid (packedAny os W = packed os W) := Lib.hid (by unfold packedAny; rw [if_pos (by omega), Int.toNat_natCast])
      have hfin : Hid (pre ++ blockB c = pre ++ (vputB (zigN m) ++ W :: packed os W)) := Lib.hid (by
        unfold blockB; rw [← Hm.out, ← hW, ← hos]; simp only [List.append_assoc, List.cons_append, List.nil_append])
      have hzz := zig_any m y Hmin.out
      have HWd := Lib.hid hWd; have HcU := Lib.hid hcU; have Hzz := Lib.hid hzz
      have hzlt := zigN_lt m Hmin.out
      clear hown hownF hcU hmxW hWd hos hW hzz hmx
      go_wp2_with fail
      refine HWd.out.mono ?_
      rintro e x2 ⟨rfl, rfl⟩
      go_wp2_with fail
      refine Hzz.out.mono ?_
      rintro e x2 ⟨rfl, rfl⟩
      go_wp2_with fail
      refine (vput_any aoB nB capB pre (zigN m) _ Hpl.out (HcB.out.at hbel.out) hzB (by omega) hzlt).mono ?_
      intro e x2 hg
      obtain ⟨aoV, nV, capV, rfl, HnV, -, -, hrV, hb2⟩ := hg.opened
      have hnV : nV ≤ nB + 10 := by
        have h1 := (vputB_length (zigN m)).2
        have h2 := HnV.out
        rw [List.length_append, Hpl.out] at h2; omega
      have hrA := (hrV.alloc (.cells #[.int .u8 (W : Int)] 5))
      have HrA := Lib.hid hrA; have Hb2 := Lib.hid hb2
      clear hg hrV hb2 hrA
      go_wp2_with (at_builtin; refine wpList_append_rowB rfl (.tmp 43) (.tmp 46) rfl rfl HrA.out rfl rfl (cells_byte x2 (W : Int) W rfl) (fun h => by cases h) (by omega) (by have := Hb2.out.size; simp; omega) ?_)
      intro ao3 cap3 x3 hr3 hb3 hs3
      have hb23 : Below y.heap.size y x3 := (balloc Hb2.out _).trans hb3
      have hcU3 := HcU.out.at hb23
      have Hr3 := Lib.hid hr3; have Hb23 := Lib.hid hb23
      clear hr3 hb3 hs3 hb23
      go_wp2_with fail
      refine (pack_any (some ⟨w.heap.size, 0, none⟩) n n (W : Nat) os _ hol.out (by omega) ho64.out hcU3).mono ?_
      rw [hpk.out]
      rintro e x4 ⟨v4, rfl, hf4⟩
      obtain ⟨aoK, capK, hv3, hlK, hcK, hzK⟩ := own_u8c hf4.1
      subst hv3
      have hb4 := hf4.2
      have hr4 := Hr3.out.below hb4
      obtain ⟨nK, hnK⟩ : ∃ nK, nK = (u8v (packed os W)).length := ⟨_, rfl⟩
      rw [← hnK] at hcK hzK hlK ⊢
      have hkl : nK ≤ 64 * 4000 := by
        rw [← hlK, packed_length, hol.out]; unfold packSize
        have : n * W ≤ 4000 * 64 := Nat.mul_le_mul hn2 hW64
        omega
      have HlK := Lib.hid hlK
      have Hb4 := Lib.hid (bmore Hb23.out hb4)
      clear hf4 hcU3 hnK hlK hb4
      go_wp2_with (at_builtin; refine wpList_append_rowB rfl (.tmp 47) (.tmp 50) rfl rfl hr4 rfl HlK.out hcK hzK (by omega) Hb4.out.size ?_)
      intro ao5 cap5 x5 hr5 hb5 hs5
      have hb5' : Below y.heap.size y x5 := Hb4.out.trans hb5
      have hg5 : Hid (GaveB w (pre ++ blockB c) (.returned (.slice ao5 (nV + 1 + nK) cap5)) x5) := Lib.hid (by
        rw [hfin.out]
        exact GaveB.of hr5.1.symm (hr5.base hbel.out.size) (bmore hbel.out hb5'))
      clear hr5 hb5 hs5 hb5' hr4 hcK
      go_wp2
      go_ret
      exact hg5.out
end Go.Proofs.Ytlnlcmdbhkpnhaa
