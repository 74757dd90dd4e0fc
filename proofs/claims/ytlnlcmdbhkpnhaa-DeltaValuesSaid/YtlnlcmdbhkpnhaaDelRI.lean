/- Chapter 12: the walk over the document's Ints. -/
import Derived.Test.YtlnlcmdbhkpnhaaDelI
import Derived.Test.YtlnlcmdbhkpnhaaBunA
import Derived.Test.YtlnlcmdbhkpnhaaBunB
import Derived.BigQuiet
namespace Go.Proofs.Ytlnlcmdbhkpnhaa
open Go.RowKit
set_option linter.unusedVariables false

theorem bitLen_mono (a b : Nat) (h : a ≤ b) : bitLen a ≤ bitLen b := bitLen_le_of_lt a _ (Nat.lt_of_le_of_lt h (bitLen_lt b))
theorem bitLen_max (a b : Nat) : bitLen (max a b) = max (bitLen a) (bitLen b) := by
  rcases Nat.le_total a b with h | h
  · have := bitLen_mono a b h
    rw [show max a b = b by omega]; omega
  · have := bitLen_mono b a h
    rw [show max a b = a by omega]; omega
/-- The bytes when k blocks are written. -/
def rSoFar (l : List Int) (k : Nat) : List Nat := vputB (zigN (l.getD 0 0)) ++ blocksB (chunks (diffs l) k)
theorem rSoFar_succ (l : List Int) (k : Nat) : rSoFar l (k + 1) = rSoFar l k ++ blockB (chunk (diffs l) k) := by
  unfold rSoFar; rw [chunks_succ, blocksB_snoc, List.append_assoc]
theorem blockB_length' (c : List Int) (h : c.length ≤ 32) : (blockB c).length ≤ 300 := by
  rw [blockB_len c _ _ rfl rfl]
  have h1 := (vputB_length (zigN (minI c))).2
  have h4 := bitLen_le64 _ (maxTo_lt (minI c) c c.length)
  have h5 : c.length * bitLen (maxTo (minI c) c c.length) ≤ 32 * 64 := Nat.mul_le_mul h h4
  omega
theorem rSoFar_length (l : List Int) (k : Nat) : (rSoFar l k).length ≤ 10 + 300 * k := by
  induction k with
  | zero =>
    have h1 := (vputB_length (zigN (l.getD 0 0))).2
    simp only [rSoFar, List.length_append, chunks, blocksB, List.range_zero, List.map_nil, List.flatten_nil, List.length_nil]; omega
  | succ k ih =>
    have := blockB_length' (chunk (diffs l) k) (by rw [chunk_length']; omega)
    rw [rSoFar_succ, List.length_append]; omega

set_option maxHeartbeats 8000000 in
set_option maxRecDepth 100000 in
theorem rdInts_any (ao : Option Addr) (n cap : Nat) (l : List Int) (w : World) (hl : l.length = n) (hn : n ≤ 4000) (hc : CellsAt w w.heap.size ao n (i64c l)) (hin : ∀ x ∈ l, inI64 x) :
    Calls Try.prog 18 #[.slice ao n cap] w (GaveB w (dIntsB l)) := by
  have Hl := Lib.hid hl; have Hin := Lib.hid hin; have Hc := Lib.hid hc
  by_cases hn0 : n = 0
  · subst hn0
    clear hl hc hin
    go_enter Try.func18, Try.ntmps18
    go_wp2
    go_ret
    obtain rfl : l = [] := List.length_eq_zero_iff.1 Hl.out
    exact ⟨none, 0, rfl, CellsAt.zero, fun _ => rfl, ⟨rfl, .inl ⟨rfl, rfl⟩⟩, Below.refl _ _⟩
  · obtain ⟨b0, off0, rfl, hb0, c0⟩ := hc.first (by omega)
    obtain ⟨v0, hv0⟩ : ∃ x, x = l.getD 0 0 := ⟨_, rfl⟩
    rw [i64c, ← hv0] at c0
    have e1 : (n : Int) ≠ 0 := by omega
    have e2 : (0 : Int) < (n : Int) := by omega
    have hv64 : Hid (inI64 v0) := Lib.hid (by
      rw [hv0, List.getD_eq_getElem?_getD, List.getElem?_eq_getElem (by omega)]; exact hin _ (List.getElem_mem _))
    have Hv0 := Lib.hid hv0
    have hdin : Hid (∀ y ∈ diffs l, inI64 y) := Lib.hid (diffs_in l)
    clear hl hc hin hv0 hb0
    go_enter Try.func18, Try.ntmps18
    go_wp2_with fail
    refine (rzig_any v0 _ hv64.out).mono ?_
    rintro e x ⟨rfl, rfl⟩
    go_wp2_with fail
    refine (rvput_any none 0 0 [] (zigN v0) _ rfl CellsAt.zero (fun _ => rfl) (by omega) (zigN_lt _ hv64.out)).mono ?_
    intro e x hg
    obtain ⟨aoP, nP, capP, rfl, HnP, -, -, hrP, hbP⟩ := hg.opened
    have hrP2 : Hid (RowB x w.heap.size aoP nP capP (rSoFar l 0)) := Lib.hid (by
      have h : ([] ++ vputB (zigN v0)) = rSoFar l 0 := by unfold rSoFar chunks blocksB; rw [← Hv0.out]; simp
      rw [← h]; exact hrP)
    have HbP := Lib.hid hbP
    clear hg hrP hbP HnP
    go_wp2
    go_loopw [3, 4] (fun v i x => ∃ (k aT nB capB : Nat) (aoB : Option Addr), v = .slice aoB nB capB ∧ i = .int .i64 (aT : Nat) ∧ aT = 1 + 32 * k ∧ aT ≤ n + 31 ∧ Hid (RowB x w.heap.size aoB nB capB (rSoFar l k)) ∧ Hid (Below w.heap.size w x)) (fun _ i _ => n - (intOf i).toNat)
    case atStart => exact ⟨0, 1, nP, capP, aoP, rfl, rfl, rfl, by omega, hrP2, HbP⟩
    case round =>
      clear hrP2 HbP
      obtain ⟨k, aT, nB, capB, aoB, rfl, rfl, haT, haTn, hrow, hbel⟩ := hrel
      obtain ⟨y, hyy⟩ : ∃ x, x = wr := ⟨_, rfl⟩
      subst hyy
      have HaT := Lib.hid haT
      by_cases hlt : aT < n
      · have e3 : (aT : Int) < (n : Int) := by omega
        have e4 : (0 : Int) ≤ (aT : Int) := by omega
        obtain ⟨E, hE⟩ : ∃ E, E = min (aT + 32) n := ⟨_, rfl⟩
        have hmin1 := fun w' : World => run_min_int2' (P := Try.prog) (w := w') #[3, 3] 3 .i64 ((aT : Int) + 32) (n : Int) (E : Int) (by omega)
        obtain ⟨c, hcd⟩ : ∃ c, c = chunk (diffs l) k := ⟨_, rfl⟩
        have hcl : Hid (c.length = E - aT) := Lib.hid (by rw [hcd, chunk_length', diffs_length, Hl.out]; omega)
        have hcg : Hid (∀ j, aT + j < E → c.getD j 0 = w64 (l.getD (aT + j) 0 - l.getD (aT + j - 1) 0)) := Lib.hid (fun j hj => by
          rw [hcd, chunk_getD' _ _ _ (by omega), diffs_at _ _ (by rw [Hl.out]; omega), show 32 * k + j + 1 = aT + j by omega, show 32 * k + j = aT + j - 1 by omega])
        have hEb : Hid (E ≤ n ∧ aT < E ∧ E ≤ aT + 32) := Lib.hid (by omega)
        have Hcd := Lib.hid hcd
        obtain ⟨aP, haP⟩ : ∃ p, p = aT - 1 := ⟨_, rfl⟩
        have eaP : (aT : Int) - 1 = (aP : Int) := by omega
        have e5 : (0 : Int) ≤ (aP : Int) := by omega
        have e6 : (aP : Int) < (n : Int) := by omega
        obtain ⟨_, _, e9, hbb, ca⟩ := Hc.out aT hlt
        cases e9
        obtain ⟨_, _, e9, -, cp⟩ := Hc.out aP (by omega)
        cases e9
        obtain ⟨va, hva⟩ : ∃ x, x = l.getD aT 0 := ⟨_, rfl⟩
        obtain ⟨vp, hvp⟩ : ∃ x, x = l.getD aP 0 := ⟨_, rfl⟩
        rw [i64c, ← hva] at ca
        rw [i64c, ← hvp] at cp
        have ca' := (hbel.out.cell (by exact hbb)).trans ca
        have cp' := (hbel.out.cell (by exact hbb)).trans cp
        obtain ⟨m0, hm0⟩ : ∃ m, m = c.getD 0 0 := ⟨_, rfl⟩
        have hw0 : IntKind.i64.wrap (va - vp) = m0 := by
          rw [w64_wrap, hm0, hcg.out 0 (by omega), hva, hvp, Nat.add_zero, haP]
        have Hm0 : Hid (m0 = minTo c 0) := Lib.hid (by rw [hm0]; simp [minTo])
        clear hE hcd haP hva hvp ca cp hm0 haT
        go_wp2
        go_quiet (fail)
        go_wp2
        go_loopw [6, 7] (fun u i z => ∃ (iJ q : Nat) (mj : Int), aT ≤ iJ ∧ iJ ≤ E ∧ u = .int .i64 mj ∧ i = .int .i64 (iJ : Nat) ∧ Hid (mj = minTo c (iJ - aT)) ∧ z = y.drewN q) (fun _ i _ => E - (intOf i).toNat)
        case atStart => exact ⟨aT, nq, m0, Nat.le_refl _, by have := hEb.out; omega, rfl, rfl, Lib.hid (by rw [Nat.sub_self]; exact Hm0.out), rfl⟩
        case round =>
          obtain ⟨iJ, q, mj, hiJ1, hiJ2, rfl, rfl, hmj, rfl⟩ := hrel
          clear ca' cp' e5 e6 eaP hw0 Hm0 e3 e4
          by_cases hlt2 : iJ < E
          · have e3 : (iJ : Int) < (E : Int) := by omega
            have e4 : (0 : Int) ≤ (iJ : Int) := by omega
            have e4n : (iJ : Int) < (n : Int) := by have := hEb.out; omega
            obtain ⟨iP, hiP⟩ : ∃ p, p = iJ - 1 := ⟨_, rfl⟩
            have hiJ0 : 1 ≤ iJ := by have := HaT.out; omega
            have eiP : (iJ : Int) - 1 = (iP : Int) := by omega
            have e5 : (0 : Int) ≤ (iP : Int) := by omega
            have e6 : (iP : Int) < (n : Int) := by have := hEb.out; omega
            obtain ⟨_, _, e9, hbb2, ca⟩ := Hc.out iJ (by have := hEb.out; omega)
            cases e9
            obtain ⟨_, _, e9, -, cp⟩ := Hc.out iP (by have := hEb.out; omega)
            cases e9
            obtain ⟨ua, hua⟩ : ∃ x, x = l.getD iJ 0 := ⟨_, rfl⟩
            obtain ⟨up, hup⟩ : ∃ x, x = l.getD iP 0 := ⟨_, rfl⟩
            rw [i64c, ← hua] at ca
            rw [i64c, ← hup] at cp
            have ca' := (hbel.out.cell (by exact hbb2)).trans ca
            have cp' := (hbel.out.cell (by exact hbb2)).trans cp
            obtain ⟨d, hd⟩ : ∃ d, d = c.getD (iJ - aT) 0 := ⟨_, rfl⟩
            have hwd : IntKind.i64.wrap (ua - up) = d := by
              rw [w64_wrap, hd, hcg.out (iJ - aT) (by omega), hua, hup, show aT + (iJ - aT) = iJ by omega, hiP]
            obtain ⟨m2, hm2⟩ : ∃ m, m = min mj d := ⟨_, rfl⟩
            have hmin2 := fun w' : World => run_min_int2' (P := Try.prog) (w := w') #[3, 3] 3 .i64 mj d m2 hm2
            have hs : Hid (m2 = minTo c (iJ + 1 - aT)) := Lib.hid (by rw [show iJ + 1 - aT = iJ - aT + 1 by omega, minTo_succ _ _ (by rw [hcl.out]; omega), ← hmj.out, ← hd, hm2])
            clear hiP hua hup hd hm2 ca cp hbb2
            go_wp2
            go_quiet (fail)
            go_wp2
            go_roundw
            case rel => exact ⟨iJ + 1, q + nq, m2, by omega, by omega, rfl, by go_num, hs, rfl⟩
            case measure => simp [intOf]; omega
          · have e3 : ¬ (iJ : Int) < (E : Int) := by omega
            have hm : Hid (mj = minI c) := Lib.hid (by rw [hmj.out]; unfold minI; rw [hcl.out, show iJ = E by omega])
            clear hlt2 hmj hiJ1 hiJ2
            obtain ⟨y0, hy0⟩ : ∃ y0, y0 = y.drewN q := ⟨_, rfl⟩
            have HB0 : Hid (Below w.heap.size w y0) := Lib.hid (by rw [hy0]; exact below_drewN hbel.out q)
            have hrow0 : Hid (RowB y0 w.heap.size aoB nB capB (rSoFar l k)) := Lib.hid (hrow.out.below (by rw [hy0]; exact below_drewN (Below.refl _ _) q))
            rw [← hy0]
            clear hy0 hbel hrow
            have hm64 : Hid (inI64 mj) := Lib.hid (by
              rw [hm.out]
              exact minTo_in c _ (by rw [hcl.out]; have := hEb.out; omega) (fun x hx => by rw [Hcd.out] at hx; exact hdin.out x (List.mem_of_mem_drop (List.mem_of_mem_take hx))))
            obtain ⟨mU, hmU⟩ : ∃ mU : Nat, (mU : Int) = mj % 18446744073709551616 := ⟨(mj % 18446744073709551616).toNat, by omega⟩
            have emU : IntKind.u64.wrap mj = (mU : Int) := by rw [IntKind.wrap_u64]; omega
            have HmU := Lib.hid hmU
            obtain ⟨os, hos⟩ : ∃ os, os = c.map (overN mj) := ⟨_, rfl⟩
            have Hos := Lib.hid hos
            clear hmU hos
            go_wp2
            go_loopw [8, 9, 10] (fun u g i z => ∃ (iJ j wj capG : Nat) (aoG : Option Addr), aT + j ≤ iJ ∧ iJ ≤ aT + j ∧ iJ ≤ E ∧ wj ≤ 64 ∧ u = .int .i64 (wj : Nat) ∧ g = .slice aoG j capG ∧ i = .int .i64 (iJ : Nat) ∧ Hid (wj = bitLen (maxTo mj c j)) ∧ Hid (z.ownsRow y0.heap.size 54 1 (.slice aoG j capG) j (u64v (os.take j))) ∧ Hid (Below y0.heap.size y0 z)) (fun _ _ i _ => E - (intOf i).toNat)
            case atStart => exact ⟨aT, 0, 0, 0, none, Nat.le_refl _, Nat.le_refl _, by have := hEb.out; omega, by decide, rfl, rfl, rfl, Lib.hid (by simp [maxTo, bitLen_zero]), Lib.hid (World.ownsRow_nil _ _ _ _), Lib.hid (Below.refl _ _)⟩
            case round =>
              obtain ⟨iJ, j, wj, capG, aoG, hiJ1, hiJ2, hiJE, hwj, rfl, rfl, rfl, hwB, hownG, hBz⟩ := hrel
              obtain ⟨z, hzz⟩ : ∃ x, x = wr := ⟨_, rfl⟩
              subst hzz
              clear e3
              by_cases hlt2 : iJ < E
              · have e3 : (iJ : Int) < (E : Int) := by omega
                have e4 : (0 : Int) ≤ (iJ : Int) := by omega
                have e4n : (iJ : Int) < (n : Int) := by have := hEb.out; omega
                obtain ⟨iP, hiP⟩ : ∃ p, p = iJ - 1 := ⟨_, rfl⟩
                have hiJ0 : 1 ≤ iJ := by have := HaT.out; omega
                have eiP : (iJ : Int) - 1 = (iP : Int) := by omega
                have e5 : (0 : Int) ≤ (iP : Int) := by omega
                have e6 : (iP : Int) < (n : Int) := by have := hEb.out; omega
                obtain ⟨_, _, e9, hbb2, ca⟩ := Hc.out iJ (by have := hEb.out; omega)
                cases e9
                obtain ⟨_, _, e9, -, cp⟩ := Hc.out iP (by have := hEb.out; omega)
                cases e9
                obtain ⟨ua, hua⟩ : ∃ x, x = l.getD iJ 0 := ⟨_, rfl⟩
                obtain ⟨up, hup⟩ : ∃ x, x = l.getD iP 0 := ⟨_, rfl⟩
                rw [i64c, ← hua] at ca
                rw [i64c, ← hup] at cp
                have ca' := ((bmore HB0.out hBz.out).cell (by exact hbb2)).trans ca
                have cp' := ((bmore HB0.out hBz.out).cell (by exact hbb2)).trans cp
                obtain ⟨d, hd⟩ : ∃ d, d = c.getD j 0 := ⟨_, rfl⟩
                have hwd : IntKind.i64.wrap (ua - up) = d := by
                  rw [w64_wrap, hd, hcg.out j (by omega), hua, hup, show aT + j = iJ by omega, hiP]
                obtain ⟨dU, hdU⟩ : ∃ dU : Nat, (dU : Int) = d % 18446744073709551616 := ⟨(d % 18446744073709551616).toNat, by omega⟩
                have edU : IntKind.u64.wrap d = (dU : Int) := by rw [IntKind.wrap_u64]; omega
                obtain ⟨o, ho⟩ : ∃ o, o = overN mj d := ⟨_, rfl⟩
                have ho64 : o < 18446744073709551616 := by rw [ho]; exact overN_lt _ _
                have eo : IntKind.u64.wrap ((dU : Int) - (mU : Int)) = (o : Int) := by
                  have h1 := HmU.out
                  rw [IntKind.wrap_u64, ho]; unfold overN; omega
                obtain ⟨w2, hw2⟩ : ∃ x, x = max wj (bitLen o) := ⟨_, rfl⟩
                have hb64 : bitLen o ≤ 64 := bitLen_le64 o ho64
                have hw264 : w2 ≤ 64 := by omega
                obtain ⟨bo, hbo⟩ : ∃ x, x = bitLen o := ⟨_, rfl⟩
                have hmax := fun w' : World => run_max_int2 (P := Try.prog) (w := w') #[3, 3] 3 .i64 (wj : Int) (bo : Int) (w2 : Int) (by rw [hw2, ← hbo]; omega)
                have hs : Hid (w2 = bitLen (maxTo mj c (j + 1))) := Lib.hid (by rw [maxTo_succ mj c j (by rw [hcl.out]; omega), bitLen_max, ← hwB.out, ← hd, ← ho, hw2])
                have htk : Hid (u64v (os.take (j + 1)) = u64v (os.take j) ++ [Value.int .u64 (o : Nat)]) := Lib.hid (by
                  rw [List.take_succ_eq_append_getElem (by rw [Hos.out, List.length_map, hcl.out]; omega), ← u64v_append]
                  simp only [u64v, List.map_cons, List.map_nil, Hos.out, List.getElem_map]
                  rw [ho, hd, List.getD_eq_getElem?_getD, List.getElem?_eq_getElem (by rw [hcl.out]; omega)]
                  rfl)
                have HWd := Lib.hid (fun w' : World => rwidth_n o w' ho64)
                rw [← hbo] at HWd
                clear hiP hua hup hd hdU ho hw2 hbo ca cp hbb2
                go_wp2
                go_quiet (fail)
                go_wp2_with fail
                refine (HWd.out _).mono ?_
                rintro e x2 ⟨rfl, rfl⟩
                have hbA := balloc (below_drewN (Below.refl z.heap.size z) nq) (.cells #[.int .u64 (o : Int)] 54)
                have hownA := own_below hownG.out hbA
                have hsA : y0.heap.size ≤ ((z.drewN nq).alloc (.cells #[.int .u64 (o : Int)] 54)).heap.size := Nat.le_trans hBz.out.size hbA.size
                have hj32 : j ≤ 32 := by have := hEb.out; omega
                go_wp2_with (at_builtin; refine wpList_append_all1 sl_u64 rfl (.tmp 83) (.tmp 85) rfl rfl hownA rfl (cells_one (z.drewN nq) 54 (.int .u64 (o : Int))) (fun h => by cases h) (fun _ _ => rfl) (by unfold maxLen; omega) (by omega) hsA ?_)
                intro v' y2 ho2 hg2
                have hb2 : Below y0.heap.size y0 y2 := (bmore hBz.out hbA).grown hg2 hsA (fun k hk => (hownA.lt k hk).1)
                rw [← htk.out] at ho2
                obtain ⟨ao3, cap3, rfl, -⟩ := own_cells ho2
                have H3 := Lib.hid ho2; have Hb2 := Lib.hid hb2
                clear ho2 hg2 hb2 hownA hsA hbA hownG
                go_wp2
                go_roundw
                case rel => exact ⟨iJ + 1, j + 1, w2, cap3, ao3, by omega, by omega, by omega, hw264, rfl, rfl, by go_num, hs, H3, Hb2⟩
                case measure => simp [intOf]; omega
              · have e3 : ¬ (iJ : Int) < (E : Int) := by omega
                have hjc : j = E - aT := by have := hEb.out; omega
                have hj32 : j ≤ 32 := by have := hEb.out; omega
                have hos : os = overs c := by rw [Hos.out, hm.out]; rfl
                have hol : Hid (os.length = j) := Lib.hid (by rw [Hos.out, List.length_map, hcl.out, hjc])
                have ho64 : Hid (∀ x ∈ os, x < 18446744073709551616) := Lib.hid (fun x hx => by
                  rw [hos] at hx
                  obtain ⟨d, -, rfl⟩ := List.mem_map.1 hx
                  exact overN_lt _ _)
                have hW : Hid (blockW c = wj) := Lib.hid (by unfold blockW; rw [hwB.out, ← hm.out, hcl.out, hjc])
                have hpk : Hid (packedAny os wj = packed os wj) := Lib.hid (by unfold packedAny; rw [if_pos (by omega), Int.toNat_natCast])
                have hfin : Hid (rSoFar l (k + 1) = rSoFar l k ++ (vputB (zigN mj) ++ wj :: packed os wj)) := Lib.hid (by
                  rw [rSoFar_succ, ← Hcd.out]; unfold blockB; rw [hW.out, ← hos, ← hm.out]; simp only [List.append_assoc, List.cons_append, List.nil_append])
                have hnB : nB ≤ 10 + 300 * k := by rw [← hrow0.out.1]; exact rSoFar_length l k
                have hk4 : k ≤ 130 := by have := HaT.out; have := hEb.out; omega
                have hownG2 : z.ownsRow y0.heap.size 54 1 (.slice aoG j capG) j (u64v os) := by have h := hownG.out; rwa [List.take_of_length_le (by rw [hol.out]; omega)] at h
                obtain ⟨_, _, hsl, hcU, -⟩ := own_u64 hownG2
                simp only [Value.slice.injEq, true_and] at hsl
                obtain ⟨rfl, rfl⟩ := hsl
                have hzn : aoG = none → j = 0 := by
                  intro e; subst e
                  rcases hownG2.2 with ⟨h, -⟩ | ⟨_, _, _, h, -⟩ <;> cases h; rfl
                have HcU := Lib.hid hcU
                have hrZ := hrow0.out.below hBz.out
                have wW : IntKind.u8.wrap (wj : Int) = (wj : Int) := by rw [IntKind.wrap_u8]; omega
                have HPut := Lib.hid (rvput_any aoB nB capB (rSoFar l k) (zigN mj) z hrZ.1 hrZ.cells hrZ.nil0 (by omega) (zigN_lt _ hm64.out))
                have hzlt := zigN_lt mj hm64.out
                have HBZ := Lib.hid (bmore HB0.out hBz.out)
                have HrZ1 := Lib.hid hrZ.1
                have HsZ := Lib.hid hBz.out.size
                clear hwB hownG hBz hjc hos hownG2 hcU hrZ hrow0
                go_wp2_with fail
                refine (rzig_any mj _ hm64.out).mono ?_
                rintro e x2 ⟨rfl, rfl⟩
                go_wp2_with fail
                refine HPut.out.mono ?_
                intro e x2 hg
                obtain ⟨aoV, nV, capV, rfl, HnV, -, -, hrV, hb2⟩ := hg.opened
                have hnV : nV ≤ nB + 10 := by
                  have h1 := (vputB_length (zigN mj)).2
                  have h2 := HnV.out
                  rw [List.length_append, HrZ1.out] at h2; omega
                have HrA := Lib.hid (hrV.alloc (.cells #[.int .u8 (wj : Int)] 5)); have Hb2 := Lib.hid hb2
                clear hg hrV hb2
                go_wp2_with (at_builtin; refine wpList_append_rowB rfl (.tmp 90) (.tmp 93) rfl rfl HrA.out rfl rfl (cells_byte x2 (wj : Int) wj rfl) (fun h => by cases h) (by omega) (by have := Hb2.out.size; simp; omega) ?_)
                intro ao3 cap3 x3 hr3 hb3 hs3
                have hb23 : Below z.heap.size z x3 := (balloc Hb2.out _).trans hb3
                have Hr3 := Lib.hid hr3; have Hb23 := Lib.hid hb23
                have HPk := Lib.hid (rpack_any aoG j capG (wj : Nat) os x3 hol.out (by omega) ho64.out (HcU.out.at hb23))
                rw [hpk.out] at HPk
                clear hr3 hb3 hs3 hb23
                go_wp2_with fail
                refine HPk.out.mono ?_
                rintro e x4 ⟨v4, rfl, hf4⟩
                obtain ⟨aoK, capK, hv3, hlK, hcK, hzK⟩ := own_u8c hf4.1
                subst hv3
                have hb4 := hf4.2
                have hr4 := Hr3.out.below hb4
                obtain ⟨nK, hnK⟩ : ∃ nK, nK = (u8v (packed os wj)).length := ⟨_, rfl⟩
                rw [← hnK] at hcK hzK hlK ⊢
                have hkl : nK ≤ 64 * 32 := by
                  rw [← hlK, packed_length, hol.out]; unfold packSize
                  have : j * wj ≤ 32 * 64 := Nat.mul_le_mul hj32 hwj
                  omega
                have HlK := Lib.hid hlK
                have Hb4 := Lib.hid (bmore Hb23.out hb4)
                clear hf4 hnK hlK hb4
                go_wp2_with (at_builtin; refine wpList_append_rowB rfl (.tmp 95) (.tmp 98) rfl rfl hr4 rfl HlK.out hcK hzK (by omega) Hb4.out.size ?_)
                intro ao5 cap5 x5 hr5 hb5 hs5
                rw [← hfin.out] at hr5
                have HB5 := Lib.hid (bmore HBZ.out (Hb4.out.trans hb5))
                have Hr5 := Lib.hid (hr5.base HBZ.out.size)
                clear hr5 hb5 hs5 hr4 hcK
                go_wp2
                exact ⟨⟨k + 1, aT + 32, _, _, ao5, rfl, by go_num, by have := HaT.out; omega, by have := hEb.out; omega, Hr5, HB5⟩, by have := hEb.out; simp [intOf]; omega⟩
      · have e3 : ¬ (aT : Int) < (n : Int) := by omega
        have hk : Hid (k = nBlocks (diffs l)) := Lib.hid (by unfold nBlocks; rw [diffs_length, Hl.out]; omega)
        clear haT
        go_wp2
        go_ret
        have h : rSoFar l k = dIntsB l := by
          unfold rSoFar dIntsB
          rw [if_neg (fun e => by have := Hl.out; rw [e] at this; exact hn0 this.symm), hk.out]
        rw [← h]
        exact GaveB.of hrow.out.1.symm hrow.out hbel.out
end Go.Proofs.Ytlnlcmdbhkpnhaa
