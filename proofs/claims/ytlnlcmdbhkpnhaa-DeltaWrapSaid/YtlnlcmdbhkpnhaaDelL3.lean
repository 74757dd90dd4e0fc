/- Chapter 12: the law DeltaWrap. -/
import Derived.Test.YtlnlcmdbhkpnhaaDelM
namespace Go.Proofs.Ytlnlcmdbhkpnhaa
open Go.RowKit
set_option linter.unusedVariables false

def wEnds : List Int := [0, 9223372036854775807, -9223372036854775808, 1, -1, 4611686018427387904, -4611686018427387904]
def wRow (l : List Int) : List Int := l.map (fun p => wEnds.getD (p % 7).toNat 0)
theorem wEnds_in (k : Nat) : inI64 (wEnds.getD k 0) := by
  rcases Nat.lt_or_ge k 7 with h | h
  · have : k = 0 ∨ k = 1 ∨ k = 2 ∨ k = 3 ∨ k = 4 ∨ k = 5 ∨ k = 6 := by omega
    rcases this with rfl | rfl | rfl | rfl | rfl | rfl | rfl <;> exact ⟨by decide, by decide⟩
  · rw [List.getD_eq_getElem?_getD, List.getElem?_eq_none h]; exact ⟨by decide, by decide⟩
theorem wRow_in (l : List Int) : ∀ x ∈ wRow l, inI64 x := by
  intro x hx
  obtain ⟨p, -, rfl⟩ := List.mem_map.1 hx
  exact wEnds_in _
theorem wRow_step (l : List Int) (j : Nat) (h : j < l.length) : (wRow l).take (j + 1) = (wRow l).take j ++ [wEnds.getD (l.getD j 0 % 7).toNat 0] := by
  rw [List.take_succ_eq_append_getElem (by simpa [wRow] using h)]
  simp [wRow, List.getElem?_eq_getElem h]
theorem i64v_snoc (l : List Int) (x : Int) : i64v l ++ (List.range 1).map (fun _ => Value.int .i64 x) = i64v (l ++ [x]) := by simp [i64v]
theorem wEnds_cells (x1 : World) : CellsAt (x1.alloc (.cells #[.int .i64 0, .int .i64 9223372036854775807, .int .i64 (-9223372036854775808), .int .i64 1, .int .i64 (-1), .int .i64 4611686018427387904, .int .i64 (-4611686018427387904)] 3)) (x1.alloc (.cells #[.int .i64 0, .int .i64 9223372036854775807, .int .i64 (-9223372036854775808), .int .i64 1, .int .i64 (-1), .int .i64 4611686018427387904, .int .i64 (-4611686018427387904)] 3)).heap.size (some ⟨x1.heap.size, 0, none⟩) 7 (i64c wEnds) :=
  cells_alloc x1 _ _ 7 (i64c wEnds) (fun i hi => by match i, hi with | 0, _ => rfl | 1, _ => rfl | 2, _ => rfl | 3, _ => rfl | 4, _ => rfl | 5, _ => rfl | 6, _ => rfl)
set_option maxHeartbeats 8000000 in
set_option maxRecDepth 100000 in
theorem deltaWrap_walk (a0 : Option Addr) (len0 cap0 : Nat) (z0 : List Int) (w : World) (w0 : IsRow .i64 w a0 len0 cap0 z0) :
    Calls Try.prog 8 #[.slice a0 len0 cap0] w fun e w' => e = .returned (.bool true) ∧ Below w.heap.size w w' := by
  obtain ⟨l, hl, hlin, hcL, -, hlen⟩ := w0.i64
  have Hl := Lib.hid hl; have Hlin := Lib.hid hlin; have HcL := Lib.hid hcL
  obtain ⟨n, hn⟩ : ∃ n, n = min len0 80 := ⟨_, rfl⟩
  have Hn := Lib.hid hn
  have hn80 : n ≤ 80 := by omega
  clear hl hlin hcL w0 hn
  go_enter Try.func8, Try.ntmps8
  go_wp2_with (go_at_call 12; refine (known_any _).mono ?_; rintro e x1 ⟨rfl, hx1⟩)
  have hcE := wEnds_cells x1
  have hby := balloc hx1 (.cells #[.int .i64 0, .int .i64 9223372036854775807, .int .i64 (-9223372036854775808), .int .i64 1, .int .i64 (-1), .int .i64 4611686018427387904, .int .i64 (-4611686018427387904)] 3)
  have HcE := Lib.hid hcE; have Hby := Lib.hid hby
  obtain ⟨y1, hy1⟩ : ∃ y, y = x1.alloc (.cells #[.int .i64 0, .int .i64 9223372036854775807, .int .i64 (-9223372036854775808), .int .i64 1, .int .i64 (-1), .int .i64 4611686018427387904, .int .i64 (-4611686018427387904)] 3) := ⟨_, rfl⟩
  rw [← hy1] at HcE Hby
  clear hx1 hcE hby
  rw [← hy1]
  clear hy1
  go_loopw [4, 5] (fun u i x => ∃ (j : Nat) (ao : Option Addr) (cap : Nat), j ≤ n ∧ u = .slice ao j cap ∧ i = .int .i64 (j : Nat) ∧ Hid (x.ownsRow y1.heap.size 3 1 (.slice ao j cap) j (i64v ((wRow l).take j))) ∧ Hid (Below y1.heap.size y1 x)) (fun _ i _ => n - (intOf i).toNat)
  case atStart => exact ⟨0, none, 0, Nat.zero_le _, rfl, rfl, Lib.hid (World.ownsRow_nil _ _ _ _), Lib.hid (Below.refl _ _)⟩
  case round =>
    obtain ⟨j, ao, cap, hj, rfl, rfl, hown1, Hb0⟩ := hrel
    obtain ⟨y, hyy⟩ : ∃ x, x = wr := ⟨_, rfl⟩
    subst hyy
    by_cases hjn : j < n
    · have hjL : j < l.length := by have h1 := Hl.out; have h2 := Hn.out; omega
      have e2 : (j : Int) < (len0 : Int) := by have h2 := Hn.out; omega
      have e3 : (j : Int) < 80 := by omega
      have e4 : (0 : Int) ≤ (j : Int) := by omega
      obtain ⟨bL, oL, rfl, -, cL⟩ := ((HcL.out.at Hby.out).at Hb0.out) j (by have h2 := Hn.out; omega)
      obtain ⟨p, hp⟩ : ∃ p, p = l.getD j 0 := ⟨_, rfl⟩
      rw [i64c, ← hp] at cL
      have hpin : Hid (-9223372036854775808 ≤ p ∧ p ≤ 9223372036854775807) := Lib.hid <| by rw [hp, List.getD_eq_getElem?_getD, List.getElem?_eq_getElem hjL]; exact Hlin.out _ (List.getElem_mem _)
      obtain ⟨q, hq, hq7⟩ := modN' p 7 (by decide)
      have Hq : Hid (p % 7 = (q : Int)) := Lib.hid hq
      obtain ⟨_, _, hE, -, cE⟩ := (HcE.out.at Hb0.out) q hq7
      cases hE
      rw [Nat.zero_add] at cE
      obtain ⟨v, hv⟩ : ∃ v, v = wEnds.getD q 0 := ⟨_, rfl⟩
      rw [i64c, ← hv] at cE
      have hrow : Hid ((wRow l).take (j + 1) = (wRow l).take j ++ [v]) := Lib.hid (by rw [wRow_step l j hjL, ← hp, Hq.out, Int.toNat_natCast, ← hv])
      have e5 : (0 : Int) ≤ (q : Int) := by omega
      have e6 : (q : Int) < 7 := by omega
      have hownA := own_below hown1.out ((Below.refl _ _).alloc (Nat.le_refl _) (.cells #[.int .i64 v] 3))
      have hsA : y1.heap.size ≤ (y.alloc (.cells #[.int .i64 v] 3)).heap.size := Nat.le_trans Hb0.out.size (by simp)
      clear hp hq hv
      go_wp2_with fail
      refine (within_any p 7 _ (by omega) (by omega) hpin.out.1 hpin.out.2).mono ?_
      rw [Hq.out]; rintro e x2 ⟨rfl, rfl⟩
      go_wp2_with (at_builtin; refine wpList_append_all1 sl_i64' rfl (.tmp 22) (.tmp 31) rfl rfl hownA rfl (cells_one y 3 (.int .i64 v)) (fun h => by cases h) (fun _ _ => rfl) (by unfold maxLen; omega) (by omega) hsA ?_)
      intro v' y2 ho2 hg2
      have hb2 : Below y1.heap.size y1 y2 := (Hb0.out.alloc Hb0.out.size _).grown hg2 hsA (fun k hk => (hownA.lt k hk).1)
      have ho3 : y2.ownsRow y1.heap.size 3 1 v' (j + 1) (i64v ((wRow l).take (j + 1))) := by
        rw [hrow.out, ← i64v_snoc]
        exact ho2
      obtain ⟨ao3, cap3, rfl, -⟩ := own_cells ho3
      have H3 := Lib.hid ho3; have Hb2 := Lib.hid hb2
      clear ho2 hg2 ho3 hb2 hownA hsA hown1
      go_wp2
      go_roundw
      case rel => exact ⟨j + 1, ao3, cap3, by omega, rfl, by go_num, H3, Hb2⟩
      case measure => simp [intOf]; omega
    · obtain rfl : j = n := by omega
      obtain ⟨row, hrow⟩ : ∃ r, r = (wRow l).take j := ⟨_, rfl⟩
      rw [← hrow] at hown1
      have hrl : Hid (row.length = j) := Lib.hid (by rw [hrow, List.length_take]; simp only [wRow, List.length_map]; have h1 := Hl.out; have h2 := Hn.out; omega)
      have hrin : Hid (∀ x ∈ row, inI64 x) := Lib.hid (fun x hx => by rw [hrow] at hx; exact wRow_in l x (List.mem_of_mem_take hx))
      obtain ⟨_, _, hsl, hcR, -⟩ := own_i64 hown1.out
      simp only [Value.slice.injEq, true_and] at hsl
      obtain ⟨rfl, rfl⟩ := hsl
      have HcR := Lib.hid hcR
      have hM : Hid (dReadM (dIntsB row) (j : Nat) = (row, (dIntsB row).length, 0)) := Lib.hid (by
        have h := dReadM_back row [] (by rw [hrl.out]; omega) hrin.out
        rwa [List.append_nil, hrl.out] at h)
      have Hy := Lib.hid (bmore Hby.out Hb0.out)
      have HI := Lib.hid (dInts_any ao j cap row y hrl.out (by omega) hcR hrin.out)
      have hbnd := dIntsB_bound row
      have hlt := Lib.hid (dIntsB_lt row hrin.out)
      rw [hrl.out] at hbnd
      obtain ⟨bs, hbs⟩ : ∃ b, b = dIntsB row := ⟨_, rfl⟩
      rw [← hbs] at hM HI hbnd hlt
      have HJ : Hid (∀ z : World, CellsAt z z.heap.size ao j (i64c row) → Calls Try.prog 14 #[.slice ao j cap] z (GaveB z bs)) := Lib.hid (fun z hz => by rw [hbs]; exact dInts_any ao j cap row z hrl.out (by omega) hz hrin.out)
      clear hcR hown1 Hb0 HcE hrow hbs
      have hcase : ¬ (j : Int) < (len0 : Int) ∨ ((j : Int) < (len0 : Int) ∧ ¬ (j : Int) < 80) := by have := Hn.out; omega
      rcases hcase with e2 | ⟨e2, e3⟩
      all_goals
        go_wp2_with fail
        refine HI.out.mono ?_
        intro e y2 hg
        obtain ⟨aoB, nB, capB, rfl, HnB, hcB, -, hrB, hbB⟩ := hg.opened
        have HD := Lib.hid (dRead_any aoB nB capB bs (j : Nat) y2 HnB.out hlt.out (by have := HnB.out; omega) hrB.cap hcB)
        rw [hM.out] at HD
        have HcR2 := Lib.hid (HcR.out.at hbB)
        have Hy2 := Lib.hid (bmore Hy.out hbB)
        clear hg hcB hrB hbB
        go_wp2_with fail
        refine HD.out.mono ?_
        intro e y3 hg
        obtain ⟨aoX, nX, capX, rfl, HnX, hcX, hbX⟩ := hg.opened
        obtain rfl : nX = j := by rw [← HnX.out, ← hrl.out]
        have HcR3 := HcR2.out.at hbX
        have Hy3 := Lib.hid (bmore Hy2.out hbX)
        have HE := Lib.hid (ints_eq aoX ao nX capX cap row y3 (by omega) hcX HcR3)
        have HcR4 := Lib.hid HcR3
        clear hg hcX HcR3 hbX
        go_wp2_with fail
        refine HE.out.mono ?_
        rintro e y4 ⟨rfl, m, rfl⟩
        have HK := Lib.hid (HJ.out (y3.drewN m) (HcR4.out.at (below_drewN (Below.refl _ _) m)))
        go_wp2_with fail
        refine HK.out.mono ?_
        intro e y5 hg
        obtain ⟨aoP, nP, capP, rfl, HnP, -, -, -, hbP⟩ := hg.opened
        have hPB : nP = bs.length := by rw [← HnP.out]
        have Hy5 := Lib.hid (bmore (below_drewN Hy3.out m) hbP)
        subst hPB
        clear hg hbP
        go_wp2
        go_ret
        exact ⟨rfl, Hy5.out⟩
end Go.Proofs.Ytlnlcmdbhkpnhaa
