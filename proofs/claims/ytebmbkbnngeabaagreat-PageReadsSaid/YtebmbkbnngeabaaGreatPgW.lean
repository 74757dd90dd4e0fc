/- Chapter 5's document: the walk over walk and Parents. -/
import Derived.Test.YtebmbkbnngeabaaGreatBunC
import Derived.Test.YtebmbkbnngeabaaGreatBunB
import Derived.Deep.CutBlock
set_option linter.unusedSimpArgs false
namespace Go.Proofs.YtebmbkbnngeabaaGreat
open Go.RowKit
set_option linter.unusedVariables false
def W4 (x : World) (base np nd mo ml : Nat) (pl dl ol ll : List Int) (p d o l : Value) : Prop :=
 OwnRs x base [⟨3, 1, p, np, i64v pl⟩, ⟨3, 1, d, nd, i64v dl⟩, ⟨3, 1, o, mo, i64v ol⟩, ⟨3, 1, l, ml, i64v ll⟩]
section
variable {x y : World} {base np nd mo ml : Nat} {pl dl ol ll : List Int} {p d o l : Value}
theorem W4.rp (h : W4 x base np nd mo ml pl dl ol ll p d o l) : x.ownsRow base 3 1 p np (i64v pl) := OwnRs.at h (i := 0) (by simp)
theorem W4.rd (h : W4 x base np nd mo ml pl dl ol ll p d o l) : x.ownsRow base 3 1 d nd (i64v dl) := OwnRs.at h (i := 1) (by simp)
theorem W4.ro (h : W4 x base np nd mo ml pl dl ol ll p d o l) : x.ownsRow base 3 1 o mo (i64v ol) := OwnRs.at h (i := 2) (by simp)
theorem W4.rl (h : W4 x base np nd mo ml pl dl ol ll p d o l) : x.ownsRow base 3 1 l ml (i64v ll) := OwnRs.at h (i := 3) (by simp)
theorem W4.below (h : W4 x base np nd mo ml pl dl ol ll p d o l) (hb : Below x.heap.size x y) : W4 y base np nd mo ml pl dl ol ll p d o l := OwnRs.below h hb
theorem W4.start (x : World) (base : Nat) : W4 x base 0 0 0 0 [] [] [] [] (.slice none 0 0) (.slice none 0 0) (.slice none 0 0) (.slice none 0 0) := by
 refine ⟨fun r hr => ?_, ?_⟩
 · simp only [List.mem_cons, List.not_mem_nil, or_false] at hr
   rcases hr with rfl | rfl | rfl | rfl <;> exact World.ownsRow_nil _ _ _ _
 · simp [apart_nil]
theorem W4.front {g1 g2 m c1 c2 : Nat} (h : W4 x base np nd (m + 1) (m + 1) pl dl ol ll p d (.slice (some ⟨g1, 0, none⟩) (m + 1) c1) (.slice (some ⟨g2, 0, none⟩) (m + 1) c2)) :
 W4 x base np nd m m pl dl (ol.take m) (ll.take m) p d (.slice (some ⟨g1, 0, none⟩) m c1) (.slice (some ⟨g2, 0, none⟩) m c2) := by
 have e : ∀ l : List Int, (i64v l).take m = i64v (l.take m) := fun l => by simp [i64v, List.map_take]
 have hg : x.grownBy x none := ⟨rfl, rfl, rfl, Nat.le_refl _, fun _ _ _ => rfl⟩
 have h1 := OwnRs.upd h (i := 2) (w' := x) (by simp) ⟨3, 1, .slice (some ⟨g1, 0, none⟩) m c1, m, i64v (ol.take m)⟩ ⟨rfl, rfl, rfl, Nat.le_refl _, fun _ _ _ => rfl⟩ (by rw [← e]; exact own_front (W4.ro h) (Nat.le_succ m)) (.inl rfl)
 exact OwnRs.upd h1 (i := 3) (w' := x) (by simp) ⟨3, 1, .slice (some ⟨g2, 0, none⟩) m c2, m, i64v (ll.take m)⟩ ⟨rfl, rfl, rfl, Nat.le_refl _, fun _ _ _ => rfl⟩ (by rw [← e]; exact own_front (W4.rl h) (Nat.le_succ m)) (.inl rfl)
end
theorem W4.setP {x y : World} {base np nd mo ml np' : Nat} {pl dl ol ll pl' : List Int} {p d o l p' : Value} (h : W4 x base np nd mo ml pl dl ol ll p d o l) (ho : y.ownsRow base 3 1 p' np' (i64v pl')) (hg : x.grownBy y p.ownBlock) (hs : SameOrNew x p p') : W4 y base np' nd mo ml pl' dl ol ll p' d o l :=
 OwnRs.upd h (i := 0) (by simp) ⟨3, 1, p', np', i64v pl'⟩ hg ho hs
theorem W4.setD {x y : World} {base np nd mo ml np' : Nat} {pl dl ol ll pl' : List Int} {p d o l p' : Value} (h : W4 x base np nd mo ml pl dl ol ll p d o l) (ho : y.ownsRow base 3 1 p' np' (i64v pl')) (hg : x.grownBy y d.ownBlock) (hs : SameOrNew x d p') : W4 y base np np' mo ml pl pl' ol ll p p' o l :=
 OwnRs.upd h (i := 1) (by simp) ⟨3, 1, p', np', i64v pl'⟩ hg ho hs
theorem W4.setO {x y : World} {base np nd mo ml np' : Nat} {pl dl ol ll pl' : List Int} {p d o l p' : Value} (h : W4 x base np nd mo ml pl dl ol ll p d o l) (ho : y.ownsRow base 3 1 p' np' (i64v pl')) (hg : x.grownBy y o.ownBlock) (hs : SameOrNew x o p') : W4 y base np nd np' ml pl dl pl' ll p d p' l :=
 OwnRs.upd h (i := 2) (by simp) ⟨3, 1, p', np', i64v pl'⟩ hg ho hs
theorem W4.setL {x y : World} {base np nd mo ml np' : Nat} {pl dl ol ll pl' : List Int} {p d o l p' : Value} (h : W4 x base np nd mo ml pl dl ol ll p d o l) (ho : y.ownsRow base 3 1 p' np' (i64v pl')) (hg : x.grownBy y l.ownBlock) (hs : SameOrNew x l p') : W4 y base np nd mo np' pl dl ol pl' p d o p' :=
 OwnRs.upd h (i := 3) (by simp) ⟨3, 1, p', np', i64v pl'⟩ hg ho hs
theorem i64v_set (l : List Int) (j : Nat) (v : Int) : (i64v l).set j (.int .i64 v) = i64v (l.set j v) := by simp [i64v, List.map_set]
def sLen : Value → Nat
 | .slice _ n _ => n
 | _ => 0
set_option maxHeartbeats 8000000 in
set_option maxRecDepth 100000 in
theorem walk5_any (F : List Fd) (P dep : Nat → Nat) (anc : Nat → Nat → Nat) (hS : FinS F P dep anc) (ao : Option Addr) (n cap : Nat) (w : World) (hl : F.length = n) (hc : CellsAt w w.heap.size ao (n * 4) (wc fdV F)) :
 Calls Tryz.prog 73 #[.slice ao n cap] w (fun e w' => ∃ aoP capP v, e = .returned (.tuple #[.slice aoP n capP, v]) ∧ CellsAt w' w'.heap.size aoP n (i64c (parL P n)) ∧ (aoP = none → n = 0) ∧ Below w.heap.size w w') := by
 have Hl := Lib.hid hl; have HS := Lib.hid hS; have Hc := Lib.hid hc
 have hn14 : n ≤ 14 := by rw [← hl]; exact hS.small
 clear hl hS hc
 go_enter Tryz.func73, Tryz.ntmps73
 go_wp2
 go_loopw [4, 5, 6, 7, 8] (fun p d o l iv x => ∃ (i : Nat) (aoP aoD aoO aoL : Option Addr) (cP cD cO cL : Nat), i ≤ n ∧ p = .slice aoP i cP ∧ d = .slice aoD i cD ∧ o = .slice aoO (mW F dep i) cO ∧ l = .slice aoL (mW F dep i) cL ∧ iv = .int .i64 (i : Nat) ∧
  Hid (W4 x w.heap.size i i (mW F dep i) (mW F dep i) (parL P i) (depL dep i) (openL anc i (mW F dep i)) (leftL F P anc i (mW F dep i)) (.slice aoP i cP) (.slice aoD i cD) (.slice aoO (mW F dep i) cO) (.slice aoL (mW F dep i) cL)) ∧ Hid (Below w.heap.size w x)) (fun _ _ _ _ iv _ => n - (intOf iv).toNat)
 case atStart => exact ⟨0, none, none, none, none, 0, 0, 0, 0, Nat.zero_le _, rfl, rfl, rfl, rfl, rfl, Lib.hid (W4.start _ _), Lib.hid (Below.refl _ _)⟩
 case round =>
  obtain ⟨i, aoP, aoD, aoO, aoL, cP, cD, cO, cL, hi, rfl, rfl, rfl, rfl, rfl, HW, HB⟩ := hrel
  obtain ⟨x, hxx⟩ : ∃ x, x = wr := ⟨_, rfl⟩
  subst hxx
  by_cases hin : i < n
  · have e1 : (i : Int) < (n : Int) := by omega
    obtain ⟨mi, hmi⟩ : ∃ mi, mi = mW F dep i := ⟨_, rfl⟩
    rw [← hmi] at HW
    rw [← hmi]
    have Hmi := Lib.hid hmi
    have hmi6 : mi ≤ 6 := by rw [hmi]; exact HS.out.mW_le i (by rw [Hl.out]; omega)
    clear hmi
    go_upto_block 2 with fail
    go_cut [6, 7] (fun o l wy => ∃ (aoO2 aoL2 : Option Addr) (cO2 cL2 : Nat), o = .slice aoO2 (dep i) cO2 ∧ l = .slice aoL2 (dep i) cL2 ∧ wy.heap.size = x.heap.size ∧
     Hid (W4 wy w.heap.size i i (dep i) (dep i) (parL P i) (depL dep i) (openL anc i (dep i)) (leftL F P anc i (dep i)) (.slice aoP i cP) (.slice aoD i cD) (.slice aoO2 (dep i) cO2) (.slice aoL2 (dep i) cL2)) ∧ Hid (Below w.heap.size w wy))
    case first =>
     go_wp2
     go_loopw [6, 7] (fun o l wy => ∃ (mm : Nat) (aoO2 aoL2 : Option Addr) (cO2 cL2 : Nat), dep i ≤ mm ∧ mm ≤ mi ∧ o = .slice aoO2 mm cO2 ∧ l = .slice aoL2 mm cL2 ∧ wy.heap.size = x.heap.size ∧
      Hid (W4 wy w.heap.size i i mm mm (parL P i) (depL dep i) (openL anc i mm) (leftL F P anc i mm) (.slice aoP i cP) (.slice aoD i cD) (.slice aoO2 mm cO2) (.slice aoL2 mm cL2)) ∧ Hid (Below w.heap.size w wy)) (fun _ l _ => sLen l)
     case atStart =>
      refine ⟨mi, _, _, _, _, ?_, Nat.le_refl _, rfl, rfl, rfl, HW, HB⟩
      rw [Hmi.out]
      rcases Nat.eq_zero_or_pos i with rfl | h0
      · rw [HS.out.d0]; exact Nat.zero_le _
      · exact HS.out.dep_le i h0 (by rw [Hl.out]; exact hin)
     case round =>
      obtain ⟨mm, aoO2, aoL2, cO2, cL2, hd, hmm, rfl, rfl, hsz, HW2, HB2⟩ := hrel
      obtain ⟨y, hyy⟩ : ∃ y, y = wr := ⟨_, rfl⟩
      subst hyy
      by_cases hm0 : mm = 0
      · subst hm0
        have hd0 : Hid (dep i = 0) := Lib.hid (by omega)
        clear HW HB
        go_wp2
        go_meet
        exact ⟨aoO2, aoL2, cO2, cL2, by rw [hd0.out], by rw [hd0.out], hsz, by rw [hd0.out]; exact HW2, HB2⟩
      · obtain ⟨t, rfl⟩ : ∃ t, mm = t + 1 := ⟨mm - 1, by omega⟩
        have hi0 : 0 < i := by
         rcases Nat.eq_zero_or_pos i with rfl | h0
         · have := Hmi.out; simp only [mW] at this; omega
         · exact h0
        obtain ⟨gO, _, hvO, -, -⟩ := own_shapeG (Nat.succ_pos _) (W4.ro HW2.out)
        obtain ⟨gL, _, hvL, -, -⟩ := own_shapeG (Nat.succ_pos _) (W4.rl HW2.out)
        simp only [Value.slice.injEq, true_and] at hvO hvL
        obtain ⟨rfl, rfl⟩ := hvO
        obtain ⟨rfl, rfl⟩ := hvL
        obtain ⟨v, hv⟩ : ∃ v, v = leftV F P (anc (i - 1) t) i := ⟨_, rfl⟩
        have cL2' : y.cell? ⟨gL, t, none⟩ = some (.int .i64 v) := by
         rw [own_ci (W4.rl HW2.out) t (by omega), leftL_at _ _ _ _ _ _ (by omega), hv]
        have f1 : (t : Int) ≤ (cO2 : Int) := by have := own_capG (W4.ro HW2.out); omega
        have f2 : (t : Int) ≤ (cL2 : Int) := by have := own_capG (W4.rl HW2.out); omega
        clear HW HB
        by_cases hdt : dep i = t + 1
        · have hv0 : 0 < v := by
           obtain ⟨p1, p2, p3⟩ := HS.out.par i hi0 (by rw [Hl.out]; exact hin)
           obtain ⟨q1, q2⟩ := HS.out.pre i hi0 (by rw [Hl.out]; exact hin)
           rw [hv, show t = dep (P i) by omega, q2]
           exact HS.out.left_pos i hi0 (by rw [Hl.out]; exact hin)
          have f3 : (v == 0) = false := by rw [beq_eq_false_iff_ne]; omega
          have f4 : ¬ v = 0 := by omega
          have Hdt := Lib.hid hdt
          clear hdt hv hd
          go_wp2
          go_meet
          exact ⟨_, _, _, _, by rw [Hdt.out], by rw [Hdt.out], hsz, by rw [Hdt.out]; exact HW2, HB2⟩
        · have hv0 : v = 0 := by rw [hv]; exact HS.out.left_zero i hi0 (by rw [Hl.out]; exact hin) t (by omega) (by rw [← Hmi.out]; omega)
          subst hv0
          have HW3 : Hid (W4 y.drew w.heap.size i i t t (parL P i) (depL dep i) (openL anc i t) (leftL F P anc i t) (.slice aoP i cP) (.slice aoD i cD) (.slice (some ⟨gO, 0, none⟩) t cO2) (.slice (some ⟨gL, 0, none⟩) t cL2)) := Lib.hid (by
           have h := (W4.front HW2.out).below (Below.drew (Below.refl _ _))
           rw [openL_take', leftL_take] at h
           exact h)
          have hdt2 : dep i ≤ t := by omega
          have HB3 := Lib.hid (HB2.out.drew)
          clear hdt hv hd HW2 HB2
          go_wp2
          go_region
          go_wp2
          go_roundw
          case rel => exact ⟨t, _, _, _, _, hdt2, by omega, rfl, rfl, by simpa using hsz, HW3, HB3⟩
          case measure => exact Nat.lt_succ_self t
    case rest =>
     clear HW HB
     obtain ⟨aoO2, aoL2, cO2, cL2, rfl, rfl, -, HW2, HB2⟩ := hcut
     obtain ⟨y, hyy⟩ : ∃ y, y = wc := ⟨_, rfl⟩
     subst hyy
     have hd5 : dep i ≤ 5 := HS.out.deep i (by rw [Hl.out]; exact hin)
     obtain ⟨di, hdi⟩ : ∃ di, di = dep i := ⟨_, rfl⟩
     have hdi0 : i = 0 → di = 0 := fun h => by rw [hdi, h]; exact HS.out.d0
     have hdi1 : 0 < i → 0 < di := fun h => by rw [hdi, (HS.out.par i h (by rw [Hl.out]; exact hin)).2.1]; omega
     rw [← hdi] at HW2 hd5
     rw [← hdi]
     have Hdi := Lib.hid hdi
     clear hdi
     go_upto_region 7 with fail
     go_cut [39] (fun v wy => v = .bool (decide (i = 0)) ∧ wy = y)
     case first =>
      by_cases h0 : i = 0
      · obtain rfl := hdi0 h0
        have H0 := Lib.hid (decide_eq_true h0)
        clear h0
        go_wp2
        go_meet
        exact ⟨by rw [H0.out], rfl⟩
      · have h1 := hdi1 (by omega)
        have f1 : ((di : Int) == 0) = false := by rw [beq_eq_false_iff_ne]; omega
        have f2 : ¬ (di : Int) = 0 := by omega
        have H0 := Lib.hid (decide_eq_false h0)
        clear h0
        go_wp2
        go_meet
        exact ⟨by rw [H0.out], rfl⟩
     case rest =>
     obtain ⟨rfl, hwy⟩ := hcut
     have hyw := hwy.symm
     subst hyw
     clear hwy
     go_upto_if 39 with fail
     go_cut [4, 5] (fun p d wz => ∃ (aoP2 aoD2 : Option Addr) (cP2 cD2 : Nat), p = .slice aoP2 (i + 1) cP2 ∧ d = .slice aoD2 (i + 1) cD2 ∧
      Hid (W4 wz w.heap.size (i + 1) (i + 1) di di (parL P (i + 1)) (depL dep (i + 1)) (openL anc (i + 1) di) (leftL F P anc (i + 1) di) (.slice aoP2 (i + 1) cP2) (.slice aoD2 (i + 1) cD2) (.slice aoO2 di cO2) (.slice aoL2 di cL2)) ∧ Hid (Below w.heap.size w wz))
     case first =>
      by_cases h0 : i = 0
      · rw [decide_eq_true h0]
        obtain rfl := hdi0 h0
        subst h0
        have hA := HW2.out.below ((Below.refl _ _).alloc (Nat.le_refl _) (.cells #[.int .i64 (-1)] 3))
        have hsA : w.heap.size ≤ (y.alloc (.cells #[.int .i64 (-1)] 3)).heap.size := Nat.le_trans HB2.out.size (by simp)
        go_wp2_with (at_builtin; refine wpList_append_apart sl_i64' rfl (.tmp 40) (.tmp 41) rfl rfl hA.rp rfl (cells_one y 3 (.int .i64 (-1))) (fun h => by cases h) (fun _ _ => rfl) (by unfold maxLen; omega) (by omega) hsA ?_)
        intro v1 y1 ho1 hg1 hs1
        have ho1 : y1.ownsRow w.heap.size 3 1 v1 (0 + 1) (i64v (parL P (0 + 1))) := ho1
        have hW1 := hA.setP ho1 hg1 hs1
        have hB1 := (HB2.out.alloc HB2.out.size (.cells #[.int .i64 (-1)] 3)).grown hg1 hsA (fun k hk => (hA.rp.lt k hk).1)
        have hA2 := hW1.below ((Below.refl _ _).alloc (Nat.le_refl _) (.cells #[.int .i64 0] 3))
        have hsA2 : w.heap.size ≤ (y1.alloc (.cells #[.int .i64 0] 3)).heap.size := Nat.le_trans hB1.size (by simp)
        clear ho1 hg1 hs1 hA
        go_wp2_with (at_builtin; refine wpList_append_apart sl_i64' rfl (.tmp 43) (.tmp 44) rfl rfl hA2.rd rfl (cells_one y1 3 (.int .i64 0)) (fun h => by cases h) (fun _ _ => rfl) (by unfold maxLen; omega) (by omega) hsA2 ?_)
        intro v2 y2 ho2 hg2 hs2
        have ho2 : y2.ownsRow w.heap.size 3 1 v2 (0 + 1) (i64v (depL dep (0 + 1))) := by rw [depL_succ, HS.out.d0]; exact ho2
        have hW2 := hA2.setD ho2 hg2 hs2
        have hB2 := (hB1.alloc hB1.size (.cells #[.int .i64 0] 3)).grown hg2 hsA2 (fun k hk => (hA2.rd.lt k hk).1)
        obtain ⟨g1, c1, rfl, -, -⟩ := own_shapeG (by decide) hW2.rp
        obtain ⟨g2, c2, rfl, -, -⟩ := own_shapeG (by decide) hW2.rd
        have HW3 := Lib.hid hW2; have HB3 := Lib.hid hB2
        clear ho2 hg2 hs2 hA2 hW2 hB2 hW1 hB1 hsA hsA2 HW2 HB2
        go_wp2
        go_meet
        exact ⟨_, _, _, _, rfl, rfl, HW3, HB3⟩
      · have h0' : 0 < i := by omega
        have hiF : i < F.length := by rw [Hl.out]; exact hin
        obtain ⟨p1, p2, p3⟩ := HS.out.par i h0' hiF
        obtain ⟨q1, q2⟩ := HS.out.pre i h0' hiF
        obtain ⟨t, rfl⟩ : ∃ t, di = t + 1 := ⟨di - 1, by have := hdi1 h0'; omega⟩
        have hdt : dep (P i) = t := by have := Hdi.out; omega
        rw [hdt] at q2
        obtain ⟨gO, _, hvO, -, -⟩ := own_shapeG (Nat.succ_pos _) (W4.ro HW2.out)
        obtain ⟨gL, _, hvL, hgL, -⟩ := own_shapeG (Nat.succ_pos _) (W4.rl HW2.out)
        simp only [Value.slice.injEq, true_and] at hvO hvL
        obtain ⟨rfl, rfl⟩ := hvO
        obtain ⟨rfl, rfl⟩ := hvL
        obtain ⟨v, hv⟩ : ∃ v, v = leftV F P (P i) i := ⟨_, rfl⟩
        have hv0 : 0 < v := by rw [hv]; exact HS.out.left_pos i h0' hiF
        have hv14 : v ≤ 14 := by
         rw [hv]; unfold leftV
         rw [HS.out.kids _ (by omega), if_pos p3]
         have := cntTo_le P (P i) F.length
         have := HS.out.small
         omega
        have cL2' : y.cell? ⟨gL, t, none⟩ = some (.int .i64 v) := by
         rw [own_ci (W4.rl HW2.out) t (by omega), leftL_at _ _ _ _ _ _ (by omega), q2, hv]
        have hfr := (W4.rl HW2.out).frozenAt t
        have hst := (W4.rl HW2.out).stored t (.int .i64 (v - 1))
        have hst1 : (y.setCell ⟨gL, t, none⟩ (.int .i64 (v - 1))).ownsRow w.heap.size 3 1 (.slice (some ⟨gL, 0, none⟩) (t + 1) cL2) (t + 1) (i64v (leftL F P anc (i + 1) (t + 1))) := by
         have h := hst.1
         rw [i64v_set, hv] at h
         have hn := HS.out.left_next i h0' hiF
         rw [← Hdi.out, Nat.add_sub_cancel] at hn
         rw [hn] at h
         rw [hv]; exact h
        have hW1 := HW2.out.setL hst1 hst.2 (.inl rfl)
        have hop : openL anc i (t + 1) = openL anc (i + 1) (t + 1) := by
         have := HS.out.open_next i h0' hiF
         rw [← Hdi.out] at this; exact this
        rw [hop] at hW1
        have hB1 : Below w.heap.size w (y.setCell ⟨gL, t, none⟩ (.int .i64 (v - 1))) := HB2.out.setCell (by exact hgL) _
        obtain ⟨y1, hy1⟩ : ∃ z, z = y.setCell ⟨gL, t, none⟩ (.int .i64 (v - 1)) := ⟨_, rfl⟩
        rw [← hy1] at hW1 hB1
        obtain ⟨Pi, hPi⟩ : ∃ Pi, Pi = P i := ⟨_, rfl⟩
        have cO' : y1.cell? ⟨gO, t, none⟩ = some (.int .i64 (Pi : Nat)) := by
         rw [own_ci hW1.ro t (by omega), ← hop, openL_at _ _ _ _ (by omega), q2, hPi]
        have hA := hW1.below ((Below.refl _ _).alloc (Nat.le_refl _) (.cells #[.int .i64 (Pi : Nat)] 3))
        have hsA : w.heap.size ≤ (y1.alloc (.cells #[.int .i64 (Pi : Nat)] 3)).heap.size := Nat.le_trans hB1.size (by simp)
        have HPi := Lib.hid hPi
        have H0 := Lib.hid h0
        have Hd2 := Lib.hid Hdi.out
        rw [decide_eq_false h0]
        clear p1 p2 p3 q1 q2 hdt hst hst1 hop HW2 HB2 hPi h0 h0' hiF hdi0 hdi1 hv Hdi
        go_upto_region 10 with fail
        rw [← hy1]
        clear hy1 cL2' hfr
        go_wp2_with (at_builtin; refine wpList_append_apart sl_i64' rfl (.tmp 54) (.tmp 61) rfl rfl hA.rp rfl (cells_one y1 3 (.int .i64 (Pi : Nat))) (fun h => by cases h) (fun _ _ => rfl) (by unfold maxLen; omega) (by omega) hsA ?_)
        intro v1 y2 ho1 hg1 hs1
        have ho1 : y2.ownsRow w.heap.size 3 1 v1 (i + 1) (i64v (parL P (i + 1))) := by
         rw [parL_succ, if_neg H0.out, ← HPi.out, ← i64v_append]; exact ho1
        have hW2 := hA.setP ho1 hg1 hs1
        have hB2 := (hB1.alloc hB1.size (.cells #[.int .i64 (Pi : Nat)] 3)).grown hg1 hsA (fun k hk => (hA.rp.lt k hk).1)
        have hA2 := hW2.below ((Below.refl _ _).alloc (Nat.le_refl _) (.cells #[.int .i64 ((t : Int) + 1)] 3))
        have hsA2 : w.heap.size ≤ (y2.alloc (.cells #[.int .i64 ((t : Int) + 1)] 3)).heap.size := Nat.le_trans hB2.size (by simp)
        clear ho1 hg1 hs1 hA cO'
        go_wp2_with (at_builtin; refine wpList_append_apart sl_i64' rfl (.tmp 63) (.tmp 66) rfl rfl hA2.rd rfl (cells_one y2 3 (.int .i64 ((t : Int) + 1))) (fun h => by cases h) (fun _ _ => rfl) (by unfold maxLen; omega) (by omega) hsA2 ?_)
        intro v2 y3 ho2 hg2 hs2
        have ho2 : y3.ownsRow w.heap.size 3 1 v2 (i + 1) (i64v (depL dep (i + 1))) := by rw [depL_succ, ← Hd2.out, ← i64v_append]; exact ho2
        have hW3 := hA2.setD ho2 hg2 hs2
        have hB3 := (hB2.alloc hB2.size (.cells #[.int .i64 ((t : Int) + 1)] 3)).grown hg2 hsA2 (fun k hk => (hA2.rd.lt k hk).1)
        obtain ⟨g1, c1, rfl, -, -⟩ := own_shapeG (Nat.succ_pos _) hW3.rp
        obtain ⟨g2, c2, rfl, -, -⟩ := own_shapeG (Nat.succ_pos _) hW3.rd
        have HW3 := Lib.hid hW3; have HB3 := Lib.hid hB3
        clear ho2 hg2 hs2 hA2 hW3 hB3 hW2 hB2 hW1 hB1 hsA hsA2
        go_wp2
        go_meet
        exact ⟨_, _, _, _, rfl, rfl, HW3, HB3⟩
     case rest =>
      clear HW2 HB2 hdi0 hdi1
      obtain ⟨aoP2, aoD2, cP2, cD2, rfl, rfl, HW, HB⟩ := hcut
      obtain ⟨z, hzz⟩ : ∃ z, z = wc := ⟨_, rfl⟩
      subst hzz
      have hiF : i < F.length := by rw [Hl.out]; exact hin
      obtain ⟨b, off, rfl, hb, -, -, k2, k3⟩ := Hc.out.fd Hl.out hin
      obtain ⟨kd, hkd⟩ : ∃ kd, kd = (fAt F i).kind := ⟨_, rfl⟩
      obtain ⟨K0, hK0⟩ : ∃ K0, K0 = (fAt F i).kids := ⟨_, rfl⟩
      rw [← hkd] at k2
      rw [← hK0] at k3
      have k2' := (HB.out.cell (by exact hb)).trans k2
      have k3' := (HB.out.cell (by exact hb)).trans k3
      have hmn : Hid (mW F dep (i + 1) = if kd = 0 then di + 1 else di) := Lib.hid (by rw [Hdi.out, hkd]; rfl)
      have Hkd := Lib.hid hkd; have HK0 := Lib.hid hK0
      clear k2 k3
      by_cases hk0 : kd = 0
      · subst hk0
        have hmn1 : Hid (mW F dep (i + 1) = di + 1) := Lib.hid (by rw [hmn.out, if_pos rfl])
        clear hmn
        have hmn := hmn1
        clear hmn1
        have hKp : 0 < K0 := by rw [hK0]; exact HS.out.some i hiF hkd.symm
        have hK14 : K0 ≤ 14 := by
         rw [hK0, HS.out.kids i hiF, if_pos hkd.symm]
         have := cntTo_le P i F.length
         have := HS.out.small
         omega
        have f1 : (0 : Int) < (K0 : Int) := by omega
        have f2 : (0 : Int) ≤ (i : Int) := by omega
        have p3 : ∀ w', Below w.heap.size z.drew w' → w'.cell? ⟨b, off + i * 4 + 3, none⟩ = some (.int .i64 (K0 : Nat)) := fun w' hg => (hg.cell (by exact hb)).trans k3'
        have hopen : openL anc (i + 1) (di + 1) = openL anc (i + 1) di ++ [(i : Int)] := by rw [Hdi.out]; exact HS.out.open_push i hiF
        have hleft : leftL F P anc (i + 1) (di + 1) = leftL F P anc (i + 1) di ++ [(K0 : Int)] := by rw [Hdi.out, HK0.out]; exact HS.out.left_push i hiF
        have Hop := Lib.hid hopen; have Hle := Lib.hid hleft
        have hz0 : w.heap.size ≤ z.heap.size := HB.out.size
        clear hopen hleft hkd hK0 hKp
        go_wp2
        refine wp_region_linR (Below w.heap.size) ⟨fun _ => Below.refl _ _, fun h k => h.trans k⟩ (.take 0 (.take 1 (.take 4 (.take 5 (.take 6 (.take 7 (.take 8 (.take 9 (.two 2 (.two 3 (.one 10 (.one 11 (.take 12 (.take 13 (.done))))) 10 (.one 3 (.one 11 (.take 12 (.take 13 (.done)))))) 10 (.one 2 (.one 3 (.one 11 (.take 12 (.take 13 (.done))))))))))))))) [] (by kernel_rfl) (by kernel_rfl) (fun d _ _ _ _ h => by cases d <;> exact h) ?_
        iterate 8 (first
         | (refine wpLinR_take (v := ?_) rfl rfl (fun w' hw' => ?_) (fun K hK => ?_); rotate_left; (go_simp; rfl); (go_simp; refine hK _ ?_; clear hK K)))
        clear p3 k2' k3'
        have h0 := HW.out.below (Below.drew (Below.refl _ _))
        have hb0 := HB.out.drew
        have hz0d : w.heap.size ≤ z.drew.heap.size := hz0
        refine wpLinR_two rfl rfl (fun K hK => ?_) (fun K hK => ?_)
        · obtain ⟨zA, hzAe⟩ : ∃ y, y = (z.alloc (.cells #[.int .i64 (i : Nat)] 3)).drew := ⟨_, rfl⟩
          have hbA0 : Below z.heap.size z.drew zA := by rw [hzAe]; exact (Below.refl z.heap.size z.drew).alloc (Nat.le_refl _) (.cells #[.int .i64 (i : Nat)] 3)
          have hcA : CellsAt zA zA.heap.size (some ⟨z.heap.size, 0, none⟩) 1 (fun _ => Value.int .i64 (i : Nat)) := by rw [hzAe]; exact cells_one z.drew 3 (.int .i64 (i : Nat))
          go_simp; rw [← hzAe]; refine hK _ _ (.inr (hbA0.mono hz0)) ?_; clear hK K
          clear hzAe
          have hA := h0.below hbA0
          have hzA : w.heap.size ≤ zA.heap.size := Nat.le_trans hz0 hbA0.size
          have hbA := hb0.trans (hbA0.mono hz0)
          refine wpLinR_two rfl rfl (fun K hK => ?_) (fun K hK => ?_)
          · refine step_append_apart sl_i64' rfl (.tmp 82) (.tmp 84) rfl rfl hA.ro rfl hcA (fun h => by cases h) (fun _ _ => rfl) (by unfold maxLen; omega) (by omega) hzA ?_
            intro v1 z2 ho1 hg1 hs1
            have ho1 : z2.ownsRow w.heap.size 3 1 v1 (di + 1) (i64v (openL anc (i + 1) (di + 1))) := by rw [Hop.out, ← i64v_append]; exact ho1
            have hW2 := hA.setO ho1 hg1 hs1
            have hb2 := (Below.refl w.heap.size _).grown hg1 hzA (fun k hk => (hA.ro.lt k hk).1)
            have hz2 : w.heap.size ≤ z2.heap.size := Nat.le_trans hzA hg1.size
            go_simp; refine hK _ _ (.inr hb2) ?_; clear hK K
            obtain ⟨zB, hzB⟩ : ∃ y, y = z2.alloc (.cells #[.int .i64 (K0 : Nat)] 3) := ⟨_, rfl⟩
            have hbB0 : Below z2.heap.size z2 zB := by rw [hzB]; exact (Below.refl _ _).alloc (Nat.le_refl _) _
            have hA3 := hW2.below hbB0
            have hbB : Below w.heap.size z2 zB := by rw [hzB]; exact (Below.refl _ _).alloc hz2 _
            have hzA3 : w.heap.size ≤ zB.heap.size := Nat.le_trans hz2 hbB.size
            have hcA3 : CellsAt zB zB.heap.size (some ⟨z2.heap.size, 0, none⟩) 1 (fun _ => Value.int .i64 (K0 : Nat)) := by rw [hzB]; exact cells_one z2 3 (.int .i64 (K0 : Nat))
            refine wpLinR_one rfl (fun K hK => ?_)
            go_simp; rw [← hzB]; refine hK _ _ (.inr hbB) ?_; clear hK K
            have hbA3 := (hbA.trans hb2).trans hbB
            clear hzB
            refine wpLinR_one rfl (fun K hK => ?_)
            refine step_append_apart sl_i64' rfl (.tmp 86) (.tmp 92) rfl rfl hA3.rl rfl hcA3 (fun h => by cases h) (fun _ _ => rfl) (by unfold maxLen; omega) (by omega) hzA3 ?_
            intro v2 z4 ho2 hg2 hs2
            have ho2 : z4.ownsRow w.heap.size 3 1 v2 (di + 1) (i64v (leftL F P anc (i + 1) (di + 1))) := by rw [Hle.out, ← i64v_append]; exact ho2
            have hW4 := hA3.setL ho2 hg2 hs2
            have hb4 := (Below.refl w.heap.size _).grown hg2 hzA3 (fun k hk => (hA3.rl.lt k hk).1)
            obtain ⟨g1, c1, rfl, -, -⟩ := own_shapeG (Nat.succ_pos _) hW4.ro
            obtain ⟨g2, c2, rfl, -, -⟩ := own_shapeG (Nat.succ_pos _) hW4.rl
            have HW4 := Lib.hid hW4
            have HB4 : Hid (Below w.heap.size w z4) := Lib.hid (hbA3.trans hb4)
            go_simp; refine hK _ _ (.inr hb4) ?_; clear hK K
            clear ho2 hg2 hs2 hW4 hb4
            iterate 2 (first
             | (refine wpLinR_take (v := ?_) rfl rfl (fun w' hw' => ?_) (fun K hK => ?_); rotate_left; (go_simp; rfl); (go_simp; refine hK _ ?_; clear hK K)))
            refine wpLinR_nil ?_
            go_wp2
            go_roundw
            case rel => exact ⟨i + 1, _, _, _, _, _, _, _, _, by omega, rfl, rfl, by rw [hmn.out], by rw [hmn.out], by go_num, by rw [hmn.out]; exact HW4, HB4⟩
            case measure => simp [intOf]; omega
          · obtain ⟨zB, hzB⟩ : ∃ y, y = zA.alloc (.cells #[.int .i64 (K0 : Nat)] 3) := ⟨_, rfl⟩
            have hbB0 : Below zA.heap.size zA zB := by rw [hzB]; exact (Below.refl _ _).alloc (Nat.le_refl _) _
            have hbB : Below w.heap.size zA zB := hbB0.mono hzA
            have hcK : CellsAt zB zB.heap.size (some ⟨zA.heap.size, 0, none⟩) 1 (fun _ => Value.int .i64 (K0 : Nat)) := by rw [hzB]; exact cells_one zA 3 (.int .i64 (K0 : Nat))
            have hlo := fun k (hk : (Value.slice aoO2 di cO2).ownBlock = some k) => (hA.ro.lt k hk).2
            go_simp; rw [← hzB]; refine hK _ _ (.inr hbB) ?_; clear hK K
            clear hzB
            have hA2 := hA.below hbB0
            have hcA2 := hcA.at hbB0
            have hbA2 := hbA.trans hbB
            have hzA2 := Nat.le_trans hzA hbB.size
            clear hA hzA hcA hbA
            have hA := hA2; have hzA := hzA2; have hcA := hcA2; have hbA := hbA2
            clear hA2 hzA2 hcA2 hbA2
            refine wpLinR_one rfl (fun K hK => ?_)
            refine step_append_apart sl_i64' rfl (.tmp 82) (.tmp 84) rfl rfl hA.ro rfl hcA (fun h => by cases h) (fun _ _ => rfl) (by unfold maxLen; omega) (by omega) hzA ?_
            intro v1 z2 ho1 hg1 hs1
            have ho1 : z2.ownsRow w.heap.size 3 1 v1 (di + 1) (i64v (openL anc (i + 1) (di + 1))) := by rw [Hop.out, ← i64v_append]; exact ho1
            have hW2 := hA.setO ho1 hg1 hs1
            have hb2 := (Below.refl w.heap.size _).grown hg1 hzA (fun k hk => (hA.ro.lt k hk).1)
            have hz2 : w.heap.size ≤ z2.heap.size := Nat.le_trans hzA hg1.size
            go_simp; refine hK _ _ (.inr hb2) ?_; clear hK K
            have hcK2 := hcK.grown hg1 (fun a ha e => by
             have h1 := hlo _ e.symm
             cases ha
             simp at h1)
            have hbA3 := hbA.trans hb2
            refine wpLinR_one rfl (fun K hK => ?_)
            refine step_append_apart sl_i64' rfl (.tmp 86) (.tmp 92) rfl rfl hW2.rl rfl hcK2 (fun h => by cases h) (fun _ _ => rfl) (by unfold maxLen; omega) (by omega) hz2 ?_
            intro v2 z4 ho2 hg2 hs2
            have ho2 : z4.ownsRow w.heap.size 3 1 v2 (di + 1) (i64v (leftL F P anc (i + 1) (di + 1))) := by rw [Hle.out, ← i64v_append]; exact ho2
            have hW4 := hW2.setL ho2 hg2 hs2
            have hb4 := (Below.refl w.heap.size _).grown hg2 hz2 (fun k hk => (hW2.rl.lt k hk).1)
            obtain ⟨g1, c1, rfl, -, -⟩ := own_shapeG (Nat.succ_pos _) hW4.ro
            obtain ⟨g2, c2, rfl, -, -⟩ := own_shapeG (Nat.succ_pos _) hW4.rl
            have HW4 := Lib.hid hW4
            have HB4 : Hid (Below w.heap.size w z4) := Lib.hid (hbA3.trans hb4)
            go_simp; refine hK _ _ (.inr hb4) ?_; clear hK K
            clear ho2 hg2 hs2 hW4 hb4
            iterate 2 (first
             | (refine wpLinR_take (v := ?_) rfl rfl (fun w' hw' => ?_) (fun K hK => ?_); rotate_left; (go_simp; rfl); (go_simp; refine hK _ ?_; clear hK K)))
            refine wpLinR_nil ?_
            go_wp2
            go_roundw
            case rel => exact ⟨i + 1, _, _, _, _, _, _, _, _, by omega, rfl, rfl, by rw [hmn.out], by rw [hmn.out], by go_num, by rw [hmn.out]; exact HW4, HB4⟩
            case measure => simp [intOf]; omega
        · obtain ⟨zK, hzK⟩ : ∃ y, y = (z.alloc (.cells #[.int .i64 (K0 : Nat)] 3)).drew := ⟨_, rfl⟩
          have hbK0 : Below z.heap.size z.drew zK := by rw [hzK]; exact (Below.refl z.heap.size z.drew).alloc (Nat.le_refl _) (.cells #[.int .i64 (K0 : Nat)] 3)
          have hbK : Below w.heap.size z.drew zK := hbK0.mono hz0
          have hcK : CellsAt zK zK.heap.size (some ⟨z.heap.size, 0, none⟩) 1 (fun _ => Value.int .i64 (K0 : Nat)) := by rw [hzK]; exact cells_one z.drew 3 (.int .i64 (K0 : Nat))
          have hlo := fun k (hk : (Value.slice aoO2 di cO2).ownBlock = some k) => (h0.ro.lt k hk).2
          go_simp; rw [← hzK]; refine hK _ _ (.inr hbK) ?_; clear hK K
          clear hzK
          have hzK : w.heap.size ≤ zK.heap.size := Nat.le_trans hz0 hbK0.size
          obtain ⟨zA, hzAe⟩ : ∃ y, y = zK.alloc (.cells #[.int .i64 (i : Nat)] 3) := ⟨_, rfl⟩
          have hbA0 : Below zK.heap.size zK zA := by rw [hzAe]; exact (Below.refl _ _).alloc (Nat.le_refl _) _
          have hcA : CellsAt zA zA.heap.size (some ⟨zK.heap.size, 0, none⟩) 1 (fun _ => Value.int .i64 (i : Nat)) := by rw [hzAe]; exact cells_one zK 3 (.int .i64 (i : Nat))
          have hcK1 := hcK.at hbA0
          have hA := (h0.below hbK0).below hbA0
          have hzA := Nat.le_trans hzK hbA0.size
          have hbA := (hb0.trans hbK).trans (hbA0.mono hzK)
          refine wpLinR_one rfl (fun K hK => ?_)
          go_simp; rw [← hzAe]; refine hK _ _ (.inr (hbA0.mono hzK)) ?_; clear hK K
          clear hzAe
          refine wpLinR_one rfl (fun K hK => ?_)
          refine step_append_apart sl_i64' rfl (.tmp 82) (.tmp 84) rfl rfl hA.ro rfl hcA (fun h => by cases h) (fun _ _ => rfl) (by unfold maxLen; omega) (by omega) hzA ?_
          intro v1 z2 ho1 hg1 hs1
          have ho1 : z2.ownsRow w.heap.size 3 1 v1 (di + 1) (i64v (openL anc (i + 1) (di + 1))) := by rw [Hop.out, ← i64v_append]; exact ho1
          have hW2 := hA.setO ho1 hg1 hs1
          have hb2 := (Below.refl w.heap.size _).grown hg1 hzA (fun k hk => (hA.ro.lt k hk).1)
          have hz2 : w.heap.size ≤ z2.heap.size := Nat.le_trans hzA hg1.size
          go_simp; refine hK _ _ (.inr hb2) ?_; clear hK K
          have hcK2 := hcK1.grown hg1 (fun a ha e => by
           have h1 := hlo _ e.symm
           cases ha
           simp at h1)
          have hbA3 := hbA.trans hb2
          refine wpLinR_one rfl (fun K hK => ?_)
          refine step_append_apart sl_i64' rfl (.tmp 86) (.tmp 92) rfl rfl hW2.rl rfl hcK2 (fun h => by cases h) (fun _ _ => rfl) (by unfold maxLen; omega) (by omega) hz2 ?_
          intro v2 z4 ho2 hg2 hs2
          have ho2 : z4.ownsRow w.heap.size 3 1 v2 (di + 1) (i64v (leftL F P anc (i + 1) (di + 1))) := by rw [Hle.out, ← i64v_append]; exact ho2
          have hW4 := hW2.setL ho2 hg2 hs2
          have hb4 := (Below.refl w.heap.size _).grown hg2 hz2 (fun k hk => (hW2.rl.lt k hk).1)
          obtain ⟨g1, c1, rfl, -, -⟩ := own_shapeG (Nat.succ_pos _) hW4.ro
          obtain ⟨g2, c2, rfl, -, -⟩ := own_shapeG (Nat.succ_pos _) hW4.rl
          have HW4 := Lib.hid hW4
          have HB4 : Hid (Below w.heap.size w z4) := Lib.hid (hbA3.trans hb4)
          go_simp; refine hK _ _ (.inr hb4) ?_; clear hK K
          clear ho2 hg2 hs2 hW4 hb4
          iterate 2 (first
           | (refine wpLinR_take (v := ?_) rfl rfl (fun w' hw' => ?_) (fun K hK => ?_); rotate_left; (go_simp; rfl); (go_simp; refine hK _ ?_; clear hK K)))
          refine wpLinR_nil ?_
          go_wp2
          go_roundw
          case rel => exact ⟨i + 1, _, _, _, _, _, _, _, _, by omega, rfl, rfl, by rw [hmn.out], by rw [hmn.out], by go_num, by rw [hmn.out]; exact HW4, HB4⟩
          case measure => simp [intOf]; omega
      · have f1 : ((kd : Int) == 0) = false := by rw [beq_eq_false_iff_ne]; omega
        have f2 : ¬ (kd : Int) = 0 := by omega
        have f3 : decide ((kd : Int) = 0) = false := decide_eq_false (by omega)
        have hmn1 : Hid (mW F dep (i + 1) = di) := Lib.hid (by rw [hmn.out, if_neg hk0])
        clear hmn
        clear hkd hK0 hk0
        go_wp2
        go_roundw
        case rel => exact ⟨i + 1, _, _, _, _, _, _, _, _, by omega, rfl, rfl, by rw [hmn1.out], by rw [hmn1.out], by go_num, by rw [hmn1.out]; exact HW, HB⟩
        case measure => simp [intOf]; omega
  · obtain rfl : i = n := by omega
    have e1 : ¬ (i : Int) < (i : Int) := by omega
    have hW := HW.out
    obtain ⟨_, _, hv, hcP, hnP⟩ := own_i64 hW.rp
    simp only [Value.slice.injEq, true_and] at hv
    obtain ⟨rfl, rfl⟩ := hv
    have HcP := Lib.hid hcP
    have hnP : Hid (aoP = none → i = 0) := Lib.hid (fun e => by
     subst e
     rcases hW.rp.2 with ⟨-, h⟩ | ⟨_, _, _, h, -⟩
     · exact h
     · cases h)
    clear hW HW hcP
    go_wp2
    go_ret2
    exact ⟨_, ⟨_, _, rfl⟩, HcP.out, hnP.out, HB.out⟩
set_option maxHeartbeats 1000000 in
set_option maxRecDepth 100000 in
theorem parents5_any (F : List Fd) (P dep : Nat → Nat) (anc : Nat → Nat → Nat) (hS : FinS F P dep anc) (ao : Option Addr) (n cap : Nat) (w : World) (hl : F.length = n) (hc : CellsAt w w.heap.size ao (n * 4) (wc fdV F)) :
 Calls Tryz.prog 41 #[.slice ao n cap] w (fun e w' => ∃ aoP capP, e = .returned (.slice aoP n capP) ∧ CellsAt w' w'.heap.size aoP n (i64c (parL P n)) ∧ (aoP = none → n = 0) ∧ Below w.heap.size w w') := by
 have HW := Lib.hid (walk5_any F P dep anc hS ao n cap w hl hc)
 clear hS hl hc
 go_enter Tryz.func41, Tryz.ntmps41
 go_wp2_with fail
 refine HW.out.mono ?_
 rintro e x ⟨aoP, capP, v, rfl, h1, h2, h3⟩
 have H1 := Lib.hid h1; have H2 := Lib.hid h2; have H3 := Lib.hid h3
 clear h1 h2 h3
 go_wp2
 go_ret
 exact ⟨aoP, capP, rfl, H1.out, H2.out, H3.out⟩
end Go.Proofs.YtebmbkbnngeabaaGreat
