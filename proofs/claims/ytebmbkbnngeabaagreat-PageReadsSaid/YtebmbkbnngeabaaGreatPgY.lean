/- Chapter 8's document: the walks over leaf, fits and Fits. -/
import Derived.Test.YtebmbkbnngeabaaGreatPgX
set_option linter.unusedSimpArgs false
namespace Go.Proofs.YtebmbkbnngeabaaGreat
open Go.RowKit
set_option linter.unusedVariables false
def SaysOk (w : World) (e : Ending) (w' : World) : Prop := e = .returned (.int .i64 0) ∧ Below w.heap.size w w'
set_option maxHeartbeats 4000000 in
set_option maxRecDepth 100000 in
theorem rleaf8_any (kind : Nat) (t : Tr) (w : World) (h : LeafFit kind t) : Calls Tryz.prog 93 #[.int .i64 (kind : Nat), .agg #[.int .i64 t.1, .string t.2.1, t.2.2]] w (SaysOk w) := by
 obtain ⟨tn, tS, tK⟩ := t
 obtain ⟨h0, h⟩ := h
 simp only at h0 h
 subst h0
 have HB := Lib.hid (balloc (Below.refl w.heap.size w) (.cells #[.int .i64 tn, .string tS, .slice none 0 0] 86))
 rcases h with ⟨rfl, h1, h2, rfl⟩ | ⟨rfl, h1, h2, rfl⟩ | ⟨rfl, h1, rfl⟩ | ⟨rfl, rfl, h1⟩
 · go_enter Tryz.func93, Tryz.ntmps93
   go_wp2
   go_ret
   exact ⟨rfl, HB.out⟩
 · go_enter Tryz.func93, Tryz.ntmps93
   go_wp2
   go_ret
   exact ⟨rfl, HB.out⟩
 · go_enter Tryz.func93, Tryz.ntmps93
   go_wp2
   go_ret
   exact ⟨rfl, HB.out⟩
 · go_enter Tryz.func93, Tryz.ntmps93
   go_wp2
   go_ret
   exact ⟨rfl, HB.out⟩
set_option maxHeartbeats 8000000 in
set_option maxRecDepth 100000 in
theorem fits8_any (F : List Fd) (P dep : Nat → Nat) (anc : Nat → Nat → Nat) (hS : FinS F P dep anc) (aoS : Option Addr) (n capS : Nat) (aoP : Option Addr) (capP : Nat) (S : Nat → Prop) (hl : F.length = n) : ∀ (k at_ : Nat) (t : Tr) (w : World), at_ < n → TreeAt F P n w S k at_ t →
 CellsAt w w.heap.size aoS (n * 4) (wc fdV F) → CellsAt w w.heap.size aoP n (i64c (parL P n)) →
 Calls Tryz.prog 70 #[.slice aoS n capS, .slice aoP n capP, .int .i64 (at_ : Nat), .agg #[.int .i64 t.1, .string t.2.1, t.2.2]] w (SaysOk w) := by
 intro k
 induction k with
 | zero => intro at_ t w _ h; exact h.elim
 | succ k ih =>
 intro at_ t w hat hT hc hp
 have HS := Lib.hid hS; have Hl := Lib.hid hl
 have hn14 : n ≤ 14 := by rw [← hl]; exact hS.small
 have IH := Lib.hid ih
 have f0 : (0 : Int) ≤ (at_ : Int) := by omega
 have f1 : (at_ : Int) < (n : Int) := by omega
 obtain ⟨tn, tS, tK⟩ := t
 obtain ⟨w1, hw1⟩ : ∃ x, x = w.alloc (.cells #[.int .i64 tn, .string tS, tK] 86) := ⟨_, rfl⟩
 have hb1 : Below w.heap.size w w1 := by rw [hw1]; exact balloc (Below.refl _ _) _
 have hc1 := hc.at hb1
 have hp1 := hp.at hb1
 obtain ⟨b, off, hbe, hb, -, -, j2, j3⟩ := hc1.fd hl hat
 have Hc := Lib.hid hc1; have Hp := Lib.hid hp1; have Hb1 := Lib.hid hb1
 unfold TreeAt at hT
 by_cases hk0 : (fAt F at_).kind = 0
 · rw [if_neg (by simp [hk0])] at hT
   obtain ⟨q1, q2, aoK, capK, q3, hK⟩ := hT
   simp only at q1 q2 q3
   subst q1; subst q2; subst q3
   obtain ⟨cn, hcn⟩ : ∃ cn, cn = cntTo P at_ n := ⟨_, rfl⟩
   have hkids : (fAt F at_).kids = cn := by rw [hS.kids at_ (by rw [hl]; exact hat), if_pos hk0, hl, hcn]
   rw [hkids] at j3
   rw [hk0] at j2
   rw [← hcn] at hw1
   have h3 : w1.heap[w.heap.size]? = some (.cells #[.int .i64 0, .string ⟨#[]⟩, .slice aoK cn capK] 86) := by rw [hw1]; exact heap_alloc_new w _
   obtain ⟨c0, c1, c2, -⟩ := three_cellsT h3
   have hG : w.heap.size < w1.heap.size := (Array.getElem?_eq_some_iff.1 h3).1
   have HK := Lib.hid (hK.keep (KeepS.of hb1) (fun i t => TreeAt.keep (KeepS.of hb1) k i t))
   have HkS : Hid (∀ wy, Below w1.heap.size w1 wy → KidsAt F P wy S (fun i t => TreeAt F P n wy S k i t) at_ n aoK) := Lib.hid (fun wy h => HK.out.keep (KeepS.of h) (fun i t => TreeAt.keep (KeepS.of h) k i t))
   have Hcn := Lib.hid hcn
   have Hc2 := Lib.hid c2
   have hcn14 : cn ≤ 14 := by rw [hcn]; have := cntTo_le P at_ n; omega
   have hcnt0 : Hid (cntTo P at_ (at_ + 1) = 0) := Lib.hid (cntTo_none _ _ _ (fun j h0 hj => by
    have := (HS.out.par j h0 (by rw [Hl.out]; omega)).1
    omega))
   subst hbe
   rw [← hcn]
   clear hc hp hc1 hp1 hk0 h3 hS hl ih hb1 hK HK hkids hcn
   go_enter Tryz.func70, Tryz.ntmps70
   go_upto_region 1 with fail
   rw [← hw1]
   clear hw1
   go_wp2
   go_quiet (fail)
   go_wp2
   go_loopw [9, 10] (fun nv iv wy => ∃ i : Nat, at_ < i ∧ i ≤ n ∧ nv = .int .i64 (cntTo P at_ i : Nat) ∧ iv = .int .i64 (i : Nat) ∧ Hid (Below w1.heap.size w1 wy)) (fun _ iv _ => n - (intOf iv).toNat)
   case atStart => exact ⟨at_ + 1, Nat.lt_succ_self _, hat, by rw [hcnt0.out]; rfl, by go_num, Lib.hid (below_drewN (Below.refl _ _) _)⟩
   case round =>
    obtain ⟨i, hi, hin, rfl, rfl, HB⟩ := hrel
    obtain ⟨y, hyy⟩ : ∃ y, y = wr := ⟨_, rfl⟩
    subst hyy
    clear j2 j3 c0 c1 c2
    by_cases hlt : i < n
    · have e1 : (i : Int) < (n : Int) := by omega
      have e2 : (0 : Int) ≤ (i : Int) := by omega
      obtain ⟨bp, op, hpe, hbp, jp⟩ := Hp.out i hlt
      have jp := (HB.out.cell (by exact hbp)).trans jp
      subst hpe
      rw [i64c, parL_at _ _ _ hlt, if_neg (by omega)] at jp
      obtain ⟨ci, hci⟩ : ∃ ci, ci = cntTo P at_ i := ⟨_, rfl⟩
      rw [← hci]
      obtain ⟨Pi, hPi⟩ : ∃ Pi, Pi = P i := ⟨_, rfl⟩
      rw [← hPi] at jp
      by_cases hP : Pi = at_
      · have hPn : P i = at_ := hPi.symm.trans hP
        rw [hP] at jp
        obtain ⟨b3, off3, hbe3, hb3, -, jr, -, -⟩ := Hc.out.fd Hl.out hlt
        cases hbe3
        have jr := (HB.out.cell (by exact hb)).trans jr
        obtain ⟨rp, hrp⟩ : ∃ rp, rp = (fAt F i).rep := ⟨_, rfl⟩
        have hrp2 : rp ≤ 2 := by rw [hrp]; exact (HS.out.kinds i (by rw [Hl.out]; exact hlt)).2
        rw [← hrp] at jr
        obtain ⟨bK, offK, ao2, len2, cap2, rfl, -, hbK, jk, hlk, hL⟩ := HkS.out y HB.out i hi hlt hPn
        rw [← hci] at jk
        rw [← hrp] at hlk
        obtain ⟨l0, l1, l2⟩ := hlk
        have cT := (HB.out.cell (by exact hG)).trans Hc2.out
        have hcl : ci < cn := by rw [hci, Hcn.out]; exact cntTo_lt P at_ i n (by omega) hPn hlt
        have e4 : (ci : Int) < (cn : Int) := by omega
        have e5 : (0 : Int) ≤ (ci : Int) := by omega
        have hnext : Hid (cntTo P at_ (i + 1) = ci + 1) := Lib.hid (by rw [cntTo_at _ _ _ (by omega) hPn, hci])
        have e6 : ¬ (50 : Int) < (len2 : Int) := by omega
        have hlk2 : rp = 0 ∧ len2 = 1 ∨ rp = 1 ∧ ¬ (1 : Int) < (len2 : Int) ∨ rp = 2 := by
         have : rp = 0 ∨ rp = 1 ∨ rp = 2 := by omega
         rcases this with h | h | h
         · exact .inl ⟨h, l0 h⟩
         · exact .inr (.inl ⟨h, by have := l1 h; omega⟩)
         · exact .inr (.inr h)
        have HL := Lib.hid hL
        obtain ⟨L, hLn⟩ : ∃ L, L = len2 := ⟨_, rfl⟩
        have hL3 : L ≤ 3 := by omega
        have HLt : Hid (∀ j, j < L → j < len2) := Lib.hid (fun j h => by omega)
        have HLi : Hid (∀ j : Nat, j < L → (j : Int) < (len2 : Int)) := Lib.hid (fun j h => by omega)
        have HLn : Hid (∀ j : Nat, ¬ j < L → ¬ (j : Int) < (len2 : Int)) := Lib.hid (fun j h => by omega)
        clear hrp hP hPi hci hPn l0 l1 hL hrp2 hLn
        rcases hlk2 with ⟨rfl, rfl⟩ | ⟨rfl, h1⟩ | rfl
        all_goals
         go_wp2
         go_loopw [12] (fun kv wz => ∃ j : Nat, kv = .int .i64 (j : Nat) ∧ j ≤ 3 ∧ Hid (Below y.heap.size y wz)) (fun kv _ => 3 - (intOf kv).toNat)
         case atStart => exact ⟨0, rfl, by omega, Lib.hid (Below.refl _ _)⟩
         case round =>
          obtain ⟨j, rfl, hj3, HBz⟩ := hrel
          obtain ⟨z, hzz⟩ : ∃ z, z = wr := ⟨_, rfl⟩
          subst hzz
          by_cases hjl : j < L
          · have e7 := HLi.out j hjl
            have e8 : (0 : Int) ≤ (j : Int) := by omega
            obtain ⟨bt, ot, t, rfl, -, hbt, u0, u1, u2, hTt⟩ := HL.out j (HLt.out j hjl)
            have u0 := (HBz.out.cell (by exact hbt)).trans u0
            have u1 := (HBz.out.cell (by exact hbt)).trans u1
            have u2 := (HBz.out.cell (by exact hbt)).trans u2
            have HIH := Lib.hid (IH.out i t z hlt (TreeAt.keep (KeepS.of HBz.out) k i t hTt) ((Hc.out.at HB.out).at HBz.out) ((Hp.out.at HB.out).at HBz.out))
            obtain ⟨sn, sS, sK⟩ := t
            clear hTt
            try simp only [Int.natCast_one, Nat.cast_one] at e7
            go_wp2_with fail
            refine HIH.out.mono ?_
            rintro e x ⟨rfl, hx⟩
            have HBx := Lib.hid (bmore HBz.out hx)
            clear hx
            go_wp2
            go_roundw
            case rel => exact ⟨j + 1, by go_num, by omega, HBx⟩
            case measure => simp [intOf]; omega
          · have e7 := HLn.out j hjl
            have HBx := Lib.hid (bmore HB.out HBz.out)
            try simp only [Int.natCast_one, Nat.cast_one] at e7
            go_wp2
            go_roundw
            case rel => exact ⟨i + 1, by omega, by omega, by rw [hnext.out]; rfl, by go_num, HBx⟩
            case measure => simp [intOf]; omega
      · have f3 : ((Pi : Int) == (at_ : Int)) = false := by rw [beq_eq_false_iff_ne]; omega
        have f4 : ¬ (Pi : Int) = (at_ : Int) := by omega
        have hPn : P i ≠ at_ := by rw [← hPi]; exact hP
        have hnx : Hid (cntTo P at_ (i + 1) = ci) := Lib.hid (by rw [cntTo_not _ _ _ (fun hh => hPn hh.2), hci])
        clear hPn hP hPi hci
        go_wp2
        go_roundw
        case rel => exact ⟨i + 1, by omega, by omega, by rw [hnx.out], by go_num, HB⟩
        case measure => simp [intOf]; omega
    · obtain rfl : i = n := by omega
      have e1 : ¬ (i : Int) < (i : Int) := by omega
      go_wp2
      go_ret
      exact ⟨rfl, Hb1.out.trans (HB.out.mono Hb1.out.size)⟩
 · rw [if_pos hk0] at hT
   obtain ⟨kd, hkd⟩ : ∃ kd, kd = (fAt F at_).kind := ⟨_, rfl⟩
   rw [← hkd] at j2 hT
   have f2 : ((kd : Int) == 0) = false := by rw [beq_eq_false_iff_ne]; omega
   have f3 : ¬ (kd : Int) = 0 := by omega
   obtain ⟨hT0, hT1⟩ := hT
   simp only at hT0
   subst hT0
   have h3 : w1.heap[w.heap.size]? = some (.cells #[.int .i64 tn, .string tS, .slice none 0 0] 86) := by rw [hw1]; exact heap_alloc_new w _
   obtain ⟨c0, c1, c2, -⟩ := three_cellsT h3
   have HL := Lib.hid (fun m => rleaf8_any kd (tn, tS, .slice none 0 0) (w1.drewN m) ⟨rfl, hT1⟩)
   clear hc hp hc1 hp1 hT1 hkd hk0 h3 hS hl ih hb1
   subst hbe
   go_enter Tryz.func70, Tryz.ntmps70
   go_upto_region 1 with fail
   rw [← hw1]
   clear hw1
   have p2 : ∀ w', Grows w1.drew w' → w'.cell? ⟨b, off + at_ * 4 + 2, none⟩ = some (.int .i64 (kd : Nat)) := fun w' hg => (Grows.toDrew hg).cell j2
   have p0 : ∀ w', Grows w1.drew w' → w'.cell? ⟨w.heap.size, 0, none⟩ = some (.int .i64 tn) := fun w' hg => (Grows.toDrew hg).cell c0
   have p1 : ∀ w', Grows w1.drew w' → w'.cell? ⟨w.heap.size, 1, none⟩ = some (.string tS) := fun w' hg => (Grows.toDrew hg).cell c1
   have p3 : ∀ w', Grows w1.drew w' → w'.cell? ⟨w.heap.size, 2, none⟩ = some (.slice none 0 0) := fun w' hg => (Grows.toDrew hg).cell c2
   go_wp2
   refine wp_region_linR Grows ⟨Grows.refl, Grows.trans⟩ (.take 0 (.take 1 (.take 2 (.take 3 (.take 4 (.take 5 (.one 6 (.take 7 (.done))))))))) [] (by kernel_rfl) (by kernel_rfl) (fun d _ _ _ _ h => by cases d <;> exact h) ?_
   iterate 6 (first
    | (refine wpLinR_take (v := ?_) rfl rfl (fun w' hw' => ?_) (fun K hK => ?_); rotate_left; (go_simp; rfl); (go_simp; refine hK _ ?_; clear hK K)))
   refine wpLinR_one rfl (fun K hK => ?_)
   go_simp
   refine (HL.out 1).mono ?_
   rintro e x ⟨rfl, hx⟩
   refine hK _ _ (.inr hx) ?_; clear hK K
   have Hx : Hid (Below w.heap.size w x) := Lib.hid (bmore (Hb1.out.drew) hx)
   clear p0 p1 p2 p3 hx
   refine wpLinR_take (v := ?_) rfl rfl (fun w' hw' => ?_) (fun K hK => ?_)
   rotate_left
   · go_simp; rfl
   go_simp; refine hK _ ?_; clear hK K
   refine wpLinR_nil ?_
   go_wp2
   go_ret
   exact ⟨rfl, Hx.out⟩
set_option maxHeartbeats 4000000 in
set_option maxRecDepth 100000 in
theorem Fits8_any (F : List Fd) (P dep : Nat → Nat) (anc : Nat → Nat → Nat) (hS : FinS F P dep anc) (aoS : Option Addr) (n capS : Nat) (S : Nat → Prop) (hl : F.length = n) (t : Tr) (w : World) (hT : TreeAt F P n w S n 0 t) (hc : CellsAt w w.heap.size aoS (n * 4) (wc fdV F)) :
 Calls Tryz.prog 38 #[.slice aoS n capS, .agg #[.int .i64 t.1, .string t.2.1, t.2.2]] w (SaysOk w) := by
 obtain ⟨ao3, m3, c3, h3⟩ := TreeAt.slice n 0 t hT
 obtain ⟨tn, tS, tK⟩ := t
 simp only at h3
 subst h3
 have hn : 0 < n := by rw [← hl]; exact hS.pos
 obtain ⟨w1, hw1⟩ : ∃ x, x = w.alloc (.cells #[.int .i64 tn, .string tS, .slice ao3 m3 c3] 86) := ⟨_, rfl⟩
 have hb1 : Below w.heap.size w w1 := by rw [hw1]; exact balloc (Below.refl _ _) _
 have h3 : w1.heap[w.heap.size]? = some (.cells #[.int .i64 tn, .string tS, .slice ao3 m3 c3] 86) := by rw [hw1]; exact heap_alloc_new w _
 obtain ⟨c0, c1, c2, -⟩ := three_cellsT h3
 have Hc := Lib.hid (hc.at hb1)
 have HT := Lib.hid (TreeAt.keep (KeepS.of hb1) n 0 _ hT)
 have Hb1 := Lib.hid hb1; have HS := Lib.hid hS; have Hl := Lib.hid hl
 have HP := Lib.hid (parents5_any F P dep anc hS aoS n capS w1.drew hl Hc.out.drew)
 clear hb1 hS hl hc hT h3
 go_enter Tryz.func38, Tryz.ntmps38
 go_upto_region 1 with fail
 rw [← hw1]
 clear hw1
 have p0 : ∀ w', Grows w1.drew w' → w'.cell? ⟨w.heap.size, 0, none⟩ = some (.int .i64 tn) := fun w' hg => (Grows.toDrew hg).cell c0
 have p1 : ∀ w', Grows w1.drew w' → w'.cell? ⟨w.heap.size, 1, none⟩ = some (.string tS) := fun w' hg => (Grows.toDrew hg).cell c1
 have p2 : ∀ w', Grows w1.drew w' → w'.cell? ⟨w.heap.size, 2, none⟩ = some (.slice ao3 m3 c3) := fun w' hg => (Grows.toDrew hg).cell c2
 refine wp_region_linR Grows ⟨Grows.refl, Grows.trans⟩ (.take 0 (.take 1 (.take 3 (.one 2 (.one 4 (.take 5 (.done))))))) [] (by kernel_rfl) (by kernel_rfl) (fun d _ _ _ _ h => by cases d <;> exact h) ?_
 iterate 3 (first
  | (refine wpLinR_take (v := ?_) rfl rfl (fun w' hw' => ?_) (fun K hK => ?_); rotate_left; (go_simp; rfl); (go_simp; refine hK _ ?_; clear hK K)))
 refine wpLinR_one rfl (fun K hK => ?_)
 go_simp
 refine HP.out.mono ?_
 rintro e x ⟨aoP, capP, rfl, hcP, -, hx⟩
 refine hK _ _ (.inr hx) ?_; clear hK K
 have Hx := Lib.hid hx
 have HF := Lib.hid (fits8_any F P dep anc HS.out aoS n capS aoP capP S Hl.out n 0 (tn, tS, .slice ao3 m3 c3) x hn (TreeAt.keep (KeepS.of hx) n 0 _ (TreeAt.keep (KeepS.of (Below.drew (Below.refl _ _))) n 0 _ HT.out)) (Hc.out.drew.at hx) hcP)
 clear hx hcP p0 p1 p2
 refine wpLinR_one rfl (fun K hK => ?_)
 go_simp
 refine HF.out.mono ?_
 rintro e y ⟨rfl, hy⟩
 refine hK _ _ (.inr hy) ?_; clear hK K
 have Hy : Hid (Below w.heap.size w y) := Lib.hid (bmore (bmore (Hb1.out.drew) Hx.out) hy)
 clear hy
 refine wpLinR_take (v := ?_) rfl rfl (fun w' hw' => ?_) (fun K hK => ?_)
 rotate_left
 · go_simp; rfl
 go_simp; refine hK _ ?_; clear hK K
 refine wpLinR_nil ?_
 go_wp2
 go_ret
 exact ⟨rfl, Hy.out⟩
end Go.Proofs.YtebmbkbnngeabaaGreat
