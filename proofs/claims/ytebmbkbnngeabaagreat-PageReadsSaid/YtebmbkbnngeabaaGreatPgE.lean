/- Chapter 14's document: the walks over none and value. -/
import Derived.Test.YtebmbkbnngeabaaGreatPgD
set_option linter.unusedSimpArgs false
namespace Go.Proofs.YtebmbkbnngeabaaGreat
open Go.RowKit
set_option linter.unusedVariables false
theorem getD_split (c1 : List Cd) (c : Cd) (c2 : List Cd) (q : Nat) : (c1 ++ c :: c2).getD q cd0 = if q = c1.length then c else if q < c1.length then c1.getD q cd0 else c2.getD (q - c1.length - 1) cd0 := by
 rw [List.getD_eq_getElem?_getD]
 by_cases h : q = c1.length
 · subst h; simp
 · rw [if_neg h]
   by_cases h2 : q < c1.length
   · rw [if_pos h2, List.getElem?_append_left h2, List.getD_eq_getElem?_getD]
   · rw [if_neg h2, List.getElem?_append_right (by omega)]
     obtain ⟨t, ht⟩ : ∃ t, q - c1.length = t + 1 := ⟨q - c1.length - 1, by omega⟩
     rw [ht, List.getElem?_cons_succ, List.getD_eq_getElem?_getD, Nat.add_sub_cancel]
theorem Grew.one {C : WkC} {dep : Nat → Nat} {anc : Nat → Nat → Nat} (hC : WkOk C dep anc) {at_ : Nat} (hat : at_ < C.n) (hk : (fAt C.F at_).kind ≠ 0) {c1 c2 : List Cd} {c c' : Cd} (hq : c1.length = nLf C.F at_) (hN : c'.N = c.N + 1) : Grew C (Wt dep anc at_) (c1 ++ c :: c2) (c1 ++ c' :: c2) := fun j h1 h2 => by
 rw [getD_split, getD_split]
 by_cases h : nLf C.F j = c1.length
 · rw [if_pos h, if_pos h, hN]
   have := nLf_inj C.F h2 hk (h.trans hq)
   subst this
   have := Wt_self hC.fin.toSch j (by rw [hC.len]; exact hat)
   omega
 · rw [if_neg h, if_neg h]
   omega
theorem cs_at {C : WkC} {w : World} {g : Nat} {cs : List Cd} {dep : Nat → Nat} {anc : Nat → Nat → Nat} (hC : WkOk C dep anc) (h : Wk C w g cs) {at_ : Nat} (hat : at_ < C.n) (hk : (fAt C.F at_).kind ≠ 0) (hR : Room C (Wt dep anc at_) cs) :
 ∃ c1 c c2, cs = c1 ++ c :: c2 ∧ c1.length = nLf C.F at_ ∧ c.N < 100000 := by
 have hq : nLf C.F at_ < cs.length := by rw [h.len, hC.m]; exact nLf_lt C.F hk hat
 refine ⟨cs.take (nLf C.F at_), cs[nLf C.F at_], cs.drop (nLf C.F at_ + 1), ?_, ?_, ?_⟩
 · rw [List.getElem_cons_drop, List.take_append_drop]
 · rw [List.length_take]; omega
 · have h1 := hR at_ hat hk
   have h2 := Wt_self hC.fin.toSch at_ (by rw [hC.len]; exact hat)
   rw [List.getD_eq_getElem?_getD, List.getElem?_eq_getElem hq] at h1
   simp only [Option.getD_some] at h1
   omega
theorem okV0 : okV ((0, ⟨#[]⟩) : Vl) ∧ ((0, ⟨#[]⟩) : Vl).2.size ≤ 8 := ⟨⟨⟨by decide, by decide⟩, by decide⟩, by decide⟩
set_option maxHeartbeats 8000000 in
set_option maxRecDepth 100000 in
theorem none14_any (C : WkC) (dep : Nat → Nat) (anc : Nat → Nat → Nat) (hC : WkOk C dep anc) (g : Nat) : ∀ (k at_ r d : Nat) (cs : List Cd) (w : World), C.n - at_ ≤ k → at_ < C.n → Wk C w g cs → Room C (Wt dep anc at_) cs → r ≤ 100 → d ≤ 100 →
 Calls Tryz.prog 72 #[.pointer (some ⟨g, 0, none⟩), .int .i64 (at_ : Nat), .int .i64 (r : Nat), .int .i64 (d : Nat)] w (GaveWk C g (Wt dep anc at_) cs w) := by
 intro k
 induction k with
 | zero => intro at_ r d cs w h1 h2; omega
 | succ k ih =>
 intro at_ r d cs w hk hat h hR hr hd
 have hn14 : C.n ≤ 14 := by rw [← hC.len]; exact hC.fin.small
 obtain ⟨k0, k1, k2, k3, k4⟩ := five_cells h.blk
 have hgw := h.lt
 obtain ⟨b, off, hbe, hb, -, -, j2, -⟩ := h.s.fd hC.len hat
 rw [hbe] at k0
 obtain ⟨kd, hkd⟩ : ∃ kd, kd = (fAt C.F at_).kind := ⟨_, rfl⟩
 have hkd4 : kd ≤ 4 := by rw [hkd]; exact (hC.fin.kinds at_ (by rw [hC.len]; exact hat)).1
 rw [← hkd] at j2
 have f0 : (0 : Int) ≤ (at_ : Int) := by omega
 have f1 : (at_ : Int) < (C.n : Int) := by omega
 have HC := Lib.hid hC; have H := Lib.hid h; have HR := Lib.hid hR; have Hkd := Lib.hid hkd
 have IH := Lib.hid ih
 clear hC h hR hkd ih
 by_cases hk0 : kd = 0
 · subst hk0
   go_enter Tryz.func72, Tryz.ntmps72
   go_wp2
   go_loopw [8] (fun iv wy => ∃ (i : Nat) (cs' : List Cd), at_ < i ∧ i ≤ C.n ∧ iv = .int .i64 (i : Nat) ∧ Hid (Wk C wy g cs') ∧ Hid (Grew C (Ut dep anc at_ i) cs cs') ∧ Hid (Fr g w wy)) (fun iv _ => C.n - (intOf iv).toNat)
   case atStart => exact ⟨at_ + 1, cs, Nat.lt_succ_self _, hat, by go_num, H, Lib.hid (Grew.refl _ _ _), Lib.hid (Fr.refl _ _)⟩
   case round =>
    obtain ⟨i, cs', hi, hin, rfl, HW, HG, HB⟩ := hrel
    obtain ⟨z, hzz⟩ : ∃ z, z = wr := ⟨_, rfl⟩
    subst hzz
    obtain ⟨m0, m1, -, -, -⟩ := five_cells HW.out.blk
    by_cases hlt : i < C.n
    · have e1 : (i : Int) < (C.n : Int) := by omega
      have e2 : (0 : Int) ≤ (i : Int) := by omega
      have hiF : i < C.F.length := by rw [HC.out.len]; exact hlt
      obtain ⟨bp, op, hpe, hbp, jp⟩ := (HW.out.p) i hlt
      rw [hpe] at m1
      rw [i64c, parL_at _ _ _ hlt, if_neg (by omega)] at jp
      obtain ⟨Pi, hPi⟩ : ∃ Pi, Pi = C.P i := ⟨_, rfl⟩
      rw [← hPi] at jp
      by_cases hP : Pi = at_
      · have hPa : C.P i = at_ := by rw [← hPi, hP]
        have hst := fun j (hj : j < C.n) => Ut_step HC.out.fin.toSch at_ i j (by omega) hiF (by rw [HC.out.len]; exact hj) hPa
        have hRi : Room C (Wt dep anc i) cs' := HR.out.after HG.out (fun j hj => by have := hst j hj; have := Ut_le (dep := dep) (anc := anc) at_ (i + 1) j; omega)
        have HIH := Lib.hid (IH.out i r d cs' z (by omega) hlt HW.out hRi hr hd)
        have Hst := Lib.hid hst
        rw [hP] at jp
        clear hPi hP hPa hst hRi
        go_wp2_with fail
        refine HIH.out.mono ?_
        rintro e x ⟨rfl, cs2, HW2, HG2, HB2⟩
        have HG3 : Hid (Grew C (Ut dep anc at_ (i + 1)) cs cs2) := Lib.hid (HG.out.trans HG2.out (fun j hj => by have := Hst.out j hj; omega))
        have HB3 := Lib.hid (HB.out.trans HB2.out)
        clear m0 m1 jp hpe hbp
        go_wp2
        go_roundw
        case rel => exact ⟨i + 1, cs2, by omega, by omega, by go_num, HW2, HG3, HB3⟩
        case measure => simp [intOf]; omega
      · have f3 : ((Pi : Int) == (at_ : Int)) = false := by rw [beq_eq_false_iff_ne]; omega
        have f4 : ¬ (Pi : Int) = (at_ : Int) := by omega
        have HG3 : Hid (Grew C (Ut dep anc at_ (i + 1)) cs cs') := Lib.hid (HG.out.mono (fun j hj => by rw [Ut_skip HC.out.fin.toSch at_ i j (by rw [HC.out.len]; exact hj) (by rw [← hPi]; exact hP)]; exact Nat.le_refl _))
        clear hP hPi
        go_wp2
        go_roundw
        case rel => exact ⟨i + 1, cs', by omega, by omega, by go_num, HW, HG3, HB⟩
        case measure => simp [intOf]; omega
    · obtain rfl : i = C.n := by omega
      have e1 : ¬ (C.n : Int) < (C.n : Int) := by omega
      have HG3 : Hid (Grew C (Wt dep anc at_) cs cs') := Lib.hid (HG.out.mono (fun j hj => Ut_le _ _ _))
      go_wp2
      go_end0
      exact ⟨rfl, cs', HW, HG3, HB⟩
 · have f2 : ((kd : Int) != 0) = true := by simp [bne_iff_ne]; omega
   have f3 : ¬ (kd : Int) = 0 := by omega
   have Hk0 : Hid ((fAt C.F at_).kind ≠ 0) := Lib.hid (by rw [← Hkd.out]; exact hk0)
   obtain ⟨c1, c, c2, hcs, hq, hN⟩ := cs_at HC.out H.out hat Hk0.out HR.out
   have HCl := Lib.hid (cell14_any C dep anc HC.out g at_ r d (0, ⟨#[]⟩) false c1 c c2 w (by rw [← hcs]; exact H.out) hat Hk0.out hq hN hr hd okV0)
   have Hcs := Lib.hid hcs; have Hq := Lib.hid hq
   clear hcs hq hN hk0
   go_enter Tryz.func72, Tryz.ntmps72
   go_wp2_with fail
   refine HCl.out.mono ?_
   rintro e x ⟨rfl, c', hN', HW, HB⟩
   have HG : Hid (Grew C (Wt dep anc at_) cs (c1 ++ c' :: c2)) := Lib.hid (by rw [Hcs.out]; exact Grew.one HC.out hat Hk0.out Hq.out hN')
   go_wp2
   exact bodyPost_ret (results_none rfl _ _ _) rfl ⟨rfl, _, HW, HG, HB⟩
end Go.Proofs.YtebmbkbnngeabaaGreat
