/- Chapter 12: the walk over the document's Read. -/
import Derived.Test.YtebmbkbnngeabaaGreatDelRD
import Derived.Test.YtebmbkbnngeabaaGreatBunC
import Derived.Test.YtebmbkbnngeabaaGreatBunB
import Derived.BigQuiet
set_option linter.unusedSimpArgs false
namespace Go.Proofs.YtebmbkbnngeabaaGreat
open Go.RowKit
set_option linter.unusedVariables false
theorem own_one (w : World) (E : TypeId) (x : Value) : (w.alloc (.cells #[x] E)).ownsRow w.heap.size E 1 (.slice (some ⟨w.heap.size, 0, none⟩) 1 1) 1 [x] :=
 ⟨by simp, .inr ⟨w.heap.size, 1, #[x], rfl, Nat.le_refl _, heap_alloc_new w _, Nat.le_refl _, by decide, by simp, by simp⟩⟩
def RSd (w x : World) (g : Nat) (b : List Nat) (at_ err : Nat) (v : Value) (l : List Int) : Prop := w.heap.size ≤ g ∧ RRd x g w.heap.size b at_ err ∧ x.ownsRow (g + 1) 3 1 v l.length (i64v l) ∧ Below w.heap.size w x
section
variable {w x x' : World} {g : Nat} {b : List Nat} {at_ err : Nat} {v : Value} {l : List Int}
theorem RSd.keep (h : RSd w x g b at_ err v l) (hb : Below x.heap.size x x') : RSd w x' g b at_ err v l := ⟨h.1, h.2.1.keep hb, own_below h.2.2.1 hb, bmore h.2.2.2 hb⟩
theorem RSd.step {at2 err2 : Nat} (h : RSd w x g b at_ err v l) (hr : RRd x' g w.heap.size b at2 err2) (hb : But g x x') : RSd w x' g b at2 err2 v l :=
 ⟨h.1, hr, own_butB h.2.2.1 hb (Nat.lt_succ_self g), hb.below h.2.2.2 h.1 h.2.2.2.size⟩
end
def errD (x : World) (g : Nat) : Int := match x.cell? ⟨g, 2, none⟩ with
 | some (.int _ e) => e
 | _ => 0
def lenD (v : Value) : Nat := match v with
 | .slice _ m _ => m
 | _ => 0
def rmuD (v : Value) (x : World) (g n : Nat) : Nat := if errD x g = 0 then n - lenD v + 1 else 0
theorem RSd.err {w x : World} {g : Nat} {b : List Nat} {at_ err : Nat} {v : Value} {l : List Int} (h : RSd w x g b at_ err v l) : errD x g = (err : Nat) := by
 obtain ⟨-, ⟨ao, cap, hg, -⟩, -⟩ := h
 obtain ⟨-, -, c2, -, -⟩ := three_cells hg
 unfold errD; rw [c2]
theorem rmuD_zero {w x : World} {g : Nat} {b : List Nat} {at_ : Nat} {ao : Option Addr} {m c n : Nat} {l : List Int} (h : RSd w x g b at_ 0 (.slice ao m c) l) : rmuD (.slice ao m c) x g n = n - m + 1 := by
 have h2 : errD x g = 0 := h.err
 unfold rmuD; rw [if_pos h2]; rfl
theorem rmuD_err {w x : World} {g : Nat} {b : List Nat} {at_ err : Nat} {v : Value} {n : Nat} {l : List Int} (h : RSd w x g b at_ err v l) (he : err ≠ 0) : rmuD v x g n = 0 := by
 unfold rmuD; rw [if_neg (by rw [h.err]; omega)]
def ToCome (b : List Nat) (N : Nat) (R : List Int × Nat × Nat) (at_ nl : Nat) (l : List Int) : Prop :=
 ∃ K, N - nl ≤ K ∧ (∀ R0 : List Nat × List Int × Nat, R0 = blocksR K (b.drop at_) l N → R = if R0.2.2 ≠ 0 then ([], 0, R0.2.2) else (R0.2.1, b.length - R0.1.length, 0))
theorem ToCome.bad {b : List Nat} {N : Nat} {R : List Int × Nat × Nat} {at_ nl : Nat} {l : List Int} (h : ToCome b N R at_ nl l) (hn : nl = l.length) (hlt : nl < N) (e : Nat) (he : e ≠ 0) (hb : (blockR (b.drop at_) l (min 32 (N - nl))).2.2 = e) : R = ([], 0, e) := by
 obtain ⟨K, hK, hR⟩ := h
 obtain ⟨K', rfl⟩ : ∃ K', K = K' + 1 := ⟨K - 1, by omega⟩
 subst hn
 rw [Nat.min_comm] at hb
 have := hR _ rfl
 rw [blocksR_bad K' _ _ _ hlt (by rw [hb]; exact he), hb, if_pos he] at this
 exact this
theorem ToCome.go {b : List Nat} {N : Nat} {R : List Int × Nat × Nat} {at_ nl at2 nl2 : Nat} {l l2 : List Int} (h : ToCome b N R at_ nl l) (hn : nl = l.length) (hlt : nl < N) (hb : blockR (b.drop at_) l (min 32 (N - nl)) = (b.drop at2, l2, 0)) (hn2 : nl < nl2) : ToCome b N R at2 nl2 l2 := by
 obtain ⟨K, hK, hR⟩ := h
 obtain ⟨K', rfl⟩ : ∃ K', K = K' + 1 := ⟨K - 1, by omega⟩
 subst hn
 rw [Nat.min_comm] at hb
 refine ⟨K', by omega, fun R0 h0 => hR R0 ?_⟩
 rw [blocksR_go K' _ _ _ hlt (by rw [hb]), hb, h0]
theorem ToCome.done {b : List Nat} {N : Nat} {R : List Int × Nat × Nat} {at_ nl : Nat} {l : List Int} (h : ToCome b N R at_ nl l) (hn : nl = l.length) (hlt : ¬ nl < N) (ha : at_ ≤ b.length) : R = (l, at_, 0) := by
 obtain ⟨K, hK, hR⟩ := h
 subst hn
 have := hR _ rfl
 rw [blocksR_done K _ _ _ hlt, if_neg (by simp), List.length_drop] at this
 rw [this]
 refine Prod.ext rfl (Prod.ext ?_ rfl)
 simp only []; omega
theorem dReadM_start (b : List Nat) (N : Nat) (h1 : 1 ≤ N) (h2 : N ≤ 4000) : ((rsA b 0).2.2 ≠ 0 → dReadM b N = ([], 0, (rsA b 0).2.2)) ∧ ((rsA b 0).2.2 = 0 → ToCome b N (dReadM b N) (rsA b 0).2.1 1 [zagI (rsA b 0).1]) := by
 have hz := zigR_rs b 0
 rw [List.drop_zero] at hz
 have hM : dReadM b N = if (zigR b).2.2 ≠ 0 then ([], 0, (zigR b).2.2) else if (blocksR N (zigR b).2.1 [(zigR b).1] N).2.2 ≠ 0 then ([], 0, (blocksR N (zigR b).2.1 [(zigR b).1] N).2.2)
  else ((blocksR N (zigR b).2.1 [(zigR b).1] N).2.1, b.length - (blocksR N (zigR b).2.1 [(zigR b).1] N).1.length, 0) := by
  unfold dReadM
  rw [if_neg (by omega), if_neg (by omega), Int.toNat_natCast]
 rw [hM, hz]
 refine ⟨fun h => ?_, fun h => ?_⟩
 · rw [if_pos h, if_pos (by exact h)]
 · have e : ¬ (rsA b 0).2.2 ≠ 0 := fun h' => h' h
   rw [if_neg e]
   exact ⟨N, by omega, fun R0 h0 => by rw [h0]; exact if_neg (fun h' => h' rfl)⟩
set_option maxHeartbeats 16000000 in
set_option maxRecDepth 100000 in
theorem rdRead_any (ao : Option Addr) (L cap : Nat) (b : List Nat) (n : Int) (w : World) (hl : b.length = L) (h256 : ∀ x ∈ b, x < 256) (hL : L ≤ 1000000) (hz0 : ao = none → L = 0) (hc : CellsAt w w.heap.size ao L (u8c b)) :
 Calls Tryz.prog 67 #[.slice ao L cap, .int .i64 n] w (GaveRead w (dReadM b n)) := by
 have Hl := Lib.hid hl; have Hc := Lib.hid hc; have H256 := Lib.hid h256
 clear hl hc h256
 by_cases hneg : n < 0
 · have d1 : decide (n < 0) = true := decide_eq_true hneg
   have hM : Hid (dReadM b n = ([], 0, 1)) := Lib.hid (by unfold dReadM; rw [if_pos (.inl hneg)])
   go_enter Tryz.func67, Tryz.ntmps67
   go_wp2
   go_ret3
   rw [hM.out]
   exact GaveRead.none 1 (Below.refl _ _)
 by_cases hbig : 4000 < n
 · have d1 : decide (n < 0) = false := decide_eq_false hneg
   have d2 : decide (4000 < n) = true := decide_eq_true hbig
   have hM : Hid (dReadM b n = ([], 0, 1)) := Lib.hid (by unfold dReadM; rw [if_pos (.inr hbig)])
   go_enter Tryz.func67, Tryz.ntmps67
   go_wp2
   go_ret3
   rw [hM.out]
   exact GaveRead.none 1 (Below.refl _ _)
 have d1 : decide (n < 0) = false := decide_eq_false hneg
 have d2 : decide (4000 < n) = false := decide_eq_false hbig
 by_cases hz : n = 0
 · have hM : Hid (dReadM b n = ([], 0, 0)) := Lib.hid (by unfold dReadM; rw [if_neg (by omega), if_pos hz])
   subst hz
   go_enter Tryz.func67, Tryz.ntmps67
   go_wp2
   go_ret3
   rw [hM.out]
   exact GaveRead.none 0 (Below.refl _ _)
 obtain ⟨N, rfl⟩ : ∃ N : Nat, n = N := ⟨n.toNat, by omega⟩
 have hN1 : 1 ≤ N := by omega
 have hN2 : N ≤ 4000 := by omega
 have hst := dReadM_start b N hN1 hN2
 have hAle := rsA_le b 0 (Nat.zero_le _)
 obtain ⟨R, hR⟩ : ∃ R, R = dReadM b N := ⟨_, rfl⟩
 rw [← hR] at hst ⊢
 have hz2 : (N : Int) ≠ 0 := hz
 have Hst := Lib.hid hst
 have hblen : b.length ≤ 1000000 := by rw [Hl.out]; exact hL
 have Hblen := Lib.hid hblen
 clear hR hst hblen
 go_enter Tryz.func67, Tryz.ntmps67
 go_wp2_with fail
 refine (rnew_any ao L cap b _ Hl.out Hc.out hz0 (by omega)).mono ?_
 rintro e x1 ⟨g, rfl, hg, hr1, hx1⟩
 have HV := Lib.hid (rvread_any g b 0 0 x1 hr1 Hblen.out (Nat.zero_le _) H256.out)
 have h0 : Hid (∀ x2, RRd x2 g w.heap.size b (rsA b 0).2.1 (rsA b 0).2.2 → But g x1 x2 → Below w.heap.size w x2 ∧ w.heap.size ≤ g) := Lib.hid (fun x2 hr hb => ⟨hb.below hx1 hg hx1.size, hg⟩)
 rw [show rvRead b 0 0 = rsA b 0 from rfl] at HV
 obtain ⟨A, hA⟩ : ∃ A, A = rsA b 0 := ⟨_, rfl⟩
 rw [← hA] at HV h0 Hst hAle
 obtain ⟨v1, at1, err1⟩ := A
 simp only at HV h0 Hst hAle
 have hv64 := hAle.2
 have Hat := Lib.hid hAle.1
 clear hr1 hg hx1 hA hAle
 go_wp2_with fail
 refine HV.out.mono ?_
 rintro e x2 ⟨rfl, hr2, hb2⟩
 have hbx := h0.out x2 hr2 hb2
 have hS0 : Hid (RSd w (x2.alloc (.cells #[.int .i64 (zagI v1)] 3)) g b at1 err1 (.slice (some ⟨x2.heap.size, 0, none⟩) 1 1) [zagI v1]) := Lib.hid
  ⟨hbx.2, hr2.keep ((Below.refl _ _).alloc (Nat.le_refl _) _), own_base (own_one x2 3 (.int .i64 (zagI v1))) hr2.lt, balloc hbx.1 _⟩
 clear hr2 hb2 hbx h0
 go_wp2_with fail
 refine (rzag_any v1 _ hv64).mono ?_
 rintro e x3 ⟨rfl, rfl⟩
 go_wp2
 go_loopw [8] (fun v z => ∃ (l : List Int) (at_ err nl : Nat) (ao8 : Option Addr) (cap8 : Nat), v = .slice ao8 nl cap8 ∧ Hid (nl = l.length) ∧ nl ≤ N ∧ 1 ≤ nl ∧ Hid (RSd w z g b at_ err (.slice ao8 nl cap8) l) ∧ Hid (at_ ≤ b.length) ∧ Hid (err = 0 → ToCome b N R at_ nl l) ∧ Hid (err ≠ 0 → R = ([], 0, err))) (fun v z => rmuD v z g N)
 case atStart => exact ⟨[zagI v1], at1, err1, 1, some ⟨x2.heap.size, 0, none⟩, 1, rfl, Lib.hid rfl, hN1, Nat.le_refl _, hS0, Hat, Lib.hid Hst.out.2, Lib.hid Hst.out.1⟩
 case round =>
  clear hS0 Hat Hst HV hv64
  obtain ⟨l, at_, err, nl, ao8, cap8, rfl, Hnl, hnN, hn1, hS, hat, hTC, hTE⟩ := hrel
  obtain ⟨z, hzz⟩ : ∃ z, z = wr := ⟨_, rfl⟩
  subst hzz
  obtain ⟨-, ⟨aoR, capR, hgR, -⟩, -⟩ := hS.out
  obtain ⟨c0, c1, c2, f1, f2⟩ := three_cells hgR
  clear hgR
  by_cases he : err = 0
  · subst he
    replace hTC := Lib.hid (hTC.out rfl)
    clear hTE
    by_cases hlt : nl < N
    · obtain ⟨k, hk⟩ : ∃ k, k = min 32 (N - nl) := ⟨_, rfl⟩
      have q1 : (nl : Int) < (N : Int) := by omega
      have q2 : decide (nl < N) = true := decide_eq_true hlt
      have hmin := fun w' : World => run_min_int2' (P := Tryz.prog) (w := w') #[3, 3] 3 .i64 32 ((N : Int) - (nl : Int)) (k : Int) (by omega)
      have hk32 : k ≤ 32 := by omega
      have hk1 : 1 ≤ k := by omega
      have HV := Lib.hid (rvread_any g b at_ 0 z hS.out.2.1 Hblen.out hat.out H256.out)
      have hAle := rsA_le b at_ hat.out
      have hBle := rsB_le b at_ hat.out H256.out
      have hCle := rsC_le b at_ k hat.out H256.out
      have hblk := rs_block b at_ k l hat.out H256.out
      have hBd : rsB b at_ = rrGet b (rsA b at_).2.1 (rsA b at_).2.2 1 := rfl
      have hEd : rsE b at_ = if 64 < (rsB b at_).1 then (if (rsB b at_).2.2 = 0 then 10 else (rsB b at_).2.2) else (rsB b at_).2.2 := rfl
      have hCd : rsC b at_ k = rrTake b (rsB b at_).2.1 (rsE b at_) ((packSize k (rsB b at_).1 : Nat) : Int) := rfl
      rw [show rvRead b at_ 0 = rsA b at_ from rfl] at HV
      obtain ⟨A, hA⟩ : ∃ A, A = rsA b at_ := ⟨_, rfl⟩
      rw [← hA] at HV hAle hblk hBd
      obtain ⟨B, hB⟩ : ∃ B, B = rsB b at_ := ⟨_, rfl⟩
      rw [← hB] at hBle hblk hBd hEd hCd
      obtain ⟨err3, h3⟩ : ∃ B, B = rsE b at_ := ⟨_, rfl⟩
      rw [← h3] at hEd hCd
      obtain ⟨C, hC⟩ : ∃ C, C = rsC b at_ k := ⟨_, rfl⟩
      rw [← hC] at hCle hblk hCd
      obtain ⟨v1, at1, err1⟩ := A
      obtain ⟨wd, at2, err2⟩ := B
      obtain ⟨xs, at3, err4⟩ := C
      simp only at HV hAle hBle hCle hblk hBd hEd hCd
      have HG : Hid (∀ x : World, RRd x g w.heap.size b at1 err1 → Calls Tryz.prog 62 #[.pointer (some ⟨g, 0, none⟩), .int .i64 1] x fun r w' => r = .returned (.int .u64 (wd : Nat)) ∧ RRd w' g w.heap.size b at2 err2 ∧ But g x w') := Lib.hid (fun x hx => by
       have h := rrget_any g b at1 err1 1 x hx Hblen.out hAle.1 H256.out
       rw [← hBd] at h; exact h)
      have HT : Hid (∀ x : World, RRd x g w.heap.size b at2 err3 → Calls Tryz.prog 63 #[.pointer (some ⟨g, 0, none⟩), .int .i64 ((packSize k wd : Nat) : Int)] x (RTook x g w.heap.size b (xs, at3, err4))) := Lib.hid (fun x hx => by
       have h := rrtake_any g b at2 err3 ((packSize k wd : Nat) : Int) x hx Hblen.out hBle.1
       rw [← hCd] at h; exact h)
      have Hblk := Lib.hid hblk; have Hat3 := Lib.hid hCle.1; have Hx256 := Lib.hid hCle.2.1; have Hxlen := Lib.hid hCle.2.2; have hv64 := hAle.2; have hwd256 := hBle.2
      have hk' := Lib.hid hk; have Hlt := Lib.hid hlt
      obtain ⟨M, hM⟩ : ∃ M, M = k * wd := ⟨_, rfl⟩
      have hM2 : M ≤ 32 * 256 := by rw [hM]; exact Nat.mul_le_mul hk32 (by omega)
      have eM : (k : Int) * (wd : Int) = (M : Int) := by rw [hM]; simp
      obtain ⟨S, hSd⟩ : ∃ S, S = (M + 7) / 8 := ⟨_, rfl⟩
      have eS : ((M : Int) + 7) / 8 = (S : Int) := by omega
      have hpS : packSize k wd = S := by unfold packSize; rw [← hM, hSd]
      rw [hpS] at HT
      have wwd : IntKind.i64.wrap (wd : Int) = (wd : Int) := IntWalk.i64_in _ (by omega)
      have HEd := Lib.hid hEd
      clear hAle hBle hCle hblk hBd hEd hCd hA hB h3 hC hk hlt hM hSd hpS
      go_wp2_with fail
      refine HV.out.mono ?_
      rintro e y1 ⟨rfl, hr, hb⟩
      have hS1 := Lib.hid (hS.out.step hr hb)
      clear hr hb
      go_wp2_with fail
      refine (rzag_any v1 _ hv64).mono ?_
      rintro e y2 ⟨rfl, rfl⟩
      go_wp2_with fail
      refine (HG.out _ hS1.out.2.1).mono ?_
      rintro e y2 ⟨rfl, hr, hb⟩
      have hS2 := Lib.hid (hS1.out.step hr hb)
      clear hr hb
      by_cases h64 : 64 < wd
      · have q3 : (64 : Int) < (wd : Int) := by omega
        have h4 : Hid (err4 ≠ 0) := Lib.hid (fun h => by have := (Hblk.out.2 h).1; omega)
        have hE3 : Hid (err3 = if err2 = 0 then 10 else err2) := Lib.hid (by rw [HEd.out, if_pos h64])
        have HR := Lib.hid (hTC.out.bad Hnl.out Hlt.out err4 h4.out (by rw [← hk'.out]; exact Hblk.out.1 h4.out))
        clear h64
        go_wp2_with fail
        refine (rfail_any g b at2 err2 10 _ hS2.out.2.1).mono ?_
        rintro e y3 ⟨rfl, hr, hb⟩
        rw [← hE3.out] at hr
        have hS3 := Lib.hid (hS2.out.step hr hb)
        clear hr hb
        go_wp2_with fail
        refine (HT.out _ hS3.out.2.1).mono ?_
        rintro e y4 ⟨aoX, capX, rfl, -, -, hr, hb⟩
        have hS4 := Lib.hid (hS3.out.step hr hb)
        clear hr hb
        obtain ⟨-, ⟨ao4, cap4, hg4, -⟩, -⟩ := hS4.out
        obtain ⟨k0, k1, k2, -, -⟩ := three_cells hg4
        have b1 : ((err4 : Int) == 0) = false := by rw [beq_eq_false_iff_ne]; have := h4.out; omega
        have b2 : ((err4 : Int) != 0) = true := by rw [bne_iff_ne]; have := h4.out; omega
        have HSB := Lib.hid hS4.out.2.2.2
        clear hg4
        go_wp2
        go_quiet (fail)
        go_wp2
        go_ret3
        rw [HR.out]
        exact GaveRead.none err4 (below_drewN HSB.out _)
      · have q3 : ¬ (64 : Int) < (wd : Int) := by omega
        have hE3 : Hid (err3 = err2) := Lib.hid (by rw [HEd.out, if_neg h64])
        rw [← hE3.out] at hS2
        have h64' : wd ≤ 64 := by omega
        clear h64
        go_wp2_with fail
        refine (HT.out _ hS2.out.2.1).mono ?_
        rintro e y4 ⟨aoX, capX, rfl, hcX, -, hr, hb⟩
        have hS4 := Lib.hid (hS2.out.step hr hb)
        have HcX := Lib.hid hcX
        clear hr hb hcX
        obtain ⟨-, ⟨ao4, cap4, hg4, -⟩, -⟩ := hS4.out
        obtain ⟨k0, k1, k2, -, -⟩ := three_cells hg4
        clear hg4
        by_cases h4 : err4 = 0
        · subst h4
          obtain ⟨us, hus⟩ : ∃ us, us = unpackSpec xs k wd := ⟨_, rfl⟩
          have hB := (Hblk.out.2 rfl).2
          have hnil := unpackSpec_no xs k wd
          have hul := unpackSpec_ok_length xs k wd
          have hu64 := unpackSpec_lt xs k wd
          have HU := Lib.hid (runpack_any aoX xs.length capX (k : Nat) (wd : Nat) xs y4 rfl Hx256.out (by have := Hxlen.out; have := Hblen.out; omega) HcX.out)
          rw [← hus] at hB hnil hul hu64 HU
          have HB := Lib.hid hB; have Hnil := Lib.hid hnil; have Hul := Lib.hid hul; have Hu64 := Lib.hid hu64
          obtain ⟨vs, er5⟩ := us
          simp only at HB Hnil Hul Hu64
          clear hus hB hnil hul hu64 Hblk Hx256 HT HG HV
          go_wp2_with fail
          refine HU.out.mono ?_
          rintro e y5 ⟨vU, rfl, hf⟩
          simp only
          have hS5 := Lib.hid (hS4.out.keep hf.2)
          have hoU0 : y5.ownsRow (g + 1) 61 1 vU (u64v vs).length (u64v vs) := own_base hf.1 hS4.out.2.1.lt
          clear hf k0 k1 k2
          by_cases hu : er5 = 0
          · subst hu
            have hvn := Lib.hid (Hul.out rfl)
            have hoU : y5.ownsRow (g + 1) 61 1 vU k (u64v vs) := by
             have h := hoU0; rw [u64v_length, hvn.out] at h; exact h
            obtain ⟨aoU, capU, rfl, -, -⟩ := own_u64c hoU
            have hgo := Lib.hid (HB.out.2 rfl)
            have HoU := Lib.hid hoU
            obtain ⟨least, hle⟩ : ∃ x, x = zagI v1 := ⟨_, rfl⟩
            have Hle := Lib.hid hle
            rw [← hle] at hgo
            have hl0 : Hid (l ≠ []) := Lib.hid (fun e => by have := Hnl.out; rw [e] at this; simp at this; omega)
            have hS0 : Hid (RSd w y5 g b at3 0 (.slice ao8 nl cap8) (accTo least l vs 0)) := Lib.hid (by rw [accTo_zero]; exact hS5.out)
            obtain ⟨lU, hlU⟩ : ∃ lU : Nat, (lU : Int) = least % 18446744073709551616 := ⟨(least % 18446744073709551616).toNat, by omega⟩
            have elU : IntKind.u64.wrap least = (lU : Int) := by rw [IntKind.wrap_u64]; omega
            have HlU := Lib.hid hlU
            have HL0 : Hid (nl = (accTo least l vs 0).length) := Lib.hid (by rw [accTo_zero]; exact Hnl.out)
            rw [← hle]
            clear hoU0 hoU HU hS5 HB Hnil Hul hle hlU
            go_wp2
            go_loopw [8, 15] (fun u i x => ∃ (j lj : Nat) (aoJ : Option Addr) (capJ : Nat), j ≤ k ∧ nl + j ≤ lj ∧ lj ≤ nl + j ∧ u = .slice aoJ lj capJ ∧ i = .int .i64 (j : Nat) ∧ Hid (lj = (accTo least l vs j).length) ∧ Hid (RSd w x g b at3 0 (.slice aoJ lj capJ) (accTo least l vs j)) ∧ Hid (x.ownsRow (g + 1) 61 1 (.slice aoU k capU) k (u64v vs))) (fun _ i _ => k - (intOf i).toNat)
            case atStart => exact ⟨0, nl, ao8, cap8, Nat.zero_le _, Nat.le_refl _, Nat.le_refl _, rfl, rfl, HL0, hS0, HoU⟩
            case round =>
             clear hS0 HL0 HoU
             obtain ⟨j, lj, aoJ, capJ, hj, hlj1, hlj2, rfl, rfl, Hlj, hSj, hUj⟩ := hrel
             obtain ⟨x, hxx⟩ : ∃ x, x = wr := ⟨_, rfl⟩
             subst hxx
             by_cases hjk : j < k
             · have q3' : (j : Int) < (k : Int) := by omega
               have q4 : (0 : Int) ≤ (j : Int) := by omega
               have hjv : j < vs.length := by rw [hvn.out]; exact hjk
               have hown := hSj.out.2.2.1
               rw [← Hlj.out] at hown
               obtain ⟨_, _, hMe, hcM, -⟩ := own_i64 hown
               simp only [Value.slice.injEq, true_and] at hMe
               obtain ⟨rfl, rfl⟩ := hMe
               obtain ⟨ll, hll⟩ : ∃ m, m = lj - 1 := ⟨_, rfl⟩
               obtain ⟨bM, oM, rfl, hbM, cM⟩ := hcM ll (by omega)
               obtain ⟨la, hla⟩ : ∃ v, v = lastI (accTo least l vs j) := ⟨_, rfl⟩
               have cM2 : (accTo least l vs j).getD ll 0 = la := by rw [hla, hll, Hlj.out]; rfl
               rw [i64c, cM2] at cM
               obtain ⟨_, _, hUe, hcU, -⟩ := own_u64c hUj.out
               simp only [Value.slice.injEq, true_and] at hUe
               obtain ⟨rfl, rfl⟩ := hUe
               obtain ⟨bU, oU, rfl, hbUl, cU⟩ := hcU j hjk
               obtain ⟨vj, hvj⟩ : ∃ v, v = vs.getD j 0 := ⟨_, rfl⟩
               rw [u64c, ← hvj] at cU
               have hvj64 : vj < 18446744073709551616 := by rw [hvj, List.getD_eq_getElem?_getD, List.getElem?_eq_getElem hjv]; exact Hu64.out _ (List.getElem_mem _)
               have p2 : ∀ w', Grows x.drew w' → w'.cell? ⟨bM, oM + ll, none⟩ = some (.int .i64 la) := fun w' hg => (Grows.toDrew hg).cell cM
               have p3 : ∀ w', Grows x.drew w' → w'.cell? ⟨bU, oU + j, none⟩ = some (.int .u64 (vj : Nat)) := fun w' hg => (Grows.toDrew hg).cell cU
               have q5 : (lj : Int) - 1 = (ll : Int) := by omega
               have q6 : (ll : Int) < (lj : Int) := by omega
               have q7 : (0 : Int) ≤ (ll : Int) := by omega
               have q8 : IntKind.i64.wrap (ll : Int) = (ll : Int) := IntWalk.i64_in _ (by omega)
               obtain ⟨sU, hsU⟩ : ∃ sU : Nat, (sU : Int) = ((lU : Int) + (vj : Int)) % 18446744073709551616 := ⟨(((lU : Int) + (vj : Int)) % 18446744073709551616).toNat, by omega⟩
               have esU : IntKind.u64.wrap ((lU : Int) + (vj : Int)) = (sU : Int) := by rw [IntKind.wrap_u64]; omega
               obtain ⟨tI, htI⟩ : ∃ v, v = w64 (sU : Int) := ⟨_, rfl⟩
               have etI : IntKind.i64.wrap (sU : Int) = tI := by rw [htI, IntKind.wrap_i64]; rfl
               obtain ⟨nx, hnx⟩ : ∃ v, v = w64 (la + least + (vj : Int)) := ⟨_, rfl⟩
               have hwn : IntKind.i64.wrap (la + tI) = nx := by
                have h1 := HlU.out
                rw [hnx, htI, IntKind.wrap_i64]; unfold w64; omega
               have hac : Hid (accTo least l vs (j + 1) = accTo least l vs j ++ [nx]) := Lib.hid (by rw [accTo_succ _ _ _ _ hl0.out hjv, ← hvj, ← hla, ← hnx])
               have hownA := own_below hown ((Below.refl x.heap.size x).drew.alloc (Nat.le_refl _) (.cells #[.int .i64 nx] 3))
               have hUA := own_below hUj.out ((Below.refl x.heap.size x).drew.alloc (Nat.le_refl _) (.cells #[.int .i64 nx] 3))
               have hsA : g + 1 ≤ (x.drew.alloc (.cells #[.int .i64 nx] 3)).heap.size := Nat.le_trans hSj.out.2.1.lt (by simp)
               have hlj4 : lj ≤ 4032 := by omega
               clear hvj hll hla cM2 hnx hcM hcU hown cM cU hjv hsU htI hUj hbM hbUl c0 c1 c2 f1 f2
               go_wp2
               refine wp_region_linH [(0, 0), (1, 0), (2, 0), (3, 0), (4, 0), (5, 0), (6, 0), (7, 0), (8, 0), (9, 0), (10, 0), (11, 0), (12, 0), (13, 0), (14, 0), (15, 0), (16, 1), (17, 2), (18, 0)] [17] (by kernel_rfl) (by kernel_rfl) (fun d _ _ _ _ h => by cases d <;> exact h) ?_
               repeat (first
                | (refine wpLinH_skip rfl rfl (fun K hK => ?_); go_simp; refine hK _ ?_; clear hK K)
                | (refine wpLinH_take (v := ?_) rfl rfl (fun w' hw' => ?_) (fun K hK => ?_); rotate_left; (go_simp; rfl); (go_simp; refine hK _ ?_; clear hK K)))
               refine wpLinH_do rfl (fun K hK => ?_); go_simp; refine hK _ _ ((Grows.refl x.drew).alloc _) ?_; clear hK K
               refine wpLinH_hard rfl (fun K hK => ?_)
               refine step_append_all1 sl_i64' rfl (.tmp 86) (.tmp 102) rfl rfl hownA rfl (cells_one x.drew 3 (.int .i64 nx)) (fun h => by cases h) (fun _ _ => rfl) (by unfold maxLen; omega) (by omega) hsA ?_
               intro v' y2 ho2 hgr
               obtain ⟨aoQ, capQ, rfl, -, -⟩ := own_cells ho2
               have hbz : Below x.heap.size x (x.drew.alloc (.cells #[.int .i64 nx] 3)) := (Below.refl _ _).drew.alloc (Nat.le_refl _) _
               have hbY2 : Below (g + 1) (x.drew.alloc (.cells #[.int .i64 nx] 3)) y2 := (Below.refl _ _).grown hgr hsA (fun k hk => (hownA.lt k hk).1)
               have hbZ : Below (g + 1) x y2 := (hbz.mono hSj.out.2.1.lt).trans hbY2
               have hljn : Hid (lj + 1 = (accTo least l vs (j + 1)).length) := Lib.hid (by rw [hac.out, List.length_append, ← Hlj.out]; rfl)
               have hoQ : y2.ownsRow (g + 1) 3 1 (.slice aoQ (lj + 1) capQ) (accTo least l vs (j + 1)).length (i64v (accTo least l vs (j + 1))) := by
                rw [← hljn.out, hac.out, ← i64v_append]; exact ho2
               have HUQ := Lib.hid (hUA.kept hgr (own_apart hUA hownA (by decide)))
               have HSn : Hid (RSd w y2 g b at3 0 (.slice aoQ (lj + 1) capQ) (accTo least l vs (j + 1))) := Lib.hid ⟨hSj.out.1, hSj.out.2.1.below hbZ (Nat.lt_succ_self g), hoQ, hSj.out.2.2.2.trans (hbZ.mono (Nat.le_trans hSj.out.1 (Nat.le_succ g)))⟩
               clear ho2 hgr hbY2 hownA hUA hoQ hsA hbz hbZ
               go_simp; refine hK _ _ ?_; clear hK K p2 p3
               repeat (first
                | (refine wpLinH_skip rfl rfl (fun K hK => ?_); go_simp; refine hK _ ?_; clear hK K)
                | (refine wpLinH_take (v := ?_) rfl rfl (fun w' hw' => ?_) (fun K hK => ?_); rotate_left; (go_simp; rfl); (go_simp; refine hK _ ?_; clear hK K)))
               refine wpLinH_nil ?_
               go_wp2
               go_roundw
               case rel =>
                (repeat apply Exists.intro)
                refine ⟨?_, rfl⟩
                exact ⟨j + 1, lj + 1, aoQ, capQ, by omega, by omega, by omega, rfl, by go_num, hljn, HSn, HUQ⟩
               case measure => simp [intOf]; omega
             · have q3' : ¬ (j : Int) < (k : Int) := by omega
               obtain rfl : j = k := by omega
               have hkN : nl + j ≤ N := by have := hk'.out; omega
               have hall : accTo least l vs j = l ++ accs least (lastI l) vs := by rw [← hvn.out]; exact accTo_all least l vs
               have HTC2 : Hid (ToCome b N R at3 lj (accTo least l vs j)) := Lib.hid (hTC.out.go Hnl.out Hlt.out (by rw [← hk'.out, hgo.out, hall]) (by omega))
               have hm1 := rmuD_zero (n := N) hSj.out
               have hm0 := rmuD_zero (n := N) hS.out
               have Hm1 := Lib.hid hm1; have Hm0 := Lib.hid hm0
               have HSj := hSj
               clear hall hm1 hm0 hUj c0 c1 c2 f1 f2
               go_wp2
               go_roundw
               case rel => exact ⟨accTo least l vs j, at3, 0, lj, aoJ, capJ, rfl, Hlj, by omega, by omega, HSj, Hat3, Lib.hid (fun _ => HTC2.out), Lib.hid (fun h => absurd rfl h)⟩
               case measure => rw [Hm1.out, Hm0.out]; have := Hlt.out; omega
          · have hn0 := Hnil.out hu
            subst hn0
            obtain ⟨aoU, capU, rfl, -, -⟩ := own_u64c hoU0
            have HR := Lib.hid (hTC.out.bad Hnl.out Hlt.out er5 hu (by rw [← hk'.out]; exact HB.out.1 hu))
            have b1 : ((er5 : Int) == 0) = false := by rw [beq_eq_false_iff_ne]; omega
            have b2 : ((er5 : Int) != 0) = true := by rw [bne_iff_ne]; omega
            have Hu := Lib.hid hu
            clear hoU0 HU hu
            go_wp2_with fail
            refine (rfail_any g b at3 0 er5 _ hS5.out.2.1).mono ?_
            rintro e y6 ⟨rfl, hr, hb⟩
            rw [if_pos rfl] at hr
            have hS6 := Lib.hid (hS5.out.step hr hb)
            have hm1 := rmuD_err (n := N) hS6.out Hu.out
            have hm0 := rmuD_zero (n := N) hS.out
            have Hm1 := Lib.hid hm1; have Hm0 := Lib.hid hm0
            clear hr hb hm1 hm0
            go_wp2
            go_loopw [8, 15] (fun u i x => u = .slice ao8 nl cap8 ∧ i = .int .i64 0 ∧ x = y6) (fun _ _ _ => 0)
            case atStart => exact ⟨rfl, rfl, rfl⟩
            case round =>
             obtain ⟨rfl, rfl, rfl⟩ := hrel
             clear c0 c1 c2 f1 f2
             go_wp2
             go_roundw
             case rel => exact ⟨l, at3, er5, nl, ao8, cap8, rfl, Hnl, hnN, hn1, hS6, Hat3, Lib.hid (fun h => absurd h Hu.out), Lib.hid (fun _ => HR.out)⟩
             case measure => rw [Hm1.out, Hm0.out]; omega
        · have HR := Lib.hid (hTC.out.bad Hnl.out Hlt.out err4 h4 (by rw [← hk'.out]; exact Hblk.out.1 h4))
          have b1 : ((err4 : Int) == 0) = false := by rw [beq_eq_false_iff_ne]; omega
          have b2 : ((err4 : Int) != 0) = true := by rw [bne_iff_ne]; omega
          have HSB := Lib.hid hS4.out.2.2.2
          go_wp2
          go_quiet (fail)
          go_wp2
          go_ret3
          rw [HR.out]
          exact GaveRead.none err4 (below_drewN HSB.out _)
    · have q1 : ¬ (nl : Int) < (N : Int) := by omega
      have q2 : decide (nl < N) = false := decide_eq_false hlt
      have HR := Lib.hid (hTC.out.done Hnl.out hlt hat.out)
      have HS := Lib.hid hS
      clear hS hTC
      go_wp2
      go_quiet (fail)
      go_wp2
      go_ret3
      rw [HR.out]
      exact ⟨_, rfl, own_below (own_base (by have h := HS.out.2.2.1; rw [← Hnl.out] at h ⊢; exact h) (by have := HS.out.1; omega)) (below_drewN (Below.refl _ _) _), below_drewN HS.out.2.2.2 _⟩
  · have HR := Lib.hid (hTE.out he)
    have b1 : ((err : Int) == 0) = false := by rw [beq_eq_false_iff_ne]; omega
    have b2 : ((err : Int) != 0) = true := by rw [bne_iff_ne]; omega
    clear hTC hTE he
    have HS := Lib.hid hS.out.2.2.2
    by_cases hlt : nl < N
    · have q1 : (nl : Int) < (N : Int) := by omega
      have q2 : decide (nl < N) = true := decide_eq_true hlt
      go_wp2
      go_quiet (fail)
      go_wp2
      go_ret3
      rw [HR.out]
      exact GaveRead.none err (below_drewN HS.out _)
    · have q1 : ¬ (nl : Int) < (N : Int) := by omega
      have q2 : decide (nl < N) = false := decide_eq_false hlt
      go_wp2
      go_quiet (fail)
      go_wp2
      go_ret3
      rw [HR.out]
      exact GaveRead.none err (below_drewN HS.out _)
end Go.Proofs.YtebmbkbnngeabaaGreat
