/- Chapter 8's law package: the walk over value at groups. -/
import Derived.Test.YtebmbkbnngeabaaGreatPgR
set_option linter.unusedSimpArgs false
namespace Go.Proofs.YtebmbkbnngeabaaGreat
open Go.RowKit
set_option linter.unusedVariables false
abbrev Sl := Option Addr × Nat × Nat
def sl0 : Sl := (none, 0, 0)
def slV (s : Sl) : Value := .slice s.1 s.2.1 s.2.2
def KidsL (F : List Fd) (P : Nat → Nat) (w : World) (S : Nat → Prop) (TT : Nat → Tr → Prop) (at_ m : Nat) (X : List Sl) : Prop := X.length = cntTo P at_ m ∧ ∀ i, at_ < i → i < m → P i = at_ →
 LenOk (fAt F i).rep (X.getD (cntTo P at_ i) sl0).2.1 ∧ ListAt w S (TT i) (X.getD (cntTo P at_ i) sl0).1 (X.getD (cntTo P at_ i) sl0).2.1
theorem KidsL.keep {F : List Fd} {P : Nat → Nat} {w w' : World} {S : Nat → Prop} {TT TT' : Nat → Tr → Prop} {at_ m : Nat} {X : List Sl} (h : KidsL F P w S TT at_ m X) (hk : KeepS S w w') (hT : ∀ i t, TT i t → TT' i t) : KidsL F P w' S TT' at_ m X :=
 ⟨h.1, fun i h1 h2 h3 => ⟨(h.2 i h1 h2 h3).1, (h.2 i h1 h2 h3).2.keep hk (hT i)⟩⟩
theorem KidsL.mono {F : List Fd} {P : Nat → Nat} {w : World} {S S' : Nat → Prop} {TT TT' : Nat → Tr → Prop} {at_ m : Nat} {X : List Sl} (h : KidsL F P w S TT at_ m X) (hS : ∀ b, b < w.heap.size → S b → S' b) (hT : ∀ i t, TT i t → TT' i t) : KidsL F P w S' TT' at_ m X :=
 ⟨h.1, fun i h1 h2 h3 => ⟨(h.2 i h1 h2 h3).1, (h.2 i h1 h2 h3).2.mono hS (hT i)⟩⟩
theorem KidsL.skip {F : List Fd} {P : Nat → Nat} {w : World} {S : Nat → Prop} {TT : Nat → Tr → Prop} {at_ m : Nat} {X : List Sl} (h : KidsL F P w S TT at_ m X) (hm : P m ≠ at_) : KidsL F P w S TT at_ (m + 1) X := by
 refine ⟨by rw [cntTo_not P at_ m (fun hh => hm hh.2)]; exact h.1, fun i h1 h2 h3 => ?_⟩
 by_cases e : i = m
 · subst e; exact absurd h3 hm
 · exact h.2 i h1 (by omega) h3
theorem KidsL.add {F : List Fd} {P : Nat → Nat} {w : World} {S : Nat → Prop} {TT : Nat → Tr → Prop} {at_ m : Nat} {X : List Sl} {s : Sl} (h : KidsL F P w S TT at_ m X) (h0 : 0 < m) (hm : P m = at_) (hl : LenOk (fAt F m).rep s.2.1) (hL : ListAt w S (TT m) s.1 s.2.1) : KidsL F P w S TT at_ (m + 1) (X ++ [s]) := by
 refine ⟨by rw [cntTo_at P at_ m h0 hm, List.length_append, h.1]; rfl, fun i h1 h2 h3 => ?_⟩
 by_cases e : i = m
 · subst e
   rw [List.getD_eq_getElem?_getD, ← h.1, List.getElem?_append_right (Nat.le_refl _), Nat.sub_self]
   exact ⟨hl, hL⟩
 · have hlt : cntTo P at_ i < X.length := by rw [h.1]; exact cntTo_lt P at_ i m (by omega) h3 (by omega)
   rw [List.getD_eq_getElem?_getD, List.getElem?_append_left hlt, ← List.getD_eq_getElem?_getD]
   exact h.2 i h1 (by omega) h3
theorem KidsL.kids {F : List Fd} {P : Nat → Nat} {w : World} {S : Nat → Prop} {base : Nat} {TT : Nat → Tr → Prop} {at_ m E : Nat} {X : List Sl} {ao : Option Addr} {c cap : Nat} (h : KidsL F P w S TT at_ m X) (ho : w.ownsRow base E 1 (.slice ao c cap) c (X.map slV)) (hb : ∀ b, base ≤ b → S b) : KidsAt F P w S TT at_ m ao := fun i h1 h2 h3 => by
 obtain ⟨q1, q2⟩ := h.2 i h1 h2 h3
 have hlt : cntTo P at_ i < X.length := by rw [h.1]; exact cntTo_lt P at_ i m (by omega) h3 h2
 have hc : X.length = c := by have := ho.1; simpa using this
 obtain ⟨ao', cap', hv, hcl, hlo⟩ := own_cells ho
 simp only [Value.slice.injEq, true_and] at hv
 obtain ⟨rfl, rfl⟩ := hv
 obtain ⟨b, off, e, hbl, hcell⟩ := hcl (cntTo P at_ i) (by omega)
 refine ⟨b, off, _, _, (X.getD (cntTo P at_ i) sl0).2.2, e, hb _ (hlo _ e), hbl, ?_, q1, q2⟩
 rw [hcell]
 simp only [List.getD_eq_getElem?_getD, List.getElem?_map, List.getElem?_eq_getElem hlt]
 rfl
def SetK (gT B : Nat) (v : Value) (b : Nat) : Prop := gT + 1 ≤ b ∧ b < B ∧ v.ownBlock ≠ some b
structure VSt (C : MkC) (g gT at_ i k B : Nat) (w wy : World) (a : Nat) (aoK : Option Addr) (cK capK : Nat) (X : List Sl) : Prop where
 t : wy.heap[gT]? = some (.cells #[.int .i64 0, .string ⟨#[]⟩, .slice aoK cK capK] 86)
 o : wy.ownsRow (gT + 1) 50 1 (.slice aoK cK capK) cK (X.map slV)
 k : KidsL C.F C.P wy (SetK gT B (.slice aoK cK capK)) (fun i t => TreeAt C.F C.P C.n wy (SetK gT B (.slice aoK cK capK)) k i t) at_ i X
 h : B ≤ wy.heap.size
 m : Mk C wy g a
 b : But g w wy
 r : wy.heap[w.heap.size]? = some (.cells #[.int .i64 0, .string ByteArray.empty, .slice none 0 0] 86)
theorem own_butT {w w' : World} {base g : Nat} {e : TypeId} {size : Nat} {v : Value} {n : Nat} {xs : List Value} (h : w.ownsRow base e size v n xs) (hb : But g w w') (hg : g < base) : w'.ownsRow base e size v n xs :=
 ⟨h.1, h.2.imp id fun ⟨b, cap, cur, h1, h2, h3, h4⟩ => ⟨b, cap, cur, h1, h2, (hb.block b (Array.getElem?_eq_some_iff.1 h3).1 (by omega)).trans h3, h4⟩⟩
theorem VSt.but {C : MkC} {g gT at_ i k B : Nat} {w wy wz : World} {a a' : Nat} {aoK : Option Addr} {cK capK : Nat} {X : List Sl} (h : VSt C g gT at_ i k B w wy a aoK cK capK X) (hb : But g wy wz) (hm : Mk C wz g a') (hg : g < w.heap.size) (hgT : w.heap.size < gT) : VSt C g gT at_ i k B w wz a' aoK cK capK X where
 t := (hb.block gT (Array.getElem?_eq_some_iff.1 h.t).1 (by omega)).trans h.t
 o := own_butT h.o hb (by omega)
 k := h.k.keep (KeepS.ofBut hb (fun hh => by have := hh.1; omega)) (fun i t => TreeAt.keep (KeepS.ofBut hb (fun hh => by have := hh.1; omega)) _ i t)
 h := Nat.le_trans h.h hb.size
 m := hm
 b := h.b.trans hb
 r := (hb.block _ (Array.getElem?_eq_some_iff.1 h.r).1 (by omega)).trans h.r
theorem VSt.grow {C : MkC} {g gT at_ i k B : Nat} {w wy wz : World} {a : Nat} {aoK : Option Addr} {cK capK : Nat} {X : List Sl} (h : VSt C g gT at_ i k B w wy a aoK cK capK X) (hb : Below B wy wz) (ho : wz.ownsRow (gT + 1) 50 1 (.slice aoK cK capK) cK (X.map slV)) (hg : g < w.heap.size) (hgT : w.heap.size < gT) (hB : gT < B) : VSt C g gT at_ i k B w wz a aoK cK capK X where
 t := (hb.block gT hB).trans h.t
 o := ho
 k := h.k.keep ⟨hb.size, fun b hS _ => hb.block b hS.2.1⟩ (fun i t => TreeAt.keep ⟨hb.size, fun b hS _ => hb.block b hS.2.1⟩ _ i t)
 h := Nat.le_trans h.h hb.size
 m := h.m.below hb (by omega)
 b := h.b.tailT (hb.mono (by omega))
 r := (hb.block _ (by omega)).trans h.r
def SetL (gT : Nat) (kv lv : Value) (b : Nat) : Prop := gT + 1 ≤ b ∧ kv.ownBlock ≠ some b ∧ lv.ownBlock ≠ some b
theorem trV_one {t : Tr} {ao : Option Addr} {m c : Nat} (h : t.2.2 = .slice ao m c) : ∀ v ∈ trV t, v.oneCell' = true := by
 intro v hv
 simp only [trV, List.mem_cons, List.not_mem_nil, or_false] at hv
 rcases hv with rfl | rfl | rfl
 · rfl
 · rfl
 · rw [h]; rfl
theorem list_of_own {w : World} {base E : Nat} {ao : Option Addr} {n cap : Nat} {ts : List Tr} {S : Nat → Prop} {T : Tr → Prop} (ho : w.ownsRow base E 3 (.slice ao n cap) n (wcs trV ts)) (hS : ∀ b, (Value.slice ao n cap).ownBlock = some b → b < w.heap.size → base ≤ b → S b) (hT : ∀ t ∈ ts, T t) : ListAt w S T ao n := by
 obtain ⟨_, _, hv, hl, -, hc, -, hb⟩ := own_wide trV_length (by decide) ho
 simp only [Value.slice.injEq, true_and] at hv
 obtain ⟨rfl, rfl⟩ := hv
 intro j hj
 obtain ⟨b, off, rfl, hbw, hcell⟩ := hc.wide trV_length (by decide) hl hj tr0
 obtain ⟨hb1, hb2⟩ := hb _ rfl
 have ht : ts.getD j tr0 ∈ ts := by
  rw [List.getD_eq_getElem?_getD, List.getElem?_eq_getElem (by omega)]; exact List.getElem_mem _
 cases hb2
 exact ⟨b, 0, ts.getD j tr0, rfl, hS b rfl hbw hb1, hbw, hcell 0 (by decide), hcell 1 (by decide), hcell 2 (by decide), hT _ ht⟩
set_option maxHeartbeats 8000000 in
set_option maxRecDepth 100000 in
theorem value8_any (C : MkC) (dep : Nat → Nat) (anc : Nat → Nat → Nat) (hC : MkOk C dep anc) (g : Nat) : ∀ (k at_ a : Nat) (w : World), C.n - at_ ≤ k → at_ < C.n → Mk C w g a →
 Calls Tryz.prog 69 #[.pointer (some ⟨g, 0, none⟩), .int .i64 (at_ : Nat)] w (GaveT C g k at_ w) := by
 intro k
 induction k with
 | zero => intro at_ a w h1 h2; omega
 | succ k ih =>
 intro at_ a w hk hat h
 by_cases hkd : (fAt C.F at_).kind ≠ 0
 · exact value8_leaf C dep anc hC g k at_ a w hat h hkd
 have hk0 : (fAt C.F at_).kind = 0 := by simpa using hkd
 have h1 := h.keep (balloc (Below.refl w.heap.size w) (.cells #[.int .i64 0, .string ByteArray.empty, .slice none 0 0] 86))
 have HN := Lib.hid (next8_any C g a _ h1 hC.ns hC.lN hC.nsin)
 have HNx := Lib.hid (fun a w h => next8_any C g a w h hC.ns hC.lN hC.nsin)
 have hgw := h.lt
 have HC := Lib.hid hC
 have hn14 : C.n ≤ 14 := by rw [← hC.len]; exact hC.fin.small
 have f0 : (0 : Int) ≤ (at_ : Int) := by omega
 have f1 : (at_ : Int) < (C.n : Int) := by omega
 have Hk0 := Lib.hid hk0
 have IH := Lib.hid ih
 clear h1 h hC hkd hk0 ih
 go_enter Tryz.func69, Tryz.ntmps69
 go_wp2_with fail
 refine HN.out.mono ?_
 rintro e x ⟨v, a1, rfl, Hv, HM, HB⟩
 have hres := res_cells3 hgw HB.out
 obtain ⟨m0, m1, m2, m3, -⟩ := four_cellsT HM.out.1
 obtain ⟨b, off, hbe, hb, -, -, j2, -⟩ := (HM.out.2.2.1).fd HC.out.len hat
 rw [Hk0.out] at j2
 rw [hbe] at m0
 have hgx := HM.out.lt
 have hwx : w.heap.size < x.heap.size := by have := HB.out.size; simp at this; omega
 obtain ⟨gT, hgT⟩ : ∃ gT, gT = x.heap.size := ⟨_, rfl⟩
 obtain ⟨y, hy⟩ : ∃ y, y = x.alloc (.cells #[.int .i64 0, .string ⟨#[]⟩, .slice none 0 0] 86) := ⟨_, rfl⟩
 have hyT : y.heap[gT]? = some (.cells #[.int .i64 0, .string ByteArray.empty, .slice none 0 0] 86) := by rw [hy, hgT]; exact heap_alloc_new x _
 have hxy : Below x.heap.size x y := by rw [hy]; exact balloc (Below.refl _ _) _
 have HMy := Lib.hid (HM.out.keep hxy)
 have hresy := (hxy.block w.heap.size hwx).trans hres
 have HBy : Hid (But g w y) := Lib.hid (((But.of (balloc (Below.refl _ _) _)).trans HB.out).trans (But.of hxy))
 have hgTw : w.heap.size < gT := by rw [hgT]; exact hwx
 clear HN
 go_upto_region 12 with fail
 rw [← hy, ← hgT]
 have hgy : gT < y.heap.size := (Array.getElem?_eq_some_iff.1 hyT).1
 have hcnt0 : cntTo C.P at_ (at_ + 1) = 0 := cntTo_none _ _ _ (fun j h0 hj => by
  have := (HC.out.fin.par j h0 (by rw [HC.out.len]; omega)).1
  omega)
 have HyT := Lib.hid hyT; have Hresy := Lib.hid hresy
 have hgg : g < gT := by omega
 clear hy hgT hyT hxy hres hresy HB HM m0 m1 m2 m3 j2 hbe hb hgx hwx
 go_wp2
 go_loopw [7] (fun iv wy => ∃ (i a2 B : Nat) (aoK : Option Addr) (capK : Nat) (X : List Sl), at_ < i ∧ i ≤ C.n ∧ iv = .int .i64 (i : Nat) ∧ Hid (VSt C g gT at_ i k B w wy a2 aoK (cntTo C.P at_ i) capK X)) (fun iv _ => C.n - (intOf iv).toNat)
 case atStart =>
  refine ⟨at_ + 1, a1, 0, none, 0, [], Nat.lt_succ_self _, hat, by go_num, ?_⟩
  rw [hcnt0]
  exact Lib.hid ⟨HyT.out, World.ownsRow_nil _ _ _ _, ⟨hcnt0.symm, fun i h1 h2 => by omega⟩, Nat.zero_le _, HMy.out, HBy.out, Hresy.out⟩
 case round =>
  clear HyT Hresy HMy HBy hcnt0 hgy
  obtain ⟨i, a2, B, aoK, capK, X, hi, hin, rfl, HV⟩ := hrel
  obtain ⟨z, hzz⟩ : ∃ z, z = wr := ⟨_, rfl⟩
  subst hzz
  obtain ⟨m0, m1, m2, m3, -⟩ := four_cellsT HV.out.m.1
  obtain ⟨cK, hcK⟩ : ∃ cK, cK = cntTo C.P at_ i := ⟨_, rfl⟩
  rw [← hcK] at HV
  have HcK := Lib.hid hcK
  clear hcK
  by_cases hlt : i < C.n
  · have e1 : (i : Int) < (C.n : Int) := by omega
    have e2 : (0 : Int) ≤ (i : Int) := by omega
    have hiF : i < C.F.length := by rw [HC.out.len]; exact hlt
    obtain ⟨bp, op, hpe, hbp, jp⟩ := (HV.out.m.2.2.2.1) i hlt
    rw [hpe] at m1
    rw [i64c, parL_at _ _ _ hlt, if_neg (by omega)] at jp
    obtain ⟨Pi, hPi⟩ : ∃ Pi, Pi = C.P i := ⟨_, rfl⟩
    rw [← hPi] at jp
    have HPi := Lib.hid hPi
    clear hPi
    by_cases hP : Pi = at_
    · have HPi2 : Hid (C.P i = at_) := Lib.hid (HPi.out.symm.trans hP)
      rw [hP] at jp
      clear hP HPi
      obtain ⟨b2, off2, hbe2, hb2, -, j1, j2, -⟩ := (HV.out.m.2.2.1).fd HC.out.len hlt
      rw [hbe2] at m0
      obtain ⟨rp, hrp⟩ : ∃ rp, rp = (fAt C.F i).rep := ⟨_, rfl⟩
      have hrp2 : rp ≤ 2 := by rw [hrp]; exact (HC.out.fin.kinds i hiF).2
      rw [← hrp] at j1
      have Hrp := Lib.hid hrp
      clear hrp j2
      go_upto_region 17 with fail
      go_cut [71] (fun v wy => v = .bool (decide (rp = 1)) ∧ wy = z)
      case first =>
       by_cases hr : rp = 1
       · have H1 := Lib.hid (decide_eq_true hr)
         have f5 : ((rp : Int) == 1) = true := by rw [beq_iff_eq]; omega
         have f6 : (rp : Int) = 1 := by omega
         clear hr
         go_wp2
         go_meet
         exact ⟨by rw [H1.out], rfl⟩
       · have H1 := Lib.hid (decide_eq_false hr)
         have f5 : ((rp : Int) == 1) = false := by rw [beq_eq_false_iff_ne]; omega
         have f6 : ¬ (rp : Int) = 1 := by omega
         clear hr
         go_wp2
         go_meet
         exact ⟨by rw [H1.out], rfl⟩
      case rest =>
      obtain ⟨rfl, hwz⟩ := hcut
      have hzw := hwz.symm
      subst hzw
      clear hwz
      go_upto_if 71 with fail
      go_cut [8] (fun v wy => ∃ kc a3 : Nat, v = .int .i64 (kc : Nat) ∧ (rp = 1 → kc ≤ 1) ∧ (rp ≠ 1 → kc = 1) ∧ Hid (VSt C g gT at_ i k B w wy a3 aoK cK capK X))
      case first =>
       by_cases hr : rp = 1
       · rw [decide_eq_true hr]
         have Hr := Lib.hid hr
         clear hr
         go_wp2_with fail
         refine (HNx.out a2 z HV.out.m).mono ?_
         rintro e x2 ⟨v2, a3, rfl, Hv2, HM2, HB2⟩
         obtain ⟨q, hq, hq2⟩ := modN' v2 2 (by decide)
         have Hq : Hid (v2 % 2 = (q : Int)) := Lib.hid hq
         have HV2 := Lib.hid (HV.out.but HB2.out HM2.out hgw hgTw)
         clear hq m0 m1 m2 m3
         go_wp2_with fail
         refine (within8_any v2 2 _ (by omega) (by omega) Hv2.out.1 Hv2.out.2).mono ?_
         rw [Hq.out]; rintro e y2 ⟨rfl, rfl⟩
         go_wp2
         go_meet
         exact ⟨q, a3, rfl, fun _ => by omega, fun h => absurd Hr.out h, HV2⟩
       · rw [decide_eq_false hr]
         have Hr := Lib.hid hr
         clear hr
         go_wp2
         go_meet
         exact ⟨1, a2, rfl, fun _ => Nat.le_refl _, fun _ => rfl, HV⟩
      case rest =>
      clear HV m0 m1 m2 m3 j1 hbe2 hb2 jp hpe hbp
      obtain ⟨kc, a3, rfl, hkc1, hkcn, HV⟩ := hcut
      obtain ⟨z2, hz2⟩ : ∃ z2, z2 = wc := ⟨_, rfl⟩
      subst hz2
      obtain ⟨m0, m1, m2, m3, -⟩ := four_cellsT HV.out.m.1
      obtain ⟨b2, off2, hbe2, hb2, -, j1, -, -⟩ := (HV.out.m.2.2.1).fd HC.out.len hlt
      rw [hbe2] at m0
      rw [← Hrp.out] at j1
      go_upto_region 19 with fail
      go_cut [83] (fun v wy => v = .bool (decide (rp = 2)) ∧ wy = z2)
      case first =>
       by_cases hr : rp = 2
       · have H1 := Lib.hid (decide_eq_true hr)
         have f5 : ((rp : Int) == 2) = true := by rw [beq_iff_eq]; omega
         have f6 : (rp : Int) = 2 := by omega
         clear hr
         go_wp2
         go_meet
         exact ⟨by rw [H1.out], rfl⟩
       · have H1 := Lib.hid (decide_eq_false hr)
         have f5 : ((rp : Int) == 2) = false := by rw [beq_eq_false_iff_ne]; omega
         have f6 : ¬ (rp : Int) = 2 := by omega
         clear hr
         go_wp2
         go_meet
         exact ⟨by rw [H1.out], rfl⟩
      case rest =>
      obtain ⟨rfl, hwz⟩ := hcut
      have hzw := hwz.symm
      subst hzw
      clear hwz
      go_upto_if 83 with fail
      go_cut [8] (fun v wy => ∃ kd a4 : Nat, v = .int .i64 (kd : Nat) ∧ Hid (LenOk (fAt C.F i).rep kd) ∧ kd ≤ 3 ∧ Hid (VSt C g gT at_ i k B w wy a4 aoK cK capK X))
      case first =>
       by_cases hr : rp = 2
       · rw [decide_eq_true hr]
         have Hr := Lib.hid hr
         clear hr
         go_wp2_with fail
         refine (HNx.out a3 z2 HV.out.m).mono ?_
         rintro e x2 ⟨v2, a4, rfl, Hv2, HM2, HB2⟩
         obtain ⟨q, hq, hq4⟩ := modN' v2 4 (by decide)
         have Hq : Hid (v2 % 4 = (q : Int)) := Lib.hid hq
         have HV2 := Lib.hid (HV.out.but HB2.out HM2.out hgw hgTw)
         clear hq m0 m1 m2 m3
         go_wp2_with fail
         refine (within8_any v2 4 _ (by omega) (by omega) Hv2.out.1 Hv2.out.2).mono ?_
         rw [Hq.out]; rintro e y2 ⟨rfl, rfl⟩
         go_wp2
         go_meet
         exact ⟨q, a4, rfl, Lib.hid (by rw [← Hrp.out, Hr.out]; exact ⟨fun h => by omega, fun h => by omega, by omega⟩), by omega, HV2⟩
       · rw [decide_eq_false hr]
         have Hr := Lib.hid hr
         have hkc3 : kc ≤ 1 := by
          by_cases h1 : rp = 1
          · exact hkc1 h1
          · rw [hkcn h1]; exact Nat.le_refl _
         have Hlk : Hid (LenOk (fAt C.F i).rep kc) := Lib.hid (by
          rw [← Hrp.out]
          exact ⟨fun h => hkcn (by omega), fun h => hkc1 h, by omega⟩)
         clear hr hkc1 hkcn
         go_wp2
         go_meet
         exact ⟨kc, a3, rfl, Hlk, by omega, HV⟩
      case rest =>
      clear HV m0 m1 m2 m3 j1 hbe2 hb2 hkc1 hkcn
      obtain ⟨kd, a4, rfl, Hlk, hkd3, HV⟩ := hcut
      obtain ⟨z3, hz3⟩ : ∃ z3, z3 = wc := ⟨_, rfl⟩
      subst hz3
      have hgT3 : gT < z3.heap.size := (Array.getElem?_eq_some_iff.1 HV.out.t).1
      obtain ⟨B3, hB3⟩ : ∃ B3, B3 = z3.heap.size := ⟨_, rfl⟩
      have HV3 : Hid (VSt C g gT at_ i k B3 w z3 a4 aoK cK capK X) := Lib.hid { HV.out with
       k := HV.out.k.mono (fun b hb h => ⟨h.1, by omega, h.2.2⟩) (fun i t => TreeAt.mono (fun b hb h => ⟨h.1, by omega, h.2.2⟩) k i t)
       h := by omega }
      rw [← hB3] at hgT3
      have HlB := Lib.hid (World.ownsRow_nil z3 B3 86 3)
      clear HV hB3
      go_wp2
      go_loopw [9, 10] (fun lv jv wy => ∃ (j a5 : Nat) (aoL : Option Addr) (capL : Nat) (ts : List Tr), j ≤ kd ∧ lv = .slice aoL j capL ∧ jv = .int .i64 (j : Nat) ∧ Hid (wy.ownsRow B3 86 3 (.slice aoL j capL) j (wcs trV ts)) ∧
       Hid (∀ t ∈ ts, TreeAt C.F C.P C.n wy (SetL gT (.slice aoK cK capK) (.slice aoL j capL)) k i t) ∧ Hid (VSt C g gT at_ i k B3 w wy a5 aoK cK capK X)) (fun _ jv _ => kd - (intOf jv).toNat)
      case atStart => exact ⟨0, a4, none, 0, [], Nat.zero_le _, rfl, rfl, HlB, Lib.hid (fun t h => by cases h), HV3⟩
      case round =>
       clear HV3 HlB
       obtain ⟨j, a5, aoL, capL, ts, hj, rfl, rfl, HO, HTs, HV⟩ := hrel
       obtain ⟨y, hyy⟩ : ∃ y, y = wr := ⟨_, rfl⟩
       subst hyy
       by_cases hjk : j < kd
       · have e3 : (j : Int) < (kd : Int) := by omega
         have hBy := HV.out.h
         have hko := fun b (h : (Value.slice aoK cK capK).ownBlock = some b) => (HV.out.o.lt b h).2
         have hlo := fun b (h : (Value.slice aoL j capL).ownBlock = some b) => (HO.out.lt b h).2
         have HIH := Lib.hid (IH.out i a5 y (by omega) hlt HV.out.m)
         go_wp2_with fail
         refine HIH.out.mono ?_
         rintro e x2 ⟨t, a6, rfl, HTt, HM2, HB2⟩
         have HV2 := Lib.hid (HV.out.but HB2.out HM2.out hgw hgTw)
         have HO2 := Lib.hid (own_butT HO.out HB2.out (by omega))
         obtain ⟨aot, mt, ct, hts⟩ := TreeAt.slice k i t HTt.out
         have hTs2 : ∀ t' ∈ ts ++ [t], TreeAt C.F C.P C.n x2 (SetL gT (.slice aoK cK capK) (.slice aoL j capL)) k i t' := by
          intro t' ht'
          rcases List.mem_append.1 ht' with h | h
          · exact TreeAt.keep (KeepS.ofBut HB2.out (fun hh => by have := hh.1; omega)) k i t' (HTs.out t' h)
          · rw [List.mem_singleton.1 h]
            exact TreeAt.mono (fun b _ hb => ⟨by omega, fun e => by have := hko b e; omega, fun e => by have := hlo b e; omega⟩) k i t HTt.out
         have HTs2 := Lib.hid hTs2
         have hBx : B3 ≤ x2.heap.size := HV2.out.h
         obtain ⟨tn, tS, tK⟩ := t
         simp only at hts
         subst hts
         clear HTt HM2 HB2 HTs hTs2 HV HO HIH hko hlo
         have hb1 : B3 ≤ (x2.alloc (.cells #[.int .i64 tn, .string tS, .slice aot mt ct] 86)).heap.size := Nat.le_trans hBx (by simp)
         have hone := wc_one trV [(tn, tS, Value.slice aot mt ct)] 3 1 trV_length rfl (fun x hx v hv => by rw [List.mem_singleton.1 hx] at hv; exact trV_one rfl v hv)
         have hcl := cells_lit x2 86 trV 3 trV_length (tn, tS, .slice aot mt ct) #[.int .i64 tn, .string tS, .slice aot mt ct] rfl
         have hOA := HO2.out.alloc (.cells #[.int .i64 tn, .string tS, .slice aot mt ct] 86)
         go_wp2_with (at_builtin; refine wpList_append_apart sl_tr rfl (.tmp 92) (.tmp 96) rfl rfl hOA rfl hcl (fun h => by cases h) hone (by unfold maxLen; omega) (by omega) hb1 ?_)
         intro v' y3 ho3 hg3 hs3
         have ho3 : y3.ownsRow B3 86 3 v' (j + 1) (wcs trV ts ++ (List.range (1 * 3)).map (wc trV [(tn, tS, .slice aot mt ct)])) := ho3
         rw [wcs_snoc trV 3 trV_length] at ho3
         obtain ⟨g3, cap3, rfl, -, -⟩ := own_shapeG (Nat.succ_pos _) ho3
         have hbl : Below B3 x2 y3 := ((Below.refl B3 x2).alloc hBx (.cells #[.int .i64 tn, .string tS, .slice aot mt ct] 86)).grown hg3 hb1 (fun k hk => (HO2.out.lt k hk).1)
         have hkr : y3.ownsRow (gT + 1) 50 1 (.slice aoK cK capK) cK (X.map slV) := (HV2.out.o.alloc (.cells #[.int .i64 tn, .string tS, .slice aot mt ct] 86)).kept hg3 (own_apartT HV2.out.o HO2.out (by decide))
         have HV3 := Lib.hid (HV2.out.grow hbl hkr hgw hgTw hgT3)
         have HTs3 : Hid (∀ t ∈ ts ++ [(tn, tS, .slice aot mt ct)], TreeAt C.F C.P C.n y3 (SetL gT (.slice aoK cK capK) (.slice (some ⟨g3, 0, none⟩) (j + 1) cap3)) k i t) := Lib.hid (fun t ht => by
          have h1 := TreeAt.keep (KeepS.of (balloc (Below.refl x2.heap.size x2) (.cells #[.int .i64 tn, .string tS, .slice aot mt ct] 86))) k i t (HTs2.out t ht)
          have h2 := TreeAt.mono (S' := fun b => SetL gT (.slice aoK cK capK) (.slice aoL j capL) b ∧ b < (x2.alloc (.cells #[.int .i64 tn, .string tS, .slice aot mt ct] 86)).heap.size) (fun b hb h => ⟨h, hb⟩) k i t h1
          have h3 := TreeAt.keep (KeepS.grown hg3 (fun b hb e => hb.1.2.2 e.symm)) k i t h2
          refine TreeAt.mono (fun b _ h => ⟨h.1.1, h.1.2.1, fun e => ?_⟩) k i t h3
          rcases hs3 with hs3 | hs3
          · rw [hs3] at e; exact h.1.2.2 e
          · have := hs3 b e; omega)
         have HO3 := Lib.hid ho3
         clear ho3 hg3 hs3 hbl hkr HTs2 HV2 HO2 hb1
         go_wp2
         go_roundw
         case rel => exact ⟨j + 1, a6, _, _, _, by omega, rfl, by go_num, HO3, HTs3, HV3⟩
         case measure => simp [intOf]; omega
       · obtain rfl : j = kd := by omega
         have e3 : ¬ (j : Int) < (j : Int) := by omega
         obtain ⟨t0, t1, t2, q0, q1, q2⟩ := three_cellsT HV.out.t
         have hcK14 : cK ≤ 14 := by rw [HcK.out]; have := cntTo_le C.P at_ i; omega
         have hBy := HV.out.h
         have hcn : Hid (cntTo C.P at_ (i + 1) = cK + 1) := Lib.hid (by rw [cntTo_at _ _ _ (by omega) HPi2.out, HcK.out])
         have hsA : gT + 1 ≤ (y.alloc (.cells #[.slice aoL j capL] 50)).heap.size := by simp; omega
         have HoK := Lib.hid HV.out.o
         have hlk : ∀ b, (Value.slice aoL j capL).ownBlock = some b → (Value.slice aoK cK capK).ownBlock ≠ some b := fun b hb e => by
          rcases own_apartT HO.out HoK.out (by decide) with h | h
          · rw [h] at hb; cases hb
          · rw [hb, e] at h; exact h rfl
         have hK4 : KidsL C.F C.P y (SetK gT y.heap.size (.slice aoK cK capK)) (fun i t => TreeAt C.F C.P C.n y (SetK gT y.heap.size (.slice aoK cK capK)) k i t) at_ (i + 1) (X ++ [(aoL, j, capL)]) := by
          refine KidsL.add (HV.out.k.mono (fun b hb h => ⟨h.1, hb, h.2.2⟩) (fun i t => TreeAt.mono (fun b hb h => ⟨h.1, hb, h.2.2⟩) k i t)) (by omega) HPi2.out Hlk.out ?_
          refine list_of_own HO.out (fun b hb hbw hb3 => ⟨by omega, hbw, hlk b hb⟩) (fun t ht => ?_)
          exact TreeAt.mono (fun b hb h => ⟨h.1, hb, h.2.1⟩) k i t (HTs.out t ht)
         have HK4 := Lib.hid hK4
         have Hm := Lib.hid HV.out.m; have Hb := Lib.hid HV.out.b; have Hr := Lib.hid HV.out.r; have Ht := Lib.hid HV.out.t
         have hgy : gT < y.heap.size := by omega
         clear hlk hK4 HTs HO
         go_wp2_with (at_builtin; refine wpList_append_apart sl_ts rfl (.tmp 99) (.tmp 101) rfl rfl (HoK.out.alloc (.cells #[.slice aoL j capL] 50)) rfl (cells_one y 50 (.slice aoL j capL)) (fun h => by cases h) (fun _ _ => rfl) (by unfold maxLen; omega) (by omega) hsA ?_)
         intro v' y3 ho3 hg3 hs3
         have ho3 : y3.ownsRow (gT + 1) 50 1 v' (cK + 1) ((X ++ [(aoL, j, capL)]).map slV) := by
          rw [List.map_append]; exact ho3
         obtain ⟨g3, cap3, rfl, -, -⟩ := own_shapeG (Nat.succ_pos _) ho3
         have hya : Below y.heap.size y (y.alloc (.cells #[.slice aoL j capL] 50)) := balloc (Below.refl _ _) _
         have hbT : Below (gT + 1) y y3 := (hya.mono (by omega)).grown hg3 hsA (fun k hk => (HoK.out.lt k hk).1)
         have ht3 := (hbT.block gT (Nat.lt_succ_self _)).trans Ht.out
         obtain ⟨u0, u1, u2, p0, p1, p2⟩ := three_cellsT ht3
         have hks : KeepS (SetK gT y.heap.size (.slice aoK cK capK)) y (y3.setCell ⟨gT, 2, none⟩ (.slice (some ⟨g3, 0, none⟩) (cK + 1) cap3)) :=
          ⟨by have := hg3.size; have := hya.size; simp; omega, fun b hb hbw => by
           rw [Below.heap_setCell _ _ _ b (by have := hb.1; show b ≠ gT; omega), hg3.block b (Nat.lt_of_lt_of_le hbw hya.size) (fun e => hb.2.2 e.symm)]
           exact hya.block b hbw⟩
         have hKf := HK4.out.keep hks (fun i t => TreeAt.keep hks k i t)
         have hmon : ∀ b, SetK gT y.heap.size (.slice aoK cK capK) b → SetK gT y.heap.size (.slice (some ⟨g3, 0, none⟩) (cK + 1) cap3) b := fun b hb => ⟨hb.1, hb.2.1, fun e => by
          rcases hs3 with h | h
          · rw [h] at e; exact hb.2.2 e
          · have h1 := h b e; have h2 := hb.2.1; have := hya.size; omega⟩
         have hsz : y.heap.size ≤ y3.heap.size := Nat.le_trans hya.size hg3.size
         have hbG : Below (w.heap.size + 1) y (y3.setCell ⟨gT, 2, none⟩ (.slice (some ⟨g3, 0, none⟩) (cK + 1) cap3)) := (hbT.mono (by omega)).setCell (by show _ ≤ gT; omega) _
         have HV4 : Hid (VSt C g gT at_ (i + 1) k y.heap.size w (y3.setCell ⟨gT, 2, none⟩ (.slice (some ⟨g3, 0, none⟩) (cK + 1) cap3)) a5 (some ⟨g3, 0, none⟩) (cK + 1) cap3 (X ++ [(aoL, j, capL)])) := Lib.hid {
          t := by
           simp only [World.setCell, Array.getElem?_modify, ht3]; simp
          o := ho3.kept (setCell_grown y3 gT 2 _) (by right; intro e; have := (ho3.lt gT e).1; omega)
          k := hKf.mono (fun b _ h => hmon b h) (fun i t => TreeAt.mono (fun b _ h => hmon b h) k i t)
          h := by simpa using hsz
          m := Hm.out.below hbG (by omega)
          b := Hb.out.tailT (hbG.mono (Nat.le_succ _))
          r := (hbG.block _ (Nat.lt_succ_self _)).trans Hr.out }
         clear ho3 hg3 hs3 hya hbT hks hKf hmon hbG ht3 HV
         go_wp2
         go_roundw
         case rel => exact ⟨i + 1, a5, _, _, _, _, by omega, by omega, by go_num, by rw [hcn.out]; exact HV4⟩
         case measure => simp [intOf]; omega
    · have f3 : ((Pi : Int) == (at_ : Int)) = false := by rw [beq_eq_false_iff_ne]; omega
      have f4 : ¬ (Pi : Int) = (at_ : Int) := by omega
      have hPn : C.P i ≠ at_ := by rw [← HPi.out]; exact hP
      have hcn : Hid (cntTo C.P at_ (i + 1) = cK) := Lib.hid (by rw [cntTo_not _ _ _ (fun hh => hPn hh.2), HcK.out])
      have HV2 : Hid (VSt C g gT at_ (i + 1) k B w z a2 aoK cK capK X) := Lib.hid { HV.out with k := HV.out.k.skip hPn }
      clear hPn hP
      go_wp2
      go_roundw
      case rel => exact ⟨i + 1, a2, B, aoK, capK, X, by omega, by omega, by go_num, by rw [hcn.out]; exact HV2⟩
      case measure => simp [intOf]; omega
  · obtain rfl : i = C.n := by omega
    have e1 : ¬ (C.n : Int) < (C.n : Int) := by omega
    obtain ⟨t0, t1, t2, -⟩ := three_cellsT HV.out.t
    obtain ⟨r0, r1, r2, q0, q1, q2⟩ := three_cellsT HV.out.r
    go_wp2
    obtain ⟨d0, d1, d2, -, -, -⟩ := three_cellsT (three_setT HV.out.r (.int .i64 0) (.string ⟨#[]⟩) (.slice aoK cK capK))
    have hbut : But w.heap.size z (((z.setCell ⟨w.heap.size, 0, none⟩ (.int .i64 0)).setCell ⟨w.heap.size, 1, none⟩ (.string ⟨#[]⟩)).setCell ⟨w.heap.size, 2, none⟩ (.slice aoK cK capK)) := (((But.refl _ _).setCell 0 _).setCell 1 _).setCell 2 _
    have hbel : Below w.heap.size z (((z.setCell ⟨w.heap.size, 0, none⟩ (.int .i64 0)).setCell ⟨w.heap.size, 1, none⟩ (.string ⟨#[]⟩)).setCell ⟨w.heap.size, 2, none⟩ (.slice aoK cK capK)) :=
     (((Below.refl _ _).setCell (p := ⟨w.heap.size, 0, none⟩) (Nat.le_refl _) _).setCell (p := ⟨w.heap.size, 1, none⟩) (Nat.le_refl _) _).setCell (p := ⟨w.heap.size, 2, none⟩) (Nat.le_refl _) _
    have hTr : TreeAt C.F C.P C.n (((z.setCell ⟨w.heap.size, 0, none⟩ (.int .i64 0)).setCell ⟨w.heap.size, 1, none⟩ (.string ⟨#[]⟩)).setCell ⟨w.heap.size, 2, none⟩ (.slice aoK cK capK)) (fun b => w.heap.size ≤ b) (k + 1) at_ (0, ⟨#[]⟩, .slice aoK cK capK) := by
     refine TreeAt.mono (S := fun b => w.heap.size + 1 ≤ b) (fun b _ h => Nat.le_of_succ_le h) (k + 1) at_ _ ?_
     unfold TreeAt
     rw [if_neg (by simp [Hk0.out])]
     refine ⟨rfl, rfl, aoK, capK, by rw [HcK.out], ?_⟩
     have hK := HV.out.k.mono (S' := fun b => w.heap.size + 1 ≤ b) (fun b _ h => by have := h.1; omega) (TT' := fun i t => TreeAt C.F C.P C.n z (fun b => w.heap.size + 1 ≤ b) k i t) (fun i t => TreeAt.mono (fun b _ h => by have := h.1; omega) k i t)
     have hks : KeepS (fun b => w.heap.size + 1 ≤ b) z (((z.setCell ⟨w.heap.size, 0, none⟩ (.int .i64 0)).setCell ⟨w.heap.size, 1, none⟩ (.string ⟨#[]⟩)).setCell ⟨w.heap.size, 2, none⟩ (.slice aoK cK capK)) := KeepS.ofBut hbut (by omega)
     exact (hK.kids HV.out.o (fun b hb => by omega)).keep hks (fun i t => TreeAt.keep hks _ i t)
    exact bodyPost_ret (v := .agg #[.int .i64 0, .string ⟨#[]⟩, .slice aoK cK capK]) (by simp [results, Tryz.results69, go_sem, d0, d1, d2]) rfl
     ⟨(0, ⟨#[]⟩, .slice aoK cK capK), a2, rfl, Lib.hid hTr, Lib.hid (HV.out.m.below hbel hgw), Lib.hid (HV.out.b.tailT hbel)⟩
end Go.Proofs.YtebmbkbnngeabaaGreat
