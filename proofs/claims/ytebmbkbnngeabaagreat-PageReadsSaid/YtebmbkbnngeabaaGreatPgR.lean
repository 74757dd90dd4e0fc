/- Chapter 8's law package: the walk over value. -/
import Derived.Test.YtebmbkbnngeabaaGreatPgQ
import Derived.Test.YtebmbkbnngeabaaGreatBunC
import Derived.Deep.CutBlock
set_option linter.unusedSimpArgs false
namespace Go.Proofs.YtebmbkbnngeabaaGreat
open Go.RowKit
set_option linter.unusedVariables false
structure MkOk (C : MkC) (dep : Nat → Nat) (anc : Nat → Nat → Nat) : Prop where
 fin : FinS C.F C.P dep anc
 len : C.F.length = C.n
 ns : C.ns.length = C.lN
 lN : C.lN ≤ 9223372036854775807
 nsin : ∀ x ∈ C.ns, -9223372036854775808 ≤ x ∧ x ≤ 9223372036854775807
theorem res_cells3 {w x1 : World} {g : Nat} (hg : g < w.heap.size) (h : But g (w.alloc (.cells #[.int .i64 0, .string ByteArray.empty, .slice none 0 0] 86)) x1) :
 x1.heap[w.heap.size]? = some (.cells #[.int .i64 0, .string ByteArray.empty, .slice none 0 0] 86) := by
 rw [h.block w.heap.size (by simp) (by omega)]
 exact heap_alloc_new w _
theorem three_cellsT {w : World} {g T : Nat} {a b c : Value} (h : w.heap[g]? = some (.cells #[a, b, c] T)) :
 w.cell? ⟨g, 0, none⟩ = some a ∧ w.cell? ⟨g, 1, none⟩ = some b ∧ w.cell? ⟨g, 2, none⟩ = some c ∧ w.frozen? ⟨g, 0, none⟩ = false ∧ w.frozen? ⟨g, 1, none⟩ = false ∧ w.frozen? ⟨g, 2, none⟩ = false := by
 refine ⟨?_, ?_, ?_, ?_, ?_, ?_⟩ <;> simp [World.cell?, World.frozen?, h]
theorem three_setT {w : World} {g T : Nat} {a b c : Value} (h : w.heap[g]? = some (.cells #[a, b, c] T)) (u v z : Value) :
 (((w.setCell ⟨g, 0, none⟩ u).setCell ⟨g, 1, none⟩ v).setCell ⟨g, 2, none⟩ z).heap[g]? = some (.cells #[u, v, z] T) := by
 simp only [World.setCell, Array.getElem?_modify, h]; simp
theorem But.tailT {g : Nat} {w x1 x2 : World} (h : But g w x1) (k : Below w.heap.size x1 x2) : But g w x2 :=
 ⟨k.os.trans h.os, k.tape.trans h.tape, k.output.trans h.output, Nat.le_trans h.size k.size, fun j hj hn => (k.block j hj).trans (h.block j hj hn)⟩
theorem Mk.below {C : MkC} {w w' : World} {g a B : Nat} (h : Mk C w g a) (hb : Below B w w') (hg : g < B) : Mk C w' g a :=
 ⟨(hb.block g hg).trans h.1, h.2.1, h.2.2.1.below (hb.mono (Nat.le_of_lt hg)), h.2.2.2.1.below (hb.mono (Nat.le_of_lt hg)), h.2.2.2.2.below (hb.mono (Nat.le_of_lt hg))⟩
theorem leaf_end {C : MkC} {g k at_ a1 G : Nat} {w x : World} {t : Tr} (hG : G = w.heap.size) (hgw : g < w.heap.size) (HB : But g (w.alloc (.cells #[.int .i64 0, .string ByteArray.empty, .slice none 0 0] 86)) x) (HM : Mk C x g a1) (hT : ∀ w', TreeAt C.F C.P C.n w' (fun b => w.heap.size ≤ b) k at_ t) :
 ∀ e, e = .returned (.agg #[.int .i64 t.1, .string t.2.1, t.2.2]) → GaveT C g k at_ w e (((x.setCell ⟨G, 0, none⟩ (.int .i64 t.1)).setCell ⟨G, 1, none⟩ (.string t.2.1)).setCell ⟨G, 2, none⟩ t.2.2) := by
 subst hG
 rintro e rfl
 have hb : Below w.heap.size x (((x.setCell ⟨w.heap.size, 0, none⟩ (.int .i64 t.1)).setCell ⟨w.heap.size, 1, none⟩ (.string t.2.1)).setCell ⟨w.heap.size, 2, none⟩ t.2.2) :=
  (((Below.refl _ _).setCell (p := ⟨w.heap.size, 0, none⟩) (Nat.le_refl _) _).setCell (p := ⟨w.heap.size, 1, none⟩) (Nat.le_refl _) _).setCell (p := ⟨w.heap.size, 2, none⟩) (Nat.le_refl _) _
 exact ⟨t, a1, rfl, Lib.hid (hT _), Lib.hid (HM.below hb hgw), Lib.hid (((But.of (balloc (Below.refl _ _) _)).trans HB).tailT hb)⟩
set_option maxHeartbeats 8000000 in
set_option maxRecDepth 100000 in
theorem value8_leaf (C : MkC) (dep : Nat → Nat) (anc : Nat → Nat → Nat) (hC : MkOk C dep anc) (g k at_ a : Nat) (w : World) (hat : at_ < C.n) (h : Mk C w g a) (hkd : (fAt C.F at_).kind ≠ 0) :
 Calls Tryz.prog 69 #[.pointer (some ⟨g, 0, none⟩), .int .i64 (at_ : Nat)] w (GaveT C g (k + 1) at_ w) := by
 have hT : ∀ (w' : World) (t : Tr), LeafFit (fAt C.F at_).kind t → TreeAt C.F C.P C.n w' (fun b => w.heap.size ≤ b) (k + 1) at_ t := fun w' t ht => by unfold TreeAt; rw [if_pos hkd]; exact ht
 have hkd4 := (hC.fin.kinds at_ (by rw [hC.len]; exact hat)).1
 have hcase : (fAt C.F at_).kind = 1 ∨ (fAt C.F at_).kind = 2 ∨ (fAt C.F at_).kind = 3 ∨ (fAt C.F at_).kind = 4 := by omega
 have h1 := h.keep (balloc (Below.refl w.heap.size w) (.cells #[.int .i64 0, .string ByteArray.empty, .slice none 0 0] 86))
 have HN := Lib.hid (next8_any C g a _ h1 hC.ns hC.lN hC.nsin)
 have hgw := h.lt
 obtain ⟨kd, hk⟩ : ∃ kd, kd = (fAt C.F at_).kind := ⟨_, rfl⟩
 rw [← hk] at hT hcase
 have HT := Lib.hid hT
 have HC := Lib.hid hC
 have f0 : (0 : Int) ≤ (at_ : Int) := by omega
 have f1 : (at_ : Int) < (C.n : Int) := by omega
 have Hk := Lib.hid hk
 clear hT hkd hkd4 h1 h hC hk
 go_enter Tryz.func69, Tryz.ntmps69
 go_wp2_with fail
 refine HN.out.mono ?_
 rintro e x ⟨v, a1, rfl, Hv, HM, HB⟩
 have hres := res_cells3 hgw HB.out
 obtain ⟨r0, r1, r2, q0, q1, q2⟩ := three_cellsT hres
 obtain ⟨m0, m1, m2, m3, -⟩ := four_cellsT HM.out.1
 obtain ⟨b, off, hbe, hb, -, -, j2, -⟩ := (HM.out.2.2.1).fd HC.out.len hat
 rw [← Hk.out] at j2
 rw [hbe] at m0
 obtain ⟨hv1, hv2⟩ := Hv.out
 rcases hcase with hk1 | hk1 | hk1 | hk1
 · subst hk1
   obtain ⟨q, hq, hq2⟩ := modN' v 2 (by decide)
   have Hq : Hid (v % 2 = (q : Int)) := Lib.hid hq
   clear hq HN
   go_wp2_with fail
   refine (within8_any v 2 _ (by omega) (by omega) hv1 hv2).mono ?_
   rw [Hq.out]; rintro e y ⟨rfl, rfl⟩
   go_wp2
   obtain ⟨d0, d1, d2, -, -, -⟩ := three_cellsT (three_setT hres (.int .i64 (q : Nat)) (.string ⟨#[]⟩) (.slice none 0 0))
   exact bodyPost_ret (v := .agg #[.int .i64 (q : Nat), .string ⟨#[]⟩, .slice none 0 0]) (by simp [results, Tryz.results69, go_sem, d0, d1, d2]) rfl
    (leaf_end (t := ((q : Int), ⟨#[]⟩, .slice none 0 0)) rfl hgw HB.out HM.out (fun w' => HT.out w' _ ⟨rfl, .inl ⟨rfl, by show (0 : Int) ≤ (q : Int); omega, by show (q : Int) ≤ 1; omega, rfl⟩⟩) _ rfl)
 · subst hk1
   obtain ⟨q, hq, hq2⟩ := modN' v 300 (by decide)
   have Hq : Hid (v % 300 = (q : Int)) := Lib.hid hq
   clear hq HN
   go_wp2_with fail
   refine (within8_any v 300 _ (by omega) (by omega) hv1 hv2).mono ?_
   rw [Hq.out]; rintro e y ⟨rfl, rfl⟩
   go_wp2
   obtain ⟨d0, d1, d2, -, -, -⟩ := three_cellsT (three_setT hres (.int .i64 ((q : Int) - 100)) (.string ⟨#[]⟩) (.slice none 0 0))
   exact bodyPost_ret (v := .agg #[.int .i64 ((q : Int) - 100), .string ⟨#[]⟩, .slice none 0 0]) (by simp [results, Tryz.results69, go_sem, d0, d1, d2]) rfl
    (leaf_end (t := ((q : Int) - 100, ⟨#[]⟩, .slice none 0 0)) rfl hgw HB.out HM.out (fun w' => HT.out w' _ ⟨rfl, .inr (.inl ⟨rfl, by show -100 ≤ (q : Int) - 100; omega, by show (q : Int) - 100 < 200; omega, rfl⟩)⟩) _ rfl)
 · subst hk1
   clear HN
   go_wp2
   obtain ⟨d0, d1, d2, -, -, -⟩ := three_cellsT (three_setT hres (.int .i64 v) (.string ⟨#[]⟩) (.slice none 0 0))
   exact bodyPost_ret (v := .agg #[.int .i64 v, .string ⟨#[]⟩, .slice none 0 0]) (by simp [results, Tryz.results69, go_sem, d0, d1, d2]) rfl
    (leaf_end (t := (v, ⟨#[]⟩, .slice none 0 0)) rfl hgw HB.out HM.out (fun w' => HT.out w' _ ⟨rfl, .inr (.inr (.inl ⟨rfl, Hv.out, rfl⟩))⟩) _ rfl)
 · subst hk1
   obtain ⟨q, hq, hq2⟩ := modN' v 9 (by decide)
   have Hq : Hid (v % 9 = (q : Int)) := Lib.hid hq
   clear hq HN
   go_wp2_with fail
   refine (within8_any v 9 _ (by omega) (by omega) hv1 hv2).mono ?_
   rw [Hq.out]; rintro e y ⟨rfl, rfl⟩
   go_wp2
   obtain ⟨S, hS⟩ : ∃ S, S = (⟨#[97, 98, 99, 97, 98, 99, 97, 98, 99, 97, 98, 99]⟩ : ByteArray).extract 0 q := ⟨_, rfl⟩
   rw [← hS]
   have hSs : S.size ≤ 8 := by
    rw [hS, ByteArray.size_extract]
    omega
   obtain ⟨d0, d1, d2, -, -, -⟩ := three_cellsT (three_setT hres (.int .i64 0) (.string S) (.slice none 0 0))
   exact bodyPost_ret (v := .agg #[.int .i64 0, .string S, .slice none 0 0]) (by simp [results, Tryz.results69, go_sem, d0, d1, d2]) rfl
    (leaf_end (t := (0, S, .slice none 0 0)) rfl hgw HB.out HM.out (fun w' => HT.out w' _ ⟨rfl, .inr (.inr (.inr ⟨rfl, rfl, hSs⟩))⟩) _ rfl)
end Go.Proofs.YtebmbkbnngeabaaGreat
