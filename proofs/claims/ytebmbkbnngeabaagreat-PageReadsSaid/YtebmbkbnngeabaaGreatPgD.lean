/- Chapter 14's document: the walk over cell. -/
import Derived.Test.YtebmbkbnngeabaaGreatPgC
set_option linter.unusedSimpArgs false
namespace Go.Proofs.YtebmbkbnngeabaaGreat
open Go.RowKit
set_option linter.unusedVariables false
def CS (C : WkC) (g gc gb : Nat) (vb : Vl) (cs0 c1 c2 : List Cd) (u : List Value) (r1 r2 r3 : RowD) (y : World) : Prop :=
 OwnRs y (g + 1) ((⟨33, 3, .slice (some ⟨gc, 0, none⟩) 1 1, 1, u⟩ :: ⟨81, 2, .slice (some ⟨gb, 0, none⟩) 1 1, 1, [.int .i64 vb.1, .string vb.2]⟩ :: ⟨3, 1, .slice C.aoL C.n C.capL, C.n, i64v (leafL C.F C.n)⟩ :: ⟨3, 1, .slice C.aoR C.n C.capR, C.n, natv C.RR⟩ :: ⟨33, 3, .slice C.aoC C.m C.capC, C.m, wcs cdV cs0⟩ :: colRows c1) ++ r1 :: r2 :: r3 :: colRows c2)
section
variable {C : WkC} {g gc gb : Nat} {vb : Vl} {cs0 c1 c2 : List Cd} {u : List Value} {r1 r2 r3 : RowD} {y y' : World}
theorem CS.keep (h : CS C g gc gb vb cs0 c1 c2 u r1 r2 r3 y) (hb : Below y.heap.size y y') : CS C g gc gb vb cs0 c1 c2 u r1 r2 r3 y' := OwnRs.below h hb
theorem CS.start {w w1 x : World} {c : Cd} (h : OwnRs w (g + 1) (wkRows C cs0 (c1 ++ c :: c2))) (hb1 : Below w.heap.size w w1) (hgb : gb = w.heap.size) (hx1 : w1.heap[gb]? = some (.cells #[.int .i64 vb.1, .string vb.2] 81))
 (hb : Below w1.heap.size w1 x) (hgc : gc = w1.heap.size) (hgg : g < gb) {u0 u1 u2 : Value} (hx : x.heap[gc]? = some (.cells #[u0, u1, u2] 33)) :
 CS C g gc gb vb cs0 c1 c2 [u0, u1, u2] (rR c) (rD c) (rV c) x := by
 unfold wkRows at h
 rw [colRows_split] at h
 unfold CS
 have h1 := OwnRs.newRow h hb1 ⟨81, 2, .slice (some ⟨gb, 0, none⟩) 1 1, 1, [.int .i64 vb.1, .string vb.2]⟩ (own_blk (cs := #[.int .i64 vb.1, .string vb.2]) hx1 rfl (by unfold maxLen; omega) hgg) (fun k hk => by
  simp only [Value.ownBlock, Option.some.injEq] at hk
  omega)
 refine OwnRs.newRow h1 hb ⟨33, 3, .slice (some ⟨gc, 0, none⟩) 1 1, 1, [u0, u1, u2]⟩ ?_ (fun k hk => ?_)
 · exact own_blk (cs := #[u0, u1, u2]) hx rfl (by unfold maxLen; omega) (by have := hb1.size; omega)
 · simp only [Value.ownBlock, Option.some.injEq] at hk
   omega
theorem CS.set1 {e : TypeId} {s n n' : Nat} {v v' : Value} {xs xs' : List Value} (h : CS C g gc gb vb cs0 c1 c2 u ⟨e, s, v, n, xs⟩ r2 r3 y) (ho : y'.ownsRow (g + 1) e s v' n' xs') (hg : y.grownBy y' v.ownBlock) (hs : SameOrNew y v v') : CS C g gc gb vb cs0 c1 c2 u ⟨e, s, v', n', xs'⟩ r2 r3 y' := OwnRs.put1 h ⟨e, s, v', n', xs'⟩ hg ho hs
theorem CS.set2 {e : TypeId} {s n n' : Nat} {v v' : Value} {xs xs' : List Value} (h : CS C g gc gb vb cs0 c1 c2 u r1 ⟨e, s, v, n, xs⟩ r3 y) (ho : y'.ownsRow (g + 1) e s v' n' xs') (hg : y.grownBy y' v.ownBlock) (hs : SameOrNew y v v') : CS C g gc gb vb cs0 c1 c2 u r1 ⟨e, s, v', n', xs'⟩ r3 y' := OwnRs.put2 h ⟨e, s, v', n', xs'⟩ hg ho hs
theorem CS.set3 {e : TypeId} {s n n' : Nat} {v v' : Value} {xs xs' : List Value} (h : CS C g gc gb vb cs0 c1 c2 u r1 r2 ⟨e, s, v, n, xs⟩ y) (ho : y'.ownsRow (g + 1) e s v' n' xs') (hg : y.grownBy y' v.ownBlock) (hs : SameOrNew y v v') : CS C g gc gb vb cs0 c1 c2 u r1 r2 ⟨e, s, v', n', xs'⟩ y' := OwnRs.put3 h ⟨e, s, v', n', xs'⟩ hg ho hs
theorem CS.o1 {e : TypeId} {s n : Nat} {v : Value} {xs : List Value} (h : CS C g gc gb vb cs0 c1 c2 u ⟨e, s, v, n, xs⟩ r2 r3 y) : y.ownsRow (g + 1) e s v n xs := OwnRs.of1 h
theorem CS.o2 {e : TypeId} {s n : Nat} {v : Value} {xs : List Value} (h : CS C g gc gb vb cs0 c1 c2 u r1 ⟨e, s, v, n, xs⟩ r3 y) : y.ownsRow (g + 1) e s v n xs := OwnRs.of2 h
theorem CS.o3 {e : TypeId} {s n : Nat} {v : Value} {xs : List Value} (h : CS C g gc gb vb cs0 c1 c2 u r1 r2 ⟨e, s, v, n, xs⟩ y) : y.ownsRow (g + 1) e s v n xs := OwnRs.of3 h
theorem apart_ne {gc n cap : Nat} {v : Value} (h : Apart (.slice (some ⟨gc, 0, none⟩) n cap) v) : v.ownBlock ≠ some gc := by
 rcases h with h | h
 · cases h
 · exact fun e => h e.symm
theorem CS.ne1 {e : TypeId} {s n : Nat} {v : Value} {xs : List Value} (h : CS C g gc gb vb cs0 c1 c2 u ⟨e, s, v, n, xs⟩ r2 r3 y) : v.ownBlock ≠ some gc := apart_ne (OwnRs.apart (r := ⟨33, 3, .slice (some ⟨gc, 0, none⟩) 1 1, 1, u⟩) (x := ⟨e, s, v, n, xs⟩) h (by simp))
theorem CS.ne2 {e : TypeId} {s n : Nat} {v : Value} {xs : List Value} (h : CS C g gc gb vb cs0 c1 c2 u r1 ⟨e, s, v, n, xs⟩ r3 y) : v.ownBlock ≠ some gc := apart_ne (OwnRs.apart (r := ⟨33, 3, .slice (some ⟨gc, 0, none⟩) 1 1, 1, u⟩) (x := ⟨e, s, v, n, xs⟩) h (by simp))
theorem CS.og (h : CS C g gc gb vb cs0 c1 c2 u r1 r2 r3 y) : y.ownsRow (g + 1) 33 3 (.slice (some ⟨gc, 0, none⟩) 1 1) 1 u := h.1 ⟨33, 3, .slice (some ⟨gc, 0, none⟩) 1 1, 1, u⟩ (by simp)
theorem CS.ob (h : CS C g gc gb vb cs0 c1 c2 u r1 r2 r3 y) : y.ownsRow (g + 1) 81 2 (.slice (some ⟨gb, 0, none⟩) 1 1) 1 [.int .i64 vb.1, .string vb.2] := h.1 ⟨81, 2, .slice (some ⟨gb, 0, none⟩) 1 1, 1, [.int .i64 vb.1, .string vb.2]⟩ (by simp)
theorem CS.oL (h : CS C g gc gb vb cs0 c1 c2 u r1 r2 r3 y) : y.ownsRow (g + 1) 3 1 (.slice C.aoL C.n C.capL) C.n (i64v (leafL C.F C.n)) := h.1 ⟨3, 1, .slice C.aoL C.n C.capL, C.n, i64v (leafL C.F C.n)⟩ (by simp)
theorem CS.box (h : CS C g gc gb vb cs0 c1 c2 u r1 r2 r3 y) : y.cell? ⟨gb, 0, none⟩ = some (.int .i64 vb.1) ∧ y.cell? ⟨gb, 1, none⟩ = some (.string vb.2) := ⟨by rw [h.ob.cellAt 0 (by decide)]; rfl, by rw [h.ob.cellAt 1 (by decide)]; rfl⟩
theorem CS.back {c c' : Cd} {q gC : Nat} (hC : C.aoC = some ⟨gC, 0, none⟩) (hq : c1.length = q) {u0 u1 u2 : Value} (hu : cdV c' = [u0, u1, u2]) (h : CS C g gc gb vb (c1 ++ c :: c2) c1 c2 u (rR c') (rD c') (rV c') y) :
 OwnRs (((y.setCell ⟨gC, q * 3, none⟩ u0).setCell ⟨gC, q * 3 + 1, none⟩ u1).setCell ⟨gC, q * 3 + 2, none⟩ u2) (g + 1) (wkRows C (c1 ++ c' :: c2) (c1 ++ c' :: c2)) := by
 unfold CS at h
 have h1 := OwnRs.tail (OwnRs.tail h)
 unfold wkRows
 rw [colRows_split]
 rw [hC] at h1 ⊢
 have e : ∀ (a b c : RowD) (l m : List RowD), a :: b :: c :: (l ++ m) = [a, b] ++ c :: (l ++ m) := fun _ _ _ _ _ => rfl
 have h2 : OwnRs y (g + 1) ([⟨3, 1, .slice C.aoL C.n C.capL, C.n, i64v (leafL C.F C.n)⟩, ⟨3, 1, .slice C.aoR C.n C.capR, C.n, natv C.RR⟩] ++ ⟨33, 3, .slice (some ⟨gC, 0, none⟩) C.m C.capC, C.m, wcs cdV (c1 ++ c :: c2)⟩ :: (colRows c1 ++ rR c' :: rD c' :: rV c' :: colRows c2)) := h1
 have h3 := ((h2.set (q * 3) u0).set (q * 3 + 1) u1).set (q * 3 + 2) u2
 rw [wcs_put3 c1 c c2 c' q hq u0 u1 u2 hu] at h3
 exact h3
theorem CS.oC (h : CS C g gc gb vb cs0 c1 c2 u r1 r2 r3 y) : y.ownsRow (g + 1) 33 3 (.slice C.aoC C.m C.capC) C.m (wcs cdV cs0) := h.1 ⟨33, 3, .slice C.aoC C.m C.capC, C.m, wcs cdV cs0⟩ (by simp)
theorem CS.store (h : CS C g gc gb vb cs0 c1 c2 u r1 r2 r3 y) (j : Nat) (z : Value) : CS C g gc gb vb cs0 c1 c2 (u.set j z) r1 r2 r3 (y.setCell ⟨gc, j, none⟩ z) := OwnRs.set (A := []) h j z
theorem CS.cells {u0 u1 u2 : Value} (h : CS C g gc gb vb cs0 c1 c2 [u0, u1, u2] r1 r2 r3 y) : y.cell? ⟨gc, 0, none⟩ = some u0 ∧ y.cell? ⟨gc, 1, none⟩ = some u1 ∧ y.cell? ⟨gc, 2, none⟩ = some u2 ∧ y.frozen? ⟨gc, 0, none⟩ = false ∧ y.frozen? ⟨gc, 1, none⟩ = false ∧ y.frozen? ⟨gc, 2, none⟩ = false :=
 ⟨by rw [h.og.cellAt 0 (by decide)]; rfl, by rw [h.og.cellAt 1 (by decide)]; rfl, by rw [h.og.cellAt 2 (by decide)]; rfl, h.og.frozenAt 0, h.og.frozenAt 1, h.og.frozenAt 2⟩
theorem CS.store2 {x : World} {u0 u1 u2 : Value} (a b : Value) (h : CS C g gc gb vb cs0 c1 c2 [u0, u1, u2] r1 r2 r3 y) (hB : Fr g x y) (hg : g + 1 ≤ x.heap.size) :
 CS C g gc gb vb cs0 c1 c2 [a, b, u2] r1 r2 r3 ((y.setCell ⟨gc, 0, none⟩ a).setCell ⟨gc, 1, none⟩ b) ∧ Fr g x ((y.setCell ⟨gc, 0, none⟩ a).setCell ⟨gc, 1, none⟩ b) :=
 have hy := Nat.le_trans hg hB.b.size
 have h1 := hB.set h.og (.inr (.inr rfl)) hy 0 a
 ⟨(h.store 0 a).store 1 b, h1.set (h.store 0 a).og (.inr (.inr rfl)) (Nat.le_trans hg h1.b.size) 1 b⟩
end
def GaveCell (C : WkC) (g : Nat) (c1 : List Cd) (c : Cd) (c2 : List Cd) (w : World) (e : Ending) (w' : World) : Prop :=
 e = .returned (.tuple #[]) ∧ ∃ c', c'.N = c.N + 1 ∧ Hid (Wk C w' g (c1 ++ c' :: c2)) ∧ Hid (Fr g w w')
set_option maxHeartbeats 8000000 in
set_option maxRecDepth 100000 in
theorem cell14_any (C : WkC) (dep : Nat → Nat) (anc : Nat → Nat → Nat) (hC : WkOk C dep anc) (g at_ r d : Nat) (v : Vl) (has : Bool) (c1 : List Cd) (c : Cd) (c2 : List Cd) (w : World) (h : Wk C w g (c1 ++ c :: c2)) (hat : at_ < C.n) (hk : (fAt C.F at_).kind ≠ 0) (hq : c1.length = nLf C.F at_)
 (hN : c.N < 100000) (hr : r ≤ 100) (hd : d ≤ 100) (hv : okV v ∧ v.2.size ≤ 8) :
 Calls Tryz.prog 71 #[.pointer (some ⟨g, 0, none⟩), .int .i64 (at_ : Nat), .int .i64 (r : Nat), .int .i64 (d : Nat), .agg #[.int .i64 v.1, .string v.2], .bool has] w (GaveCell C g c1 c c2 w) := by
 obtain ⟨w1, hw1⟩ : ∃ x, x = w.alloc (.cells #[.int .i64 v.1, .string v.2] 81) := ⟨_, rfl⟩
 have hb1 : Below w.heap.size w w1 := by rw [hw1]; exact balloc (Below.refl _ _) _
 have hg := h.lt
 have h1 := h.keep hb1
 have hbox : w1.heap[w.heap.size]? = some (.cells #[.int .i64 v.1, .string v.2] 81) := by rw [hw1]; exact heap_alloc_new w _
 have hgw1 : w.heap.size < w1.heap.size := (Array.getElem?_eq_some_iff.1 hbox).1
 obtain ⟨F, P, n, aoS, capS, aoP, capP, aoL, capL, aoR, capR, RR, aoC, capC, m⟩ := C
 obtain ⟨caoR, ccR, caoD, ccD, caoV, ccV, N, M, LR, LD, LV⟩ := c
 have HC := Lib.hid hC
 have hm14 : m ≤ 14 := by
  have := hC.m; have := nLf_le F n; have h3 := hC.fin.small; have h4 := hC.len
  simp only at *; omega
 have hn14 : n ≤ 14 := by have h3 := hC.fin.small; have h4 := hC.len; simp only at *; omega
 have hlen := h.len
 simp only [List.length_append, List.length_cons] at hlen hat hk hq hN
 obtain ⟨q, hqq⟩ : ∃ q, q = nLf F at_ := ⟨_, rfl⟩
 rw [← hqq] at hq
 have hqm : q < m := by omega
 obtain ⟨k0, k1, k2, k3, k4⟩ := five_cells h1.blk
 have hrows := h1.rows
 unfold wkRows at hrows
 simp only at k0 k1 k2 k3 k4 hrows
 have hoL : w1.ownsRow (g + 1) 3 1 (.slice aoL n capL) n (i64v (leafL F n)) := hrows.1 _ (List.mem_cons_self ..)
 have hoC : w1.ownsRow (g + 1) 33 3 (.slice aoC m capC) m (wcs cdV (c1 ++ ⟨caoR, ccR, caoD, ccD, caoV, ccV, N, M, LR, LD, LV⟩ :: c2)) := hrows.1 _ (List.mem_cons_of_mem _ (List.mem_cons_of_mem _ (List.mem_cons_self ..)))
 obtain ⟨gL, _, hvL, -, -⟩ := own_shapeG (show 0 < n by omega) hoL
 obtain ⟨gC, _, hvC, -, -⟩ := own_shapeG (show 0 < m by omega) hoC
 simp only [Value.slice.injEq, true_and] at hvL hvC
 obtain ⟨rfl, rfl⟩ := hvL
 obtain ⟨rfl, rfl⟩ := hvC
 have hcd : (c1 ++ (⟨caoR, ccR, caoD, ccD, caoV, ccV, N, M, LR, LD, LV⟩ : Cd) :: c2).getD q cd0 = ⟨caoR, ccR, caoD, ccD, caoV, ccV, N, M, LR, LD, LV⟩ := by
  rw [List.getD_eq_getElem?_getD, List.getElem?_append_right (by omega), hq, Nat.sub_self]; rfl
 have cL : w1.cell? ⟨gL, at_, none⟩ = some (.int .i64 (q : Nat)) := by
  rw [own_ci hoL at_ hat, leafL_at _ _ _ hat, hqq]; unfold leafN; rw [if_neg hk]
 have hlc : (c1 ++ (⟨caoR, ccR, caoD, ccD, caoV, ccV, N, M, LR, LD, LV⟩ : Cd) :: c2).length = m := by simp; omega
 have x0 := own_cw cdV_length hoC cd0 hlc q 0 hqm (by decide)
 have x1 := own_cw cdV_length hoC cd0 hlc q 1 hqm (by decide)
 have x2 := own_cw cdV_length hoC cd0 hlc q 2 hqm (by decide)
 rw [hcd] at x0 x1 x2
 simp only [cdV, List.getD_cons_zero, List.getD_cons_succ] at x0 x1 x2
 have p4 : ∀ w', Grows w1.drew w' → w'.cell? ⟨g, 4, none⟩ = some (.slice (some ⟨gC, 0, none⟩) m capC) := fun w' hg => Grows.cell (Grows.toDrew hg) k4
 have p2 : ∀ w', Grows w1.drew w' → w'.cell? ⟨g, 2, none⟩ = some (.slice (some ⟨gL, 0, none⟩) n capL) := fun w' hg => Grows.cell (Grows.toDrew hg) k2
 have pL : ∀ w', Grows w1.drew w' → w'.cell? ⟨gL, at_, none⟩ = some (.int .i64 (q : Nat)) := fun w' hg => Grows.cell (Grows.toDrew hg) cL
 have px0 : ∀ w', Grows w1.drew w' → w'.cell? ⟨gC, q * 3, none⟩ = some (.slice caoR N ccR) := fun w' hg => Grows.cell (Grows.toDrew hg) x0
 have px1 : ∀ w', Grows w1.drew w' → w'.cell? ⟨gC, q * 3 + 1, none⟩ = some (.slice caoD N ccD) := fun w' hg => Grows.cell (Grows.toDrew hg) x1
 have px2 : ∀ w', Grows w1.drew w' → w'.cell? ⟨gC, q * 3 + 2, none⟩ = some (.slice caoV M ccV) := fun w' hg => Grows.cell (Grows.toDrew hg) x2
 have e0 : (0 : Int) ≤ (at_ : Int) := by omega
 have e1 : (at_ : Int) < (n : Int) := by omega
 have e2 : (0 : Int) ≤ (q : Int) := by omega
 have e3 : (q : Int) < (m : Int) := by omega
 have HLf : Hid ((leafL F n).getD at_ 0 = (q : Int)) := Lib.hid (by rw [leafL_at _ _ _ hat, hqq]; unfold leafN; rw [if_neg hk])
 have Hq := Lib.hid hq; have H1 := Lib.hid h1; have H0 := Lib.hid h; have Hv := Lib.hid hv; have Hb1 := Lib.hid hb1; have Hrows := Lib.hid hrows; have Hlc := Lib.hid hlc; have Hbox := Lib.hid hbox
 clear hq h1 hv hb1 hrows hlc hbox hqq hk h hC hlen hcd x0 x1 x2 cL hoL hoC k0 k1 k2 k3 k4
 go_enter Tryz.func71, Tryz.ntmps71
 go_upto_region 1 with fail
 rw [← hw1]
 clear hw1
 obtain ⟨gc, hgc⟩ : ∃ x, x = w1.heap.size := ⟨_, rfl⟩
 go_cut [12] (fun pv wy => pv = .pointer (some ⟨gc, 0, none⟩) ∧ wy.heap[gc]? = some (.cells #[.slice caoR N ccR, .slice caoD N ccD, .slice caoV M ccV] 33) ∧ Hid (Below w1.heap.size w1 wy))
 case first =>
  refine wp_region_linR Grows ⟨Grows.refl, Grows.trans⟩ (.take 0 (.take 1 (.take 2 (.take 3 (.take 4 (.take 5 (.take 6 (.take 7 (.take 8 (.take 9 (.take 10 (.take 11 (.take 12 (.one 13 (.one 14 (.done)))))))))))))))) [14] (by kernel_rfl) (by kernel_rfl) (fun d _ _ _ _ h => by cases d <;> exact h) ?_
  iterate 13 (first
   | (refine wpLinR_take (v := ?_) rfl rfl (fun w' hw' => ?_) (fun K hK => ?_); rotate_left; (go_simp; rfl); (go_simp; refine hK _ ?_; clear hK K)))
  clear p4 p2 pL px0 px1 px2
  refine wpLinR_one rfl (fun K hK => ?_)
  go_simp
  refine hK _ _ (.inr ((Grows.refl _).alloc _)) ?_; clear hK K
  rw [← hgc]
  have hz0 : (w1.alloc (.cells #[.slice none 0 0, .slice none 0 0, .slice none 0 0] 33)).drew.heap[gc]? = some (.cells #[.slice none 0 0, .slice none 0 0, .slice none 0 0] 33) := by rw [hgc]; exact heap_alloc_new w1 _
  have hzb : Below w1.heap.size w1 (w1.alloc (.cells #[.slice none 0 0, .slice none 0 0, .slice none 0 0] 33)).drew := (balloc (Below.refl _ _) _).drew
  obtain ⟨z, hz⟩ : ∃ x, x = (w1.alloc (.cells #[.slice none 0 0, .slice none 0 0, .slice none 0 0] 33)).drew := ⟨_, rfl⟩
  rw [← hz] at hz0 hzb ⊢
  obtain ⟨d0, d1, d2, f0, f1, f2⟩ := three_cellsT hz0
  have hfin := three_setT hz0 (.slice caoR N ccR) (.slice caoD N ccD) (.slice caoV M ccV)
  have hfb : Below w1.heap.size w1 (((z.setCell ⟨gc, 0, none⟩ (.slice caoR N ccR)).setCell ⟨gc, 1, none⟩ (.slice caoD N ccD)).setCell ⟨gc, 2, none⟩ (.slice caoV M ccV)) :=
   ((hzb.setCell (p := ⟨gc, 0, none⟩) (by show _ ≤ gc; omega) _).setCell (p := ⟨gc, 1, none⟩) (by show _ ≤ gc; omega) _).setCell (p := ⟨gc, 2, none⟩) (by show _ ≤ gc; omega) _
  have Hfin := Lib.hid hfin; have Hfb := Lib.hid hfb; have Hgc := Lib.hid hgc
  clear hz hz0 hzb hfin hfb hgc
  refine wpLinR_one rfl (fun K hK => ?_)
  go_simp
  refine hK _ _ (.inl (by decide)) ?_; clear hK K
  refine wpLinR_nil ?_
  go_wp2
  go_meet
  exact ⟨rfl, Hfin.out, Hfb⟩
 case rest =>
  clear p4 p2 pL px0 px1 px2
  obtain ⟨rfl, hx0, HB0⟩ := hcut
  obtain ⟨x, hxx⟩ : ∃ z, z = wc := ⟨_, rfl⟩
  subst hxx
  have hgx1 := HB0.out.size
  have HS0 : Hid (CS ⟨F, P, n, aoS, capS, aoP, capP, some ⟨gL, 0, none⟩, capL, aoR, capR, RR, some ⟨gC, 0, none⟩, capC, m⟩ g gc w.heap.size v (c1 ++ ⟨caoR, ccR, caoD, ccD, caoV, ccV, N, M, LR, LD, LV⟩ :: c2) c1 c2 [.slice caoR N ccR, .slice caoD N ccD, .slice caoV M ccV] ⟨3, 1, .slice caoR N ccR, N, natv LR⟩ ⟨3, 1, .slice caoD N ccD, N, natv LD⟩ ⟨81, 2, .slice caoV M ccV, M, vcs LV⟩ x) :=
   Lib.hid (CS.start (C := ⟨F, P, n, aoS, capS, aoP, capP, some ⟨gL, 0, none⟩, capL, aoR, capR, RR, some ⟨gC, 0, none⟩, capC, m⟩) H0.out.rows Hb1.out rfl Hbox.out HB0.out hgc hg hx0)
  have hggc : g < gc := by omega
  have hgcx : gc < x.heap.size := (Array.getElem?_eq_some_iff.1 hx0).1
  have hgx : g + 1 ≤ x.heap.size := by omega
  have Hgc := Lib.hid hgc
  clear hx0 hgc
  go_upto_region 2 with fail
  go_cut [12] (fun pv wy => pv = .pointer (some ⟨gc, 0, none⟩) ∧ ∃ (gR2 capR2 gD2 capD2 : Nat), Hid (CS ⟨F, P, n, aoS, capS, aoP, capP, some ⟨gL, 0, none⟩, capL, aoR, capR, RR, some ⟨gC, 0, none⟩, capC, m⟩ g gc w.heap.size v (c1 ++ ⟨caoR, ccR, caoD, ccD, caoV, ccV, N, M, LR, LD, LV⟩ :: c2) c1 c2 [.slice (some ⟨gR2, 0, none⟩) (N + 1) capR2, .slice (some ⟨gD2, 0, none⟩) (N + 1) capD2, .slice caoV M ccV] ⟨3, 1, .slice (some ⟨gR2, 0, none⟩) (N + 1) capR2, N + 1, natv (LR ++ [r])⟩ ⟨3, 1, .slice (some ⟨gD2, 0, none⟩) (N + 1) capD2, N + 1, natv (LD ++ [d])⟩ ⟨81, 2, .slice caoV M ccV, M, vcs LV⟩ wy ∧ Fr g x wy))
  case first =>
   obtain ⟨y0, y1, y2, -⟩ := HS0.out.cells
   have pc0 : ∀ w', SameBlk gc x.drew w' → w'.cell? ⟨gc, 0, none⟩ = some (.slice caoR N ccR) := fun w' h => SameBlk.cell h y0
   have pc1 : ∀ w', SameBlk gc x.drew w' → w'.cell? ⟨gc, 1, none⟩ = some (.slice caoD N ccD) := fun w' h => SameBlk.cell h y1
   have hloR := fun k (hk : (Value.slice caoR N ccR).ownBlock = some k) => (HS0.out.o1.lt k hk).2
   clear y0 y1 y2
   refine wp_region_linR (SameBlk gc) (SameBlk.pre gc) (.take 0 (.take 1 (.take 2 (.take 5 (.take 6 (.take 7 (.two 3 (.two 4 (.take 10 (.one 8 (.one 9 (.one 11 (.take 12 (.one 13 (.done))))))) 8 (.one 4 (.take 10 (.one 9 (.one 11 (.take 12 (.one 13 (.done)))))))) 8 (.one 3 (.one 4 (.take 10 (.one 9 (.one 11 (.take 12 (.one 13 (.done))))))))))))))) [11, 13] (by kernel_rfl) (by kernel_rfl) (fun d _ _ _ _ h => by cases d <;> exact h) ?_
   iterate 6 (first
    | (refine wpLinR_take (v := ?_) rfl rfl (fun w' hw' => ?_) (fun K hK => ?_); rotate_left; (go_simp; rfl); (go_simp; refine hK _ ?_; clear hK K)))
   clear pc0 pc1
   refine wpLinR_two rfl rfl (fun K hK => ?_) (fun K hK => ?_)
   · obtain ⟨xa, hxae⟩ : ∃ y, y = (x.alloc (.cells #[.int .i64 (r : Nat)] 3)).drew := ⟨_, rfl⟩
     have hbxa : Below x.heap.size x xa := by rw [hxae]; exact (balloc (Below.refl _ _) _).drew
     have hnxa : Below x.heap.size x xa := hbxa
     have hcR : CellsAt xa xa.heap.size (some ⟨x.heap.size, 0, none⟩) 1 (fun _ => Value.int .i64 (r : Nat)) := by rw [hxae]; exact cells_one x 3 (.int .i64 (r : Nat))
     have hSxa := HS0.out.keep hbxa
     have hsame : SameBlk gc x.drew xa := show SameBlk gc x xa from SameBlk.below hbxa hgcx
     have hBxa : Fr g x xa := (Fr.refl g x).step hbxa hgx
     go_simp; rw [← hxae]; refine hK _ _ (.inr hsame) ?_; clear hK K hsame hxae
     refine wpLinR_two rfl rfl (fun K hK => ?_) (fun K hK => ?_)
     · refine step_append_apart sl_i64' rfl (.tmp 27) (.tmp 29) rfl rfl hSxa.o1 rfl hcR (fun h => by cases h) (fun _ _ => rfl) (by unfold maxLen; omega) (by omega) (Nat.le_trans hgx hBxa.b.size) ?_
       intro vR xb hoR hgR hsR
       have hoR : xb.ownsRow (g + 1) 3 1 vR (N + 1) (natv (LR ++ [r])) := by rw [natv_append]; exact hoR
       have hSxb := hSxa.set1 hoR hgR hsR
       have hsame : SameBlk gc xa xb := SameBlk.grown hgR (Nat.lt_of_lt_of_le hgcx hBxa.b.size) hSxa.ne1
       have hBxb : Fr g x xb := hBxa.app hSxa.o1 (.inl rfl) hgR (Nat.le_trans hgx hBxa.b.size)
       go_simp; refine hK _ _ (.inr hsame) ?_; clear hK K hsame hgR hsR
       refine wpLinR_take (v := ?_) rfl rfl (fun w' hw' => ?_) (fun K hK => ?_); rotate_left; (go_simp; rfl); (go_simp; refine hK _ ?_; clear hK K)
       refine wpLinR_one rfl (fun K hK => ?_)
       obtain ⟨xc, hxce⟩ : ∃ y, y = xb.alloc (.cells #[.int .i64 (d : Nat)] 3) := ⟨_, rfl⟩
       have hbxc : Below xb.heap.size xb xc := by rw [hxce]; exact balloc (Below.refl _ _) _
       have hcD : CellsAt xc xc.heap.size (some ⟨xb.heap.size, 0, none⟩) 1 (fun _ => Value.int .i64 (d : Nat)) := by rw [hxce]; exact cells_one xb 3 (.int .i64 (d : Nat))
       have hSxc := hSxb.keep hbxc
       have hsame : SameBlk gc xb xc := SameBlk.below hbxc (Nat.lt_of_lt_of_le hgcx hBxb.b.size)
       have hBxc : Fr g x xc := hBxb.step hbxc (Nat.le_trans hgx hBxb.b.size)
       go_simp; rw [← hxce]; refine hK _ _ (.inr hsame) ?_; clear hK K hsame hxce
       refine wpLinR_one rfl (fun K hK => ?_)
       refine step_append_apart sl_i64' rfl (.tmp 32) (.tmp 34) rfl rfl hSxc.o2 rfl hcD (fun h => by cases h) (fun _ _ => rfl) (by unfold maxLen; omega) (by omega) (Nat.le_trans hgx hBxc.b.size) ?_
       intro vD xd hoD hgD hsD
       have hoD : xd.ownsRow (g + 1) 3 1 vD (N + 1) (natv (LD ++ [d])) := by rw [natv_append]; exact hoD
       have hSxd := hSxc.set2 hoD hgD hsD
       have hsame : SameBlk gc xc xd := SameBlk.grown hgD (Nat.lt_of_lt_of_le hgcx hBxc.b.size) hSxc.ne2
       have hBxd : Fr g x xd := hBxc.app hSxc.o2 (.inl rfl) hgD (Nat.le_trans hgx hBxc.b.size)
       go_simp; refine hK _ _ (.inr hsame) ?_; clear hK K hsame hgD hsD
       obtain ⟨gR2, capR2, rfl, -, -⟩ := own_shapeG (Nat.succ_pos _) hoR
       obtain ⟨gD2, capD2, rfl, -, -⟩ := own_shapeG (Nat.succ_pos _) hoD
       have HE := Lib.hid (hSxd.store2 (.slice (some ⟨gR2, 0, none⟩) (N + 1) capR2) (.slice (some ⟨gD2, 0, none⟩) (N + 1) capD2) hBxd hgx)
       obtain ⟨d0, d1, -, f0, f1, -⟩ := hSxd.cells
       clear hoR hoD
       refine wpLinR_one rfl (fun K hK => ?_)
       go_simp; refine hK _ _ (.inl (by decide)) ?_; clear hK K
       refine wpLinR_take (v := ?_) rfl rfl (fun w' hw' => ?_) (fun K hK => ?_); rotate_left; (go_simp; rfl); (go_simp; refine hK _ ?_; clear hK K)
       refine wpLinR_one rfl (fun K hK => ?_)
       go_simp; refine hK _ _ (.inl (by decide)) ?_; clear hK K
       refine wpLinR_nil ?_
       go_wp2
       go_meet
       exact ⟨rfl, _, _, _, _, HE⟩
     · obtain ⟨xb, hxbe⟩ : ∃ y, y = xa.alloc (.cells #[.int .i64 (d : Nat)] 3) := ⟨_, rfl⟩
       have hbxb : Below xa.heap.size xa xb := by rw [hxbe]; exact balloc (Below.refl _ _) _
       have hcD : CellsAt xb xb.heap.size (some ⟨xa.heap.size, 0, none⟩) 1 (fun _ => Value.int .i64 (d : Nat)) := by rw [hxbe]; exact cells_one xa 3 (.int .i64 (d : Nat))
       have hSxb := hSxa.keep hbxb
       have hsame : SameBlk gc xa xb := SameBlk.below hbxb (Nat.lt_of_lt_of_le hgcx hBxa.b.size)
       have hBxb : Fr g x xb := hBxa.step hbxb (Nat.le_trans hgx hBxa.b.size)
       go_simp; rw [← hxbe]; refine hK _ _ (.inr hsame) ?_; clear hK K hsame hxbe
       have hcR := hcR.at hbxb
       refine wpLinR_one rfl (fun K hK => ?_)
       refine step_append_apart sl_i64' rfl (.tmp 27) (.tmp 29) rfl rfl hSxb.o1 rfl hcR (fun h => by cases h) (fun _ _ => rfl) (by unfold maxLen; omega) (by omega) (Nat.le_trans hgx hBxb.b.size) ?_
       intro vR xc hoR hgR hsR
       have hoR : xc.ownsRow (g + 1) 3 1 vR (N + 1) (natv (LR ++ [r])) := by rw [natv_append]; exact hoR
       have hSxc := hSxb.set1 hoR hgR hsR
       have hsame : SameBlk gc xb xc := SameBlk.grown hgR (Nat.lt_of_lt_of_le hgcx hBxb.b.size) hSxb.ne1
       have hBxc : Fr g x xc := hBxb.app hSxb.o1 (.inl rfl) hgR (Nat.le_trans hgx hBxb.b.size)
       have hcD := hcD.grown hgR (fun a ha e => by have h1 := hloR _ e.symm; have h2 := hbxa.size; cases ha; simp only at h1; omega)
       have hcD : CellsAt xc xc.heap.size (some ⟨xa.heap.size, 0, none⟩) 1 (fun _ => Value.int .i64 (d : Nat)) := hcD.mono hgR.size
       go_simp; refine hK _ _ (.inr hsame) ?_; clear hK K hsame hgR hsR
       refine wpLinR_take (v := ?_) rfl rfl (fun w' hw' => ?_) (fun K hK => ?_); rotate_left; (go_simp; rfl); (go_simp; refine hK _ ?_; clear hK K)
       refine wpLinR_one rfl (fun K hK => ?_)
       refine step_append_apart sl_i64' rfl (.tmp 32) (.tmp 34) rfl rfl hSxc.o2 rfl hcD (fun h => by cases h) (fun _ _ => rfl) (by unfold maxLen; omega) (by omega) (Nat.le_trans hgx hBxc.b.size) ?_
       intro vD xd hoD hgD hsD
       have hoD : xd.ownsRow (g + 1) 3 1 vD (N + 1) (natv (LD ++ [d])) := by rw [natv_append]; exact hoD
       have hSxd := hSxc.set2 hoD hgD hsD
       have hsame : SameBlk gc xc xd := SameBlk.grown hgD (Nat.lt_of_lt_of_le hgcx hBxc.b.size) hSxc.ne2
       have hBxd : Fr g x xd := hBxc.app hSxc.o2 (.inl rfl) hgD (Nat.le_trans hgx hBxc.b.size)
       go_simp; refine hK _ _ (.inr hsame) ?_; clear hK K hsame hgD hsD
       obtain ⟨gR2, capR2, rfl, -, -⟩ := own_shapeG (Nat.succ_pos _) hoR
       obtain ⟨gD2, capD2, rfl, -, -⟩ := own_shapeG (Nat.succ_pos _) hoD
       have HE := Lib.hid (hSxd.store2 (.slice (some ⟨gR2, 0, none⟩) (N + 1) capR2) (.slice (some ⟨gD2, 0, none⟩) (N + 1) capD2) hBxd hgx)
       obtain ⟨d0, d1, -, f0, f1, -⟩ := hSxd.cells
       clear hoR hoD
       refine wpLinR_one rfl (fun K hK => ?_)
       go_simp; refine hK _ _ (.inl (by decide)) ?_; clear hK K
       refine wpLinR_take (v := ?_) rfl rfl (fun w' hw' => ?_) (fun K hK => ?_); rotate_left; (go_simp; rfl); (go_simp; refine hK _ ?_; clear hK K)
       refine wpLinR_one rfl (fun K hK => ?_)
       go_simp; refine hK _ _ (.inl (by decide)) ?_; clear hK K
       refine wpLinR_nil ?_
       go_wp2
       go_meet
       exact ⟨rfl, _, _, _, _, HE⟩
   · obtain ⟨xa, hxae⟩ : ∃ y, y = (x.alloc (.cells #[.int .i64 (d : Nat)] 3)).drew := ⟨_, rfl⟩
     have hbxa : Below x.heap.size x xa := by rw [hxae]; exact (balloc (Below.refl _ _) _).drew
     have hnxa : Below x.heap.size x xa := hbxa
     have hcD : CellsAt xa xa.heap.size (some ⟨x.heap.size, 0, none⟩) 1 (fun _ => Value.int .i64 (d : Nat)) := by rw [hxae]; exact cells_one x 3 (.int .i64 (d : Nat))
     have hSxa := HS0.out.keep hbxa
     have hsame : SameBlk gc x.drew xa := show SameBlk gc x xa from SameBlk.below hbxa hgcx
     have hBxa : Fr g x xa := (Fr.refl g x).step hbxa hgx
     go_simp; rw [← hxae]; refine hK _ _ (.inr hsame) ?_; clear hK K hsame hxae
     refine wpLinR_one rfl (fun K hK => ?_)
     obtain ⟨xb, hxbe⟩ : ∃ y, y = xa.alloc (.cells #[.int .i64 (r : Nat)] 3) := ⟨_, rfl⟩
     have hbxb : Below xa.heap.size xa xb := by rw [hxbe]; exact balloc (Below.refl _ _) _
     have hcR : CellsAt xb xb.heap.size (some ⟨xa.heap.size, 0, none⟩) 1 (fun _ => Value.int .i64 (r : Nat)) := by rw [hxbe]; exact cells_one xa 3 (.int .i64 (r : Nat))
     have hSxb := hSxa.keep hbxb
     have hsame : SameBlk gc xa xb := SameBlk.below hbxb (Nat.lt_of_lt_of_le hgcx hBxa.b.size)
     have hBxb : Fr g x xb := hBxa.step hbxb (Nat.le_trans hgx hBxa.b.size)
     go_simp; rw [← hxbe]; refine hK _ _ (.inr hsame) ?_; clear hK K hsame hxbe
     have hcD := hcD.at hbxb
     refine wpLinR_one rfl (fun K hK => ?_)
     refine step_append_apart sl_i64' rfl (.tmp 27) (.tmp 29) rfl rfl hSxb.o1 rfl hcR (fun h => by cases h) (fun _ _ => rfl) (by unfold maxLen; omega) (by omega) (Nat.le_trans hgx hBxb.b.size) ?_
     intro vR xc hoR hgR hsR
     have hoR : xc.ownsRow (g + 1) 3 1 vR (N + 1) (natv (LR ++ [r])) := by rw [natv_append]; exact hoR
     have hSxc := hSxb.set1 hoR hgR hsR
     have hsame : SameBlk gc xb xc := SameBlk.grown hgR (Nat.lt_of_lt_of_le hgcx hBxb.b.size) hSxb.ne1
     have hBxc : Fr g x xc := hBxb.app hSxb.o1 (.inl rfl) hgR (Nat.le_trans hgx hBxb.b.size)
     have hcD := hcD.grown hgR (fun a ha e => by have h1 := hloR _ e.symm; have h2 := hbxa.size; cases ha; simp only at h1; omega)
     have hcD : CellsAt xc xc.heap.size (some ⟨x.heap.size, 0, none⟩) 1 (fun _ => Value.int .i64 (d : Nat)) := hcD.mono hgR.size
     go_simp; refine hK _ _ (.inr hsame) ?_; clear hK K hsame hgR hsR
     refine wpLinR_take (v := ?_) rfl rfl (fun w' hw' => ?_) (fun K hK => ?_); rotate_left; (go_simp; rfl); (go_simp; refine hK _ ?_; clear hK K)
     refine wpLinR_one rfl (fun K hK => ?_)
     refine step_append_apart sl_i64' rfl (.tmp 32) (.tmp 34) rfl rfl hSxc.o2 rfl hcD (fun h => by cases h) (fun _ _ => rfl) (by unfold maxLen; omega) (by omega) (Nat.le_trans hgx hBxc.b.size) ?_
     intro vD xd hoD hgD hsD
     have hoD : xd.ownsRow (g + 1) 3 1 vD (N + 1) (natv (LD ++ [d])) := by rw [natv_append]; exact hoD
     have hSxd := hSxc.set2 hoD hgD hsD
     have hsame : SameBlk gc xc xd := SameBlk.grown hgD (Nat.lt_of_lt_of_le hgcx hBxc.b.size) hSxc.ne2
     have hBxd : Fr g x xd := hBxc.app hSxc.o2 (.inl rfl) hgD (Nat.le_trans hgx hBxc.b.size)
     go_simp; refine hK _ _ (.inr hsame) ?_; clear hK K hsame hgD hsD
     obtain ⟨gR2, capR2, rfl, -, -⟩ := own_shapeG (Nat.succ_pos _) hoR
     obtain ⟨gD2, capD2, rfl, -, -⟩ := own_shapeG (Nat.succ_pos _) hoD
     have HE := Lib.hid (hSxd.store2 (.slice (some ⟨gR2, 0, none⟩) (N + 1) capR2) (.slice (some ⟨gD2, 0, none⟩) (N + 1) capD2) hBxd hgx)
     obtain ⟨d0, d1, -, f0, f1, -⟩ := hSxd.cells
     clear hoR hoD
     refine wpLinR_one rfl (fun K hK => ?_)
     go_simp; refine hK _ _ (.inl (by decide)) ?_; clear hK K
     refine wpLinR_take (v := ?_) rfl rfl (fun w' hw' => ?_) (fun K hK => ?_); rotate_left; (go_simp; rfl); (go_simp; refine hK _ ?_; clear hK K)
     refine wpLinR_one rfl (fun K hK => ?_)
     go_simp; refine hK _ _ (.inl (by decide)) ?_; clear hK K
     refine wpLinR_nil ?_
     go_wp2
     go_meet
     exact ⟨rfl, _, _, _, _, HE⟩
  case rest =>
  obtain ⟨rfl, gR2, capR2, gD2, capD2, HE⟩ := hcut
  obtain ⟨y, hyy⟩ : ∃ z, z = wc := ⟨_, rfl⟩
  subst hyy
  obtain ⟨hlR, hlD, hlV, hlM, hbR, hbD, hbV⟩ := H0.out.ok ⟨caoR, ccR, caoD, ccD, caoV, ccV, N, M, LR, LD, LV⟩ (by simp)
  simp only at hlR hlD hlV hlM hbR hbD hbV
  have Hok : Hid (∀ (aoV2 : Option Addr) (cV2 M2 : Nat) (LV2 : List Vl), LV2.length = M2 → M2 ≤ N + 1 → (∀ x ∈ LV2, okV x ∧ x.2.size ≤ 8) → OkCd ⟨some ⟨gR2, 0, none⟩, capR2, some ⟨gD2, 0, none⟩, capD2, aoV2, cV2, N + 1, M2, LR ++ [r], LD ++ [d], LV2⟩) := Lib.hid (fun aoV2 cV2 M2 LV2 h1 h2 h3 =>
   ⟨by simp [hlR], by simp [hlD], h1, h2, fun x hx => by
    rcases List.mem_append.1 hx with hx | hx
    · exact hbR x hx
    · rw [List.mem_singleton.1 hx]; exact hr, fun x hx => by
    rcases List.mem_append.1 hx with hx | hx
    · exact hbD x hx
    · rw [List.mem_singleton.1 hx]; exact hd, h3⟩)
  have HlV := Lib.hid hlV; have HbV := Lib.hid hbV
  clear hlR hlD hlV hbR hbD hbV HS0
  go_upto_if 38 with fail
  go_cut [12] (fun pv wy => pv = .pointer (some ⟨gc, 0, none⟩) ∧ ∃ (aoV2 : Option Addr) (cV2 M2 : Nat) (LV2 : List Vl), Hid (OkCd ⟨some ⟨gR2, 0, none⟩, capR2, some ⟨gD2, 0, none⟩, capD2, aoV2, cV2, N + 1, M2, LR ++ [r], LD ++ [d], LV2⟩) ∧
   Hid (CS ⟨F, P, n, aoS, capS, aoP, capP, some ⟨gL, 0, none⟩, capL, aoR, capR, RR, some ⟨gC, 0, none⟩, capC, m⟩ g gc w.heap.size v (c1 ++ ⟨caoR, ccR, caoD, ccD, caoV, ccV, N, M, LR, LD, LV⟩ :: c2) c1 c2 [.slice (some ⟨gR2, 0, none⟩) (N + 1) capR2, .slice (some ⟨gD2, 0, none⟩) (N + 1) capD2, .slice aoV2 M2 cV2] ⟨3, 1, .slice (some ⟨gR2, 0, none⟩) (N + 1) capR2, N + 1, natv (LR ++ [r])⟩ ⟨3, 1, .slice (some ⟨gD2, 0, none⟩) (N + 1) capD2, N + 1, natv (LD ++ [d])⟩ ⟨81, 2, .slice aoV2 M2 cV2, M2, vcs LV2⟩ wy ∧ Fr g x wy))
  case first =>
   cases has with
   | false =>
    go_wp2
    go_meet
    exact ⟨rfl, _, _, _, _, Lib.hid (Hok.out _ _ _ LV HlV.out (by omega) HbV.out), HE⟩
   | true =>
    obtain ⟨d0, d1, d2, f0, f1, f2⟩ := HE.out.1.cells
    obtain ⟨b0, b1⟩ := HE.out.1.box
    have hgy : g + 1 ≤ y.heap.size := Nat.le_trans hgx HE.out.2.b.size
    obtain ⟨ya, hya⟩ : ∃ z, z = y.alloc (.cells #[.int .i64 v.1, .string v.2] 81) := ⟨_, rfl⟩
    have hba : Below y.heap.size y ya := by rw [hya]; exact balloc (Below.refl _ _) _
    have hcv := cells_one_v y 81 v
    rw [← hya] at hcv
    have hS := HE.out.1.keep hba
    have hB := HE.out.2.step hba hgy
    have hM : M ≤ 100000 := by omega
    go_wp2_with (at_builtin; rw [← hya]; refine wpList_append_apart sl_v rfl (.tmp 40) (.tmp 42) rfl rfl hS.o3 rfl hcv (fun h => by cases h) (fun i _ => vlc_one [v] i) (by unfold maxLen; omega) (by omega) (Nat.le_trans hgx hB.b.size) ?_)
    intro v' y3 ho3 hg3 hs3
    rw [← hya] at hg3 hs3
    have ho3 : y3.ownsRow (g + 1) 81 2 v' (M + 1) (vcs (LV ++ [v])) := by rw [← vcs_snoc]; exact ho3
    have hS3 := hS.set3 ho3 hg3 hs3
    have hB3 : Fr g x y3 := hB.app hS.o3 (.inr (.inl rfl)) hg3 (Nat.le_trans hgx hB.b.size)
    obtain ⟨gV2, capV2, rfl, -, -⟩ := own_shapeG (Nat.succ_pos _) ho3
    obtain ⟨-, -, q2, -, -, qf2⟩ := hS3.cells
    have hE : CS ⟨F, P, n, aoS, capS, aoP, capP, some ⟨gL, 0, none⟩, capL, aoR, capR, RR, some ⟨gC, 0, none⟩, capC, m⟩ g gc w.heap.size v (c1 ++ ⟨caoR, ccR, caoD, ccD, caoV, ccV, N, M, LR, LD, LV⟩ :: c2) c1 c2 [.slice (some ⟨gR2, 0, none⟩) (N + 1) capR2, .slice (some ⟨gD2, 0, none⟩) (N + 1) capD2, .slice (some ⟨gV2, 0, none⟩) (M + 1) capV2] ⟨3, 1, .slice (some ⟨gR2, 0, none⟩) (N + 1) capR2, N + 1, natv (LR ++ [r])⟩ ⟨3, 1, .slice (some ⟨gD2, 0, none⟩) (N + 1) capD2, N + 1, natv (LD ++ [d])⟩ ⟨81, 2, .slice (some ⟨gV2, 0, none⟩) (M + 1) capV2, M + 1, vcs (LV ++ [v])⟩ (y3.setCell ⟨gc, 2, none⟩ (.slice (some ⟨gV2, 0, none⟩) (M + 1) capV2)) := hS3.store 2 _
    have HE3 := Lib.hid (And.intro hE (hB3.set hS3.og (.inr (.inr rfl)) (Nat.le_trans hgx hB3.b.size) 2 (.slice (some ⟨gV2, 0, none⟩) (M + 1) capV2)))
    have HO3 := Lib.hid (Hok.out (some ⟨gV2, 0, none⟩) capV2 (M + 1) (LV ++ [v]) (by simp [HlV.out]) (by omega) (fun x hx => by
     rcases List.mem_append.1 hx with hx | hx
     · exact HbV.out x hx
     · rw [List.mem_singleton.1 hx]; exact Hv.out))
    clear hS3 hB3 hE ho3 hg3 hs3 hS hB hcv hba hya d0 d1 d2 f0 f1 f2 b0 b1
    go_wp2
    go_meet
    exact ⟨rfl, _, _, _, _, HO3, HE3⟩
  case rest =>
  clear HE Hok HlV HbV
  obtain ⟨rfl, aoV2, cV2, M2, LV2, HO, HE⟩ := hcut
  obtain ⟨z, hzz⟩ : ∃ z, z = wc := ⟨_, rfl⟩
  subst hzz
  obtain ⟨k0, k1, k2, k3, k4⟩ := five_cells H0.out.blk
  simp only at k2 k4
  have hfz : Fr g w z := (((Fr.refl g w).step Hb1.out hg).step HB0.out (Nat.le_trans hg Hb1.out.size)).trans HE.out.2
  have hbz := hfz.b
  have k2 := (hbz.cell (by exact Nat.lt_succ_self g)).trans k2
  have k4 := (hbz.cell (by exact Nat.lt_succ_self g)).trans k4
  obtain ⟨d0, d1, d2, -⟩ := HE.out.1.cells
  have hoL := HE.out.1.oL
  have hoC := HE.out.1.oC
  have hqc := Hq.out
  have cL : z.cell? ⟨gL, at_, none⟩ = some (.int .i64 (q : Nat)) := by
   rw [own_ci hoL at_ hat, HLf.out]
  have hlc := Hlc.out
  have x0 := own_cw cdV_length hoC cd0 hlc q 0 hqm (by decide)
  have x1 := own_cw cdV_length hoC cd0 hlc q 1 hqm (by decide)
  have x2 := own_cw cdV_length hoC cd0 hlc q 2 hqm (by decide)
  obtain ⟨t0, x0⟩ : ∃ t, z.cell? ⟨gC, q * 3, none⟩ = some t := ⟨_, x0⟩
  obtain ⟨t1, x1⟩ : ∃ t, z.cell? ⟨gC, q * 3 + 1, none⟩ = some t := ⟨_, x1⟩
  obtain ⟨t2, x2⟩ : ∃ t, z.cell? ⟨gC, q * 3 + 2, none⟩ = some t := ⟨_, x2⟩
  have f0 := hoC.frozenAt (q * 3)
  have f1 := hoC.frozenAt (q * 3 + 1)
  have f2 := hoC.frozenAt (q * 3 + 2)
  have hfin := CS.back (C := ⟨F, P, n, aoS, capS, aoP, capP, some ⟨gL, 0, none⟩, capL, aoR, capR, RR, some ⟨gC, 0, none⟩, capC, m⟩) (c := ⟨caoR, ccR, caoD, ccD, caoV, ccV, N, M, LR, LD, LV⟩) (c' := ⟨some ⟨gR2, 0, none⟩, capR2, some ⟨gD2, 0, none⟩, capD2, aoV2, cV2, N + 1, M2, LR ++ [r], LD ++ [d], LV2⟩) (u0 := .slice (some ⟨gR2, 0, none⟩) (N + 1) capR2) (u1 := .slice (some ⟨gD2, 0, none⟩) (N + 1) capD2) (u2 := .slice aoV2 M2 cV2) rfl hqc rfl HE.out.1
  have hgC : g + 1 ≤ gC := (hoC.lt gC rfl).1
  have hzs := Nat.le_trans (show g + 1 ≤ w.heap.size from hg) hfz.b.size
  have g0 := hfz.set hoC (.inr (.inr rfl)) hzs (q * 3) (.slice (some ⟨gR2, 0, none⟩) (N + 1) capR2)
  have o0 := (hoC.stored (q * 3) (.slice (some ⟨gR2, 0, none⟩) (N + 1) capR2)).1
  have g1 := g0.set o0 (.inr (.inr rfl)) (Nat.le_trans (show g + 1 ≤ w.heap.size from hg) g0.b.size) (q * 3 + 1) (.slice (some ⟨gD2, 0, none⟩) (N + 1) capD2)
  have o1 := (o0.stored (q * 3 + 1) (.slice (some ⟨gD2, 0, none⟩) (N + 1) capD2)).1
  have g2 := g1.set o1 (.inr (.inr rfl)) (Nat.le_trans (show g + 1 ≤ w.heap.size from hg) g1.b.size) (q * 3 + 2) (.slice aoV2 M2 cV2)
  have HFf := Lib.hid g2
  have hbf := g2.b
  clear g0 g1 g2 o0 o1
  have HW : Hid (Wk ⟨F, P, n, aoS, capS, aoP, capP, some ⟨gL, 0, none⟩, capL, aoR, capR, RR, some ⟨gC, 0, none⟩, capC, m⟩ (((z.setCell ⟨gC, q * 3, none⟩ (.slice (some ⟨gR2, 0, none⟩) (N + 1) capR2)).setCell ⟨gC, q * 3 + 1, none⟩ (.slice (some ⟨gD2, 0, none⟩) (N + 1) capD2)).setCell ⟨gC, q * 3 + 2, none⟩ (.slice aoV2 M2 cV2)) g (c1 ++ ⟨some ⟨gR2, 0, none⟩, capR2, some ⟨gD2, 0, none⟩, capD2, aoV2, cV2, N + 1, M2, LR ++ [r], LD ++ [d], LV2⟩ :: c2)) := Lib.hid
   ⟨(hbf.block g (Nat.lt_succ_self g)).trans H0.out.blk, H0.out.s.below (hbf.mono (Nat.le_succ g)), H0.out.p.below (hbf.mono (Nat.le_succ g)), hfin, fun c hc => by
     rcases List.mem_append.1 hc with hc | hc
     · exact H0.out.ok c (by simp [hc])
     · rcases List.mem_cons.1 hc with rfl | hc
       · exact HO.out
       · exact H0.out.ok c (by simp [hc]), by have := H0.out.len; simp only [List.length_append, List.length_cons] at this ⊢; exact this⟩
  have p4 : ∀ w', Grows z.drew w' → w'.cell? ⟨g, 4, none⟩ = some (.slice (some ⟨gC, 0, none⟩) m capC) := fun w' hg => Grows.cell (Grows.toDrew hg) k4
  have p2 : ∀ w', Grows z.drew w' → w'.cell? ⟨g, 2, none⟩ = some (.slice (some ⟨gL, 0, none⟩) n capL) := fun w' hg => Grows.cell (Grows.toDrew hg) k2
  have pL : ∀ w', Grows z.drew w' → w'.cell? ⟨gL, at_, none⟩ = some (.int .i64 (q : Nat)) := fun w' hg => Grows.cell (Grows.toDrew hg) cL
  have pd0 : ∀ w', Grows z.drew w' → w'.cell? ⟨gc, 0, none⟩ = some (.slice (some ⟨gR2, 0, none⟩) (N + 1) capR2) := fun w' hg => Grows.cell (Grows.toDrew hg) d0
  have pd1 : ∀ w', Grows z.drew w' → w'.cell? ⟨gc, 1, none⟩ = some (.slice (some ⟨gD2, 0, none⟩) (N + 1) capD2) := fun w' hg => Grows.cell (Grows.toDrew hg) d1
  have pd2 : ∀ w', Grows z.drew w' → w'.cell? ⟨gc, 2, none⟩ = some (.slice aoV2 M2 cV2) := fun w' hg => Grows.cell (Grows.toDrew hg) d2
  clear hbf hfz hfin hlc hqc hoL hoC HE HO hbz k0 k1 k2 k3 k4 d0 d1 d2 cL
  go_upto_region 5 with fail
  refine wp_region_linR Grows ⟨Grows.refl, Grows.trans⟩ (.take 0 (.take 1 (.take 2 (.take 3 (.take 4 (.take 5 (.take 6 (.take 7 (.take 8 (.take 9 (.take 10 (.take 11 (.take 12 (.one 13 (.done))))))))))))))) [13] (by kernel_rfl) (by kernel_rfl) (fun d _ _ _ _ h => by cases d <;> exact h) ?_
  iterate 13 (first
   | (refine wpLinR_take (v := ?_) rfl rfl (fun w' hw' => ?_) (fun K hK => ?_); rotate_left; (go_simp; rfl); (go_simp; refine hK _ ?_; clear hK K)))
  clear p4 p2 pL pd0 pd1 pd2
  refine wpLinR_one rfl (fun K hK => ?_)
  go_simp
  refine hK _ _ (.inl (by decide)) ?_; clear hK K
  refine wpLinR_nil ?_
  go_end0
  exact ⟨rfl, _, rfl, Lib.hid (HW.out.keep (Below.drew (Below.refl _ _))), Lib.hid HFf.out.drew⟩
end Go.Proofs.YtebmbkbnngeabaaGreat
