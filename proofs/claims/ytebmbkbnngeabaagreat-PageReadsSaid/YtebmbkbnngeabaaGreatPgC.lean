/- Chapter 14's document: a striping on its way: what it is in memory; plain. -/
import Derived.Test.YtebmbkbnngeabaaGreatPgL
import Derived.Test.YtebmbkbnngeabaaGreatPgY
import Derived.Test.YtebmbkbnngeabaaGreatPgZ
set_option linter.unusedSimpArgs false
namespace Go.Proofs.YtebmbkbnngeabaaGreat
open Go.RowKit
set_option linter.unusedVariables false
structure Cd where
 aoR : Option Addr
 cR : Nat
 aoD : Option Addr
 cD : Nat
 aoV : Option Addr
 cV : Nat
 N : Nat
 M : Nat
 R : List Nat
 D : List Nat
 V : List Vl
def cd0 : Cd := ⟨none, 0, none, 0, none, 0, 0, 0, [], [], []⟩
def cdV (c : Cd) : List Value := [.slice c.aoR c.N c.cR, .slice c.aoD c.N c.cD, .slice c.aoV c.M c.cV]
theorem cdV_length (c : Cd) : (cdV c).length = 3 := rfl
theorem cdV_one (c : Cd) : ∀ v ∈ cdV c, v.oneCell' = true := by
 intro v hv
 simp only [cdV, List.mem_cons, List.not_mem_nil, or_false] at hv
 rcases hv with rfl | rfl | rfl <;> rfl
structure OkCd (c : Cd) : Prop where
 lR : c.R.length = c.N
 lD : c.D.length = c.N
 lV : c.V.length = c.M
 le : c.M ≤ c.N
 bR : ∀ x ∈ c.R, x ≤ 100
 bD : ∀ x ∈ c.D, x ≤ 100
 bV : ∀ v ∈ c.V, okV v ∧ v.2.size ≤ 8
theorem okCd0 : OkCd cd0 := ⟨rfl, rfl, rfl, Nat.le_refl _, fun _ h => absurd h List.not_mem_nil, fun _ h => absurd h List.not_mem_nil, fun _ h => absurd h List.not_mem_nil⟩
def rR (c : Cd) : RowD := ⟨3, 1, .slice c.aoR c.N c.cR, c.N, natv c.R⟩
def rD (c : Cd) : RowD := ⟨3, 1, .slice c.aoD c.N c.cD, c.N, natv c.D⟩
def rV (c : Cd) : RowD := ⟨81, 2, .slice c.aoV c.M c.cV, c.M, vcs c.V⟩
def colRows (cs : List Cd) : List RowD := (cs.map fun c => [rR c, rD c, rV c]).flatten
theorem colRows_split (c1 : List Cd) (c : Cd) (c2 : List Cd) : colRows (c1 ++ c :: c2) = colRows c1 ++ rR c :: rD c :: rV c :: colRows c2 := by
 simp [colRows]
theorem wcs_split {α : Type} (g : α → List Value) (c1 : List α) (c : α) (c2 : List α) : wcs g (c1 ++ c :: c2) = wcs g c1 ++ (g c ++ wcs g c2) := by
 simp [wcs]
theorem wcs_put3 (c1 : List Cd) (c : Cd) (c2 : List Cd) (c' : Cd) (q : Nat) (hq : c1.length = q) (u0 u1 u2 : Value) (h : cdV c' = [u0, u1, u2]) :
 (((wcs cdV (c1 ++ c :: c2)).set (q * 3) u0).set (q * 3 + 1) u1).set (q * 3 + 2) u2 = wcs cdV (c1 ++ c' :: c2) := by
 have hl : (wcs cdV c1).length = q * 3 := by rw [wcs_length cdV_length, hq]
 rw [wcs_split, wcs_split, h, List.set_append_right _ _ (by omega), List.set_append_right _ _ (by omega), List.set_append_right _ _ (by omega), hl]
 rw [show q * 3 - q * 3 = 0 by omega, show q * 3 + 1 - q * 3 = 1 by omega, show q * 3 + 2 - q * 3 = 2 by omega]
 rfl
theorem OwnRs.put {w w' : World} {base : Nat} {A B : List RowD} {r : RowD} (h : OwnRs w base (A ++ r :: B)) (r' : RowD) (hg : w.grownBy w' r.v.ownBlock) (ho : r'.own w' base) (hs : SameOrNew w r.v r'.v) : OwnRs w' base (A ++ r' :: B) := by
 have hi : A.length < (A ++ r :: B).length := by simp
 have e : (A ++ r :: B)[A.length] = r := by simp
 have h2 := h.upd hi r' (by rw [e]; exact hg) ho (by rw [e]; exact hs)
 simpa using h2
theorem OwnRs.of {w : World} {base : Nat} {A B : List RowD} {r : RowD} (h : OwnRs w base (A ++ r :: B)) : r.own w base := h.1 r (by simp)
theorem OwnRs.tail {w : World} {base : Nat} {r : RowD} {B : List RowD} (h : OwnRs w base (r :: B)) : OwnRs w base B := ⟨fun x hx => h.1 x (List.mem_cons_of_mem _ hx), (List.pairwise_cons.1 h.2).2⟩
theorem OwnRs.newRow {w w' : World} {base : Nat} {rs : List RowD} (h : OwnRs w base rs) (hb : Below w.heap.size w w') (r : RowD) (ho : r.own w' base) (hn : ∀ k, r.v.ownBlock = some k → w.heap.size ≤ k) : OwnRs w' base (r :: rs) := by
 have h2 := h.below hb
 refine ⟨fun x hx => ?_, List.pairwise_cons.2 ⟨fun x hx => ?_, h2.2⟩⟩
 · rcases List.mem_cons.1 hx with rfl | hx
   · exact ho
   · exact h2.1 x hx
 · unfold Apart
   cases hk : r.v.ownBlock with
   | none => exact .inl rfl
   | some k =>
    right
    intro e
    have h3 := (h.1 x hx).lt k e.symm
    have := hn k hk
    omega
theorem OwnRs.set {w : World} {base : Nat} {A B : List RowD} {e : TypeId} {s g n cap : Nat} {xs : List Value} (h : OwnRs w base (A ++ ⟨e, s, .slice (some ⟨g, 0, none⟩) n cap, n, xs⟩ :: B)) (j : Nat) (u : Value) :
 OwnRs (w.setCell ⟨g, j, none⟩ u) base (A ++ ⟨e, s, .slice (some ⟨g, 0, none⟩) n cap, n, xs.set j u⟩ :: B) := by
 have h1 : w.ownsRow base e s (.slice (some ⟨g, 0, none⟩) n cap) n xs := h.of
 have h2 := h1.stored j u
 exact h.put ⟨e, s, .slice (some ⟨g, 0, none⟩) n cap, n, xs.set j u⟩ h2.2 h2.1 (.inl rfl)
section
variable {w w' : World} {base : Nat} {A B : List RowD} {r1 r2 r3 : RowD}
theorem OwnRs.put1 (h : OwnRs w base (A ++ r1 :: r2 :: r3 :: B)) (r' : RowD) (hg : w.grownBy w' r1.v.ownBlock) (ho : r'.own w' base) (hs : SameOrNew w r1.v r'.v) : OwnRs w' base (A ++ r' :: r2 :: r3 :: B) := h.put r' hg ho hs
theorem OwnRs.put2 (h : OwnRs w base (A ++ r1 :: r2 :: r3 :: B)) (r' : RowD) (hg : w.grownBy w' r2.v.ownBlock) (ho : r'.own w' base) (hs : SameOrNew w r2.v r'.v) : OwnRs w' base (A ++ r1 :: r' :: r3 :: B) := by
 have e : A ++ r1 :: r2 :: r3 :: B = (A ++ [r1]) ++ r2 :: (r3 :: B) := by simp
 rw [e] at h
 have h2 := h.put r' hg ho hs
 simpa using h2
theorem OwnRs.put3 (h : OwnRs w base (A ++ r1 :: r2 :: r3 :: B)) (r' : RowD) (hg : w.grownBy w' r3.v.ownBlock) (ho : r'.own w' base) (hs : SameOrNew w r3.v r'.v) : OwnRs w' base (A ++ r1 :: r2 :: r' :: B) := by
 have e : A ++ r1 :: r2 :: r3 :: B = (A ++ [r1, r2]) ++ r3 :: B := by simp
 rw [e] at h
 have h2 := h.put r' hg ho hs
 simpa using h2
theorem OwnRs.of1 (h : OwnRs w base (A ++ r1 :: r2 :: r3 :: B)) : r1.own w base := h.1 r1 (by simp)
theorem OwnRs.of2 (h : OwnRs w base (A ++ r1 :: r2 :: r3 :: B)) : r2.own w base := h.1 r2 (by simp)
theorem OwnRs.of3 (h : OwnRs w base (A ++ r1 :: r2 :: r3 :: B)) : r3.own w base := h.1 r3 (by simp)
theorem OwnRs.apart {r : RowD} {rs : List RowD} (h : OwnRs w base (r :: rs)) {x : RowD} (hx : x ∈ rs) : Apart r.v x.v := (List.pairwise_cons.1 h.2).1 x hx
end
theorem own_blk {w : World} {base g E s n : Nat} {cs : Array Value} (h : w.heap[g]? = some (.cells cs E)) (hc : cs.size = n * s) (hn : n ≤ maxLen) (hb : base ≤ g) : w.ownsRow base E s (.slice (some ⟨g, 0, none⟩) n n) n cs.toList :=
 ⟨by simpa using hc, .inr ⟨g, n, cs, rfl, hb, h, Nat.le_refl _, hn, hc, List.take_of_length_le (by simp [hc])⟩⟩
def SameBlk (g : Nat) (a b : World) : Prop := b.heap[g]? = a.heap[g]?
theorem SameBlk.pre (g : Nat) : Pre (SameBlk g) := ⟨fun _ => rfl, fun h k => k.trans h⟩
theorem SameBlk.cell {g i : Nat} {a b : World} {v : Value} (h : SameBlk g a b) (hc : a.cell? ⟨g, i, none⟩ = some v) : b.cell? ⟨g, i, none⟩ = some v := by
 rw [World.cell?_of_block (show b.heap[(⟨g, i, none⟩ : Addr).block]? = a.heap[(⟨g, i, none⟩ : Addr).block]? from h)]; exact hc
theorem SameBlk.grown {g : Nat} {a b : World} {row : Option Nat} (h : a.grownBy b row) (hg : g < a.heap.size) (hr : row ≠ some g) : SameBlk g a b := h.block g hg (fun e => hr e.symm)
theorem SameBlk.below {g B : Nat} {a b : World} (h : Below B a b) (hg : g < B) : SameBlk g a b := h.block g hg
structure WkC where
 F : List Fd
 P : Nat → Nat
 n : Nat
 aoS : Option Addr
 capS : Nat
 aoP : Option Addr
 capP : Nat
 aoL : Option Addr
 capL : Nat
 aoR : Option Addr
 capR : Nat
 RR : List Nat
 aoC : Option Addr
 capC : Nat
 m : Nat
def leafN (F : List Fd) (i : Nat) : Int := if (fAt F i).kind = 0 then -1 else (nLf F i : Int)
def leafL (F : List Fd) (n : Nat) : List Int := (List.range n).map (leafN F)
theorem leafL_at (F : List Fd) (n i : Nat) (h : i < n) : (leafL F n).getD i 0 = leafN F i := by simp [leafL, h]
theorem leafL_succ (F : List Fd) (n : Nat) : leafL F (n + 1) = leafL F n ++ [leafN F n] := by simp [leafL, List.range_succ]
def wkRows (C : WkC) (cs0 cs : List Cd) : List RowD :=
 ⟨3, 1, .slice C.aoL C.n C.capL, C.n, i64v (leafL C.F C.n)⟩ :: ⟨3, 1, .slice C.aoR C.n C.capR, C.n, natv C.RR⟩ :: ⟨33, 3, .slice C.aoC C.m C.capC, C.m, wcs cdV cs0⟩ :: colRows cs
structure Wk (C : WkC) (w : World) (g : Nat) (cs : List Cd) : Prop where
 blk : w.heap[g]? = some (.cells #[.slice C.aoS C.n C.capS, .slice C.aoP C.n C.capP, .slice C.aoL C.n C.capL, .slice C.aoR C.n C.capR, .slice C.aoC C.m C.capC] 93)
 s : CellsAt w g C.aoS (C.n * 4) (wc fdV C.F)
 p : CellsAt w g C.aoP C.n (i64c (parL C.P C.n))
 rows : OwnRs w (g + 1) (wkRows C cs cs)
 ok : ∀ c ∈ cs, OkCd c
 len : cs.length = C.m
theorem Wk.lt {C : WkC} {w : World} {g : Nat} {cs : List Cd} (h : Wk C w g cs) : g < w.heap.size := (Array.getElem?_eq_some_iff.1 h.blk).1
theorem Wk.keep {C : WkC} {w w' : World} {g : Nat} {cs : List Cd} (h : Wk C w g cs) (hb : Below w.heap.size w w') : Wk C w' g cs :=
 have hl := h.lt
 ⟨(hb.block g hl).trans h.blk, h.s.below (hb.mono (Nat.le_of_lt hl)), h.p.below (hb.mono (Nat.le_of_lt hl)), h.rows.below hb, h.ok, h.len⟩
theorem five_cells {w : World} {g T : Nat} {a b c d e : Value} (h : w.heap[g]? = some (.cells #[a, b, c, d, e] T)) :
 w.cell? ⟨g, 0, none⟩ = some a ∧ w.cell? ⟨g, 1, none⟩ = some b ∧ w.cell? ⟨g, 2, none⟩ = some c ∧ w.cell? ⟨g, 3, none⟩ = some d ∧ w.cell? ⟨g, 4, none⟩ = some e := by
 refine ⟨?_, ?_, ?_, ?_, ?_⟩ <;> simp [World.cell?, h]
structure WkOk (C : WkC) (dep : Nat → Nat) (anc : Nat → Nat → Nat) : Prop where
 fin : FinS C.F C.P dep anc
 len : C.F.length = C.n
 m : C.m = nLf C.F C.n
 lR : C.RR.length = C.n
 bR : ∀ x ∈ C.RR, x ≤ 100
def Wt (dep : Nat → Nat) (anc : Nat → Nat → Nat) (at_ j : Nat) : Nat := if dep at_ ≤ dep j ∧ anc j (dep at_) = at_ then 3 ^ (5 - dep at_) else 0
def Ut (dep : Nat → Nat) (anc : Nat → Nat → Nat) (at_ i j : Nat) : Nat := if dep at_ < dep j ∧ anc j (dep at_) = at_ ∧ anc j (dep at_ + 1) < i then 3 ^ (5 - dep at_) else 0
section
variable {F : List Fd} {P dep : Nat → Nat} {anc : Nat → Nat → Nat}
theorem Ut_skip (h : Sch F P dep anc) (at_ i j : Nat) (hj : j < F.length) (hP : P i ≠ at_) : Ut dep anc at_ (i + 1) j = Ut dep anc at_ i j := by
 unfold Ut
 by_cases h1 : dep at_ < dep j ∧ anc j (dep at_) = at_
 · obtain ⟨q1, q2⟩ := h.anc_up j (dep at_) hj (by omega)
   have hne : anc j (dep at_ + 1) ≠ i := by
    intro e
    rw [e, h1.2] at q2
    exact hP q2
   by_cases h2 : anc j (dep at_ + 1) < i
   · rw [if_pos ⟨h1.1, h1.2, by omega⟩, if_pos ⟨h1.1, h1.2, h2⟩]
   · rw [if_neg (fun hh => by omega), if_neg (fun hh => h2 hh.2.2)]
 · rw [if_neg (fun hh => h1 ⟨hh.1, hh.2.1⟩), if_neg (fun hh => h1 ⟨hh.1, hh.2.1⟩)]
theorem Ut_step (h : Sch F P dep anc) (at_ i j : Nat) (hi0 : 0 < i) (hi : i < F.length) (hj : j < F.length) (hP : P i = at_) : Ut dep anc at_ i j + 3 * Wt dep anc i j ≤ Ut dep anc at_ (i + 1) j := by
 have hd := (h.par i hi0 hi).2.1
 rw [hP] at hd
 have h5 := h.deep i hi
 unfold Ut Wt
 by_cases h1 : dep i ≤ dep j ∧ anc j (dep i) = i
 · obtain ⟨q1, q2⟩ := h.anc_up j (dep at_) hj (by omega)
   have hx : anc j (dep at_ + 1) = i := by rw [← hd]; exact h1.2
   rw [hx, hP] at q2
   rw [if_pos h1, if_neg (fun hh => by omega), if_pos ⟨by omega, q2.symm, by omega⟩, show 5 - dep at_ = (5 - dep i) + 1 by omega, Nat.pow_succ]
   omega
 · rw [if_neg h1]
   by_cases h2 : dep at_ < dep j ∧ anc j (dep at_) = at_ ∧ anc j (dep at_ + 1) < i
   · rw [if_pos h2, if_pos ⟨h2.1, h2.2.1, by omega⟩]; omega
   · rw [if_neg h2]; omega
theorem Ut_le (at_ i j : Nat) : Ut dep anc at_ i j ≤ Wt dep anc at_ j := by
 unfold Ut Wt
 by_cases h : dep at_ < dep j ∧ anc j (dep at_) = at_ ∧ anc j (dep at_ + 1) < i
 · rw [if_pos h, if_pos ⟨by omega, h.2.1⟩]; exact Nat.le_refl _
 · rw [if_neg h]; exact Nat.zero_le _
theorem Wt_self (h : Sch F P dep anc) (j : Nat) (hj : j < F.length) : 1 ≤ Wt dep anc j j := by
 unfold Wt
 rw [if_pos ⟨Nat.le_refl _, h.self j hj⟩]
 exact Nat.one_le_iff_ne_zero.2 (Nat.pos_iff_ne_zero.1 (Nat.pow_pos (by decide)))
theorem Wt_le (at_ j : Nat) : Wt dep anc at_ j ≤ 243 := by
 unfold Wt
 split
 · have : 3 ^ (5 - dep at_) ≤ 3 ^ 5 := Nat.pow_le_pow_right (by decide) (by omega)
   simpa using this
 · exact Nat.zero_le _
end
theorem nLf_mono (F : List Fd) {i j : Nat} (h : i ≤ j) : nLf F i ≤ nLf F j := by
 induction j with
 | zero => obtain rfl : i = 0 := by omega
           exact Nat.le_refl _
 | succ j ih =>
  by_cases e : i = j + 1
  · rw [e]; exact Nat.le_refl _
  · have := ih (by omega); simp only [nLf]; omega
theorem nLf_lt (F : List Fd) {i j : Nat} (hi : (fAt F i).kind ≠ 0) (h : i < j) : nLf F i < nLf F j := by
 have h1 : nLf F (i + 1) = nLf F i + 1 := by simp only [nLf]; rw [if_neg hi]
 have h2 := nLf_mono F (show i + 1 ≤ j by omega)
 omega
theorem nLf_inj (F : List Fd) {i j : Nat} (hi : (fAt F i).kind ≠ 0) (hj : (fAt F j).kind ≠ 0) (h : nLf F i = nLf F j) : i = j := by
 rcases Nat.lt_trichotomy i j with h1 | h1 | h1
 · have := nLf_lt F hi h1; omega
 · exact h1
 · have := nLf_lt F hj h1; omega
theorem nLf_onto (F : List Fd) (q : Nat) : ∀ n, q < nLf F n → ∃ i, i < n ∧ (fAt F i).kind ≠ 0 ∧ nLf F i = q
 | 0, h => by simp [nLf] at h
 | n + 1, h => by
  by_cases hq : q < nLf F n
  · obtain ⟨i, h1, h2, h3⟩ := nLf_onto F q n hq
    exact ⟨i, by omega, h2, h3⟩
  · simp only [nLf] at h
    split at h
    · omega
    · rename_i h0
      exact ⟨n, by omega, h0, by omega⟩
def Grew (C : WkC) (B : Nat → Nat) (cs cs' : List Cd) : Prop := ∀ j, j < C.n → (fAt C.F j).kind ≠ 0 → (cs'.getD (nLf C.F j) cd0).N ≤ (cs.getD (nLf C.F j) cd0).N + B j
theorem Grew.refl (C : WkC) (B : Nat → Nat) (cs : List Cd) : Grew C B cs cs := fun _ _ _ => Nat.le_add_right _ _
theorem Grew.trans {C : WkC} {A B D : Nat → Nat} {c1 c2 c3 : List Cd} (h : Grew C A c1 c2) (k : Grew C B c2 c3) (hD : ∀ j, j < C.n → A j + B j ≤ D j) : Grew C D c1 c3 := fun j h1 h2 => by
 have := h j h1 h2; have := k j h1 h2; have := hD j h1; omega
theorem Grew.mono {C : WkC} {A B : Nat → Nat} {c1 c2 : List Cd} (h : Grew C A c1 c2) (hB : ∀ j, j < C.n → A j ≤ B j) : Grew C B c1 c2 := fun j h1 h2 => by
 have := h j h1 h2; have := hB j h1; omega
def Room (C : WkC) (B : Nat → Nat) (cs : List Cd) : Prop := ∀ j, j < C.n → (fAt C.F j).kind ≠ 0 → (cs.getD (nLf C.F j) cd0).N + B j ≤ 100000
theorem Room.after {C : WkC} {A B D : Nat → Nat} {c1 c2 : List Cd} (h : Room C D c1) (k : Grew C A c1 c2) (hD : ∀ j, j < C.n → A j + B j ≤ D j) : Room C B c2 := fun j h1 h2 => by
 have := h j h1 h2; have := k j h1 h2; have := hD j h1; omega
def XT (E : TypeId) : Prop := E = 3 ∨ E = 81 ∨ E = 33
structure Fr (g : Nat) (w w' : World) : Prop where
 b : Below (g + 1) w w'
 t : KeptT XT w w'
section
variable {g : Nat} {w x y : World}
theorem Fr.refl (g : Nat) (w : World) : Fr g w w := ⟨Below.refl _ _, (KeptT.pre XT).refl w⟩
theorem Fr.trans (h : Fr g w x) (k : Fr g x y) : Fr g w y := ⟨h.b.trans k.b, (KeptT.pre XT).trans h.t k.t⟩
theorem Fr.step (h : Fr g w x) (hb : Below x.heap.size x y) (hg : g + 1 ≤ x.heap.size) : Fr g w y := ⟨h.b.trans (hb.mono hg), (KeptT.pre XT).trans h.t (KeptT.grows hb)⟩
theorem Fr.of (hb : Below w.heap.size w x) (hg : g < w.heap.size) : Fr g w x := (Fr.refl g w).step hb hg
theorem Fr.app {e : TypeId} {s n : Nat} {v : Value} {xs : List Value} (h : Fr g w x) (ho : x.ownsRow (g + 1) e s v n xs) (he : XT e) (hg : x.grownBy y v.ownBlock) (hsz : g + 1 ≤ x.heap.size) : Fr g w y :=
 ⟨h.b.grown hg hsz (fun k hk => (ho.lt k hk).1), (KeptT.pre XT).trans h.t (KeptT.grown hg (fun k hk => by
  obtain ⟨cs, hc⟩ := own_type ho hk
  exact ⟨cs, e, (0, 0), hc, he⟩))⟩
theorem Fr.set {e : TypeId} {s n gc cap : Nat} {xs : List Value} (h : Fr g w x) (ho : x.ownsRow (g + 1) e s (.slice (some ⟨gc, 0, none⟩) n cap) n xs) (he : XT e) (hsz : g + 1 ≤ x.heap.size) (j : Nat) (u : Value) : Fr g w (x.setCell ⟨gc, j, none⟩ u) := h.app ho he (setCell_grown x gc j u) hsz
theorem Fr.drew (h : Fr g w x) : Fr g w x.drew := ⟨Below.drew h.b, h.t⟩
theorem Fr.keepS (h : Fr g w x) {S : Nat → Prop} (hS : ∀ b, S b → b ≤ g) : KeepS S w x := ⟨h.b.size, fun b hb _ => h.b.block b (by have := hS b hb; omega)⟩
theorem Fr.blk (h : Fr g w x) {k : Nat} {cs : Array Value} {E : TypeId} {fr : Nat × Nat} (hk : w.heap[k]? = some (.cells cs E fr)) (hE : ¬ XT E) : x.heap[k]? = some (.cells cs E fr) := by
 rw [← hk]
 refine h.t.2 k (Array.getElem?_eq_some_iff.1 hk).1 (fun cs' E' fr' h' => ?_)
 rw [hk] at h'
 simp only [Option.some.injEq, Obj.cells.injEq] at h'
 rw [← h'.2.1]; exact hE
end
def GaveWk (C : WkC) (g : Nat) (B : Nat → Nat) (cs : List Cd) (w : World) (e : Ending) (w' : World) : Prop :=
 e = .returned (.tuple #[]) ∧ ∃ cs', Hid (Wk C w' g cs') ∧ Hid (Grew C B cs cs') ∧ Hid (Fr g w w')
end Go.Proofs.YtebmbkbnngeabaaGreat
