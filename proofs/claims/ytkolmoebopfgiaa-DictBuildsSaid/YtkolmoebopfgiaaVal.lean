/- Slices of values (a number and a text each) that come in, or are made. No program. -/
import Derived.Test.YtkolmoebopfgiaaRow
import Derived.Test.YtkolmoebopfgiaaMem2
import Derived.Deep.Slices
import Derived.Deep.Fields
import Derived.ChangeSame
namespace Go.Proofs.Ytkolmoebopfgiaa
open Go.RowKit

abbrev Vl := Int × ByteArray
def vl0 : Vl := (0, ByteArray.empty)
/-- A value's two cells. -/
@[reducible] def vN (l : List Vl) (i : Nat) : Value := .int .i64 (l.getD i vl0).1
@[reducible] def vS (l : List Vl) (i : Nat) : Value := .string (l.getD i vl0).2
def vlc (l : List Vl) (j : Nat) : Value := if j % 2 = 0 then vN l (j / 2) else vS l (j / 2)
theorem vlc_even (l : List Vl) (i : Nat) : vlc l (2 * i) = vN l i := by
  unfold vlc; rw [if_pos (by omega), show 2 * i / 2 = i by omega]
theorem vlc_odd (l : List Vl) (i : Nat) : vlc l (2 * i + 1) = vS l i := by
  unfold vlc; rw [if_neg (by omega), show (2 * i + 1) / 2 = i by omega]
/-- The value as one thing. -/
@[reducible] def vV (v : Vl) : Value := .agg #[.int .i64 v.1, .string v.2]

def okV (v : Vl) : Prop := (-9223372036854775808 ≤ v.1 ∧ v.1 ≤ 9223372036854775807) ∧ v.2.size ≤ 9223372036854775807

/-- A slice of values that came in. -/
def IsVals (w : World) (a : Option Addr) (len cap : Nat) (l : List Vl) : Prop :=
  l.length = len ∧ len ≤ cap ∧ cap ≤ 9223372036854775807 ∧ (a = none → len = 0 ∧ cap = 0) ∧ CellsAt w w.heap.size a (len * 2) (vlc l) ∧ ∀ v ∈ l, okV v

section
variable {H : Type} {enc : TypeId × Value → H} {P : Program} {w : World} {base : Nat} {spare : Nat → Bool} {held : Bool}
open Go.ChangeShapes Go.WideShapes Go.Deep
theorem add_add' (a : Addr) (i j : Nat) : (a.add i).add j = a.add (i + j) := by
  unfold Addr.add
  by_cases hi : i = 0 <;> by_cases hj : j = 0 <;> simp [hi, hj, Nat.add_assoc]
theorem open_vals {t e : TypeId} {f0 f1 : Field} {fuel : Nat} {ao : Option Addr} {len cap : Nat} {x : DataW H × List MemPlace} (ht : P.underlying t = some (.slice e)) (he : P.underlying e = some (.struct #[f0, f1]))
    (hone : oneCellFields P #[f0, f1] = true) (hC : P.cellsOf e = 2) (h0 : P.underlying f0.type = some (.int .i64)) (h1 : P.underlying f1.type = some .string)
    (h : DataW.trod enc P w base (fun _ => true) held fuel t [.slice ao len cap] = some x) : ∃ l, IsVals w ao len cap l := by
  rcases open_slice ht h with ⟨hcs, -⟩ | ⟨a, len', cap', m, n, D, Pl, hcs, hb, hl, hm, hmm, hx, hi⟩
  · simp only [List.cons.injEq, Value.slice.injEq, and_true] at hcs
    obtain ⟨rfl, rfl, rfl⟩ := hcs
    exact ⟨[], rfl, Nat.le_refl _, Nat.zero_le _, fun _ => ⟨rfl, rfl⟩, CellsAt.zero, fun v hv => absurd hv (by simp)⟩
  · simp only [List.cons.injEq, Value.slice.injEq, and_true] at hcs
    obtain ⟨rfl, rfl, rfl⟩ := hcs
    simp only [if_true] at hmm
    subst hmm
    have key : ∀ i, i < m → ∃ v : Vl, w.cell? (a.add (i * 2)) = some (.int .i64 v.1) ∧ w.cell? (a.add (i * 2 + 1)) = some (.string v.2) ∧ okV v := by
      intro i him
      obtain ⟨cs', hc, ht'⟩ := hi i him
      rw [hC] at hc
      obtain ⟨ys, n', hn', hy, hlen, hyl, hf⟩ := DataW.trod_struct he ht'
      obtain ⟨_, hcl, hat⟩ := World.cells?_some hc
      obtain ⟨o0, k0⟩ := hone_of hone 0 f0 rfl
      obtain ⟨o1, k1⟩ := hone_of hone 1 f1 rfl
      have g0 := hf 0 f0 rfl
      have g1 := hf 1 f1 rfl
      rw [hC] at hlen
      match cs', hcl with
      | [c0, c1], _ =>
        have e0 := hat 0 (by decide)
        have e1 := hat 1 (by decide)
        rw [o0, k0] at g0
        rw [o1, k1] at g1
        simp only [List.drop_zero, List.take_succ_cons, List.take_zero, List.drop_succ_cons] at g0 g1
        have y0 : ys[0]? = some (ys[0]'(by simp at hyl; omega)) := List.getElem?_eq_getElem _
        have y1 : ys[1]? = some (ys[1]'(by simp at hyl; omega)) := List.getElem?_eq_getElem _
        obtain ⟨nn, hn1, -, hn3⟩ := DataW.trod_int h0 (g0.trans y0)
        obtain ⟨ss, hs1, -, hs3⟩ := DataW.trod_string h1 (g1.trans y1)
        simp only [List.cons.injEq, and_true] at hn1 hs1
        subst hn1 hs1
        refine ⟨(nn, ss), ?_, ?_, bounds_i64 hn3, ?_⟩
        · rw [add_add'] at e0; simpa using e0
        · rw [← add_add', e1]; rfl
        · unfold maxLen at hs3; exact hs3
    have hs : 0 < m → a.spot = none := fun hm0 => by
      obtain ⟨v, hv, -⟩ := key 0 hm0
      exact cell_spot (by simpa [Addr.add] using hv)
    obtain ⟨f, hf⟩ : ∃ f : Nat → Vl, ∀ i, i < m → w.cell? (a.add (i * 2)) = some (.int .i64 (f i).1) ∧ w.cell? (a.add (i * 2 + 1)) = some (.string (f i).2) ∧ okV (f i) := by
      refine ⟨fun i => if h : i < m then (key i h).choose else vl0, fun i hi => ?_⟩
      simp only [hi, dif_pos]
      exact (key i hi).choose_spec
    refine ⟨(List.range len).map f, by simp, hl, (by unfold maxLen at hm; exact hm), (fun e => by cases e), fun j hj => ?_, fun v hv => ?_⟩
    · have hm0 : 0 < m := by omega
      obtain ⟨b, off, spot⟩ := a
      have hs' := hs hm0
      simp only at hs'
      subst hs'
      obtain ⟨c0, c1, -⟩ := hf (j / 2) (by omega)
      rw [Addr.add_lit] at c0 c1
      have hg : ((List.range len).map f).getD (j / 2) vl0 = f (j / 2) := by
        rw [List.getD_eq_getElem?_getD, List.getElem?_map, List.getElem?_range (by omega)]; rfl
      refine ⟨b, off, rfl, ?_, ?_⟩
      · exact World.block_lt_of_cell? w _ c0
      · unfold vlc vN vS
        rw [hg]
        split
        · rw [← c0]; congr 2; omega
        · rw [← c1]; congr 2; omega
    · obtain ⟨i, hi', rfl⟩ := List.mem_map.1 hv
      exact (hf i (by have := List.mem_range.1 hi'; omega)).2.2
end

theorem IsVals.below {w w' : World} {a : Option Addr} {len cap : Nat} {l : List Vl} (h : IsVals w a len cap l) (hb : Below w.heap.size w w') : IsVals w' a len cap l :=
  ⟨h.1, h.2.1, h.2.2.1, h.2.2.2.1, h.2.2.2.2.1.at hb, h.2.2.2.2.2⟩
/-- The two cells of one value. -/
theorem CellsAt.val {w : World} {B : Nat} {ao : Option Addr} {n : Nat} {l : List Vl} (h : CellsAt w B ao (n * 2) (vlc l)) {i : Nat} (hi : i < n) :
    ∃ b off, ao = some ⟨b, off, none⟩ ∧ b < B ∧ w.cell? ⟨b, off + i * 2, none⟩ = some (vN l i) ∧ w.cell? ⟨b, off + i * 2 + 1, none⟩ = some (vS l i) := by
  obtain ⟨b, off, e, hb, h0⟩ := h (2 * i) (by omega)
  obtain ⟨b', off', e', -, h1⟩ := h (2 * i + 1) (by omega)
  rw [e] at e'
  cases e'
  refine ⟨b, off, e, hb, ?_, ?_⟩
  · rw [Nat.mul_comm i 2, h0, vlc_even]
  · rw [Nat.mul_comm i 2, Nat.add_assoc, h1, vlc_odd]

/-- Values as cells. -/
def vcs (l : List Vl) : List Value := (List.range (l.length * 2)).map (vlc l)
theorem vcs_length (l : List Vl) : (vcs l).length = l.length * 2 := by simp [vcs]
theorem getD_app_lt (l : List Vl) (m : List Vl) (i : Nat) (h : i < l.length) : (l ++ m).getD i vl0 = l.getD i vl0 := by
  simp only [List.getD_eq_getElem?_getD, List.getElem?_append_left h]
theorem getD_app_ge (l : List Vl) (m : List Vl) (i : Nat) (h : l.length ≤ i) : (l ++ m).getD i vl0 = m.getD (i - l.length) vl0 := by
  simp only [List.getD_eq_getElem?_getD, List.getElem?_append_right h]
theorem vlc_app_lt (l m : List Vl) (j : Nat) (h : j < l.length * 2) : vlc (l ++ m) j = vlc l j := by
  unfold vlc vN vS
  rw [getD_app_lt l m _ (by omega)]
theorem vlc_app_ge (l m : List Vl) (j : Nat) : vlc (l ++ m) (l.length * 2 + j) = vlc m j := by
  unfold vlc vN vS
  rw [getD_app_ge l m _ (by omega), show (l.length * 2 + j) / 2 - l.length = j / 2 by omega, show (l.length * 2 + j) % 2 = j % 2 by omega]
theorem vcs_app (l m : List Vl) : vcs l ++ vcs m = vcs (l ++ m) := by
  refine List.ext_getElem (by simp [vcs]; omega) fun j h1 h2 => ?_
  rw [List.getElem_append]
  split
  · rename_i h
    simp only [vcs, List.getElem_map, List.getElem_range]
    rw [vlc_app_lt l m j (by simpa [vcs] using h)]
  · rename_i h
    simp only [vcs, List.getElem_map, List.getElem_range, List.length_map, List.length_range]
    have e : j = l.length * 2 + (j - l.length * 2) := by simp [vcs] at h; omega
    rw [e, vlc_app_ge, ← e]
theorem vlc_one (l : List Vl) : ∀ j, (vlc l j).oneCell' = true := by
  intro j; unfold vlc; split <;> rfl
/-- A row of values of one's own, opened. -/
theorem own_v {w : World} {base : Nat} {e : TypeId} {v : Value} {n : Nat} {l : List Vl} (h : w.ownsRow base e 2 v n (vcs l)) :
    ∃ ao cap, v = .slice ao n cap ∧ l.length = n ∧ n ≤ cap ∧ CellsAt w w.heap.size ao (n * 2) (vlc l) ∧ (ao = none → n = 0 ∧ cap = 0) ∧ (∀ a, ao = some a → base ≤ a.block) := by
  have hl : l.length = n := by have := h.1; rw [vcs_length] at this; omega
  have h' := h
  rcases h.2 with ⟨rfl, rfl⟩ | ⟨g, cap, cur, rfl, hb, hg, hnc, hcm, hcs, htake⟩
  · exact ⟨none, 0, rfl, hl, Nat.le_refl _, by rw [Nat.zero_mul]; exact CellsAt.zero, fun _ => ⟨rfl, rfl⟩, fun a ha => by cases ha⟩
  · refine ⟨some ⟨g, 0, none⟩, cap, rfl, hl, hnc, fun i hi => ⟨g, 0, rfl, (Array.getElem?_eq_some_iff.1 hg).1, ?_⟩, (fun e => by cases e), fun a ha => by cases ha; exact hb⟩
    rw [Nat.zero_add, h'.cellAt i (by omega)]
    unfold vcs
    rw [List.getElem?_map, List.getElem?_range (by omega)]; rfl
/-- One value in a new block. -/
theorem cells_one_v (w : World) (E : TypeId) (v : Vl) : CellsAt (w.alloc (.cells #[.int .i64 v.1, .string v.2] E)) (w.alloc (.cells #[.int .i64 v.1, .string v.2] E)).heap.size (some ⟨w.heap.size, 0, none⟩) (1 * 2) (vlc [v]) :=
  cells_alloc w _ E 2 (vlc [v]) (fun i hi => by match i, hi with | 0, _ => rfl | 1, _ => rfl)
theorem vcs_snoc (l : List Vl) (v : Vl) : vcs l ++ (List.range (1 * 2)).map (vlc [v]) = vcs (l ++ [v]) := vcs_app l [v]
/-- What a call gave: fresh values. -/
def FreshV (w w' : World) (E : TypeId) (v : Value) (l : List Vl) : Prop := w'.ownsRow w.heap.size E 2 v l.length (vcs l) ∧ Below w.heap.size w w'
def GaveV (w : World) (E : TypeId) (l : List Vl) (e : Ending) (w' : World) : Prop := ∃ v, e = .returned v ∧ FreshV w w' E v l
end Go.Proofs.Ytkolmoebopfgiaa
