/- Texts that the proof stands on, merged. -/
import Derived.Test.YtebmbkbnngeabaaGreatBunA
import Derived.Deep.RegionLaw
import Derived.Laws.AppendOwnNone
import Derived.Deep.Quiet
import Derived.Deep.QuietTactic
import Derived.ScopeJumps
import Derived.BigQuiet
import Derived.Maps.Own
import Derived.Maps.OwnSet
import Derived.Maps.OwnOps
import Derived.DeepKeys4
import Derived.Lib.AppendZeros
import Derived.Lib.SlBytesConst
set_option linter.unusedVariables false
set_option linter.unusedSimpArgs false
namespace Go.Proofs.YtebmbkbnngeabaaGreat
open Go.RowKit
structure SlT (P : Program) (t e : TypeId) (size bytes : Nat) (z : Value) : Prop where
 und : P.underlying t = some (.slice e)
 info : (P.info? e).map (fun i => (i.zero, i.size, i.bytes)) = some (some z, size, bytes)
 cells : z.cells.size = size
 pos : 0 < size
theorem range_map_at (f : Nat → Value) (m j : Nat) (u : Value) (h : ((List.range m).map f)[j]? = some u) : j < m ∧ u = f j := by
 have hj : j < m := by have := (List.getElem?_eq_some_iff.1 h).1; simpa using this
 rw [List.getElem?_map, List.getElem?_range hj] at h
 exact ⟨hj, (Option.some.inj h).symm⟩
theorem CellsAt.news {w : World} {B : Nat} {ad : Addr} {m : Nat} {f : Nat → Value} (h : CellsAt w B (some ad) m f) : ∀ j u, ((List.range m).map f)[j]? = some u → w.cell? (ad.add j) = some u := by
 intro j u hu
 obtain ⟨hj, rfl⟩ := range_map_at f m j u hu
 obtain ⟨b, off, e, -, hc⟩ := h j hj
 cases e
 rw [Addr.add_lit]; exact hc
theorem range_one (f : Nat → Value) (m : Nat) (h1 : ∀ i, i < m → (f i).oneCell' = true) : ∀ u ∈ (List.range m).map f, u.oneCell' = true := by
 intro u hu
 obtain ⟨i, hi, rfl⟩ := List.mem_map.1 hu
 exact h1 i (List.mem_range.1 hi)
def Cloned (w w' : World) (E : TypeId) (ao ao' : Option Addr) (m cap' : Nat) (f : Nat → Value) : Prop :=
 m = 0 ∧ ao' = ao ∧ cap' = 0 ∧ w' = w ∨ 0 < m ∧ w'.ownsRow w.heap.size E 1 (.slice ao' m cap') m ((List.range m).map f)
theorem Cloned.pos {w w' : World} {E : TypeId} {ao ao' : Option Addr} {m cap' : Nat} {f : Nat → Value} (h : Cloned w w' E ao ao' m cap' f) (hm : 0 < m) :
 ∃ g, ao' = some ⟨g, 0, none⟩ ∧ w.heap.size ≤ g ∧ w'.ownsRow w.heap.size E 1 (.slice (some ⟨g, 0, none⟩) m cap') m ((List.range m).map f) := by
 rcases h with ⟨h0, -⟩ | ⟨-, h⟩
 · omega
 · rcases h.2 with ⟨-, h3⟩ | ⟨g, c2, cur, h3, hb, -⟩
   · omega
   · simp only [Value.slice.injEq] at h3
     obtain ⟨rfl, -, rfl⟩ := h3
     exact ⟨g, rfl, hb, h⟩
section
variable {P : Program} {w : World} {t e : TypeId} {size bytes : Nat} {z : Value}
theorem run_append_all (T : SlT P t e size bytes z) {base : Nat} {v : Value} {n : Nat} {xs : List Value} (hown : w.ownsRow base e size v n xs) {B : Nat} {ax : Option Addr} {m c : Nat} {f : Nat → Value}
 (hc : CellsAt w B ax (m * size) f) (hax : ax = none → m = 0 ∧ c = 0) (h1 : ∀ i, i < m * size → (f i).oneCell' = true) (h63 : n + m ≤ maxLen) (hb : (n + m) * bytes ≤ 140737488355328) (hbase : base ≤ w.heap.size) (ty : TypeId) :
 ∃ v' w', (Builtin.append_ #[t, t] ty #[v, .slice ax m c]).run P w = .ok v' w' ∧ w'.ownsRow base e size v' (n + m) (xs ++ (List.range (m * size)).map f) ∧ w.grownBy w' v.ownBlock := by
 obtain ⟨i, hi, hz, hs, hby⟩ := info_parts T.info
 cases ax with
 | none =>
  obtain ⟨rfl, rfl⟩ := hax rfl
  refine ⟨v, w, run_append_owned_none w base t ty e i size T.und hi v n xs hown, by simpa using hown, ⟨rfl, rfl, rfl, Nat.le_refl _, fun _ _ _ => rfl⟩⟩
 | some ad =>
  obtain ⟨v', w', hr, ho, hg, -⟩ := run_append_own (P := P) w base t ty e i z size bytes T.und hi hz hs hby T.cells T.pos v n xs hown ad m c ((List.range (m * size)).map f) (by simp) hc.news (range_one f _ h1) h63 hb hbase
  exact ⟨v', w', hr, ho, hg⟩
theorem run_append_clone (T : SlT P t e size bytes z) {ao : Option Addr} {B : Nat} {ax : Option Addr} {m c : Nat} {f : Nat → Value}
 (hc : CellsAt w B ax (m * size) f) (hax : ax = none → m = 0) (h1 : ∀ i, i < m * size → (f i).oneCell' = true) (h63 : m ≤ maxLen) (hb : m * bytes ≤ 140737488355328) (ty : TypeId) :
 ∃ ao' cap' w', (Builtin.append_ #[t, t] ty #[.slice ao 0 0, .slice ax m c]).run P w = .ok (.slice ao' m cap') w' ∧ CellsAt w' w'.heap.size ao' (m * size) f ∧ Below w.heap.size w w' ∧
  (m = 0 ∧ ao' = ao ∧ cap' = 0 ∧ w' = w ∨ 0 < m ∧ w'.ownsRow w.heap.size e size (.slice ao' m cap') m ((List.range (m * size)).map f)) := by
 obtain ⟨i, hi, hz, hs, hby⟩ := info_parts T.info
 rcases Nat.eq_zero_or_pos m with rfl | hm
 · refine ⟨ao, 0, w, ?_, by rw [Nat.zero_mul]; exact CellsAt.zero, Below.refl _ _, .inl ⟨rfl, rfl, rfl, rfl⟩⟩
   cases ao <;> cases ax <;> simp [Builtin.append_, run_underlying T.und, sizeOf, typeInfo, hi, Builtin.lenOf, Builtin.firstCells, storeCells, loadCells, loadCellsFrom]
 · cases ax with
   | none => have := hax rfl; omega
   | some ad =>
    have key : ∃ v' w', (Builtin.append_ #[t, t] ty #[.slice ao 0 0, .slice (some ad) m c]).run P w = .ok v' w' ∧ w'.ownsRow w.heap.size e size v' m ((List.range (m * size)).map f) ∧ w.grownBy w' none := by
     cases ao with
     | none =>
      obtain ⟨v', w', hr, ho, hg, -⟩ := run_append_own (P := P) w w.heap.size t ty e i z size bytes T.und hi hz hs hby T.cells T.pos (.slice none 0 0) 0 [] (World.ownsRow_nil _ _ _ _) ad m c ((List.range (m * size)).map f) (by simp) hc.news
       (range_one f _ h1) (by omega) (by simpa using hb) (Nat.le_refl _)
      exact ⟨v', w', hr, by simpa using ho, hg⟩
     | some b =>
      obtain ⟨v', w', hr, ho, hg⟩ := run_append_arg_grows (P := P) w t ty e i z size bytes T.und hi hz hs hby T.cells T.pos b 0 0 [] (by simp) (by simp) ad m c ((List.range (m * size)).map f) (by simp) hc.news (by omega) (by omega) (by simpa using hb)
      exact ⟨v', w', hr, by simpa using ho, hg⟩
    obtain ⟨v', w', hr, ho, hg⟩ := key
    rcases ho.2 with ⟨-, h0⟩ | ⟨g, cap', cur, rfl, hbg, hgg, hnc, hcm, hcs, htake⟩
    · omega
    · have hbel : Below w.heap.size w w' := (Below.refl _ _).grown hg (Nat.le_refl _) (fun k h => by cases h)
      refine ⟨some ⟨g, 0, none⟩, cap', w', hr, fun j hj => ⟨g, 0, rfl, (Array.getElem?_eq_some_iff.1 hgg).1, ?_⟩, hbel, .inr ⟨hm, ho⟩⟩
      rw [Nat.zero_add, ho.cellAt j (by exact hj), List.getElem?_map, List.getElem?_range hj]; rfl
section
variable {ops : Array Oper} {rest : List Oper} {o : Oper} {a : Act} {Q : Exit → Act → World → Prop}
theorem wpList_append_all (T : SlT P t e size bytes z) (hgd : o.guard = none) (s x : Operand) (ho : o.op = .call { callee := .builtin .append, args := #[s, x], argTypes := #[t, t] })
 {base : Nat} {v : Value} {n : Nat} {xs : List Value} (hs : a.eval s = v) (hown : w.ownsRow base e size v n xs) {B : Nat} {ax : Option Addr} {m c : Nat} {f : Nat → Value} (hx : a.eval x = .slice ax m c)
 (hc : CellsAt w B ax (m * size) f) (hax : ax = none → m = 0 ∧ c = 0) (h1 : ∀ i, i < m * size → (f i).oneCell' = true) (h63 : n + m ≤ maxLen) (hb : (n + m) * bytes ≤ 140737488355328) (hbase : base ≤ w.heap.size)
 (h : ∀ v' w', w'.ownsRow base e size v' (n + m) (xs ++ (List.range (m * size)).map f) → w.grownBy w' v.ownBlock → wpList P ops Q rest (a.put o.dst v') w') : wpList P ops Q (o :: rest) a w := by
 refine wpList_plain hgd fun K hK => ?_
 obtain ⟨v', w', hrun, r1, r2⟩ := run_append_all T hown hc hax h1 h63 hb hbase o.type
 unfold Oper.wp
 simp [execOp, ho, resolve, invoke, builtin, hs, hx, hrun, Result.andThen]
 exact hK _ _ (h v' w' r1 r2)
theorem wpList_append_clone (T : SlT P t e size bytes z) (hgd : o.guard = none) (s x : Operand) (ho : o.op = .call { callee := .builtin .append, args := #[s, x], argTypes := #[t, t] })
 {ao : Option Addr} (hs : a.eval s = .slice ao 0 0) {B : Nat} {ax : Option Addr} {m c : Nat} {f : Nat → Value} (hx : a.eval x = .slice ax m c)
 (hc : CellsAt w B ax (m * size) f) (hax : ax = none → m = 0) (h1 : ∀ i, i < m * size → (f i).oneCell' = true) (h63 : m ≤ maxLen) (hb : m * bytes ≤ 140737488355328)
 (h : ∀ ao' cap' w', CellsAt w' w'.heap.size ao' (m * size) f → Below w.heap.size w w' → (m = 0 ∧ ao' = ao ∧ cap' = 0 ∧ w' = w ∨ 0 < m ∧ w'.ownsRow w.heap.size e size (.slice ao' m cap') m ((List.range (m * size)).map f)) →
  wpList P ops Q rest (a.put o.dst (.slice ao' m cap')) w') : wpList P ops Q (o :: rest) a w := by
 refine wpList_plain hgd fun K hK => ?_
 obtain ⟨ao', cap', w', hrun, r1, r2, r3⟩ := run_append_clone T (ao := ao) hc hax h1 h63 hb o.type
 unfold Oper.wp
 simp [execOp, ho, resolve, invoke, builtin, hs, hx, Result.andThen]
 rw [hrun]
 exact hK _ _ (h ao' cap' w' r1 r2 r3)
theorem step_append_all (T : SlT P t e size bytes z) {K : Act → World → Prop} {E : Prop} (hgd : o.guard = none) (s x : Operand) (ho : o.op = .call { callee := .builtin .append, args := #[s, x], argTypes := #[t, t] })
 {base : Nat} {v : Value} {n : Nat} {xs : List Value} (hs : a.eval s = v) (hown : w.ownsRow base e size v n xs) {B : Nat} {ax : Option Addr} {m c : Nat} {f : Nat → Value} (hx : a.eval x = .slice ax m c)
 (hc : CellsAt w B ax (m * size) f) (hax : ax = none → m = 0 ∧ c = 0) (h1 : ∀ i, i < m * size → (f i).oneCell' = true) (h63 : n + m ≤ maxLen) (hb : (n + m) * bytes ≤ 140737488355328) (hbase : base ≤ w.heap.size)
 (h : ∀ v' w', w'.ownsRow base e size v' (n + m) (xs ++ (List.range (m * size)).map f) → w.grownBy w' v.ownBlock → K (a.put o.dst v') w') :
 if Region.wanted o (yielded ops a.tmps) = true then Oper.wp P o a w K Q else E := by
 have hw : Region.wanted o (yielded ops a.tmps) = true := by simp [Region.wanted, hgd]
 rw [if_pos hw]
 obtain ⟨v', w', hrun, r1, r2⟩ := run_append_all T hown hc hax h1 h63 hb hbase o.type
 unfold Oper.wp
 simp [execOp, ho, resolve, invoke, builtin, hs, hx, hrun, Result.andThen]
 exact h v' w' r1 r2
theorem step_append_clone (T : SlT P t e size bytes z) {K : Act → World → Prop} {E : Prop} (hgd : o.guard = none) (s x : Operand) (ho : o.op = .call { callee := .builtin .append, args := #[s, x], argTypes := #[t, t] })
 {ao : Option Addr} (hs : a.eval s = .slice ao 0 0) {B : Nat} {ax : Option Addr} {m c : Nat} {f : Nat → Value} (hx : a.eval x = .slice ax m c)
 (hc : CellsAt w B ax (m * size) f) (hax : ax = none → m = 0) (h1 : ∀ i, i < m * size → (f i).oneCell' = true) (h63 : m ≤ maxLen) (hb : m * bytes ≤ 140737488355328)
 (h : ∀ ao' cap' w', CellsAt w' w'.heap.size ao' (m * size) f → Below w.heap.size w w' → (m = 0 ∧ ao' = ao ∧ cap' = 0 ∧ w' = w ∨ 0 < m ∧ w'.ownsRow w.heap.size e size (.slice ao' m cap') m ((List.range (m * size)).map f)) →
  K (a.put o.dst (.slice ao' m cap')) w') :
 if Region.wanted o (yielded ops a.tmps) = true then Oper.wp P o a w K Q else E := by
 have hw : Region.wanted o (yielded ops a.tmps) = true := by simp [Region.wanted, hgd]
 rw [if_pos hw]
 obtain ⟨ao', cap', w', hrun, r1, r2, r3⟩ := run_append_clone T (ao := ao) hc hax h1 h63 hb o.type
 unfold Oper.wp
 simp [execOp, ho, resolve, invoke, builtin, hs, hx, Result.andThen]
 rw [hrun]
 exact h ao' cap' w' r1 r2 r3
theorem wpList_append_all1 (T : SlT P t e 1 bytes z) (hgd : o.guard = none) (s x : Operand) (ho : o.op = .call { callee := .builtin .append, args := #[s, x], argTypes := #[t, t] })
 {base : Nat} {v : Value} {n : Nat} {xs : List Value} (hs : a.eval s = v) (hown : w.ownsRow base e 1 v n xs) {B : Nat} {ax : Option Addr} {m c : Nat} {f : Nat → Value} (hx : a.eval x = .slice ax m c)
 (hc : CellsAt w B ax m f) (hax : ax = none → m = 0 ∧ c = 0) (h1 : ∀ i, i < m → (f i).oneCell' = true) (h63 : n + m ≤ maxLen) (hb : (n + m) * bytes ≤ 140737488355328) (hbase : base ≤ w.heap.size)
 (h : ∀ v' w', w'.ownsRow base e 1 v' (n + m) (xs ++ (List.range m).map f) → w.grownBy w' v.ownBlock → wpList P ops Q rest (a.put o.dst v') w') : wpList P ops Q (o :: rest) a w :=
 wpList_append_all T hgd s x ho hs hown hx (by rwa [Nat.mul_one]) hax (by rwa [Nat.mul_one]) h63 hb hbase (fun v' w' r1 r2 => h v' w' (by rwa [Nat.mul_one] at r1) r2)
theorem wpList_append_clone1 (T : SlT P t e 1 bytes z) (hgd : o.guard = none) (s x : Operand) (ho : o.op = .call { callee := .builtin .append, args := #[s, x], argTypes := #[t, t] })
 {ao : Option Addr} (hs : a.eval s = .slice ao 0 0) {B : Nat} {ax : Option Addr} {m c : Nat} {f : Nat → Value} (hx : a.eval x = .slice ax m c)
 (hc : CellsAt w B ax m f) (hax : ax = none → m = 0) (h1 : ∀ i, i < m → (f i).oneCell' = true) (h63 : m ≤ maxLen) (hb : m * bytes ≤ 140737488355328)
 (h : ∀ ao' cap' w', CellsAt w' w'.heap.size ao' m f → Below w.heap.size w w' → Cloned w w' e ao ao' m cap' f →
  wpList P ops Q rest (a.put o.dst (.slice ao' m cap')) w') : wpList P ops Q (o :: rest) a w :=
 wpList_append_clone T hgd s x ho hs hx (by rwa [Nat.mul_one]) hax (by rwa [Nat.mul_one]) h63 hb (fun ao' cap' w' r1 r2 r3 => h ao' cap' w' (by rwa [Nat.mul_one] at r1) r2 (by rw [Nat.mul_one] at r3; exact r3))
theorem step_append_all1 (T : SlT P t e 1 bytes z) {K : Act → World → Prop} {E : Prop} (hgd : o.guard = none) (s x : Operand) (ho : o.op = .call { callee := .builtin .append, args := #[s, x], argTypes := #[t, t] })
 {base : Nat} {v : Value} {n : Nat} {xs : List Value} (hs : a.eval s = v) (hown : w.ownsRow base e 1 v n xs) {B : Nat} {ax : Option Addr} {m c : Nat} {f : Nat → Value} (hx : a.eval x = .slice ax m c)
 (hc : CellsAt w B ax m f) (hax : ax = none → m = 0 ∧ c = 0) (h1 : ∀ i, i < m → (f i).oneCell' = true) (h63 : n + m ≤ maxLen) (hb : (n + m) * bytes ≤ 140737488355328) (hbase : base ≤ w.heap.size)
 (h : ∀ v' w', w'.ownsRow base e 1 v' (n + m) (xs ++ (List.range m).map f) → w.grownBy w' v.ownBlock → K (a.put o.dst v') w') :
 if Region.wanted o (yielded ops a.tmps) = true then Oper.wp P o a w K Q else E :=
 step_append_all T hgd s x ho hs hown hx (by rwa [Nat.mul_one]) hax (by rwa [Nat.mul_one]) h63 hb hbase (fun v' w' r1 r2 => h v' w' (by rwa [Nat.mul_one] at r1) r2)
theorem step_append_clone1 (T : SlT P t e 1 bytes z) {K : Act → World → Prop} {E : Prop} (hgd : o.guard = none) (s x : Operand) (ho : o.op = .call { callee := .builtin .append, args := #[s, x], argTypes := #[t, t] })
 {ao : Option Addr} (hs : a.eval s = .slice ao 0 0) {B : Nat} {ax : Option Addr} {m c : Nat} {f : Nat → Value} (hx : a.eval x = .slice ax m c)
 (hc : CellsAt w B ax m f) (hax : ax = none → m = 0) (h1 : ∀ i, i < m → (f i).oneCell' = true) (h63 : m ≤ maxLen) (hb : m * bytes ≤ 140737488355328)
 (h : ∀ ao' cap' w', CellsAt w' w'.heap.size ao' m f → Below w.heap.size w w' → Cloned w w' e ao ao' m cap' f →
  K (a.put o.dst (.slice ao' m cap')) w') :
 if Region.wanted o (yielded ops a.tmps) = true then Oper.wp P o a w K Q else E :=
 step_append_clone T hgd s x ho hs hx (by rwa [Nat.mul_one]) hax (by rwa [Nat.mul_one]) h63 hb (fun ao' cap' w' r1 r2 r3 => h ao' cap' w' (by rwa [Nat.mul_one] at r1) r2 (by rw [Nat.mul_one] at r3; exact r3))
theorem Cloned.row {w w' : World} {E : TypeId} {ao ao' : Option Addr} {m cap' : Nat} {f : Nat → Value} (h : Cloned w w' E ao ao' m cap' f) :
 m = 0 ∧ cap' = 0 ∨ 0 < m ∧ w'.ownsRow w.heap.size E 1 (.slice ao' m cap') m ((List.range m).map f) := h.imp (fun x => ⟨x.1, x.2.2.1⟩) id
end
end
end Go.Proofs.YtebmbkbnngeabaaGreat

set_option linter.unusedSimpArgs false
namespace Go.Proofs.YtebmbkbnngeabaaGreat
open Go.RowKit
set_option linter.unusedVariables false
def Apart (u v : Value) : Prop := u.ownBlock = none ∨ u.ownBlock ≠ v.ownBlock
theorem Apart.comm {u v : Value} (h : Apart u v) : Apart v u := by
 unfold Apart at *
 cases hu : u.ownBlock <;> cases hv : v.ownBlock <;> simp_all
 exact fun e => h e.symm
def SameOrNew (w : World) (v v' : Value) : Prop := v'.ownBlock = v.ownBlock ∨ ∀ k, v'.ownBlock = some k → w.heap.size ≤ k
section
variable {P : Program} {w : World} {t e : TypeId} {size bytes : Nat} {z : Value}
theorem Apart.newer {u v v' : Value} {base : Nat} {e : TypeId} {size n : Nat} {xs : List Value} (h : Apart v u) (hs : SameOrNew w v v') (hu : w.ownsRow base e size u n xs) : Apart v' u := by
 rcases hs with hs | hs
 · unfold Apart at *; rw [hs]; exact h
 · unfold Apart
   cases hv : v'.ownBlock with
   | none => exact .inl rfl
   | some k =>
    right
    intro e
    have h1 := hs k hv
    have h2 := (hu.lt k e.symm).2
    omega
theorem run_append_apart (T : SlT P t e size bytes z) {base : Nat} {v : Value} {n : Nat} {xs : List Value} (hown : w.ownsRow base e size v n xs) {B : Nat} {ax : Option Addr} {m c : Nat} {f : Nat → Value}
 (hc : CellsAt w B ax (m * size) f) (hax : ax = none → m = 0 ∧ c = 0) (h1 : ∀ i, i < m * size → (f i).oneCell' = true) (h63 : n + m ≤ maxLen) (hb : (n + m) * bytes ≤ 140737488355328) (hbase : base ≤ w.heap.size) (ty : TypeId) :
 ∃ v' w', (Builtin.append_ #[t, t] ty #[v, .slice ax m c]).run P w = .ok v' w' ∧ w'.ownsRow base e size v' (n + m) (xs ++ (List.range (m * size)).map f) ∧ w.grownBy w' v.ownBlock ∧ SameOrNew w v v' := by
 obtain ⟨i, hi, hz, hs, hby⟩ := info_parts T.info
 cases ax with
 | none =>
  obtain ⟨rfl, rfl⟩ := hax rfl
  exact ⟨v, w, run_append_owned_none w base t ty e i size T.und hi v n xs hown, by simpa using hown, ⟨rfl, rfl, rfl, Nat.le_refl _, fun _ _ _ => rfl⟩, .inl rfl⟩
 | some ad =>
  have hl : ((List.range (m * size)).map f).length = m * size := by simp
  rcases hown.2 with ⟨rfl, rfl⟩ | ⟨g, cap, cur, rfl, hbg, hg, hnc, hcm, hcs, htake⟩
  · have hx : xs = [] := List.eq_nil_of_length_eq_zero (by simpa using hown.1)
    subst hx
    obtain ⟨v', w', hr, ho, hgr, -⟩ := run_append_own (P := P) w w.heap.size t ty e i z size bytes T.und hi hz hs hby T.cells T.pos (.slice none 0 0) 0 [] (World.ownsRow_nil w w.heap.size e size) ad m c ((List.range (m * size)).map f) hl hc.news (range_one f _ h1) h63 hb (Nat.le_refl _)
    exact ⟨v', w', hr, own_base ho hbase, hgr, .inr fun k hk => (ho.lt k hk).1⟩
  · by_cases hroom : n + m ≤ cap
    · have hfit : n * i.size + ((List.range (m * size)).map f).length ≤ cur.size := by rw [hl, hcs, hs, ← Nat.add_mul]; exact Nat.mul_le_mul_right _ hroom
      have hr := run_append_room (P := P) w t ty e i T.und hi g n cap cur hg ad m c ((List.range (m * size)).map f) (by rw [hl, hs]) hc.news (range_one f _ h1) hroom hfit
      obtain ⟨v', w', hr', ho, hgr, -⟩ := run_append_own (P := P) w base t ty e i z size bytes T.und hi hz hs hby T.cells T.pos _ n xs hown ad m c ((List.range (m * size)).map f) hl hc.news (range_one f _ h1) h63 hb hbase
      rw [hr] at hr'
      injection hr' with e1 e2
      subst e1; subst e2
      exact ⟨_, _, hr, ho, hgr, .inl rfl⟩
    · obtain ⟨v', w', hr, ho, hgr⟩ := run_append_arg_grows (P := P) w t ty e i z size bytes T.und hi hz hs hby T.cells T.pos ⟨g, 0, none⟩ n cap xs hown.1 (hown.cells (g := g) rfl) ad m c ((List.range (m * size)).map f) hl hc.news (by omega) h63 hb
      exact ⟨v', w', hr, own_base ho hbase, ⟨hgr.os, hgr.tape, hgr.output, hgr.size, fun k hk _ => hgr.block k hk (by simp)⟩, .inr fun k hk => (ho.lt k hk).1⟩
end
section
variable {ops : Array Oper} {rest : List Oper} {o : Oper} {a : Act} {K : Act → World → Prop} {Q : Exit → Act → World → Prop} {P : Program} {w : World} {t e : TypeId} {size bytes : Nat} {z : Value}
theorem wp_append_apart (T : SlT P t e size bytes z) (s x : Operand) (ho : o.op = .call { callee := .builtin .append, args := #[s, x], argTypes := #[t, t] })
 {base : Nat} {v : Value} {n : Nat} {xs : List Value} (hs : a.eval s = v) (hown : w.ownsRow base e size v n xs) {B : Nat} {ax : Option Addr} {m c : Nat} {f : Nat → Value} (hx : a.eval x = .slice ax m c)
 (hc : CellsAt w B ax (m * size) f) (hax : ax = none → m = 0 ∧ c = 0) (h1 : ∀ i, i < m * size → (f i).oneCell' = true) (h63 : n + m ≤ maxLen) (hb : (n + m) * bytes ≤ 140737488355328) (hbase : base ≤ w.heap.size)
 (h : ∀ v' w', w'.ownsRow base e size v' (n + m) (xs ++ (List.range (m * size)).map f) → w.grownBy w' v.ownBlock → SameOrNew w v v' → K (a.put o.dst v') w') : o.wp P a w K Q := by
 obtain ⟨v', w', hrun, r1, r2, r3⟩ := run_append_apart T hown hc hax h1 h63 hb hbase o.type
 unfold Oper.wp
 simp [execOp, ho, resolve, invoke, builtin, hs, hx, hrun, Result.andThen]
 exact h v' w' r1 r2 r3
theorem step_append_apart {E : Prop} (T : SlT P t e size bytes z) (hgd : o.guard = none) (s x : Operand) (ho : o.op = .call { callee := .builtin .append, args := #[s, x], argTypes := #[t, t] })
 {base : Nat} {v : Value} {n : Nat} {xs : List Value} (hs : a.eval s = v) (hown : w.ownsRow base e size v n xs) {B : Nat} {ax : Option Addr} {m c : Nat} {f : Nat → Value} (hx : a.eval x = .slice ax m c)
 (hc : CellsAt w B ax (m * size) f) (hax : ax = none → m = 0 ∧ c = 0) (h1 : ∀ i, i < m * size → (f i).oneCell' = true) (h63 : n + m ≤ maxLen) (hb : (n + m) * bytes ≤ 140737488355328) (hbase : base ≤ w.heap.size)
 (h : ∀ v' w', w'.ownsRow base e size v' (n + m) (xs ++ (List.range (m * size)).map f) → w.grownBy w' v.ownBlock → SameOrNew w v v' → K (a.put o.dst v') w') :
 if Region.wanted o (yielded ops a.tmps) = true then Oper.wp P o a w K Q else E := by
 have hw : Region.wanted o (yielded ops a.tmps) = true := by simp [Region.wanted, hgd]
 rw [if_pos hw]
 exact wp_append_apart T s x ho hs hown hx hc hax h1 h63 hb hbase h
theorem wpList_append_apart (T : SlT P t e size bytes z) (hgd : o.guard = none) (s x : Operand) (ho : o.op = .call { callee := .builtin .append, args := #[s, x], argTypes := #[t, t] })
 {base : Nat} {v : Value} {n : Nat} {xs : List Value} (hs : a.eval s = v) (hown : w.ownsRow base e size v n xs) {B : Nat} {ax : Option Addr} {m c : Nat} {f : Nat → Value} (hx : a.eval x = .slice ax m c)
 (hc : CellsAt w B ax (m * size) f) (hax : ax = none → m = 0 ∧ c = 0) (h1 : ∀ i, i < m * size → (f i).oneCell' = true) (h63 : n + m ≤ maxLen) (hb : (n + m) * bytes ≤ 140737488355328) (hbase : base ≤ w.heap.size)
 (h : ∀ v' w', w'.ownsRow base e size v' (n + m) (xs ++ (List.range (m * size)).map f) → w.grownBy w' v.ownBlock → SameOrNew w v v' → wpList P ops Q rest (a.put o.dst v') w') : wpList P ops Q (o :: rest) a w :=
 wpList_plain hgd fun _ hK => wp_append_apart T s x ho hs hown hx hc hax h1 h63 hb hbase (fun v' w' r1 r2 r3 => hK _ _ (h v' w' r1 r2 r3))
end
theorem CellsAt.grown {w w' : World} {B n : Nat} {ao : Option Addr} {f : Nat → Value} {row : Option Nat} (h : CellsAt w B ao n f) (hg : w.grownBy w' row) (hne : ∀ a, ao = some a → some a.block ≠ row) : CellsAt w' B ao n f := fun i hi =>
 let ⟨b, off, e, hb, hc⟩ := h i hi; ⟨b, off, e, hb, hg.cell hc (show some b ≠ row from hne ⟨b, off, none⟩ e)⟩
section
variable {α : Type}
def wcs (g : α → List Value) (l : List α) : List Value := (l.map g).flatten
def wc (g : α → List Value) (l : List α) (j : Nat) : Value := (wcs g l).getD j undef
theorem wcs_length {g : α → List Value} {s : Nat} (hg : ∀ x, (g x).length = s) (l : List α) : (wcs g l).length = l.length * s := by
 induction l with
 | nil => simp [wcs]
 | cons x t ih =>
  have : wcs g (x :: t) = g x ++ wcs g t := rfl
  rw [this, List.length_append, hg, ih, List.length_cons, Nat.add_mul, Nat.one_mul, Nat.add_comm]
theorem wcs_app (g : α → List Value) (l m : List α) : wcs g l ++ wcs g m = wcs g (l ++ m) := by simp [wcs]
theorem wcs_get {g : α → List Value} {s : Nat} (hg : ∀ x, (g x).length = s) : ∀ (l : List α) (i k : Nat) (hi : i < l.length), k < s → (wcs g l)[i * s + k]? = (g l[i])[k]?
 | x :: t, 0, k, _, hk => by
  show (g x ++ wcs g t)[0 * s + k]? = _
  rw [Nat.zero_mul, Nat.zero_add, List.getElem?_append_left (by rw [hg]; exact hk)]; rfl
 | x :: t, i + 1, k, hi, hk => by
  show (g x ++ wcs g t)[(i + 1) * s + k]? = _
  rw [List.getElem?_append_right (by rw [hg, Nat.add_mul]; omega), hg, show (i + 1) * s + k - s = i * s + k by rw [Nat.add_mul]; omega]
  exact wcs_get hg t i k (by simpa using hi) hk
theorem wcs_set {g : α → List Value} {s : Nat} (hg : ∀ x, (g x).length = s) : ∀ (l : List α) (i k : Nat) (v : Value) (x' : α) (hi : i < l.length), k < s → (g l[i]).set k v = g x' → (wcs g l).set (i * s + k) v = wcs g (l.set i x')
 | x :: t, 0, k, v, x', _, hk, h => by
  show (g x ++ wcs g t).set (0 * s + k) v = g x' ++ wcs g t
  rw [Nat.zero_mul, Nat.zero_add, List.set_append_left _ _ (by rw [hg]; exact hk)]
  rw [show (g x).set k v = g x' from h]
 | x :: t, i + 1, k, v, x', hi, hk, h => by
  show (g x ++ wcs g t).set ((i + 1) * s + k) v = g x ++ wcs g (t.set i x')
  rw [List.set_append_right _ _ (by rw [hg, Nat.add_mul]; omega), hg, show (i + 1) * s + k - s = i * s + k by rw [Nat.add_mul]; omega]
  rw [wcs_set hg t i k v x' (by simpa using hi) hk h]
theorem CellsAt.wide {w : World} {B : Nat} {ao : Option Addr} {n s : Nat} {g : α → List Value} {l : List α} (h : CellsAt w B ao (n * s) (wc g l)) (hg : ∀ x, (g x).length = s) (hs : 0 < s) (hl : l.length = n) {i : Nat} (hi : i < n) (d : α) :
 ∃ b off, ao = some ⟨b, off, none⟩ ∧ b < B ∧ ∀ k, k < s → w.cell? ⟨b, off + (i * s + k), none⟩ = some ((g (l.getD i d)).getD k undef) := by
 have hb : ∀ k, k < s → i * s + k < n * s := fun k hk => by
  have : (i + 1) * s ≤ n * s := Nat.mul_le_mul_right _ hi
  rw [Nat.add_mul] at this; omega
 obtain ⟨b, off, e, hB, -⟩ := h (i * s + 0) (hb 0 hs)
 refine ⟨b, off, e, hB, fun k hk => ?_⟩
 obtain ⟨b', off', e', -, hc⟩ := h (i * s + k) (hb k hk)
 rw [e] at e'; cases e'
 rw [hc]
 unfold wc
 rw [List.getD_eq_getElem?_getD, wcs_get hg l i k (by omega) hk, List.getD_eq_getElem?_getD, List.getD_eq_getElem?_getD, List.getElem?_eq_getElem (show i < l.length by omega)]
 rfl
theorem own_wide {w : World} {base s : Nat} {e : TypeId} {v : Value} {n : Nat} {g : α → List Value} {l : List α} (hg : ∀ x, (g x).length = s) (hs : 0 < s) (h : w.ownsRow base e s v n (wcs g l)) :
 ∃ ao cap, v = .slice ao n cap ∧ l.length = n ∧ n ≤ cap ∧ CellsAt w w.heap.size ao (n * s) (wc g l) ∧ (ao = none → n = 0 ∧ cap = 0) ∧ (∀ a, ao = some a → base ≤ a.block ∧ a = ⟨a.block, 0, none⟩) := by
 have hl : l.length = n := by have := h.1; rw [wcs_length hg] at this; exact Nat.eq_of_mul_eq_mul_right hs this
 have h' := h
 rcases h.2 with ⟨rfl, rfl⟩ | ⟨b, cap, cur, rfl, hb, hgb, hnc, hcm, hcs, htake⟩
 · exact ⟨none, 0, rfl, hl, Nat.le_refl _, by rw [Nat.zero_mul]; exact CellsAt.zero, fun _ => ⟨rfl, rfl⟩, fun a ha => by cases ha⟩
 · refine ⟨some ⟨b, 0, none⟩, cap, rfl, hl, hnc, fun i hi => ⟨b, 0, rfl, (Array.getElem?_eq_some_iff.1 hgb).1, ?_⟩, (fun e => by cases e), fun a ha => by cases ha; exact ⟨hb, rfl⟩⟩
   have hlen : i < (wcs g l).length := by rw [h'.1]; exact hi
   rw [Nat.zero_add, h'.cellAt i (by omega)]
   unfold wc
   rw [List.getD_eq_getElem?_getD, List.getElem?_eq_getElem hlen]; rfl
end
theorem setCell_grown (w : World) (g j : Nat) (u : Value) : w.grownBy (w.setCell ⟨g, j, none⟩ u) (some g) :=
 ⟨rfl, rfl, rfl, by simp, fun k _ hk => heap_setCell_other w ⟨g, j, none⟩ k u (fun e => hk (by simp [e]))⟩
structure RowD where
 e : TypeId
 size : Nat
 v : Value
 n : Nat
 xs : List Value
def RowD.own (r : RowD) (w : World) (base : Nat) : Prop := w.ownsRow base r.e r.size r.v r.n r.xs
def OwnRs (w : World) (base : Nat) (rs : List RowD) : Prop := (∀ r ∈ rs, r.own w base) ∧ rs.Pairwise (fun a b => Apart a.v b.v)
theorem OwnRs.at {w : World} {base : Nat} {rs : List RowD} (h : OwnRs w base rs) {i : Nat} (hi : i < rs.length) : rs[i].own w base := h.1 _ (List.getElem_mem _)
theorem OwnRs.below {w w' : World} {base : Nat} {rs : List RowD} (h : OwnRs w base rs) (hb : Below w.heap.size w w') : OwnRs w' base rs := ⟨fun r hr => own_below (h.1 r hr) hb, h.2⟩
theorem OwnRs.upd {w w' : World} {base : Nat} {rs : List RowD} (h : OwnRs w base rs) {i : Nat} (hi : i < rs.length) (r' : RowD) (hg : w.grownBy w' rs[i].v.ownBlock) (ho : r'.own w' base) (hs : SameOrNew w rs[i].v r'.v) : OwnRs w' base (rs.set i r') := by
 have hp := List.pairwise_iff_getElem.1 h.2
 have hap : ∀ j (hj : j < rs.length), j ≠ i → Apart rs[i].v rs[j].v := fun j hj hji => by
  rcases Nat.lt_or_gt_of_ne hji with hlt | hgt
  · exact (hp j i hj hi hlt).comm
  · exact hp i j hi hj hgt
 have hap' : ∀ j (hj : j < rs.length), j ≠ i → Apart r'.v rs[j].v := fun j hj hji => (hap j hj hji).newer hs (h.at hj)
 refine ⟨fun r hr => ?_, List.pairwise_iff_getElem.2 fun j k hj hk hjk => ?_⟩
 · obtain ⟨j, hj, rfl⟩ := List.mem_iff_getElem.1 hr
   rw [List.getElem_set]
   split
   · exact ho
   · rename_i hne
     have hj' : j < rs.length := by simpa using hj
     have hx := (hap j hj' (fun e => hne e.symm)).comm
     exact World.ownsRow.kept (h.at hj') hg hx
 · rw [List.getElem_set, List.getElem_set]
   have hj' : j < rs.length := by simpa using hj
   have hk' : k < rs.length := by simpa using hk
   by_cases h1 : i = j
   · subst h1
     rw [if_pos rfl, if_neg (by omega)]
     exact hap' k hk' (by omega)
   · rw [if_neg h1]
     by_cases h2 : i = k
     · subst h2
       rw [if_pos rfl]
       exact (hap' j hj' (by omega)).comm
     · rw [if_neg h2]
       exact hp j k hj' hk' hjk
theorem apart_nil (u : Value) : Apart u (.slice none 0 0) := by
 unfold Apart
 cases h : u.ownBlock with
 | none => exact .inl rfl
 | some k => exact .inr (by simp [Value.ownBlock])
end Go.Proofs.YtebmbkbnngeabaaGreat

set_option linter.unusedSimpArgs false
namespace Go.Proofs.YtebmbkbnngeabaaGreat
open Go.RowKit
set_option linter.unusedVariables false
structure Fd where
 nm : ByteArray
 rep : Nat
 kind : Nat
 kids : Nat
def fd0 : Fd := ⟨ByteArray.empty, 0, 0, 0⟩
def fdV (f : Fd) : List Value := [.string f.nm, .int .i64 (f.rep : Nat), .int .i64 (f.kind : Nat), .int .i64 (f.kids : Nat)]
theorem fdV_length (f : Fd) : (fdV f).length = 4 := rfl
def cntTo (P : Nat → Nat) (g : Nat) : Nat → Nat
 | 0 => 0
 | n + 1 => cntTo P g n + if 0 < n ∧ P n = g then 1 else 0
theorem cntTo_mono (P : Nat → Nat) (g : Nat) {i n : Nat} (h : i ≤ n) : cntTo P g i ≤ cntTo P g n := by
 induction n with
 | zero => obtain rfl : i = 0 := by omega
           exact Nat.le_refl _
 | succ n ih =>
  by_cases hi : i = n + 1
  · subst hi; exact Nat.le_refl _
  · have := ih (by omega); simp only [cntTo]; omega
theorem cntTo_at (P : Nat → Nat) (g i : Nat) (h0 : 0 < i) (h : P i = g) : cntTo P g (i + 1) = cntTo P g i + 1 := by simp only [cntTo]; rw [if_pos ⟨h0, h⟩]
theorem cntTo_not (P : Nat → Nat) (g i : Nat) (h : ¬ (0 < i ∧ P i = g)) : cntTo P g (i + 1) = cntTo P g i := by simp only [cntTo]; rw [if_neg h]; rfl
theorem cntTo_lt (P : Nat → Nat) (g i n : Nat) (h0 : 0 < i) (h : P i = g) (hn : i < n) : cntTo P g i < cntTo P g n := by
 have h1 := cntTo_at P g i h0 h
 have h2 := cntTo_mono P g (show i + 1 ≤ n by omega)
 omega
theorem cntTo_congr (P P' : Nat → Nat) (g : Nat) : ∀ n, (∀ i, i < n → P i = P' i) → cntTo P g n = cntTo P' g n
 | 0, _ => rfl
 | n + 1, h => by
  simp only [cntTo]
  rw [cntTo_congr P P' g n (fun i hi => h i (by omega)), h n (by omega)]
theorem cntTo_none (P : Nat → Nat) (g : Nat) : ∀ n, (∀ i, 0 < i → i < n → P i ≠ g) → cntTo P g n = 0
 | 0, _ => rfl
 | n + 1, h => by
  rw [cntTo_not P g n (fun hh => h n hh.1 (by omega) hh.2)]
  exact cntTo_none P g n (fun i h0 hi => h i h0 (by omega))
theorem cntTo_le (P : Nat → Nat) (g : Nat) : ∀ n, cntTo P g n ≤ n
 | 0 => Nat.le_refl _
 | n + 1 => by
  have := cntTo_le P g n
  simp only [cntTo]; split <;> omega
def fAt (F : List Fd) (i : Nat) : Fd := F.getD i fd0
structure Sch (F : List Fd) (P dep : Nat → Nat) (anc : Nat → Nat → Nat) : Prop where
 pos : 0 < F.length
 d0 : dep 0 = 0
 par : ∀ i, 0 < i → i < F.length → P i < i ∧ dep i = dep (P i) + 1 ∧ (fAt F (P i)).kind = 0
 self : ∀ i, i < F.length → anc i (dep i) = i
 up : ∀ i, 0 < i → i < F.length → ∀ k, k ≤ dep (P i) → anc i k = anc (P i) k
 pre : ∀ i, 0 < i → i < F.length → dep (P i) ≤ dep (i - 1) ∧ anc (i - 1) (dep (P i)) = P i
 deep : ∀ i, i < F.length → dep i ≤ 5
 root : (fAt F 0).kind = 0 ∧ (fAt F 0).rep = 0
 kinds : ∀ i, i < F.length → (fAt F i).kind ≤ 4 ∧ (fAt F i).rep ≤ 2
 kids : ∀ i, i < F.length → (fAt F i).kids = if (fAt F i).kind = 0 then cntTo P i F.length else 0
structure FinS (F : List Fd) (P dep : Nat → Nat) (anc : Nat → Nat → Nat) : Prop extends Sch F P dep anc where
 small : F.length ≤ 14
 some : ∀ i, i < F.length → (fAt F i).kind = 0 → 0 < (fAt F i).kids
 last : (fAt F (F.length - 1)).kind ≠ 0
section
variable {F : List Fd} {P dep : Nat → Nat} {anc : Nat → Nat → Nat}
theorem Sch.anc_facts (h : Sch F P dep anc) : ∀ (n i : Nat), i < n → i < F.length → ∀ k, k ≤ dep i → anc i k ≤ i ∧ dep (anc i k) = k ∧ (k < dep i → (fAt F (anc i k)).kind = 0)
 | n + 1, i, hn, hi, k, hk => by
  by_cases he : k = dep i
  · rw [he, h.self i hi]; exact ⟨Nat.le_refl _, rfl, fun hh => absurd hh (Nat.lt_irrefl _)⟩
  · have h0 : 0 < i := by
     rcases Nat.eq_zero_or_pos i with rfl | h0
     · rw [h.d0] at hk he; omega
     · exact h0
    obtain ⟨p1, p2, p3⟩ := h.par i h0 hi
    have hk' : k ≤ dep (P i) := by omega
    rw [h.up i h0 hi k hk']
    obtain ⟨a1, a2, a3⟩ := Sch.anc_facts h n (P i) (by omega) (by omega) k hk'
    refine ⟨by omega, a2, fun _ => ?_⟩
    by_cases hx : k = dep (P i)
    · rw [hx, h.self (P i) (by omega)]; exact p3
    · exact a3 (by omega)
theorem Sch.anc_anc (h : Sch F P dep anc) : ∀ (n i : Nat), i < n → i < F.length → ∀ j k, k ≤ j → j ≤ dep i → anc (anc i j) k = anc i k
 | n + 1, i, hn, hi, j, k, hkj, hj => by
  by_cases he : j = dep i
  · rw [he, h.self i hi]
  · have h0 : 0 < i := by
     rcases Nat.eq_zero_or_pos i with rfl | h0
     · rw [h.d0] at hj he; omega
     · exact h0
    obtain ⟨p1, p2, p3⟩ := h.par i h0 hi
    rw [h.up i h0 hi j (by omega), h.up i h0 hi k (by omega)]
    exact Sch.anc_anc h n (P i) (by omega) (by omega) j k hkj (by omega)
theorem Sch.closed (h : Sch F P dep anc) (i : Nat) (h0 : 0 < i) : ∀ j, i ≤ j → j < F.length → (∀ k, k ≤ dep j → anc j k < i → k ≤ dep (P i) ∧ anc j k = anc (P i) k)
 | j, hij, hj => by
  intro k hk hlt
  by_cases he : j = i
  · subst he
    obtain ⟨p1, p2, p3⟩ := h.par j h0 hj
    by_cases hx : k = dep j
    · rw [hx, h.self j hj] at hlt; omega
    · exact ⟨by omega, h.up j h0 hj k (by omega)⟩
  · have hj0 : 0 < j := by omega
    obtain ⟨p1, p2, p3⟩ := h.par j hj0 hj
    obtain ⟨q1, q2⟩ := h.pre j hj0 hj
    by_cases hx : k = dep j
    · rw [hx, h.self j hj] at hlt; omega
    · have hk' : k ≤ dep (P j) := by omega
      rw [h.up j hj0 hj k hk'] at hlt ⊢
      have e : anc (P j) k = anc (j - 1) k := by
       rw [← q2]; exact h.anc_anc (j - 1 + 1) (j - 1) (by omega) (by omega) _ _ hk' q1
      rw [e] at hlt ⊢
      exact Sch.closed h i h0 (j - 1) (by omega) (by omega) k (by omega) hlt
termination_by j => j
theorem Sch.no_more (h : Sch F P dep anc) (i : Nat) (h0 : 0 < i) (hi : i < F.length) (k : Nat) (hk : dep (P i) < k) (hk2 : k ≤ dep (i - 1)) : ∀ n, i ≤ n → n ≤ F.length → cntTo P (anc (i - 1) k) n = cntTo P (anc (i - 1) k) i
 | n, hin, hn => by
  by_cases he : n = i
  · rw [he]
  · obtain ⟨m, rfl⟩ : ∃ m, n = m + 1 := ⟨n - 1, by omega⟩
    obtain ⟨a1, a2, -⟩ := h.anc_facts (i - 1 + 1) (i - 1) (by omega) (by omega) k hk2
    rw [cntTo_not, Sch.no_more h i h0 hi k hk hk2 m (by omega) (by omega)]
    rintro ⟨m0, hp⟩
    obtain ⟨p1, p2, p3⟩ := h.par m m0 (by omega)
    have hd : dep (P m) = k := by rw [hp]; exact a2
    have hx : anc m k = anc (i - 1) k := by rw [h.up m m0 (by omega) k (by omega), ← hd, h.self (P m) (by omega), hd, hp]
    have := (h.closed i h0 m (by omega) (by omega) k (by omega) (by rw [hx]; omega)).1
    omega
termination_by n => n
end
end Go.Proofs.YtebmbkbnngeabaaGreat

set_option linter.unusedSimpArgs false
namespace Go.Proofs.YtebmbkbnngeabaaGreat
open Go.RowKit
set_option linter.unusedVariables false
structure MkS (F : List Fd) (P dep : Nat → Nat) (anc : Nat → Nat → Nat) (m : Nat) : Prop extends Sch F P dep anc where
 m1 : 1 ≤ m
 mle : m ≤ dep (F.length - 1) + 1
 m5 : m ≤ 5
 opens : ∀ k, k < m → (fAt F (anc (F.length - 1) k)).kind = 0
 none : ∀ g, g < F.length → (fAt F g).kind = 0 → (fAt F g).kids = 0 → g = anc (F.length - 1) (m - 1)
def topS (F : List Fd) (anc : Nat → Nat → Nat) (m : Nat) : Nat := anc (F.length - 1) (m - 1)
def openL (anc : Nat → Nat → Nat) (n m : Nat) : List Int := (List.range m).map fun k => (anc (n - 1) k : Int)
theorem openL_at (anc : Nat → Nat → Nat) (n m k : Nat) (h : k < m) : (openL anc n m).getD k 0 = (anc (n - 1) k : Int) := by simp [openL, h]
theorem openL_take (anc : Nat → Nat → Nat) (n m : Nat) : (openL anc n m).take (m - 1) = openL anc n (m - 1) := by
 simp only [openL, ← List.map_take, List.take_range]
 congr 2; omega
def addF (F : List Fd) (g : Nat) (f : Fd) : List Fd := F.set g { fAt F g with kids := (fAt F g).kids + 1 } ++ [f]
theorem addF_length (F : List Fd) (g : Nat) (f : Fd) : (addF F g f).length = F.length + 1 := by simp [addF]
theorem fAt_add (F : List Fd) (g : Nat) (f : Fd) (hg : g < F.length) (i : Nat) (hi : i ≤ F.length) :
 fAt (addF F g f) i = if i = F.length then f else if i = g then { fAt F g with kids := (fAt F g).kids + 1 } else fAt F i := by
 unfold fAt addF
 rw [List.getD_eq_getElem?_getD]
 by_cases h : i = F.length
 · subst h
   rw [if_pos rfl, List.getElem?_append_right (by simp)]; simp
 · rw [if_neg h, List.getElem?_append_left (by simp; omega)]
   by_cases h2 : i = g
   · subst h2
     rw [if_pos rfl, List.getElem?_set_self hg]; rfl
   · rw [if_neg h2, List.getElem?_set_ne (fun e => h2 e.symm), ← List.getD_eq_getElem?_getD]
section
variable {F : List Fd} {P dep : Nat → Nat} {anc : Nat → Nat → Nat} {m : Nat}
theorem MkS.start (nm : ByteArray) : MkS [⟨nm, 0, 0, 0⟩] (fun _ => 0) (fun _ => 0) (fun _ _ => 0) 1 where
 pos := by simp
 d0 := rfl
 par := fun i h0 hi => by simp at hi; omega
 self := fun i hi => by simp at hi; omega
 up := fun i h0 hi => by simp at hi; omega
 pre := fun i h0 hi => by simp at hi; omega
 deep := fun i hi => Nat.zero_le _
 root := ⟨rfl, rfl⟩
 kinds := fun i hi => by
  obtain rfl : i = 0 := by simpa using hi
  exact ⟨Nat.zero_le _, Nat.zero_le _⟩
 kids := fun i hi => by
  obtain rfl : i = 0 := by simpa using hi
  rfl
 m1 := Nat.le_refl _
 mle := Nat.le_refl _
 m5 := by decide
 opens := fun k hk => rfl
 none := fun g hg _ _ => by
  obtain rfl : g = 0 := by simpa using hg
  rfl
theorem MkS.top_lt (h : MkS F P dep anc m) : topS F anc m < F.length ∧ dep (topS F anc m) = m - 1 ∧ (fAt F (topS F anc m)).kind = 0 := by
 have hp := h.pos
 have h1 := h.m1
 have h2 := h.mle
 obtain ⟨a1, a2, -⟩ := h.toSch.anc_facts F.length (F.length - 1) (by omega) (by omega) (m - 1) (by omega)
 exact ⟨by unfold topS; omega, a2, h.opens (m - 1) (by omega)⟩
theorem MkS.pop (h : MkS F P dep anc m) (hm : 1 < m) (hk : 0 < (fAt F (topS F anc m)).kids) : MkS F P dep anc (m - 1) where
 toSch := h.toSch
 m1 := by omega
 mle := by have := h.mle; omega
 m5 := by have := h.m5; omega
 opens := fun k hk => h.opens k (by omega)
 none := fun g hg h1 h2 => by
  have e := h.none g hg h1 h2
  unfold topS at hk
  rw [← e] at hk
  omega
theorem MkS.add (h : MkS F P dep anc m) (f : Fd) (hf0 : f.kids = 0) (hk4 : f.kind ≤ 4) (hr2 : f.rep ≤ 2) (hm4 : f.kind = 0 → m ≤ 4) :
 ∃ P' dep' anc', MkS (addF F (topS F anc m) f) P' dep' anc' (if f.kind = 0 then m + 1 else m) ∧
  openL anc' (F.length + 1) (if f.kind = 0 then m + 1 else m) = if f.kind = 0 then openL anc F.length m ++ [(F.length : Int)] else openL anc F.length m := by
 obtain ⟨n, hn⟩ : ∃ n, n = F.length := ⟨_, rfl⟩
 obtain ⟨g, hg⟩ : ∃ g, g = topS F anc m := ⟨_, rfl⟩
 obtain ⟨t1, t2, t3⟩ := h.top_lt
 rw [← hg] at t1 t2 t3 ⊢
 rw [← hn] at t1 ⊢
 have hpos : 0 < n := by rw [hn]; exact h.pos
 have hm1 := h.m1
 have hmle : m ≤ dep (n - 1) + 1 := by rw [hn]; exact h.mle
 have hga : anc (n - 1) (m - 1) = g := by rw [hg, hn]; rfl
 have hfl : (addF F g f).length = n + 1 := by rw [addF_length, hn]
 have hA := fun i (hi : i ≤ n) => fAt_add F g f (by rw [← hn]; exact t1) i (by omega)
 rw [← hn] at hA
 have hkind : ∀ i, i < n → (fAt (addF F g f) i).kind = (fAt F i).kind := fun i hi => by
  rw [hA i (by omega), if_neg (by omega)]
  split
  · rename_i e; subst e; rfl
  · rfl
 have hrep : ∀ i, i < n → (fAt (addF F g f) i).rep = (fAt F i).rep := fun i hi => by
  rw [hA i (by omega), if_neg (by omega)]
  split
  · rename_i e; subst e; rfl
  · rfl
 have hlast : fAt (addF F g f) n = f := by rw [hA n (Nat.le_refl _), if_pos rfl]
 have P1 := h.par; have S1 := h.self; have U1 := h.up; have R1 := h.pre; have D1 := h.deep; have K1 := h.kids; have O1 := h.opens; have E1 := h.none; have KK := h.kinds
 rw [← hn] at P1 S1 U1 R1 D1 K1 O1 E1 KK
 have hcnt : ∀ (P' : Nat → Nat), (∀ i, i < n → P' i = P i) → ∀ q, cntTo P' q n = cntTo P q n := fun P' hP q => cntTo_congr P' P q n hP
 refine ⟨fun i => if i = n then g else P i, fun i => if i = n then m else dep i, fun i k => if i = n then (if k = m then n else anc (n - 1) k) else anc i k, ⟨⟨?_, ?_, ?_, ?_, ?_, ?_, ?_, ?_, ?_, ?_⟩, ?_, ?_, ?_, ?_, ?_⟩, ?_⟩
 all_goals (try rw [hfl])
 · omega
 · rw [if_neg (by omega)]; exact h.d0
 · intro i h0 hi
   by_cases e : i = n
   · subst e
     simp only [if_pos]
     rw [if_neg (by omega), hkind g t1]
     exact ⟨t1, by omega, t3⟩
   · have hi' : i < n := by omega
     obtain ⟨p1, p2, p3⟩ := P1 i h0 hi'
     simp only [if_neg e]
     rw [if_neg (by omega), hkind (P i) (by omega)]
     exact ⟨p1, p2, p3⟩
 · intro i hi
   by_cases e : i = n
   · subst e; simp
   · simp only [if_neg e]; exact S1 i (by omega)
 · intro i h0 hi k hk
   by_cases e : i = n
   · subst e
     simp only [if_pos] at hk ⊢
     rw [if_neg (by omega)] at hk
     rw [if_neg (show ¬ k = m by omega), if_neg (by omega), ← hga]
     exact (h.toSch.anc_anc i (i - 1) (by omega) (by omega) (m - 1) k (by omega) (by omega)).symm
   · have hi' : i < n := by omega
     obtain ⟨p1, p2, p3⟩ := P1 i h0 hi'
     simp only [if_neg e] at hk ⊢
     rw [if_neg (by omega)] at hk
     rw [if_neg (by omega)]
     exact U1 i h0 hi' k hk
 · intro i h0 hi
   by_cases e : i = n
   · subst e
     simp only [if_pos]
     rw [if_neg (by omega), if_neg (by omega), if_neg (by omega), t2]
     exact ⟨by omega, hga⟩
   · have hi' : i < n := by omega
     obtain ⟨p1, p2, p3⟩ := P1 i h0 hi'
     simp only [if_neg e]
     rw [if_neg (by omega), if_neg (by omega), if_neg (by omega)]
     exact R1 i h0 hi'
 · intro i hi
   by_cases e : i = n
   · subst e; simp only [if_pos]; exact h.m5
   · simp only [if_neg e]; exact D1 i (by omega)
 · rw [hkind 0 hpos, hrep 0 hpos]; exact h.root
 · intro i hi
   by_cases e : i = n
   · subst e; rw [hlast]; exact ⟨hk4, hr2⟩
   · rw [hkind i (by omega), hrep i (by omega)]; exact KK i (by omega)
 · intro i hi
   by_cases e : i = n
   · subst e
     rw [hlast, hf0]
     split
     · refine (cntTo_none _ _ _ (fun j h0 hj => ?_)).symm
       by_cases e2 : j = i
       · subst e2; simp only [if_pos]; omega
       · simp only [if_neg e2]
         have := (P1 j h0 (by omega)).1
         omega
     · rfl
   · have hi' : i < n := by omega
     rw [hkind i hi', hA i (by omega), if_neg e]
     have hc := hcnt (fun i => if i = n then g else P i) (fun i hi => if_neg (by omega)) i
     have hK := K1 i hi'
     by_cases e2 : i = g
     · subst e2
       rw [if_pos rfl, if_pos t3]
       rw [if_pos t3] at hK
       show (fAt F i).kids + 1 = cntTo (fun j => if j = n then i else P j) i (n + 1)
       rw [cntTo_at (fun j => if j = n then i else P j) i n hpos (if_pos rfl), hc, ← hK]
     · rw [if_neg e2, hK]
       split
       · rw [cntTo_not _ i n (fun hh => e2 (by have := hh.2; rw [if_pos rfl] at this; exact this.symm)), hc]
       · rfl
 · split <;> omega
 · rw [show n + 1 - 1 = n by omega, if_pos rfl]; split <;> omega
 · split
   · rename_i hz; have := hm4 hz; omega
   · exact h.m5
 · rw [show n + 1 - 1 = n by omega]
   intro k hk
   simp only [if_pos]
   by_cases e : k = m
   · rw [if_pos e, hlast]
     by_cases hz : f.kind = 0
     · exact hz
     · rw [if_neg hz] at hk; omega
   · rw [if_neg e]
     have hkm : k < m := by split at hk <;> omega
     obtain ⟨a1, -⟩ := h.toSch.anc_facts n (n - 1) (by omega) (by omega) k (by omega)
     rw [hkind _ (by omega)]
     exact O1 k hkm
 · rw [show n + 1 - 1 = n by omega]
   intro q hq h1 h2
   simp only [if_pos]
   by_cases e : q = n
   · subst e
     rw [hlast] at h1
     rw [if_pos h1, Nat.add_sub_cancel, if_pos rfl]
   · exfalso
     have hq' : q < n := by omega
     rw [hkind q hq'] at h1
     rw [hA q (by omega), if_neg e] at h2
     by_cases e2 : q = g
     · rw [if_pos e2] at h2; simp at h2
     · rw [if_neg e2] at h2
       exact e2 ((E1 q hq' h1 h2).trans hga)
 · have hrest : (List.range m).map (fun k => ((if n = n then (if k = m then n else anc (n - 1) k) else anc n k : Nat) : Int)) = openL anc n m := by
    refine List.map_congr_left fun k hk => ?_
    have := List.mem_range.1 hk
    rw [if_pos rfl, if_neg (by omega)]
   unfold openL at hrest ⊢
   rw [show n + 1 - 1 = n by omega]
   split
   · rw [List.range_succ, List.map_append, hrest]
     simp
   · exact hrest
theorem MkS.fin (h : MkS F P dep anc m) (hk : 0 < (fAt F (topS F anc m)).kids) (hn : F.length ≤ 14) : FinS F P dep anc where
 toSch := h.toSch
 small := hn
 some := fun i hi h0 => by
  rcases Nat.eq_zero_or_pos (fAt F i).kids with e | e
  · have := h.none i hi h0 e
    unfold topS at hk
    rw [← this] at hk; omega
  · exact e
 last := fun h0 => by
  have hp := h.pos
  have e := h.kids (F.length - 1) (by omega)
  rw [if_pos h0, cntTo_none] at e
  · have := h.none (F.length - 1) (by omega) h0 e
    unfold topS at hk
    rw [← this] at hk; omega
  · intro i h1 h2 h3
    have := (h.par i h1 h2).1
    omega
end
end Go.Proofs.YtebmbkbnngeabaaGreat

set_option linter.unusedSimpArgs false
namespace Go.Proofs.YtebmbkbnngeabaaGreat
open Go.RowKit
set_option linter.unusedVariables false
structure But (g : Nat) (w w' : World) : Prop where
 os : w'.os = w.os
 tape : w'.tape = w.tape
 output : w'.output = w.output
 size : w.heap.size ≤ w'.heap.size
 block : ∀ k, k < w.heap.size → k ≠ g → w'.heap[k]? = w.heap[k]?
theorem But.below {g B : Nat} {w w1 w2 : World} (h : Below B w w1) (k : But g w1 w2) (hg : B ≤ g) (hB : B ≤ w1.heap.size) : Below B w w2 :=
 h.trans ⟨k.os, k.tape, k.output, k.size, fun j hj => k.block j (by omega) (by omega)⟩
theorem But.trans {g : Nat} {a b c : World} (h : But g a b) (k : But g b c) : But g a c :=
 ⟨k.os.trans h.os, k.tape.trans h.tape, k.output.trans h.output, Nat.le_trans h.size k.size, fun j hj hn => (k.block j (Nat.lt_of_lt_of_le hj h.size) hn).trans (h.block j hj hn)⟩
theorem But.refl (g : Nat) (w : World) : But g w w := ⟨rfl, rfl, rfl, Nat.le_refl _, fun _ _ _ => rfl⟩
theorem But.of {g : Nat} {w w' : World} (h : Below w.heap.size w w') : But g w w' := ⟨h.os, h.tape, h.output, h.size, fun j hj _ => h.block j hj⟩
theorem But.cell {g : Nat} {w w' : World} (h : But g w w') {a : Addr} (hb : a.block < w.heap.size) (hn : a.block ≠ g) : w'.cell? a = w.cell? a := by
 unfold World.cell?
 rw [h.block a.block hb hn]
theorem But.cells {g B : Nat} {w w' : World} (h : But g w w') {ao : Option Addr} {n : Nat} {f : Nat → Value} (hB : B ≤ w.heap.size) (hg : B ≤ g) (hc : CellsAt w B ao n f) : CellsAt w' B ao n f := fun i hi =>
 let ⟨b, off, e, hlt, hx⟩ := hc i hi; ⟨b, off, e, hlt, (h.cell (show b < w.heap.size by omega) (show b ≠ g by omega)).trans hx⟩
def Rd (w : World) (g lo : Nat) (l : List Nat) (e : Nat) : Prop :=
 ∃ ao cap, w.heap[g]? = some (.cells #[.slice ao l.length cap, .int .i64 (e : Nat)] 161) ∧ CellsAt w g ao l.length (u8c l) ∧ (ao = none → l.length = 0) ∧ l.length ≤ cap ∧ (0 < l.length → ∀ a, ao = some a → lo ≤ a.block)
theorem Rd.lt {w : World} {g lo : Nat} {l : List Nat} {e : Nat} (h : Rd w g lo l e) : g < w.heap.size := by
 obtain ⟨ao, cap, h, -⟩ := h
 exact (Array.getElem?_eq_some_iff.1 h).1
theorem Rd.below {w w' : World} {g lo B : Nat} {l : List Nat} {e : Nat} (h : Rd w g lo l e) (hb : Below B w w') (hg : g < B) : Rd w' g lo l e := by
 obtain ⟨ao, cap, h1, h2, h3⟩ := h
 refine ⟨ao, cap, (hb.block g hg).trans h1, fun i hi => ?_, h3⟩
 obtain ⟨b, off, e, hlt, hc⟩ := h2 i hi
 exact ⟨b, off, e, hlt, (hb.cell (show b < B by omega)).trans hc⟩
theorem Rd.keep {w w' : World} {g lo : Nat} {l : List Nat} {e : Nat} (h : Rd w g lo l e) (hb : Below w.heap.size w w') : Rd w' g lo l e := h.below hb h.lt
theorem Rd.but {w w' : World} {g lo g' : Nat} {l : List Nat} {e : Nat} (h : Rd w g lo l e) (hb : But g' w w') (hg : g < g' ∨ g' < lo ∧ g' < g) : Rd w' g lo l e := by
 have hlt := h.lt
 obtain ⟨ao, cap, h1, h2, h3, h4, h5⟩ := h
 refine ⟨ao, cap, (hb.block g hlt (by omega)).trans h1, fun i hi => ?_, h3, h4, h5⟩
 obtain ⟨b, off, rfl, hbg, hc⟩ := h2 i hi
 have := h5 (by omega) _ rfl
 simp only at this
 exact ⟨b, off, rfl, hbg, (hb.cell (show b < w.heap.size by omega) (show b ≠ g' by omega)).trans hc⟩
theorem two_cells {w : World} {g T : Nat} {a b : Value} (h : w.heap[g]? = some (.cells #[a, b] T)) :
 w.cell? ⟨g, 0, none⟩ = some a ∧ w.cell? ⟨g, 1, none⟩ = some b ∧ w.frozen? ⟨g, 0, none⟩ = false ∧ w.frozen? ⟨g, 1, none⟩ = false := by
 refine ⟨?_, ?_, ?_, ?_⟩ <;> simp [World.cell?, World.frozen?, h]
theorem two_set0 {w : World} {g T : Nat} {a b : Value} (h : w.heap[g]? = some (.cells #[a, b] T)) (v : Value) : (w.setCell ⟨g, 0, none⟩ v).heap[g]? = some (.cells #[v, b] T) := by
 simp only [World.setCell, Array.getElem?_modify, h]; simp
theorem two_set1 {w : World} {g T : Nat} {a b : Value} (h : w.heap[g]? = some (.cells #[a, b] T)) (v : Value) : (w.setCell ⟨g, 1, none⟩ v).heap[g]? = some (.cells #[a, v] T) := by
 simp only [World.setCell, Array.getElem?_modify, h]; simp
theorem But.setCell {g : Nat} {a w : World} (h : But g a w) (o : Nat) (u : Value) : But g a (w.setCell ⟨g, o, none⟩ u) :=
 h.trans ⟨rfl, rfl, rfl, by simp [World.setCell], fun k hk hn => Below.heap_setCell _ _ _ _ hn⟩
theorem But.drew {g : Nat} {a w : World} (h : But g a w) : But g a w.drew := ⟨h.os, h.tape, h.output, h.size, h.block⟩
def rdFail (l : List Nat) (e c : Nat) : List Nat × Nat := if e = 0 then (if c = 0 then l else [], c) else ([], e)
def rdTake (l : List Nat) (e : Nat) (n : Int) : List Nat × List Nat × Nat :=
 if l.length < n.toNat then ([], rdFail l e 8) else (l.take n.toNat, l.drop n.toNat, e)
def numB : List Nat → Nat
 | [] => 0
 | x :: t => x + 256 * numB t
def rdGet (l : List Nat) (e : Nat) (n : Int) : Nat × List Nat × Nat :=
 let r := rdTake l e (if 8 < n then 0 else n)
 (numB r.1, r.2)
theorem own_butB {w w' : World} {base g : Nat} {e : TypeId} {size : Nat} {v : Value} {n : Nat} {xs : List Value} (h : w.ownsRow base e size v n xs) (hb : But g w w') (hg : g < base) : w'.ownsRow base e size v n xs :=
 ⟨h.1, h.2.imp id fun ⟨b, cap, cur, h1, h2, h3, h4⟩ => ⟨b, cap, cur, h1, h2, (hb.block b (Array.getElem?_eq_some_iff.1 h3).1 (by omega)).trans h3, h4⟩⟩
end Go.Proofs.YtebmbkbnngeabaaGreat

set_option linter.unusedSimpArgs false
namespace Go.Proofs.YtebmbkbnngeabaaGreat
open Go.RowKit Go.BigFrame
set_option linter.unusedVariables false
theorem Tryz.infoU8 : (Tryz.prog.info? 5).map (fun i => (i.zero, i.size, i.bytes)) = some (some (.int .u8 0), 1, 1) := by kernel_rfl
theorem Tryz.infoU64 : (Tryz.prog.info? 61).map (fun i => (i.zero, i.size, i.bytes)) = some (some (.int .u64 0), 1, 8) := by kernel_rfl
theorem sl_u8 : SlT Tryz.prog 24 5 1 1 (.int .u8 0) := ⟨Tryz.underlying24, Tryz.infoU8, rfl, by decide⟩
theorem sl_u64 : SlT Tryz.prog 98 61 1 8 (.int .u64 0) := ⟨Tryz.underlying98, Tryz.infoU64, rfl, by decide⟩
theorem range_u8c (l : List Nat) (n : Nat) (hl : l.length = n) : (List.range n).map (u8c l) = u8v l := by
 refine List.ext_getElem (by simp [u8v, hl]) fun i h1 h2 => ?_
 have hi : i < l.length := by simpa [u8v] using h2
 simp [u8v, u8c, hi]
theorem set_lt {l : List Nat} {j y : Nat} (h : ∀ x ∈ l, x < 256) (hy : y < 256) : ∀ x ∈ l.set j y, x < 256 := by
 intro x hx
 rcases List.mem_or_eq_of_mem_set hx with h1 | rfl
 · exact h x h1
 · exact hy
theorem getD_lt {l : List Nat} (h : ∀ x ∈ l, x < 256) (j : Nat) : l.getD j 0 < 256 := by
 rw [List.getD_eq_getElem?_getD]
 rcases Nat.lt_or_ge j l.length with hj | hj
 · rw [List.getElem?_eq_getElem hj]; exact h _ (List.getElem_mem _)
 · rw [List.getElem?_eq_none hj]; decide
theorem stored_u8 {w : World} {base E g n cap : Nat} {l : List Nat} {x : Int} {y : Nat} (h : w.ownsRow base E 1 (.slice (some ⟨g, 0, none⟩) n cap) n (u8v l)) (j : Nat) (e : x = (y : Nat)) :
 (w.setCell ⟨g, j, none⟩ (.int .u8 x)).ownsRow base E 1 (.slice (some ⟨g, 0, none⟩) n cap) n (u8v (l.set j y)) := by
 subst e
 rw [← u8v_set]
 exact (h.stored j _).1
theorem cell_u8 {w : World} {base E g n cap : Nat} {l : List Nat} (h : w.ownsRow base E 1 (.slice (some ⟨g, 0, none⟩) n cap) n (u8v l)) (j : Nat) (hj : j < n) :
 w.cell? ⟨g, j, none⟩ = some (u8c l j) := by
 have hl : l.length = n := by have := h.1; simpa [u8v_length] using this
 rw [h.cellAt j (by omega), u8v_at l j (by omega)]
theorem cells_one (w : World) (E : TypeId) (x : Value) : CellsAt (w.alloc (.cells #[x] E)) (w.alloc (.cells #[x] E)).heap.size (some ⟨w.heap.size, 0, none⟩) 1 (fun _ => x) :=
 cells_alloc w _ E 1 (fun _ => x) (fun i hi => by (obtain rfl : i = 0 := (by omega)); rfl)
theorem own_shape {w : World} {base E : Nat} {ao : Option Addr} {n cap : Nat} {xs : List Value} (h0 : 0 < n) (h : w.ownsRow base E 1 (.slice ao n cap) n xs) : ∃ g, ao = some ⟨g, 0, none⟩ ∧ base ≤ g := by
 rcases h.2 with ⟨-, h3⟩ | ⟨g, c2, cur, h3, hb, -⟩
 · omega
 · simp only [Value.slice.injEq] at h3
   exact ⟨g, h3.1, hb⟩
theorem u8c_drop (l : List Nat) (m i : Nat) : u8c (l.drop m) i = u8c l (m + i) := by
 simp [u8c, List.getD_eq_getElem?_getD]
theorem u8c_take (l : List Nat) (m i : Nat) (h : i < m) : u8c (l.take m) i = u8c l i := by
 simp [u8c, List.getD_eq_getElem?_getD, h]
theorem drop_cells {w : World} {B : Nat} {ao : Option Addr} {n p m : Nat} {l : List Nat} (h : CellsAt w B ao n (u8c l)) (hp : p + m ≤ n) : CellsAt w B (ao.map (·.add p)) m (u8c ((l.drop p).take m)) := by
 intro i hi
 obtain ⟨b, off, rfl, hb, hc⟩ := h (p + i) (by omega)
 refine ⟨b, off + p, by simp [Addr.add_lit], hb, ?_⟩
 rw [u8c_take _ _ _ hi, u8c_drop, ← hc, Nat.add_assoc]
theorem own_drewN {w : World} {base : Nat} {e : TypeId} {size : Nat} {v : Value} {n : Nat} {xs : List Value} (h : w.ownsRow base e size v n xs) (k : Nat) : (w.drewN k).ownsRow base e size v n xs := by
 refine ⟨h.1, h.2.imp id fun ⟨g, cap, cur, h1, h2, h3, h4⟩ => ⟨g, cap, cur, h1, h2, ?_, h4⟩⟩
 rw [← h3]; rfl
set_option maxRecDepth 100000 in
theorem slice_lh (a : Option Addr) (len cap p n : Nat) (hcap : p + n ≤ cap) :
 ∃ ao', (n = 0 ∨ ao' = a.map (·.add p)) ∧ ∀ w : World, (Instr.sliceAt 24 (.slice a len cap) (some (.int .i64 (p : Nat))) (some (.int .i64 ((p : Int) + (n : Int)))) none).run Tryz.prog w = .ok (.slice ao' n (cap - p)) w := by
 refine ⟨if cap = p then a else a.map (·.add (p * 1)), ?_, fun w => ?_⟩
 · by_cases h : cap = p
   · exact .inl (by omega)
   · rw [if_neg h, Nat.mul_one]; exact .inr rfl
 · have e : ((p : Int) + (n : Int)).toNat = p + n := by omega
   have h := run_slice_lh (P := Tryz.prog) (w := w) 24 a len cap Tryz.underlying24 .i64 .i64 (p : Int) ((p : Int) + (n : Int)) (by omega) (by omega) (by omega)
   rw [run_sliceAt_slice (P := Tryz.prog) w _ _ _ _ _ Tryz.underlying24, h, e, Int.toNat_natCast]
   have hs : (sizeOf (Tryz.prog.elem 24)).run Tryz.prog w = .ok 1 w := by kernel_rfl
   rw [hs]
   simp [Result.andThen, sliced, Nat.add_sub_cancel_left]
set_option maxRecDepth 100000 in
theorem slice_from (a : Option Addr) (len cap p : Nat) (hp : p ≤ len) (hcap : len ≤ cap) :
 ∃ ao', (len - p = 0 ∨ ao' = a.map (·.add p)) ∧ ∀ w : World, (Instr.sliceAt 24 (.slice a len cap) (some (.int .i64 (p : Nat))) none none).run Tryz.prog w = .ok (.slice ao' (len - p) (cap - p)) w := by
 refine ⟨if cap = p then a else a.map (·.add (p * 1)), ?_, fun w => ?_⟩
 · by_cases h : cap = p
   · exact .inl (by omega)
   · rw [if_neg h, Nat.mul_one]; exact .inr rfl
 · have h := run_slice_l (P := Tryz.prog) (w := w) 24 a len cap Tryz.underlying24 .i64 (p : Int) (by omega) (by omega)
   rw [run_sliceAt_slice (P := Tryz.prog) w _ _ _ _ _ Tryz.underlying24, h, Int.toNat_natCast]
   have hs : (sizeOf (Tryz.prog.elem 24)).run Tryz.prog w = .ok 1 w := by kernel_rfl
   rw [hs]
   simp [Result.andThen, sliced]
end Go.Proofs.YtebmbkbnngeabaaGreat

set_option linter.unusedVariables false
set_option linter.unusedSimpArgs false
namespace Go.Proofs.YtebmbkbnngeabaaGreat
open Go.RowKit
def Grows (w w' : World) : Prop := Below w.heap.size w w'
theorem Grows.refl (w : World) : Grows w w := Below.refl _ _
theorem Grows.trans {a b c : World} (h : Grows a b) (k : Grows b c) : Grows a c := bmore h k
theorem Grows.alloc {w w' : World} (h : Grows w w') (o : Obj) : Grows w (w'.alloc o) := balloc h o
theorem Grows.drew {w w' : World} (h : Grows w w') : Grows w w'.drew := Below.drew h
theorem Grows.toDrew {w w' : World} (h : Grows w.drew w') : Grows w w' := ⟨h.os, h.tape, h.output, h.size, h.block⟩
theorem Grows.cell {w w' : World} (h : Grows w w') {a : Addr} {v : Value} (hc : w.cell? a = some v) : w'.cell? a = some v :=
 (Below.cell h (World.block_lt_of_cell? w a hc)).trans hc
theorem Grows.cells {w w' : World} (h : Grows w w') {ao : Option Addr} {n : Nat} {f : Nat → Value} (hc : CellsAt w w.heap.size ao n f) : CellsAt w' w'.heap.size ao n f := hc.at h
section
variable {P : Program} {ops : Array Oper} {md : Region.Mode} {Q : Exit → Act → World → Prop}
def wpAnyG (P : Program) (md : Region.Mode) (ops : Array Oper) (Q : Exit → Act → World → Prop) : Nat → Array Bool → Act → World → Prop
 | 0, listed, a, w => Region.ready md ops listed = [] ∧ Q .normal a w
 | n + 1, listed, a, w => (Region.ready md ops listed = [] → Q .normal a w) ∧
  ∀ i ∈ Region.ready md ops listed, wpOp P ops Q i (fun a' w' => Grows w w' ∧ wpAnyG P md ops Q n (listed.setIfInBounds i true) a' w') a w
theorem wpAny_of_G : ∀ (n : Nat) (listed : Array Bool) (a : Act) (w : World), wpAnyG P md ops Q n listed a w → wpAny P md ops Q n listed a w
 | 0, _, _, _, h => h
 | n + 1, _, _, _, h => ⟨h.1, fun i hi => wpOp_mono (fun a' w' hh => wpAny_of_G n _ a' w' hh.2) (h.2 i hi)⟩
def Steady (P : Program) (ops : Array Oper) (o : Oper) (v : Value) (a : Act) (w : World) : Prop :=
 (Region.wanted o (yielded ops a.tmps) = true ∧ ∀ w', Grows w w' → o.quietAt P a (fun x => x = w') w' v) ∨
 (Region.wanted o (yielded ops a.tmps) = false ∧ v = undef)
theorem Steady.grow {o : Oper} {v : Value} {a a' : Act} {w w' : World} (h : Steady P ops o v a w) (hg : Grows w w') (he : execOp a'.eval o = execOp a.eval o)
 (hw : Region.wanted o (yielded ops a'.tmps) = Region.wanted o (yielded ops a.tmps)) : Steady P ops o v a' w' := by
 unfold Steady Oper.quietAt at *
 rw [he, hw]
 exact h.imp (fun x => ⟨x.1, fun w2 h2 => x.2 w2 (hg.trans h2)⟩) id
theorem Steady.wpOp {i : Nat} {o : Oper} {v : Value} {a : Act} {w : World} (hi : ops[i]? = some o) (hy : Steady P ops o v a w) {K : Act → World → Prop} (h : K (a.put o.dst v) w) : wpOp P ops Q i K a w := by
 unfold Go.wpOp
 simp only [hi]
 rcases hy with ⟨hw, hv⟩ | ⟨hw, rfl⟩
 · rw [if_pos hw]
   exact .inl (Oper.wp_of_quiet (C := fun x => x = w) (K := fun a' => K a' w) rfl (fun a' w' e k => by subst e; exact k) ⟨v, fun x hx => by subst hx; exact hv x (Grows.refl x), h⟩)
 · rw [if_neg (by rw [hw]; exact Bool.false_ne_true)]
   exact h
theorem wpOp_swap {j : Nat} {oi oj : Oper} {v : Value} (hj : ops[j]? = some oj) (hap : oi.apart ops oj = true) (hsi : ∀ cs b, oi.op ≠ .select cs b) (hsj : ∀ cs b, oj.op ≠ .select cs b)
 (hQ : ∀ c a w, Q (.panic c) (a.put oi.dst v) w → Q (.panic c) a w) {K : Act → World → Prop} {a : Act} {w : World} (h : wpOp P ops Q j K (a.put oi.dst v) w) :
 wpOp P ops Q j (fun a' w' => (execOp a'.eval oi = execOp a.eval oi ∧ Region.wanted oi (yielded ops a'.tmps) = Region.wanted oi (yielded ops a.tmps)) ∧ K (a'.put oi.dst v) w') a w := by
 obtain ⟨h1, h2, h3⟩ := Oper.apart_spec hap
 have hput : ∀ (b : Act) (u : Value), execOp (b.put oj.dst u).eval oi = execOp b.eval oi ∧ Region.wanted oi (yielded ops (b.put oj.dst u).tmps) = Region.wanted oi (yielded ops b.tmps) :=
  fun b u => ⟨execOp_put oi hsi b oj.dst u h3, wanted_put oi b oj.dst u h3⟩
 have hex := execOp_put oj hsj a oi.dst v h1
 have hwa := wanted_put (ops := ops) oj a oi.dst v h1
 unfold wpOp at h ⊢
 rw [hj] at h ⊢
 simp only [] at h ⊢
 rw [hwa] at h
 by_cases hw : Region.wanted oj (yielded ops a.tmps) = true
 · rw [if_pos hw] at h ⊢
   rcases h with h | ⟨hk, hl⟩
   · refine .inl ?_
     unfold Oper.wp at h ⊢
     rw [hex] at h
     revert h
     generalize (execOp a.eval oj).run P w = r
     intro h
     cases r with
     | halt x w' => cases x <;> first | exact h | exact hQ _ _ _ h
     | ok x w' =>
      cases x with
      | value u => exact ⟨hput a u, by rw [← Act.put_comm a v u h2]; exact h⟩
      | skip => exact ⟨hput a _, by rw [← Act.put_comm a v undef h2]; exact h⟩
      | defer d =>
       refine ⟨hput _ _, ?_⟩
       have h' : K (({ a.put oi.dst v with defers := d :: (a.put oi.dst v).defers } : Act).put oj.dst undef) w' := h
       rw [Act.put_defers, Act.put_comm _ v undef h2] at h'
       exact h'
      | enter f args =>
       refine Calls.mono (show Calls P f args w' _ from h) fun e w2 he => ?_
       cases e with
       | returned u => exact ⟨hput a u, by rw [← Act.put_comm a v u h2]; exact he⟩
       | panicked c => exact hQ _ _ _ he
       | outgrown => exact he
      | row r args => exact Rows.mono (show Rows P r args w' _ from h) fun u w2 he => ⟨hput a u, by rw [← Act.put_comm a v u h2]; exact he⟩
      | _ => exact (show False from h).elim
   · exact .inr ⟨by unfold Oper.asks at hk ⊢; rwa [hex] at hk, hl⟩
 · rw [if_neg hw] at h ⊢
   exact ⟨hput a _, by rw [← Act.put_comm a v undef h2]; exact h⟩
theorem wpAnyG_first {i : Nat} {oi : Oper} {v : Value} (hi : ops[i]? = some oi) (hsel : ∀ (j : Nat) (o : Oper) cs b, ops[j]? = some o → o.op ≠ .select cs b)
 (hQ : ∀ c a w, Q (.panic c) (a.put oi.dst v) w → Q (.panic c) a w) :
 ∀ (n : Nat) (listed : Array Bool) (a : Act) (w : World),
  (∀ j oj, ops[j]? = some oj → j ≠ i → listed.getD j true = false → (∀ e ∈ oj.after, Region.binds md e = true → e.on ≠ i) → oi.apart ops oj = true) →
  i ∈ Region.ready md ops listed → Steady P ops oi v a w →
  wpAnyG P md ops Q n (listed.setIfInBounds i true) (a.put oi.dst v) w → wpAnyG P md ops Q (n + 1) listed a w := by
 intro n
 induction n with
 | zero =>
  intro listed a w _ hr hy H
  refine ⟨fun h => absurd hr (by rw [h]; exact List.not_mem_nil), fun j hj => ?_⟩
  by_cases hji : j = i
  · subst hji; exact hy.wpOp hi ⟨Grows.refl _, H⟩
  · have := ready_mono hj hji
    rw [H.1] at this
    exact absurd this List.not_mem_nil
 | succ n ih =>
  intro listed a w hfree hr hy H
  refine ⟨fun h => absurd hr (by rw [h]; exact List.not_mem_nil), fun j hj => ?_⟩
  by_cases hji : j = i
  · subst hji; exact hy.wpOp hi ⟨Grows.refl _, H⟩
  · have hjin := ready_mono hj hji
    obtain ⟨hun, oj, hoj, hall⟩ := mem_ready.1 hj
    have hiun := (mem_ready.1 hr).1
    have hno : ∀ e ∈ oj.after, Region.binds md e = true → e.on ≠ i := by
     intro e he hb heq
     have hx := hall e he hb
     rw [heq] at hx
     rcases Nat.lt_or_ge i listed.size with hlt | hge
     · simp [hlt] at hiun hx; rw [hiun] at hx; exact absurd hx Bool.false_ne_true
     · simp [Array.getElem?_eq_none hge] at hx
    have hs := wpOp_swap hoj (hfree j oj hoj hji hun hno) (fun cs b => hsel i oi cs b hi) (fun cs b => hsel j oj cs b hoj) hQ (H.2 j hjin)
    refine wpOp_mono (fun a' w' hh => ⟨hh.2.1, ?_⟩) hs
    refine ih (listed.setIfInBounds j true) a' w' (fun k ok hk hki hku hkn => hfree k ok hk hki ?_ hkn) (ready_mono hr (Ne.symm hji)) (hy.grow hh.2.1 hh.1.1 hh.1.2) ?_
    · by_cases hjk : j = k
      · subst hjk; exact hun
      · rwa [getD_set_ne true hjk] at hku
    · rw [Array.setIfInBounds_comm _ _ hji]
      exact hh.2.2
def wpLin (P : Program) (ops : Array Oper) (Q : Exit → Act → World → Prop) : List (Nat × Bool) → Act → World → Prop
 | [], a, w => Q .normal a w
 | (i, true) :: rest, a, w => ∃ o, ops[i]? = some o ∧ ∃ v, Steady P ops o v a w ∧ wpLin P ops Q rest (a.put o.dst v) w
 | (i, false) :: rest, a, w => ∃ o, ops[i]? = some o ∧ if Region.wanted o (yielded ops a.tmps) = true then o.wp P a w (fun a' w' => Grows w w' ∧ wpLin P ops Q rest a' w') Q else wpLin P ops Q rest (a.put o.dst undef) w
def linFrom (md : Region.Mode) (ops : Array Oper) : List (Nat × Bool) → Array Bool → Bool
 | [], listed => (Region.ready md ops listed).isEmpty
 | (k, true) :: fl, listed => (Region.ready md ops listed).contains k && Region.free md ops listed k && linFrom md ops fl (listed.setIfInBounds k true)
 | (k, false) :: fl, listed => (Region.ready md ops listed == [k]) && linFrom md ops fl (listed.setIfInBounds k true)
theorem wpAnyG_lin (hs : Region.noSelect ops = true) (hQ : ∀ (d : Option Tmp) (v : Value), ∀ c a w, Q (.panic c) (a.put d v) w → Q (.panic c) a w) :
 ∀ (l : List (Nat × Bool)) (listed : Array Bool) (a : Act) (w : World), linFrom md ops l listed = true → wpLin P ops Q l a w → wpAnyG P md ops Q l.length listed a w
 | [], _, _, _, hB, h => ⟨by simpa [linFrom] using hB, h⟩
 | (k, true) :: l, listed, a, w, hB, h => by
  obtain ⟨o, h0, v, hy, hK⟩ := h
  simp only [linFrom, Bool.and_eq_true] at hB
  obtain ⟨⟨hr, hf⟩, hB'⟩ := hB
  exact wpAnyG_first h0 (Region.noSelect_spec hs) (hQ o.dst v) l.length listed a w (Region.free_spec h0 hf) (by simpa using hr) hy
   (wpAnyG_lin hs hQ l _ _ _ hB' hK)
 | (k, false) :: l, listed, a, w, hB, h => by
  obtain ⟨o, h0, h⟩ := h
  simp only [linFrom, Bool.and_eq_true, beq_iff_eq] at hB
  obtain ⟨hr, hB'⟩ := hB
  refine ⟨fun hx => by rw [hr] at hx; exact absurd hx (List.cons_ne_nil _ _), fun i hi => ?_⟩
  rw [hr, List.mem_singleton] at hi
  subst hi
  have hrest : ∀ a' w', wpLin P ops Q l a' w' → wpAnyG P md ops Q l.length (listed.setIfInBounds i true) a' w' := fun a' w' hh => wpAnyG_lin hs hQ l _ _ _ hB' hh
  unfold wpOp
  rw [h0]
  simp only []
  split
  · rename_i hw
    rw [if_pos hw] at h
    exact .inl (Oper.wp_mono (fun a' w' hh => ⟨hh.1, hrest a' w' hh.2⟩) h)
  · rename_i hw
    rw [if_neg hw] at h
    exact ⟨Grows.refl _, hrest _ _ h⟩
theorem wp_region_lin {id : Nat} {a : Act} {w : World} {l : List Oper} (fl : List (Nat × Bool)) (hm : P.follows .mixedOrders = true) (hB : (Region.noSelect l.toArray && (l.length == fl.length) && linFrom .any l.toArray fl (Array.replicate l.length false)) = true)
 (hQ : ∀ (d : Option Tmp) (v : Value), ∀ c a w, Q (.panic c) (a.put d v) w → Q (.panic c) a w)
 (h : wpLin P l.toArray Q fl a w.drew) : (Code.region id l.toArray true).wp P Q a w := by
 simp only [Bool.and_eq_true, beq_iff_eq] at hB
 obtain ⟨⟨hs, hlen⟩, hB⟩ := hB
 refine wp_region_any hm ?_
 have key := wpAny_of_G _ _ _ _ (wpAnyG_lin (md := .any) hs hQ fl (Array.replicate l.length false) a w.drew hB h)
 rw [← hlen] at key
 simpa using key
theorem wpLin_nil {a : Act} {w : World} (h : Q .normal a w) : wpLin P ops Q [] a w := h
theorem wpLin_take {i : Nat} {o : Oper} {rest : List (Nat × Bool)} {a : Act} {w : World} {v : Value} (hi : ops[i]? = some o) (hw : Region.wanted o (yielded ops a.tmps) = true) (hv : ∀ w', Grows w w' → o.quietAt P a (fun x => x = w') w' v)
 (h : ∀ K : Act → Prop, (∀ a, wpLin P ops Q rest a w → K a) → K (a.put o.dst v)) : wpLin P ops Q ((i, true) :: rest) a w :=
 ⟨o, hi, v, .inl ⟨hw, hv⟩, h (fun a => wpLin P ops Q rest a w) (fun _ h => h)⟩
theorem wpLin_skip {i : Nat} {o : Oper} {rest : List (Nat × Bool)} {a : Act} {w : World} (hi : ops[i]? = some o) (hw : Region.wanted o (yielded ops a.tmps) = false)
 (h : ∀ K : Act → Prop, (∀ a, wpLin P ops Q rest a w → K a) → K (a.put o.dst undef)) : wpLin P ops Q ((i, true) :: rest) a w :=
 ⟨o, hi, undef, .inr ⟨hw, rfl⟩, h (fun a => wpLin P ops Q rest a w) (fun _ h => h)⟩
theorem wpLin_do {i : Nat} {o : Oper} {rest : List (Nat × Bool)} {a : Act} {w : World} (hi : ops[i]? = some o)
 (h : ∀ K : Act → World → Prop, (∀ a w', Grows w w' → wpLin P ops Q rest a w' → K a w') → if Region.wanted o (yielded ops a.tmps) = true then o.wp P a w K Q else K (a.put o.dst undef) w) :
 wpLin P ops Q ((i, false) :: rest) a w := by
 have := h (fun a' w' => Grows w w' ∧ wpLin P ops Q rest a' w') (fun _ _ h1 h2 => ⟨h1, h2⟩)
 refine ⟨o, hi, ?_⟩
 split
 · rename_i hw; rwa [if_pos hw] at this
 · rename_i hw; rw [if_neg hw] at this; exact this.2
end
end Go.Proofs.YtebmbkbnngeabaaGreat

set_option linter.unusedSimpArgs false
namespace Go.Proofs.YtebmbkbnngeabaaGreat
open Go.RowKit
set_option linter.unusedVariables false
def GaveFresh (w : World) (E : TypeId) (xs : List Value) (e : Ending) (w' : World) : Prop := ∃ v, e = .returned v ∧ Fresh w w' E v xs
set_option maxHeartbeats 400000 in
theorem halved_any (a b : Int) (w : World) (hb : 0 ≤ b) (hb2 : b < 64) :
 Calls Tryz.prog 79 #[.int .u64 a, .int .i64 b] w fun e w' => e = .returned (.int .u64 (a / 2^b.toNat)) ∧ w = w' := by
 go_enter Tryz.func79, Tryz.ntmps79
 go_wp2
 go_ret
 exact ⟨rfl, rfl⟩
theorem halved_n (a b : Nat) (w : World) (hb2 : b < 64) :
 Calls Tryz.prog 79 #[.int .u64 a, .int .i64 b] w fun e w' => e = .returned (.int .u64 ((a >>> b : Nat) : Int)) ∧ w = w' :=
 (halved_any a b w (by omega) (by omega)).mono (by rintro e w' ⟨rfl, rfl⟩; exact ⟨by simp [Nat.shiftRight_eq_div_pow], rfl⟩)
set_option maxHeartbeats 400000 in
theorem size_any (a b : Int) (w : World) (ha : 0 ≤ a) (ha2 : a ≤ 100000000) (hb : 0 ≤ b) (hb2 : b ≤ 64) (hab : 0 ≤ a * b) (hab2 : a * b ≤ 6400000000) :
 Calls Tryz.prog 106 #[.int .i64 a, .int .i64 b] w fun e w' => e = .returned (.int .i64 ((a*b+7)/8)) ∧ w = w' := by
 go_enter Tryz.func106, Tryz.ntmps106
 go_wp2
 go_ret
 refine ⟨?_, rfl⟩
 show Ending.returned (.int .i64 _) = _
 rw [show a * b + 8 - 1 = a * b + 7 by omega]
theorem mul_le_64 {n wd : Nat} (hn : n ≤ 100000000) (hw : wd ≤ 64) : n * wd ≤ 6400000000 := by
 have := Nat.mul_le_mul hn hw; omega
theorem packSize_cast (n wd : Nat) : ((packSize n wd : Nat) : Int) = ((n : Int) * wd + 7) / 8 := by unfold packSize; simp
theorem size_n (n wd N : Nat) (w : World) (hn : n ≤ 100000000) (hw : wd ≤ 64) (hN : Hid (N = packSize n wd)) :
 Calls Tryz.prog 106 #[.int .i64 n, .int .i64 wd] w fun e w' => e = .returned (.int .i64 N) ∧ w = w' := by
 have h1 := mul_le_64 hn hw
 refine (size_any n wd w (by omega) (by omega) (by omega) (by omega) ?_ ?_).mono ?_
 · have h : (0 : Int) ≤ ((n * wd : Nat) : Int) := Int.natCast_nonneg _
   rwa [Int.natCast_mul] at h
 · have h : ((n * wd : Nat) : Int) ≤ 6400000000 := by omega
   rwa [Int.natCast_mul] at h
 · rintro e w' ⟨rfl, rfl⟩
   rw [hN.out, packSize_cast]; exact ⟨rfl, rfl⟩
theorem packSize_le {n wd : Nat} (hn : n ≤ 100000000) (hw : wd ≤ 64) : packSize n wd ≤ 800000001 := by
 have := mul_le_64 hn hw; unfold packSize; omega
theorem madeU8 (N : Nat) : (madeCells #[Value.int .u8 0] N).toList = u8v (List.replicate N 0) := by
 refine List.ext_getElem (by simp [madeCells, u8v]) fun i h1 h2 => ?_
 simp [madeCells, u8v, Nat.mod_one]
end Go.Proofs.YtebmbkbnngeabaaGreat

set_option linter.unusedSimpArgs false
namespace Go.Proofs.YtebmbkbnngeabaaGreat
open Go.RowKit
set_option linter.unusedVariables false
set_option maxHeartbeats 400000 in
theorem rsize_any (a b : Int) (w : World) (ha : 0 ≤ a) (ha2 : a ≤ 100000000) (hb : 0 ≤ b) (hb2 : b ≤ 64) (hab : 0 ≤ a * b) (hab2 : a * b ≤ 6400000000) :
 Calls Tryz.prog 74 #[.int .i64 a, .int .i64 b] w fun e w' => e = .returned (.int .i64 ((a*b+7)/8)) ∧ w = w' := by
 go_enter Tryz.func74, Tryz.ntmps74
 go_wp2
 go_ret
 exact ⟨rfl, rfl⟩
theorem rsize_n (n wd N : Nat) (w : World) (hn : n ≤ 100000000) (hw : wd ≤ 64) (hN : Hid (N = packSize n wd)) :
 Calls Tryz.prog 74 #[.int .i64 n, .int .i64 wd] w fun e w' => e = .returned (.int .i64 N) ∧ w = w' := by
 have h1 := mul_le_64 hn hw
 refine (rsize_any n wd w (by omega) (by omega) (by omega) (by omega) ?_ ?_).mono ?_
 · have h : (0 : Int) ≤ ((n * wd : Nat) : Int) := Int.natCast_nonneg _
   rwa [Int.natCast_mul] at h
 · have h : ((n * wd : Nat) : Int) ≤ 6400000000 := by omega
   rwa [Int.natCast_mul] at h
 · rintro e w' ⟨rfl, rfl⟩
   rw [hN.out, packSize_cast]; exact ⟨rfl, rfl⟩
set_option maxHeartbeats 1000000 in
set_option maxRecDepth 100000 in
theorem rpack_in (ao : Option Addr) (n cap wd : Nat) (l : List Nat) (w : World) (hl : l.length = n) (hn : n ≤ 100000000) (hw : wd ≤ 64) (hb : ∀ x ∈ l, x < 18446744073709551616)
 (hc : CellsAt w w.heap.size ao n (u64c l)) :
 Calls Tryz.prog 47 #[.slice ao n cap, .int .i64 wd] w (GaveFresh w 5 (u8v (packed l wd))) := by
 have Hl := Lib.hid hl; clear hl
 have Hb := Lib.hid hb; clear hb
 obtain ⟨N, hN⟩ : ∃ N, Hid (N = packSize n wd) := ⟨_, Lib.hid rfl⟩
 have hN2 : N ≤ 800000001 := by rw [hN.out]; exact packSize_le hn hw
 have hmul : n * wd ≤ 6400000000 := mul_le_64 hn hw
 obtain ⟨g, hg⟩ : ∃ g, Hid (g = bitAt l wd) := ⟨_, Lib.hid rfl⟩
 have hpk : Hid (packed l wd = packTo g N (n * wd)) := Lib.hid (by rw [packed, Hl.out, hN.out, hg.out])
 obtain ⟨i0, hi, hz0, hz1, hz2⟩ := info_parts Tryz.infoU8
 go_enter Tryz.func47, Tryz.ntmps47
 go_wp2_with (first
  | (go_at_call 74; refine (rsize_n n wd N _ hn hw hN).mono ?_; rintro e w' ⟨rfl, rfl⟩)
  | (at_make; refine wpList_make_full _ rfl _ _ 24 rfl w.heap.size 5 i0 (.int .u8 0) 1 Tryz.underlying24 hi hz0 hz1 _ _ _ _ N rfl rfl rfl rfl ?b2 ?b3 (Nat.le_refl _) ?_))
 case b2 => rw [hz2]; omega
 case b3 => unfold maxLen; omega
 intro w0 hown0 hgrow0
 rw [madeU8] at hown0
 go_wp2
 go_loopw [6, 7] (fun at_ i wr => ∃ k t : Nat, k ≤ n ∧ Hid (t = k * wd) ∧ i = .int .i64 k ∧ at_ = .int .i64 t ∧ wr.ownsRow w.heap.size 5 1 (.slice (some ⟨w.heap.size, 0, none⟩) N N) N (u8v (packTo g N t)) ∧ Below w.heap.size w wr)
  (fun _ i _ => n - (intOf i).toNat)
 case atStart => exact ⟨0, 0, by omega, Lib.hid (by omega), rfl, rfl, by rw [packTo_zero]; simpa using hown0, (Below.refl _ _).grown hgrow0 (Nat.le_refl _) (fun k h => by cases h)⟩
 case round =>
  obtain ⟨k, t, hk, ht, rfl, rfl, hown, hnx⟩ := hrel
  by_cases hkn : k < n
  · obtain ⟨b, off, hao, hb, hlc⟩ := hc k hkn
    subst hao
    clear hc
    obtain ⟨v, hv⟩ : ∃ v, v = l.getD k 0 := ⟨_, rfl⟩
    rw [u64c, ← hv] at hlc
    have Hv := Lib.hid hv; clear hv
    have hv64 : v < 18446744073709551616 := by
     rw [Hv.out, List.getD_eq_getElem?_getD, List.getElem?_eq_getElem (by rw [Hl.out]; exact hkn)]
     exact Hb.out _ (List.getElem_mem _)
    go_wp2
    go_loopw [6, 8] (fun at_ i wr => ∃ m t : Nat, m ≤ wd ∧ Hid (t = k * wd + m) ∧ i = .int .i64 m ∧ at_ = .int .i64 t ∧ wr.ownsRow w.heap.size 5 1 (.slice (some ⟨w.heap.size, 0, none⟩) N N) N (u8v (packTo g N t)) ∧ Below w.heap.size w wr)
     (fun _ i _ => wd - (intOf i).toNat)
    case atStart => exact ⟨0, t, by omega, ht, rfl, rfl, hown, hnx⟩
    case round =>
     clear hown hnx ht
     obtain ⟨m, t, hm, ht, rfl, rfl, hown, hnx⟩ := hrel
     by_cases hmw : m < wd
     · have htl : t < n * wd := by
        rw [ht.out]
        have : (k + 1) * wd ≤ n * wd := Nat.mul_le_mul_right _ hkn
        rw [Nat.add_mul] at this; omega
       have htn : t / 8 < N := by rw [hN.out]; unfold packSize; omega
       have ht2 : t ≤ 6400000000 := by omega
       obtain ⟨old, hold⟩ : ∃ old, Hid (old = (packTo g N t).getD (t / 8) 0) := ⟨_, Lib.hid rfl⟩
       have hcell : wr.cell? ⟨w.heap.size, t / 8, none⟩ = some (.int .u8 (old : Nat)) := by rw [hold.out]; exact cell_u8 hown _ htn
       have hcell1 := (hnx.cell (by exact hb)).trans hlc
       have hfr := hown.frozenAt (t / 8)
       clear hmul htl
       have hgt : Hid (v.testBit m = g t) := Lib.hid (by rw [hg.out, ht.out, bitAt_at l wd k m hmw, Hv.out])
       go_wp2
       · go_roundw
         case rel =>
          have htb : v.testBit m = true := by rw [← rpack_test v m hv64]; assumption
          have hst := rpack_store old (t % 8) (by rw [hold.out]; exact packTo_getD_lt _ _ _ _) (by omega)
          refine ⟨m + 1, t + 1, by omega, Lib.hid (by rw [ht.out]; omega), by go_num, by go_num, ?_, hnx.setCell (by simp) _⟩
          have hs := stored_u8 hown (t / 8) hst
          have hps := packTo_succ g N t htn
          rw [← hold.out, ← hgt.out, htb] at hps
          rw [hps] at hs
          exact hs
         case measure => simp [intOf]; omega
       · go_roundw
         case rel =>
          have htb : v.testBit m = false := by rw [← rpack_test v m hv64]; assumption
          refine ⟨m + 1, t + 1, by omega, Lib.hid (by rw [ht.out]; omega), by go_num, by go_num, ?_, hnx⟩
          rw [← packTo_skip g N t (by rw [← hgt.out]; exact htb)]
          exact hown
         case measure => simp [intOf]; omega
     · go_wp2
       go_roundw
       case rel => exact ⟨k + 1, t, by omega, Lib.hid (by rw [ht.out, Nat.add_mul]; omega), by go_num, rfl, hown, hnx⟩
       case measure => simp [intOf]; omega
  · go_wp2
    go_ret
    obtain rfl : k = n := by omega
    have hx : t = k * wd := ht.out
    refine ⟨_, rfl, ?_, hnx⟩
    rw [hpk.out, u8v_length, packTo_length, ← hx]
    exact hown
end Go.Proofs.YtebmbkbnngeabaaGreat

set_option linter.unusedSimpArgs false
namespace Go.Proofs.YtebmbkbnngeabaaGreat
open Go.RowKit
set_option linter.unusedVariables false
def packedAny (l : List Nat) (width : Int) : List Nat := if 0 ≤ width ∧ width ≤ 64 then packed l width.toNat else []
theorem fresh_nil (w : World) (E : TypeId) : Fresh w w E (.slice none 0 0) [] := ⟨World.ownsRow_nil _ _ _ _, Below.refl _ _⟩
theorem gave_nil (w : World) (E : TypeId) : GaveFresh w E [] (.returned (.slice none 0 0)) w := ⟨_, rfl, fresh_nil _ _⟩
set_option maxHeartbeats 400000 in
theorem rpack_out (ao : Option Addr) (n cap : Nat) (width : Int) (w : World) (hw : width < 0 ∨ 64 < width) :
 Calls Tryz.prog 47 #[.slice ao n cap, .int .i64 width] w (GaveFresh w 5 (u8v [])) := by
 rcases hw with hw | hw
 · go_enter Tryz.func47, Tryz.ntmps47
   go_wp2
   go_ret
   exact gave_nil _ _
 · go_enter Tryz.func47, Tryz.ntmps47
   have h0 : ¬ width < 0 := by omega
   go_wp2
   go_ret
   exact gave_nil _ _
theorem rpack_any (ao : Option Addr) (n cap : Nat) (width : Int) (l : List Nat) (w : World) (hl : l.length = n) (hn : n ≤ 100000000) (hb : ∀ x ∈ l, x < 18446744073709551616)
 (hc : CellsAt w w.heap.size ao n (u64c l)) :
 Calls Tryz.prog 47 #[.slice ao n cap, .int .i64 width] w (GaveFresh w 5 (u8v (packedAny l width))) := by
 unfold packedAny
 by_cases h : 0 ≤ width ∧ width ≤ 64
 · rw [if_pos h]
   have := rpack_in ao n cap width.toNat l w hl hn (by omega) hb hc
   rwa [Int.toNat_of_nonneg h.1] at this
 · rw [if_neg h]; exact rpack_out ao n cap width w (by omega)
end Go.Proofs.YtebmbkbnngeabaaGreat

set_option linter.unusedSimpArgs false
namespace Go.Proofs.YtebmbkbnngeabaaGreat
open Go.RowKit
set_option linter.unusedVariables false
set_option maxHeartbeats 400000 in
theorem halved8_n (a b : Nat) (w : World) (hb2 : b < 8) :
 Calls Tryz.prog 111 #[.int .u8 a, .int .i64 b] w fun e w' => e = .returned (.int .u8 ((a >>> b : Nat) : Int)) ∧ w = w' := by
 have e : ((a >>> b : Nat) : Int) = (a : Int) / 2 ^ b := by simp [Nat.shiftRight_eq_div_pow]
 rw [e]
 go_enter Tryz.func111, Tryz.ntmps111
 go_wp2
 go_ret
 exact ⟨rfl, rfl⟩
theorem bit_and (v m : Nat) (hv : v < 256) : bits .and .u8 ((v >>> m : Nat) : Int) 1 = ((v.testBit m).toNat : Nat) := by
 have h : v >>> m < 256 := Nat.lt_of_le_of_lt (Nat.shiftRight_le v m) hv
 exact (bits_and_u8 (v >>> m) 1 h (by decide)).trans (by rw [and_one_testBit])
set_option maxHeartbeats 400000 in
theorem bit_n (ao : Option Addr) (n cap p : Nat) (b : List Nat) (w : World) (hb : ∀ x ∈ b, x < 256) (hl : b.length = n) (hp : p < 8 * n) (hp2 : p ≤ 100000000) (hc : CellsAt w w.heap.size ao n (u8c b)) :
 Calls Tryz.prog 107 #[.slice ao n cap, .int .i64 p] w fun e w' => e = .returned (.int .u8 ((bitOf b p).toNat : Nat)) ∧ w = w' := by
 obtain ⟨bl, off, rfl, -, hcell⟩ := hc (p / 8) (by omega)
 obtain ⟨v, hv⟩ : ∃ v, v = b.getD (p / 8) 0 := ⟨_, rfl⟩
 have hv256 : v < 256 := by
  rw [hv, List.getD_eq_getElem?_getD, List.getElem?_eq_getElem (by omega)]
  exact hb _ (List.getElem_mem _)
 rw [u8c, ← hv] at hcell
 have hres : (bitOf b p) = v.testBit (p % 8) := by rw [hv]; rfl
 rw [hres]
 have hand := bit_and v (p % 8) hv256
 have Hl := Lib.hid hl; clear hl hv hc hres
 have e1 : ((p : Int) % 8) = ((p % 8 : Nat) : Int) := by omega
 have h3 : p / 8 < n := by omega
 have Ha := Lib.hid hand; clear hand
 have E1 := Lib.hid e1; clear e1
 go_enter Tryz.func107, Tryz.ntmps107
 go_wp2_with (go_at_call 111; rw [E1.out]; refine (halved8_n v (p % 8) _ (by omega)).mono ?_; rintro e w' ⟨rfl, rfl⟩)
 go_ret
 refine ⟨?_, rfl⟩
 show Ending.returned (.int .u8 _) = _
 rw [← Ha.out]; rfl
end Go.Proofs.YtebmbkbnngeabaaGreat

set_option linter.unusedSimpArgs false
namespace Go.Proofs.YtebmbkbnngeabaaGreat
open Go.RowKit
set_option linter.unusedVariables false
set_option maxHeartbeats 1000000 in
theorem width_n (v : Nat) (w : World) (hv : v < 18446744073709551616) :
 Calls Tryz.prog 55 #[.int .u64 v] w fun e w' => e = .returned (.int .i64 (bitLen v : Nat)) ∧ w = w' := by
 have hB : ∀ m : Nat, Hid (m ≤ v) → bitLen m ≤ 64 := fun m hm => bitLen_le64 m (by have := hm.out; omega)
 go_enter Tryz.func55, Tryz.ntmps55
 go_wp2
 refine wp_scope_jumps 0 (fun a' w' => w' = w ∧ ∃ (m c : Nat) (u4 u5 u6 u7 u8 u9 u10 : Value), a' = { tmps := #[.int .u64 m, undef, .int .i64 0, .int .i64 c, u4, u5, u6, u7, u8, u9, u10], defers := [] } ∧ Hid (bitLen v = c + bitLen m) ∧ Hid (m ≤ v)) (fun a' _ => (intOf (a'.tmps.getD 0 undef)).toNat) rfl ?_ ?_
 · go_wp2
   go_step3
   by_cases h0 : 0 < v
   · go_wp2_with (go_at_call 79; refine (halved_n v 1 _ (by omega)).mono ?_; rintro e w' ⟨rfl, rfl⟩)
     go_step3
     refine ⟨rfl, rfl, v / 2, 1, _, _, _, _, _, _, _, rfl, Lib.hid (by rw [bitLen_half v h0]; omega), Lib.hid (Nat.div_le_self _ _)⟩
   · obtain rfl : v = 0 := by omega
     go_wp2
     simp only [Exit.jump]
     go_ret
     exact ⟨rfl, rfl⟩
 · rintro a' w' ⟨rfl, m, c, u4, u5, u6, u7, u8, u9, u10, rfl, hs, hm⟩
   have hb64 := hB v (Lib.hid (Nat.le_refl _))
   have hc64 : c ≤ 64 := by have := hs.out; omega
   by_cases h0 : 0 < m
   · go_wp2_with (go_at_call 79; refine (halved_n m 1 _ (by omega)).mono ?_; rintro e w' ⟨rfl, rfl⟩)
     go_step3
     refine ⟨rfl, ⟨rfl, m / 2, c + 1, _, _, _, _, _, _, _, rfl, Lib.hid (by rw [hs.out, bitLen_half m h0]; omega), Lib.hid (by have := hm.out; omega)⟩, ?_⟩
     have hd : m >>> 1 < m := by rw [Nat.shiftRight_eq_div_pow]; omega
     show (((m >>> 1 : Nat) : Int)).toNat < (((m : Nat) : Int)).toNat
     omega
   · obtain rfl : m = 0 := by omega
     go_wp2
     simp only [Exit.jump]
     go_ret
     refine ⟨?_, rfl⟩
     have := hs.out
     rw [bitLen_zero] at this
     rw [this]; rfl
end Go.Proofs.YtebmbkbnngeabaaGreat

set_option linter.unusedSimpArgs false
namespace Go.Proofs.YtebmbkbnngeabaaGreat
open Go.RowKit
set_option linter.unusedVariables false
theorem run_max_int2 {P : Program} {w : World} (ts : Array TypeId) (t : TypeId) (k : IntKind) (x y : Int) (m : Int) (hm : m = max x y) : (Builtin.max_ ts t #[.int k x, .int k y]).run P w = .ok (.int k m) w := by
 have e : m = (if x < y then y else x) := by rw [hm]; split <;> omega
 rw [e]
 simp [Builtin.max_, Builtin.max2]
set_option maxHeartbeats 1000000 in
theorem rwidth_n (v : Nat) (w : World) (hv : v < 18446744073709551616) :
 Calls Tryz.prog 18 #[.int .u64 v] w fun e w' => e = .returned (.int .i64 (bitLen v : Nat)) ∧ w = w' := by
 have hB : ∀ m : Nat, m ≤ v → bitLen m ≤ 64 := fun m hm => bitLen_le64 m (by omega)
 have HB := Lib.hid hB
 clear hB
 go_enter Tryz.func18, Tryz.ntmps18
 go_wp2
 go_loop [0, 3] (fun u c => ∃ m k : Nat, u = .int .u64 (m : Nat) ∧ c = .int .i64 (k : Nat) ∧ k ≤ 64 ∧ Hid (bitLen v = k + bitLen m) ∧ Hid (m ≤ v)) (fun u _ => (intOf u).toNat)
 case atStart => exact ⟨v, 0, rfl, rfl, by decide, Lib.hid (by omega), Lib.hid (Nat.le_refl _)⟩
 case round =>
  obtain ⟨m, k, rfl, rfl, hk, hs, hm⟩ := hrel
  by_cases h0 : 0 < m
  · obtain ⟨m2, hm2⟩ : ∃ m2, m2 = m / 2 := ⟨_, rfl⟩
    have em : (m : Int) / 2 = (m2 : Int) := by omega
    have e0 : (0 : Int) < (m : Int) := by omega
    have hs2 : Hid (bitLen v = k + 1 + bitLen m2) := Lib.hid (by rw [hs.out, bitLen_half m h0, hm2]; omega)
    have hmm : Hid (m2 ≤ v) := Lib.hid (by have := hm.out; omega)
    have hk1 : k + 1 ≤ 64 := by
     have h1 := HB.out v (Nat.le_refl _)
     have h2 := hs2.out
     omega
    have hlt : m2 < m := by omega
    clear hm2 h0
    go_wp2
    go_round
    case rel => exact ⟨m2, k + 1, rfl, by go_num, hk1, hs2, hmm⟩
    case measure => simp [intOf]; omega
  · obtain rfl : m = 0 := by omega
    go_wp2
    go_ret
    refine ⟨?_, rfl⟩
    have h := hs.out
    rw [bitLen_zero] at h
    rw [h]; rfl
end Go.Proofs.YtebmbkbnngeabaaGreat

set_option linter.unusedVariables false
set_option linter.unusedSimpArgs false
namespace Go.Proofs.YtebmbkbnngeabaaGreat
open Go.RowKit
section
variable {P : Program} {ops : Array Oper} {md : Region.Mode} {Q : Exit → Act → World → Prop}
def ancs (md : Region.Mode) (ops : Array Oper) : Nat → Nat → List Nat
 | 0, _ => []
 | n + 1, j => match ops[j]? with
  | none => []
  | some o => (o.after.toList.filter (Region.binds md ·)).flatMap fun e => e.on :: ancs md ops n e.on
def Closed (md : Region.Mode) (ops : Array Oper) (listed : Array Bool) : Prop := ∀ j o, ops[j]? = some o → listed.getD j false = true → ∀ e ∈ o.after, Region.binds md e = true → listed.getD e.on false = true
theorem Closed.anc {listed : Array Bool} (h : Closed md ops listed) : ∀ (n j i : Nat) (o : Oper), ops[j]? = some o → (∀ e ∈ o.after, Region.binds md e = true → listed.getD e.on false = true) → i ∈ ancs md ops n j → listed.getD i false = true := by
 intro n
 induction n with
 | zero => intro j i o _ _ hi; exact absurd hi List.not_mem_nil
 | succ n ih =>
  intro j i o ho hall hi
  simp only [ancs, ho] at hi
  obtain ⟨e, he, hm⟩ := List.mem_flatMap.1 hi
  obtain ⟨he1, he2⟩ := List.mem_filter.1 he
  have hlt := hall e (by simpa using he1) he2
  rcases List.mem_cons.1 hm with rfl | hm
  · exact hlt
  · cases hoe : ops[e.on]? with
    | none => cases n <;> simp [ancs, hoe] at hm
    | some oe => exact ih e.on i oe hoe (h e.on oe hoe hlt) hm
theorem Closed.add {listed : Array Bool} (h : Closed md ops listed) {i : Nat} (hi : i ∈ Region.ready md ops listed) : Closed md ops (listed.setIfInBounds i true) := by
 obtain ⟨hun, o, ho, hall⟩ := mem_ready.1 hi
 intro j oj hj hl e he hb
 by_cases hji : i = j
 · subst hji
   rw [ho] at hj
   cases hj
   exact getD_set_true (hall e he hb)
 · rw [getD_set_ne false hji] at hl
   exact getD_set_true (h j oj hj hl e he hb)
theorem Closed.none (n : Nat) : Closed md ops (Array.replicate n false) := by
 intro j o _ hl
 by_cases hj : j < n <;> simp [hj] at hl
def wpAnyH (P : Program) (md : Region.Mode) (ops : Array Oper) (Q : Exit → Act → World → Prop) (hard : List Nat) : Nat → Array Bool → Act → World → Prop
 | 0, listed, a, w => Region.ready md ops listed = [] ∧ Q .normal a w
 | n + 1, listed, a, w => (Region.ready md ops listed = [] → Q .normal a w) ∧
  ∀ i ∈ Region.ready md ops listed, wpOp P ops Q i (fun a' w' => (i ∈ hard ∨ Grows w w') ∧ wpAnyH P md ops Q hard n (listed.setIfInBounds i true) a' w') a w
theorem wpAny_of_H {hard : List Nat} : ∀ (n : Nat) (listed : Array Bool) (a : Act) (w : World), wpAnyH P md ops Q hard n listed a w → wpAny P md ops Q n listed a w
 | 0, _, _, _, h => h
 | n + 1, _, _, _, h => ⟨h.1, fun i hi => wpOp_mono (fun a' w' hh => wpAny_of_H n _ a' w' hh.2) (h.2 i hi)⟩
theorem wpAnyH_first {hard : List Nat} {i : Nat} {oi : Oper} {v : Value} (hi : ops[i]? = some oi) (hsel : ∀ (j : Nat) (o : Oper) cs b, ops[j]? = some o → o.op ≠ .select cs b)
 (hQ : ∀ c a w, Q (.panic c) (a.put oi.dst v) w → Q (.panic c) a w) (hhi : i ∉ hard) :
 ∀ (n : Nat) (listed : Array Bool) (a : Act) (w : World), Closed md ops listed → (∀ j ∈ hard, listed.getD j true = true ∨ i ∈ ancs md ops ops.size j) →
  (∀ j oj, ops[j]? = some oj → j ≠ i → listed.getD j true = false → (∀ e ∈ oj.after, Region.binds md e = true → e.on ≠ i) → oi.apart ops oj = true) →
  i ∈ Region.ready md ops listed → Steady P ops oi v a w →
  wpAnyH P md ops Q hard n (listed.setIfInBounds i true) (a.put oi.dst v) w → wpAnyH P md ops Q hard (n + 1) listed a w := by
 intro n
 induction n with
 | zero =>
  intro listed a w _ _ _ hr hy H
  refine ⟨fun h => absurd hr (by rw [h]; exact List.not_mem_nil), fun j hj => ?_⟩
  by_cases hji : j = i
  · subst hji; exact hy.wpOp hi ⟨.inr (Grows.refl _), H⟩
  · have := ready_mono hj hji
    rw [H.1] at this
    exact absurd this List.not_mem_nil
 | succ n ih =>
  intro listed a w hcl hhard hfree hr hy H
  refine ⟨fun h => absurd hr (by rw [h]; exact List.not_mem_nil), fun j hj => ?_⟩
  by_cases hji : j = i
  · subst hji; exact hy.wpOp hi ⟨.inr (Grows.refl _), H⟩
  · have hjin := ready_mono hj hji
    obtain ⟨hun, oj, hoj, hall⟩ := mem_ready.1 hj
    have hiun := (mem_ready.1 hr).1
    have hjh : j ∉ hard := by
     intro hjh
     rcases hhard j hjh with h | h
     · rw [hun] at h; exact absurd h Bool.false_ne_true
     · have hx := hcl.anc ops.size j i oj hoj hall h
       rcases Nat.lt_or_ge i listed.size with hlt | hge
       · simp [hlt] at hiun hx; rw [hiun] at hx; exact absurd hx Bool.false_ne_true
       · simp [Array.getElem?_eq_none hge] at hx
    have hno : ∀ e ∈ oj.after, Region.binds md e = true → e.on ≠ i := by
     intro e he hb heq
     have hx := hall e he hb
     rw [heq] at hx
     rcases Nat.lt_or_ge i listed.size with hlt | hge
     · simp [hlt] at hiun hx; rw [hiun] at hx; exact absurd hx Bool.false_ne_true
     · simp [Array.getElem?_eq_none hge] at hx
    have hs := wpOp_swap hoj (hfree j oj hoj hji hun hno) (fun cs b => hsel i oi cs b hi) (fun cs b => hsel j oj cs b hoj) hQ (H.2 j hjin)
    refine wpOp_mono (fun a' w' hh => ?_) hs
    have hg : Grows w w' := hh.2.1.resolve_left hjh
    refine ⟨.inr hg, ?_⟩
    refine ih (listed.setIfInBounds j true) a' w' (hcl.add hj) (fun k hk => (hhard k hk).imp (fun h => ?_) id) (fun k ok hk hki hku hkn => hfree k ok hk hki ?_ hkn) (ready_mono hr (Ne.symm hji)) (hy.grow hg hh.1.1 hh.1.2) ?_
    · by_cases hjk : j = k
      · subst hjk; exact absurd hk hjh
      · rw [getD_set_ne true hjk]; exact h
    · by_cases hjk : j = k
      · subst hjk; exact hun
      · rwa [getD_set_ne true hjk] at hku
    · rw [Array.setIfInBounds_comm _ _ hji]
      exact hh.2.2
def wpLinH (P : Program) (ops : Array Oper) (Q : Exit → Act → World → Prop) : List (Nat × Nat) → Act → World → Prop
 | [], a, w => Q .normal a w
 | (i, 0) :: rest, a, w => ∃ o, ops[i]? = some o ∧ ∃ v, Steady P ops o v a w ∧ wpLinH P ops Q rest (a.put o.dst v) w
 | (i, 1) :: rest, a, w => ∃ o, ops[i]? = some o ∧ if Region.wanted o (yielded ops a.tmps) = true then o.wp P a w (fun a' w' => Grows w w' ∧ wpLinH P ops Q rest a' w') Q else wpLinH P ops Q rest (a.put o.dst undef) w
 | (i, _ + 2) :: rest, a, w => ∃ o, ops[i]? = some o ∧ if Region.wanted o (yielded ops a.tmps) = true then o.wp P a w (fun a' w' => wpLinH P ops Q rest a' w') Q else wpLinH P ops Q rest (a.put o.dst undef) w
def linFromH (md : Region.Mode) (ops : Array Oper) (hard : List Nat) : List (Nat × Nat) → Array Bool → Bool
 | [], listed => (Region.ready md ops listed).isEmpty
 | (k, 0) :: fl, listed => (Region.ready md ops listed).contains k && Region.free md ops listed k && !hard.contains k && hard.all (fun j => listed.getD j true || (ancs md ops ops.size j).contains k) && linFromH md ops hard fl (listed.setIfInBounds k true)
 | (k, 1) :: fl, listed => (Region.ready md ops listed == [k]) && linFromH md ops hard fl (listed.setIfInBounds k true)
 | (k, _ + 2) :: fl, listed => (Region.ready md ops listed == [k]) && hard.contains k && linFromH md ops hard fl (listed.setIfInBounds k true)
theorem wpAnyH_lin {hard : List Nat} (hs : Region.noSelect ops = true) (hQ : ∀ (d : Option Tmp) (v : Value), ∀ c a w, Q (.panic c) (a.put d v) w → Q (.panic c) a w) :
 ∀ (l : List (Nat × Nat)) (listed : Array Bool) (a : Act) (w : World), Closed md ops listed → linFromH md ops hard l listed = true → wpLinH P ops Q l a w → wpAnyH P md ops Q hard l.length listed a w
 | [], _, _, _, _, hB, h => ⟨by simpa [linFromH] using hB, h⟩
 | (k, 0) :: l, listed, a, w, hcl, hB, h => by
  obtain ⟨o, h0, v, hy, hK⟩ := h
  simp only [linFromH, Bool.and_eq_true] at hB
  obtain ⟨⟨⟨⟨hr, hf⟩, hh1⟩, hh2⟩, hB'⟩ := hB
  have hr' : k ∈ Region.ready md ops listed := by simpa using hr
  refine wpAnyH_first h0 (Region.noSelect_spec hs) (hQ o.dst v) (by simpa using hh1) l.length listed a w hcl (fun j hj => ?_) (Region.free_spec h0 hf) hr' hy
   (wpAnyH_lin hs hQ l _ _ _ (hcl.add hr') hB' hK)
  have := List.all_eq_true.1 hh2 j hj
  simpa using this
 | (k, 1) :: l, listed, a, w, hcl, hB, h => by
  obtain ⟨o, h0, h⟩ := h
  simp only [linFromH, Bool.and_eq_true, beq_iff_eq] at hB
  obtain ⟨hr, hB'⟩ := hB
  refine ⟨fun hx => by rw [hr] at hx; exact absurd hx (List.cons_ne_nil _ _), fun i hi => ?_⟩
  have hcl' := hcl.add hi
  rw [hr, List.mem_singleton] at hi
  subst hi
  have hrest : ∀ a' w', wpLinH P ops Q l a' w' → wpAnyH P md ops Q hard l.length (listed.setIfInBounds i true) a' w' := fun a' w' hh => wpAnyH_lin hs hQ l _ _ _ hcl' hB' hh
  unfold wpOp
  rw [h0]
  simp only []
  split
  · rename_i hw
    rw [if_pos hw] at h
    exact .inl (Oper.wp_mono (fun a' w' hh => ⟨.inr hh.1, hrest a' w' hh.2⟩) h)
  · rename_i hw
    rw [if_neg hw] at h
    exact ⟨.inr (Grows.refl _), hrest _ _ h⟩
 | (k, m + 2) :: l, listed, a, w, hcl, hB, h => by
  obtain ⟨o, h0, h⟩ := h
  simp only [linFromH, Bool.and_eq_true, beq_iff_eq] at hB
  obtain ⟨⟨hr, hhd⟩, hB'⟩ := hB
  refine ⟨fun hx => by rw [hr] at hx; exact absurd hx (List.cons_ne_nil _ _), fun i hi => ?_⟩
  have hcl' := hcl.add hi
  rw [hr, List.mem_singleton] at hi
  subst hi
  have hrest : ∀ a' w', wpLinH P ops Q l a' w' → wpAnyH P md ops Q hard l.length (listed.setIfInBounds i true) a' w' := fun a' w' hh => wpAnyH_lin hs hQ l _ _ _ hcl' hB' hh
  unfold wpOp
  rw [h0]
  simp only []
  split
  · rename_i hw
    rw [if_pos hw] at h
    exact .inl (Oper.wp_mono (fun a' w' hh => ⟨.inl (by simpa using hhd), hrest a' w' hh⟩) h)
  · rename_i hw
    rw [if_neg hw] at h
    exact ⟨.inr (Grows.refl _), hrest _ _ h⟩
theorem wp_region_linH {id : Nat} {a : Act} {w : World} {l : List Oper} (fl : List (Nat × Nat)) (hard : List Nat) (hm : P.follows .mixedOrders = true) (hB : (Region.noSelect l.toArray && (l.length == fl.length) && linFromH .any l.toArray hard fl (Array.replicate l.length false)) = true)
 (hQ : ∀ (d : Option Tmp) (v : Value), ∀ c a w, Q (.panic c) (a.put d v) w → Q (.panic c) a w)
 (h : wpLinH P l.toArray Q fl a w.drew) : (Code.region id l.toArray true).wp P Q a w := by
 simp only [Bool.and_eq_true, beq_iff_eq] at hB
 obtain ⟨⟨hs, hlen⟩, hB⟩ := hB
 refine wp_region_any hm ?_
 have key := wpAny_of_H _ _ _ _ (wpAnyH_lin (md := .any) hs hQ fl (Array.replicate l.length false) a w.drew (Closed.none _) hB h)
 rw [← hlen] at key
 simpa using key
theorem wpLinH_nil {a : Act} {w : World} (h : Q .normal a w) : wpLinH P ops Q [] a w := h
theorem wpLinH_take {i : Nat} {o : Oper} {rest : List (Nat × Nat)} {a : Act} {w : World} {v : Value} (hi : ops[i]? = some o) (hw : Region.wanted o (yielded ops a.tmps) = true) (hv : ∀ w', Grows w w' → o.quietAt P a (fun x => x = w') w' v)
 (h : ∀ K : Act → Prop, (∀ a, wpLinH P ops Q rest a w → K a) → K (a.put o.dst v)) : wpLinH P ops Q ((i, 0) :: rest) a w :=
 ⟨o, hi, v, .inl ⟨hw, hv⟩, h (fun a => wpLinH P ops Q rest a w) (fun _ h => h)⟩
theorem wpLinH_skip {i : Nat} {o : Oper} {rest : List (Nat × Nat)} {a : Act} {w : World} (hi : ops[i]? = some o) (hw : Region.wanted o (yielded ops a.tmps) = false)
 (h : ∀ K : Act → Prop, (∀ a, wpLinH P ops Q rest a w → K a) → K (a.put o.dst undef)) : wpLinH P ops Q ((i, 0) :: rest) a w :=
 ⟨o, hi, undef, .inr ⟨hw, rfl⟩, h (fun a => wpLinH P ops Q rest a w) (fun _ h => h)⟩
theorem wpLinH_do {i : Nat} {o : Oper} {rest : List (Nat × Nat)} {a : Act} {w : World} (hi : ops[i]? = some o)
 (h : ∀ K : Act → World → Prop, (∀ a w', Grows w w' → wpLinH P ops Q rest a w' → K a w') → if Region.wanted o (yielded ops a.tmps) = true then o.wp P a w K Q else K (a.put o.dst undef) w) :
 wpLinH P ops Q ((i, 1) :: rest) a w := by
 have := h (fun a' w' => Grows w w' ∧ wpLinH P ops Q rest a' w') (fun _ _ h1 h2 => ⟨h1, h2⟩)
 refine ⟨o, hi, ?_⟩
 split
 · rename_i hw; rwa [if_pos hw] at this
 · rename_i hw; rw [if_neg hw] at this; exact this.2
theorem wpLinH_hard {i : Nat} {o : Oper} {rest : List (Nat × Nat)} {a : Act} {w : World} (hi : ops[i]? = some o)
 (h : ∀ K : Act → World → Prop, (∀ a w', wpLinH P ops Q rest a w' → K a w') → if Region.wanted o (yielded ops a.tmps) = true then o.wp P a w K Q else K (a.put o.dst undef) w) :
 wpLinH P ops Q ((i, 2) :: rest) a w := by
 have := h (fun a' w' => wpLinH P ops Q rest a' w') (fun _ _ h2 => h2)
 refine ⟨o, hi, ?_⟩
 split
 · rename_i hw; rwa [if_pos hw] at this
 · rename_i hw; rw [if_neg hw] at this; exact this
end
end Go.Proofs.YtebmbkbnngeabaaGreat

set_option linter.unusedSimpArgs false
namespace Go.Proofs.YtebmbkbnngeabaaGreat
open Go.RowKit
set_option linter.unusedVariables false
structure Pre (R : World → World → Prop) : Prop where
 refl : ∀ w, R w w
 trans : ∀ {a b c}, R a b → R b c → R a c
section
variable {P : Program} {ops : Array Oper} {md : Region.Mode} {Q : Exit → Act → World → Prop} {R : World → World → Prop}
def wpAnyR (P : Program) (md : Region.Mode) (ops : Array Oper) (Q : Exit → Act → World → Prop) (R : World → World → Prop) (hard : List Nat) : Nat → Array Bool → Act → World → Prop
 | 0, listed, a, w => Region.ready md ops listed = [] ∧ Q .normal a w
 | n + 1, listed, a, w => (Region.ready md ops listed = [] → Q .normal a w) ∧
  ∀ i ∈ Region.ready md ops listed, wpOp P ops Q i (fun a' w' => (i ∈ hard ∨ R w w') ∧ wpAnyR P md ops Q R hard n (listed.setIfInBounds i true) a' w') a w
theorem wpAny_of_R {hard : List Nat} : ∀ (n : Nat) (listed : Array Bool) (a : Act) (w : World), wpAnyR P md ops Q R hard n listed a w → wpAny P md ops Q n listed a w
 | 0, _, _, _, h => h
 | n + 1, _, _, _, h => ⟨h.1, fun i hi => wpOp_mono (fun a' w' hh => wpAny_of_R n _ a' w' hh.2) (h.2 i hi)⟩
def SteadyR (P : Program) (ops : Array Oper) (R : World → World → Prop) (o : Oper) (v : Value) (a : Act) (w : World) : Prop :=
 (Region.wanted o (yielded ops a.tmps) = true ∧ ∀ w', R w w' → o.quietAt P a (fun x => x = w') w' v) ∨
 (Region.wanted o (yielded ops a.tmps) = false ∧ v = undef)
theorem SteadyR.grow (hR : Pre R) {o : Oper} {v : Value} {a a' : Act} {w w' : World} (h : SteadyR P ops R o v a w) (hg : R w w') (he : execOp a'.eval o = execOp a.eval o)
 (hw : Region.wanted o (yielded ops a'.tmps) = Region.wanted o (yielded ops a.tmps)) : SteadyR P ops R o v a' w' := by
 unfold SteadyR Oper.quietAt at *
 rw [he, hw]
 exact h.imp (fun x => ⟨x.1, fun w2 h2 => x.2 w2 (hR.trans hg h2)⟩) id
theorem SteadyR.wpOp (hR : Pre R) {i : Nat} {o : Oper} {v : Value} {a : Act} {w : World} (hi : ops[i]? = some o) (hy : SteadyR P ops R o v a w) {K : Act → World → Prop} (h : K (a.put o.dst v) w) : wpOp P ops Q i K a w := by
 unfold Go.wpOp
 simp only [hi]
 rcases hy with ⟨hw, hv⟩ | ⟨hw, rfl⟩
 · rw [if_pos hw]
   exact .inl (Oper.wp_of_quiet (C := fun x => x = w) (K := fun a' => K a' w) rfl (fun a' w' e k => by subst e; exact k) ⟨v, fun x hx => by subst hx; exact hv x (hR.refl x), h⟩)
 · rw [if_neg (by rw [hw]; exact Bool.false_ne_true)]
   exact h
theorem wpAnyR_first (hR : Pre R) {hard : List Nat} {i : Nat} {oi : Oper} {v : Value} (hi : ops[i]? = some oi) (hsel : ∀ (j : Nat) (o : Oper) cs b, ops[j]? = some o → o.op ≠ .select cs b)
 (hQ : ∀ c a w, Q (.panic c) (a.put oi.dst v) w → Q (.panic c) a w) (hhi : i ∉ hard) :
 ∀ (n : Nat) (listed : Array Bool) (a : Act) (w : World), Closed md ops listed → (∀ j ∈ hard, listed.getD j true = true ∨ i ∈ ancs md ops ops.size j) →
  (∀ j oj, ops[j]? = some oj → j ≠ i → listed.getD j true = false → (∀ e ∈ oj.after, Region.binds md e = true → e.on ≠ i) → oi.apart ops oj = true) →
  i ∈ Region.ready md ops listed → SteadyR P ops R oi v a w →
  wpAnyR P md ops Q R hard n (listed.setIfInBounds i true) (a.put oi.dst v) w → wpAnyR P md ops Q R hard (n + 1) listed a w := by
 intro n
 induction n with
 | zero =>
  intro listed a w _ _ _ hr hy H
  refine ⟨fun h => absurd hr (by rw [h]; exact List.not_mem_nil), fun j hj => ?_⟩
  by_cases hji : j = i
  · subst hji; exact hy.wpOp hR hi ⟨.inr (hR.refl _), H⟩
  · have := ready_mono hj hji
    rw [H.1] at this
    exact absurd this List.not_mem_nil
 | succ n ih =>
  intro listed a w hcl hhard hfree hr hy H
  refine ⟨fun h => absurd hr (by rw [h]; exact List.not_mem_nil), fun j hj => ?_⟩
  by_cases hji : j = i
  · subst hji; exact hy.wpOp hR hi ⟨.inr (hR.refl _), H⟩
  · have hjin := ready_mono hj hji
    obtain ⟨hun, oj, hoj, hall⟩ := mem_ready.1 hj
    have hiun := (mem_ready.1 hr).1
    have hjh : j ∉ hard := by
     intro hjh
     rcases hhard j hjh with h | h
     · rw [hun] at h; exact absurd h Bool.false_ne_true
     · have hx := hcl.anc ops.size j i oj hoj hall h
       rcases Nat.lt_or_ge i listed.size with hlt | hge
       · simp [hlt] at hiun hx; rw [hiun] at hx; exact absurd hx Bool.false_ne_true
       · simp [Array.getElem?_eq_none hge] at hx
    have hno : ∀ e ∈ oj.after, Region.binds md e = true → e.on ≠ i := by
     intro e he hb heq
     have hx := hall e he hb
     rw [heq] at hx
     rcases Nat.lt_or_ge i listed.size with hlt | hge
     · simp [hlt] at hiun hx; rw [hiun] at hx; exact absurd hx Bool.false_ne_true
     · simp [Array.getElem?_eq_none hge] at hx
    have hs := wpOp_swap hoj (hfree j oj hoj hji hun hno) (fun cs b => hsel i oi cs b hi) (fun cs b => hsel j oj cs b hoj) hQ (H.2 j hjin)
    refine wpOp_mono (fun a' w' hh => ?_) hs
    have hg : R w w' := hh.2.1.resolve_left hjh
    refine ⟨.inr hg, ?_⟩
    refine ih (listed.setIfInBounds j true) a' w' (hcl.add hj) (fun k hk => (hhard k hk).imp (fun h => ?_) id) (fun k ok hk hki hku hkn => hfree k ok hk hki ?_ hkn) (ready_mono hr (Ne.symm hji)) (hy.grow hR hg hh.1.1 hh.1.2) ?_
    · by_cases hjk : j = k
      · subst hjk; exact absurd hk hjh
      · rw [getD_set_ne true hjk]; exact h
    · by_cases hjk : j = k
      · subst hjk; exact hun
      · rwa [getD_set_ne true hjk] at hku
    · rw [Array.setIfInBounds_comm _ _ hji]
      exact hh.2.2
inductive LT where
 | done
 | take (k : Nat) (t : LT)
 | one (k : Nat) (t : LT)
 | two (k1 : Nat) (t1 : LT) (k2 : Nat) (t2 : LT)
def LT.len : LT → Nat
 | .done => 0
 | .take _ t => t.len + 1
 | .one _ t => t.len + 1
 | .two _ t _ _ => t.len + 1
def stepR (P : Program) (ops : Array Oper) (Q : Exit → Act → World → Prop) (R : World → World → Prop) (hard : List Nat) (k : Nat) (K : Act → World → Prop) (a : Act) (w : World) : Prop :=
 ∃ o, ops[k]? = some o ∧ if Region.wanted o (yielded ops a.tmps) = true then o.wp P a w (fun a' w' => (k ∈ hard ∨ R w w') ∧ K a' w') Q else K (a.put o.dst undef) w
def wpLinR (P : Program) (ops : Array Oper) (Q : Exit → Act → World → Prop) (R : World → World → Prop) (hard : List Nat) : LT → Act → World → Prop
 | .done, a, w => Q .normal a w
 | .take k t, a, w => ∃ o, ops[k]? = some o ∧ ∃ v, SteadyR P ops R o v a w ∧ wpLinR P ops Q R hard t (a.put o.dst v) w
 | .one k t, a, w => stepR P ops Q R hard k (wpLinR P ops Q R hard t) a w
 | .two k1 t1 k2 t2, a, w => stepR P ops Q R hard k1 (wpLinR P ops Q R hard t1) a w ∧ stepR P ops Q R hard k2 (wpLinR P ops Q R hard t2) a w
def linFromR (md : Region.Mode) (ops : Array Oper) (hard : List Nat) : LT → Array Bool → Bool
 | .done, listed => (Region.ready md ops listed).isEmpty
 | .take k t, listed => (Region.ready md ops listed).contains k && Region.free md ops listed k && !hard.contains k && hard.all (fun j => listed.getD j true || (ancs md ops ops.size j).contains k) && linFromR md ops hard t (listed.setIfInBounds k true)
 | .one k t, listed => (Region.ready md ops listed == [k]) && linFromR md ops hard t (listed.setIfInBounds k true)
 | .two k1 t1 k2 t2, listed => (Region.ready md ops listed == [k1, k2]) && (t1.len == t2.len) && linFromR md ops hard t1 (listed.setIfInBounds k1 true) && linFromR md ops hard t2 (listed.setIfInBounds k2 true)
theorem stepR_op (hR : Pre R) {hard : List Nat} {k : Nat} {K : Act → World → Prop} {a : Act} {w : World} (h : stepR P ops Q R hard k K a w) : wpOp P ops Q k (fun a' w' => (k ∈ hard ∨ R w w') ∧ K a' w') a w := by
 obtain ⟨o, h0, h⟩ := h
 unfold wpOp
 rw [h0]
 simp only []
 split
 · rename_i hw
   rw [if_pos hw] at h
   exact .inl h
 · rename_i hw
   rw [if_neg hw] at h
   exact ⟨.inr (hR.refl _), h⟩
theorem wpAnyR_lin (hR : Pre R) {hard : List Nat} (hs : Region.noSelect ops = true) (hQ : ∀ (d : Option Tmp) (v : Value), ∀ c a w, Q (.panic c) (a.put d v) w → Q (.panic c) a w) :
 ∀ (t : LT) (listed : Array Bool) (a : Act) (w : World), Closed md ops listed → linFromR md ops hard t listed = true → wpLinR P ops Q R hard t a w → wpAnyR P md ops Q R hard t.len listed a w
 | .done, _, _, _, _, hB, h => ⟨by simpa [linFromR] using hB, h⟩
 | .take k t, listed, a, w, hcl, hB, h => by
  obtain ⟨o, h0, v, hy, hK⟩ := h
  simp only [linFromR, Bool.and_eq_true] at hB
  obtain ⟨⟨⟨⟨hr, hf⟩, hh1⟩, hh2⟩, hB'⟩ := hB
  have hr' : k ∈ Region.ready md ops listed := by simpa using hr
  refine wpAnyR_first hR h0 (Region.noSelect_spec hs) (hQ o.dst v) (by simpa using hh1) t.len listed a w hcl (fun j hj => ?_) (Region.free_spec h0 hf) hr' hy
   (wpAnyR_lin hR hs hQ t _ _ _ (hcl.add hr') hB' hK)
  have := List.all_eq_true.1 hh2 j hj
  simpa using this
 | .one k t, listed, a, w, hcl, hB, h => by
  simp only [linFromR, Bool.and_eq_true, beq_iff_eq] at hB
  obtain ⟨hr, hB'⟩ := hB
  refine ⟨fun hx => by rw [hr] at hx; exact absurd hx (List.cons_ne_nil _ _), fun i hi => ?_⟩
  have hcl' := hcl.add hi
  rw [hr, List.mem_singleton] at hi
  subst hi
  exact wpOp_mono (fun a' w' hh => ⟨hh.1, wpAnyR_lin hR hs hQ t _ _ _ hcl' hB' hh.2⟩) (stepR_op hR h)
 | .two k1 t1 k2 t2, listed, a, w, hcl, hB, h => by
  simp only [linFromR, Bool.and_eq_true, beq_iff_eq] at hB
  obtain ⟨⟨⟨hr, hl⟩, hB1⟩, hB2⟩ := hB
  refine ⟨fun hx => by rw [hr] at hx; exact absurd hx (List.cons_ne_nil _ _), fun i hi => ?_⟩
  have hcl' := hcl.add hi
  rw [hr] at hi
  rcases List.mem_cons.1 hi with rfl | hi
  · exact wpOp_mono (fun a' w' hh => ⟨hh.1, wpAnyR_lin hR hs hQ t1 _ _ _ hcl' hB1 hh.2⟩) (stepR_op hR h.1)
  · rw [List.mem_singleton] at hi
    subst hi
    exact wpOp_mono (fun a' w' hh => ⟨hh.1, hl ▸ wpAnyR_lin hR hs hQ t2 _ _ _ hcl' hB2 hh.2⟩) (stepR_op hR h.2)
theorem wp_region_linR {id : Nat} {a : Act} {w : World} {l : List Oper} (R : World → World → Prop) (hR : Pre R) (t : LT) (hard : List Nat) (hm : P.follows .mixedOrders = true) (hB : (Region.noSelect l.toArray && (l.length == t.len) && linFromR .any l.toArray hard t (Array.replicate l.length false)) = true)
 (hQ : ∀ (d : Option Tmp) (v : Value), ∀ c a w, Q (.panic c) (a.put d v) w → Q (.panic c) a w)
 (h : wpLinR P l.toArray Q R hard t a w.drew) : (Code.region id l.toArray true).wp P Q a w := by
 simp only [Bool.and_eq_true, beq_iff_eq] at hB
 obtain ⟨⟨hs, hlen⟩, hB⟩ := hB
 refine wp_region_any hm ?_
 have key := wpAny_of_R _ _ _ _ (wpAnyR_lin (md := .any) hR hs hQ t (Array.replicate l.length false) a w.drew (Closed.none _) hB h)
 rw [← hlen] at key
 simpa using key
theorem wpLinR_nil {hard : List Nat} {a : Act} {w : World} (h : Q .normal a w) : wpLinR P ops Q R hard .done a w := h
theorem wpLinR_take {hard : List Nat} {k : Nat} {o : Oper} {t : LT} {a : Act} {w : World} {v : Value} (hi : ops[k]? = some o) (hw : Region.wanted o (yielded ops a.tmps) = true) (hv : ∀ w', R w w' → o.quietAt P a (fun x => x = w') w' v)
 (h : ∀ K : Act → Prop, (∀ a, wpLinR P ops Q R hard t a w → K a) → K (a.put o.dst v)) : wpLinR P ops Q R hard (.take k t) a w :=
 ⟨o, hi, v, .inl ⟨hw, hv⟩, h (fun a => wpLinR P ops Q R hard t a w) (fun _ h => h)⟩
theorem wpLinR_skip {hard : List Nat} {k : Nat} {o : Oper} {t : LT} {a : Act} {w : World} (hi : ops[k]? = some o) (hw : Region.wanted o (yielded ops a.tmps) = false)
 (h : ∀ K : Act → Prop, (∀ a, wpLinR P ops Q R hard t a w → K a) → K (a.put o.dst undef)) : wpLinR P ops Q R hard (.take k t) a w :=
 ⟨o, hi, undef, .inr ⟨hw, rfl⟩, h (fun a => wpLinR P ops Q R hard t a w) (fun _ h => h)⟩
theorem stepR_do {hard : List Nat} {k : Nat} {o : Oper} {t : LT} {a : Act} {w : World} (hi : ops[k]? = some o)
 (h : ∀ K : Act → World → Prop, (∀ a w', (k ∈ hard ∨ R w w') → wpLinR P ops Q R hard t a w' → K a w') → if Region.wanted o (yielded ops a.tmps) = true then o.wp P a w K Q else K (a.put o.dst undef) w) :
 stepR P ops Q R hard k (wpLinR P ops Q R hard t) a w := by
 have := h (fun a' w' => (k ∈ hard ∨ R w w') ∧ wpLinR P ops Q R hard t a' w') (fun _ _ h1 h2 => ⟨h1, h2⟩)
 refine ⟨o, hi, ?_⟩
 split
 · rename_i hw; rwa [if_pos hw] at this
 · rename_i hw; rw [if_neg hw] at this; exact this.2
theorem wpLinR_one {hard : List Nat} {k : Nat} {o : Oper} {t : LT} {a : Act} {w : World} (hi : ops[k]? = some o)
 (h : ∀ K : Act → World → Prop, (∀ a w', (k ∈ hard ∨ R w w') → wpLinR P ops Q R hard t a w' → K a w') → if Region.wanted o (yielded ops a.tmps) = true then o.wp P a w K Q else K (a.put o.dst undef) w) :
 wpLinR P ops Q R hard (.one k t) a w := stepR_do hi h
theorem wpLinR_two {hard : List Nat} {k1 k2 : Nat} {o1 o2 : Oper} {t1 t2 : LT} {a : Act} {w : World} (hi1 : ops[k1]? = some o1) (hi2 : ops[k2]? = some o2)
 (h1 : ∀ K : Act → World → Prop, (∀ a w', (k1 ∈ hard ∨ R w w') → wpLinR P ops Q R hard t1 a w' → K a w') → if Region.wanted o1 (yielded ops a.tmps) = true then o1.wp P a w K Q else K (a.put o1.dst undef) w)
 (h2 : ∀ K : Act → World → Prop, (∀ a w', (k2 ∈ hard ∨ R w w') → wpLinR P ops Q R hard t2 a w' → K a w') → if Region.wanted o2 (yielded ops a.tmps) = true then o2.wp P a w K Q else K (a.put o2.dst undef) w) :
 wpLinR P ops Q R hard (.two k1 t1 k2 t2) a w := ⟨stepR_do hi1 h1, stepR_do hi2 h2⟩
end
def KeptT (X : TypeId → Prop) (w w' : World) : Prop := w.heap.size ≤ w'.heap.size ∧ ∀ k, k < w.heap.size → (∀ cs E fr, w.heap[k]? = some (.cells cs E fr) → ¬ X E) → w'.heap[k]? = w.heap[k]?
theorem KeptT.pre (X : TypeId → Prop) : Pre (KeptT X) := ⟨fun w => ⟨Nat.le_refl _, fun _ _ _ => rfl⟩, fun h k => ⟨Nat.le_trans h.1 k.1, fun j hj hx => by
 have e := h.2 j hj hx
 rw [← e]
 exact k.2 j (Nat.lt_of_lt_of_le hj h.1) (fun cs E fr he => hx cs E fr (by rw [← e]; exact he))⟩⟩
theorem KeptT.grows {X : TypeId → Prop} {w w' : World} (h : Below w.heap.size w w') : KeptT X w w' := ⟨h.size, fun k hk _ => h.block k hk⟩
theorem KeptT.grown {X : TypeId → Prop} {w w' : World} {row : Option Nat} (h : w.grownBy w' row) (hx : ∀ k, row = some k → ∃ cs E fr, w.heap[k]? = some (.cells cs E fr) ∧ X E) : KeptT X w w' :=
 ⟨h.size, fun k hk hn => h.block k hk (fun e => by
  obtain ⟨cs, E, fr, h1, h2⟩ := hx k e.symm
  exact hn cs E fr h1 h2)⟩
theorem KeptT.cell {X : TypeId → Prop} {w w' : World} (h : KeptT X w w') {a : Addr} {v : Value} (hx : ∀ cs E fr, w.heap[a.block]? = some (.cells cs E fr) → ¬ X E) (hc : w.cell? a = some v) : w'.cell? a = some v := by
 rw [World.cell?_of_block (h.2 a.block (World.block_lt_of_cell? w a hc) hx)]; exact hc
theorem own_type {w : World} {base : Nat} {e : TypeId} {size : Nat} {v : Value} {n : Nat} {xs : List Value} (h : w.ownsRow base e size v n xs) {k : Nat} (hk : v.ownBlock = some k) : ∃ cs, w.heap[k]? = some (.cells cs e (0, 0)) := by
 rcases h.2 with ⟨rfl, -⟩ | ⟨g, cap, cur, rfl, -, hg, -⟩
 · cases hk
 · simp only [Value.ownBlock, Option.some.injEq] at hk
   subst hk; exact ⟨cur, hg⟩
end Go.Proofs.YtebmbkbnngeabaaGreat

set_option linter.unusedVariables false
set_option linter.unusedSimpArgs false
namespace Go.Proofs.YtebmbkbnngeabaaGreat
open Go.RowKit
section
variable {P : Program} {ops : Array Oper} {md : Region.Mode} {Q : Exit → Act → World → Prop}
def SteadyAll (P : Program) (ops : Array Oper) (o : Oper) (v : Value) (a : Act) : Prop :=
 (Region.wanted o (yielded ops a.tmps) = true ∧ ∀ w', o.quietAt P a (fun x => x = w') w' v) ∨
 (Region.wanted o (yielded ops a.tmps) = false ∧ v = undef)
theorem SteadyAll.at {o : Oper} {v : Value} {a : Act} (h : SteadyAll P ops o v a) (w : World) : Steady P ops o v a w := h.imp (fun x => ⟨x.1, fun w' _ => x.2 w'⟩) id
theorem SteadyAll.turn {o : Oper} {v : Value} {a a' : Act} (h : SteadyAll P ops o v a) (he : execOp a'.eval o = execOp a.eval o) (hw : Region.wanted o (yielded ops a'.tmps) = Region.wanted o (yielded ops a.tmps)) : SteadyAll P ops o v a' := by
 unfold SteadyAll Oper.quietAt at *
 rw [he, hw]
 exact h
theorem wpAnyH_firstAll {hard : List Nat} {i : Nat} {oi : Oper} {v : Value} (hi : ops[i]? = some oi) (hsel : ∀ (j : Nat) (o : Oper) cs b, ops[j]? = some o → o.op ≠ .select cs b)
 (hQ : ∀ c a w, Q (.panic c) (a.put oi.dst v) w → Q (.panic c) a w) :
 ∀ (n : Nat) (listed : Array Bool) (a : Act) (w : World),
  (∀ j oj, ops[j]? = some oj → j ≠ i → listed.getD j true = false → (∀ e ∈ oj.after, Region.binds md e = true → e.on ≠ i) → oi.apart ops oj = true) →
  i ∈ Region.ready md ops listed → SteadyAll P ops oi v a →
  wpAnyH P md ops Q hard n (listed.setIfInBounds i true) (a.put oi.dst v) w → wpAnyH P md ops Q hard (n + 1) listed a w := by
 intro n
 induction n with
 | zero =>
  intro listed a w _ hr hy H
  refine ⟨fun h => absurd hr (by rw [h]; exact List.not_mem_nil), fun j hj => ?_⟩
  by_cases hji : j = i
  · subst hji; exact (hy.at w).wpOp hi ⟨.inr (Grows.refl _), H⟩
  · have := ready_mono hj hji
    rw [H.1] at this
    exact absurd this List.not_mem_nil
 | succ n ih =>
  intro listed a w hfree hr hy H
  refine ⟨fun h => absurd hr (by rw [h]; exact List.not_mem_nil), fun j hj => ?_⟩
  by_cases hji : j = i
  · subst hji; exact (hy.at w).wpOp hi ⟨.inr (Grows.refl _), H⟩
  · have hjin := ready_mono hj hji
    obtain ⟨hun, oj, hoj, hall⟩ := mem_ready.1 hj
    have hiun := (mem_ready.1 hr).1
    have hno : ∀ e ∈ oj.after, Region.binds md e = true → e.on ≠ i := by
     intro e he hb heq
     have hx := hall e he hb
     rw [heq] at hx
     rcases Nat.lt_or_ge i listed.size with hlt | hge
     · simp [hlt] at hiun hx; rw [hiun] at hx; exact absurd hx Bool.false_ne_true
     · simp [Array.getElem?_eq_none hge] at hx
    have hs := wpOp_swap hoj (hfree j oj hoj hji hun hno) (fun cs b => hsel i oi cs b hi) (fun cs b => hsel j oj cs b hoj) hQ (H.2 j hjin)
    refine wpOp_mono (fun a' w' hh => ?_) hs
    refine ⟨hh.2.1, ?_⟩
    refine ih (listed.setIfInBounds j true) a' w' (fun k ok hk hki hku hkn => hfree k ok hk hki ?_ hkn) (ready_mono hr (Ne.symm hji)) (hy.turn hh.1.1 hh.1.2) ?_
    · by_cases hjk : j = k
      · subst hjk; exact hun
      · rwa [getD_set_ne true hjk] at hku
    · rw [Array.setIfInBounds_comm _ _ hji]
      exact hh.2.2
def wpLinP (P : Program) (ops : Array Oper) (Q : Exit → Act → World → Prop) : List (Nat × Nat) → Act → World → Prop
 | [], a, w => Q .normal a w
 | (i, 0) :: rest, a, w => ∃ o, ops[i]? = some o ∧ ∃ v, Steady P ops o v a w ∧ wpLinP P ops Q rest (a.put o.dst v) w
 | (i, 1) :: rest, a, w => ∃ o, ops[i]? = some o ∧ if Region.wanted o (yielded ops a.tmps) = true then o.wp P a w (fun a' w' => Grows w w' ∧ wpLinP P ops Q rest a' w') Q else wpLinP P ops Q rest (a.put o.dst undef) w
 | (i, 2) :: rest, a, w => ∃ o, ops[i]? = some o ∧ if Region.wanted o (yielded ops a.tmps) = true then o.wp P a w (fun a' w' => wpLinP P ops Q rest a' w') Q else wpLinP P ops Q rest (a.put o.dst undef) w
 | (i, _ + 3) :: rest, a, w => ∃ o, ops[i]? = some o ∧ ∃ v, SteadyAll P ops o v a ∧ wpLinP P ops Q rest (a.put o.dst v) w
def linFromP (md : Region.Mode) (ops : Array Oper) (hard : List Nat) : List (Nat × Nat) → Array Bool → Bool
 | [], listed => (Region.ready md ops listed).isEmpty
 | (k, 0) :: fl, listed => (Region.ready md ops listed).contains k && Region.free md ops listed k && !hard.contains k && hard.all (fun j => listed.getD j true || (ancs md ops ops.size j).contains k) && linFromP md ops hard fl (listed.setIfInBounds k true)
 | (k, 1) :: fl, listed => (Region.ready md ops listed == [k]) && linFromP md ops hard fl (listed.setIfInBounds k true)
 | (k, 2) :: fl, listed => (Region.ready md ops listed == [k]) && hard.contains k && linFromP md ops hard fl (listed.setIfInBounds k true)
 | (k, _ + 3) :: fl, listed => (Region.ready md ops listed).contains k && Region.free md ops listed k && linFromP md ops hard fl (listed.setIfInBounds k true)
theorem wpAnyP_lin {hard : List Nat} (hs : Region.noSelect ops = true) (hQ : ∀ (d : Option Tmp) (v : Value), ∀ c a w, Q (.panic c) (a.put d v) w → Q (.panic c) a w) :
 ∀ (l : List (Nat × Nat)) (listed : Array Bool) (a : Act) (w : World), Closed md ops listed → linFromP md ops hard l listed = true → wpLinP P ops Q l a w → wpAnyH P md ops Q hard l.length listed a w
 | [], _, _, _, _, hB, h => ⟨by simpa [linFromP] using hB, h⟩
 | (k, 0) :: l, listed, a, w, hcl, hB, h => by
  obtain ⟨o, h0, v, hy, hK⟩ := h
  simp only [linFromP, Bool.and_eq_true] at hB
  obtain ⟨⟨⟨⟨hr, hf⟩, hh1⟩, hh2⟩, hB'⟩ := hB
  have hr' : k ∈ Region.ready md ops listed := by simpa using hr
  refine wpAnyH_first h0 (Region.noSelect_spec hs) (hQ o.dst v) (by simpa using hh1) l.length listed a w hcl (fun j hj => ?_) (Region.free_spec h0 hf) hr' hy
   (wpAnyP_lin hs hQ l _ _ _ (hcl.add hr') hB' hK)
  have := List.all_eq_true.1 hh2 j hj
  simpa using this
 | (k, 1) :: l, listed, a, w, hcl, hB, h => by
  obtain ⟨o, h0, h⟩ := h
  simp only [linFromP, Bool.and_eq_true, beq_iff_eq] at hB
  obtain ⟨hr, hB'⟩ := hB
  refine ⟨fun hx => by rw [hr] at hx; exact absurd hx (List.cons_ne_nil _ _), fun i hi => ?_⟩
  have hcl' := hcl.add hi
  rw [hr, List.mem_singleton] at hi
  subst hi
  have hrest : ∀ a' w', wpLinP P ops Q l a' w' → wpAnyH P md ops Q hard l.length (listed.setIfInBounds i true) a' w' := fun a' w' hh => wpAnyP_lin hs hQ l _ _ _ hcl' hB' hh
  unfold wpOp
  rw [h0]
  simp only []
  split
  · rename_i hw
    rw [if_pos hw] at h
    exact .inl (Oper.wp_mono (fun a' w' hh => ⟨.inr hh.1, hrest a' w' hh.2⟩) h)
  · rename_i hw
    rw [if_neg hw] at h
    exact ⟨.inr (Grows.refl _), hrest _ _ h⟩
 | (k, 2) :: l, listed, a, w, hcl, hB, h => by
  obtain ⟨o, h0, h⟩ := h
  simp only [linFromP, Bool.and_eq_true, beq_iff_eq] at hB
  obtain ⟨⟨hr, hhd⟩, hB'⟩ := hB
  refine ⟨fun hx => by rw [hr] at hx; exact absurd hx (List.cons_ne_nil _ _), fun i hi => ?_⟩
  have hcl' := hcl.add hi
  rw [hr, List.mem_singleton] at hi
  subst hi
  have hrest : ∀ a' w', wpLinP P ops Q l a' w' → wpAnyH P md ops Q hard l.length (listed.setIfInBounds i true) a' w' := fun a' w' hh => wpAnyP_lin hs hQ l _ _ _ hcl' hB' hh
  unfold wpOp
  rw [h0]
  simp only []
  split
  · rename_i hw
    rw [if_pos hw] at h
    exact .inl (Oper.wp_mono (fun a' w' hh => ⟨.inl (by simpa using hhd), hrest a' w' hh⟩) h)
  · rename_i hw
    rw [if_neg hw] at h
    exact ⟨.inr (Grows.refl _), hrest _ _ h⟩
 | (k, m + 3) :: l, listed, a, w, hcl, hB, h => by
  obtain ⟨o, h0, v, hy, hK⟩ := h
  simp only [linFromP, Bool.and_eq_true] at hB
  obtain ⟨⟨hr, hf⟩, hB'⟩ := hB
  have hr' : k ∈ Region.ready md ops listed := by simpa using hr
  exact wpAnyH_firstAll h0 (Region.noSelect_spec hs) (hQ o.dst v) l.length listed a w (Region.free_spec h0 hf) hr' hy (wpAnyP_lin hs hQ l _ _ _ (hcl.add hr') hB' hK)
theorem wp_region_linP {id : Nat} {a : Act} {w : World} {l : List Oper} (fl : List (Nat × Nat)) (hard : List Nat) (hm : P.follows .mixedOrders = true) (hB : (Region.noSelect l.toArray && (l.length == fl.length) && linFromP .any l.toArray hard fl (Array.replicate l.length false)) = true)
 (hQ : ∀ (d : Option Tmp) (v : Value), ∀ c a w, Q (.panic c) (a.put d v) w → Q (.panic c) a w)
 (h : wpLinP P l.toArray Q fl a w.drew) : (Code.region id l.toArray true).wp P Q a w := by
 simp only [Bool.and_eq_true, beq_iff_eq] at hB
 obtain ⟨⟨hs, hlen⟩, hB⟩ := hB
 refine wp_region_any hm ?_
 have key := wpAny_of_H _ _ _ _ (wpAnyP_lin (md := .any) hs hQ fl (Array.replicate l.length false) a w.drew (Closed.none _) hB h)
 rw [← hlen] at key
 simpa using key
theorem wpLinP_nil {a : Act} {w : World} (h : Q .normal a w) : wpLinP P ops Q [] a w := h
theorem wpLinP_take {i : Nat} {o : Oper} {rest : List (Nat × Nat)} {a : Act} {w : World} {v : Value} (hi : ops[i]? = some o) (hw : Region.wanted o (yielded ops a.tmps) = true) (hv : ∀ w', Grows w w' → o.quietAt P a (fun x => x = w') w' v)
 (h : ∀ K : Act → Prop, (∀ a, wpLinP P ops Q rest a w → K a) → K (a.put o.dst v)) : wpLinP P ops Q ((i, 0) :: rest) a w :=
 ⟨o, hi, v, .inl ⟨hw, hv⟩, h (fun a => wpLinP P ops Q rest a w) (fun _ h => h)⟩
theorem wpLinP_skip {i : Nat} {o : Oper} {rest : List (Nat × Nat)} {a : Act} {w : World} (hi : ops[i]? = some o) (hw : Region.wanted o (yielded ops a.tmps) = false)
 (h : ∀ K : Act → Prop, (∀ a, wpLinP P ops Q rest a w → K a) → K (a.put o.dst undef)) : wpLinP P ops Q ((i, 0) :: rest) a w :=
 ⟨o, hi, undef, .inr ⟨hw, rfl⟩, h (fun a => wpLinP P ops Q rest a w) (fun _ h => h)⟩
theorem wpLinP_pure {i : Nat} {o : Oper} {rest : List (Nat × Nat)} {a : Act} {w : World} {v : Value} (hi : ops[i]? = some o) (hw : Region.wanted o (yielded ops a.tmps) = true) (hv : ∀ w', o.quietAt P a (fun x => x = w') w' v)
 (h : ∀ K : Act → Prop, (∀ a, wpLinP P ops Q rest a w → K a) → K (a.put o.dst v)) : wpLinP P ops Q ((i, 3) :: rest) a w :=
 ⟨o, hi, v, .inl ⟨hw, hv⟩, h (fun a => wpLinP P ops Q rest a w) (fun _ h => h)⟩
theorem wpLinP_do {i : Nat} {o : Oper} {rest : List (Nat × Nat)} {a : Act} {w : World} (hi : ops[i]? = some o)
 (h : ∀ K : Act → World → Prop, (∀ a w', Grows w w' → wpLinP P ops Q rest a w' → K a w') → if Region.wanted o (yielded ops a.tmps) = true then o.wp P a w K Q else K (a.put o.dst undef) w) :
 wpLinP P ops Q ((i, 1) :: rest) a w := by
 have := h (fun a' w' => Grows w w' ∧ wpLinP P ops Q rest a' w') (fun _ _ h1 h2 => ⟨h1, h2⟩)
 refine ⟨o, hi, ?_⟩
 split
 · rename_i hw; rwa [if_pos hw] at this
 · rename_i hw; rw [if_neg hw] at this; exact this.2
theorem wpLinP_hard {i : Nat} {o : Oper} {rest : List (Nat × Nat)} {a : Act} {w : World} (hi : ops[i]? = some o)
 (h : ∀ K : Act → World → Prop, (∀ a w', wpLinP P ops Q rest a w' → K a w') → if Region.wanted o (yielded ops a.tmps) = true then o.wp P a w K Q else K (a.put o.dst undef) w) :
 wpLinP P ops Q ((i, 2) :: rest) a w := by
 have := h (fun a' w' => wpLinP P ops Q rest a' w') (fun _ _ h2 => h2)
 refine ⟨o, hi, ?_⟩
 split
 · rename_i hw; rwa [if_pos hw] at this
 · rename_i hw; rw [if_neg hw] at this; exact this
end
end Go.Proofs.YtebmbkbnngeabaaGreat

set_option linter.unusedSimpArgs false
namespace Go.Proofs.YtebmbkbnngeabaaGreat
open Go.RowKit
set_option linter.unusedVariables false
theorem conv_grown {w : World} {ao : Option Addr} {n cap : Nat} {l : List Nat} (hl : l.length = n) (hc : CellsAt w w.heap.size ao n (u8c l)) (hn : ao = none → n = 0) :
 ∀ w', Grows w w' → (convert 24 9 (.slice ao n cap)).run Tryz.prog w' = .ok (.string (strOf l)) w' := fun w' h =>
 run_string_of (P := Tryz.prog) 24 5 9 Tryz.underlying24 Tryz.underlying5 Tryz.underlying9 hl (h.cells hc) hn
theorem Cloned.cap {w w' : World} {E : TypeId} {ao ao' : Option Addr} {m cap' : Nat} {f : Nat → Value} (h : Cloned w w' E ao ao' m cap' f) : m ≤ cap' := by
 rcases h with ⟨h, -⟩ | ⟨h0, h⟩
 · omega
 · rcases h.2 with ⟨-, h3⟩ | ⟨g, c2, cur, h3, -, -, h4, -⟩
   · omega
   · simp only [Value.slice.injEq] at h3; omega
end Go.Proofs.YtebmbkbnngeabaaGreat

set_option linter.unusedSimpArgs false
namespace Go.Proofs.YtebmbkbnngeabaaGreat
open Go.RowKit
set_option linter.unusedVariables false
theorem Tryz.infoV : (Tryz.prog.info? 81).map (fun i => (i.zero, i.size, i.bytes)) = some (some (.agg #[.int .i64 0, .string ByteArray.empty]), 2, 24) := by kernel_rfl
theorem sl_v : SlT Tryz.prog 31 81 2 24 (.agg #[.int .i64 0, .string ByteArray.empty]) := ⟨Tryz.underlying31, Tryz.infoV, rfl, by decide⟩
theorem wrap_both (n : Int) : wrap64 (wrap32 n) = IntKind.i32.wrap n := by
 rw [IntKind.wrap_i32]; unfold wrap64 wrap32; omega
theorem Tryz.guardV : Tryz.prog.eqGuardType Tryz.prog.depth 81 = false := by kernel_rfl
theorem Tryz.heldV : Tryz.prog.stoodInHeld 81 = false := by kernel_rfl
theorem str_beq (a b : ByteArray) : (a.toList == b.toList) = decide (a = b) := by
 rw [← beq_toListBytes]
 by_cases h : a = b
 · subst h
   rw [decide_eq_true rfl, beq_toListBytes]
   simp
 · rw [decide_eq_false h, beq_toListBytes, beq_eq_false_iff_ne]
   intro e
   apply h
   rw [ByteArray.toList_eq, ByteArray.toList_eq] at e
   exact ByteArray.ext (Array.ext' e)
theorem equal_v (w : World) (x y : Vl) : (Op.equalIn 10000 81 (.agg #[.int .i64 x.1, .string x.2]) (.agg #[.int .i64 y.1, .string y.2])).run Tryz.prog w = .ok (decide (x = y)) w := by
 have hf : Tryz.prog.underlying 81 = some (.struct (Tryz.prog.fieldsOf 81)) := by
  unfold Program.fieldsOf; rw [Tryz.underlying81]
 rw [run_equalIn_agg w 9999 81 _ _ hf Tryz.heldV]
 simp only [Program.fieldsOf, Tryz.underlying81]
 obtain ⟨a, s⟩ := x
 obtain ⟨b, t⟩ := y
 have hd : decide (((a, s) : Vl) = (b, t)) = ((a == b) && decide (s = t)) := by
  rw [Bool.eq_iff_iff]; simp
 rw [hd, ← str_beq]
 simp [Op.eqFields, go_sem, Tryz.underlying3, Tryz.underlying9]
 by_cases h1 : a = b
 · by_cases h2 : s.toList = t.toList
   · simp [h1, h2]
   · simp [h1, h2]
 · simp [h1]
end Go.Proofs.YtebmbkbnngeabaaGreat

set_option linter.unusedSimpArgs false
namespace Go.Proofs.YtebmbkbnngeabaaGreat
open Go.RowKit Go.Maps
set_option linter.unusedVariables false
instance decMem (v : Vl) (ws : List Vl) : Decidable (v ∈ ws) := decidable_of_iff (ws.any (fun x => decide (x = v)) = true) (by simp)
def dIdx (v : Vl) : List Vl → Nat
 | [] => 0
 | x :: t => if x = v then 0 else dIdx v t + 1
def dStep (ws : List Vl) (v : Vl) : List Vl := if v ∈ ws then ws else ws ++ [v]
def dWords (l : List Vl) : List Vl := l.foldl dStep []
def dAtsFrom : List Vl → List Vl → List Nat
 | _, [] => []
 | ws, v :: l => dIdx v (dStep ws v) :: dAtsFrom (dStep ws v) l
def dAts (l : List Vl) : List Nat := dAtsFrom [] l
theorem dAtsFrom_snoc : ∀ (l ws : List Vl) (v : Vl), dAtsFrom ws (l ++ [v]) = dAtsFrom ws l ++ [dIdx v (dStep (l.foldl dStep ws) v)]
 | [], ws, v => rfl
 | x :: l, ws, v => by simp only [List.cons_append, dAtsFrom, dAtsFrom_snoc l, List.foldl_cons]
theorem dAts_snoc (l : List Vl) (v : Vl) : dAts (l ++ [v]) = dAts l ++ [dIdx v (dStep (dWords l) v)] := dAtsFrom_snoc l [] v
theorem dWords_snoc (l : List Vl) (v : Vl) : dWords (l ++ [v]) = dStep (dWords l) v := by simp [dWords, List.foldl_append]
theorem dIdx_new (v : Vl) (ws : List Vl) (h : v ∉ ws) : dIdx v (ws ++ [v]) = ws.length := by
 induction ws with
 | nil => simp [dIdx]
 | cons x ws ih =>
  simp only [List.cons_append, dIdx, List.length_cons]
  rw [if_neg (fun e => h (by rw [e]; exact List.mem_cons_self ..)), ih (fun e => h (List.mem_cons_of_mem _ e))]
theorem dStep_pre (ws : List Vl) (v : Vl) : ∃ t, dStep ws v = ws ++ t := by
 unfold dStep; split
 · exact ⟨[], by simp⟩
 · exact ⟨[v], rfl⟩
theorem foldl_pre : ∀ (l ws : List Vl), ∃ t, l.foldl dStep ws = ws ++ t
 | [], ws => ⟨[], by simp⟩
 | v :: l, ws => by
  obtain ⟨t1, h1⟩ := dStep_pre ws v
  obtain ⟨t2, h2⟩ := foldl_pre l (dStep ws v)
  exact ⟨t1 ++ t2, by rw [List.foldl_cons, h2, h1, List.append_assoc]⟩
theorem dWords_app (l m : List Vl) : ∃ t, dWords (l ++ m) = dWords l ++ t := by
 unfold dWords; rw [List.foldl_append]; exact foldl_pre m _
theorem dWords_take_le (l : List Vl) (k : Nat) : (dWords (l.take k)).length ≤ (dWords l).length := by
 obtain ⟨t, h⟩ := dWords_app (l.take k) (l.drop k)
 rw [List.take_append_drop] at h
 rw [h, List.length_append]; omega
theorem own_apartD {w : World} {b1 b2 : Nat} {e1 e2 : TypeId} {s1 s2 : Nat} {v1 v2 : Value} {n1 n2 : Nat} {x1 x2 : List Value} (h1 : w.ownsRow b1 e1 s1 v1 n1 x1) (h2 : w.ownsRow b2 e2 s2 v2 n2 x2) (he : e1 ≠ e2) : v1.ownBlock = none ∨ v1.ownBlock ≠ v2.ownBlock := by
 rcases h1.2 with ⟨rfl, -⟩ | ⟨g1, c1, cur1, rfl, -, hg1, -⟩
 · exact .inl rfl
 · right
   rcases h2.2 with ⟨rfl, -⟩ | ⟨g2, c2, cur2, rfl, -, hg2, -⟩
   · simp [Value.ownBlock]
   · simp only [Value.ownBlock, ne_eq, Option.some.injEq]
     rintro rfl
     rw [hg1] at hg2
     simp only [Option.some.injEq, Obj.cells.injEq] at hg2
     exact he hg2.2.1
end Go.Proofs.YtebmbkbnngeabaaGreat

set_option linter.unusedSimpArgs false
namespace Go.Proofs.YtebmbkbnngeabaaGreat
open Go.RowKit
set_option linter.unusedVariables false
theorem Tryz.infoI64 : (Tryz.prog.info? 3).map (fun i => (i.zero, i.size, i.bytes)) = some (some (.int .i64 0), 1, 8) := by kernel_rfl
theorem sl_i64 : SlT Tryz.prog 22 3 1 8 (.int .i64 0) := ⟨Tryz.underlying22, Tryz.infoI64, rfl, by decide⟩
def JNone (w : World) (a' : Act) (w' : World) : Prop := ∃ u0 u1 u2 u3 u4 u5 u6 u7 u8 u9 u10 u11 u12 u13 u14 u15 u16 u17 u18 u19 u20 u21 u22 u23 u24 u25 u26 u27 u28 u29 u30 u31 u32 u33 u34 u35 u36 u37 u38 u39 u40 u41 u42 u43 u44 u45 u46 u47 u48 u49 u50 u51 u52 u53 u54 u55 u56 u57 u58 u59 u60 u61 u62 : Value, a' = { tmps := #[u0, u1, u2, u3, u4, u5, u6, u7, u8, u9, u10, u11, u12, u13, u14, u15, u16, u17, u18, u19, u20, u21, u22, u23, u24, u25, u26, u27, u28, u29, u30, u31, u32, u33, u34, u35, u36, u37, u38, u39, u40, u41, u42, u43, u44, u45, u46, u47, u48, u49, u50, u51, u52, u53, u54, u55, u56, u57, u58, u59, u60, u61, u62], defers := [] } ∧ Below w.heap.size w w'
theorem JNone.mk {w w' : World} (hb : Below w.heap.size w w') {u0 u1 u2 u3 u4 u5 u6 u7 u8 u9 u10 u11 u12 u13 u14 u15 u16 u17 u18 u19 u20 u21 u22 u23 u24 u25 u26 u27 u28 u29 u30 u31 u32 u33 u34 u35 u36 u37 u38 u39 u40 u41 u42 u43 u44 u45 u46 u47 u48 u49 u50 u51 u52 u53 u54 u55 u56 u57 u58 u59 u60 u61 u62 : Value} : JNone w { tmps := #[u0, u1, u2, u3, u4, u5, u6, u7, u8, u9, u10, u11, u12, u13, u14, u15, u16, u17, u18, u19, u20, u21, u22, u23, u24, u25, u26, u27, u28, u29, u30, u31, u32, u33, u34, u35, u36, u37, u38, u39, u40, u41, u42, u43, u44, u45, u46, u47, u48, u49, u50, u51, u52, u53, u54, u55, u56, u57, u58, u59, u60, u61, u62], defers := [] } w' := ⟨_, _, _, _, _, _, _, _, _, _, _, _, _, _, _, _, _, _, _, _, _, _, _, _, _, _, _, _, _, _, _, _, _, _, _, _, _, _, _, _, _, _, _, _, _, _, _, _, _, _, _, _, _, _, _, _, _, _, _, _, _, _, _, rfl, hb⟩
def dAtsI (l : List Vl) : List Int := (dAts l).map Int.ofNat
theorem dAtsI_snoc (l : List Vl) (v : Vl) : dAtsI (l ++ [v]) = dAtsI l ++ [(dIdx v (dStep (dWords l) v) : Int)] := by simp [dAtsI, dAts_snoc]
end Go.Proofs.YtebmbkbnngeabaaGreat

set_option linter.unusedSimpArgs false
namespace Go.Proofs.YtebmbkbnngeabaaGreat
open Go.RowKit
set_option linter.unusedVariables false
def parL (P : Nat → Nat) (n : Nat) : List Int := (List.range n).map fun i => if i = 0 then -1 else (P i : Int)
def depL (dep : Nat → Nat) (n : Nat) : List Int := (List.range n).map fun i => (dep i : Int)
theorem parL_succ (P : Nat → Nat) (n : Nat) : parL P (n + 1) = parL P n ++ [if n = 0 then -1 else (P n : Int)] := by simp [parL, List.range_succ]
theorem depL_succ (dep : Nat → Nat) (n : Nat) : depL dep (n + 1) = depL dep n ++ [(dep n : Int)] := by simp [depL, List.range_succ]
theorem parL_at (P : Nat → Nat) (n i : Nat) (h : i < n) : (parL P n).getD i 0 = if i = 0 then -1 else (P i : Int) := by simp [parL, h]
def mW (F : List Fd) (dep : Nat → Nat) : Nat → Nat
 | 0 => 0
 | i + 1 => if (fAt F i).kind = 0 then dep i + 1 else dep i
def leftV (F : List Fd) (P : Nat → Nat) (g i : Nat) : Int := ((fAt F g).kids : Int) - (cntTo P g i : Int)
def leftL (F : List Fd) (P : Nat → Nat) (anc : Nat → Nat → Nat) (i m : Nat) : List Int := (List.range m).map fun k => leftV F P (anc (i - 1) k) i
theorem leftL_at (F : List Fd) (P : Nat → Nat) (anc : Nat → Nat → Nat) (i m k : Nat) (h : k < m) : (leftL F P anc i m).getD k 0 = leftV F P (anc (i - 1) k) i := by simp [leftL, h]
theorem leftL_take (F : List Fd) (P : Nat → Nat) (anc : Nat → Nat → Nat) (i m : Nat) : (leftL F P anc i (m + 1)).take m = leftL F P anc i m := by
 simp only [leftL, ← List.map_take, List.take_range]
 congr 2; omega
theorem openL_take' (anc : Nat → Nat → Nat) (n m : Nat) : (openL anc n (m + 1)).take m = openL anc n m := by
 simp only [openL, ← List.map_take, List.take_range]
 congr 2; omega
section
variable {F : List Fd} {P dep : Nat → Nat} {anc : Nat → Nat → Nat}
theorem Sch.dep_zero (h : Sch F P dep anc) (q : Nat) (hq : q < F.length) (h0 : dep q = 0) : q = 0 := by
 rcases Nat.eq_zero_or_pos q with e | e
 · exact e
 · have := (h.par q e hq).2.1; omega
theorem Sch.anc_up (h : Sch F P dep anc) (i u : Nat) (hi : i < F.length) (hu : u + 1 ≤ dep i) : 0 < anc i (u + 1) ∧ P (anc i (u + 1)) = anc i u := by
 obtain ⟨a1, a2, -⟩ := h.anc_facts (i + 1) i (by omega) hi (u + 1) hu
 have hq : anc i (u + 1) < F.length := by omega
 have h0 : 0 < anc i (u + 1) := by
  rcases Nat.eq_zero_or_pos (anc i (u + 1)) with e | e
  · rw [e, h.d0] at a2; omega
  · exact e
 obtain ⟨p1, p2, -⟩ := h.par _ h0 hq
 refine ⟨h0, ?_⟩
 have e1 := h.anc_anc (i + 1) i (by omega) hi (u + 1) u (by omega) hu
 rw [h.up _ h0 hq u (by omega)] at e1
 have e2 := h.self (P (anc i (u + 1))) (by omega)
 rw [show dep (P (anc i (u + 1))) = u by omega] at e2
 rw [← e1, e2]
theorem FinS.dep_le (h : FinS F P dep anc) (i : Nat) (h0 : 0 < i) (hi : i < F.length) : dep i ≤ mW F dep i := by
 obtain ⟨p1, p2, p3⟩ := h.par i h0 hi
 obtain ⟨q1, q2⟩ := h.pre i h0 hi
 obtain ⟨j, rfl⟩ : ∃ j, i = j + 1 := ⟨i - 1, by omega⟩
 rw [Nat.add_sub_cancel] at q1 q2
 simp only [mW]
 split
 · omega
 · rename_i hk
   by_cases e : dep (P (j + 1)) = dep j
   · rw [e, h.self j (by omega)] at q2
     rw [q2] at hk
     exact absurd p3 hk
   · omega
theorem FinS.mW_le (h : FinS F P dep anc) : ∀ i, i ≤ F.length → mW F dep i ≤ 6
 | 0, _ => Nat.zero_le _
 | i + 1, hi => by
  have := h.deep i (by omega)
  simp only [mW]; split <;> omega
theorem FinS.left_zero (h : FinS F P dep anc) (i : Nat) (h0 : 0 < i) (hi : i < F.length) (k : Nat) (hk : dep i ≤ k) (hk2 : k < mW F dep i) : leftV F P (anc (i - 1) k) i = 0 := by
 obtain ⟨p1, p2, p3⟩ := h.par i h0 hi
 have hk3 : k ≤ dep (i - 1) ∧ (fAt F (anc (i - 1) k)).kind = 0 := by
  obtain ⟨j, rfl⟩ : ∃ j, i = j + 1 := ⟨i - 1, by omega⟩
  rw [Nat.add_sub_cancel]
  simp only [mW] at hk2
  split at hk2
  · rename_i hz
    refine ⟨by omega, ?_⟩
    by_cases e : k = dep j
    · rw [e, h.self j (by omega)]; exact hz
    · exact (h.toSch.anc_facts (j + 1) j (by omega) (by omega) k (by omega)).2.2 (by omega)
  · exact ⟨by omega, (h.toSch.anc_facts (j + 1) j (by omega) (by omega) k (by omega)).2.2 (by omega)⟩
 obtain ⟨a1, a2, a3⟩ := h.toSch.anc_facts (i - 1 + 1) (i - 1) (by omega) (by omega) k hk3.1
 have hn := h.toSch.no_more i h0 hi k (by omega) hk3.1 F.length (by omega) (Nat.le_refl _)
 unfold leftV
 rw [h.kids _ (by omega), if_pos hk3.2, hn]; omega
theorem FinS.left_pos (h : FinS F P dep anc) (i : Nat) (h0 : 0 < i) (hi : i < F.length) : 0 < leftV F P (P i) i := by
 obtain ⟨p1, p2, p3⟩ := h.par i h0 hi
 unfold leftV
 rw [h.kids _ (by omega), if_pos p3]
 have := cntTo_lt P (P i) i F.length h0 rfl hi
 omega
theorem FinS.open_next (h : FinS F P dep anc) (i : Nat) (h0 : 0 < i) (hi : i < F.length) : openL anc i (dep i) = openL anc (i + 1) (dep i) := by
 obtain ⟨p1, p2, p3⟩ := h.par i h0 hi
 obtain ⟨q1, q2⟩ := h.pre i h0 hi
 refine List.map_congr_left fun k hk => ?_
 have hk := List.mem_range.1 hk
 rw [Nat.add_sub_cancel, h.up i h0 hi k (by omega), ← q2, h.toSch.anc_anc (i - 1 + 1) (i - 1) (by omega) (by omega) _ k (by omega) q1]
theorem FinS.left_next (h : FinS F P dep anc) (i : Nat) (h0 : 0 < i) (hi : i < F.length) : (leftL F P anc i (dep i)).set (dep i - 1) (leftV F P (P i) i - 1) = leftL F P anc (i + 1) (dep i) := by
 obtain ⟨p1, p2, p3⟩ := h.par i h0 hi
 obtain ⟨q1, q2⟩ := h.pre i h0 hi
 refine List.ext_getElem (by simp [leftL]) fun k k1 k2 => ?_
 have hk : k < dep i := by simpa [leftL] using k2
 rw [List.getElem_set]
 have e : anc i k = anc (i - 1) k := by
  rw [h.up i h0 hi k (by omega), ← q2, h.toSch.anc_anc (i - 1 + 1) (i - 1) (by omega) (by omega) _ k (by omega) q1]
 obtain ⟨a1, a2, a3⟩ := h.toSch.anc_facts (i - 1 + 1) (i - 1) (by omega) (by omega) k (by omega)
 simp only [leftL, List.getElem_map, List.getElem_range, Nat.add_sub_cancel, e]
 by_cases hx : dep i - 1 = k
 · rw [if_pos hx]
   have e2 : anc (i - 1) k = P i := by rw [← hx, ← q2]; congr 1; omega
   rw [e2]
   unfold leftV
   rw [cntTo_at P (P i) i h0 rfl]; omega
 · rw [if_neg hx]
   unfold leftV
   rw [cntTo_not P _ i (fun hh => by rw [← hh.2] at a2; omega)]
theorem FinS.left_new (h : FinS F P dep anc) (i : Nat) (hi : i < F.length) : leftV F P i (i + 1) = ((fAt F i).kids : Int) := by
 unfold leftV
 rw [cntTo_none P i (i + 1) (fun j h0 hj => by
  have := (h.par j h0 (by omega)).1
  omega)]
 omega
theorem FinS.open_push (h : FinS F P dep anc) (i : Nat) (hi : i < F.length) : openL anc (i + 1) (dep i + 1) = openL anc (i + 1) (dep i) ++ [(i : Int)] := by
 unfold openL
 rw [List.range_succ, List.map_append, Nat.add_sub_cancel]
 simp [h.self i hi]
theorem FinS.left_push (h : FinS F P dep anc) (i : Nat) (hi : i < F.length) : leftL F P anc (i + 1) (dep i + 1) = leftL F P anc (i + 1) (dep i) ++ [((fAt F i).kids : Int)] := by
 unfold leftL
 rw [List.range_succ, List.map_append, Nat.add_sub_cancel]
 simp [h.self i hi, h.left_new i hi]
end
end Go.Proofs.YtebmbkbnngeabaaGreat

set_option linter.unusedSimpArgs false
namespace Go.Proofs.YtebmbkbnngeabaaGreat
open Go.RowKit
set_option linter.unusedVariables false
def PartsOk (w : World) (B : Nat) (ao : Option Addr) (n : Nat) (ps : List (List Nat)) : Prop :=
 ps.length = n ∧ ∀ i, i < n → ∃ b off, ao = some ⟨b, off, none⟩ ∧ b < B ∧ ∃ a m c, w.cell? ⟨b, off + i, none⟩ = some (.slice a m c) ∧ (ps.getD i []).length = m ∧ (a = none → m = 0 ∧ c = 0) ∧ CellsAt w B a m (u8c (ps.getD i []))
theorem PartsOk.below {w w' : World} {B : Nat} {ao : Option Addr} {n : Nat} {ps : List (List Nat)} (h : PartsOk w B ao n ps) (hb : Below B w w') : PartsOk w' B ao n ps :=
 ⟨h.1, fun i hi => let ⟨b, off, e, hlt, a, m, c, h1, h2, h3, h4⟩ := h.2 i hi; ⟨b, off, e, hlt, a, m, c, (hb.cell (by exact hlt)).trans h1, h2, h3, h4.below hb⟩⟩
theorem PartsOk.mono {w : World} {B B' : Nat} {ao : Option Addr} {n : Nat} {ps : List (List Nat)} (h : PartsOk w B ao n ps) (hB : B ≤ B') : PartsOk w B' ao n ps :=
 ⟨h.1, fun i hi => let ⟨b, off, e, hlt, a, m, c, h1, h2, h3, h4⟩ := h.2 i hi; ⟨b, off, e, Nat.lt_of_lt_of_le hlt hB, a, m, c, h1, h2, h3, h4.mono hB⟩⟩
end Go.Proofs.YtebmbkbnngeabaaGreat

set_option linter.unusedSimpArgs false
namespace Go.Proofs.YtebmbkbnngeabaaGreat
open Go.RowKit
set_option linter.unusedVariables false
theorem wraps_u32 (n : Int) (h0 : 0 ≤ n) (h1 : n < 2 ^ 32) : IntKind.u32.wrap n = n := by rw [IntKind.wrap_u32]; omega
theorem bits_and_u32 (a b : Nat) (ha : a < 4294967296) (hb : b < 4294967296) : bits .and .u32 (a : Int) (b : Int) = ((a &&& b : Nat) : Int) :=
 (bits_nat .u32 32 (by decide) wraps_u32 a b (by simpa using ha) (by simpa using hb)).1
theorem bits_xor_u32 (a b : Nat) (ha : a < 4294967296) (hb : b < 4294967296) : bits .xor .u32 (a : Int) (b : Int) = ((a ^^^ b : Nat) : Int) := by
 have hx : a ^^^ b < 2 ^ 32 := Nat.xor_lt_two_pow (by omega) (by omega)
 have h1 : (BitVec.ofInt 32 (a : Int)).toNat = a := by
  rw [BitVec.ofInt_natCast, BitVec.toNat_ofNat]; exact Nat.mod_eq_of_lt (by omega)
 have h2 : (BitVec.ofInt 32 (b : Int)).toNat = b := by
  rw [BitVec.ofInt_natCast, BitVec.toNat_ofNat]; exact Nat.mod_eq_of_lt (by omega)
 show IntKind.u32.wrap ((BitVec.ofInt 32 (a : Int) ^^^ BitVec.ofInt 32 (b : Int)).toNat : Int) = _
 rw [BitVec.toNat_xor, h1, h2]
 exact IntWalk.u32_in _ (by omega)
theorem low_u32 (c : Nat) (hc : c < 4294967296) : bits .and .u32 (c : Int) 1 = ((c % 2 : Nat) : Int) :=
 (bits_and_u32 c 1 hc (by decide)).trans (by rw [Nat.and_one_is_mod])
theorem odd_u32 (c : Nat) (hc : c < 4294967296) (h : c % 2 = 1) : (bits .and .u32 (c : Int) 1 != 0) = true := by rw [low_u32 c hc, h]; rfl
theorem even_u32 (c : Nat) (hc : c < 4294967296) (h : c % 2 = 0) : (bits .and .u32 (c : Int) 1 != 0) = false := by rw [low_u32 c hc, h]; rfl
theorem step_odd (c : Nat) (hc : c < 4294967296) (h : c % 2 = 1) : bits .xor .u32 ((c : Int) / 2) 3988292384 = ((cstep c : Nat) : Int) := by
 have e : ((c : Int) / 2) = ((c / 2 : Nat) : Int) := by omega
 rw [e]
 refine (bits_xor_u32 (c / 2) 3988292384 (by omega) (by decide)).trans ?_
 unfold cstep; rw [if_pos h]; rfl
theorem step_even (c : Nat) (h : c % 2 = 0) : ((c : Int) / 2) = ((cstep c : Nat) : Int) := by
 unfold cstep; rw [if_neg (by omega)]; omega
set_option maxHeartbeats 1000000 in
theorem add_n (c x : Nat) (w : World) (hc : c < 4294967296) (hx : x < 256) :
 Calls Tryz.prog 51 #[.int .u32 c, .int .u8 x] w fun e w' => e = .returned (.int .u32 (cadd c x : Nat)) ∧ w = w' := by
 have h0 : c ^^^ x < 4294967296 := by have := @Nat.xor_lt_two_pow c x 32 (by omega) (by omega); simpa using this
 have hxor := bits_xor_u32 c x hc (by omega)
 obtain ⟨c0, hc0⟩ : ∃ c0, c0 = c ^^^ x := ⟨_, rfl⟩
 rw [← hc0] at hxor h0
 have Hc0 := Lib.hid hc0; clear hc0
 go_enter Tryz.func51, Tryz.ntmps51
 go_wp2
 refine wp_scope_jumps 0 (fun a' w' => w' = w ∧ ∃ (m d : Nat) (u6 u7 u8 u9 u10 u11 u12 u13 u14 u15 u16 u17 u18 u19 u20 u21 u22 : Value), a' = { tmps := #[.int .u32 d, .int .u8 x, undef, undef, .int .u32 0, .int .i64 m, u6, u7, u8, u9, u10, u11, u12, u13, u14, u15, u16, u17, u18, u19, u20, u21, u22], defers := [] } ∧ m < 8 ∧ d < 4294967296 ∧ Hid (csteps (8 - m) d = csteps 8 c0)) (fun a' _ => 8 - (intOf (a'.tmps.getD 5 undef)).toNat) rfl ?_ ?_
 · go_wp2
   go_step3
   have hlt := cstep_lt c0 h0
   rcases Nat.mod_two_eq_zero_or_one c0 with hp | hp
   · have h1 := even_u32 c0 h0 hp
     have h2 := step_even c0 hp
     clear hp
     go_wp2
     go_step3
     exact ⟨rfl, rfl, 1, cstep c0, _, _, _, _, _, _, _, _, _, _, _, _, _, _, _, _, _, rfl, by omega, hlt, Lib.hid rfl⟩
   · have h1 := odd_u32 c0 h0 hp
     have h2 := step_odd c0 h0 hp
     clear hp
     go_wp2
     go_step3
     exact ⟨rfl, rfl, 1, cstep c0, _, _, _, _, _, _, _, _, _, _, _, _, _, _, _, _, _, rfl, by omega, hlt, Lib.hid rfl⟩
 · rintro a' w' ⟨rfl, m, d, u6, u7, u8, u9, u10, u11, u12, u13, u14, u15, u16, u17, u18, u19, u20, u21, u22, rfl, hm, hd, hs⟩
   have hlt := cstep_lt d hd
   have hs2 : Hid (csteps (8 - (m + 1)) (cstep d) = csteps 8 c0) := Lib.hid (by
    rw [← hs.out, show 8 - m = (8 - (m + 1)) + 1 by omega]; rfl)
   rcases Nat.mod_two_eq_zero_or_one d with hp | hp
   · have h1 := even_u32 d hd hp
     have h2 := step_even d hp
     clear hp
     by_cases hm7 : m + 1 < 8
     · go_wp2
       go_step3
       refine ⟨rfl, ⟨rfl, m + 1, cstep d, _, _, _, _, _, _, _, _, _, _, _, _, _, _, _, _, _, rfl, by omega, hlt, hs2⟩, ?_⟩
       show 8 - (((m : Nat) : Int) + 1).toNat < 8 - ((m : Nat) : Int).toNat
       omega
     · obtain rfl : m = 7 := by omega
       go_wp2
       simp only [Exit.jump]
       go_ret
       refine ⟨?_, rfl⟩
       have := hs2.out
       rw [cadd, ← Hc0.out, ← this]; rfl
   · have h1 := odd_u32 d hd hp
     have h2 := step_odd d hd hp
     clear hp
     by_cases hm7 : m + 1 < 8
     · go_wp2
       go_step3
       refine ⟨rfl, ⟨rfl, m + 1, cstep d, _, _, _, _, _, _, _, _, _, _, _, _, _, _, _, _, _, rfl, by omega, hlt, hs2⟩, ?_⟩
       show 8 - (((m : Nat) : Int) + 1).toNat < 8 - ((m : Nat) : Int).toNat
       omega
     · obtain rfl : m = 7 := by omega
       go_wp2
       simp only [Exit.jump]
       go_ret
       refine ⟨?_, rfl⟩
       have := hs2.out
       rw [cadd, ← Hc0.out, ← this]; rfl
def PartsAt (w : World) (B : Nat) (ao : Option Addr) (n : Nat) (ps : List (List Nat)) : Prop :=
 ps.length = n ∧ ∀ i, i < n → ∃ b off, ao = some ⟨b, off, none⟩ ∧ b < B ∧ ∃ a m c, w.cell? ⟨b, off + i, none⟩ = some (.slice a m c) ∧ (ps.getD i []).length = m ∧ m ≤ 9223372036854775807 ∧ CellsAt w B a m (u8c (ps.getD i []))
theorem PartsAt.below {w w' : World} {B : Nat} {ao : Option Addr} {n : Nat} {ps : List (List Nat)} (h : PartsAt w B ao n ps) (hb : Below B w w') : PartsAt w' B ao n ps :=
 ⟨h.1, fun i hi => let ⟨b, off, e, hlt, a, m, c, h1, h2, h3, h4⟩ := h.2 i hi; ⟨b, off, e, hlt, a, m, c, (hb.cell (by exact hlt)).trans h1, h2, h3, h4.below hb⟩⟩
theorem PartsAt.mono {w : World} {B B' : Nat} {ao : Option Addr} {n : Nat} {ps : List (List Nat)} (h : PartsAt w B ao n ps) (hB : B ≤ B') : PartsAt w B' ao n ps :=
 ⟨h.1, fun i hi => let ⟨b, off, e, hlt, a, m, c, h1, h2, h3, h4⟩ := h.2 i hi; ⟨b, off, e, Nat.lt_of_lt_of_le hlt hB, a, m, c, h1, h2, h3, h4.mono hB⟩⟩
theorem flatten_take (ps : List (List Nat)) (k : Nat) (hk : k < ps.length) : (ps.take (k + 1)).flatten = (ps.take k).flatten ++ ps.getD k [] := by
 rw [List.take_succ_eq_append_getElem hk, List.flatten_append, List.getD_eq_getElem?_getD, List.getElem?_eq_getElem hk]; simp
theorem creg_snoc (a : List Nat) (x : Nat) : creg (a ++ [x]) = cadd (creg a) x := by rw [csum_append]; rfl
theorem take_snoc' (p : List Nat) (j : Nat) (hj : j < p.length) : p.take (j + 1) = p.take j ++ [p.getD j 0] := by
 rw [List.take_succ_eq_append_getElem hj, List.getD_eq_getElem?_getD, List.getElem?_eq_getElem hj]; rfl
theorem mem_flatten_lt {ps : List (List Nat)} (h : ∀ p ∈ ps, ∀ x ∈ p, x < 256) : ∀ x ∈ ps.flatten, x < 256 := by
 intro x hx
 obtain ⟨p, hp, hxp⟩ := List.mem_flatten.1 hx
 exact h p hp x hxp
set_option maxHeartbeats 1000000 in
set_option maxRecDepth 100000 in
theorem sum_n (ao : Option Addr) (n cap : Nat) (ps : List (List Nat)) (w : World) (hn : n ≤ 9223372036854775807) (hb : ∀ p ∈ ps, ∀ x ∈ p, x < 256) (hc : PartsAt w w.heap.size ao n ps) :
 Calls Tryz.prog 24 #[.slice ao n cap] w fun e w' => e = .returned (.int .u32 (csum ps.flatten : Nat)) ∧ w = w' := by
 have Hb := Lib.hid hb; clear hb
 obtain ⟨hl, hc⟩ := hc
 have Hl := Lib.hid hl; clear hl
 go_enter Tryz.func24, Tryz.ntmps24
 go_wp2
 go_loop [3, 10] (fun c i => ∃ k : Nat, k ≤ n ∧ i = .int .i64 k ∧ c = .int .u32 (creg (ps.take k).flatten : Nat)) (fun _ i => n - (intOf i).toNat)
 case atStart => exact ⟨0, Nat.zero_le _, rfl, rfl⟩
 case round =>
  obtain ⟨k, hk, rfl, rfl⟩ := hrel
  by_cases hkn : k < n
  · obtain ⟨b, off, rfl, hb, a, m, c, hcell, hm, hm2, hpc⟩ := hc k hkn
    obtain ⟨p, hp⟩ : ∃ p, p = ps.getD k [] := ⟨_, rfl⟩
    have hp256 : Hid (∀ x ∈ p, x < 256) := Lib.hid (by
     rw [hp, List.getD_eq_getElem?_getD, List.getElem?_eq_getElem (by rw [Hl.out]; exact hkn)]
     exact Hb.out _ (List.getElem_mem _))
    have hpre : Hid (∀ x ∈ (ps.take k).flatten, x < 256) := Lib.hid (mem_flatten_lt (fun q hq => Hb.out q (List.mem_of_mem_take hq)))
    rw [← hp] at hm hpc
    have Hp := Lib.hid hp; clear hp
    have Hm := Lib.hid hm; clear hm
    clear hc
    go_wp2
    go_loop [3, 16] (fun c i => ∃ j : Nat, j ≤ m ∧ i = .int .i64 j ∧ c = .int .u32 (creg ((ps.take k).flatten ++ p.take j) : Nat)) (fun _ i => m - (intOf i).toNat)
    case atStart => exact ⟨0, Nat.zero_le _, rfl, by simp⟩
    case round =>
     obtain ⟨j, hj, rfl, rfl⟩ := hrel
     by_cases hjm : j < m
     · obtain ⟨b2, o2, rfl, hb2, hc2⟩ := hpc j hjm
       obtain ⟨x, hx⟩ : ∃ x, x = p.getD j 0 := ⟨_, rfl⟩
       have hx256 : x < 256 := by
        rw [hx, List.getD_eq_getElem?_getD, List.getElem?_eq_getElem (by rw [Hm.out]; exact hjm)]
        exact hp256.out _ (List.getElem_mem _)
       rw [u8c, ← hx] at hc2
       obtain ⟨r, hr⟩ : ∃ r, r = creg ((ps.take k).flatten ++ p.take j) := ⟨_, rfl⟩
       have hr2 : r < 4294967296 := by
        rw [hr]; exact creg_lt _ (fun y hy => by
         rcases List.mem_append.1 hy with h | h
         · exact hpre.out y h
         · exact hp256.out y (List.mem_of_mem_take h))
       have hnext : Hid (creg ((ps.take k).flatten ++ p.take (j + 1)) = cadd r x) := Lib.hid (by
        rw [take_snoc' p j (by rw [Hm.out]; exact hjm), ← List.append_assoc, creg_snoc, hr, hx])
       rw [← hr]
       clear hr hx hpc
       go_wp2_with (go_at_call 51; refine (add_n r x _ hr2 hx256).mono ?_; rintro e w' ⟨rfl, rfl⟩)
       go_round
       case rel => exact ⟨j + 1, by omega, by go_num, by rw [hnext.out]⟩
       case measure => simp [intOf]; omega
     · go_wp2
       go_round
       case rel =>
        refine ⟨k + 1, by omega, by go_num, ?_⟩
        rw [flatten_take ps k (by rw [Hl.out]; exact hkn), ← Hp.out]
        have e : p.take j = p := List.take_of_length_le (by rw [Hm.out]; omega)
        rw [e]
       case measure => simp [intOf]; omega
  · obtain rfl : k = n := by omega
    have hall : (ps.take k).flatten = ps.flatten := by rw [List.take_of_length_le (by rw [Hl.out]; exact Nat.le_refl _)]
    have hx := bits_xor_u32 (creg ps.flatten) 4294967295 (creg_lt _ (mem_flatten_lt Hb.out)) (by decide)
    rw [hall]
    have Hx := Lib.hid hx; clear hx
    go_wp2
    go_ret
    refine ⟨?_, rfl⟩
    show Ending.returned (.int .u32 (bits .xor .u32 (creg ps.flatten : Nat) 4294967295)) = _
    rw [show (4294967295 : Int) = ((4294967295 : Nat) : Int) from rfl, Hx.out]; rfl
end Go.Proofs.YtebmbkbnngeabaaGreat

set_option linter.unusedSimpArgs false
namespace Go.Proofs.YtebmbkbnngeabaaGreat
open Go.RowKit
set_option linter.unusedVariables false
theorem one_part {w : World} {a : Option Addr} {m c k : Nat} {p : List Nat} {E : TypeId} (hk : k = w.heap.size) (hl : p.length = m) (hm : m ≤ 9223372036854775807) (hc : CellsAt w w.heap.size a m (u8c p)) :
 PartsAt (w.alloc (.cells #[.slice a m c] E)) (w.alloc (.cells #[.slice a m c] E)).heap.size (some ⟨k, 0, none⟩) 1 [p] := by
 subst hk
 refine ⟨rfl, fun i hi => ?_⟩
 obtain rfl : i = 0 := by omega
 obtain ⟨b, off, e, hb, h⟩ := cells_alloc w #[.slice a m c] E 1 (fun _ => .slice a m c) (fun i hi => by (obtain rfl : i = 0 := (by omega)); rfl) 0 (by decide)
 exact ⟨b, off, e, hb, a, m, c, h, hl, hm, (hc.alloc (Nat.le_refl _) _).mono (by simp)⟩
theorem sum_one (ao : Option Addr) (p : List Nat) (w : World) (hb : ∀ x ∈ p, x < 256) (hc : PartsAt w w.heap.size ao 1 [p]) (cap : Nat) :
 Calls Tryz.prog 24 #[.slice ao 1 cap] w fun e w' => e = .returned (.int .u32 (csum p : Nat)) ∧ w = w' := by
 have h := sum_n ao 1 cap [p] w (by decide) (by intro q hq; rw [List.mem_singleton] at hq; subst hq; exact hb) hc
 simpa using h
end Go.Proofs.YtebmbkbnngeabaaGreat

set_option linter.unusedSimpArgs false
namespace Go.Proofs.YtebmbkbnngeabaaGreat
open Go.RowKit
set_option linter.unusedVariables false
theorem odd_u32' (c : Nat) (hc : c < 4294967296) (h : c % 2 = 1) : (bits .and .u32 (c : Int) 1 == 1) = true := by rw [low_u32 c hc, h]; rfl
theorem even_u32' (c : Nat) (hc : c < 4294967296) (h : c % 2 = 0) : (bits .and .u32 (c : Int) 1 == 1) = false := by rw [low_u32 c hc, h]; rfl
set_option maxHeartbeats 2000000 in
set_option maxRecDepth 100000 in
theorem rsum_n (ao : Option Addr) (n cap : Nat) (b : List Nat) (w : World) (hl : b.length = n) (hn : n ≤ 9223372036854775807) (hb : ∀ x ∈ b, x < 256) (hc : CellsAt w w.heap.size ao n (u8c b)) :
 Calls Tryz.prog 8 #[.slice ao n cap] w fun e w' => e = .returned (.int .u32 (csum b : Nat)) ∧ w = w' := by
 have Hb := Lib.hid hb; clear hb
 have Hl := Lib.hid hl; clear hl
 go_enter Tryz.func8, Tryz.ntmps8
 go_wp2
 go_loop [3, 4] (fun c i => ∃ k : Nat, k ≤ n ∧ i = .int .i64 k ∧ c = .int .u32 (creg (b.take k) : Nat)) (fun _ i => n - (intOf i).toNat)
 case atStart => exact ⟨0, Nat.zero_le _, rfl, rfl⟩
 case round =>
  obtain ⟨k, hk, rfl, rfl⟩ := hrel
  by_cases hkn : k < n
  · obtain ⟨b2, o2, rfl, hb2, hc2⟩ := hc k hkn
    obtain ⟨x, hx⟩ : ∃ x, x = b.getD k 0 := ⟨_, rfl⟩
    have hx256 : x < 256 := by
     rw [hx, List.getD_eq_getElem?_getD, List.getElem?_eq_getElem (by rw [Hl.out]; exact hkn)]
     exact Hb.out _ (List.getElem_mem _)
    rw [u8c, ← hx] at hc2
    obtain ⟨r, hr⟩ : ∃ r, r = creg (b.take k) := ⟨_, rfl⟩
    have hr2 : r < 4294967296 := by
     rw [hr]; exact creg_lt _ (fun y hy => Hb.out y (List.mem_of_mem_take hy))
    have hnext : Hid (creg (b.take (k + 1)) = cadd r x) := Lib.hid (by
     rw [take_snoc' b k (by rw [Hl.out]; exact hkn), creg_snoc, hr, hx])
    have h0 : r ^^^ x < 4294967296 := by have := @Nat.xor_lt_two_pow r x 32 (by omega) (by omega); simpa using this
    have hxor := bits_xor_u32 r x hr2 (by omega)
    obtain ⟨c0, hc0⟩ : ∃ c0, c0 = r ^^^ x := ⟨_, rfl⟩
    rw [← hc0] at hxor h0
    rw [← hr]
    have Hc0 := Lib.hid hc0
    clear hr hx hc hc0
    go_wp2
    go_loop [3, 5] (fun c j => ∃ m d : Nat, m ≤ 8 ∧ j = .int .i64 m ∧ c = .int .u32 d ∧ d < 4294967296 ∧ Hid (csteps (8 - m) d = cadd r x)) (fun _ j => 8 - (intOf j).toNat)
    case atStart => exact ⟨0, c0, by omega, rfl, rfl, h0, Lib.hid (by rw [Hc0.out]; rfl)⟩
    case round =>
     obtain ⟨m, d, hm, rfl, rfl, hd, hs⟩ := hrel
     clear hxor h0
     by_cases hm8 : m < 8
     · have hlt := cstep_lt d hd
       have hs2 : Hid (csteps (8 - (m + 1)) (cstep d) = cadd r x) := Lib.hid (by
        rw [← hs.out, show 8 - m = (8 - (m + 1)) + 1 by omega]; rfl)
       rcases Nat.mod_two_eq_zero_or_one d with hp | hp
       · have h1 := even_u32' d hd hp
         have h2 := step_even d hp
         clear hp
         go_wp2
         go_round
         case rel => exact ⟨m + 1, cstep d, by omega, by go_num, rfl, hlt, hs2⟩
         case measure => simp [intOf]; omega
       · have h1 := odd_u32' d hd hp
         have h2 := step_odd d hd hp
         clear hp
         go_wp2
         go_round
         case rel => exact ⟨m + 1, cstep d, by omega, by go_num, rfl, hlt, hs2⟩
         case measure => simp [intOf]; omega
     · obtain rfl : m = 8 := by omega
       go_wp2
       go_round
       case rel =>
        refine ⟨k + 1, by omega, by go_num, ?_⟩
        rw [hnext.out, ← hs.out]; rfl
       case measure => simp [intOf]; omega
  · obtain rfl : k = n := by omega
    have hall : b.take k = b := List.take_of_length_le (by rw [Hl.out]; exact Nat.le_refl _)
    have hx := bits_xor_u32 (creg b) 4294967295 (creg_lt _ Hb.out) (by decide)
    rw [hall]
    have Hx := Lib.hid hx; clear hx
    go_wp2
    go_ret
    refine ⟨?_, rfl⟩
    show Ending.returned (.int .u32 (bits .xor .u32 IntKind.u32.max (creg b : Nat))) = _
    have hy := bits_xor_u32 4294967295 (creg b) (by decide) (creg_lt _ Hb.out)
    rw [show IntKind.u32.max = ((4294967295 : Nat) : Int) from rfl, hy, Nat.xor_comm]; rfl
end Go.Proofs.YtebmbkbnngeabaaGreat
