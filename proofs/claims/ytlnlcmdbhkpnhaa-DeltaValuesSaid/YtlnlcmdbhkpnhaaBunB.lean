/- Texts that the proof stands on, merged. -/
import Derived.Test.YtlnlcmdbhkpnhaaBunA
import Derived.Deep.RegionLaw
import Derived.Laws.AppendOwnNone
import Derived.Lib.AppendZeros
import Derived.Deep.Quiet
import Derived.Deep.QuietTactic
import Derived.ScopeJumps
import Derived.Lib.AppendZerosOnto
/- append in the words of XMem: onto a row of the call's own, and 'append(empty, x...)' as a copy; as a step of a list of operations and of a region that draws its order. -/
namespace Go.Proofs.Ytlnlcmdbhkpnhaa
open Go.RowKit

/-- Type t is a slice of e; a value of e takes 'size' cells and 'bytes' bytes, and is z at first. -/
structure SlT (P : Program) (t e : TypeId) (size bytes : Nat) (z : Value) : Prop where
  und : P.underlying t = some (.slice e)
  info : (P.info? e).map (fun i => (i.zero, i.size, i.bytes)) = some (some z, size, bytes)
  cells : z.cells.size = size
  pos : 0 < size

theorem range_map_at (f : Nat → Value) (m j : Nat) (u : Value) (h : ((List.range m).map f)[j]? = some u) : j < m ∧ u = f j := by
  have hj : j < m := by have := (List.getElem?_eq_some_iff.1 h).1; simpa using this
  rw [List.getElem?_map, List.getElem?_range hj] at h
  exact ⟨hj, (Option.some.inj h).symm⟩
theorem CellsAt.news {w : World} {B : Nat} {ad : Addr} {m : Nat} {f : Nat → Value} (h : CellsAt w B (some ad) m f) : ∀ j u, ((List.range m).map f)[j]? = some u → w.cell? (ad.add j) = some u := by
  intro j u hu
  obtain ⟨hj, rfl⟩ := range_map_at f m j u hu
  obtain ⟨b, off, e, -, hc⟩ := h j hj
  cases e
  rw [Addr.add_lit]; exact hc
theorem range_one (f : Nat → Value) (m : Nat) (h1 : ∀ i, i < m → (f i).oneCell' = true) : ∀ u ∈ (List.range m).map f, u.oneCell' = true := by
  intro u hu
  obtain ⟨i, hi, rfl⟩ := List.mem_map.1 hu
  exact h1 i (List.mem_range.1 hi)

/-- What 'append(empty, x...)' has made. -/
def Cloned (w w' : World) (E : TypeId) (ao ao' : Option Addr) (m cap' : Nat) (f : Nat → Value) : Prop :=
  m = 0 ∧ ao' = ao ∧ cap' = 0 ∧ w' = w ∨ 0 < m ∧ w'.ownsRow w.heap.size E 1 (.slice ao' m cap') m ((List.range m).map f)
theorem Cloned.pos {w w' : World} {E : TypeId} {ao ao' : Option Addr} {m cap' : Nat} {f : Nat → Value} (h : Cloned w w' E ao ao' m cap' f) (hm : 0 < m) :
    ∃ g, ao' = some ⟨g, 0, none⟩ ∧ w.heap.size ≤ g ∧ w'.ownsRow w.heap.size E 1 (.slice (some ⟨g, 0, none⟩) m cap') m ((List.range m).map f) := by
  rcases h with ⟨h0, -⟩ | ⟨-, h⟩
  · omega
  · rcases h.2 with ⟨-, h3⟩ | ⟨g, c2, cur, h3, hb, -⟩
    · omega
    · simp only [Value.slice.injEq] at h3
      obtain ⟨rfl, -, rfl⟩ := h3
      exact ⟨g, rfl, hb, h⟩
section
variable {P : Program} {w : World} {t e : TypeId} {size bytes : Nat} {z : Value}

theorem run_append_all (T : SlT P t e size bytes z) {base : Nat} {v : Value} {n : Nat} {xs : List Value} (hown : w.ownsRow base e size v n xs) {B : Nat} {ax : Option Addr} {m c : Nat} {f : Nat → Value}
    (hc : CellsAt w B ax (m * size) f) (hax : ax = none → m = 0 ∧ c = 0) (h1 : ∀ i, i < m * size → (f i).oneCell' = true) (h63 : n + m ≤ maxLen) (hb : (n + m) * bytes ≤ 140737488355328) (hbase : base ≤ w.heap.size) (ty : TypeId) :
    ∃ v' w', (Builtin.append_ #[t, t] ty #[v, .slice ax m c]).run P w = .ok v' w' ∧ w'.ownsRow base e size v' (n + m) (xs ++ (List.range (m * size)).map f) ∧ w.grownBy w' v.ownBlock := by
  obtain ⟨i, hi, hz, hs, hby⟩ := info_parts T.info
  cases ax with
  | none =>
    obtain ⟨rfl, rfl⟩ := hax rfl
    refine ⟨v, w, run_append_owned_none w base t ty e i size T.und hi v n xs hown, by simpa using hown, ⟨rfl, rfl, rfl, Nat.le_refl _, fun _ _ _ => rfl⟩⟩
  | some ad =>
    obtain ⟨v', w', hr, ho, hg, -⟩ := run_append_own (P := P) w base t ty e i z size bytes T.und hi hz hs hby T.cells T.pos v n xs hown ad m c ((List.range (m * size)).map f) (by simp) hc.news (range_one f _ h1) h63 hb hbase
    exact ⟨v', w', hr, ho, hg⟩

/-- 'append(x, y...)' for an x of length and capacity 0. -/
theorem run_append_clone (T : SlT P t e size bytes z) {ao : Option Addr} {B : Nat} {ax : Option Addr} {m c : Nat} {f : Nat → Value}
    (hc : CellsAt w B ax (m * size) f) (hax : ax = none → m = 0) (h1 : ∀ i, i < m * size → (f i).oneCell' = true) (h63 : m ≤ maxLen) (hb : m * bytes ≤ 140737488355328) (ty : TypeId) :
    ∃ ao' cap' w', (Builtin.append_ #[t, t] ty #[.slice ao 0 0, .slice ax m c]).run P w = .ok (.slice ao' m cap') w' ∧ CellsAt w' w'.heap.size ao' (m * size) f ∧ Below w.heap.size w w' ∧
      (m = 0 ∧ ao' = ao ∧ cap' = 0 ∧ w' = w ∨ 0 < m ∧ w'.ownsRow w.heap.size e size (.slice ao' m cap') m ((List.range (m * size)).map f)) := by
  obtain ⟨i, hi, hz, hs, hby⟩ := info_parts T.info
  rcases Nat.eq_zero_or_pos m with rfl | hm
  · refine ⟨ao, 0, w, ?_, by rw [Nat.zero_mul]; exact CellsAt.zero, Below.refl _ _, .inl ⟨rfl, rfl, rfl, rfl⟩⟩
    cases ao <;> cases ax <;> simp [Builtin.append_, run_underlying T.und, sizeOf, typeInfo, hi, Builtin.lenOf, Builtin.firstCells, storeCells, loadCells, loadCellsFrom]
  · cases ax with
    | none => have := hax rfl; omega
    | some ad =>
      have key : ∃ v' w', (Builtin.append_ #[t, t] ty #[.slice ao 0 0, .slice (some ad) m c]).run P w = .ok v' w' ∧ w'.ownsRow w.heap.size e size v' m ((List.range (m * size)).map f) ∧ w.grownBy w' none := by
        cases ao with
        | none =>
          obtain ⟨v', w', hr, ho, hg, -⟩ := run_append_own (P := P) w w.heap.size t ty e i z size bytes T.und hi hz hs hby T.cells T.pos (.slice none 0 0) 0 [] (World.ownsRow_nil _ _ _ _) ad m c ((List.range (m * size)).map f) (by simp) hc.news
            (range_one f _ h1) (by omega) (by simpa using hb) (Nat.le_refl _)
          exact ⟨v', w', hr, by simpa using ho, hg⟩
        | some b =>
          obtain ⟨v', w', hr, ho, hg⟩ := run_append_arg_grows (P := P) w t ty e i z size bytes T.und hi hz hs hby T.cells T.pos b 0 0 [] (by simp) (by simp) ad m c ((List.range (m * size)).map f) (by simp) hc.news (by omega) (by omega) (by simpa using hb)
          exact ⟨v', w', hr, by simpa using ho, hg⟩
      obtain ⟨v', w', hr, ho, hg⟩ := key
      rcases ho.2 with ⟨-, h0⟩ | ⟨g, cap', cur, rfl, hbg, hgg, hnc, hcm, hcs, htake⟩
      · omega
      · have hbel : Below w.heap.size w w' := (Below.refl _ _).grown hg (Nat.le_refl _) (fun k h => by cases h)
        refine ⟨some ⟨g, 0, none⟩, cap', w', hr, fun j hj => ⟨g, 0, rfl, (Array.getElem?_eq_some_iff.1 hgg).1, ?_⟩, hbel, .inr ⟨hm, ho⟩⟩
        rw [Nat.zero_add, ho.cellAt j (by exact hj), List.getElem?_map, List.getElem?_range hj]; rfl

section
variable {ops : Array Oper} {rest : List Oper} {o : Oper} {a : Act} {Q : Exit → Act → World → Prop}
theorem wpList_append_all (T : SlT P t e size bytes z) (hgd : o.guard = none) (s x : Operand) (ho : o.op = .call { callee := .builtin .append, args := #[s, x], argTypes := #[t, t] })
    {base : Nat} {v : Value} {n : Nat} {xs : List Value} (hs : a.eval s = v) (hown : w.ownsRow base e size v n xs) {B : Nat} {ax : Option Addr} {m c : Nat} {f : Nat → Value} (hx : a.eval x = .slice ax m c)
    (hc : CellsAt w B ax (m * size) f) (hax : ax = none → m = 0 ∧ c = 0) (h1 : ∀ i, i < m * size → (f i).oneCell' = true) (h63 : n + m ≤ maxLen) (hb : (n + m) * bytes ≤ 140737488355328) (hbase : base ≤ w.heap.size)
    (h : ∀ v' w', w'.ownsRow base e size v' (n + m) (xs ++ (List.range (m * size)).map f) → w.grownBy w' v.ownBlock → wpList P ops Q rest (a.put o.dst v') w') : wpList P ops Q (o :: rest) a w := by
  refine wpList_plain hgd fun K hK => ?_
  obtain ⟨v', w', hrun, r1, r2⟩ := run_append_all T hown hc hax h1 h63 hb hbase o.type
  unfold Oper.wp
  simp [execOp, ho, resolve, invoke, builtin, hs, hx, hrun, Result.andThen]
  exact hK _ _ (h v' w' r1 r2)
theorem wpList_append_clone (T : SlT P t e size bytes z) (hgd : o.guard = none) (s x : Operand) (ho : o.op = .call { callee := .builtin .append, args := #[s, x], argTypes := #[t, t] })
    {ao : Option Addr} (hs : a.eval s = .slice ao 0 0) {B : Nat} {ax : Option Addr} {m c : Nat} {f : Nat → Value} (hx : a.eval x = .slice ax m c)
    (hc : CellsAt w B ax (m * size) f) (hax : ax = none → m = 0) (h1 : ∀ i, i < m * size → (f i).oneCell' = true) (h63 : m ≤ maxLen) (hb : m * bytes ≤ 140737488355328)
    (h : ∀ ao' cap' w', CellsAt w' w'.heap.size ao' (m * size) f → Below w.heap.size w w' → (m = 0 ∧ ao' = ao ∧ cap' = 0 ∧ w' = w ∨ 0 < m ∧ w'.ownsRow w.heap.size e size (.slice ao' m cap') m ((List.range (m * size)).map f)) →
      wpList P ops Q rest (a.put o.dst (.slice ao' m cap')) w') : wpList P ops Q (o :: rest) a w := by
  refine wpList_plain hgd fun K hK => ?_
  obtain ⟨ao', cap', w', hrun, r1, r2, r3⟩ := run_append_clone T (ao := ao) hc hax h1 h63 hb o.type
  unfold Oper.wp
  simp [execOp, ho, resolve, invoke, builtin, hs, hx, Result.andThen]
  rw [hrun]
  exact hK _ _ (h ao' cap' w' r1 r2 r3)
theorem step_append_all (T : SlT P t e size bytes z) {K : Act → World → Prop} {E : Prop} (hgd : o.guard = none) (s x : Operand) (ho : o.op = .call { callee := .builtin .append, args := #[s, x], argTypes := #[t, t] })
    {base : Nat} {v : Value} {n : Nat} {xs : List Value} (hs : a.eval s = v) (hown : w.ownsRow base e size v n xs) {B : Nat} {ax : Option Addr} {m c : Nat} {f : Nat → Value} (hx : a.eval x = .slice ax m c)
    (hc : CellsAt w B ax (m * size) f) (hax : ax = none → m = 0 ∧ c = 0) (h1 : ∀ i, i < m * size → (f i).oneCell' = true) (h63 : n + m ≤ maxLen) (hb : (n + m) * bytes ≤ 140737488355328) (hbase : base ≤ w.heap.size)
    (h : ∀ v' w', w'.ownsRow base e size v' (n + m) (xs ++ (List.range (m * size)).map f) → w.grownBy w' v.ownBlock → K (a.put o.dst v') w') :
    if Region.wanted o (yielded ops a.tmps) = true then Oper.wp P o a w K Q else E := by
  have hw : Region.wanted o (yielded ops a.tmps) = true := by simp [Region.wanted, hgd]
  rw [if_pos hw]
  obtain ⟨v', w', hrun, r1, r2⟩ := run_append_all T hown hc hax h1 h63 hb hbase o.type
  unfold Oper.wp
  simp [execOp, ho, resolve, invoke, builtin, hs, hx, hrun, Result.andThen]
  exact h v' w' r1 r2
theorem step_append_clone (T : SlT P t e size bytes z) {K : Act → World → Prop} {E : Prop} (hgd : o.guard = none) (s x : Operand) (ho : o.op = .call { callee := .builtin .append, args := #[s, x], argTypes := #[t, t] })
    {ao : Option Addr} (hs : a.eval s = .slice ao 0 0) {B : Nat} {ax : Option Addr} {m c : Nat} {f : Nat → Value} (hx : a.eval x = .slice ax m c)
    (hc : CellsAt w B ax (m * size) f) (hax : ax = none → m = 0) (h1 : ∀ i, i < m * size → (f i).oneCell' = true) (h63 : m ≤ maxLen) (hb : m * bytes ≤ 140737488355328)
    (h : ∀ ao' cap' w', CellsAt w' w'.heap.size ao' (m * size) f → Below w.heap.size w w' → (m = 0 ∧ ao' = ao ∧ cap' = 0 ∧ w' = w ∨ 0 < m ∧ w'.ownsRow w.heap.size e size (.slice ao' m cap') m ((List.range (m * size)).map f)) →
      K (a.put o.dst (.slice ao' m cap')) w') :
    if Region.wanted o (yielded ops a.tmps) = true then Oper.wp P o a w K Q else E := by
  have hw : Region.wanted o (yielded ops a.tmps) = true := by simp [Region.wanted, hgd]
  rw [if_pos hw]
  obtain ⟨ao', cap', w', hrun, r1, r2, r3⟩ := run_append_clone T (ao := ao) hc hax h1 h63 hb o.type
  unfold Oper.wp
  simp [execOp, ho, resolve, invoke, builtin, hs, hx, Result.andThen]
  rw [hrun]
  exact h ao' cap' w' r1 r2 r3
/-- The same at elements of one cell. -/
theorem wpList_append_all1 (T : SlT P t e 1 bytes z) (hgd : o.guard = none) (s x : Operand) (ho : o.op = .call { callee := .builtin .append, args := #[s, x], argTypes := #[t, t] })
    {base : Nat} {v : Value} {n : Nat} {xs : List Value} (hs : a.eval s = v) (hown : w.ownsRow base e 1 v n xs) {B : Nat} {ax : Option Addr} {m c : Nat} {f : Nat → Value} (hx : a.eval x = .slice ax m c)
    (hc : CellsAt w B ax m f) (hax : ax = none → m = 0 ∧ c = 0) (h1 : ∀ i, i < m → (f i).oneCell' = true) (h63 : n + m ≤ maxLen) (hb : (n + m) * bytes ≤ 140737488355328) (hbase : base ≤ w.heap.size)
    (h : ∀ v' w', w'.ownsRow base e 1 v' (n + m) (xs ++ (List.range m).map f) → w.grownBy w' v.ownBlock → wpList P ops Q rest (a.put o.dst v') w') : wpList P ops Q (o :: rest) a w :=
  wpList_append_all T hgd s x ho hs hown hx (by rwa [Nat.mul_one]) hax (by rwa [Nat.mul_one]) h63 hb hbase (fun v' w' r1 r2 => h v' w' (by rwa [Nat.mul_one] at r1) r2)
theorem wpList_append_clone1 (T : SlT P t e 1 bytes z) (hgd : o.guard = none) (s x : Operand) (ho : o.op = .call { callee := .builtin .append, args := #[s, x], argTypes := #[t, t] })
    {ao : Option Addr} (hs : a.eval s = .slice ao 0 0) {B : Nat} {ax : Option Addr} {m c : Nat} {f : Nat → Value} (hx : a.eval x = .slice ax m c)
    (hc : CellsAt w B ax m f) (hax : ax = none → m = 0) (h1 : ∀ i, i < m → (f i).oneCell' = true) (h63 : m ≤ maxLen) (hb : m * bytes ≤ 140737488355328)
    (h : ∀ ao' cap' w', CellsAt w' w'.heap.size ao' m f → Below w.heap.size w w' → Cloned w w' e ao ao' m cap' f →
      wpList P ops Q rest (a.put o.dst (.slice ao' m cap')) w') : wpList P ops Q (o :: rest) a w :=
  wpList_append_clone T hgd s x ho hs hx (by rwa [Nat.mul_one]) hax (by rwa [Nat.mul_one]) h63 hb (fun ao' cap' w' r1 r2 r3 => h ao' cap' w' (by rwa [Nat.mul_one] at r1) r2 (by rw [Nat.mul_one] at r3; exact r3))
theorem step_append_all1 (T : SlT P t e 1 bytes z) {K : Act → World → Prop} {E : Prop} (hgd : o.guard = none) (s x : Operand) (ho : o.op = .call { callee := .builtin .append, args := #[s, x], argTypes := #[t, t] })
    {base : Nat} {v : Value} {n : Nat} {xs : List Value} (hs : a.eval s = v) (hown : w.ownsRow base e 1 v n xs) {B : Nat} {ax : Option Addr} {m c : Nat} {f : Nat → Value} (hx : a.eval x = .slice ax m c)
    (hc : CellsAt w B ax m f) (hax : ax = none → m = 0 ∧ c = 0) (h1 : ∀ i, i < m → (f i).oneCell' = true) (h63 : n + m ≤ maxLen) (hb : (n + m) * bytes ≤ 140737488355328) (hbase : base ≤ w.heap.size)
    (h : ∀ v' w', w'.ownsRow base e 1 v' (n + m) (xs ++ (List.range m).map f) → w.grownBy w' v.ownBlock → K (a.put o.dst v') w') :
    if Region.wanted o (yielded ops a.tmps) = true then Oper.wp P o a w K Q else E :=
  step_append_all T hgd s x ho hs hown hx (by rwa [Nat.mul_one]) hax (by rwa [Nat.mul_one]) h63 hb hbase (fun v' w' r1 r2 => h v' w' (by rwa [Nat.mul_one] at r1) r2)
theorem step_append_clone1 (T : SlT P t e 1 bytes z) {K : Act → World → Prop} {E : Prop} (hgd : o.guard = none) (s x : Operand) (ho : o.op = .call { callee := .builtin .append, args := #[s, x], argTypes := #[t, t] })
    {ao : Option Addr} (hs : a.eval s = .slice ao 0 0) {B : Nat} {ax : Option Addr} {m c : Nat} {f : Nat → Value} (hx : a.eval x = .slice ax m c)
    (hc : CellsAt w B ax m f) (hax : ax = none → m = 0) (h1 : ∀ i, i < m → (f i).oneCell' = true) (h63 : m ≤ maxLen) (hb : m * bytes ≤ 140737488355328)
    (h : ∀ ao' cap' w', CellsAt w' w'.heap.size ao' m f → Below w.heap.size w w' → Cloned w w' e ao ao' m cap' f →
      K (a.put o.dst (.slice ao' m cap')) w') :
    if Region.wanted o (yielded ops a.tmps) = true then Oper.wp P o a w K Q else E :=
  step_append_clone T hgd s x ho hs hx (by rwa [Nat.mul_one]) hax (by rwa [Nat.mul_one]) h63 hb (fun ao' cap' w' r1 r2 r3 => h ao' cap' w' (by rwa [Nat.mul_one] at r1) r2 (by rw [Nat.mul_one] at r3; exact r3))
/-- A row that 'append(empty, x...)' has made, grown by more. -/
theorem wpList_append_rows1 (T : SlT P t e 1 bytes z) (hgd : o.guard = none) (s x : Operand) (ho : o.op = .call { callee := .builtin .append, args := #[s, x], argTypes := #[t, t] })
    {base : Nat} {ao : Option Addr} {m cap : Nat} {f : Nat → Value} (hs : a.eval s = .slice ao m cap) (hrow : m = 0 ∧ cap = 0 ∨ 0 < m ∧ w.ownsRow base e 1 (.slice ao m cap) m ((List.range m).map f))
    {B : Nat} {ax : Option Addr} {k c : Nat} {g : Nat → Value} (hx : a.eval x = .slice ax k c) (hc : CellsAt w B ax k g) (hax : ax = none → k = 0 ∧ c = 0) (h1 : ∀ i, i < k → (g i).oneCell' = true)
    (h63 : m + k ≤ maxLen) (hb : (m + k) * bytes ≤ 140737488355328) (hbase : base ≤ w.heap.size)
    (h : ∀ ao' cap' w', CellsAt w' w'.heap.size ao' (m + k) (fun i => if i < m then f i else g (i - m)) → Below base w w' → w.heap.size ≤ w'.heap.size → wpList P ops Q rest (a.put o.dst (.slice ao' (m + k) cap')) w') : wpList P ops Q (o :: rest) a w := by
  rcases hrow with ⟨rfl, rfl⟩ | ⟨hm, hrow⟩
  · refine wpList_append_clone1 T hgd s x ho hs hx hc (fun e => (hax e).1) h1 (by omega) (by simpa using hb) (fun ao' cap' w' r1 r2 _ => ?_)
    have := h ao' cap' w' (by rw [Nat.zero_add]; exact r1.congr (fun i _ => by simp)) (r2.mono hbase) r2.size
    rwa [Nat.zero_add] at this
  · refine wpList_append_all1 T hgd s x ho hs hrow hx hc hax h1 h63 hb hbase (fun v' w' r1 r2 => ?_)
    obtain ⟨ao', cap', rfl, hcells, -⟩ := own_cells r1
    refine h ao' cap' w' (hcells.congr (fun i hi => ?_)) ((Below.refl _ _).grown r2 hbase (fun k hk => (hrow.lt k hk).1)) r2.size
    rw [List.getD_eq_getElem?_getD]
    split
    · rename_i him
      rw [List.getElem?_append_left (by simpa using him), List.getElem?_map, List.getElem?_range him]; rfl
    · rename_i him
      rw [List.getElem?_append_right (by simpa using him), List.getElem?_map, List.length_map, List.length_range, List.getElem?_range (by omega)]; rfl
theorem Cloned.row {w w' : World} {E : TypeId} {ao ao' : Option Addr} {m cap' : Nat} {f : Nat → Value} (h : Cloned w w' E ao ao' m cap' f) :
    m = 0 ∧ cap' = 0 ∨ 0 < m ∧ w'.ownsRow w.heap.size E 1 (.slice ao' m cap') m ((List.range m).map f) := h.imp (fun x => ⟨x.1, x.2.2.1⟩) id
end
end
end Go.Proofs.Ytlnlcmdbhkpnhaa

/- Slices of bytes and numbers: their types' rows, cells of rows of one's own, slice expressions. -/
namespace Go.Proofs.Ytlnlcmdbhkpnhaa
open Go.RowKit Go.BigFrame
set_option linter.unusedVariables false

theorem Try.infoU8 : (Try.prog.info? 5).map (fun i => (i.zero, i.size, i.bytes)) = some (some (.int .u8 0), 1, 1) := by kernel_rfl
theorem Try.infoU64 : (Try.prog.info? 54).map (fun i => (i.zero, i.size, i.bytes)) = some (some (.int .u64 0), 1, 8) := by kernel_rfl
theorem sl_u8 : SlT Try.prog 26 5 1 1 (.int .u8 0) := ⟨Try.underlying26, Try.infoU8, rfl, by decide⟩
theorem sl_u64 : SlT Try.prog 70 54 1 8 (.int .u64 0) := ⟨Try.underlying70, Try.infoU64, rfl, by decide⟩
theorem range_u8c (l : List Nat) (n : Nat) (hl : l.length = n) : (List.range n).map (u8c l) = u8v l := by
  refine List.ext_getElem (by simp [u8v, hl]) fun i h1 h2 => ?_
  have hi : i < l.length := by simpa [u8v] using h2
  simp [u8v, u8c, hi]
theorem set_lt {l : List Nat} {j y : Nat} (h : ∀ x ∈ l, x < 256) (hy : y < 256) : ∀ x ∈ l.set j y, x < 256 := by
  intro x hx
  rcases List.mem_or_eq_of_mem_set hx with h1 | rfl
  · exact h x h1
  · exact hy
theorem getD_lt {l : List Nat} (h : ∀ x ∈ l, x < 256) (j : Nat) : l.getD j 0 < 256 := by
  rw [List.getD_eq_getElem?_getD]
  rcases Nat.lt_or_ge j l.length with hj | hj
  · rw [List.getElem?_eq_getElem hj]; exact h _ (List.getElem_mem _)
  · rw [List.getElem?_eq_none hj]; decide
theorem stored_u8 {w : World} {base E g n cap : Nat} {l : List Nat} {x : Int} {y : Nat} (h : w.ownsRow base E 1 (.slice (some ⟨g, 0, none⟩) n cap) n (u8v l)) (j : Nat) (e : x = (y : Nat)) :
    (w.setCell ⟨g, j, none⟩ (.int .u8 x)).ownsRow base E 1 (.slice (some ⟨g, 0, none⟩) n cap) n (u8v (l.set j y)) := by
  subst e
  rw [← u8v_set]
  exact (h.stored j _).1
theorem cell_u8 {w : World} {base E g n cap : Nat} {l : List Nat} (h : w.ownsRow base E 1 (.slice (some ⟨g, 0, none⟩) n cap) n (u8v l)) (j : Nat) (hj : j < n) :
    w.cell? ⟨g, j, none⟩ = some (u8c l j) := by
  have hl : l.length = n := by have := h.1; simpa [u8v_length] using this
  rw [h.cellAt j (by omega), u8v_at l j (by omega)]
theorem cells_one (w : World) (E : TypeId) (x : Value) : CellsAt (w.alloc (.cells #[x] E)) (w.alloc (.cells #[x] E)).heap.size (some ⟨w.heap.size, 0, none⟩) 1 (fun _ => x) :=
  cells_alloc w _ E 1 (fun _ => x) (fun i hi => by (obtain rfl : i = 0 := (by omega)); rfl)
theorem own_shape {w : World} {base E : Nat} {ao : Option Addr} {n cap : Nat} {xs : List Value} (h0 : 0 < n) (h : w.ownsRow base E 1 (.slice ao n cap) n xs) : ∃ g, ao = some ⟨g, 0, none⟩ ∧ base ≤ g := by
  rcases h.2 with ⟨-, h3⟩ | ⟨g, c2, cur, h3, hb, -⟩
  · omega
  · simp only [Value.slice.injEq] at h3
    exact ⟨g, h3.1, hb⟩
theorem u8c_drop (l : List Nat) (m i : Nat) : u8c (l.drop m) i = u8c l (m + i) := by
  simp [u8c, List.getD_eq_getElem?_getD]
theorem u8c_take (l : List Nat) (m i : Nat) (h : i < m) : u8c (l.take m) i = u8c l i := by
  simp [u8c, List.getD_eq_getElem?_getD, h]
theorem drop_cells {w : World} {B : Nat} {ao : Option Addr} {n p m : Nat} {l : List Nat} (h : CellsAt w B ao n (u8c l)) (hp : p + m ≤ n) : CellsAt w B (ao.map (·.add p)) m (u8c ((l.drop p).take m)) := by
  intro i hi
  obtain ⟨b, off, rfl, hb, hc⟩ := h (p + i) (by omega)
  refine ⟨b, off + p, by simp [Addr.add_lit], hb, ?_⟩
  rw [u8c_take _ _ _ hi, u8c_drop, ← hc, Nat.add_assoc]
theorem own_drewN {w : World} {base : Nat} {e : TypeId} {size : Nat} {v : Value} {n : Nat} {xs : List Value} (h : w.ownsRow base e size v n xs) (k : Nat) : (w.drewN k).ownsRow base e size v n xs := by
  refine ⟨h.1, h.2.imp id fun ⟨g, cap, cur, h1, h2, h3, h4⟩ => ⟨g, cap, cur, h1, h2, ?_, h4⟩⟩
  rw [← h3]; rfl
set_option maxRecDepth 100000 in
theorem slice_lh (a : Option Addr) (len cap p n : Nat) (hcap : p + n ≤ cap) :
    ∃ ao', (n = 0 ∨ ao' = a.map (·.add p)) ∧ ∀ w : World, (Instr.sliceAt 26 (.slice a len cap) (some (.int .i64 (p : Nat))) (some (.int .i64 ((p : Int) + (n : Int)))) none).run Try.prog w = .ok (.slice ao' n (cap - p)) w := by
  refine ⟨if cap = p then a else a.map (·.add (p * 1)), ?_, fun w => ?_⟩
  · by_cases h : cap = p
    · exact .inl (by omega)
    · rw [if_neg h, Nat.mul_one]; exact .inr rfl
  · have e : ((p : Int) + (n : Int)).toNat = p + n := by omega
    have h := run_slice_lh (P := Try.prog) (w := w) 26 a len cap Try.underlying26 .i64 .i64 (p : Int) ((p : Int) + (n : Int)) (by omega) (by omega) (by omega)
    rw [run_sliceAt_slice (P := Try.prog) w _ _ _ _ _ Try.underlying26, h, e, Int.toNat_natCast]
    have hs : (sizeOf (Try.prog.elem 26)).run Try.prog w = .ok 1 w := by kernel_rfl
    rw [hs]
    simp [Result.andThen, sliced, Nat.add_sub_cancel_left]
set_option maxRecDepth 100000 in
theorem slice_from (a : Option Addr) (len cap p : Nat) (hp : p ≤ len) (hcap : len ≤ cap) :
    ∃ ao', (len - p = 0 ∨ ao' = a.map (·.add p)) ∧ ∀ w : World, (Instr.sliceAt 26 (.slice a len cap) (some (.int .i64 (p : Nat))) none none).run Try.prog w = .ok (.slice ao' (len - p) (cap - p)) w := by
  refine ⟨if cap = p then a else a.map (·.add (p * 1)), ?_, fun w => ?_⟩
  · by_cases h : cap = p
    · exact .inl (by omega)
    · rw [if_neg h, Nat.mul_one]; exact .inr rfl
  · have h := run_slice_l (P := Try.prog) (w := w) 26 a len cap Try.underlying26 .i64 (p : Int) (by omega) (by omega)
    rw [run_sliceAt_slice (P := Try.prog) w _ _ _ _ _ Try.underlying26, h, Int.toNat_natCast]
    have hs : (sizeOf (Try.prog.elem 26)).run Try.prog w = .ok 1 w := by kernel_rfl
    rw [hs]
    simp [Result.andThen, sliced]
end Go.Proofs.Ytlnlcmdbhkpnhaa

/- The walks over package bits and the document's chapter 2: halved, size, Pack. -/
namespace Go.Proofs.Ytlnlcmdbhkpnhaa
open Go.RowKit
set_option linter.unusedVariables false

def GaveFresh (w : World) (E : TypeId) (xs : List Value) (e : Ending) (w' : World) : Prop := ∃ v, e = .returned v ∧ Fresh w w' E v xs

set_option maxHeartbeats 400000 in
theorem halved_any (a b : Int) (w : World) (hb : 0 ≤ b) (hb2 : b < 64) :
    Calls Try.prog 74 #[.int .u64 a, .int .i64 b] w fun e w' => e = .returned (.int .u64 (a / 2^b.toNat)) ∧ w = w' := by
  go_enter Try.func74, Try.ntmps74
  go_wp2
  go_ret
  exact ⟨rfl, rfl⟩
theorem halved_n (a b : Nat) (w : World) (hb2 : b < 64) :
    Calls Try.prog 74 #[.int .u64 a, .int .i64 b] w fun e w' => e = .returned (.int .u64 ((a >>> b : Nat) : Int)) ∧ w = w' :=
  (halved_any a b w (by omega) (by omega)).mono (by rintro e w' ⟨rfl, rfl⟩; exact ⟨by simp [Nat.shiftRight_eq_div_pow], rfl⟩)
set_option maxHeartbeats 400000 in
theorem size_any (a b : Int) (w : World) (ha : 0 ≤ a) (ha2 : a ≤ 100000000) (hb : 0 ≤ b) (hb2 : b ≤ 64) (hab : 0 ≤ a * b) (hab2 : a * b ≤ 6400000000) :
    Calls Try.prog 75 #[.int .i64 a, .int .i64 b] w fun e w' => e = .returned (.int .i64 ((a*b+7)/8)) ∧ w = w' := by
  go_enter Try.func75, Try.ntmps75
  go_wp2
  go_ret
  refine ⟨?_, rfl⟩
  show Ending.returned (.int .i64 _) = _
  rw [show a * b + 8 - 1 = a * b + 7 by omega]
theorem mul_le_64 {n wd : Nat} (hn : n ≤ 100000000) (hw : wd ≤ 64) : n * wd ≤ 6400000000 := by
  have := Nat.mul_le_mul hn hw; omega
theorem packSize_cast (n wd : Nat) : ((packSize n wd : Nat) : Int) = ((n : Int) * wd + 7) / 8 := by unfold packSize; simp
theorem size_n (n wd N : Nat) (w : World) (hn : n ≤ 100000000) (hw : wd ≤ 64) (hN : Hid (N = packSize n wd)) :
    Calls Try.prog 75 #[.int .i64 n, .int .i64 wd] w fun e w' => e = .returned (.int .i64 N) ∧ w = w' := by
  have h1 := mul_le_64 hn hw
  refine (size_any n wd w (by omega) (by omega) (by omega) (by omega) ?_ ?_).mono ?_
  · have h : (0 : Int) ≤ ((n * wd : Nat) : Int) := Int.natCast_nonneg _
    rwa [Int.natCast_mul] at h
  · have h : ((n * wd : Nat) : Int) ≤ 6400000000 := by omega
    rwa [Int.natCast_mul] at h
  · rintro e w' ⟨rfl, rfl⟩
    rw [hN.out, packSize_cast]; exact ⟨rfl, rfl⟩
theorem packSize_le {n wd : Nat} (hn : n ≤ 100000000) (hw : wd ≤ 64) : packSize n wd ≤ 800000001 := by
  have := mul_le_64 hn hw; unfold packSize; omega
theorem madeU8 (N : Nat) : (madeCells #[Value.int .u8 0] N).toList = u8v (List.replicate N 0) := by
  refine List.ext_getElem (by simp [madeCells, u8v]) fun i h1 h2 => ?_
  simp [madeCells, u8v, Nat.mod_one]
theorem packed_zero (l : List Nat) (wd : Nat) (h : l.length * wd = 0) : packed l wd = [] := by
  simp [packed, packSize, h, packTo]

set_option maxHeartbeats 1000000 in
set_option maxRecDepth 100000 in
theorem pack_in (ao : Option Addr) (n cap wd : Nat) (l : List Nat) (w : World) (hl : l.length = n) (hn : n ≤ 100000000) (hw : wd ≤ 64) (hb : ∀ x ∈ l, x < 18446744073709551616)
    (hc : CellsAt w w.heap.size ao n (u64c l)) :
    Calls Try.prog 56 #[.slice ao n cap, .int .i64 wd] w (GaveFresh w 5 (u8v (packed l wd))) := by
  have Hl := Lib.hid hl; clear hl
  have Hb := Lib.hid hb; clear hb
  obtain ⟨N, hN⟩ : ∃ N, Hid (N = packSize n wd) := ⟨_, Lib.hid rfl⟩
  have hN2 : N ≤ 800000001 := by rw [hN.out]; exact packSize_le hn hw
  have hmul : n * wd ≤ 6400000000 := mul_le_64 hn hw
  obtain ⟨g, hg⟩ : ∃ g, Hid (g = bitAt l wd) := ⟨_, Lib.hid rfl⟩
  have hpk : Hid (packed l wd = packTo g N (n * wd)) := Lib.hid (by rw [packed, Hl.out, hN.out, hg.out])
  obtain ⟨i0, hi, hz0, hz1, hz2⟩ := info_parts Try.infoU8
  go_enter Try.func56, Try.ntmps56
  go_wp2_with (first
    | (go_at_call 75; refine (size_n n wd N _ hn hw hN).mono ?_; rintro e w' ⟨rfl, rfl⟩)
    | (at_make; refine wpList_make_full _ rfl _ _ 26 rfl w.heap.size 5 i0 (.int .u8 0) 1 Try.underlying26 hi hz0 hz1 _ _ _ _ N rfl rfl rfl rfl ?b2 ?b3 (Nat.le_refl _) ?_))
  case b2 => rw [hz2]; omega
  case b3 => unfold maxLen; omega
  intro w0 hown0 hgrow0
  rw [madeU8] at hown0
  go_wp2
  go_loopw [6, 23] (fun at_ i wr => ∃ k t : Nat, k ≤ n ∧ Hid (t = k * wd) ∧ i = .int .i64 k ∧ at_ = .int .i64 t ∧ wr.ownsRow w.heap.size 5 1 (.slice (some ⟨w.heap.size, 0, none⟩) N N) N (u8v (packTo g N t)) ∧ Below w.heap.size w wr)
    (fun _ i _ => n - (intOf i).toNat)
  case atStart => exact ⟨0, 0, by omega, Lib.hid (by omega), rfl, rfl, by rw [packTo_zero]; simpa using hown0, (Below.refl _ _).grown hgrow0 (Nat.le_refl _) (fun k h => by cases h)⟩
  case round =>
    obtain ⟨k, t, hk, ht, rfl, rfl, hown, hnx⟩ := hrel
    by_cases hkn : k < n
    · obtain ⟨b, off, hao, hb, hcell⟩ := hc k hkn
      subst hao
      have hcell' := (hnx.cell (by exact hb)).trans hcell
      clear hc hcell
      obtain ⟨v, hv⟩ : ∃ v, v = l.getD k 0 := ⟨_, rfl⟩
      rw [u64c, ← hv] at hcell'
      have Hv := Lib.hid hv; clear hv
      go_wp2
      clear hcell'
      go_loopw [6, 28] (fun at_ i wr => ∃ m t : Nat, m ≤ wd ∧ Hid (t = k * wd + m) ∧ i = .int .i64 m ∧ at_ = .int .i64 t ∧ wr.ownsRow w.heap.size 5 1 (.slice (some ⟨w.heap.size, 0, none⟩) N N) N (u8v (packTo g N t)) ∧ Below w.heap.size w wr)
        (fun _ i _ => wd - (intOf i).toNat)
      case atStart => exact ⟨0, t, by omega, ht, rfl, rfl, hown, hnx⟩
      case round =>
        clear hown hnx ht
        obtain ⟨m, t, hm, ht, rfl, rfl, hown, hnx⟩ := hrel
        by_cases hmw : m < wd
        · have htl : t < n * wd := by
            rw [ht.out]
            have : (k + 1) * wd ≤ n * wd := Nat.mul_le_mul_right _ hkn
            rw [Nat.add_mul] at this; omega
          have htn : t / 8 < N := by rw [hN.out]; unfold packSize; omega
          have ht2 : t ≤ 6400000000 := by omega
          obtain ⟨old, hold⟩ : ∃ old, Hid (old = (packTo g N t).getD (t / 8) 0) := ⟨_, Lib.hid rfl⟩
          have hcell : wr.cell? ⟨w.heap.size, t / 8, none⟩ = some (.int .u8 (old : Nat)) := by rw [hold.out]; exact cell_u8 hown _ htn
          have hfr := hown.frozenAt (t / 8)
          clear hmul htl
          go_wp2
          have e1 : IntKind.i64.wrap ((t : Int) / 8) = t / 8 := IntWalk.i64_in _ (by omega)
          have e2 : (0 : Int) ≤ (t : Int) / 8 := by omega
          have e3 : ((t : Int) / 8).toNat = t / 8 := by omega
          have e4 : ((t : Int) / 8) < (N : Int) := by omega
          have e5 : (t : Int).tmod 8 = t % 8 := IntWalk.rem_in _ _ (by omega)
          have e6 : (0 : Int) ≤ (t : Int) % 8 := by omega
          have e7 : (t : Int) % 8 ≤ 64 := by omega
          go_still_tail 15, (by kernel_rfl)
          still_call (same_flip (halved_n _ m _ (by omega)))
          repeat still_step
          refine wpStill_nil ?_
          change wpList _ _ _ _ _ wr.drew
          go_wp2
          go_roundw
          case rel =>
            have hv64 : v < 18446744073709551616 := by
              rw [Hv.out, List.getD_eq_getElem?_getD, List.getElem?_eq_getElem (by rw [Hl.out]; exact hkn)]
              exact Hb.out _ (List.getElem_mem _)
            have hst := pack_store old v m (t % 8) (by rw [hold.out]; exact packTo_getD_lt _ _ _ _) hv64 (by omega)
            have hgt : v.testBit m = g t := by rw [hg.out, ht.out, bitAt_at l wd k m hmw, Hv.out]
            refine ⟨m + 1, t + 1, by omega, Lib.hid (by rw [ht.out]; omega), by go_num, by go_num, ?_, (hnx.setCell (by simp) _).drew⟩
            have hs := stored_u8 hown (t / 8) hst
            have hps := packTo_succ g N t htn
            rw [← hold.out] at hps
            rw [hgt, hps] at hs
            exact hs.drew
          case measure => simp [intOf]; omega
        · go_wp2
          go_roundw
          case rel => exact ⟨k + 1, t, by omega, Lib.hid (by rw [ht.out, Nat.add_mul]; omega), by go_num, rfl, hown, hnx⟩
          case measure => simp [intOf]; omega
    · go_wp2
      go_ret
      obtain rfl : k = n := by omega
      have hx : t = k * wd := ht.out
      refine ⟨_, rfl, ?_, hnx⟩
      rw [hpk.out, u8v_length, packTo_length, ← hx]
      exact hown
end Go.Proofs.Ytlnlcmdbhkpnhaa

/- The walks over the document's chapter 2: size, Pack. -/
namespace Go.Proofs.Ytlnlcmdbhkpnhaa
open Go.RowKit
set_option linter.unusedVariables false

set_option maxHeartbeats 400000 in
theorem rsize_any (a b : Int) (w : World) (ha : 0 ≤ a) (ha2 : a ≤ 100000000) (hb : 0 ≤ b) (hb2 : b ≤ 64) (hab : 0 ≤ a * b) (hab2 : a * b ≤ 6400000000) :
    Calls Try.prog 64 #[.int .i64 a, .int .i64 b] w fun e w' => e = .returned (.int .i64 ((a*b+7)/8)) ∧ w = w' := by
  go_enter Try.func64, Try.ntmps64
  go_wp2
  go_ret
  exact ⟨rfl, rfl⟩
theorem rsize_n (n wd N : Nat) (w : World) (hn : n ≤ 100000000) (hw : wd ≤ 64) (hN : Hid (N = packSize n wd)) :
    Calls Try.prog 64 #[.int .i64 n, .int .i64 wd] w fun e w' => e = .returned (.int .i64 N) ∧ w = w' := by
  have h1 := mul_le_64 hn hw
  refine (rsize_any n wd w (by omega) (by omega) (by omega) (by omega) ?_ ?_).mono ?_
  · have h : (0 : Int) ≤ ((n * wd : Nat) : Int) := Int.natCast_nonneg _
    rwa [Int.natCast_mul] at h
  · have h : ((n * wd : Nat) : Int) ≤ 6400000000 := by omega
    rwa [Int.natCast_mul] at h
  · rintro e w' ⟨rfl, rfl⟩
    rw [hN.out, packSize_cast]; exact ⟨rfl, rfl⟩

set_option maxHeartbeats 1000000 in
set_option maxRecDepth 100000 in
theorem rpack_in (ao : Option Addr) (n cap wd : Nat) (l : List Nat) (w : World) (hl : l.length = n) (hn : n ≤ 100000000) (hw : wd ≤ 64) (hb : ∀ x ∈ l, x < 18446744073709551616)
    (hc : CellsAt w w.heap.size ao n (u64c l)) :
    Calls Try.prog 40 #[.slice ao n cap, .int .i64 wd] w (GaveFresh w 5 (u8v (packed l wd))) := by
  have Hl := Lib.hid hl; clear hl
  have Hb := Lib.hid hb; clear hb
  obtain ⟨N, hN⟩ : ∃ N, Hid (N = packSize n wd) := ⟨_, Lib.hid rfl⟩
  have hN2 : N ≤ 800000001 := by rw [hN.out]; exact packSize_le hn hw
  have hmul : n * wd ≤ 6400000000 := mul_le_64 hn hw
  obtain ⟨g, hg⟩ : ∃ g, Hid (g = bitAt l wd) := ⟨_, Lib.hid rfl⟩
  have hpk : Hid (packed l wd = packTo g N (n * wd)) := Lib.hid (by rw [packed, Hl.out, hN.out, hg.out])
  obtain ⟨i0, hi, hz0, hz1, hz2⟩ := info_parts Try.infoU8
  go_enter Try.func40, Try.ntmps40
  go_wp2_with (first
    | (go_at_call 64; refine (rsize_n n wd N _ hn hw hN).mono ?_; rintro e w' ⟨rfl, rfl⟩)
    | (at_make; refine wpList_make_full _ rfl _ _ 26 rfl w.heap.size 5 i0 (.int .u8 0) 1 Try.underlying26 hi hz0 hz1 _ _ _ _ N rfl rfl rfl rfl ?b2 ?b3 (Nat.le_refl _) ?_))
  case b2 => rw [hz2]; omega
  case b3 => unfold maxLen; omega
  intro w0 hown0 hgrow0
  rw [madeU8] at hown0
  go_wp2
  go_loopw [6, 7] (fun at_ i wr => ∃ k t : Nat, k ≤ n ∧ Hid (t = k * wd) ∧ i = .int .i64 k ∧ at_ = .int .i64 t ∧ wr.ownsRow w.heap.size 5 1 (.slice (some ⟨w.heap.size, 0, none⟩) N N) N (u8v (packTo g N t)) ∧ Below w.heap.size w wr)
    (fun _ i _ => n - (intOf i).toNat)
  case atStart => exact ⟨0, 0, by omega, Lib.hid (by omega), rfl, rfl, by rw [packTo_zero]; simpa using hown0, (Below.refl _ _).grown hgrow0 (Nat.le_refl _) (fun k h => by cases h)⟩
  case round =>
    obtain ⟨k, t, hk, ht, rfl, rfl, hown, hnx⟩ := hrel
    by_cases hkn : k < n
    · obtain ⟨b, off, hao, hb, hlc⟩ := hc k hkn
      subst hao
      clear hc
      obtain ⟨v, hv⟩ : ∃ v, v = l.getD k 0 := ⟨_, rfl⟩
      rw [u64c, ← hv] at hlc
      have Hv := Lib.hid hv; clear hv
      have hv64 : v < 18446744073709551616 := by
        rw [Hv.out, List.getD_eq_getElem?_getD, List.getElem?_eq_getElem (by rw [Hl.out]; exact hkn)]
        exact Hb.out _ (List.getElem_mem _)
      go_wp2
      go_loopw [6, 8] (fun at_ i wr => ∃ m t : Nat, m ≤ wd ∧ Hid (t = k * wd + m) ∧ i = .int .i64 m ∧ at_ = .int .i64 t ∧ wr.ownsRow w.heap.size 5 1 (.slice (some ⟨w.heap.size, 0, none⟩) N N) N (u8v (packTo g N t)) ∧ Below w.heap.size w wr)
        (fun _ i _ => wd - (intOf i).toNat)
      case atStart => exact ⟨0, t, by omega, ht, rfl, rfl, hown, hnx⟩
      case round =>
        clear hown hnx ht
        obtain ⟨m, t, hm, ht, rfl, rfl, hown, hnx⟩ := hrel
        by_cases hmw : m < wd
        · have htl : t < n * wd := by
            rw [ht.out]
            have : (k + 1) * wd ≤ n * wd := Nat.mul_le_mul_right _ hkn
            rw [Nat.add_mul] at this; omega
          have htn : t / 8 < N := by rw [hN.out]; unfold packSize; omega
          have ht2 : t ≤ 6400000000 := by omega
          obtain ⟨old, hold⟩ : ∃ old, Hid (old = (packTo g N t).getD (t / 8) 0) := ⟨_, Lib.hid rfl⟩
          have hcell : wr.cell? ⟨w.heap.size, t / 8, none⟩ = some (.int .u8 (old : Nat)) := by rw [hold.out]; exact cell_u8 hown _ htn
          have hcell1 := (hnx.cell (by exact hb)).trans hlc
          have hfr := hown.frozenAt (t / 8)
          clear hmul htl
          have hgt : Hid (v.testBit m = g t) := Lib.hid (by rw [hg.out, ht.out, bitAt_at l wd k m hmw, Hv.out])
          go_wp2
          · go_roundw
            case rel =>
              have htb : v.testBit m = true := by rw [← rpack_test v m hv64]; assumption
              have hst := rpack_store old (t % 8) (by rw [hold.out]; exact packTo_getD_lt _ _ _ _) (by omega)
              refine ⟨m + 1, t + 1, by omega, Lib.hid (by rw [ht.out]; omega), by go_num, by go_num, ?_, hnx.setCell (by simp) _⟩
              have hs := stored_u8 hown (t / 8) hst
              have hps := packTo_succ g N t htn
              rw [← hold.out, ← hgt.out, htb] at hps
              rw [hps] at hs
              exact hs
            case measure => simp [intOf]; omega
          · go_roundw
            case rel =>
              have htb : v.testBit m = false := by rw [← rpack_test v m hv64]; assumption
              refine ⟨m + 1, t + 1, by omega, Lib.hid (by rw [ht.out]; omega), by go_num, by go_num, ?_, hnx⟩
              rw [← packTo_skip g N t (by rw [← hgt.out]; exact htb)]
              exact hown
            case measure => simp [intOf]; omega
        · go_wp2
          go_roundw
          case rel => exact ⟨k + 1, t, by omega, Lib.hid (by rw [ht.out, Nat.add_mul]; omega), by go_num, rfl, hown, hnx⟩
          case measure => simp [intOf]; omega
    · go_wp2
      go_ret
      obtain rfl : k = n := by omega
      have hx : t = k * wd := ht.out
      refine ⟨_, rfl, ?_, hnx⟩
      rw [hpk.out, u8v_length, packTo_length, ← hx]
      exact hown
end Go.Proofs.Ytlnlcmdbhkpnhaa

/- Pack at any width. -/
namespace Go.Proofs.Ytlnlcmdbhkpnhaa
open Go.RowKit
set_option linter.unusedVariables false

/-- What Pack makes at any width. -/
def packedAny (l : List Nat) (width : Int) : List Nat := if 0 ≤ width ∧ width ≤ 64 then packed l width.toNat else []

theorem fresh_nil (w : World) (E : TypeId) : Fresh w w E (.slice none 0 0) [] := ⟨World.ownsRow_nil _ _ _ _, Below.refl _ _⟩
theorem gave_nil (w : World) (E : TypeId) : GaveFresh w E [] (.returned (.slice none 0 0)) w := ⟨_, rfl, fresh_nil _ _⟩

set_option maxHeartbeats 400000 in
theorem pack_out (ao : Option Addr) (n cap : Nat) (width : Int) (w : World) (hw : width < 0 ∨ 64 < width) :
    Calls Try.prog 56 #[.slice ao n cap, .int .i64 width] w (GaveFresh w 5 (u8v [])) := by
  rcases hw with hw | hw
  · go_enter Try.func56, Try.ntmps56
    go_wp2
    go_ret
    exact gave_nil _ _
  · go_enter Try.func56, Try.ntmps56
    have h0 : ¬ width < 0 := by omega
    go_wp2
    go_ret
    exact gave_nil _ _
set_option maxHeartbeats 400000 in
theorem rpack_out (ao : Option Addr) (n cap : Nat) (width : Int) (w : World) (hw : width < 0 ∨ 64 < width) :
    Calls Try.prog 40 #[.slice ao n cap, .int .i64 width] w (GaveFresh w 5 (u8v [])) := by
  rcases hw with hw | hw
  · go_enter Try.func40, Try.ntmps40
    go_wp2
    go_ret
    exact gave_nil _ _
  · go_enter Try.func40, Try.ntmps40
    have h0 : ¬ width < 0 := by omega
    go_wp2
    go_ret
    exact gave_nil _ _
theorem pack_any (ao : Option Addr) (n cap : Nat) (width : Int) (l : List Nat) (w : World) (hl : l.length = n) (hn : n ≤ 100000000) (hb : ∀ x ∈ l, x < 18446744073709551616)
    (hc : CellsAt w w.heap.size ao n (u64c l)) :
    Calls Try.prog 56 #[.slice ao n cap, .int .i64 width] w (GaveFresh w 5 (u8v (packedAny l width))) := by
  unfold packedAny
  by_cases h : 0 ≤ width ∧ width ≤ 64
  · rw [if_pos h]
    have := pack_in ao n cap width.toNat l w hl hn (by omega) hb hc
    rwa [Int.toNat_of_nonneg h.1] at this
  · rw [if_neg h]; exact pack_out ao n cap width w (by omega)
theorem rpack_any (ao : Option Addr) (n cap : Nat) (width : Int) (l : List Nat) (w : World) (hl : l.length = n) (hn : n ≤ 100000000) (hb : ∀ x ∈ l, x < 18446744073709551616)
    (hc : CellsAt w w.heap.size ao n (u64c l)) :
    Calls Try.prog 40 #[.slice ao n cap, .int .i64 width] w (GaveFresh w 5 (u8v (packedAny l width))) := by
  unfold packedAny
  by_cases h : 0 ≤ width ∧ width ≤ 64
  · rw [if_pos h]
    have := rpack_in ao n cap width.toNat l w hl hn (by omega) hb hc
    rwa [Int.toNat_of_nonneg h.1] at this
  · rw [if_neg h]; exact rpack_out ao n cap width w (by omega)

end Go.Proofs.Ytlnlcmdbhkpnhaa

/- Words on memory where one block is written: a reader's. slices.Clone of bytes. -/
namespace Go.Proofs.Ytlnlcmdbhkpnhaa
open Go.RowKit
set_option linter.unusedVariables false

/-- All that was there is as it was, but for block g. -/
structure But (g : Nat) (w w' : World) : Prop where
  os : w'.os = w.os
  tape : w'.tape = w.tape
  output : w'.output = w.output
  size : w.heap.size ≤ w'.heap.size
  block : ∀ k, k < w.heap.size → k ≠ g → w'.heap[k]? = w.heap[k]?
theorem But.below {g B : Nat} {w w1 w2 : World} (h : Below B w w1) (k : But g w1 w2) (hg : B ≤ g) (hB : B ≤ w1.heap.size) : Below B w w2 :=
  h.trans ⟨k.os, k.tape, k.output, k.size, fun j hj => k.block j (by omega) (by omega)⟩
theorem But.trans {g : Nat} {a b c : World} (h : But g a b) (k : But g b c) : But g a c :=
  ⟨k.os.trans h.os, k.tape.trans h.tape, k.output.trans h.output, Nat.le_trans h.size k.size, fun j hj hn => (k.block j (Nat.lt_of_lt_of_le hj h.size) hn).trans (h.block j hj hn)⟩
theorem But.refl (g : Nat) (w : World) : But g w w := ⟨rfl, rfl, rfl, Nat.le_refl _, fun _ _ _ => rfl⟩
theorem But.of {g : Nat} {w w' : World} (h : Below w.heap.size w w') : But g w w' := ⟨h.os, h.tape, h.output, h.size, fun j hj _ => h.block j hj⟩
theorem But.cell {g : Nat} {w w' : World} (h : But g w w') {a : Addr} (hb : a.block < w.heap.size) (hn : a.block ≠ g) : w'.cell? a = w.cell? a := by
  unfold World.cell?
  rw [h.block a.block hb hn]
theorem But.cells {g B : Nat} {w w' : World} (h : But g w w') {ao : Option Addr} {n : Nat} {f : Nat → Value} (hB : B ≤ w.heap.size) (hg : B ≤ g) (hc : CellsAt w B ao n f) : CellsAt w' B ao n f := fun i hi =>
  let ⟨b, off, e, hlt, hx⟩ := hc i hi; ⟨b, off, e, hlt, (h.cell (show b < w.heap.size by omega) (show b ≠ g by omega)).trans hx⟩

/-- A reader of the code: what is left, its error; its bytes lie from block lo on. -/
def Rd (w : World) (g lo : Nat) (l : List Nat) (e : Nat) : Prop :=
  ∃ ao cap, w.heap[g]? = some (.cells #[.slice ao l.length cap, .int .i64 (e : Nat)] 107) ∧ CellsAt w g ao l.length (u8c l) ∧ (ao = none → l.length = 0) ∧ l.length ≤ cap ∧ (0 < l.length → ∀ a, ao = some a → lo ≤ a.block)
theorem Rd.lt {w : World} {g lo : Nat} {l : List Nat} {e : Nat} (h : Rd w g lo l e) : g < w.heap.size := by
  obtain ⟨ao, cap, h, -⟩ := h
  exact (Array.getElem?_eq_some_iff.1 h).1
theorem Rd.below {w w' : World} {g lo B : Nat} {l : List Nat} {e : Nat} (h : Rd w g lo l e) (hb : Below B w w') (hg : g < B) : Rd w' g lo l e := by
  obtain ⟨ao, cap, h1, h2, h3⟩ := h
  refine ⟨ao, cap, (hb.block g hg).trans h1, fun i hi => ?_, h3⟩
  obtain ⟨b, off, e, hlt, hc⟩ := h2 i hi
  exact ⟨b, off, e, hlt, (hb.cell (show b < B by omega)).trans hc⟩
theorem Rd.keep {w w' : World} {g lo : Nat} {l : List Nat} {e : Nat} (h : Rd w g lo l e) (hb : Below w.heap.size w w') : Rd w' g lo l e := h.below hb h.lt
theorem Rd.but {w w' : World} {g lo g' : Nat} {l : List Nat} {e : Nat} (h : Rd w g lo l e) (hb : But g' w w') (hg : g < g' ∨ g' < lo ∧ g' < g) : Rd w' g lo l e := by
  have hlt := h.lt
  obtain ⟨ao, cap, h1, h2, h3, h4, h5⟩ := h
  refine ⟨ao, cap, (hb.block g hlt (by omega)).trans h1, fun i hi => ?_, h3, h4, h5⟩
  obtain ⟨b, off, rfl, hbg, hc⟩ := h2 i hi
  have := h5 (by omega) _ rfl
  simp only at this
  exact ⟨b, off, rfl, hbg, (hb.cell (show b < w.heap.size by omega) (show b ≠ g' by omega)).trans hc⟩
/-- A block of two cells. -/
theorem two_cells {w : World} {g T : Nat} {a b : Value} (h : w.heap[g]? = some (.cells #[a, b] T)) :
    w.cell? ⟨g, 0, none⟩ = some a ∧ w.cell? ⟨g, 1, none⟩ = some b ∧ w.frozen? ⟨g, 0, none⟩ = false ∧ w.frozen? ⟨g, 1, none⟩ = false := by
  refine ⟨?_, ?_, ?_, ?_⟩ <;> simp [World.cell?, World.frozen?, h]
theorem two_set0 {w : World} {g T : Nat} {a b : Value} (h : w.heap[g]? = some (.cells #[a, b] T)) (v : Value) : (w.setCell ⟨g, 0, none⟩ v).heap[g]? = some (.cells #[v, b] T) := by
  simp only [World.setCell, Array.getElem?_modify, h]; simp
theorem two_set1 {w : World} {g T : Nat} {a b : Value} (h : w.heap[g]? = some (.cells #[a, b] T)) (v : Value) : (w.setCell ⟨g, 1, none⟩ v).heap[g]? = some (.cells #[a, v] T) := by
  simp only [World.setCell, Array.getElem?_modify, h]; simp
theorem But.setCell {g : Nat} {a w : World} (h : But g a w) (o : Nat) (u : Value) : But g a (w.setCell ⟨g, o, none⟩ u) :=
  h.trans ⟨rfl, rfl, rfl, by simp [World.setCell], fun k hk hn => Below.heap_setCell _ _ _ _ hn⟩
theorem But.drew {g : Nat} {a w : World} (h : But g a w) : But g a w.drew := ⟨h.os, h.tape, h.output, h.size, h.block⟩

def rdFail (l : List Nat) (e c : Nat) : List Nat × Nat := if e = 0 then (if c = 0 then l else [], c) else ([], e)
/-- What 'take' gives, leaves, and says. -/
def rdTake (l : List Nat) (e : Nat) (n : Int) : List Nat × List Nat × Nat :=
  if l.length < n.toNat then ([], rdFail l e 8) else (l.take n.toNat, l.drop n.toNat, e)
/-- Bytes as a number, the lowest first. -/
def numB : List Nat → Nat
  | [] => 0
  | x :: t => x + 256 * numB t
def rdGet (l : List Nat) (e : Nat) (n : Int) : Nat × List Nat × Nat :=
  let r := rdTake l e (if 8 < n then 0 else n)
  (numB r.1, r.2)
end Go.Proofs.Ytlnlcmdbhkpnhaa

/- slices.Grow at nil, slices.Concat of slices of bytes. -/
namespace Go.Proofs.Ytlnlcmdbhkpnhaa
open Go.RowKit
set_option linter.unusedVariables false

/-- Slices of bytes as the cells of a slice of slices: what each part is; a nil one has no room. -/
def PartsOk (w : World) (B : Nat) (ao : Option Addr) (n : Nat) (ps : List (List Nat)) : Prop :=
  ps.length = n ∧ ∀ i, i < n → ∃ b off, ao = some ⟨b, off, none⟩ ∧ b < B ∧ ∃ a m c, w.cell? ⟨b, off + i, none⟩ = some (.slice a m c) ∧ (ps.getD i []).length = m ∧ (a = none → m = 0 ∧ c = 0) ∧ CellsAt w B a m (u8c (ps.getD i []))
theorem PartsOk.below {w w' : World} {B : Nat} {ao : Option Addr} {n : Nat} {ps : List (List Nat)} (h : PartsOk w B ao n ps) (hb : Below B w w') : PartsOk w' B ao n ps :=
  ⟨h.1, fun i hi => let ⟨b, off, e, hlt, a, m, c, h1, h2, h3, h4⟩ := h.2 i hi; ⟨b, off, e, hlt, a, m, c, (hb.cell (by exact hlt)).trans h1, h2, h3, h4.below hb⟩⟩
theorem PartsOk.mono {w : World} {B B' : Nat} {ao : Option Addr} {n : Nat} {ps : List (List Nat)} (h : PartsOk w B ao n ps) (hB : B ≤ B') : PartsOk w B' ao n ps :=
  ⟨h.1, fun i hi => let ⟨b, off, e, hlt, a, m, c, h1, h2, h3, h4⟩ := h.2 i hi; ⟨b, off, e, Nat.lt_of_lt_of_le hlt hB, a, m, c, h1, h2, h3, h4.mono hB⟩⟩
/-- Parts as the cells of a new block. -/
theorem partsOk_alloc {w : World} {E : TypeId} (sl : List (Option Addr × Nat × Nat × List Nat))
    (h : ∀ s ∈ sl, s.2.2.2.length = s.2.1 ∧ (s.1 = none → s.2.1 = 0 ∧ s.2.2.1 = 0) ∧ CellsAt w w.heap.size s.1 s.2.1 (u8c s.2.2.2)) :
    PartsOk (w.alloc (.cells (sl.map fun s => Value.slice s.1 s.2.1 s.2.2.1).toArray E)) (w.alloc (.cells (sl.map fun s => Value.slice s.1 s.2.1 s.2.2.1).toArray E)).heap.size (some ⟨w.heap.size, 0, none⟩) sl.length (sl.map (·.2.2.2)) := by
  refine ⟨by simp, fun i hi => ?_⟩
  obtain ⟨b, off, e, hb, hc⟩ := cells_alloc w (sl.map fun s => Value.slice s.1 s.2.1 s.2.2.1).toArray E sl.length (fun i => (sl.map fun s => Value.slice s.1 s.2.1 s.2.2.1).getD i undef) (fun i hi => by
    show _ = some ((sl.map fun s => Value.slice s.1 s.2.1 s.2.2.1).getD i undef)
    rw [List.getD_eq_getElem?_getD, List.getElem?_eq_getElem (by simpa using hi)]; simp [hi]) i hi
  obtain ⟨h1, h2, h3⟩ := h sl[i] (List.getElem_mem _)
  refine ⟨b, off, e, hb, sl[i].1, sl[i].2.1, sl[i].2.2.1, ?_, ?_, h2, ?_⟩
  · rw [hc]; show some ((sl.map fun s => Value.slice s.1 s.2.1 s.2.2.1).getD i undef) = _; rw [List.getD_eq_getElem?_getD, List.getElem?_map, List.getElem?_eq_getElem hi]; rfl
  · rw [List.getD_eq_getElem?_getD, List.getElem?_map, List.getElem?_eq_getElem hi]; exact h1
  · rw [List.getD_eq_getElem?_getD, List.getElem?_map, List.getElem?_eq_getElem hi]; exact (h3.alloc (Nat.le_refl _) _).mono (by simp)

theorem flatten_take' (ps : List (List Nat)) (k : Nat) (hk : k < ps.length) : (ps.take (k + 1)).flatten = (ps.take k).flatten ++ ps.getD k [] := by
  rw [List.take_succ_eq_append_getElem hk, List.flatten_append, List.getD_eq_getElem?_getD, List.getElem?_eq_getElem hk]; simp
theorem flatten_take_le (ps : List (List Nat)) (k : Nat) : (ps.take k).flatten.length ≤ ps.flatten.length := by
  have e : ps.flatten = (ps.take k).flatten ++ (ps.drop k).flatten := by rw [← List.flatten_append, List.take_append_drop]
  rw [e, List.length_append]; omega

set_option maxRecDepth 100000 in
set_option maxHeartbeats 1000000 in
theorem grow_nil (n : Nat) (w : World) (hn : n ≤ 140737488355328) :
    Calls Try.prog 76 #[.slice none 0 0, .int .i64 n] w fun e w' => ∃ v, e = .returned v ∧ w'.ownsRow w.heap.size 5 1 v 0 [] ∧ Below w.heap.size w w' := by
  rcases Nat.eq_zero_or_pos n with h0 | h0
  · subst h0
    go_enter Try.func76, Try.ntmps76
    go_wp2
    go_ret
    exact ⟨_, rfl, World.ownsRow_nil _ _ _ _, Below.refl _ _⟩
  · obtain ⟨i0, hi, hz0, hz1, hz2⟩ := info_parts Try.infoU8
    have hr := fun (w' : World) => Lib.run_append_nil_zeros (P := Try.prog) w' 26 3 26 5 i0 (.int .u8 0) .i64 .i64 Try.underlying26 Try.underlying3 hi hz0 n h0 (by omega) (by omega) (by rw [hz2]; omega)
    have hge := grownCap_ge w n 0 5
    have hcm : grownCap w n 0 5 ≤ maxLen := grownCap_le_maxLen w n 0 5 (by unfold maxLen; omega)
    obtain ⟨cap, hcap⟩ : ∃ cap, cap = grownCap w n 0 5 := ⟨_, rfl⟩
    have hrw := hr w
    rw [← hcap] at hge hcm hrw
    have Hcap := Lib.hid hcap; clear hcap hr
    have Hcm := Lib.hid hcm; clear hcm
    go_enter Try.func76, Try.ntmps76
    go_wp2_with (at_builtin; refine Lib.wpList_append_run w rfl (.tmp 20) (.tmp 21) 26 3 rfl _ _ rfl rfl _ _ hrw ?_)
    clear hrw
    go_wp2
    go_ret
    refine ⟨_, rfl, ⟨by simp, .inr ⟨w.heap.size, cap, _, rfl, Nat.le_refl _, heap_alloc_new w.drew _, Nat.zero_le _, Hcm.out, ?_, rfl⟩⟩, balloc (Below.refl _ _).drew _⟩
    simp only [Array.size_append, size_zeroCells]
    show n * 1 + (cap - n) * 1 = cap * 1
    omega

set_option maxHeartbeats 2000000 in
set_option maxRecDepth 100000 in
theorem concat_any (ao : Option Addr) (n cap : Nat) (ps : List (List Nat)) (w : World) (hn : n ≤ 9223372036854775807) (hsum : ps.flatten.length ≤ 1000000000) (hp : PartsOk w w.heap.size ao n ps) :
    Calls Try.prog 60 #[.slice ao n cap] w fun e w' => ∃ v, e = .returned v ∧ Fresh w w' 5 v (u8v ps.flatten) := by
  obtain ⟨hpl, hpc⟩ := hp
  have Hpl := Lib.hid hpl; clear hpl
  have HP := Lib.hid hpc
  go_enter Try.func60, Try.ntmps60
  go_wp2
  go_loop [3, 11] (fun s i => ∃ k t : Nat, k ≤ n ∧ i = .int .i64 k ∧ s = .int .i64 t ∧ Hid (t = (ps.take k).flatten.length)) (fun _ i => n - (intOf i).toNat)
  case atStart => exact ⟨0, 0, Nat.zero_le _, rfl, rfl, Lib.hid (by simp)⟩
  case round =>
    obtain ⟨k, t, hk, rfl, rfl, ht⟩ := hrel
    by_cases hkn : k < n
    · obtain ⟨b, off, rfl, hb, a, m, c, hcell, hm, hnil, hpc⟩ := hpc k hkn
      have ht2 : t + m ≤ 1000000000 := by
        have h := flatten_take_le ps (k + 1)
        rw [flatten_take' ps k (by rw [Hpl.out]; exact hkn), List.length_append, hm, ← ht.out] at h
        omega
      have hnext : Hid (t + m = (ps.take (k + 1)).flatten.length) := Lib.hid (by rw [flatten_take' ps k (by rw [Hpl.out]; exact hkn), List.length_append, hm, ← ht.out])
      clear hm hpc
      go_wp2
      go_round
      case rel => exact ⟨k + 1, t + m, by omega, by go_num, by go_num, hnext⟩
      case measure => simp [intOf]; omega
    · obtain rfl : k = n := by omega
      have ht2 : t ≤ 1000000000 := by have := flatten_take_le ps k; rw [← ht.out] at this; omega
      have HT : Hid (t = ps.flatten.length) := Lib.hid (by rw [ht.out, List.take_of_length_le (by rw [Hpl.out]; exact Nat.le_refl _)])
      clear ht hsum hpc
      go_wp2_with (go_at_call 76; refine (grow_nil t _ (by omega)).mono ?_; rintro e x1 ⟨v1, rfl, hown1, hx1⟩)
      go_loopw [6, 27] (fun v i wr => ∃ j u : Nat, j ≤ k ∧ i = .int .i64 j ∧ Hid (u = (ps.take j).flatten.length) ∧ wr.ownsRow w.heap.size 5 1 v u (u8v (ps.take j).flatten) ∧ Below w.heap.size w wr) (fun _ i _ => k - (intOf i).toNat)
      case atStart => exact ⟨0, 0, Nat.zero_le _, rfl, Lib.hid (by simp), hown1, hx1⟩
      case round =>
        obtain ⟨j, u, hj, rfl, hu, hown, hwr⟩ := hrel
        by_cases hjk : j < k
        · obtain ⟨b, off, rfl, hb, a, m, c, hcell, hm, hnil, hcs⟩ := HP.out j hjk
          have hcell' := (hwr.cell (by exact hb)).trans hcell
          have hle : u + m ≤ 1000000000 := by
            have h := flatten_take_le ps (j + 1)
            rw [flatten_take' ps j (by rw [Hpl.out]; exact hjk), List.length_append, hm, ← hu.out, ← HT.out] at h
            omega
          have hfl : Hid (u + m = (ps.take (j + 1)).flatten.length) := Lib.hid (by rw [flatten_take' ps j (by rw [Hpl.out]; exact hjk), List.length_append, hm, ← hu.out])
          have hst : u8v (ps.take j).flatten ++ (List.range m).map (u8c (ps.getD j [])) = u8v (ps.take (j + 1)).flatten := by
            rw [range_u8c _ m hm, u8v_append, flatten_take' ps j (by rw [Hpl.out]; exact hjk)]
          have hcs' := hcs.below hwr
          obtain ⟨p, hp⟩ : ∃ p, p = ps.getD j [] := ⟨_, rfl⟩
          rw [← hp] at hcs' hst
          have Hst := Lib.hid hst; clear hst
          clear hp hm hcell hcs
          go_wp2_with (at_builtin; refine wpList_append_all1 sl_u8 rfl (.tmp 31) (.tmp 32) rfl rfl hown rfl hcs' hnil (fun _ _ => rfl) ?c1 ?c2 hwr.size ?_)
          case c1 => unfold maxLen; omega
          case c2 => omega
          intro v' y hown' hgrow
          rw [Hst.out] at hown'
          have hy := hwr.grown hgrow hwr.size (fun j hj => (hown.lt j hj).1)
          go_wp2
          go_roundw
          case rel => exact ⟨j + 1, u + m, by omega, by go_num, hfl, hown', hy⟩
          case measure => simp [intOf]; omega
        · obtain rfl : j = k := by omega
          have hall : (ps.take j).flatten = ps.flatten := by rw [List.take_of_length_le (by rw [Hpl.out]; exact Nat.le_refl _)]
          rw [hall] at hown
          have Hu : Hid (u = ps.flatten.length) := Lib.hid (by rw [hu.out, hall])
          clear hu hall
          go_wp2
          go_ret
          exact ⟨_, rfl, by rw [u8v_length, ← Hu.out]; exact hown, hwr⟩
end Go.Proofs.Ytlnlcmdbhkpnhaa

/- A region that draws its order, walked once in the order of the text, though calls and appends in it make new memory: an operation that yields one value in every world that has grown out of the present one may be taken first; each other one must be the only one that may come up. No program. -/
namespace Go.Proofs.Ytlnlcmdbhkpnhaa
open Go.RowKit

/-- w' has grown out of w: whatever was there is as it was. -/
def Grows (w w' : World) : Prop := Below w.heap.size w w'
theorem Grows.refl (w : World) : Grows w w := Below.refl _ _
theorem Grows.trans {a b c : World} (h : Grows a b) (k : Grows b c) : Grows a c := bmore h k
theorem Grows.alloc {w w' : World} (h : Grows w w') (o : Obj) : Grows w (w'.alloc o) := balloc h o
theorem Grows.drew {w w' : World} (h : Grows w w') : Grows w w'.drew := Below.drew h
/-- A draw counts for nothing. -/
theorem Grows.ofDrew {w w' : World} (h : Grows w w') : Grows w.drew w' := ⟨h.os, h.tape, h.output, h.size, h.block⟩
theorem Grows.toDrew {w w' : World} (h : Grows w.drew w') : Grows w w' := ⟨h.os, h.tape, h.output, h.size, h.block⟩
theorem Grows.cell {w w' : World} (h : Grows w w') {a : Addr} {v : Value} (hc : w.cell? a = some v) : w'.cell? a = some v :=
  (Below.cell h (World.block_lt_of_cell? w a hc)).trans hc
theorem Grows.cells {w w' : World} (h : Grows w w') {ao : Option Addr} {n : Nat} {f : Nat → Value} (hc : CellsAt w w.heap.size ao n f) : CellsAt w' w'.heap.size ao n f := hc.at h

section
variable {P : Program} {ops : Array Oper} {md : Region.Mode} {Q : Exit → Act → World → Prop}

/-- Any order from here on; each step lets the world grow. -/
def wpAnyG (P : Program) (md : Region.Mode) (ops : Array Oper) (Q : Exit → Act → World → Prop) : Nat → Array Bool → Act → World → Prop
  | 0, listed, a, w => Region.ready md ops listed = [] ∧ Q .normal a w
  | n + 1, listed, a, w => (Region.ready md ops listed = [] → Q .normal a w) ∧
      ∀ i ∈ Region.ready md ops listed, wpOp P ops Q i (fun a' w' => Grows w w' ∧ wpAnyG P md ops Q n (listed.setIfInBounds i true) a' w') a w

theorem wpAny_of_G : ∀ (n : Nat) (listed : Array Bool) (a : Act) (w : World), wpAnyG P md ops Q n listed a w → wpAny P md ops Q n listed a w
  | 0, _, _, _, h => h
  | n + 1, _, _, _, h => ⟨h.1, fun i hi => wpOp_mono (fun a' w' hh => wpAny_of_G n _ a' w' hh.2) (h.2 i hi)⟩

/-- One value in every world that has grown out of w. -/
def Steady (P : Program) (ops : Array Oper) (o : Oper) (v : Value) (a : Act) (w : World) : Prop :=
  (Region.wanted o (yielded ops a.tmps) = true ∧ ∀ w', Grows w w' → o.quietAt P a (fun x => x = w') w' v) ∨
  (Region.wanted o (yielded ops a.tmps) = false ∧ v = undef)
theorem Steady.grow {o : Oper} {v : Value} {a a' : Act} {w w' : World} (h : Steady P ops o v a w) (hg : Grows w w') (he : execOp a'.eval o = execOp a.eval o)
    (hw : Region.wanted o (yielded ops a'.tmps) = Region.wanted o (yielded ops a.tmps)) : Steady P ops o v a' w' := by
  unfold Steady Oper.quietAt at *
  rw [he, hw]
  exact h.imp (fun x => ⟨x.1, fun w2 h2 => x.2 w2 (hg.trans h2)⟩) id
theorem Steady.wpOp {i : Nat} {o : Oper} {v : Value} {a : Act} {w : World} (hi : ops[i]? = some o) (hy : Steady P ops o v a w) {K : Act → World → Prop} (h : K (a.put o.dst v) w) : wpOp P ops Q i K a w := by
  unfold Go.wpOp
  simp only [hi]
  rcases hy with ⟨hw, hv⟩ | ⟨hw, rfl⟩
  · rw [if_pos hw]
    exact .inl (Oper.wp_of_quiet (C := fun x => x = w) (K := fun a' => K a' w) rfl (fun a' w' e k => by subst e; exact k) ⟨v, fun x hx => by subst hx; exact hv x (Grows.refl x), h⟩)
  · rw [if_neg (by rw [hw]; exact Bool.false_ne_true)]
    exact h

/-- Operation oj, apart from oi: whether oi's value is in its slot already makes no difference. -/
theorem wpOp_swap {j : Nat} {oi oj : Oper} {v : Value} (hj : ops[j]? = some oj) (hap : oi.apart ops oj = true) (hsi : ∀ cs b, oi.op ≠ .select cs b) (hsj : ∀ cs b, oj.op ≠ .select cs b)
    (hQ : ∀ c a w, Q (.panic c) (a.put oi.dst v) w → Q (.panic c) a w) {K : Act → World → Prop} {a : Act} {w : World} (h : wpOp P ops Q j K (a.put oi.dst v) w) :
    wpOp P ops Q j (fun a' w' => (execOp a'.eval oi = execOp a.eval oi ∧ Region.wanted oi (yielded ops a'.tmps) = Region.wanted oi (yielded ops a.tmps)) ∧ K (a'.put oi.dst v) w') a w := by
  obtain ⟨h1, h2, h3⟩ := Oper.apart_spec hap
  have hput : ∀ (b : Act) (u : Value), execOp (b.put oj.dst u).eval oi = execOp b.eval oi ∧ Region.wanted oi (yielded ops (b.put oj.dst u).tmps) = Region.wanted oi (yielded ops b.tmps) :=
    fun b u => ⟨execOp_put oi hsi b oj.dst u h3, wanted_put oi b oj.dst u h3⟩
  have hex := execOp_put oj hsj a oi.dst v h1
  have hwa := wanted_put (ops := ops) oj a oi.dst v h1
  unfold wpOp at h ⊢
  rw [hj] at h ⊢
  simp only [] at h ⊢
  rw [hwa] at h
  by_cases hw : Region.wanted oj (yielded ops a.tmps) = true
  · rw [if_pos hw] at h ⊢
    rcases h with h | ⟨hk, hl⟩
    · refine .inl ?_
      unfold Oper.wp at h ⊢
      rw [hex] at h
      revert h
      generalize (execOp a.eval oj).run P w = r
      intro h
      cases r with
      | halt x w' => cases x <;> first | exact h | exact hQ _ _ _ h
      | ok x w' =>
        cases x with
        | value u => exact ⟨hput a u, by rw [← Act.put_comm a v u h2]; exact h⟩
        | skip => exact ⟨hput a _, by rw [← Act.put_comm a v undef h2]; exact h⟩
        | defer d =>
          refine ⟨hput _ _, ?_⟩
          have h' : K (({ a.put oi.dst v with defers := d :: (a.put oi.dst v).defers } : Act).put oj.dst undef) w' := h
          rw [Act.put_defers, Act.put_comm _ v undef h2] at h'
          exact h'
        | enter f args =>
          refine Calls.mono (show Calls P f args w' _ from h) fun e w2 he => ?_
          cases e with
          | returned u => exact ⟨hput a u, by rw [← Act.put_comm a v u h2]; exact he⟩
          | panicked c => exact hQ _ _ _ he
          | outgrown => exact he
        | row r args => exact Rows.mono (show Rows P r args w' _ from h) fun u w2 he => ⟨hput a u, by rw [← Act.put_comm a v u h2]; exact he⟩
        | _ => exact (show False from h).elim
    · exact .inr ⟨by unfold Oper.asks at hk ⊢; rwa [hex] at hk, hl⟩
  · rw [if_neg hw] at h ⊢
    exact ⟨hput a _, by rw [← Act.put_comm a v undef h2]; exact h⟩

theorem wpAnyG_first {i : Nat} {oi : Oper} {v : Value} (hi : ops[i]? = some oi) (hsel : ∀ (j : Nat) (o : Oper) cs b, ops[j]? = some o → o.op ≠ .select cs b)
    (hQ : ∀ c a w, Q (.panic c) (a.put oi.dst v) w → Q (.panic c) a w) :
    ∀ (n : Nat) (listed : Array Bool) (a : Act) (w : World),
      (∀ j oj, ops[j]? = some oj → j ≠ i → listed.getD j true = false → (∀ e ∈ oj.after, Region.binds md e = true → e.on ≠ i) → oi.apart ops oj = true) →
      i ∈ Region.ready md ops listed → Steady P ops oi v a w →
      wpAnyG P md ops Q n (listed.setIfInBounds i true) (a.put oi.dst v) w → wpAnyG P md ops Q (n + 1) listed a w := by
  intro n
  induction n with
  | zero =>
    intro listed a w _ hr hy H
    refine ⟨fun h => absurd hr (by rw [h]; exact List.not_mem_nil), fun j hj => ?_⟩
    by_cases hji : j = i
    · subst hji; exact hy.wpOp hi ⟨Grows.refl _, H⟩
    · have := ready_mono hj hji
      rw [H.1] at this
      exact absurd this List.not_mem_nil
  | succ n ih =>
    intro listed a w hfree hr hy H
    refine ⟨fun h => absurd hr (by rw [h]; exact List.not_mem_nil), fun j hj => ?_⟩
    by_cases hji : j = i
    · subst hji; exact hy.wpOp hi ⟨Grows.refl _, H⟩
    · have hjin := ready_mono hj hji
      obtain ⟨hun, oj, hoj, hall⟩ := mem_ready.1 hj
      have hiun := (mem_ready.1 hr).1
      have hno : ∀ e ∈ oj.after, Region.binds md e = true → e.on ≠ i := by
        intro e he hb heq
        have hx := hall e he hb
        rw [heq] at hx
        rcases Nat.lt_or_ge i listed.size with hlt | hge
        · simp [hlt] at hiun hx; rw [hiun] at hx; exact absurd hx Bool.false_ne_true
        · simp [Array.getElem?_eq_none hge] at hx
      have hs := wpOp_swap hoj (hfree j oj hoj hji hun hno) (fun cs b => hsel i oi cs b hi) (fun cs b => hsel j oj cs b hoj) hQ (H.2 j hjin)
      refine wpOp_mono (fun a' w' hh => ⟨hh.2.1, ?_⟩) hs
      refine ih (listed.setIfInBounds j true) a' w' (fun k ok hk hki hku hkn => hfree k ok hk hki ?_ hkn) (ready_mono hr (Ne.symm hji)) (hy.grow hh.2.1 hh.1.1 hh.1.2) ?_
      · by_cases hjk : j = k
        · subst hjk; exact hun
        · rwa [getD_set_ne true hjk] at hku
      · rw [Array.setIfInBounds_comm _ _ hji]
        exact hh.2.2

/-- The walk in an order of one's choice: each operation's number with a mark: true: one value in whatever grown world; false: the only one that may come up. -/
def wpLin (P : Program) (ops : Array Oper) (Q : Exit → Act → World → Prop) : List (Nat × Bool) → Act → World → Prop
  | [], a, w => Q .normal a w
  | (i, true) :: rest, a, w => ∃ o, ops[i]? = some o ∧ ∃ v, Steady P ops o v a w ∧ wpLin P ops Q rest (a.put o.dst v) w
  | (i, false) :: rest, a, w => ∃ o, ops[i]? = some o ∧ if Region.wanted o (yielded ops a.tmps) = true then o.wp P a w (fun a' w' => Grows w w' ∧ wpLin P ops Q rest a' w') Q else wpLin P ops Q rest (a.put o.dst undef) w

def linFrom (md : Region.Mode) (ops : Array Oper) : List (Nat × Bool) → Array Bool → Bool
  | [], listed => (Region.ready md ops listed).isEmpty
  | (k, true) :: fl, listed => (Region.ready md ops listed).contains k && Region.free md ops listed k && linFrom md ops fl (listed.setIfInBounds k true)
  | (k, false) :: fl, listed => (Region.ready md ops listed == [k]) && linFrom md ops fl (listed.setIfInBounds k true)

theorem wpAnyG_lin (hs : Region.noSelect ops = true) (hQ : ∀ (d : Option Tmp) (v : Value), ∀ c a w, Q (.panic c) (a.put d v) w → Q (.panic c) a w) :
    ∀ (l : List (Nat × Bool)) (listed : Array Bool) (a : Act) (w : World), linFrom md ops l listed = true → wpLin P ops Q l a w → wpAnyG P md ops Q l.length listed a w
  | [], _, _, _, hB, h => ⟨by simpa [linFrom] using hB, h⟩
  | (k, true) :: l, listed, a, w, hB, h => by
    obtain ⟨o, h0, v, hy, hK⟩ := h
    simp only [linFrom, Bool.and_eq_true] at hB
    obtain ⟨⟨hr, hf⟩, hB'⟩ := hB
    exact wpAnyG_first h0 (Region.noSelect_spec hs) (hQ o.dst v) l.length listed a w (Region.free_spec h0 hf) (by simpa using hr) hy
      (wpAnyG_lin hs hQ l _ _ _ hB' hK)
  | (k, false) :: l, listed, a, w, hB, h => by
    obtain ⟨o, h0, h⟩ := h
    simp only [linFrom, Bool.and_eq_true, beq_iff_eq] at hB
    obtain ⟨hr, hB'⟩ := hB
    refine ⟨fun hx => by rw [hr] at hx; exact absurd hx (List.cons_ne_nil _ _), fun i hi => ?_⟩
    rw [hr, List.mem_singleton] at hi
    subst hi
    have hrest : ∀ a' w', wpLin P ops Q l a' w' → wpAnyG P md ops Q l.length (listed.setIfInBounds i true) a' w' := fun a' w' hh => wpAnyG_lin hs hQ l _ _ _ hB' hh
    unfold wpOp
    rw [h0]
    simp only []
    split
    · rename_i hw
      rw [if_pos hw] at h
      exact .inl (Oper.wp_mono (fun a' w' hh => ⟨hh.1, hrest a' w' hh.2⟩) h)
    · rename_i hw
      rw [if_neg hw] at h
      exact ⟨Grows.refl _, hrest _ _ h⟩

/-- The region's theorem. -/
theorem wp_region_lin {id : Nat} {a : Act} {w : World} {l : List Oper} (fl : List (Nat × Bool)) (hm : P.follows .mixedOrders = true) (hB : (Region.noSelect l.toArray && (l.length == fl.length) && linFrom .any l.toArray fl (Array.replicate l.length false)) = true)
    (hQ : ∀ (d : Option Tmp) (v : Value), ∀ c a w, Q (.panic c) (a.put d v) w → Q (.panic c) a w)
    (h : wpLin P l.toArray Q fl a w.drew) : (Code.region id l.toArray true).wp P Q a w := by
  simp only [Bool.and_eq_true, beq_iff_eq] at hB
  obtain ⟨⟨hs, hlen⟩, hB⟩ := hB
  refine wp_region_any hm ?_
  have key := wpAny_of_G _ _ _ _ (wpAnyG_lin (md := .any) hs hQ fl (Array.replicate l.length false) a w.drew hB h)
  rw [← hlen] at key
  simpa using key

theorem wpLin_nil {a : Act} {w : World} (h : Q .normal a w) : wpLin P ops Q [] a w := h
theorem wpLin_take {i : Nat} {o : Oper} {rest : List (Nat × Bool)} {a : Act} {w : World} {v : Value} (hi : ops[i]? = some o) (hw : Region.wanted o (yielded ops a.tmps) = true) (hv : ∀ w', Grows w w' → o.quietAt P a (fun x => x = w') w' v)
    (h : ∀ K : Act → Prop, (∀ a, wpLin P ops Q rest a w → K a) → K (a.put o.dst v)) : wpLin P ops Q ((i, true) :: rest) a w :=
  ⟨o, hi, v, .inl ⟨hw, hv⟩, h (fun a => wpLin P ops Q rest a w) (fun _ h => h)⟩
theorem wpLin_skip {i : Nat} {o : Oper} {rest : List (Nat × Bool)} {a : Act} {w : World} (hi : ops[i]? = some o) (hw : Region.wanted o (yielded ops a.tmps) = false)
    (h : ∀ K : Act → Prop, (∀ a, wpLin P ops Q rest a w → K a) → K (a.put o.dst undef)) : wpLin P ops Q ((i, true) :: rest) a w :=
  ⟨o, hi, undef, .inr ⟨hw, rfl⟩, h (fun a => wpLin P ops Q rest a w) (fun _ h => h)⟩
theorem wpLin_do {i : Nat} {o : Oper} {rest : List (Nat × Bool)} {a : Act} {w : World} (hi : ops[i]? = some o)
    (h : ∀ K : Act → World → Prop, (∀ a w', Grows w w' → wpLin P ops Q rest a w' → K a w') → if Region.wanted o (yielded ops a.tmps) = true then o.wp P a w K Q else K (a.put o.dst undef) w) :
    wpLin P ops Q ((i, false) :: rest) a w := by
  have := h (fun a' w' => Grows w w' ∧ wpLin P ops Q rest a' w') (fun _ _ h1 h2 => ⟨h1, h2⟩)
  refine ⟨o, hi, ?_⟩
  split
  · rename_i hw; rwa [if_pos hw] at this
  · rename_i hw; rw [if_neg hw] at this; exact this.2
end
end Go.Proofs.Ytlnlcmdbhkpnhaa

/- As XLin, with operations that may write anywhere ('hard' ones): whatever was taken before one as steady must be among its ancestors. No program. -/
namespace Go.Proofs.Ytlnlcmdbhkpnhaa
open Go.RowKit

section
variable {P : Program} {ops : Array Oper} {md : Region.Mode} {Q : Exit → Act → World → Prop}

/-- What must come before operation j, by so many steps. -/
def ancs (md : Region.Mode) (ops : Array Oper) : Nat → Nat → List Nat
  | 0, _ => []
  | n + 1, j => match ops[j]? with
    | none => []
    | some o => (o.after.toList.filter (Region.binds md ·)).flatMap fun e => e.on :: ancs md ops n e.on
/-- Whatever is listed, all that must come before it is. -/
def Closed (md : Region.Mode) (ops : Array Oper) (listed : Array Bool) : Prop := ∀ j o, ops[j]? = some o → listed.getD j false = true → ∀ e ∈ o.after, Region.binds md e = true → listed.getD e.on false = true
theorem Closed.anc {listed : Array Bool} (h : Closed md ops listed) : ∀ (n j i : Nat) (o : Oper), ops[j]? = some o → (∀ e ∈ o.after, Region.binds md e = true → listed.getD e.on false = true) → i ∈ ancs md ops n j → listed.getD i false = true := by
  intro n
  induction n with
  | zero => intro j i o _ _ hi; exact absurd hi List.not_mem_nil
  | succ n ih =>
    intro j i o ho hall hi
    simp only [ancs, ho] at hi
    obtain ⟨e, he, hm⟩ := List.mem_flatMap.1 hi
    obtain ⟨he1, he2⟩ := List.mem_filter.1 he
    have hlt := hall e (by simpa using he1) he2
    rcases List.mem_cons.1 hm with rfl | hm
    · exact hlt
    · cases hoe : ops[e.on]? with
      | none => cases n <;> simp [ancs, hoe] at hm
      | some oe => exact ih e.on i oe hoe (h e.on oe hoe hlt) hm
theorem Closed.add {listed : Array Bool} (h : Closed md ops listed) {i : Nat} (hi : i ∈ Region.ready md ops listed) : Closed md ops (listed.setIfInBounds i true) := by
  obtain ⟨hun, o, ho, hall⟩ := mem_ready.1 hi
  intro j oj hj hl e he hb
  by_cases hji : i = j
  · subst hji
    rw [ho] at hj
    cases hj
    exact getD_set_true (hall e he hb)
  · rw [getD_set_ne false hji] at hl
    exact getD_set_true (h j oj hj hl e he hb)
theorem Closed.none (n : Nat) : Closed md ops (Array.replicate n false) := by
  intro j o _ hl
  by_cases hj : j < n <;> simp [hj] at hl

/-- Any order from here on; each step lets the world grow, but a hard one. -/
def wpAnyH (P : Program) (md : Region.Mode) (ops : Array Oper) (Q : Exit → Act → World → Prop) (hard : List Nat) : Nat → Array Bool → Act → World → Prop
  | 0, listed, a, w => Region.ready md ops listed = [] ∧ Q .normal a w
  | n + 1, listed, a, w => (Region.ready md ops listed = [] → Q .normal a w) ∧
      ∀ i ∈ Region.ready md ops listed, wpOp P ops Q i (fun a' w' => (i ∈ hard ∨ Grows w w') ∧ wpAnyH P md ops Q hard n (listed.setIfInBounds i true) a' w') a w
theorem wpAny_of_H {hard : List Nat} : ∀ (n : Nat) (listed : Array Bool) (a : Act) (w : World), wpAnyH P md ops Q hard n listed a w → wpAny P md ops Q n listed a w
  | 0, _, _, _, h => h
  | n + 1, _, _, _, h => ⟨h.1, fun i hi => wpOp_mono (fun a' w' hh => wpAny_of_H n _ a' w' hh.2) (h.2 i hi)⟩

theorem wpAnyH_first {hard : List Nat} {i : Nat} {oi : Oper} {v : Value} (hi : ops[i]? = some oi) (hsel : ∀ (j : Nat) (o : Oper) cs b, ops[j]? = some o → o.op ≠ .select cs b)
    (hQ : ∀ c a w, Q (.panic c) (a.put oi.dst v) w → Q (.panic c) a w) (hhi : i ∉ hard) :
    ∀ (n : Nat) (listed : Array Bool) (a : Act) (w : World), Closed md ops listed → (∀ j ∈ hard, listed.getD j true = true ∨ i ∈ ancs md ops ops.size j) →
      (∀ j oj, ops[j]? = some oj → j ≠ i → listed.getD j true = false → (∀ e ∈ oj.after, Region.binds md e = true → e.on ≠ i) → oi.apart ops oj = true) →
      i ∈ Region.ready md ops listed → Steady P ops oi v a w →
      wpAnyH P md ops Q hard n (listed.setIfInBounds i true) (a.put oi.dst v) w → wpAnyH P md ops Q hard (n + 1) listed a w := by
  intro n
  induction n with
  | zero =>
    intro listed a w _ _ _ hr hy H
    refine ⟨fun h => absurd hr (by rw [h]; exact List.not_mem_nil), fun j hj => ?_⟩
    by_cases hji : j = i
    · subst hji; exact hy.wpOp hi ⟨.inr (Grows.refl _), H⟩
    · have := ready_mono hj hji
      rw [H.1] at this
      exact absurd this List.not_mem_nil
  | succ n ih =>
    intro listed a w hcl hhard hfree hr hy H
    refine ⟨fun h => absurd hr (by rw [h]; exact List.not_mem_nil), fun j hj => ?_⟩
    by_cases hji : j = i
    · subst hji; exact hy.wpOp hi ⟨.inr (Grows.refl _), H⟩
    · have hjin := ready_mono hj hji
      obtain ⟨hun, oj, hoj, hall⟩ := mem_ready.1 hj
      have hiun := (mem_ready.1 hr).1
      have hjh : j ∉ hard := by
        intro hjh
        rcases hhard j hjh with h | h
        · rw [hun] at h; exact absurd h Bool.false_ne_true
        · have hx := hcl.anc ops.size j i oj hoj hall h
          rcases Nat.lt_or_ge i listed.size with hlt | hge
          · simp [hlt] at hiun hx; rw [hiun] at hx; exact absurd hx Bool.false_ne_true
          · simp [Array.getElem?_eq_none hge] at hx
      have hno : ∀ e ∈ oj.after, Region.binds md e = true → e.on ≠ i := by
        intro e he hb heq
        have hx := hall e he hb
        rw [heq] at hx
        rcases Nat.lt_or_ge i listed.size with hlt | hge
        · simp [hlt] at hiun hx; rw [hiun] at hx; exact absurd hx Bool.false_ne_true
        · simp [Array.getElem?_eq_none hge] at hx
      have hs := wpOp_swap hoj (hfree j oj hoj hji hun hno) (fun cs b => hsel i oi cs b hi) (fun cs b => hsel j oj cs b hoj) hQ (H.2 j hjin)
      refine wpOp_mono (fun a' w' hh => ?_) hs
      have hg : Grows w w' := hh.2.1.resolve_left hjh
      refine ⟨.inr hg, ?_⟩
      refine ih (listed.setIfInBounds j true) a' w' (hcl.add hj) (fun k hk => (hhard k hk).imp (fun h => ?_) id) (fun k ok hk hki hku hkn => hfree k ok hk hki ?_ hkn) (ready_mono hr (Ne.symm hji)) (hy.grow hg hh.1.1 hh.1.2) ?_
      · by_cases hjk : j = k
        · subst hjk; exact absurd hk hjh
        · rw [getD_set_ne true hjk]; exact h
      · by_cases hjk : j = k
        · subst hjk; exact hun
        · rwa [getD_set_ne true hjk] at hku
      · rw [Array.setIfInBounds_comm _ _ hji]
        exact hh.2.2

/-- The walk in an order of one's choice: each operation's number with a mark: 0: one value in whatever grown world; 1: the only one that may come up, and lets the world grow; 2: the only one that may come up, whatever it writes. -/
def wpLinH (P : Program) (ops : Array Oper) (Q : Exit → Act → World → Prop) : List (Nat × Nat) → Act → World → Prop
  | [], a, w => Q .normal a w
  | (i, 0) :: rest, a, w => ∃ o, ops[i]? = some o ∧ ∃ v, Steady P ops o v a w ∧ wpLinH P ops Q rest (a.put o.dst v) w
  | (i, 1) :: rest, a, w => ∃ o, ops[i]? = some o ∧ if Region.wanted o (yielded ops a.tmps) = true then o.wp P a w (fun a' w' => Grows w w' ∧ wpLinH P ops Q rest a' w') Q else wpLinH P ops Q rest (a.put o.dst undef) w
  | (i, _ + 2) :: rest, a, w => ∃ o, ops[i]? = some o ∧ if Region.wanted o (yielded ops a.tmps) = true then o.wp P a w (fun a' w' => wpLinH P ops Q rest a' w') Q else wpLinH P ops Q rest (a.put o.dst undef) w

def linFromH (md : Region.Mode) (ops : Array Oper) (hard : List Nat) : List (Nat × Nat) → Array Bool → Bool
  | [], listed => (Region.ready md ops listed).isEmpty
  | (k, 0) :: fl, listed => (Region.ready md ops listed).contains k && Region.free md ops listed k && !hard.contains k && hard.all (fun j => listed.getD j true || (ancs md ops ops.size j).contains k) && linFromH md ops hard fl (listed.setIfInBounds k true)
  | (k, 1) :: fl, listed => (Region.ready md ops listed == [k]) && linFromH md ops hard fl (listed.setIfInBounds k true)
  | (k, _ + 2) :: fl, listed => (Region.ready md ops listed == [k]) && hard.contains k && linFromH md ops hard fl (listed.setIfInBounds k true)

theorem wpAnyH_lin {hard : List Nat} (hs : Region.noSelect ops = true) (hQ : ∀ (d : Option Tmp) (v : Value), ∀ c a w, Q (.panic c) (a.put d v) w → Q (.panic c) a w) :
    ∀ (l : List (Nat × Nat)) (listed : Array Bool) (a : Act) (w : World), Closed md ops listed → linFromH md ops hard l listed = true → wpLinH P ops Q l a w → wpAnyH P md ops Q hard l.length listed a w
  | [], _, _, _, _, hB, h => ⟨by simpa [linFromH] using hB, h⟩
  | (k, 0) :: l, listed, a, w, hcl, hB, h => by
    obtain ⟨o, h0, v, hy, hK⟩ := h
    simp only [linFromH, Bool.and_eq_true] at hB
    obtain ⟨⟨⟨⟨hr, hf⟩, hh1⟩, hh2⟩, hB'⟩ := hB
    have hr' : k ∈ Region.ready md ops listed := by simpa using hr
    refine wpAnyH_first h0 (Region.noSelect_spec hs) (hQ o.dst v) (by simpa using hh1) l.length listed a w hcl (fun j hj => ?_) (Region.free_spec h0 hf) hr' hy
      (wpAnyH_lin hs hQ l _ _ _ (hcl.add hr') hB' hK)
    have := List.all_eq_true.1 hh2 j hj
    simpa using this
  | (k, 1) :: l, listed, a, w, hcl, hB, h => by
    obtain ⟨o, h0, h⟩ := h
    simp only [linFromH, Bool.and_eq_true, beq_iff_eq] at hB
    obtain ⟨hr, hB'⟩ := hB
    refine ⟨fun hx => by rw [hr] at hx; exact absurd hx (List.cons_ne_nil _ _), fun i hi => ?_⟩
    have hcl' := hcl.add hi
    rw [hr, List.mem_singleton] at hi
    subst hi
    have hrest : ∀ a' w', wpLinH P ops Q l a' w' → wpAnyH P md ops Q hard l.length (listed.setIfInBounds i true) a' w' := fun a' w' hh => wpAnyH_lin hs hQ l _ _ _ hcl' hB' hh
    unfold wpOp
    rw [h0]
    simp only []
    split
    · rename_i hw
      rw [if_pos hw] at h
      exact .inl (Oper.wp_mono (fun a' w' hh => ⟨.inr hh.1, hrest a' w' hh.2⟩) h)
    · rename_i hw
      rw [if_neg hw] at h
      exact ⟨.inr (Grows.refl _), hrest _ _ h⟩
  | (k, m + 2) :: l, listed, a, w, hcl, hB, h => by
    obtain ⟨o, h0, h⟩ := h
    simp only [linFromH, Bool.and_eq_true, beq_iff_eq] at hB
    obtain ⟨⟨hr, hhd⟩, hB'⟩ := hB
    refine ⟨fun hx => by rw [hr] at hx; exact absurd hx (List.cons_ne_nil _ _), fun i hi => ?_⟩
    have hcl' := hcl.add hi
    rw [hr, List.mem_singleton] at hi
    subst hi
    have hrest : ∀ a' w', wpLinH P ops Q l a' w' → wpAnyH P md ops Q hard l.length (listed.setIfInBounds i true) a' w' := fun a' w' hh => wpAnyH_lin hs hQ l _ _ _ hcl' hB' hh
    unfold wpOp
    rw [h0]
    simp only []
    split
    · rename_i hw
      rw [if_pos hw] at h
      exact .inl (Oper.wp_mono (fun a' w' hh => ⟨.inl (by simpa using hhd), hrest a' w' hh⟩) h)
    · rename_i hw
      rw [if_neg hw] at h
      exact ⟨.inr (Grows.refl _), hrest _ _ h⟩

/-- The region's theorem. -/
theorem wp_region_linH {id : Nat} {a : Act} {w : World} {l : List Oper} (fl : List (Nat × Nat)) (hard : List Nat) (hm : P.follows .mixedOrders = true) (hB : (Region.noSelect l.toArray && (l.length == fl.length) && linFromH .any l.toArray hard fl (Array.replicate l.length false)) = true)
    (hQ : ∀ (d : Option Tmp) (v : Value), ∀ c a w, Q (.panic c) (a.put d v) w → Q (.panic c) a w)
    (h : wpLinH P l.toArray Q fl a w.drew) : (Code.region id l.toArray true).wp P Q a w := by
  simp only [Bool.and_eq_true, beq_iff_eq] at hB
  obtain ⟨⟨hs, hlen⟩, hB⟩ := hB
  refine wp_region_any hm ?_
  have key := wpAny_of_H _ _ _ _ (wpAnyH_lin (md := .any) hs hQ fl (Array.replicate l.length false) a w.drew (Closed.none _) hB h)
  rw [← hlen] at key
  simpa using key

theorem wpLinH_nil {a : Act} {w : World} (h : Q .normal a w) : wpLinH P ops Q [] a w := h
theorem wpLinH_take {i : Nat} {o : Oper} {rest : List (Nat × Nat)} {a : Act} {w : World} {v : Value} (hi : ops[i]? = some o) (hw : Region.wanted o (yielded ops a.tmps) = true) (hv : ∀ w', Grows w w' → o.quietAt P a (fun x => x = w') w' v)
    (h : ∀ K : Act → Prop, (∀ a, wpLinH P ops Q rest a w → K a) → K (a.put o.dst v)) : wpLinH P ops Q ((i, 0) :: rest) a w :=
  ⟨o, hi, v, .inl ⟨hw, hv⟩, h (fun a => wpLinH P ops Q rest a w) (fun _ h => h)⟩
theorem wpLinH_skip {i : Nat} {o : Oper} {rest : List (Nat × Nat)} {a : Act} {w : World} (hi : ops[i]? = some o) (hw : Region.wanted o (yielded ops a.tmps) = false)
    (h : ∀ K : Act → Prop, (∀ a, wpLinH P ops Q rest a w → K a) → K (a.put o.dst undef)) : wpLinH P ops Q ((i, 0) :: rest) a w :=
  ⟨o, hi, undef, .inr ⟨hw, rfl⟩, h (fun a => wpLinH P ops Q rest a w) (fun _ h => h)⟩
theorem wpLinH_do {i : Nat} {o : Oper} {rest : List (Nat × Nat)} {a : Act} {w : World} (hi : ops[i]? = some o)
    (h : ∀ K : Act → World → Prop, (∀ a w', Grows w w' → wpLinH P ops Q rest a w' → K a w') → if Region.wanted o (yielded ops a.tmps) = true then o.wp P a w K Q else K (a.put o.dst undef) w) :
    wpLinH P ops Q ((i, 1) :: rest) a w := by
  have := h (fun a' w' => Grows w w' ∧ wpLinH P ops Q rest a' w') (fun _ _ h1 h2 => ⟨h1, h2⟩)
  refine ⟨o, hi, ?_⟩
  split
  · rename_i hw; rwa [if_pos hw] at this
  · rename_i hw; rw [if_neg hw] at this; exact this.2
theorem wpLinH_hard {i : Nat} {o : Oper} {rest : List (Nat × Nat)} {a : Act} {w : World} (hi : ops[i]? = some o)
    (h : ∀ K : Act → World → Prop, (∀ a w', wpLinH P ops Q rest a w' → K a w') → if Region.wanted o (yielded ops a.tmps) = true then o.wp P a w K Q else K (a.put o.dst undef) w) :
    wpLinH P ops Q ((i, 2) :: rest) a w := by
  have := h (fun a' w' => wpLinH P ops Q rest a' w') (fun _ _ h2 => h2)
  refine ⟨o, hi, ?_⟩
  split
  · rename_i hw; rwa [if_pos hw] at this
  · rename_i hw; rw [if_neg hw] at this; exact this
end
end Go.Proofs.Ytlnlcmdbhkpnhaa

/- The walks over bits.bit, bits.Width, bits.Unpack. -/
namespace Go.Proofs.Ytlnlcmdbhkpnhaa
open Go.RowKit
set_option linter.unusedVariables false

set_option maxHeartbeats 400000 in
theorem halved8_n (a b : Nat) (w : World) (hb2 : b < 8) :
    Calls Try.prog 81 #[.int .u8 a, .int .i64 b] w fun e w' => e = .returned (.int .u8 ((a >>> b : Nat) : Int)) ∧ w = w' := by
  have e : ((a >>> b : Nat) : Int) = (a : Int) / 2 ^ b := by simp [Nat.shiftRight_eq_div_pow]
  rw [e]
  go_enter Try.func81, Try.ntmps81
  go_wp2
  go_ret
  exact ⟨rfl, rfl⟩

theorem bit_and (v m : Nat) (hv : v < 256) : bits .and .u8 ((v >>> m : Nat) : Int) 1 = ((v.testBit m).toNat : Nat) := by
  have h : v >>> m < 256 := Nat.lt_of_le_of_lt (Nat.shiftRight_le v m) hv
  exact (bits_and_u8 (v >>> m) 1 h (by decide)).trans (by rw [and_one_testBit])
set_option maxHeartbeats 400000 in
theorem bit_n (ao : Option Addr) (n cap p : Nat) (b : List Nat) (w : World) (hb : ∀ x ∈ b, x < 256) (hl : b.length = n) (hp : p < 8 * n) (hp2 : p ≤ 100000000) (hc : CellsAt w w.heap.size ao n (u8c b)) :
    Calls Try.prog 77 #[.slice ao n cap, .int .i64 p] w fun e w' => e = .returned (.int .u8 ((bitOf b p).toNat : Nat)) ∧ w = w' := by
  obtain ⟨bl, off, rfl, -, hcell⟩ := hc (p / 8) (by omega)
  obtain ⟨v, hv⟩ : ∃ v, v = b.getD (p / 8) 0 := ⟨_, rfl⟩
  have hv256 : v < 256 := by
    rw [hv, List.getD_eq_getElem?_getD, List.getElem?_eq_getElem (by omega)]
    exact hb _ (List.getElem_mem _)
  rw [u8c, ← hv] at hcell
  have hres : (bitOf b p) = v.testBit (p % 8) := by rw [hv]; rfl
  rw [hres]
  have hand := bit_and v (p % 8) hv256
  have Hl := Lib.hid hl; clear hl hv hc hres
  have e1 : ((p : Int) % 8) = ((p % 8 : Nat) : Int) := by omega
  have h3 : p / 8 < n := by omega
  have Ha := Lib.hid hand; clear hand
  have E1 := Lib.hid e1; clear e1
  go_enter Try.func77, Try.ntmps77
  go_wp2_with (go_at_call 81; rw [E1.out]; refine (halved8_n v (p % 8) _ (by omega)).mono ?_; rintro e w' ⟨rfl, rfl⟩)
  go_ret
  refine ⟨?_, rfl⟩
  show Ending.returned (.int .u8 _) = _
  rw [← Ha.out]; rfl

end Go.Proofs.Ytlnlcmdbhkpnhaa

/- The walk over bits.Width. -/
namespace Go.Proofs.Ytlnlcmdbhkpnhaa
open Go.RowKit
set_option linter.unusedVariables false

set_option maxHeartbeats 1000000 in
theorem width_n (v : Nat) (w : World) (hv : v < 18446744073709551616) :
    Calls Try.prog 55 #[.int .u64 v] w fun e w' => e = .returned (.int .i64 (bitLen v : Nat)) ∧ w = w' := by
  have hB : ∀ m : Nat, Hid (m ≤ v) → bitLen m ≤ 64 := fun m hm => bitLen_le64 m (by have := hm.out; omega)
  go_enter Try.func55, Try.ntmps55
  go_wp2
  refine wp_scope_jumps 0 (fun a' w' => w' = w ∧ ∃ (m c : Nat) (u4 u5 u6 u7 u8 u9 u10 : Value), a' = { tmps := #[.int .u64 m, undef, .int .i64 0, .int .i64 c, u4, u5, u6, u7, u8, u9, u10], defers := [] } ∧ Hid (bitLen v = c + bitLen m) ∧ Hid (m ≤ v)) (fun a' _ => (intOf (a'.tmps.getD 0 undef)).toNat) rfl ?_ ?_
  · go_wp2
    go_step3
    by_cases h0 : 0 < v
    · go_wp2_with (go_at_call 74; refine (halved_n v 1 _ (by omega)).mono ?_; rintro e w' ⟨rfl, rfl⟩)
      go_step3
      refine ⟨rfl, rfl, v / 2, 1, _, _, _, _, _, _, _, rfl, Lib.hid (by rw [bitLen_half v h0]; omega), Lib.hid (Nat.div_le_self _ _)⟩
    · obtain rfl : v = 0 := by omega
      go_wp2
      simp only [Exit.jump]
      go_ret
      exact ⟨rfl, rfl⟩
  · rintro a' w' ⟨rfl, m, c, u4, u5, u6, u7, u8, u9, u10, rfl, hs, hm⟩
    have hb64 := hB v (Lib.hid (Nat.le_refl _))
    have hc64 : c ≤ 64 := by have := hs.out; omega
    by_cases h0 : 0 < m
    · go_wp2_with (go_at_call 74; refine (halved_n m 1 _ (by omega)).mono ?_; rintro e w' ⟨rfl, rfl⟩)
      go_step3
      refine ⟨rfl, ⟨rfl, m / 2, c + 1, _, _, _, _, _, _, _, rfl, Lib.hid (by rw [hs.out, bitLen_half m h0]; omega), Lib.hid (by have := hm.out; omega)⟩, ?_⟩
      have hd : m >>> 1 < m := by rw [Nat.shiftRight_eq_div_pow]; omega
      show (((m >>> 1 : Nat) : Int)).toNat < (((m : Nat) : Int)).toNat
      omega
    · obtain rfl : m = 0 := by omega
      go_wp2
      simp only [Exit.jump]
      go_ret
      refine ⟨?_, rfl⟩
      have := hs.out
      rw [bitLen_zero] at this
      rw [this]; rfl
end Go.Proofs.Ytlnlcmdbhkpnhaa

/- The walks over the document's Width, and max of two ints. -/
namespace Go.Proofs.Ytlnlcmdbhkpnhaa
open Go.RowKit
set_option linter.unusedVariables false

theorem run_max_int2 {P : Program} {w : World} (ts : Array TypeId) (t : TypeId) (k : IntKind) (x y : Int) (m : Int) (hm : m = max x y) : (Builtin.max_ ts t #[.int k x, .int k y]).run P w = .ok (.int k m) w := by
  have e : m = (if x < y then y else x) := by rw [hm]; split <;> omega
  rw [e]
  simp [Builtin.max_, Builtin.max2]
set_option maxHeartbeats 1000000 in
theorem rwidth_n (v : Nat) (w : World) (hv : v < 18446744073709551616) :
    Calls Try.prog 39 #[.int .u64 v] w fun e w' => e = .returned (.int .i64 (bitLen v : Nat)) ∧ w = w' := by
  have hB : ∀ m : Nat, m ≤ v → bitLen m ≤ 64 := fun m hm => bitLen_le64 m (by omega)
  have HB := Lib.hid hB
  clear hB
  go_enter Try.func39, Try.ntmps39
  go_wp2
  go_loop [0, 3] (fun u c => ∃ m k : Nat, u = .int .u64 (m : Nat) ∧ c = .int .i64 (k : Nat) ∧ k ≤ 64 ∧ Hid (bitLen v = k + bitLen m) ∧ Hid (m ≤ v)) (fun u _ => (intOf u).toNat)
  case atStart => exact ⟨v, 0, rfl, rfl, by decide, Lib.hid (by omega), Lib.hid (Nat.le_refl _)⟩
  case round =>
    obtain ⟨m, k, rfl, rfl, hk, hs, hm⟩ := hrel
    by_cases h0 : 0 < m
    · obtain ⟨m2, hm2⟩ : ∃ m2, m2 = m / 2 := ⟨_, rfl⟩
      have em : (m : Int) / 2 = (m2 : Int) := by omega
      have e0 : (0 : Int) < (m : Int) := by omega
      have hs2 : Hid (bitLen v = k + 1 + bitLen m2) := Lib.hid (by rw [hs.out, bitLen_half m h0, hm2]; omega)
      have hmm : Hid (m2 ≤ v) := Lib.hid (by have := hm.out; omega)
      have hk1 : k + 1 ≤ 64 := by
        have h1 := HB.out v (Nat.le_refl _)
        have h2 := hs2.out
        omega
      have hlt : m2 < m := by omega
      clear hm2 h0
      go_wp2
      go_round
      case rel => exact ⟨m2, k + 1, rfl, by go_num, hk1, hs2, hmm⟩
      case measure => simp [intOf]; omega
    · obtain rfl : m = 0 := by omega
      go_wp2
      go_ret
      refine ⟨?_, rfl⟩
      have h := hs.out
      rw [bitLen_zero] at h
      rw [h]; rfl
end Go.Proofs.Ytlnlcmdbhkpnhaa

/- As XLinH, with a mark (3) for operations that yield one value in every world whatever: these may be taken ahead of a hard one that does not wait for them. No program. -/
namespace Go.Proofs.Ytlnlcmdbhkpnhaa
open Go.RowKit

section
variable {P : Program} {ops : Array Oper} {md : Region.Mode} {Q : Exit → Act → World → Prop}

def SteadyAll (P : Program) (ops : Array Oper) (o : Oper) (v : Value) (a : Act) : Prop :=
  (Region.wanted o (yielded ops a.tmps) = true ∧ ∀ w', o.quietAt P a (fun x => x = w') w' v) ∨
  (Region.wanted o (yielded ops a.tmps) = false ∧ v = undef)
theorem SteadyAll.at {o : Oper} {v : Value} {a : Act} (h : SteadyAll P ops o v a) (w : World) : Steady P ops o v a w := h.imp (fun x => ⟨x.1, fun w' _ => x.2 w'⟩) id
theorem SteadyAll.turn {o : Oper} {v : Value} {a a' : Act} (h : SteadyAll P ops o v a) (he : execOp a'.eval o = execOp a.eval o) (hw : Region.wanted o (yielded ops a'.tmps) = Region.wanted o (yielded ops a.tmps)) : SteadyAll P ops o v a' := by
  unfold SteadyAll Oper.quietAt at *
  rw [he, hw]
  exact h

theorem wpAnyH_firstAll {hard : List Nat} {i : Nat} {oi : Oper} {v : Value} (hi : ops[i]? = some oi) (hsel : ∀ (j : Nat) (o : Oper) cs b, ops[j]? = some o → o.op ≠ .select cs b)
    (hQ : ∀ c a w, Q (.panic c) (a.put oi.dst v) w → Q (.panic c) a w) :
    ∀ (n : Nat) (listed : Array Bool) (a : Act) (w : World),
      (∀ j oj, ops[j]? = some oj → j ≠ i → listed.getD j true = false → (∀ e ∈ oj.after, Region.binds md e = true → e.on ≠ i) → oi.apart ops oj = true) →
      i ∈ Region.ready md ops listed → SteadyAll P ops oi v a →
      wpAnyH P md ops Q hard n (listed.setIfInBounds i true) (a.put oi.dst v) w → wpAnyH P md ops Q hard (n + 1) listed a w := by
  intro n
  induction n with
  | zero =>
    intro listed a w _ hr hy H
    refine ⟨fun h => absurd hr (by rw [h]; exact List.not_mem_nil), fun j hj => ?_⟩
    by_cases hji : j = i
    · subst hji; exact (hy.at w).wpOp hi ⟨.inr (Grows.refl _), H⟩
    · have := ready_mono hj hji
      rw [H.1] at this
      exact absurd this List.not_mem_nil
  | succ n ih =>
    intro listed a w hfree hr hy H
    refine ⟨fun h => absurd hr (by rw [h]; exact List.not_mem_nil), fun j hj => ?_⟩
    by_cases hji : j = i
    · subst hji; exact (hy.at w).wpOp hi ⟨.inr (Grows.refl _), H⟩
    · have hjin := ready_mono hj hji
      obtain ⟨hun, oj, hoj, hall⟩ := mem_ready.1 hj
      have hiun := (mem_ready.1 hr).1
      have hno : ∀ e ∈ oj.after, Region.binds md e = true → e.on ≠ i := by
        intro e he hb heq
        have hx := hall e he hb
        rw [heq] at hx
        rcases Nat.lt_or_ge i listed.size with hlt | hge
        · simp [hlt] at hiun hx; rw [hiun] at hx; exact absurd hx Bool.false_ne_true
        · simp [Array.getElem?_eq_none hge] at hx
      have hs := wpOp_swap hoj (hfree j oj hoj hji hun hno) (fun cs b => hsel i oi cs b hi) (fun cs b => hsel j oj cs b hoj) hQ (H.2 j hjin)
      refine wpOp_mono (fun a' w' hh => ?_) hs
      refine ⟨hh.2.1, ?_⟩
      refine ih (listed.setIfInBounds j true) a' w' (fun k ok hk hki hku hkn => hfree k ok hk hki ?_ hkn) (ready_mono hr (Ne.symm hji)) (hy.turn hh.1.1 hh.1.2) ?_
      · by_cases hjk : j = k
        · subst hjk; exact hun
        · rwa [getD_set_ne true hjk] at hku
      · rw [Array.setIfInBounds_comm _ _ hji]
        exact hh.2.2

/-- The walk in an order of one's choice: marks 0, 1, 2 as in XLinH; 3: one value in every world. -/
def wpLinP (P : Program) (ops : Array Oper) (Q : Exit → Act → World → Prop) : List (Nat × Nat) → Act → World → Prop
  | [], a, w => Q .normal a w
  | (i, 0) :: rest, a, w => ∃ o, ops[i]? = some o ∧ ∃ v, Steady P ops o v a w ∧ wpLinP P ops Q rest (a.put o.dst v) w
  | (i, 1) :: rest, a, w => ∃ o, ops[i]? = some o ∧ if Region.wanted o (yielded ops a.tmps) = true then o.wp P a w (fun a' w' => Grows w w' ∧ wpLinP P ops Q rest a' w') Q else wpLinP P ops Q rest (a.put o.dst undef) w
  | (i, 2) :: rest, a, w => ∃ o, ops[i]? = some o ∧ if Region.wanted o (yielded ops a.tmps) = true then o.wp P a w (fun a' w' => wpLinP P ops Q rest a' w') Q else wpLinP P ops Q rest (a.put o.dst undef) w
  | (i, _ + 3) :: rest, a, w => ∃ o, ops[i]? = some o ∧ ∃ v, SteadyAll P ops o v a ∧ wpLinP P ops Q rest (a.put o.dst v) w

def linFromP (md : Region.Mode) (ops : Array Oper) (hard : List Nat) : List (Nat × Nat) → Array Bool → Bool
  | [], listed => (Region.ready md ops listed).isEmpty
  | (k, 0) :: fl, listed => (Region.ready md ops listed).contains k && Region.free md ops listed k && !hard.contains k && hard.all (fun j => listed.getD j true || (ancs md ops ops.size j).contains k) && linFromP md ops hard fl (listed.setIfInBounds k true)
  | (k, 1) :: fl, listed => (Region.ready md ops listed == [k]) && linFromP md ops hard fl (listed.setIfInBounds k true)
  | (k, 2) :: fl, listed => (Region.ready md ops listed == [k]) && hard.contains k && linFromP md ops hard fl (listed.setIfInBounds k true)
  | (k, _ + 3) :: fl, listed => (Region.ready md ops listed).contains k && Region.free md ops listed k && linFromP md ops hard fl (listed.setIfInBounds k true)

theorem wpAnyP_lin {hard : List Nat} (hs : Region.noSelect ops = true) (hQ : ∀ (d : Option Tmp) (v : Value), ∀ c a w, Q (.panic c) (a.put d v) w → Q (.panic c) a w) :
    ∀ (l : List (Nat × Nat)) (listed : Array Bool) (a : Act) (w : World), Closed md ops listed → linFromP md ops hard l listed = true → wpLinP P ops Q l a w → wpAnyH P md ops Q hard l.length listed a w
  | [], _, _, _, _, hB, h => ⟨by simpa [linFromP] using hB, h⟩
  | (k, 0) :: l, listed, a, w, hcl, hB, h => by
    obtain ⟨o, h0, v, hy, hK⟩ := h
    simp only [linFromP, Bool.and_eq_true] at hB
    obtain ⟨⟨⟨⟨hr, hf⟩, hh1⟩, hh2⟩, hB'⟩ := hB
    have hr' : k ∈ Region.ready md ops listed := by simpa using hr
    refine wpAnyH_first h0 (Region.noSelect_spec hs) (hQ o.dst v) (by simpa using hh1) l.length listed a w hcl (fun j hj => ?_) (Region.free_spec h0 hf) hr' hy
      (wpAnyP_lin hs hQ l _ _ _ (hcl.add hr') hB' hK)
    have := List.all_eq_true.1 hh2 j hj
    simpa using this
  | (k, 1) :: l, listed, a, w, hcl, hB, h => by
    obtain ⟨o, h0, h⟩ := h
    simp only [linFromP, Bool.and_eq_true, beq_iff_eq] at hB
    obtain ⟨hr, hB'⟩ := hB
    refine ⟨fun hx => by rw [hr] at hx; exact absurd hx (List.cons_ne_nil _ _), fun i hi => ?_⟩
    have hcl' := hcl.add hi
    rw [hr, List.mem_singleton] at hi
    subst hi
    have hrest : ∀ a' w', wpLinP P ops Q l a' w' → wpAnyH P md ops Q hard l.length (listed.setIfInBounds i true) a' w' := fun a' w' hh => wpAnyP_lin hs hQ l _ _ _ hcl' hB' hh
    unfold wpOp
    rw [h0]
    simp only []
    split
    · rename_i hw
      rw [if_pos hw] at h
      exact .inl (Oper.wp_mono (fun a' w' hh => ⟨.inr hh.1, hrest a' w' hh.2⟩) h)
    · rename_i hw
      rw [if_neg hw] at h
      exact ⟨.inr (Grows.refl _), hrest _ _ h⟩
  | (k, 2) :: l, listed, a, w, hcl, hB, h => by
    obtain ⟨o, h0, h⟩ := h
    simp only [linFromP, Bool.and_eq_true, beq_iff_eq] at hB
    obtain ⟨⟨hr, hhd⟩, hB'⟩ := hB
    refine ⟨fun hx => by rw [hr] at hx; exact absurd hx (List.cons_ne_nil _ _), fun i hi => ?_⟩
    have hcl' := hcl.add hi
    rw [hr, List.mem_singleton] at hi
    subst hi
    have hrest : ∀ a' w', wpLinP P ops Q l a' w' → wpAnyH P md ops Q hard l.length (listed.setIfInBounds i true) a' w' := fun a' w' hh => wpAnyP_lin hs hQ l _ _ _ hcl' hB' hh
    unfold wpOp
    rw [h0]
    simp only []
    split
    · rename_i hw
      rw [if_pos hw] at h
      exact .inl (Oper.wp_mono (fun a' w' hh => ⟨.inl (by simpa using hhd), hrest a' w' hh⟩) h)
    · rename_i hw
      rw [if_neg hw] at h
      exact ⟨.inr (Grows.refl _), hrest _ _ h⟩
  | (k, m + 3) :: l, listed, a, w, hcl, hB, h => by
    obtain ⟨o, h0, v, hy, hK⟩ := h
    simp only [linFromP, Bool.and_eq_true] at hB
    obtain ⟨⟨hr, hf⟩, hB'⟩ := hB
    have hr' : k ∈ Region.ready md ops listed := by simpa using hr
    exact wpAnyH_firstAll h0 (Region.noSelect_spec hs) (hQ o.dst v) l.length listed a w (Region.free_spec h0 hf) hr' hy (wpAnyP_lin hs hQ l _ _ _ (hcl.add hr') hB' hK)

/-- The region's theorem. -/
theorem wp_region_linP {id : Nat} {a : Act} {w : World} {l : List Oper} (fl : List (Nat × Nat)) (hard : List Nat) (hm : P.follows .mixedOrders = true) (hB : (Region.noSelect l.toArray && (l.length == fl.length) && linFromP .any l.toArray hard fl (Array.replicate l.length false)) = true)
    (hQ : ∀ (d : Option Tmp) (v : Value), ∀ c a w, Q (.panic c) (a.put d v) w → Q (.panic c) a w)
    (h : wpLinP P l.toArray Q fl a w.drew) : (Code.region id l.toArray true).wp P Q a w := by
  simp only [Bool.and_eq_true, beq_iff_eq] at hB
  obtain ⟨⟨hs, hlen⟩, hB⟩ := hB
  refine wp_region_any hm ?_
  have key := wpAny_of_H _ _ _ _ (wpAnyP_lin (md := .any) hs hQ fl (Array.replicate l.length false) a w.drew (Closed.none _) hB h)
  rw [← hlen] at key
  simpa using key

theorem wpLinP_nil {a : Act} {w : World} (h : Q .normal a w) : wpLinP P ops Q [] a w := h
theorem wpLinP_take {i : Nat} {o : Oper} {rest : List (Nat × Nat)} {a : Act} {w : World} {v : Value} (hi : ops[i]? = some o) (hw : Region.wanted o (yielded ops a.tmps) = true) (hv : ∀ w', Grows w w' → o.quietAt P a (fun x => x = w') w' v)
    (h : ∀ K : Act → Prop, (∀ a, wpLinP P ops Q rest a w → K a) → K (a.put o.dst v)) : wpLinP P ops Q ((i, 0) :: rest) a w :=
  ⟨o, hi, v, .inl ⟨hw, hv⟩, h (fun a => wpLinP P ops Q rest a w) (fun _ h => h)⟩
theorem wpLinP_skip {i : Nat} {o : Oper} {rest : List (Nat × Nat)} {a : Act} {w : World} (hi : ops[i]? = some o) (hw : Region.wanted o (yielded ops a.tmps) = false)
    (h : ∀ K : Act → Prop, (∀ a, wpLinP P ops Q rest a w → K a) → K (a.put o.dst undef)) : wpLinP P ops Q ((i, 0) :: rest) a w :=
  ⟨o, hi, undef, .inr ⟨hw, rfl⟩, h (fun a => wpLinP P ops Q rest a w) (fun _ h => h)⟩
theorem wpLinP_pure {i : Nat} {o : Oper} {rest : List (Nat × Nat)} {a : Act} {w : World} {v : Value} (hi : ops[i]? = some o) (hw : Region.wanted o (yielded ops a.tmps) = true) (hv : ∀ w', o.quietAt P a (fun x => x = w') w' v)
    (h : ∀ K : Act → Prop, (∀ a, wpLinP P ops Q rest a w → K a) → K (a.put o.dst v)) : wpLinP P ops Q ((i, 3) :: rest) a w :=
  ⟨o, hi, v, .inl ⟨hw, hv⟩, h (fun a => wpLinP P ops Q rest a w) (fun _ h => h)⟩
theorem wpLinP_do {i : Nat} {o : Oper} {rest : List (Nat × Nat)} {a : Act} {w : World} (hi : ops[i]? = some o)
    (h : ∀ K : Act → World → Prop, (∀ a w', Grows w w' → wpLinP P ops Q rest a w' → K a w') → if Region.wanted o (yielded ops a.tmps) = true then o.wp P a w K Q else K (a.put o.dst undef) w) :
    wpLinP P ops Q ((i, 1) :: rest) a w := by
  have := h (fun a' w' => Grows w w' ∧ wpLinP P ops Q rest a' w') (fun _ _ h1 h2 => ⟨h1, h2⟩)
  refine ⟨o, hi, ?_⟩
  split
  · rename_i hw; rwa [if_pos hw] at this
  · rename_i hw; rw [if_neg hw] at this; exact this.2
theorem wpLinP_hard {i : Nat} {o : Oper} {rest : List (Nat × Nat)} {a : Act} {w : World} (hi : ops[i]? = some o)
    (h : ∀ K : Act → World → Prop, (∀ a w', wpLinP P ops Q rest a w' → K a w') → if Region.wanted o (yielded ops a.tmps) = true then o.wp P a w K Q else K (a.put o.dst undef) w) :
    wpLinP P ops Q ((i, 2) :: rest) a w := by
  have := h (fun a' w' => wpLinP P ops Q rest a' w') (fun _ _ h2 => h2)
  refine ⟨o, hi, ?_⟩
  split
  · rename_i hw; rwa [if_pos hw] at this
  · rename_i hw; rw [if_neg hw] at this; exact this
end
end Go.Proofs.Ytlnlcmdbhkpnhaa

/- 'append(row, make([]T, k)...)' onto a row of one's own, one cell an element: k noughts behind. No program but the types of bytes. -/
namespace Go.Proofs.Ytlnlcmdbhkpnhaa
open Go.RowKit
set_option linter.unusedVariables false

theorem zeroCells_one (z : Value) (k : Nat) : Builtin.zeroCells #[z] k = (List.replicate k z).toArray := by
  apply Array.ext
  · simp [Builtin.zeroCells]
  · intro i h1 h2
    simp [Builtin.zeroCells, Nat.mod_one]
section
variable {P : Program} {w : World} {t e tn : TypeId} {bytes : Nat} {z : Value} {kn : IntKind}
theorem run_append_own_zeros (T : SlT P t e 1 bytes z) (h1 : z.oneCell' = true) (hzc : z.cells = #[z]) (htn : P.underlying tn = some (.int kn)) (hb0 : bytes ≤ 64) {base : Nat} {v : Value} {n : Nat} {xs : List Value} (hown : w.ownsRow base e 1 v n xs) (k : Nat) (kq : IntKind)
    (hk : n + k ≤ 1000000000) (hbase : base ≤ w.heap.size) (ty : TypeId) :
    ∃ v' w', (Builtin.append_ #[t, tn] ty #[v, .int kq k]).run P w = .ok v' w' ∧ w'.ownsRow base e 1 v' (n + k) (xs ++ List.replicate k z) ∧ w.grownBy w' v.ownBlock := by
  obtain ⟨i, hi, hz, hs, hby⟩ := info_parts T.info
  have hw : IntKind.i64.wrap (k : Int) = k := by rw [IntKind.wrap_i64]; omega
  have hneg : ¬ ((k : Int) < 0) := by omega
  have hkb : k * bytes ≤ 64 * 1000000000 := by rw [Nat.mul_comm]; exact Nat.mul_le_mul hb0 (by omega)
  have h48i : ¬ (281474976710656 < (k : Int) * (i.bytes : Int)) := by
    rw [hby, ← Int.natCast_mul]; omega
  have hxl := hown.1
  rw [Nat.mul_one] at hxl
  have grown : ∀ (old : Nat), old < n + k → ∀ (row : Option Nat),
      (w.drew.alloc (.cells (xs.toArray ++ Builtin.zeroCells z.cells k ++ Builtin.zeroCells z.cells (grownCap w (n + k) old e - (n + k))) e)).ownsRow base e 1
        (.slice (some ⟨w.heap.size, 0, none⟩) (n + k) (grownCap w (n + k) old e)) (n + k) (xs ++ List.replicate k z) ∧
      w.grownBy (w.drew.alloc (.cells (xs.toArray ++ Builtin.zeroCells z.cells k ++ Builtin.zeroCells z.cells (grownCap w (n + k) old e - (n + k))) e)) row := by
    intro old ho row
    have hge := grownCap_ge w (n + k) old e
    have hcm : grownCap w (n + k) old e ≤ maxLen := grownCap_le_maxLen w (n + k) old e (by unfold maxLen; omega)
    refine ⟨⟨by simp [hxl], .inr ⟨w.heap.size, _, _, rfl, hbase, heap_alloc_new w.drew _, hge, hcm, ?_, ?_⟩⟩, ⟨rfl, rfl, rfl, by simp, fun j hj _ => heap_alloc_old w.drew _ hj⟩⟩
    · simp only [hzc, zeroCells_one, Array.size_append, List.size_toArray, List.length_replicate, hxl]
      omega
    · simp only [hzc, zeroCells_one, Array.toList_append]
      rw [Nat.mul_one]
      exact List.take_left' (by simp [hxl])
  rcases hown.2 with ⟨rfl, rfl⟩ | ⟨g, cap, cur, rfl, hbg, hg, hnc, hcm, hcs, htake⟩
  · obtain rfl : xs = [] := List.eq_nil_of_length_eq_zero (by simpa using hxl)
    by_cases hk0 : k = 0
    · subst hk0
      refine ⟨.slice none 0 0, w, ?_, World.ownsRow_nil w base e 1, ⟨rfl, rfl, rfl, Nat.le_refl _, fun _ _ _ => rfl⟩⟩
      simp [Builtin.append_, run_underlying T.und, run_underlying htn, sizeOf, typeInfo, hi, asInt, asIntOf, hs, IntKind.wrap_i64]
    · have hr := Lib.run_append_grow_zeros (P := P) w t tn ty e i z kq kn T.und htn hi hz none 0 0 [] (by simp [Builtin.firstCells]) k (by omega) (by omega) (by omega) (by omega) (by rw [hby]; omega) (by rw [hby]; exact growslice_fits (by omega) (by rw [Nat.zero_add]; omega))
      have hgr := grown 0 (by omega) (Value.ownBlock (.slice none 0 0))
      exact ⟨_, _, hr, hgr.1, hgr.2⟩
  · by_cases hroom : n + k ≤ cap
    · have hst := run_storeCells_at P g n e (List.replicate k z) 0 cur w hg (by simp; omega) (fun u hu => by rw [List.eq_of_mem_replicate hu]; exact h1)
      simp only [Nat.add_zero] at hst
      have hrun : (Builtin.append_ #[t, tn] ty #[.slice (some ⟨g, 0, none⟩) n cap, .int kq k]).run P w = .ok (.slice (some ⟨g, 0, none⟩) (n + k) cap) (w.setRow g (cur.toList.take n ++ List.replicate k z ++ cur.toList.drop (n + k)).toArray) := by
        by_cases hk0 : k = 0
        · subst hk0
          have hst' : w.setRow g (cur.toList.take n ++ List.replicate 0 z ++ cur.toList.drop (n + 0)).toArray = w := by
            simp [storeCells] at hst
            simpa using hst.symm
          rw [hst']
          have hnc' : n ≤ cap := hnc
          simp [Builtin.append_, run_underlying T.und, run_underlying htn, sizeOf, typeInfo, hi, asInt, asIntOf, hs, IntKind.wrap_i64, hnc', storeCells]
        · rw [List.length_replicate] at hst
          simp [Builtin.append_, run_underlying T.und, run_underlying htn, sizeOf, typeInfo, zeroValue, hi, hz, asInt, asIntOf, hw, hneg, hk0, h48i, hs, hroom, Addr.add_lit, hzc, zeroCells_one, hst]
      refine ⟨_, _, hrun, ⟨by simp [hxl], .inr ⟨g, cap, _, rfl, hbg, setRow_heap w g cur _ e _ hg, hroom, hcm, ?_, ?_⟩⟩, ⟨rfl, rfl, rfl, by simp, fun j _ hj => setRow_other w g j _ (fun e => hj (by simp [Value.ownBlock, e]))⟩⟩
      · simp; omega
      · rw [Nat.mul_one] at htake ⊢
        rw [htake]
        exact List.take_left' (by simp [hxl])
    · have holds : ∀ j u, xs[j]? = some u → w.cell? ((⟨g, 0, none⟩ : Addr).add j) = some u := hown.cells (g := g) rfl
      have hr := Lib.run_append_grow_zeros (P := P) w t tn ty e i z kq kn T.und htn hi hz (some ⟨g, 0, none⟩) n cap xs (run_firstCells_some (P := P) w.drew i.size n ⟨g, 0, none⟩ n cap xs (by rw [hs, Nat.mul_one]; exact hxl) (by simpa using holds)) k (by omega) (by omega) (by omega) (by omega) (by rw [hby]; omega)
        (by rw [hby]; exact growslice_fits (by omega) (by have : (n + k) * bytes ≤ 1000000000 * 64 := Nat.mul_le_mul hk hb0; omega))
      have hgr := grown cap (by omega) (Value.ownBlock (.slice (some ⟨g, 0, none⟩) n cap))
      exact ⟨_, _, hr, hgr.1, hgr.2⟩
end

theorem u8v_zeros (k : Nat) : List.replicate k (Value.int .u8 0) = u8v (List.replicate k 0) := by simp [u8v]
/-- The same of bytes, as a step of a list. -/
theorem wpList_append_zeros {ops : Array Oper} {rest : List Oper} {o : Oper} {a : Act} {Q : Exit → Act → World → Prop} {w : World} (hgd : o.guard = none) (s x : Operand) (ho : o.op = .call { callee := .builtin .append, args := #[s, x], argTypes := #[26, 3] })
    {base : Nat} {v : Value} {n : Nat} {l : List Nat} (hs : a.eval s = v) (hown : w.ownsRow base 5 1 v n (u8v l)) {k : Nat} (hx : a.eval x = .int .i64 k) (hk : n + k ≤ 1000000000) (hbase : base ≤ w.heap.size)
    (h : ∀ v' w', w'.ownsRow base 5 1 v' (n + k) (u8v (l ++ List.replicate k 0)) → w.grownBy w' v.ownBlock → wpList Try.prog ops Q rest (a.put o.dst v') w') : wpList Try.prog ops Q (o :: rest) a w := by
  obtain ⟨v', w', hr, h2, h3⟩ := run_append_own_zeros (P := Try.prog) sl_u8 rfl rfl Try.underlying3 (by decide) hown k .i64 hk hbase o.type
  refine Lib.wpList_append_run w hgd s x 26 3 ho v (.int .i64 k) hs hx v' w' hr (h v' w' ?_ h3)
  rw [u8v_zeros, u8v_append] at h2
  exact h2
/-- A row of bytes that was written out. -/
theorem own_lit (w : World) (l : List Nat) (cs : Array Value) (h : cs.toList = u8v l) (hl : l.length ≤ 1000) (n : Nat) (hn : n = l.length) : (w.alloc (.cells cs 5)).ownsRow w.heap.size 5 1 (.slice (some ⟨w.heap.size, 0, none⟩) n n) n (u8v l) := by
  subst hn
  have hs : cs.size = l.length := by rw [← Array.length_toList, h, u8v_length]
  refine ⟨by rw [u8v_length, Nat.mul_one], .inr ⟨w.heap.size, l.length, cs, rfl, Nat.le_refl _, heap_alloc_new w _, Nat.le_refl _, by unfold maxLen; omega, by omega, ?_⟩⟩
  rw [h]
  exact List.take_of_length_le (by rw [u8v_length]; omega)
end Go.Proofs.Ytlnlcmdbhkpnhaa
