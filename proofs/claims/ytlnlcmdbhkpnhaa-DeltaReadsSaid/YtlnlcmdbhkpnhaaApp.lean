/- append in the words of XMem: onto a row of the call's own, and 'append(empty, x...)' as a copy; as a step of a list of operations and of a region that draws its order. -/
import Derived.Test.YtlnlcmdbhkpnhaaMem
import Derived.Deep.RegionLaw
import Derived.Laws.AppendOwnNone
namespace Go.Proofs.Ytlnlcmdbhkpnhaa
open Go.RowKit

/-- Type t is a slice of e; a value of e takes 'size' cells and 'bytes' bytes, and is z at first. -/
structure SlT (P : Program) (t e : TypeId) (size bytes : Nat) (z : Value) : Prop where
  und : P.underlying t = some (.slice e)
  info : (P.info? e).map (fun i => (i.zero, i.size, i.bytes)) = some (some z, size, bytes)
  cells : z.cells.size = size
  pos : 0 < size

theorem range_map_at (f : Nat → Value) (m j : Nat) (u : Value) (h : ((List.range m).map f)[j]? = some u) : j < m ∧ u = f j := by
  have hj : j < m := by have := (List.getElem?_eq_some_iff.1 h).1; simpa using this
  rw [List.getElem?_map, List.getElem?_range hj] at h
  exact ⟨hj, (Option.some.inj h).symm⟩
theorem CellsAt.news {w : World} {B : Nat} {ad : Addr} {m : Nat} {f : Nat → Value} (h : CellsAt w B (some ad) m f) : ∀ j u, ((List.range m).map f)[j]? = some u → w.cell? (ad.add j) = some u := by
  intro j u hu
  obtain ⟨hj, rfl⟩ := range_map_at f m j u hu
  obtain ⟨b, off, e, -, hc⟩ := h j hj
  cases e
  rw [Addr.add_lit]; exact hc
theorem range_one (f : Nat → Value) (m : Nat) (h1 : ∀ i, i < m → (f i).oneCell' = true) : ∀ u ∈ (List.range m).map f, u.oneCell' = true := by
  intro u hu
  obtain ⟨i, hi, rfl⟩ := List.mem_map.1 hu
  exact h1 i (List.mem_range.1 hi)

/-- What 'append(empty, x...)' has made. -/
def Cloned (w w' : World) (E : TypeId) (ao ao' : Option Addr) (m cap' : Nat) (f : Nat → Value) : Prop :=
  m = 0 ∧ ao' = ao ∧ cap' = 0 ∧ w' = w ∨ 0 < m ∧ w'.ownsRow w.heap.size E 1 (.slice ao' m cap') m ((List.range m).map f)
theorem Cloned.pos {w w' : World} {E : TypeId} {ao ao' : Option Addr} {m cap' : Nat} {f : Nat → Value} (h : Cloned w w' E ao ao' m cap' f) (hm : 0 < m) :
    ∃ g, ao' = some ⟨g, 0, none⟩ ∧ w.heap.size ≤ g ∧ w'.ownsRow w.heap.size E 1 (.slice (some ⟨g, 0, none⟩) m cap') m ((List.range m).map f) := by
  rcases h with ⟨h0, -⟩ | ⟨-, h⟩
  · omega
  · rcases h.2 with ⟨-, h3⟩ | ⟨g, c2, cur, h3, hb, -⟩
    · omega
    · simp only [Value.slice.injEq] at h3
      obtain ⟨rfl, -, rfl⟩ := h3
      exact ⟨g, rfl, hb, h⟩
section
variable {P : Program} {w : World} {t e : TypeId} {size bytes : Nat} {z : Value}

theorem run_append_all (T : SlT P t e size bytes z) {base : Nat} {v : Value} {n : Nat} {xs : List Value} (hown : w.ownsRow base e size v n xs) {B : Nat} {ax : Option Addr} {m c : Nat} {f : Nat → Value}
    (hc : CellsAt w B ax (m * size) f) (hax : ax = none → m = 0 ∧ c = 0) (h1 : ∀ i, i < m * size → (f i).oneCell' = true) (h63 : n + m ≤ maxLen) (hb : (n + m) * bytes ≤ 140737488355328) (hbase : base ≤ w.heap.size) (ty : TypeId) :
    ∃ v' w', (Builtin.append_ #[t, t] ty #[v, .slice ax m c]).run P w = .ok v' w' ∧ w'.ownsRow base e size v' (n + m) (xs ++ (List.range (m * size)).map f) ∧ w.grownBy w' v.ownBlock := by
  obtain ⟨i, hi, hz, hs, hby⟩ := info_parts T.info
  cases ax with
  | none =>
    obtain ⟨rfl, rfl⟩ := hax rfl
    refine ⟨v, w, run_append_owned_none w base t ty e i size T.und hi v n xs hown, by simpa using hown, ⟨rfl, rfl, rfl, Nat.le_refl _, fun _ _ _ => rfl⟩⟩
  | some ad =>
    obtain ⟨v', w', hr, ho, hg, -⟩ := run_append_own (P := P) w base t ty e i z size bytes T.und hi hz hs hby T.cells T.pos v n xs hown ad m c ((List.range (m * size)).map f) (by simp) hc.news (range_one f _ h1) h63 hb hbase
    exact ⟨v', w', hr, ho, hg⟩

/-- 'append(x, y...)' for an x of length and capacity 0. -/
theorem run_append_clone (T : SlT P t e size bytes z) {ao : Option Addr} {B : Nat} {ax : Option Addr} {m c : Nat} {f : Nat → Value}
    (hc : CellsAt w B ax (m * size) f) (hax : ax = none → m = 0) (h1 : ∀ i, i < m * size → (f i).oneCell' = true) (h63 : m ≤ maxLen) (hb : m * bytes ≤ 140737488355328) (ty : TypeId) :
    ∃ ao' cap' w', (Builtin.append_ #[t, t] ty #[.slice ao 0 0, .slice ax m c]).run P w = .ok (.slice ao' m cap') w' ∧ CellsAt w' w'.heap.size ao' (m * size) f ∧ Below w.heap.size w w' ∧
      (m = 0 ∧ ao' = ao ∧ cap' = 0 ∧ w' = w ∨ 0 < m ∧ w'.ownsRow w.heap.size e size (.slice ao' m cap') m ((List.range (m * size)).map f)) := by
  obtain ⟨i, hi, hz, hs, hby⟩ := info_parts T.info
  rcases Nat.eq_zero_or_pos m with rfl | hm
  · refine ⟨ao, 0, w, ?_, by rw [Nat.zero_mul]; exact CellsAt.zero, Below.refl _ _, .inl ⟨rfl, rfl, rfl, rfl⟩⟩
    cases ao <;> cases ax <;> simp [Builtin.append_, run_underlying T.und, sizeOf, typeInfo, hi, Builtin.lenOf, Builtin.firstCells, storeCells, loadCells, loadCellsFrom]
  · cases ax with
    | none => have := hax rfl; omega
    | some ad =>
      have key : ∃ v' w', (Builtin.append_ #[t, t] ty #[.slice ao 0 0, .slice (some ad) m c]).run P w = .ok v' w' ∧ w'.ownsRow w.heap.size e size v' m ((List.range (m * size)).map f) ∧ w.grownBy w' none := by
        cases ao with
        | none =>
          obtain ⟨v', w', hr, ho, hg, -⟩ := run_append_own (P := P) w w.heap.size t ty e i z size bytes T.und hi hz hs hby T.cells T.pos (.slice none 0 0) 0 [] (World.ownsRow_nil _ _ _ _) ad m c ((List.range (m * size)).map f) (by simp) hc.news
            (range_one f _ h1) (by omega) (by simpa using hb) (Nat.le_refl _)
          exact ⟨v', w', hr, by simpa using ho, hg⟩
        | some b =>
          obtain ⟨v', w', hr, ho, hg⟩ := run_append_arg_grows (P := P) w t ty e i z size bytes T.und hi hz hs hby T.cells T.pos b 0 0 [] (by simp) (by simp) ad m c ((List.range (m * size)).map f) (by simp) hc.news (by omega) (by omega) (by simpa using hb)
          exact ⟨v', w', hr, by simpa using ho, hg⟩
      obtain ⟨v', w', hr, ho, hg⟩ := key
      rcases ho.2 with ⟨-, h0⟩ | ⟨g, cap', cur, rfl, hbg, hgg, hnc, hcm, hcs, htake⟩
      · omega
      · have hbel : Below w.heap.size w w' := (Below.refl _ _).grown hg (Nat.le_refl _) (fun k h => by cases h)
        refine ⟨some ⟨g, 0, none⟩, cap', w', hr, fun j hj => ⟨g, 0, rfl, (Array.getElem?_eq_some_iff.1 hgg).1, ?_⟩, hbel, .inr ⟨hm, ho⟩⟩
        rw [Nat.zero_add, ho.cellAt j (by exact hj), List.getElem?_map, List.getElem?_range hj]; rfl

section
variable {ops : Array Oper} {rest : List Oper} {o : Oper} {a : Act} {Q : Exit → Act → World → Prop}
theorem wpList_append_all (T : SlT P t e size bytes z) (hgd : o.guard = none) (s x : Operand) (ho : o.op = .call { callee := .builtin .append, args := #[s, x], argTypes := #[t, t] })
    {base : Nat} {v : Value} {n : Nat} {xs : List Value} (hs : a.eval s = v) (hown : w.ownsRow base e size v n xs) {B : Nat} {ax : Option Addr} {m c : Nat} {f : Nat → Value} (hx : a.eval x = .slice ax m c)
    (hc : CellsAt w B ax (m * size) f) (hax : ax = none → m = 0 ∧ c = 0) (h1 : ∀ i, i < m * size → (f i).oneCell' = true) (h63 : n + m ≤ maxLen) (hb : (n + m) * bytes ≤ 140737488355328) (hbase : base ≤ w.heap.size)
    (h : ∀ v' w', w'.ownsRow base e size v' (n + m) (xs ++ (List.range (m * size)).map f) → w.grownBy w' v.ownBlock → wpList P ops Q rest (a.put o.dst v') w') : wpList P ops Q (o :: rest) a w := by
  refine wpList_plain hgd fun K hK => ?_
  obtain ⟨v', w', hrun, r1, r2⟩ := run_append_all T hown hc hax h1 h63 hb hbase o.type
  unfold Oper.wp
  simp [execOp, ho, resolve, invoke, builtin, hs, hx, hrun, Result.andThen]
  exact hK _ _ (h v' w' r1 r2)
theorem wpList_append_clone (T : SlT P t e size bytes z) (hgd : o.guard = none) (s x : Operand) (ho : o.op = .call { callee := .builtin .append, args := #[s, x], argTypes := #[t, t] })
    {ao : Option Addr} (hs : a.eval s = .slice ao 0 0) {B : Nat} {ax : Option Addr} {m c : Nat} {f : Nat → Value} (hx : a.eval x = .slice ax m c)
    (hc : CellsAt w B ax (m * size) f) (hax : ax = none → m = 0) (h1 : ∀ i, i < m * size → (f i).oneCell' = true) (h63 : m ≤ maxLen) (hb : m * bytes ≤ 140737488355328)
    (h : ∀ ao' cap' w', CellsAt w' w'.heap.size ao' (m * size) f → Below w.heap.size w w' → (m = 0 ∧ ao' = ao ∧ cap' = 0 ∧ w' = w ∨ 0 < m ∧ w'.ownsRow w.heap.size e size (.slice ao' m cap') m ((List.range (m * size)).map f)) →
      wpList P ops Q rest (a.put o.dst (.slice ao' m cap')) w') : wpList P ops Q (o :: rest) a w := by
  refine wpList_plain hgd fun K hK => ?_
  obtain ⟨ao', cap', w', hrun, r1, r2, r3⟩ := run_append_clone T (ao := ao) hc hax h1 h63 hb o.type
  unfold Oper.wp
  simp [execOp, ho, resolve, invoke, builtin, hs, hx, Result.andThen]
  rw [hrun]
  exact hK _ _ (h ao' cap' w' r1 r2 r3)
theorem step_append_all (T : SlT P t e size bytes z) {K : Act → World → Prop} {E : Prop} (hgd : o.guard = none) (s x : Operand) (ho : o.op = .call { callee := .builtin .append, args := #[s, x], argTypes := #[t, t] })
    {base : Nat} {v : Value} {n : Nat} {xs : List Value} (hs : a.eval s = v) (hown : w.ownsRow base e size v n xs) {B : Nat} {ax : Option Addr} {m c : Nat} {f : Nat → Value} (hx : a.eval x = .slice ax m c)
    (hc : CellsAt w B ax (m * size) f) (hax : ax = none → m = 0 ∧ c = 0) (h1 : ∀ i, i < m * size → (f i).oneCell' = true) (h63 : n + m ≤ maxLen) (hb : (n + m) * bytes ≤ 140737488355328) (hbase : base ≤ w.heap.size)
    (h : ∀ v' w', w'.ownsRow base e size v' (n + m) (xs ++ (List.range (m * size)).map f) → w.grownBy w' v.ownBlock → K (a.put o.dst v') w') :
    if Region.wanted o (yielded ops a.tmps) = true then Oper.wp P o a w K Q else E := by
  have hw : Region.wanted o (yielded ops a.tmps) = true := by simp [Region.wanted, hgd]
  rw [if_pos hw]
  obtain ⟨v', w', hrun, r1, r2⟩ := run_append_all T hown hc hax h1 h63 hb hbase o.type
  unfold Oper.wp
  simp [execOp, ho, resolve, invoke, builtin, hs, hx, hrun, Result.andThen]
  exact h v' w' r1 r2
theorem step_append_clone (T : SlT P t e size bytes z) {K : Act → World → Prop} {E : Prop} (hgd : o.guard = none) (s x : Operand) (ho : o.op = .call { callee := .builtin .append, args := #[s, x], argTypes := #[t, t] })
    {ao : Option Addr} (hs : a.eval s = .slice ao 0 0) {B : Nat} {ax : Option Addr} {m c : Nat} {f : Nat → Value} (hx : a.eval x = .slice ax m c)
    (hc : CellsAt w B ax (m * size) f) (hax : ax = none → m = 0) (h1 : ∀ i, i < m * size → (f i).oneCell' = true) (h63 : m ≤ maxLen) (hb : m * bytes ≤ 140737488355328)
    (h : ∀ ao' cap' w', CellsAt w' w'.heap.size ao' (m * size) f → Below w.heap.size w w' → (m = 0 ∧ ao' = ao ∧ cap' = 0 ∧ w' = w ∨ 0 < m ∧ w'.ownsRow w.heap.size e size (.slice ao' m cap') m ((List.range (m * size)).map f)) →
      K (a.put o.dst (.slice ao' m cap')) w') :
    if Region.wanted o (yielded ops a.tmps) = true then Oper.wp P o a w K Q else E := by
  have hw : Region.wanted o (yielded ops a.tmps) = true := by simp [Region.wanted, hgd]
  rw [if_pos hw]
  obtain ⟨ao', cap', w', hrun, r1, r2, r3⟩ := run_append_clone T (ao := ao) hc hax h1 h63 hb o.type
  unfold Oper.wp
  simp [execOp, ho, resolve, invoke, builtin, hs, hx, Result.andThen]
  rw [hrun]
  exact h ao' cap' w' r1 r2 r3
/-- The same at elements of one cell. -/
theorem wpList_append_all1 (T : SlT P t e 1 bytes z) (hgd : o.guard = none) (s x : Operand) (ho : o.op = .call { callee := .builtin .append, args := #[s, x], argTypes := #[t, t] })
    {base : Nat} {v : Value} {n : Nat} {xs : List Value} (hs : a.eval s = v) (hown : w.ownsRow base e 1 v n xs) {B : Nat} {ax : Option Addr} {m c : Nat} {f : Nat → Value} (hx : a.eval x = .slice ax m c)
    (hc : CellsAt w B ax m f) (hax : ax = none → m = 0 ∧ c = 0) (h1 : ∀ i, i < m → (f i).oneCell' = true) (h63 : n + m ≤ maxLen) (hb : (n + m) * bytes ≤ 140737488355328) (hbase : base ≤ w.heap.size)
    (h : ∀ v' w', w'.ownsRow base e 1 v' (n + m) (xs ++ (List.range m).map f) → w.grownBy w' v.ownBlock → wpList P ops Q rest (a.put o.dst v') w') : wpList P ops Q (o :: rest) a w :=
  wpList_append_all T hgd s x ho hs hown hx (by rwa [Nat.mul_one]) hax (by rwa [Nat.mul_one]) h63 hb hbase (fun v' w' r1 r2 => h v' w' (by rwa [Nat.mul_one] at r1) r2)
theorem wpList_append_clone1 (T : SlT P t e 1 bytes z) (hgd : o.guard = none) (s x : Operand) (ho : o.op = .call { callee := .builtin .append, args := #[s, x], argTypes := #[t, t] })
    {ao : Option Addr} (hs : a.eval s = .slice ao 0 0) {B : Nat} {ax : Option Addr} {m c : Nat} {f : Nat → Value} (hx : a.eval x = .slice ax m c)
    (hc : CellsAt w B ax m f) (hax : ax = none → m = 0) (h1 : ∀ i, i < m → (f i).oneCell' = true) (h63 : m ≤ maxLen) (hb : m * bytes ≤ 140737488355328)
    (h : ∀ ao' cap' w', CellsAt w' w'.heap.size ao' m f → Below w.heap.size w w' → Cloned w w' e ao ao' m cap' f →
      wpList P ops Q rest (a.put o.dst (.slice ao' m cap')) w') : wpList P ops Q (o :: rest) a w :=
  wpList_append_clone T hgd s x ho hs hx (by rwa [Nat.mul_one]) hax (by rwa [Nat.mul_one]) h63 hb (fun ao' cap' w' r1 r2 r3 => h ao' cap' w' (by rwa [Nat.mul_one] at r1) r2 (by rw [Nat.mul_one] at r3; exact r3))
theorem step_append_all1 (T : SlT P t e 1 bytes z) {K : Act → World → Prop} {E : Prop} (hgd : o.guard = none) (s x : Operand) (ho : o.op = .call { callee := .builtin .append, args := #[s, x], argTypes := #[t, t] })
    {base : Nat} {v : Value} {n : Nat} {xs : List Value} (hs : a.eval s = v) (hown : w.ownsRow base e 1 v n xs) {B : Nat} {ax : Option Addr} {m c : Nat} {f : Nat → Value} (hx : a.eval x = .slice ax m c)
    (hc : CellsAt w B ax m f) (hax : ax = none → m = 0 ∧ c = 0) (h1 : ∀ i, i < m → (f i).oneCell' = true) (h63 : n + m ≤ maxLen) (hb : (n + m) * bytes ≤ 140737488355328) (hbase : base ≤ w.heap.size)
    (h : ∀ v' w', w'.ownsRow base e 1 v' (n + m) (xs ++ (List.range m).map f) → w.grownBy w' v.ownBlock → K (a.put o.dst v') w') :
    if Region.wanted o (yielded ops a.tmps) = true then Oper.wp P o a w K Q else E :=
  step_append_all T hgd s x ho hs hown hx (by rwa [Nat.mul_one]) hax (by rwa [Nat.mul_one]) h63 hb hbase (fun v' w' r1 r2 => h v' w' (by rwa [Nat.mul_one] at r1) r2)
theorem step_append_clone1 (T : SlT P t e 1 bytes z) {K : Act → World → Prop} {E : Prop} (hgd : o.guard = none) (s x : Operand) (ho : o.op = .call { callee := .builtin .append, args := #[s, x], argTypes := #[t, t] })
    {ao : Option Addr} (hs : a.eval s = .slice ao 0 0) {B : Nat} {ax : Option Addr} {m c : Nat} {f : Nat → Value} (hx : a.eval x = .slice ax m c)
    (hc : CellsAt w B ax m f) (hax : ax = none → m = 0) (h1 : ∀ i, i < m → (f i).oneCell' = true) (h63 : m ≤ maxLen) (hb : m * bytes ≤ 140737488355328)
    (h : ∀ ao' cap' w', CellsAt w' w'.heap.size ao' m f → Below w.heap.size w w' → Cloned w w' e ao ao' m cap' f →
      K (a.put o.dst (.slice ao' m cap')) w') :
    if Region.wanted o (yielded ops a.tmps) = true then Oper.wp P o a w K Q else E :=
  step_append_clone T hgd s x ho hs hx (by rwa [Nat.mul_one]) hax (by rwa [Nat.mul_one]) h63 hb (fun ao' cap' w' r1 r2 r3 => h ao' cap' w' (by rwa [Nat.mul_one] at r1) r2 (by rw [Nat.mul_one] at r3; exact r3))
/-- A row that 'append(empty, x...)' has made, grown by more. -/
theorem wpList_append_rows1 (T : SlT P t e 1 bytes z) (hgd : o.guard = none) (s x : Operand) (ho : o.op = .call { callee := .builtin .append, args := #[s, x], argTypes := #[t, t] })
    {base : Nat} {ao : Option Addr} {m cap : Nat} {f : Nat → Value} (hs : a.eval s = .slice ao m cap) (hrow : m = 0 ∧ cap = 0 ∨ 0 < m ∧ w.ownsRow base e 1 (.slice ao m cap) m ((List.range m).map f))
    {B : Nat} {ax : Option Addr} {k c : Nat} {g : Nat → Value} (hx : a.eval x = .slice ax k c) (hc : CellsAt w B ax k g) (hax : ax = none → k = 0 ∧ c = 0) (h1 : ∀ i, i < k → (g i).oneCell' = true)
    (h63 : m + k ≤ maxLen) (hb : (m + k) * bytes ≤ 140737488355328) (hbase : base ≤ w.heap.size)
    (h : ∀ ao' cap' w', CellsAt w' w'.heap.size ao' (m + k) (fun i => if i < m then f i else g (i - m)) → Below base w w' → w.heap.size ≤ w'.heap.size → wpList P ops Q rest (a.put o.dst (.slice ao' (m + k) cap')) w') : wpList P ops Q (o :: rest) a w := by
  rcases hrow with ⟨rfl, rfl⟩ | ⟨hm, hrow⟩
  · refine wpList_append_clone1 T hgd s x ho hs hx hc (fun e => (hax e).1) h1 (by omega) (by simpa using hb) (fun ao' cap' w' r1 r2 _ => ?_)
    have := h ao' cap' w' (by rw [Nat.zero_add]; exact r1.congr (fun i _ => by simp)) (r2.mono hbase) r2.size
    rwa [Nat.zero_add] at this
  · refine wpList_append_all1 T hgd s x ho hs hrow hx hc hax h1 h63 hb hbase (fun v' w' r1 r2 => ?_)
    obtain ⟨ao', cap', rfl, hcells, -⟩ := own_cells r1
    refine h ao' cap' w' (hcells.congr (fun i hi => ?_)) ((Below.refl _ _).grown r2 hbase (fun k hk => (hrow.lt k hk).1)) r2.size
    rw [List.getD_eq_getElem?_getD]
    split
    · rename_i him
      rw [List.getElem?_append_left (by simpa using him), List.getElem?_map, List.getElem?_range him]; rfl
    · rename_i him
      rw [List.getElem?_append_right (by simpa using him), List.getElem?_map, List.length_map, List.length_range, List.getElem?_range (by omega)]; rfl
theorem Cloned.row {w w' : World} {E : TypeId} {ao ao' : Option Addr} {m cap' : Nat} {f : Nat → Value} (h : Cloned w w' E ao ao' m cap' f) :
    m = 0 ∧ cap' = 0 ∨ 0 < m ∧ w'.ownsRow w.heap.size E 1 (.slice ao' m cap') m ((List.range m).map f) := h.imp (fun x => ⟨x.1, x.2.2.1⟩) id
end
end
end Go.Proofs.Ytlnlcmdbhkpnhaa
