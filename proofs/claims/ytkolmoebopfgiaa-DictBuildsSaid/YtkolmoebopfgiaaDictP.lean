/- Chapter 13: words and places: plain mathematics; the map from words to places. -/
import Derived.Test.YtkolmoebopfgiaaL11
import Derived.Maps.Own
import Derived.Maps.OwnSet
import Derived.Maps.OwnOps
import Derived.DeepKeys4
namespace Go.Proofs.Ytkolmoebopfgiaa
open Go.RowKit Go.Maps
set_option linter.unusedVariables false

theorem laidOut' : laidOutB Try.prog = true := by kernel_rfl
theorem Try.rowK : 53 < Try.prog.types.size := of_decide_eq_true (by kernel_rfl)
theorem Try.wideK : (match Try.prog.underlying 53 with | some (.array _ _) | some (.struct _) => true | _ => false) = true := by rw [Try.underlying53]
set_option maxRecDepth 100000 in
theorem keyed : Keyed Try.prog 53 := Keyed.of_law (deep_law_laid laidOut' (m := 3) (by omega) Try.rowK (by kernel_rfl) Try.wideK)
def keyV (sg : Int) (v : Vl) : Value := .agg #[.int .i32 sg, .int .i64 v.1, .string v.2]
theorem key_some (sg : Int) (v : Vl) (hs : sg = 116 ∨ sg = 110) (hv : okV v) : ∃ kl, keyOf Try.prog 53 (keyV sg v) = some kl := by
  have hkt : Try.prog.keyType 53 = true := by kernel_rfl
  have c1 : Try.prog.cellsOf 53 = 3 := by kernel_rfl
  have c2 : Try.prog.cellsOf 30 = 2 := by kernel_rfl
  have c3 : Try.prog.cellsOf 3 = 1 := by kernel_rfl
  have c4 : Try.prog.cellsOf 9 = 1 := by kernel_rfl
  have c5 : Try.prog.cellsOf 21 = 1 := by kernel_rfl
  have hsz : 4 ≤ Try.prog.types.size := Nat.le_trans (by decide) (Nat.le_of_lt Try.rowK)
  obtain ⟨d, hd⟩ : ∃ d, Try.prog.types.size + 1 = d + 3 := ⟨Try.prog.types.size - 2, by omega⟩
  obtain ⟨n, s⟩ := v
  obtain ⟨⟨h1, h2⟩, h3⟩ := hv
  simp only at h1 h2 h3
  have w1 : (Lit.int .i64 n).wf = true := WalkArith.wf_i64 (by omega)
  have w2 : (Lit.int .i32 sg).wf = true := by rcases hs with rfl | rfl <;> decide
  have w3 : s.size ≤ maxLen := by unfold maxLen; exact h3
  unfold keyOf
  rw [Try.underlying53]
  simp only [hkt, Bool.true_and, hd, keyV, Value.formed, Try.underlying53, c1]
  simp [Program.keyLits, Try.underlying53, Try.underlying30, Try.underlying3, Try.underlying9, Try.underlying21, Value.cells, c1, c2, c3, c4, c5, w1, w2, w3]
  rw [if_pos (by
    intro i hi
    match i, hi with
    | 0, _ => exact (by decide : ¬ ("N" : String) = "_")
    | 1, _ => exact (by decide : ¬ ("S" : String) = "_"))]
  exact ⟨_, rfl⟩
theorem key_inj {sg : Int} {u v : Vl} {kl : Lit} (h1 : keyOf Try.prog 53 (keyV sg u) = some kl) (h2 : keyOf Try.prog 53 (keyV sg v) = some kl) : u = v := by
  have h := keyed.inj h1 h2
  obtain ⟨a, s⟩ := u
  obtain ⟨b, t⟩ := v
  simp [keyV] at h
  rw [h.1, h.2]

instance decMem (v : Vl) (ws : List Vl) : Decidable (v ∈ ws) := decidable_of_iff (ws.any (fun x => decide (x = v)) = true) (by simp)
theorem snoc_ind {p : List Vl → Prop} (h0 : p []) (h1 : ∀ l x, p l → p (l ++ [x])) (l : List Vl) : p l := by
  have h : ∀ l : List Vl, p l.reverse := by
    intro l
    induction l with
    | nil => exact h0
    | cons x l ih => rw [List.reverse_cons]; exact h1 _ _ ih
  simpa using h l.reverse

/-! ### words -/
def dIdx (v : Vl) : List Vl → Nat
  | [] => 0
  | x :: t => if x = v then 0 else dIdx v t + 1
def dStep (ws : List Vl) (v : Vl) : List Vl := if v ∈ ws then ws else ws ++ [v]
def dWords (l : List Vl) : List Vl := l.foldl dStep []
def dAtsFrom : List Vl → List Vl → List Nat
  | _, [] => []
  | ws, v :: l => dIdx v (dStep ws v) :: dAtsFrom (dStep ws v) l
def dAts (l : List Vl) : List Nat := dAtsFrom [] l
theorem dAtsFrom_snoc : ∀ (l ws : List Vl) (v : Vl), dAtsFrom ws (l ++ [v]) = dAtsFrom ws l ++ [dIdx v (dStep (l.foldl dStep ws) v)]
  | [], ws, v => rfl
  | x :: l, ws, v => by simp only [List.cons_append, dAtsFrom, dAtsFrom_snoc l, List.foldl_cons]
theorem dAts_snoc (l : List Vl) (v : Vl) : dAts (l ++ [v]) = dAts l ++ [dIdx v (dStep (dWords l) v)] := dAtsFrom_snoc l [] v
theorem dAtsFrom_length : ∀ (l ws : List Vl), (dAtsFrom ws l).length = l.length
  | [], _ => rfl
  | x :: l, ws => by simp only [dAtsFrom, List.length_cons, dAtsFrom_length l]

theorem dWords_snoc (l : List Vl) (v : Vl) : dWords (l ++ [v]) = dStep (dWords l) v := by simp [dWords, List.foldl_append]
theorem dIdx_app (v : Vl) (ws t : List Vl) (h : v ∈ ws) : dIdx v (ws ++ t) = dIdx v ws := by
  induction ws with
  | nil => simp at h
  | cons x ws ih =>
    simp only [List.cons_append, dIdx]
    by_cases hx : x = v
    · rw [if_pos hx, if_pos hx]
    · rw [if_neg hx, if_neg hx, ih (by rcases List.mem_cons.1 h with h | h; exact absurd h.symm hx; exact h)]
theorem dIdx_new (v : Vl) (ws : List Vl) (h : v ∉ ws) : dIdx v (ws ++ [v]) = ws.length := by
  induction ws with
  | nil => simp [dIdx]
  | cons x ws ih =>
    simp only [List.cons_append, dIdx, List.length_cons]
    rw [if_neg (fun e => h (by rw [e]; exact List.mem_cons_self ..)), ih (fun e => h (List.mem_cons_of_mem _ e))]
theorem dIdx_lt (v : Vl) (ws : List Vl) (h : v ∈ ws) : dIdx v ws < ws.length := by
  induction ws with
  | nil => simp at h
  | cons x ws ih =>
    simp only [dIdx, List.length_cons]
    by_cases hx : x = v
    · rw [if_pos hx]; omega
    · rw [if_neg hx]
      have := ih (by rcases List.mem_cons.1 h with h | h; exact absurd h.symm hx; exact h)
      omega
theorem dIdx_at (v : Vl) (ws : List Vl) (h : v ∈ ws) : ws.getD (dIdx v ws) vl0 = v := by
  induction ws with
  | nil => simp at h
  | cons x ws ih =>
    simp only [dIdx]
    by_cases hx : x = v
    · rw [if_pos hx]; exact hx
    · rw [if_neg hx]
      simpa using ih (by rcases List.mem_cons.1 h with h | h; exact absurd h.symm hx; exact h)
theorem mem_dStep (ws : List Vl) (v : Vl) : v ∈ dStep ws v := by
  unfold dStep; split
  · assumption
  · simp
theorem dStep_keep (ws : List Vl) (v u : Vl) (h : u ∈ ws) : u ∈ dStep ws v := by
  unfold dStep; split
  · exact h
  · simp [h]
theorem dStep_pre (ws : List Vl) (v : Vl) : ∃ t, dStep ws v = ws ++ t := by
  unfold dStep; split
  · exact ⟨[], by simp⟩
  · exact ⟨[v], rfl⟩
theorem foldl_pre : ∀ (l ws : List Vl), ∃ t, l.foldl dStep ws = ws ++ t
  | [], ws => ⟨[], by simp⟩
  | v :: l, ws => by
    obtain ⟨t1, h1⟩ := dStep_pre ws v
    obtain ⟨t2, h2⟩ := foldl_pre l (dStep ws v)
    exact ⟨t1 ++ t2, by rw [List.foldl_cons, h2, h1, List.append_assoc]⟩
theorem dWords_app (l m : List Vl) : ∃ t, dWords (l ++ m) = dWords l ++ t := by
  unfold dWords; rw [List.foldl_append]; exact foldl_pre m _
theorem dWords_take_le (l : List Vl) (k : Nat) : (dWords (l.take k)).length ≤ (dWords l).length := by
  obtain ⟨t, h⟩ := dWords_app (l.take k) (l.drop k)
  rw [List.take_append_drop] at h
  rw [h, List.length_append]; omega
theorem dWords_mem : ∀ (l : List Vl) (v : Vl), v ∈ l → v ∈ dWords l := by
  intro l
  refine snoc_ind (p := fun l => ∀ v, v ∈ l → v ∈ dWords l) (fun v h => by simp at h) (fun l x ih => ?_) l
  intro v h
  rw [dWords_snoc]
  rcases List.mem_append.1 h with h | h
  · exact dStep_keep _ _ _ (ih v h)
  · rw [List.mem_singleton] at h; subst h; exact mem_dStep _ _
theorem dWords_le (l : List Vl) : (dWords l).length ≤ l.length := by
  refine snoc_ind (p := fun l => (dWords l).length ≤ l.length) (by simp [dWords]) (fun l x ih => ?_) l
  rw [dWords_snoc]
  unfold dStep
  split
  · rw [List.length_append]; omega
  · rw [List.length_append, List.length_append]; simp; omega
theorem dAts_length (l : List Vl) : (dAts l).length = l.length := dAtsFrom_length l []

/-! ### the map -/
def DMap (w : World) (b n : Nat) (sg : Int) (ws : List Vl) : Prop :=
  ∃ D : DataW Unit, w.ownsMap Try.prog 53 (plainElem Try.prog 3) b n D ∧ IsMap D ∧
    ∀ v, okV v → ∀ kl, keyOf Try.prog 53 (keyV sg v) = some kl → Maps.has D kl = decide (v ∈ ws) ∧ D.atKey kl (.lit (.int .i64 0)) = .lit (.int .i64 ((if v ∈ ws then dIdx v ws else 0 : Nat) : Int))
theorem DMap.made (w : World) (sg : Int) : DMap (w.alloc (.map #[] 0)) w.heap.size 0 sg [] :=
  ⟨.map [], World.ownsMap_made _ _ _ _, isMap_empty, fun v _ kl _ => ⟨rfl, rfl⟩⟩
theorem DMap.kept {w w' : World} {b n : Nat} {sg : Int} {ws : List Vl} {row : Option Nat} (h : DMap w b n sg ws) (hg : w.grownBy w' row) (hne : some b ≠ row) : DMap w' b n sg ws := by
  obtain ⟨D, h1, h2, h3⟩ := h
  exact ⟨D, h1.kept hg hne, h2, h3⟩
theorem DMap.alloc {w : World} {b n : Nat} {sg : Int} {ws : List Vl} (h : DMap w b n sg ws) (o : Obj) : DMap (w.alloc o) b n sg ws := by
  obtain ⟨D, h1, h2, h3⟩ := h
  exact ⟨D, h1.alloc o, h2, h3⟩
theorem DMap.drewN {w : World} {b n : Nat} {sg : Int} {ws : List Vl} (h : DMap w b n sg ws) (m : Nat) : DMap (w.drewN m) b n sg ws := h
theorem DMap.mono {w : World} {b n n' : Nat} {sg : Int} {ws : List Vl} (h : DMap w b n sg ws) (hn : n ≤ n') : DMap w b n' sg ws := by
  obtain ⟨D, h1, h2, h3⟩ := h
  exact ⟨D, h1.mono hn, h2, h3⟩
theorem DMap.isMap {w : World} {b n : Nat} {sg : Int} {ws : List Vl} (h : DMap w b n sg ws) : ∃ es clock, w.heap[b]? = some (.map es clock) := by
  obtain ⟨D, ⟨es, clock, h1, -⟩, -⟩ := h
  exact ⟨es, clock, h1⟩
set_option maxRecDepth 100000 in
theorem DMap.look {w : World} {b n : Nat} {sg : Int} {ws : List Vl} (h : DMap w b n sg ws) (hs : sg = 116 ∨ sg = 110) {v : Vl} (hv : okV v) :
    (Instr.lookup 49 (.map (some b)) (keyV sg v) true).run Try.prog w = .ok (.tuple #[.int .i64 ((if v ∈ ws then dIdx v ws else 0 : Nat) : Int), .bool (decide (v ∈ ws))]) w := by
  obtain ⟨D, h1, h2, h3⟩ := h
  obtain ⟨kl, hk⟩ := key_some sg v hs hv
  obtain ⟨e1, e2⟩ := h3 v hv kl hk
  have hz : (zeroValue 3).run Try.prog w = .ok (.int .i64 0) w := by kernel_rfl
  obtain ⟨u, ps, hrun, hu⟩ := h1.look_ok keyed Try.underlying49 hz (zd := .lit (.int .i64 0)) (zp := []) (plainElem_int Try.underlying3 (by decide)) hk
  obtain ⟨c, rfl, hc, -⟩ := plainElem_int_inv Try.underlying3 hu
  have := congrArg Prod.fst hc
  simp only at this
  rw [e2] at this
  injection this with this
  injection this with _ this
  rw [hrun, e1, ← this]
theorem DMap.put {w : World} {b n : Nat} {sg : Int} {ws : List Vl} (h : DMap w b n sg ws) (hs : sg = 116 ∨ sg = 110) {v : Vl} (hv : okV v) (hnot : v ∉ ws) (hn : n < maxLen) (hw : ws.length ≤ 9223372036854775807) :
    ∃ w', (Instr.mapUpdate 49 (.map (some b)) (keyV sg v) (.int .i64 (ws.length : Nat))).run Try.prog w = .ok () w' ∧ DMap w' b (n + 1) sg (ws ++ [v]) ∧ w.grownBy w' (some b) := by
  obtain ⟨D, h1, h2, h3⟩ := h
  obtain ⟨kl, hk⟩ := key_some sg v hs hv
  obtain ⟨w', hrun, r1, r2⟩ := h1.update keyed Try.underlying49 hn hk (val := .int .i64 (ws.length : Nat)) (d := .lit (.int .i64 (ws.length : Nat))) (ps := []) (plainElem_int Try.underlying3 (WalkArith.wf_i64 (by omega)))
  have hkk : WideAt.IsKeyLit kl := (keyed).key hk
  refine ⟨w', hrun, ⟨_, r1, h2.put _ _, fun u hu ku hku => ?_⟩, r2⟩
  by_cases e : u = v
  · subst e
    obtain rfl : ku = kl := by rw [hk] at hku; exact (Option.some.inj hku).symm
    rw [has_put_same h2 hkk, atKey_put_same h2 hkk, if_pos (by simp), dIdx_new u ws hnot]
    simp
  · have hne : ku ≠ kl := fun h => e (key_inj hku (by rw [h]; exact hk))
    obtain ⟨e1, e2⟩ := h3 u hu ku hku
    rw [has_put_other hne, atKey_put_other hne, e1, e2]
    have hm : (u ∈ ws ++ [v]) ↔ u ∈ ws := by simp [e]
    constructor
    · rw [decide_eq_decide]; exact hm.symm
    · by_cases hmem : u ∈ ws
      · rw [if_pos hmem, if_pos (hm.2 hmem), dIdx_app u ws [v] hmem]
      · rw [if_neg hmem, if_neg (fun h => hmem (hm.1 h))]
/-- Rows of unlike elements do not share a block. -/
theorem own_apart {w : World} {b1 b2 : Nat} {e1 e2 : TypeId} {s1 s2 : Nat} {v1 v2 : Value} {n1 n2 : Nat} {x1 x2 : List Value} (h1 : w.ownsRow b1 e1 s1 v1 n1 x1) (h2 : w.ownsRow b2 e2 s2 v2 n2 x2) (he : e1 ≠ e2) : v1.ownBlock = none ∨ v1.ownBlock ≠ v2.ownBlock := by
  rcases h1.2 with ⟨rfl, -⟩ | ⟨g1, c1, cur1, rfl, -, hg1, -⟩
  · exact .inl rfl
  · right
    rcases h2.2 with ⟨rfl, -⟩ | ⟨g2, c2, cur2, rfl, -, hg2, -⟩
    · simp [Value.ownBlock]
    · simp only [Value.ownBlock, ne_eq, Option.some.injEq]
      rintro rfl
      rw [hg1] at hg2
      simp only [Option.some.injEq, Obj.cells.injEq] at hg2
      exact he hg2.2.1
theorem DMap.apart {w : World} {b n : Nat} {sg : Int} {ws : List Vl} (h : DMap w b n sg ws) {b2 : Nat} {e2 : TypeId} {s2 : Nat} {v2 : Value} {n2 : Nat} {x2 : List Value} (h2 : w.ownsRow b2 e2 s2 v2 n2 x2) : some b ≠ v2.ownBlock := by
  obtain ⟨es, clock, hb⟩ := h.isMap
  rcases h2.2 with ⟨rfl, -⟩ | ⟨g2, c2, cur2, rfl, -, hg2, -⟩
  · simp [Value.ownBlock]
  · simp only [Value.ownBlock, ne_eq, Option.some.injEq]
    rintro rfl
    rw [hb] at hg2
    cases hg2
end Go.Proofs.Ytkolmoebopfgiaa
