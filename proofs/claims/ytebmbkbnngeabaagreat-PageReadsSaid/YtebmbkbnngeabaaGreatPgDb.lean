/- Chapter 18: a page's bytes: plain; what Decode holds on its way. -/
import Derived.Test.YtebmbkbnngeabaaGreatPgDa
import Derived.Test.YtebmbkbnngeabaaGreatBunA
import Derived.Test.YtebmbkbnngeabaaGreatBunB
set_option linter.unusedSimpArgs false
namespace Go.Proofs.YtebmbkbnngeabaaGreat
open Go.RowKit
set_option linter.unusedVariables false
abbrev PgRes := (List Nat × List Nat × List Vl) × Nat
def pgBad (k : Nat) : PgRes := (([], [], []), k)
def ints (l : List Nat) : List Int := l.map Int.ofNat
theorem ints_length (l : List Nat) : (ints l).length = l.length := by simp [ints]
theorem ints_at (l : List Nat) (i : Nat) : (ints l).getD i 0 = ((l.getD i 0 : Nat) : Int) := by
 unfold ints
 simp only [List.getD_eq_getElem?_getD, List.getElem?_map]
 cases l[i]? <;> rfl
theorem nic_ints (l : List Nat) : nic l = i64c (ints l) := by
 funext i
 show Value.int .i64 ((l.getD i 0 : Nat) : Int) = .int .i64 ((ints l).getD i 0)
 rw [ints_at]
def pgD3 (R D kind : Nat) (rows enc : Int) (rl dl : Nat) (b : List Nat) (ws : List Vl) (r d : List Nat) : PgRes :=
 if levsOk R D rows (ints r) (ints d) = true then
  if (readV kind enc (b.drop (rl + dl)) (cntI D (ints d)) ws).2 = 0 then ((r, d, (readV kind enc (b.drop (rl + dl)) (cntI D (ints d)) ws).1), 0) else pgBad (readV kind enc (b.drop (rl + dl)) (cntI D (ints d)) ws).2
 else pgBad 10
def pgD2 (R D kind : Nat) (rows enc : Int) (cells rl dl : Nat) (b : List Nat) (ws : List Vl) (r : List Nat) : PgRes :=
 if (levDec ((b.drop rl).take dl) cells (bitLen D)).2 = 0 then pgD3 R D kind rows enc rl dl b ws r (levDec ((b.drop rl).take dl) cells (bitLen D)).1 else pgBad (levDec ((b.drop rl).take dl) cells (bitLen D)).2
def pgD1 (R D kind : Nat) (rows enc : Int) (cells rl dl : Nat) (b : List Nat) (ws : List Vl) : PgRes :=
 if (levDec (b.take rl) cells (bitLen R)).2 = 0 then pgD2 R D kind rows enc cells rl dl b ws (levDec (b.take rl) cells (bitLen R)).1 else pgBad (levDec (b.take rl) cells (bitLen R)).2
def pgDec (R D kind : Nat) (p : Pg) (b : List Nat) (ws : List Vl) : PgRes :=
 if pgOk p b.length then if csum b = p.crc then pgD1 R D kind p.rows p.enc p.cells.toNat p.rl.toNat p.dl.toNat b ws else pgBad 15 else pgBad 10
theorem levDec_ok (b : List Nat) (n width : Nat) (h : (levDec b n width).2 = 0) : (levDec b n width).1.length = n := by
 have key : ∀ (w n f : Nat) (b l : List Nat), l.length ≤ n → n - l.length < f → (decL w n f b l).2 = 0 → (decL w n f b l).1.length = n := by
  intro w n f
  induction f with
  | zero => intro b l _ h; omega
  | succ f ih =>
   intro b l hl hf h
   simp only [decL] at h ⊢
   split at h
   · rename_i h1
     rw [if_pos h1]
     split at h
     · rename_i h2
       exact absurd h h2
     · rename_i h2
       rw [if_neg h2]
       have := decRow_grow w n b l (by omega)
       exact ih _ _ this.2.1 (by omega) h
   · rename_i h1
     rw [if_neg h1]
     split at h
     · simp at h
     · rename_i h2
       rw [if_neg h2]
       show l.length = n
       omega
 unfold levDec at h ⊢
 split at h
 · simp at h
 · rename_i h1
   rw [if_neg h1]
   rw [Int.toNat_natCast, Int.toNat_natCast] at h ⊢
   refine key _ _ _ _ _ ?_ ?_ h
   · split <;> simp
   · split <;> simp
def ColVLo (B : Nat) (c : ColV) : Prop := (∀ a, c.aoR = some a → B ≤ a.block) ∧ (∀ a, c.aoD = some a → B ≤ a.block) ∧ ∀ a, c.aoV = some a → B ≤ a.block
def GaveCol (w : World) (r : PgRes) (e : Ending) (w' : World) : Prop :=
 ∃ c : ColV, e = .returned (.tuple #[c.v, .int .i64 (r.2 : Nat)]) ∧ ColAt w' c (ints r.1.1) (ints r.1.2.1) r.1.2.2 ∧ (c.nR ≤ 9223372036854775807 ∧ c.nD ≤ 9223372036854775807 ∧ c.nV ≤ 9223372036854775807) ∧ ColVLo w.heap.size c ∧ Below w.heap.size w w'
theorem GaveCol.bad {w w' : World} (k : Nat) (hb : Below w.heap.size w w') : GaveCol w (pgBad k) (.returned (.tuple #[.agg #[.slice none 0 0, .slice none 0 0, .slice none 0 0], .int .i64 (k : Nat)])) w' :=
 ⟨⟨none, 0, 0, none, 0, 0, none, 0, 0⟩, rfl, ⟨rfl, rfl, rfl, fun i hi => absurd hi (Nat.not_lt_zero _), fun i hi => absurd hi (Nat.not_lt_zero _), fun i hi => absurd hi (by simp)⟩, ⟨by decide, by decide, by decide⟩, ⟨fun a h => (by cases h), fun a h => (by cases h), fun a h => (by cases h)⟩, hb⟩
theorem own_max {w : World} {base E s n : Nat} {v : Value} {xs : List Value} (h : w.ownsRow base E s v n xs) : n ≤ 9223372036854775807 := by
 rcases h.2 with ⟨-, h3⟩ | ⟨g, c2, cur, h3, hb, -, hc, hm, -⟩
 · omega
 · unfold maxLen at hm; omega
theorem GaveCol.ok {w w' : World} {base n0 n1 n2 : Nat} {u0 u1 u2 : Value} {r d : List Nat} {v : List Vl} (h0 : w'.ownsRow base 3 1 u0 n0 (natv r)) (h1 : w'.ownsRow base 3 1 u1 n1 (natv d)) (h2 : w'.ownsRow base 81 2 u2 n2 (vcs v)) (hb : Below w.heap.size w w') (hbs : w.heap.size ≤ base) :
 GaveCol w ((r, d, v), 0) (.returned (.tuple #[.agg #[u0, u1, u2], .int .i64 ((0 : Nat) : Int)])) w' := by
 have m0 := own_max h0; have m1 := own_max h1; have m2 := own_max h2
 have b0 := h0; have b1 := h1; have b2 := h2
 obtain ⟨a0, c0, rfl, l0, -, x0, -⟩ := own_nat h0
 obtain ⟨a1, c1, rfl, l1, -, x1, -⟩ := own_nat h1
 obtain ⟨a2, c2, rfl, l2, -, x2, -⟩ := own_v h2
 refine ⟨⟨a0, n0, c0, a1, n1, c1, a2, n2, c2⟩, rfl, ⟨by rw [ints_length]; exact l0, by rw [ints_length]; exact l1, l2, ?_, ?_, x2⟩, ⟨m0, m1, m2⟩, ⟨fun a ha => Nat.le_trans hbs (b0.lt a.block (by rw [show a0 = some a from ha]; rfl)).1, fun a ha => Nat.le_trans hbs (b1.lt a.block (by rw [show a1 = some a from ha]; rfl)).1, fun a ha => Nat.le_trans hbs (b2.lt a.block (by rw [show a2 = some a from ha]; rfl)).1⟩, hb⟩
 · rw [← nic_ints]; exact x0
 · rw [← nic_ints]; exact x1
theorem But.cellNe {gc : Nat} {a b : World} (h : But gc a b) {ad : Addr} {v : Value} (hne : ad.block ≠ gc) (hc : a.cell? ad = some v) : b.cell? ad = some v := by
 rw [World.cell?_of_block (h.block ad.block (World.block_lt_of_cell? a ad hc) hne)]; exact hc
theorem But.pre (gc : Nat) : Pre (But gc) := ⟨fun _ => But.refl _ _, fun h k => h.trans k⟩
structure PD (lf : Lf) (p : Pg) (g gc : Nat) (u0 u1 u2 : Value) (w y : World) : Prop where
 l : y.heap[g]? = some (.cells #[.int .i64 (lf.field : Nat), .int .i64 (lf.r : Nat), .int .i64 (lf.d : Nat), .int .i64 (lf.kind : Nat)] 30)
 p : y.heap[g + 1]? = some (.cells #[.int .i64 p.rows, .int .i64 p.cells, .int .i64 p.enc, .int .i64 p.rl, .int .i64 p.dl, .int .i64 p.vl, .int .u32 (p.crc : Nat)] 27)
 r : y.heap[g + 2]? = some (.cells #[.slice none 0 0, .slice none 0 0, .slice none 0 0] 33)
 c : y.heap[gc]? = some (.cells #[u0, u1, u2] 33)
 b : Below w.heap.size w y
 hg : w.heap.size = g
 hgc : g + 3 ≤ gc
section
variable {lf : Lf} {p : Pg} {g gc : Nat} {u0 u1 u2 : Value} {w y z : World}
theorem PD.lt (h : PD lf p g gc u0 u1 u2 w y) : gc < y.heap.size := (Array.getElem?_eq_some_iff.1 h.c).1
theorem PD.keep (h : PD lf p g gc u0 u1 u2 w y) (hb : Below y.heap.size y z) : PD lf p g gc u0 u1 u2 w z := by
 have h1 := h.lt; have h2 := h.hgc
 exact ⟨(hb.block g (by omega)).trans h.l, (hb.block (g + 1) (by omega)).trans h.p, (hb.block (g + 2) (by omega)).trans h.r, (hb.block gc h1).trans h.c, bmore h.b hb, h.hg, h.hgc⟩
theorem PD.set (h : PD lf p g gc u0 u1 u2 w y) (j : Nat) (v v0 v1 v2 : Value) (hv : #[u0, u1, u2].setIfInBounds j v = #[v0, v1, v2]) : PD lf p g gc v0 v1 v2 w (y.setCell ⟨gc, j, none⟩ v) := by
 have h2 := h.hgc
 have ho : ∀ k, k < gc → (y.setCell ⟨gc, j, none⟩ v).heap[k]? = y.heap[k]? := fun k hk => Below.heap_setCell _ _ _ k (by show k ≠ gc; omega)
 refine ⟨(ho g (by omega)).trans h.l, (ho (g + 1) (by omega)).trans h.p, (ho (g + 2) (by omega)).trans h.r, ?_, h.b.setCell (p := ⟨gc, j, none⟩) (by show _ ≤ gc; have := h.hg; omega) v, h.hg, h.hgc⟩
 simp only [World.setCell, Array.getElem?_modify, h.c]
 simp only [if_true, Option.map_some]
 rw [← hv]; rfl
theorem PD.leaf (h : PD lf p g gc u0 u1 u2 w y) : y.cell? ⟨g, 1, none⟩ = some (.int .i64 (lf.r : Nat)) ∧ y.cell? ⟨g, 2, none⟩ = some (.int .i64 (lf.d : Nat)) ∧ y.cell? ⟨g, 3, none⟩ = some (.int .i64 (lf.kind : Nat)) := (four_lf h.l).2
theorem PD.page (h : PD lf p g gc u0 u1 u2 w y) : y.cell? ⟨g + 1, 0, none⟩ = some (.int .i64 p.rows) ∧ y.cell? ⟨g + 1, 1, none⟩ = some (.int .i64 p.cells) ∧ y.cell? ⟨g + 1, 2, none⟩ = some (.int .i64 p.enc) ∧ y.cell? ⟨g + 1, 3, none⟩ = some (.int .i64 p.rl) ∧
 y.cell? ⟨g + 1, 4, none⟩ = some (.int .i64 p.dl) ∧ y.cell? ⟨g + 1, 5, none⟩ = some (.int .i64 p.vl) ∧ y.cell? ⟨g + 1, 6, none⟩ = some (.int .u32 (p.crc : Nat)) := seven_cells h.p
theorem PD.res (h : PD lf p g gc u0 u1 u2 w y) : y.cell? ⟨g + 2, 0, none⟩ = some (.slice none 0 0) ∧ y.cell? ⟨g + 2, 1, none⟩ = some (.slice none 0 0) ∧ y.cell? ⟨g + 2, 2, none⟩ = some (.slice none 0 0) ∧ y.frozen? ⟨g + 2, 0, none⟩ = false ∧ y.frozen? ⟨g + 2, 1, none⟩ = false ∧ y.frozen? ⟨g + 2, 2, none⟩ = false := three_cellsT h.r
theorem PD.col (h : PD lf p g gc u0 u1 u2 w y) : y.cell? ⟨gc, 0, none⟩ = some u0 ∧ y.cell? ⟨gc, 1, none⟩ = some u1 ∧ y.cell? ⟨gc, 2, none⟩ = some u2 ∧ y.frozen? ⟨gc, 0, none⟩ = false ∧ y.frozen? ⟨gc, 1, none⟩ = false ∧ y.frozen? ⟨gc, 2, none⟩ = false := three_cellsT h.c
theorem finRow {base E s n : Nat} {v a b c : Value} {xs : List Value} (h : z.ownsRow base E s v n xs) (hbs : g + 3 ≤ base) : (((z.setCell ⟨g + 2, 0, none⟩ a).setCell ⟨g + 2, 1, none⟩ b).setCell ⟨g + 2, 2, none⟩ c).ownsRow base E s v n xs := by
 have n1 : ∀ (y : World), y.ownsRow base E s v n xs → ∀ (j : Nat) (u : Value), (y.setCell ⟨g + 2, j, none⟩ u).ownsRow base E s v n xs := fun y hy j u => hy.kept (setCell_grown y (g + 2) j u) (by right; intro e; have := (hy.lt _ e).1; omega)
 exact n1 _ (n1 _ (n1 _ h 0 a) 1 b) 2 c
theorem PD.fin (h : PD lf p g gc u0 u1 u2 w y) (a b c : Value) : (((y.setCell ⟨g + 2, 0, none⟩ a).setCell ⟨g + 2, 1, none⟩ b).setCell ⟨g + 2, 2, none⟩ c).heap[g + 2]? = some (.cells #[a, b, c] 33) ∧
 Below w.heap.size w (((y.setCell ⟨g + 2, 0, none⟩ a).setCell ⟨g + 2, 1, none⟩ b).setCell ⟨g + 2, 2, none⟩ c) :=
 ⟨three_setT h.r a b c, ((h.b.setCell (p := ⟨g + 2, 0, none⟩) (by have := h.hg; show _ ≤ g + 2; omega) a).setCell (p := ⟨g + 2, 1, none⟩) (by have := h.hg; show _ ≤ g + 2; omega) b).setCell (p := ⟨g + 2, 2, none⟩) (by have := h.hg; show _ ≤ g + 2; omega) c⟩
structure PB (lf : Lf) (p : Pg) (g : Nat) (w y : World) : Prop where
 l : y.heap[g]? = some (.cells #[.int .i64 (lf.field : Nat), .int .i64 (lf.r : Nat), .int .i64 (lf.d : Nat), .int .i64 (lf.kind : Nat)] 30)
 p : y.heap[g + 1]? = some (.cells #[.int .i64 p.rows, .int .i64 p.cells, .int .i64 p.enc, .int .i64 p.rl, .int .i64 p.dl, .int .i64 p.vl, .int .u32 (p.crc : Nat)] 27)
 r : y.heap[g + 2]? = some (.cells #[.slice none 0 0, .slice none 0 0, .slice none 0 0] 33)
 b : Below w.heap.size w y
 hg : w.heap.size = g
theorem PB.lt (h : PB lf p g w y) : g + 2 < y.heap.size := (Array.getElem?_eq_some_iff.1 h.r).1
theorem PB.keep (h : PB lf p g w y) (hb : Below y.heap.size y z) : PB lf p g w z := by
 have h1 := h.lt
 exact ⟨(hb.block g (by omega)).trans h.l, (hb.block (g + 1) (by omega)).trans h.p, (hb.block (g + 2) (by omega)).trans h.r, bmore h.b hb, h.hg⟩
theorem PB.page (h : PB lf p g w y) : y.cell? ⟨g + 1, 0, none⟩ = some (.int .i64 p.rows) ∧ y.cell? ⟨g + 1, 1, none⟩ = some (.int .i64 p.cells) ∧ y.cell? ⟨g + 1, 2, none⟩ = some (.int .i64 p.enc) ∧ y.cell? ⟨g + 1, 3, none⟩ = some (.int .i64 p.rl) ∧
 y.cell? ⟨g + 1, 4, none⟩ = some (.int .i64 p.dl) ∧ y.cell? ⟨g + 1, 5, none⟩ = some (.int .i64 p.vl) ∧ y.cell? ⟨g + 1, 6, none⟩ = some (.int .u32 (p.crc : Nat)) := seven_cells h.p
theorem PB.res (h : PB lf p g w y) : y.cell? ⟨g + 2, 0, none⟩ = some (.slice none 0 0) ∧ y.cell? ⟨g + 2, 1, none⟩ = some (.slice none 0 0) ∧ y.cell? ⟨g + 2, 2, none⟩ = some (.slice none 0 0) ∧ y.frozen? ⟨g + 2, 0, none⟩ = false ∧ y.frozen? ⟨g + 2, 1, none⟩ = false ∧ y.frozen? ⟨g + 2, 2, none⟩ = false := three_cellsT h.r
theorem PB.fin (h : PB lf p g w y) (a b c : Value) : (((y.setCell ⟨g + 2, 0, none⟩ a).setCell ⟨g + 2, 1, none⟩ b).setCell ⟨g + 2, 2, none⟩ c).heap[g + 2]? = some (.cells #[a, b, c] 33) ∧
 Below w.heap.size w (((y.setCell ⟨g + 2, 0, none⟩ a).setCell ⟨g + 2, 1, none⟩ b).setCell ⟨g + 2, 2, none⟩ c) :=
 ⟨three_setT h.r a b c, ((h.b.setCell (p := ⟨g + 2, 0, none⟩) (by have := h.hg; show _ ≤ g + 2; omega) a).setCell (p := ⟨g + 2, 1, none⟩) (by have := h.hg; show _ ≤ g + 2; omega) b).setCell (p := ⟨g + 2, 2, none⟩) (by have := h.hg; show _ ≤ g + 2; omega) c⟩
theorem PB.col (h : PB lf p g w y) (hz : Below y.heap.size y z) (hgc : gc = y.heap.size) (hc : z.heap[gc]? = some (.cells #[u0, u1, u2] 33)) : PD lf p g gc u0 u1 u2 w z := by
 have h1 := h.keep hz
 have h2 := h.lt
 exact ⟨h1.l, h1.p, h1.r, hc, h1.b, h1.hg, by omega⟩
end
end Go.Proofs.YtebmbkbnngeabaaGreat
