/- Chapter 18's document: the walk over Encode: only bounds are said. -/
import Derived.Test.YtebmbkbnngeabaaGreatPgDb
import Derived.Test.YtebmbkbnngeabaaGreatPgAt
import Derived.Test.YtebmbkbnngeabaaGreatPgH
import Derived.Test.YtebmbkbnngeabaaGreatLevL0
import Derived.Test.YtebmbkbnngeabaaGreatDelHE
import Derived.Test.YtebmbkbnngeabaaGreatBunC
set_option linter.unusedSimpArgs false
namespace Go.Proofs.YtebmbkbnngeabaaGreat
open Go.RowKit
set_option linter.unusedVariables false
section
variable {P : Program} {w : World} {t e : TypeId} {size bytes : Nat} {z : Value}
theorem run_append_noneC (base : Nat) (t ty e : TypeId) (i : TypeInfo) (size : Nat) (ht : P.underlying t = some (.slice e)) (hi : P.info? e = some i)
 (v : Value) (n c : Nat) (xs : List Value) (hown : w.ownsRow base e size v n xs) : (Builtin.append_ #[t, t] ty #[v, .slice none 0 c]).run P w = .ok v w := by
 rcases hown.2 with ⟨rfl, rfl⟩ | ⟨g, cap, cur, rfl, _, _, hnc, _⟩
 · simp [Builtin.append_, run_underlying ht, sizeOf, typeInfo, hi, Builtin.lenOf, Builtin.firstCells]
 · simp [Builtin.append_, run_underlying ht, sizeOf, typeInfo, hi, Builtin.lenOf, Builtin.firstCells, hnc, storeCells]
theorem run_append_loose (T : SlT P t e size bytes z) {base : Nat} {v : Value} {n : Nat} {xs : List Value} (hown : w.ownsRow base e size v n xs) {B : Nat} {ax : Option Addr} {m c : Nat} {f : Nat → Value}
 (hc : CellsAt w B ax (m * size) f) (hax : ax = none → m = 0) (h1 : ∀ i, i < m * size → (f i).oneCell' = true) (h63 : n + m ≤ maxLen) (hb : (n + m) * bytes ≤ 140737488355328) (hbase : base ≤ w.heap.size) (ty : TypeId) :
 ∃ v' w', (Builtin.append_ #[t, t] ty #[v, .slice ax m c]).run P w = .ok v' w' ∧ w'.ownsRow base e size v' (n + m) (xs ++ (List.range (m * size)).map f) ∧ w.grownBy w' v.ownBlock := by
 cases ax with
 | none =>
  obtain ⟨i, hi, hz, hs, hby⟩ := info_parts T.info
  obtain rfl := hax rfl
  exact ⟨v, w, run_append_noneC base t ty e i size T.und hi v n c xs hown, by simpa using hown, ⟨rfl, rfl, rfl, Nat.le_refl _, fun _ _ _ => rfl⟩⟩
 | some a => exact run_append_all T hown hc (fun h => by cases h) h1 h63 hb hbase ty
variable {ops : Array Oper} {rest : List Oper} {o : Oper} {a : Act} {Q : Exit → Act → World → Prop}
theorem wpList_append_loose (T : SlT P t e size bytes z) (hgd : o.guard = none) (s x : Operand) (ho : o.op = .call { callee := .builtin .append, args := #[s, x], argTypes := #[t, t] })
 {base : Nat} {v : Value} {n : Nat} {xs : List Value} (hs : a.eval s = v) (hown : w.ownsRow base e size v n xs) {B : Nat} {ax : Option Addr} {m c : Nat} {f : Nat → Value} (hx : a.eval x = .slice ax m c)
 (hc : CellsAt w B ax (m * size) f) (hax : ax = none → m = 0) (h1 : ∀ i, i < m * size → (f i).oneCell' = true) (h63 : n + m ≤ maxLen) (hb : (n + m) * bytes ≤ 140737488355328) (hbase : base ≤ w.heap.size)
 (h : ∀ v' w', w'.ownsRow base e size v' (n + m) (xs ++ (List.range (m * size)).map f) → w.grownBy w' v.ownBlock → wpList P ops Q rest (a.put o.dst v') w') : wpList P ops Q (o :: rest) a w :=
 wpList_plain hgd fun K hK => by
  obtain ⟨v', w', hrun, r1, r2⟩ := run_append_loose T hown hc hax h1 h63 hb hbase o.type (c := c)
  unfold Oper.wp
  simp [execOp, ho, resolve, invoke, builtin, hs, hx, hrun, Result.andThen]
  exact hK _ _ (h v' w' r1 r2)
theorem wpList_append_loose1 (T : SlT P t e 1 bytes z) (hgd : o.guard = none) (s x : Operand) (ho : o.op = .call { callee := .builtin .append, args := #[s, x], argTypes := #[t, t] })
 {base : Nat} {v : Value} {n : Nat} {xs : List Value} (hs : a.eval s = v) (hown : w.ownsRow base e 1 v n xs) {B : Nat} {ax : Option Addr} {m c : Nat} {f : Nat → Value} (hx : a.eval x = .slice ax m c)
 (hc : CellsAt w B ax m f) (hax : ax = none → m = 0) (h1 : ∀ i, i < m → (f i).oneCell' = true) (h63 : n + m ≤ maxLen) (hb : (n + m) * bytes ≤ 140737488355328) (hbase : base ≤ w.heap.size)
 (h : ∀ v' w', w'.ownsRow base e 1 v' (n + m) (xs ++ (List.range m).map f) → w.grownBy w' v.ownBlock → wpList P ops Q rest (a.put o.dst v') w') : wpList P ops Q (o :: rest) a w :=
 wpList_append_loose T hgd s x ho hs hown hx (by rwa [Nat.mul_one]) hax (by rwa [Nat.mul_one]) h63 hb hbase (fun v' w' r1 r2 => h v' w' (by rwa [Nat.mul_one] at r1) r2)
end
theorem own_emptyP (w : World) (E : TypeId) (size : Nat) : (w.alloc (.cells #[] E)).ownsRow w.heap.size E size (.slice (some ⟨w.heap.size, 0, none⟩) 0 0) 0 [] := by
 refine ⟨by simp, .inr ⟨w.heap.size, 0, #[], rfl, Nat.le_refl _, heap_alloc_new w _, Nat.le_refl _, Nat.zero_le _, by simp, by simp⟩⟩
theorem seven_setT {w : World} {g T : Nat} {a b c d e f h : Value} (hg : w.heap[g]? = some (.cells #[a, b, c, d, e, f, h] T)) (a' b' c' d' e' f' h' : Value) :
 (((((((w.setCell ⟨g, 0, none⟩ a').setCell ⟨g, 1, none⟩ b').setCell ⟨g, 2, none⟩ c').setCell ⟨g, 3, none⟩ d').setCell ⟨g, 4, none⟩ e').setCell ⟨g, 5, none⟩ f').setCell ⟨g, 6, none⟩ h').heap[g]? = some (.cells #[a', b', c', d', e', f', h'] T) := by
 simp only [World.setCell, Array.getElem?_modify, hg]; simp
theorem seven_frz {w : World} {g T : Nat} {a b c d e f h : Value} (hg : w.heap[g]? = some (.cells #[a, b, c, d, e, f, h] T)) (j : Nat) : w.frozen? ⟨g, j, none⟩ = false := by simp [World.frozen?, hg]
structure Bs (w : World) (a : Option Addr) (n k : Nat) (l : List Nat) : Prop where
 len : l.length = n
 cap : n ≤ k
 c : CellsAt w w.heap.size a n (u8c l)
 z : a = none → n = 0
 b : ∀ x ∈ l, x < 256
theorem Bs.at {w w' : World} {a : Option Addr} {n k : Nat} {l : List Nat} (h : Bs w a n k l) (hb : Below w.heap.size w w') : Bs w' a n k l := ⟨h.len, h.cap, h.c.at hb, h.z, h.b⟩
def GaveEn (rows enc : Int) (w : World) (e : Ending) (w' : World) : Prop :=
 ∃ (p : Pg) (a : Option Addr) (n k : Nat) (b : List Nat), e = .returned (.tuple #[pgV p, .slice a n k]) ∧ Hid (p.rows = rows ∧ p.enc = enc ∧ 0 ≤ p.cells ∧ p.cells ≤ 4000 ∧ 0 ≤ p.rl ∧ p.rl ≤ 1000000 ∧ 0 ≤ p.dl ∧ p.dl ≤ 1000000 ∧ 0 ≤ p.vl ∧ p.vl ≤ 1000000 ∧ p.crc < 4294967296) ∧ n ≤ 1000000 ∧ Hid (Bs w' a n k b) ∧ Hid (∀ a', a = some a' → w.heap.size ≤ a'.block) ∧ Hid (Below w.heap.size w w')
theorem dEncB_le4 (k : Nat) (l : List Vl) (hs : ∀ v ∈ l, v.2.size ≤ 100) (hn : l.length ≤ 4000) : (dEncB k l).length ≤ 440000 := by
 unfold dEncB
 split
 · unfold plainB; rw [if_pos rfl, packed1_length, List.length_map]; omega
 · split
   · have h1 := dIntsB_bound (sizesI l)
     have h2 := textsB_le l hs
     rw [sizesI_length] at h1
     rw [List.length_append]; omega
   · have h1 := dIntsB_bound (numsI l)
     rw [numsI_length] at h1
     omega
theorem plainB_le4 (k : Nat) (l : List Vl) (hs : ∀ v ∈ l, v.2.size ≤ 100) (hn : l.length ≤ 4000) : (plainB k l).length ≤ 440000 := by
 unfold plainB
 split
 · rw [packed1_length, List.length_map]; omega
 · have := encs_le k l hs; omega
theorem GaveB.bs {w w' : World} {l : List Nat} {e : Ending} (h : GaveB w l e w') (hl : ∀ x ∈ l, x < 256) : ∃ a n k, e = .returned (.slice a n k) ∧ Hid (l.length = n) ∧ Hid (Bs w' a n k l) ∧ Hid (Below w.heap.size w w') := by
 obtain ⟨a, k, rfl, hc, hz, hr, hb⟩ := h
 exact ⟨a, _, k, rfl, Lib.hid rfl, Lib.hid ⟨rfl, hr.cap, hc, hz, hl⟩, Lib.hid hb⟩
theorem GaveC.bs {w w' : World} {l : List Nat} {e : Ending} (h : GaveC w l e w') (hl : ∀ x ∈ l, x < 256) : ∃ a n k, e = .returned (.slice a n k) ∧ Hid (l.length = n) ∧ Hid (Bs w' a n k l) ∧ Hid (Below w.heap.size w w') := by
 obtain ⟨a, n, k, rfl, hn, hk, hc, hz, hb⟩ := h
 exact ⟨a, n, k, rfl, hn, Lib.hid ⟨hn.out, hk, hc, hz, hl⟩, Lib.hid hb⟩
structure PE (lf : Lf) (c : Cd) (g : Nat) (w y : World) : Prop where
 l : y.heap[g]? = some (.cells #[.int .i64 (lf.field : Nat), .int .i64 (lf.r : Nat), .int .i64 (lf.d : Nat), .int .i64 (lf.kind : Nat)] 30)
 c : y.heap[g + 1]? = some (.cells #[.slice c.aoR c.N c.cR, .slice c.aoD c.N c.cD, .slice c.aoV c.M c.cV] 33)
 r : y.heap[g + 2]? = some (.cells #[.int .i64 0, .int .i64 0, .int .i64 0, .int .i64 0, .int .i64 0, .int .i64 0, .int .u32 0] 27)
 b : Below w.heap.size w y
 hg : w.heap.size = g
section
variable {lf : Lf} {c : Cd} {g : Nat} {w y z : World}
theorem PE.lt (h : PE lf c g w y) : g + 2 < y.heap.size := (Array.getElem?_eq_some_iff.1 h.r).1
theorem PE.keep (h : PE lf c g w y) (hb : Below y.heap.size y z) : PE lf c g w z := by
 have h1 := h.lt
 exact ⟨(hb.block g (by omega)).trans h.l, (hb.block (g + 1) (by omega)).trans h.c, (hb.block (g + 2) (by omega)).trans h.r, bmore h.b hb, h.hg⟩
end
set_option maxHeartbeats 8000000 in
set_option maxRecDepth 100000 in
theorem rencode18_any (lf : Lf) (c : Cd) (rows enc : Int) (aoW : Option Addr) (m capW : Nat) (ws : List Vl) (w : World) (hlf : LfOk lf) (hcol : ColIn w c) (he1 : 0 ≤ enc) (he2 : enc ≤ 2) (hm : ws.length = m) (hm2 : m ≤ 256) (hw : CellsAt w w.heap.size aoW (m * 2) (vlc ws)) :
 Calls Tryz.prog 6 #[lfA lf, .agg #[.slice c.aoR c.N c.cR, .slice c.aoD c.N c.cD, .slice c.aoV c.M c.cV], .int .i64 rows, .int .i64 enc, .slice aoW m capW] w (GaveEn rows enc w) := by
 obtain ⟨w4, hw4⟩ : ∃ x, x = ((w.alloc (.cells #[.int .i64 (lf.field : Nat), .int .i64 (lf.r : Nat), .int .i64 (lf.d : Nat), .int .i64 (lf.kind : Nat)] 30)).alloc (.cells #[.slice c.aoR c.N c.cR, .slice c.aoD c.N c.cD, .slice c.aoV c.M c.cV] 33)).alloc (.cells #[.int .i64 0, .int .i64 0, .int .i64 0, .int .i64 0, .int .i64 0, .int .i64 0, .int .u32 0] 27) := ⟨_, rfl⟩
 obtain ⟨g, hg⟩ : ∃ g, g = w.heap.size := ⟨_, rfl⟩
 have hD : PE lf c g w w4 := by
  subst hw4
  refine ⟨?_, ?_, ?_, balloc (balloc (balloc (Below.refl _ _) _) _) _, hg.symm⟩
  · rw [heap_alloc_old _ _ (by simp; omega), heap_alloc_old _ _ (by simp; omega), hg]; exact heap_alloc_new w _
  · rw [heap_alloc_old _ _ (by simp; omega), hg]
    have h := heap_alloc_new (w.alloc (.cells #[.int .i64 (lf.field : Nat), .int .i64 (lf.r : Nat), .int .i64 (lf.d : Nat), .int .i64 (lf.kind : Nat)] 30)) (.cells #[.slice c.aoR c.N c.cR, .slice c.aoD c.N c.cD, .slice c.aoV c.M c.cV] 33)
    simpa using h
  · rw [hg]
    have h := heap_alloc_new ((w.alloc (.cells #[.int .i64 (lf.field : Nat), .int .i64 (lf.r : Nat), .int .i64 (lf.d : Nat), .int .i64 (lf.kind : Nat)] 30)).alloc (.cells #[.slice c.aoR c.N c.cR, .slice c.aoD c.N c.cD, .slice c.aoV c.M c.cV] 33)) (.cells #[.int .i64 0, .int .i64 0, .int .i64 0, .int .i64 0, .int .i64 0, .int .i64 0, .int .u32 0] 27)
    simpa using h
 have HD := Lib.hid hD; have Hcol := Lib.hid hcol; have Hm := Lib.hid hm; have Hw := Lib.hid hw; have Hg := Lib.hid hg
 obtain ⟨hr6, hd6, hk1, hk4⟩ := hlf
 have hN4 := hcol.n
 have hM4 : c.M ≤ 4000 := Nat.le_trans hcol.ok.le hcol.n
 have Hbr : Hid (∀ x ∈ c.R, x < 18446744073709551616) := Lib.hid (fun x hx => by have := hcol.ok.bR x hx; omega)
 have Hbd : Hid (∀ x ∈ c.D, x < 18446744073709551616) := Lib.hid (fun x hx => by have := hcol.ok.bD x hx; omega)
 have Hbs : Hid (∀ v ∈ c.V, v.2.size ≤ 100) := Lib.hid (fun x hx => by have := (hcol.ok.bV x hx).2; omega)
 have Hbo : Hid (∀ v ∈ c.V, okV v) := Lib.hid (fun x hx => (hcol.ok.bV x hx).1)
 have hwr : bitLen lf.r ≤ 16 := bitLen_le_of_lt _ 16 (by omega)
 have hwd : bitLen lf.d ≤ 16 := bitLen_le_of_lt _ 16 (by omega)
 clear hcol hm hw hD
 unfold lfA
 go_enter Tryz.func6, Tryz.ntmps6
 go_upto_region 1 with fail
 rw [← hw4, ← hg, show g + 1 + 1 = g + 2 from rfl]
 clear hw4 hg
 go_upto_region 1 with fail
 go_cut [12] (fun v wy => ∃ (a : Option Addr) (n k : Nat) (l : List Nat), v = .slice a n k ∧ n ≤ 104000 ∧ Hid (Bs wy a n k l) ∧ Hid (PE lf c g w wy))
 case first =>
  obtain ⟨l0, l1, l2, l3⟩ := four_lf HD.out.l
  obtain ⟨c0, c1, c2, -⟩ := three_cellsT HD.out.c
  have pl : ∀ w', Grows w4.drew w' → w'.cell? ⟨g, 1, none⟩ = some (.int .i64 (lf.r : Nat)) := fun w' hg => Grows.cell (Grows.toDrew hg) l1
  have pc : ∀ w', Grows w4.drew w' → w'.cell? ⟨g + 1, 0, none⟩ = some (.slice c.aoR c.N c.cR) := fun w' hg => Grows.cell (Grows.toDrew hg) c0
  have huw : IntKind.u64.wrap (lf.r : Int) = (lf.r : Int) := by simp [IntKind.wrap, IntKind.bits, IntKind.signed]; omega
  have HE := Lib.hid (rlevE_any c.aoR c.N c.cR (bitLen lf.r) c.R w4.drew Hcol.out.ok.lR (by omega) (Hcol.out.r.at (Below.drew HD.out.b)) Hbr.out hwr)
  have hlt : ∀ x ∈ levAny c.R (bitLen lf.r : Nat), x < 256 := levAny_lt _ _ (by rw [Hcol.out.ok.lR]; omega)
  have hle : (levAny c.R (bitLen lf.r : Nat)).length ≤ 104000 := by have := levAny_le c.R (bitLen lf.r) hwr; rw [Hcol.out.ok.lR] at this; omega
  have Hlt := Lib.hid hlt; have Hle := Lib.hid hle
  clear l0 l1 l2 l3 c0 c1 c2 hlt hle
  refine wp_region_linR Grows ⟨Grows.refl, Grows.trans⟩ (.take 0 (.take 1 (.take 2 (.take 3 (.take 4 (.take 5 (.one 6 (.take 7 (.done))))))))) [] (by kernel_rfl) (by kernel_rfl) (fun d _ _ _ _ h => by cases d <;> exact h) ?_
  iterate 5 (first
   | (refine wpLinR_take (v := ?_) rfl rfl (fun w' hw' => ?_) (fun K hK => ?_); rotate_left; (go_simp; rfl); (go_simp; refine hK _ ?_; clear hK K)))
  refine wpLinR_take (v := .int .i64 (bitLen lf.r : Nat)) rfl rfl (fun w' hw' => ?_) (fun K hK => ?_)
  · go_simp
    refine (rwidth_n lf.r _ (by omega)).mono ?_
    rintro e x4 ⟨rfl, rfl⟩
    exact ⟨rfl, rfl⟩
  go_simp; refine hK _ ?_; clear hK K pl pc
  refine wpLinR_one rfl (fun K hK => ?_)
  go_simp
  refine HE.out.mono ?_
  intro e y hgy
  obtain ⟨a, n, k, rfl, Hn, HBs, HBl⟩ := hgy.bs Hlt.out
  have hn : n ≤ 104000 := by rw [← Hn.out]; exact Hle.out
  have HDy := Lib.hid (HD.out.keep ((Below.drew (Below.refl _ _)).trans HBl.out))
  refine hK _ _ (.inr HBl.out) ?_; clear hK K hgy HE
  iterate 1 (first
   | (refine wpLinR_take (v := ?_) rfl rfl (fun w' hw' => ?_) (fun K hK => ?_); rotate_left; (go_simp; rfl); (go_simp; refine hK _ ?_; clear hK K)))
  refine wpLinR_nil ?_
  go_wp2
  go_meet
  exact ⟨a, n, k, _, rfl, hn, HBs, HDy⟩
 case rest =>
 clear HD
 obtain ⟨aR, nR, kR, bR, rfl, hnR, HBR, HD⟩ := hcut
 obtain ⟨x1, hxx⟩ : ∃ z, z = wc := ⟨_, rfl⟩
 subst hxx
 go_upto_region 2 with fail
 go_cut [13] (fun v wy => ∃ (a : Option Addr) (n k : Nat) (l : List Nat), v = .slice a n k ∧ n ≤ 104000 ∧ Hid (Bs wy a n k l) ∧ Hid (Bs wy aR nR kR bR) ∧ Hid (PE lf c g w wy))
 case first =>
  obtain ⟨l0, l1, l2, l3⟩ := four_lf HD.out.l
  obtain ⟨c0, c1, c2, -⟩ := three_cellsT HD.out.c
  have pl : ∀ w', Grows x1.drew w' → w'.cell? ⟨g, 2, none⟩ = some (.int .i64 (lf.d : Nat)) := fun w' hg => Grows.cell (Grows.toDrew hg) l2
  have pc : ∀ w', Grows x1.drew w' → w'.cell? ⟨g + 1, 1, none⟩ = some (.slice c.aoD c.N c.cD) := fun w' hg => Grows.cell (Grows.toDrew hg) c1
  have huw : IntKind.u64.wrap (lf.d : Int) = (lf.d : Int) := by simp [IntKind.wrap, IntKind.bits, IntKind.signed]; omega
  have HE := Lib.hid (rlevE_any c.aoD c.N c.cD (bitLen lf.d) c.D x1.drew Hcol.out.ok.lD (by omega) (Hcol.out.d.at (Below.drew HD.out.b)) Hbd.out hwd)
  have hlt : ∀ x ∈ levAny c.D (bitLen lf.d : Nat), x < 256 := levAny_lt _ _ (by rw [Hcol.out.ok.lD]; omega)
  have hle : (levAny c.D (bitLen lf.d : Nat)).length ≤ 104000 := by have := levAny_le c.D (bitLen lf.d) hwd; rw [Hcol.out.ok.lD] at this; omega
  have Hlt := Lib.hid hlt; have Hle := Lib.hid hle
  clear l0 l1 l2 l3 c0 c1 c2 hlt hle
  refine wp_region_linR Grows ⟨Grows.refl, Grows.trans⟩ (.take 0 (.take 1 (.take 2 (.take 3 (.take 4 (.take 5 (.one 6 (.take 7 (.done))))))))) [] (by kernel_rfl) (by kernel_rfl) (fun d _ _ _ _ h => by cases d <;> exact h) ?_
  iterate 5 (first
   | (refine wpLinR_take (v := ?_) rfl rfl (fun w' hw' => ?_) (fun K hK => ?_); rotate_left; (go_simp; rfl); (go_simp; refine hK _ ?_; clear hK K)))
  refine wpLinR_take (v := .int .i64 (bitLen lf.d : Nat)) rfl rfl (fun w' hw' => ?_) (fun K hK => ?_)
  · go_simp
    refine (rwidth_n lf.d _ (by omega)).mono ?_
    rintro e x4 ⟨rfl, rfl⟩
    exact ⟨rfl, rfl⟩
  go_simp; refine hK _ ?_; clear hK K pl pc
  refine wpLinR_one rfl (fun K hK => ?_)
  go_simp
  refine HE.out.mono ?_
  intro e y hgy
  obtain ⟨a, n, k, rfl, Hn, HBs, HBl⟩ := hgy.bs Hlt.out
  have hn : n ≤ 104000 := by rw [← Hn.out]; exact Hle.out
  have HDy := Lib.hid (HD.out.keep ((Below.drew (Below.refl _ _)).trans HBl.out))
  have HBR2 := Lib.hid (HBR.out.at ((Below.drew (Below.refl _ _)).trans HBl.out))
  refine hK _ _ (.inr HBl.out) ?_; clear hK K hgy HE
  iterate 1 (first
   | (refine wpLinR_take (v := ?_) rfl rfl (fun w' hw' => ?_) (fun K hK => ?_); rotate_left; (go_simp; rfl); (go_simp; refine hK _ ?_; clear hK K)))
  refine wpLinR_nil ?_
  go_wp2
  go_meet
  exact ⟨a, n, k, _, rfl, hn, HBs, HBR2, HDy⟩
 case rest =>
 clear HD HBR
 obtain ⟨aD, nD, kD, bD, rfl, hnD, HBD, HBR, HD⟩ := hcut
 obtain ⟨x2, hxx⟩ : ∃ z, z = wc := ⟨_, rfl⟩
 subst hxx
 obtain ⟨l0, l1, l2, l3⟩ := four_lf HD.out.l
 obtain ⟨c0, c1, c2, -⟩ := three_cellsT HD.out.c
 go_upto_block 0 with fail
 go_cut [14] (fun v wy => ∃ (a : Option Addr) (n k : Nat) (l : List Nat), v = .slice a n k ∧ n ≤ 440000 ∧ Hid (Bs wy a n k l) ∧ Hid (Bs wy aR nR kR bR) ∧ Hid (Bs wy aD nD kD bD) ∧ Hid (PE lf c g w wy))
 case first =>
  have Hlv := Lib.hid Hcol.out.ok.lV
  have Hcv := Lib.hid (Hcol.out.v.at HD.out.b)
  have hen : enc = 0 ∨ enc = 1 ∨ enc = 2 := by omega
  rcases hen with h0 | h0 | h0
  · have fe0 : (enc == 0) = true := by rw [h0]; rfl
    clear h0
    have HE := Lib.hid (rplainE_any lf.kind c.aoV c.M c.cV c.V x2 hk1 hk4 Hlv.out hM4 Hbs.out Hcv.out)
    go_wp2_with fail
    refine HE.out.mono ?_
    rintro e y ⟨v, rfl, hfr⟩
    obtain ⟨a, n, k, he, Hn, HBs, HBl⟩ := (GaveC.of_fresh hfr).bs (plainB_lt' lf.kind c.V)
    obtain rfl := Ending.returned.inj he
    have hn : n ≤ 440000 := by rw [← Hn.out]; exact plainB_le4 lf.kind c.V Hbs.out (by rw [Hlv.out]; exact hM4)
    have HR2 := Lib.hid (HBR.out.at HBl.out); have HD2 := Lib.hid (HBD.out.at HBl.out); have HP2 := Lib.hid (HD.out.keep HBl.out)
    clear hfr he HE
    go_wp2
    go_meet
    exact ⟨a, n, k, _, rfl, hn, HBs, HR2, HD2, HP2⟩
  · have fe0 : (enc == 0) = false := by rw [h0]; rfl
    have fe1 : (enc == 1) = true := by rw [h0]; rfl
    clear h0
    have HE := Lib.hid (rdencode_any lf.kind c.aoV c.M c.cV c.V x2 hk1 hk4 Hlv.out hM4 Hbs.out Hbo.out Hcv.out)
    go_wp2_with fail
    refine HE.out.mono ?_
    intro e y hgy
    obtain ⟨a, n, k, rfl, Hn, HBs, HBl⟩ := hgy.bs (dEncB_lt lf.kind c.V Hbs.out Hbo.out)
    have hn : n ≤ 440000 := by rw [← Hn.out]; exact dEncB_le4 lf.kind c.V Hbs.out (by rw [Hlv.out]; exact hM4)
    have HR2 := Lib.hid (HBR.out.at HBl.out); have HD2 := Lib.hid (HBD.out.at HBl.out); have HP2 := Lib.hid (HD.out.keep HBl.out)
    clear hgy HE
    go_wp2
    go_meet
    exact ⟨a, n, k, _, rfl, hn, HBs, HR2, HD2, HP2⟩
  · have fe0 : (enc == 0) = false := by rw [h0]; rfl
    have fe1 : (enc == 1) = false := by rw [h0]; rfl
    clear h0
    have HA := Lib.hid (at13_any c.aoV c.M c.cV c.V aoW m capW ws x2 Hlv.out (by omega) Hcv.out Hm.out (by omega) (Hw.out.at HD.out.b))
    go_wp2_with fail
    refine HA.out.mono ?_
    rintro e y ⟨aA, kA, lA, rfl, HlA, HbA, hcA, HkA, hby⟩
    have HE := Lib.hid (rdEnc_any aA c.M kA m lA y hm2 HlA.out (by omega) hcA (fun x hx => by have := HbA.out x hx; omega))
    have HBy := Lib.hid hby
    clear hcA hby HA
    go_wp2_with fail
    refine HE.out.mono ?_
    intro e z hgy
    obtain ⟨a, n, k, rfl, Hn, HBs, HBl⟩ := hgy.bs (levAny_lt _ _ (by rw [HlA.out]; omega))
    have hn : n ≤ 440000 := by
     have := levAny_le lA (dWide m) (by have := dWide_le m hm2; omega)
     rw [HlA.out] at this
     rw [← Hn.out]; omega
    have hb2 := bmore HBy.out HBl.out
    have HR2 := Lib.hid (HBR.out.at hb2); have HD2 := Lib.hid (HBD.out.at hb2); have HP2 := Lib.hid (HD.out.keep hb2)
    clear hgy HE hb2
    go_wp2
    go_meet
    exact ⟨a, n, k, _, rfl, hn, HBs, HR2, HD2, HP2⟩
 case rest =>
 clear HD HBR HBD l0 l1 l2 l3 c0 c1 c2
 obtain ⟨aV, nV, kV, bV, rfl, hnV, HBV, HBR, HBD, HD⟩ := hcut
 obtain ⟨x3, hxx⟩ : ∃ z, z = wc := ⟨_, rfl⟩
 subst hxx
 obtain ⟨xe, hxe⟩ : ∃ z, z = x3.alloc (.cells #[] 5) := ⟨_, rfl⟩
 have hbe : Below x3.heap.size x3 xe := by rw [hxe]; exact balloc (Below.refl _ _) _
 have ho0 : xe.ownsRow x3.heap.size 5 1 (.slice (some ⟨x3.heap.size, 0, none⟩) 0 0) 0 [] := by rw [hxe]; exact own_emptyP x3 _ _
 have hR1 := HBR.out.at hbe
 go_wp2_with (at_builtin; rw [← hxe]; refine wpList_append_loose1 sl_u8 rfl (.tmp 52) (.tmp 53) rfl rfl ho0 rfl hR1.c hR1.z (fun _ _ => rfl) (by unfold maxLen; omega) (by omega) hbe.size ?_)
 intro v1 y1 ho1 hg1
 rw [← hxe] at hg1
 rw [range_u8c _ _ hR1.len] at ho1
 have hb1 := hbe.grown hg1 hbe.size (fun k hk => (ho0.lt k hk).1)
 obtain ⟨a1, k1, rfl, -, -⟩ := own_u8 ho1
 have hD1 := HBD.out.at hb1
 have hs1 : x3.heap.size ≤ y1.heap.size := hb1.size
 clear hxe hR1
 go_wp2_with (at_builtin; refine wpList_append_loose1 sl_u8 rfl (.tmp 54) (.tmp 55) rfl rfl ho1 rfl hD1.c hD1.z (fun _ _ => rfl) (by unfold maxLen; omega) (by omega) hs1 ?_)
 intro v2 y2 ho2 hg2
 rw [range_u8c _ _ hD1.len] at ho2
 have ho2 : y2.ownsRow x3.heap.size 5 1 v2 (nR + nD) (u8v (bR ++ bD)) := by
  simp only [u8v, List.map_append, List.nil_append, Nat.zero_add] at ho2 ⊢; exact ho2
 have hb2 := hb1.grown hg2 hs1 (fun k hk => (ho1.lt k hk).1)
 obtain ⟨a2, k2, rfl, -, -⟩ := own_u8 ho2
 have hV2 := HBV.out.at hb2
 have hs2 : x3.heap.size ≤ y2.heap.size := hb2.size
 clear hg1 ho0 hD1
 go_wp2_with (at_builtin; refine wpList_append_loose1 sl_u8 rfl (.tmp 56) (.tmp 57) rfl rfl ho2 rfl hV2.c hV2.z (fun _ _ => rfl) (by unfold maxLen; omega) (by omega) hs2 ?_)
 intro v3 y3 ho3 hg3
 rw [range_u8c _ _ hV2.len] at ho3
 have hb3 := hb2.grown hg3 hs2 (fun k hk => (ho2.lt k hk).1)
 have ho3 : y3.ownsRow x3.heap.size 5 1 v3 (nR + nD + nV) (u8v (bR ++ bD ++ bV)) := by
  simp only [u8v, List.map_append, List.nil_append, Nat.zero_add] at ho3 ⊢; exact ho3
 obtain ⟨n3, hn3⟩ : ∃ n3, n3 = nR + nD + nV := ⟨_, rfl⟩
 rw [← hn3] at ho3
 obtain ⟨a3, k3, rfl, hl3, hc3, hz3⟩ := own_u8c ho3
 have hk3 := own_capG ho3
 have hgx : g + 2 < x3.heap.size := HD.out.lt
 have ha3 : ∀ a, a3 = some a → g + 2 < a.block := fun a ha => by
  subst ha
  rcases ho3.2 with ⟨h1, -⟩ | ⟨b', cap', cur, h1, h2, -⟩
  · cases h1
  · simp only [Value.slice.injEq, Option.some.injEq] at h1
    rw [h1.1]; show g + 2 < b'; omega
 have hn1 : n3 ≤ 1000000 := by omega
 have HB3 : Hid (Bs y3 a3 n3 k3 (bR ++ bD ++ bV)) := Lib.hid ⟨hl3, hk3, hc3, fun h => (hz3 h).1, fun x hx => by
  rcases List.mem_append.1 hx with hx | hx
  · rcases List.mem_append.1 hx with hx | hx
    · exact HBR.out.b x hx
    · exact HBD.out.b x hx
  · exact HBV.out.b x hx⟩
 have HD3 := Lib.hid (HD.out.keep hb3)
 clear hg2 hg3 ho1 ho2 ho3 hV2 hb1 hb2 hb3 hbe hl3 hc3 hz3 hn3 HD HBR HBD HBV hs1 hs2
 obtain ⟨c0, c1, c2, -⟩ := three_cellsT HD3.out.c
 obtain ⟨t0, t1, t2, t3, t4, t5, t6⟩ := seven_cells HD3.out.r
 have f0 := seven_frz HD3.out.r 0; have f1 := seven_frz HD3.out.r 1; have f2 := seven_frz HD3.out.r 2; have f3 := seven_frz HD3.out.r 3; have f4 := seven_frz HD3.out.r 4; have f5 := seven_frz HD3.out.r 5; have f6 := seven_frz HD3.out.r 6
 obtain ⟨bb, hbb⟩ : ∃ bb, bb = bR ++ bD ++ bV := ⟨_, rfl⟩
 rw [← hbb] at HB3
 obtain ⟨cs, hcs⟩ : ∃ cs, cs = csum bb := ⟨_, rfl⟩
 have hsum : ∀ w', But (g + 2) y3.drew w' → Calls Tryz.prog 8 #[.slice a3 n3 k3] w' fun e w'' => e = .returned (.int .u32 (cs : Nat)) ∧ w' = w'' := fun w' hg => by
  rw [hcs]
  refine rsum_n a3 n3 k3 bb w' HB3.out.len (by omega) HB3.out.b (fun i hi => ?_)
  obtain ⟨b', o', he, hbl, hcc⟩ := HB3.out.c i hi
  exact ⟨b', o', he, Nat.lt_of_lt_of_le hbl hg.size, But.cellNe hg (by have := ha3 _ he; show b' ≠ g + 2; simp only at this; omega) hcc⟩
 have Hsum := Lib.hid hsum
 have pc : ∀ w', But (g + 2) y3.drew w' → w'.cell? ⟨g + 1, 0, none⟩ = some (.slice c.aoR c.N c.cR) := fun w' hg => But.cellNe hg (by show g + 1 ≠ g + 2; omega) c0
 have hfin := seven_setT HD3.out.r (.int .i64 rows) (.int .i64 (c.N : Nat)) (.int .i64 enc) (.int .i64 (nR : Nat)) (.int .i64 (nD : Nat)) (.int .i64 (nV : Nat)) (.int .u32 (cs : Nat))
 have hbut := (((((((But.refl (g + 2) y3).setCell 0 (.int .i64 rows)).setCell 1 (.int .i64 (c.N : Nat))).setCell 2 (.int .i64 enc)).setCell 3 (.int .i64 (nR : Nat))).setCell 4 (.int .i64 (nD : Nat))).setCell 5 (.int .i64 (nV : Nat))).setCell 6 (.int .u32 (cs : Nat))
 obtain ⟨yf, hyf⟩ : ∃ yf, yf = ((((((y3.setCell ⟨g + 2, 0, none⟩ (.int .i64 rows)).setCell ⟨g + 2, 1, none⟩ (.int .i64 (c.N : Nat))).setCell ⟨g + 2, 2, none⟩ (.int .i64 enc)).setCell ⟨g + 2, 3, none⟩ (.int .i64 (nR : Nat))).setCell ⟨g + 2, 4, none⟩ (.int .i64 (nD : Nat))).setCell ⟨g + 2, 5, none⟩ (.int .i64 (nV : Nat))).setCell ⟨g + 2, 6, none⟩ (.int .u32 (cs : Nat)) := ⟨_, rfl⟩
 rw [← hyf] at hfin hbut
 obtain ⟨q0, q1, q2, q3, q4, q5, q6⟩ := seven_cells hfin
 have HBut := Lib.hid hbut
 have Hyf := Lib.hid hyf
 clear hyf
 have hcs32 : cs < 4294967296 := by rw [hcs]; exact csum_lt _ HB3.out.b
 have Hfin := Lib.hid hfin
 clear hsum hbb c1 c2 hfin hbut hcs
 go_upto_region 11 with fail
 refine wp_region_linR (But (g + 2)) (But.pre (g + 2)) (.take 0 (.take 1 (.take 2 (.take 3 (.take 4 (.take 5 (.take 6 (.take 7 (.take 8 (.take 9 (.take 10 (.take 11 (.take 12 (.take 13 (.take 14 (.one 15 (.take 16 (.done)))))))))))))))))) [] (by kernel_rfl) (by kernel_rfl) (fun d _ _ _ _ h => by cases d <;> exact h) ?_
 iterate 12 (first
  | (refine wpLinR_take (v := ?_) rfl rfl (fun w' hw' => ?_) (fun K hK => ?_); rotate_left; (go_simp; rfl); (go_simp; refine hK _ ?_; clear hK K)))
 refine wpLinR_take (v := .int .u32 (cs : Nat)) rfl rfl (fun w' hw' => ?_) (fun K hK => ?_)
 · go_simp
   refine (Hsum.out w' hw').mono ?_
   rintro e x4 ⟨rfl, rfl⟩
   exact ⟨rfl, rfl⟩
 go_simp; refine hK _ ?_; clear hK K pc
 iterate 2 (first
  | (refine wpLinR_take (v := ?_) rfl rfl (fun w' hw' => ?_) (fun K hK => ?_); rotate_left; (go_simp; rfl); (go_simp; refine hK _ ?_; clear hK K)))
 refine wpLinR_one rfl (fun K hK => ?_)
 go_simp
 rw [← Hyf.out]
 refine hK _ _ (.inr ⟨HBut.out.os, HBut.out.tape, HBut.out.output, HBut.out.size, HBut.out.block⟩) ?_; clear hK K t0 t1 t2 t3 t4 t5 t6 f0 f1 f2 f3 f4 f5 f6
 refine wpLinR_take (v := ?_) rfl rfl (fun w' hw' => ?_) (fun K hK => ?_)
 rotate_left
 · go_simp; rfl
 go_simp; refine hK _ ?_; clear hK K
 refine wpLinR_nil ?_
 go_wp2
 have hbw : Below w.heap.size w yf := But.below HD3.out.b HBut.out (by have := HD3.out.hg; omega) HD3.out.b.size
 have hbs : Bs yf a3 n3 k3 bb := ⟨HB3.out.len, HB3.out.cap, fun i hi => by
  obtain ⟨b', o', he, hbl, hcc⟩ := HB3.out.c i hi
  exact ⟨b', o', he, Nat.lt_of_lt_of_le hbl HBut.out.size, But.cellNe HBut.out (by have := ha3 _ he; show b' ≠ g + 2; simp only at this; omega) hcc⟩, HB3.out.z, HB3.out.b⟩
 exact bodyPost_ret (v := .tuple #[.agg #[.int .i64 rows, .int .i64 (c.N : Nat), .int .i64 enc, .int .i64 (nR : Nat), .int .i64 (nD : Nat), .int .i64 (nV : Nat), .int .u32 (cs : Nat)], .slice a3 n3 k3]) (by simp [results, Tryz.results6, go_sem, q0, q1, q2, q3, q4, q5, q6]) rfl
  ⟨⟨rows, (c.N : Nat), enc, (nR : Nat), (nD : Nat), (nV : Nat), cs⟩, a3, n3, k3, bb, rfl, Lib.hid ⟨rfl, rfl, by show (0 : Int) ≤ (c.N : Int); omega, by show (c.N : Int) ≤ 4000; omega, by show (0 : Int) ≤ (nR : Int); omega, by show (nR : Int) ≤ 1000000; omega, by show (0 : Int) ≤ (nD : Int); omega, by show (nD : Int) ≤ 1000000; omega, by show (0 : Int) ≤ (nV : Int); omega, by show (nV : Int) ≤ 1000000; omega, hcs32⟩, hn1, Lib.hid (hbs.at (Below.drew (Below.refl _ _))), Lib.hid (fun a' ha => by have h1 := ha3 a' ha; have h2 := HD3.out.hg; omega), Lib.hid (Below.drew hbw)⟩
end Go.Proofs.YtebmbkbnngeabaaGreat
