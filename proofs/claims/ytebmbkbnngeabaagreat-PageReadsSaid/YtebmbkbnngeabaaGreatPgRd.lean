/- Chapter 18's law: the walk over PageReads. -/
import Derived.Test.YtebmbkbnngeabaaGreatPgPa
import Derived.Test.YtebmbkbnngeabaaGreatPgDd
set_option linter.unusedSimpArgs false
namespace Go.Proofs.YtebmbkbnngeabaaGreat
open Go.RowKit
set_option linter.unusedVariables false
section
variable {P : Program} {w : World} {t e : TypeId} {size bytes : Nat} {z : Value} {ops : Array Oper} {o : Oper} {a : Act} {K : Act → World → Prop} {Q : Exit → Act → World → Prop}
theorem step_append_loose1 {E : Prop} (T : SlT P t e 1 bytes z) (hgd : o.guard = none) (s x : Operand) (ho : o.op = .call { callee := .builtin .append, args := #[s, x], argTypes := #[t, t] })
 {base : Nat} {v : Value} {n : Nat} {xs : List Value} (hs : a.eval s = v) (hown : w.ownsRow base e 1 v n xs) {B : Nat} {ax : Option Addr} {m c : Nat} {f : Nat → Value} (hx : a.eval x = .slice ax m c)
 (hc : CellsAt w B ax m f) (hax : ax = none → m = 0) (h1 : ∀ i, i < m → (f i).oneCell' = true) (h63 : n + m ≤ maxLen) (hb : (n + m) * bytes ≤ 140737488355328) (hbase : base ≤ w.heap.size)
 (h : ∀ v' w', w'.ownsRow base e 1 v' (n + m) (xs ++ (List.range m).map f) → w.grownBy w' v.ownBlock → K (a.put o.dst v') w') :
 if Region.wanted o (yielded ops a.tmps) = true then Oper.wp P o a w K Q else E := by
 have hw : Region.wanted o (yielded ops a.tmps) = true := by simp [Region.wanted, hgd]
 rw [if_pos hw]
 obtain ⟨v', w', hrun, r1, r2⟩ := run_append_loose T hown (m := m) (by rwa [Nat.mul_one]) hax (by rwa [Nat.mul_one]) h63 hb hbase o.type (c := c)
 unfold Oper.wp
 simp [execOp, ho, resolve, invoke, builtin, hs, hx, hrun, Result.andThen]
 exact h v' w' (by rwa [Nat.mul_one] at r1) r2
end
theorem ColVLo.mono {B B' : Nat} {c : ColV} (h : ColVLo B c) (hB : B' ≤ B) : ColVLo B' c := ⟨fun a ha => Nat.le_trans hB (h.1 a ha), fun a ha => Nat.le_trans hB (h.2.1 a ha), fun a ha => Nat.le_trans hB (h.2.2 a ha)⟩
theorem ColAt.but {w w' : World} {g : Nat} {c : ColV} {R D : List Int} {V : List Vl} (h : ColAt w c R D V) (hb : But g w w') (hlo : ColVLo (g + 1) c) : ColAt w' c R D V := ⟨h.lR, h.lD, h.lV, h.r.apart hb hlo.1, h.d.apart hb hlo.2.1, h.v.apart hb hlo.2.2⟩
theorem vlc_take (l : List Vl) (k j : Nat) (h : j < k * 2) : vlc (l.take k) j = vlc l j := by
 have hi : j / 2 < k := by omega
 have e : (l.take k).getD (j / 2) vl0 = l.getD (j / 2) vl0 := by
  simp only [List.getD_eq_getElem?_getD, List.getElem?_take, hi, if_true]
 unfold vlc vN vS
 rw [e]
def pgC (p : Pg) : Array Value := #[.int .i64 p.rows, .int .i64 p.cells, .int .i64 p.enc, .int .i64 p.rl, .int .i64 p.dl, .int .i64 p.vl, .int .u32 (p.crc : Nat)]
def PgAt (w : World) (g : Nat) (p : Pg) : Prop := w.heap[g]? = some (.cells (pgC p) 27)
theorem PgAt.lt {w : World} {g : Nat} {p : Pg} (h : PgAt w g p) : g < w.heap.size := (Array.getElem?_eq_some_iff.1 h).1
theorem PgAt.keep {w w' : World} {g : Nat} {p : Pg} (h : PgAt w g p) (hb : w'.heap[g]? = w.heap[g]?) : PgAt w' g p := hb.trans h
theorem PgAt.cells {w : World} {g : Nat} {p : Pg} (h : PgAt w g p) : w.cell? ⟨g, 0, none⟩ = some (.int .i64 p.rows) ∧ w.cell? ⟨g, 1, none⟩ = some (.int .i64 p.cells) ∧ w.cell? ⟨g, 2, none⟩ = some (.int .i64 p.enc) ∧ w.cell? ⟨g, 3, none⟩ = some (.int .i64 p.rl) ∧
 w.cell? ⟨g, 4, none⟩ = some (.int .i64 p.dl) ∧ w.cell? ⟨g, 5, none⟩ = some (.int .i64 p.vl) ∧ w.cell? ⟨g, 6, none⟩ = some (.int .u32 (p.crc : Nat)) := seven_cells h
theorem PgAt.frz {w : World} {g : Nat} {p : Pg} (h : PgAt w g p) (j : Nat) : w.frozen? ⟨g, j, none⟩ = false := seven_frz h j
theorem PgAt.store {w : World} {g : Nat} {p : Pg} (h : PgAt w g p) (j : Nat) (v : Value) (p' : Pg) (hv : (pgC p).setIfInBounds j v = pgC p') : PgAt (w.setCell ⟨g, j, none⟩ v) g p' := by
 unfold PgAt at *
 simp only [World.setCell, Array.getElem?_modify, h]
 simp only [if_true, Option.map_some]
 rw [← hv]; rfl
structure PR (raw : Pg) (lf : Lf) (c : Cd) (g0 g1 : Nat) (w y : World) : Prop where
 raw : PgAt y g0 raw
 l : y.heap[g1]? = some (.cells #[.int .i64 (lf.field : Nat), .int .i64 (lf.r : Nat), .int .i64 (lf.d : Nat), .int .i64 (lf.kind : Nat)] 30)
 c : y.heap[g1 + 1]? = some (.cells #[.slice c.aoR c.N c.cR, .slice c.aoD c.N c.cD, .slice c.aoV c.M c.cV] 33)
 b : Below w.heap.size w y
 h0 : g0 = w.heap.size
 h1 : g0 < g1
theorem PR.keep {raw : Pg} {lf : Lf} {c : Cd} {g0 g1 : Nat} {w y z : World} (h : PR raw lf c g0 g1 w y) (hb : Below (g1 + 2) y z) : PR raw lf c g0 g1 w z :=
 ⟨h.raw.keep (hb.block g0 (by have := h.h1; omega)), (hb.block g1 (by omega)).trans h.l, (hb.block (g1 + 1) (by omega)).trans h.c, h.b.trans (hb.mono (by have := h.h0; have := h.h1; omega)), h.h0, h.h1⟩
set_option maxHeartbeats 8000000 in
set_option maxRecDepth 100000 in
theorem pageReads_any (a0 : Option Addr) (len0 cap0 : Nat) (ns : List Int) (aoR : Option Addr) (lenR capR : Nat) (which enc turn n : Int) (aoA : Option Addr) (lenA capA : Nat) (ats : List Int) (aoB : Option Addr) (lenB capB : Nat) (bys : List Nat) (right : Bool) (raw : Pg) (aoY : Option Addr) (lenY capY : Nat) (ybs : List Nat) (w : World)
 (hl : ns.length = len0) (hlen : len0 ≤ 9223372036854775807) (hin : ∀ x ∈ ns, -9223372036854775808 ≤ x ∧ x ≤ 9223372036854775807) (hc : CellsAt w w.heap.size a0 len0 (i64c ns))
 (hR : RowsAt w aoR lenR) (hlenR : lenR ≤ 9223372036854775807) (hwh : in64 which) (hen : in64 enc) (htu : in64 turn) (hn : in64 n)
 (hlA : ats.length = lenA) (hlenA : lenA ≤ 9223372036854775807) (hinA : ∀ x ∈ ats, -9223372036854775808 ≤ x ∧ x ≤ 9223372036854775807) (hcA : CellsAt w w.heap.size aoA lenA (i64c ats))
 (hlB : bys.length = lenB) (hlenB : lenB ≤ 9223372036854775807) (hB256 : ∀ x ∈ bys, x < 256) (hcB : CellsAt w w.heap.size aoB lenB (u8c bys)) (hraw : OkPg raw)
 (hlY : ybs.length = lenY) (hcapY : lenY ≤ capY) (hY256 : ∀ x ∈ ybs, x < 256) (hcY : CellsAt w w.heap.size aoY lenY (u8c ybs)) (hzY : aoY = none → lenY = 0) (hlenY : lenY ≤ 9223372036854775807) :
 Calls Tryz.prog 3 #[.slice a0 len0 cap0, .slice aoR lenR capR, .int .i64 which, .int .i64 enc, .int .i64 turn, .int .i64 n, .slice aoA lenA capA, .slice aoB lenB capB, .bool right, pgV raw, .slice aoY lenY capY] w (SaysTrue w) := by
 obtain ⟨w1, hw⟩ : ∃ x, x = w.alloc (.cells #[.int .i64 raw.rows, .int .i64 raw.cells, .int .i64 raw.enc, .int .i64 raw.rl, .int .i64 raw.dl, .int .i64 raw.vl, .int .u32 (raw.crc : Nat)] 27) := ⟨_, rfl⟩
 obtain ⟨g0, hg0⟩ : ∃ g, g = w.heap.size := ⟨_, rfl⟩
 have hb1 : Below w.heap.size w w1 := by rw [hw]; exact balloc (Below.refl _ _) _
 have hk0 : w1.heap[g0]? = some (.cells #[.int .i64 raw.rows, .int .i64 raw.cells, .int .i64 raw.enc, .int .i64 raw.rl, .int .i64 raw.dl, .int .i64 raw.vl, .int .u32 (raw.crc : Nat)] 27) := by rw [hg0, hw]; exact heap_alloc_new w _
 have hgw1 : g0 < w1.heap.size := (Array.getElem?_eq_some_iff.1 hk0).1
 have HKn := Lib.hid (known18_any w1)
 have HA := Lib.hid (And.intro hlA (And.intro hinA hcA)); have HB := Lib.hid (And.intro hlB (And.intro hB256 hcB)); have Hraw := Lib.hid hraw
 have HY := Lib.hid (And.intro hlY (And.intro hY256 (And.intro hcY hzY)))
 have HNs := Lib.hid (And.intro hl (And.intro hin hc)); have HRs := Lib.hid hR
 have Hb1 := Lib.hid hb1; have Hk0 := Lib.hid hk0; have Hg0 := Lib.hid hg0
 have Hwh := Lib.hid hwh; have Hen := Lib.hid hen; have Htu := Lib.hid htu; have Hn := Lib.hid hn
 clear hlA hinA hcA hlB hB256 hcB hraw hlY hY256 hcY hzY hl hin hc hR hb1 hk0 hwh hen htu hn
 unfold pgV
 go_enter Tryz.func3, Tryz.ntmps3
 go_upto_region 1 with fail
 rw [← hw, ← hg0]
 clear hw hg0
 go_wp2_with fail
 refine HKn.out.mono ?_
 rintro e x ⟨rfl, hbx⟩
 have Hbx := Lib.hid hbx
 have HBx := Lib.hid (bmore Hb1.out hbx)
 have hgx : g0 < x.heap.size := Nat.lt_of_lt_of_le hgw1 hbx.size
 clear hbx HKn
 by_cases hy2 : 200 < lenY
 · have e1 : (200 : Int) < (lenY : Int) := by omega
   go_wp2
   go_ret
   exact ⟨rfl, HBx.out⟩
 have e1 : ¬ (200 : Int) < (lenY : Int) := by omega
 have hR1 : RowsAt x aoR lenR := fun i hi => by
  obtain ⟨b, off, a, m, c, ns, he, hb, hcl, h1, h2, h3, h4⟩ := HRs.out i hi
  exact ⟨b, off, a, m, c, ns, he, Nat.lt_of_lt_of_le hb HBx.out.size, (HBx.out.cell (by exact hb)).trans hcl, h1, h2, h3, h4.at HBx.out⟩
 have HPa := Lib.hid (part18_any a0 len0 cap0 ns aoR lenR capR which x HNs.out.1 hlen HNs.out.2.1 (HNs.out.2.2.at HBx.out) hR1 hlenR Hwh.out.1 Hwh.out.2)
 clear hR1
 go_wp2_with fail
 refine HPa.out.mono ?_
 rintro e y ⟨lf, c, N, m, capW, aoW, ws, rfl, hN16, hfit, HBy⟩
 have Hfit := Lib.hid hfit
 unfold lfA
 clear hfit HPa
 go_upto_region 6 with fail
 obtain ⟨g1, hg1⟩ : ∃ g1, g1 = y.heap.size := ⟨_, rfl⟩
 obtain ⟨y1, hy1⟩ : ∃ y1, y1 = (y.alloc (.cells #[.int .i64 (lf.field : Nat), .int .i64 (lf.r : Nat), .int .i64 (lf.d : Nat), .int .i64 (lf.kind : Nat)] 30)).alloc (.cells #[.slice c.aoR c.N c.cR, .slice c.aoD c.N c.cD, .slice c.aoV c.M c.cV] 33) := ⟨_, rfl⟩
 have hby1 : Below y.heap.size y y1 := by rw [hy1]; exact balloc (balloc (Below.refl _ _) _) _
 have hPR : PR raw lf c g0 g1 w y1 := by
  refine ⟨?_, ?_, ?_, (bmore (bmore HBx.out HBy.out) hby1), Hg0.out, ?_⟩
  · exact (hby1.block g0 (Nat.lt_of_lt_of_le hgx HBy.out.size)).trans ((HBy.out.block g0 hgx).trans ((Hbx.out.block g0 hgw1).trans Hk0.out))
  · rw [hg1, hy1, heap_alloc_old _ _ (by simp)]; exact heap_alloc_new y _
  · have := heap_alloc_new (y.alloc (.cells #[.int .i64 (lf.field : Nat), .int .i64 (lf.r : Nat), .int .i64 (lf.d : Nat), .int .i64 (lf.kind : Nat)] 30)) (.cells #[.slice c.aoR c.N c.cR, .slice c.aoD c.N c.cD, .slice c.aoV c.M c.cV] 33)
    rw [hg1, hy1]; simpa using this
  · rw [hg1]; exact Nat.lt_of_lt_of_le hgx HBy.out.size
 have hsz1 : y1.heap.size = g1 + 2 := by rw [hy1, hg1]; simp
 have hsz : y.heap.size = g1 := hg1.symm
 have HPR := Lib.hid hPR; have Hby1 := Lib.hid hby1
 rw [← hy1, ← hg1]
 have Hsz := Lib.hid hsz; have Hsz1 := Lib.hid hsz1
 clear hPR hby1 hy1 hg1 hsz hsz1
 by_cases hN0 : N = 0
 · subst hN0
   go_wp2
   go_ret
   exact ⟨rfl, HPR.out.b⟩
 obtain ⟨Hlf, Hcol0, Hws, hm256, hmcap, HcW0, HlW⟩ := Hfit.out hN0
 have Hcol := Lib.hid (Hcol0.out.at Hby1.out); have HcW := Lib.hid (HcW0.out.at Hby1.out)
 have f1 : ((N : Int) == 0) = false := by rw [beq_eq_false_iff_ne]; omega
 have f2 : ¬ (N : Int) = 0 := by omega
 clear Hfit Hcol0 HcW0 hN0 Hby1 Hbx
 go_upto_region 8 with fail
 go_cut [27, 28] (fun pv bv wy => ∃ (p : Pg) (g3 : Nat) (aE : Option Addr) (nE kE : Nat) (bl : List Nat), pv = .pointer (some ⟨g3, 0, none⟩) ∧ bv = .slice aE nE kE ∧ nE ≤ 1000000 ∧ Hid (Bs wy aE nE kE bl) ∧
  Hid (p.rows = N ∧ 0 ≤ p.enc ∧ p.enc ≤ 2 ∧ 0 ≤ p.cells ∧ p.cells ≤ 4000 ∧ 0 ≤ p.rl ∧ p.rl ≤ 1000000 ∧ 0 ≤ p.dl ∧ p.dl ≤ 1000000 ∧ 0 ≤ p.vl ∧ p.vl ≤ 1000000 ∧ p.crc < 4294967296) ∧ Hid (PgAt wy g3 p) ∧ g1 + 2 ≤ g3 ∧ Hid (Below (g1 + 2) y1 wy))
 case first =>
  as_aux_lemma =>
   obtain ⟨l0, l1, l2, l3⟩ := four_lf HPR.out.l
   obtain ⟨c0, c1, c2, -⟩ := three_cellsT HPR.out.c
   obtain ⟨en, hen, hen3⟩ := modN' enc 3 (by decide)
   have Henq : Hid (enc % 3 = (en : Int)) := Lib.hid hen
   have pl0 : ∀ w', Below (g1 + 2) y1.drew w' → w'.cell? ⟨g1, 0, none⟩ = some (.int .i64 (lf.field : Nat)) := fun w' hg => (hg.cell (by show g1 < g1 + 2; omega)).trans l0
   have pl1 : ∀ w', Below (g1 + 2) y1.drew w' → w'.cell? ⟨g1, 1, none⟩ = some (.int .i64 (lf.r : Nat)) := fun w' hg => (hg.cell (by show g1 < g1 + 2; omega)).trans l1
   have pl2 : ∀ w', Below (g1 + 2) y1.drew w' → w'.cell? ⟨g1, 2, none⟩ = some (.int .i64 (lf.d : Nat)) := fun w' hg => (hg.cell (by show g1 < g1 + 2; omega)).trans l2
   have pl3 : ∀ w', Below (g1 + 2) y1.drew w' → w'.cell? ⟨g1, 3, none⟩ = some (.int .i64 (lf.kind : Nat)) := fun w' hg => (hg.cell (by show g1 < g1 + 2; omega)).trans l3
   have pc0 : ∀ w', Below (g1 + 2) y1.drew w' → w'.cell? ⟨g1 + 1, 0, none⟩ = some (.slice c.aoR c.N c.cR) := fun w' hg => (hg.cell (by show g1 + 1 < g1 + 2; omega)).trans c0
   have pc1 : ∀ w', Below (g1 + 2) y1.drew w' → w'.cell? ⟨g1 + 1, 1, none⟩ = some (.slice c.aoD c.N c.cD) := fun w' hg => (hg.cell (by show g1 + 1 < g1 + 2; omega)).trans c1
   have pc2 : ∀ w', Below (g1 + 2) y1.drew w' → w'.cell? ⟨g1 + 1, 2, none⟩ = some (.slice c.aoV c.M c.cV) := fun w' hg => (hg.cell (by show g1 + 1 < g1 + 2; omega)).trans c2
   have HEn : Hid (∀ z, Below y1.heap.size y1 z → Calls Tryz.prog 6 #[.agg #[.int .i64 (lf.field : Nat), .int .i64 (lf.r : Nat), .int .i64 (lf.d : Nat), .int .i64 (lf.kind : Nat)], .agg #[.slice c.aoR c.N c.cR, .slice c.aoD c.N c.cD, .slice c.aoV c.M c.cV], .int .i64 (N : Nat), .int .i64 (en : Nat), .slice aoW m capW] z (GaveEn N en z)) := Lib.hid (fun z hz => rencode18_any lf c N en aoW m capW ws z Hlf.out (Hcol.out.at hz) (by omega) (by omega) Hws.out hm256 (HcW.out.at hz))
   clear l0 l1 l2 l3 c0 c1 c2 hen
   refine wp_region_linR (Below (g1 + 2)) ⟨fun w => Below.refl _ w, fun h k => h.trans k⟩ (.take 0 (.take 1 (.take 2 (.take 3 (.take 4 (.take 5 (.two 6 (.take 7 (.take 8 (.take 9 (.one 10 (.one 11 (.take 12 (.done))))))) 10 (.one 6 (.take 7 (.take 8 (.take 9 (.one 11 (.take 12 (.done)))))))))))))) [] (by kernel_rfl) (by kernel_rfl) (fun d _ _ _ _ h => by cases d <;> exact h) ?_
   iterate 4 (first
    | (refine wpLinR_take (v := ?_) rfl rfl (fun w' hw' => ?_) (fun K hK => ?_); rotate_left; (go_simp; rfl); (go_simp; refine hK _ ?_; clear hK K)))
   refine wpLinR_take (v := .int .i64 (en : Nat)) rfl rfl (fun w' hw' => ?_) (fun K hK => ?_)
   · go_simp
     refine (within18_any enc 3 _ (by omega) (by omega) Hen.out.1 Hen.out.2).mono ?_
     rw [Henq.out]; rintro e x4 ⟨rfl, rfl⟩
     exact ⟨rfl, rfl⟩
   go_simp; refine hK _ ?_; clear hK K
   iterate 1 (first
    | (refine wpLinR_take (v := ?_) rfl rfl (fun w' hw' => ?_) (fun K hK => ?_); rotate_left; (go_simp; rfl); (go_simp; refine hK _ ?_; clear hK K)))
   clear pl0 pl1 pl2 pl3 pc0 pc1 pc2
   refine wpLinR_two rfl rfl (fun K hK => ?_) (fun K hK => ?_)
   · go_simp
     refine (HEn.out y1.drew (Below.drew (Below.refl _ _))).mono ?_
     rintro e z ⟨p, aE, nE, kE, bl, rfl, HpE, hnE, HBE, HlE, HBz⟩
     have HpB : Hid (p.rows = N ∧ 0 ≤ p.enc ∧ p.enc ≤ 2 ∧ 0 ≤ p.cells ∧ p.cells ≤ 4000 ∧ 0 ≤ p.rl ∧ p.rl ≤ 1000000 ∧ 0 ≤ p.dl ∧ p.dl ≤ 1000000 ∧ 0 ≤ p.vl ∧ p.vl ≤ 1000000 ∧ p.crc < 4294967296) := Lib.hid ⟨HpE.out.1, by rw [HpE.out.2.1]; omega, by rw [HpE.out.2.1]; omega, HpE.out.2.2⟩
     have hbzD : Below (g1 + 2) y1.drew z := HBz.out.mono (by show g1 + 2 ≤ y1.heap.size; rw [Hsz1.out]; exact Nat.le_refl _)
     have hbz0 : Below (g1 + 2) y1 z := (Below.drew (Below.refl _ y1)).trans hbzD
     unfold pgV
     refine hK _ _ (.inr hbzD) ?_; clear hK K
     iterate 3 (first
      | (refine wpLinR_take (v := ?_) rfl rfl (fun w' hw' => ?_) (fun K hK => ?_); rotate_left; (go_simp; rfl); (go_simp; refine hK _ ?_; clear hK K)))
     refine wpLinR_one rfl (fun K hK => ?_)
     go_simp
     obtain ⟨g3, hg3e⟩ : ∃ g3, g3 = z.heap.size := ⟨_, rfl⟩
     obtain ⟨za, hza⟩ : ∃ za, za = z.alloc (.cells #[.int .i64 0, .int .i64 0, .int .i64 0, .int .i64 0, .int .i64 0, .int .i64 0, .int .u32 0] 27) := ⟨_, rfl⟩
     have hpz : za.heap[g3]? = some (.cells #[.int .i64 0, .int .i64 0, .int .i64 0, .int .i64 0, .int .i64 0, .int .i64 0, .int .u32 0] 27) := by rw [hza, hg3e]; exact heap_alloc_new z _
     have hg3 : g1 + 2 ≤ g3 := by rw [hg3e]; have := hbz0.size; rw [Hsz1.out] at this; exact this
     have hbza : Below z.heap.size z za := by rw [hza]; exact balloc (Below.refl _ _) _
     have hbz : Below (g1 + 2) y1 za := hbz0.trans (hbza.mono (by rw [← hg3e]; exact hg3))
     rw [← hza, ← hg3e]
     refine hK _ _ (.inr (hbza.mono (by rw [← hg3e]; exact hg3))) ?_; clear hK K
     have hbE : ∀ yf, But g3 za yf → Bs yf aE nE kE bl := fun yf hb => HBE.out.at (But.below hbza hb (by rw [hg3e]; exact Nat.le_refl _) hbza.size)
     clear hza hg3e
     obtain ⟨t0, t1, t2, t3, t4, t5, t6⟩ := seven_cells hpz
     have f0 := seven_frz hpz 0; have f1 := seven_frz hpz 1; have f2 := seven_frz hpz 2; have f3 := seven_frz hpz 3; have f4 := seven_frz hpz 4; have f5 := seven_frz hpz 5; have f6 := seven_frz hpz 6
     have hfin := seven_setT hpz (.int .i64 p.rows) (.int .i64 p.cells) (.int .i64 p.enc) (.int .i64 p.rl) (.int .i64 p.dl) (.int .i64 p.vl) (.int .u32 (p.crc : Nat))
     have hbut := (((((((But.refl g3 za).setCell 0 (.int .i64 p.rows)).setCell 1 (.int .i64 p.cells)).setCell 2 (.int .i64 p.enc)).setCell 3 (.int .i64 p.rl)).setCell 4 (.int .i64 p.dl)).setCell 5 (.int .i64 p.vl)).setCell 6 (.int .u32 (p.crc : Nat))
     obtain ⟨yf, hyf⟩ : ∃ yf, yf = ((((((za.setCell ⟨g3, 0, none⟩ (.int .i64 p.rows)).setCell ⟨g3, 1, none⟩ (.int .i64 p.cells)).setCell ⟨g3, 2, none⟩ (.int .i64 p.enc)).setCell ⟨g3, 3, none⟩ (.int .i64 p.rl)).setCell ⟨g3, 4, none⟩ (.int .i64 p.dl)).setCell ⟨g3, 5, none⟩ (.int .i64 p.vl)).setCell ⟨g3, 6, none⟩ (.int .u32 (p.crc : Nat)) := ⟨_, rfl⟩
     rw [← hyf] at hfin hbut
     have hbB : Below (g1 + 2) za yf := But.below (Below.refl _ _) hbut hg3 (Nat.le_of_lt (Nat.lt_of_le_of_lt hg3 (Array.getElem?_eq_some_iff.1 hpz).1))
     have Hfin : Hid (PgAt yf g3 p) := Lib.hid hfin
     have HBs : Hid (Bs yf aE nE kE bl) := Lib.hid (hbE yf hbut)
     have HbB := Lib.hid hbB
     clear hfin hbut hbB
     refine wpLinR_one rfl (fun K hK => ?_)
     go_simp
     rw [← hyf]
     refine hK _ _ (.inr HbB.out) ?_; clear hK K hyf t0 t1 t2 t3 t4 t5 t6 f0 f1 f2 f3 f4 f5 f6
     iterate 1 (first
      | (refine wpLinR_take (v := ?_) rfl rfl (fun w' hw' => ?_) (fun K hK => ?_); rotate_left; (go_simp; rfl); (go_simp; refine hK _ ?_; clear hK K)))
     refine wpLinR_nil ?_
     go_wp2
     go_meet
     exact ⟨p, g3, aE, nE, kE, bl, rfl, rfl, hnE, HBs, HpB, Hfin, hg3, Lib.hid (hbz.trans HbB.out)⟩
   · go_simp
     obtain ⟨g3, hg3e⟩ : ∃ g3, g3 = y1.heap.size := ⟨_, rfl⟩
     obtain ⟨za, hza⟩ : ∃ za, za = (y1.alloc (.cells #[.int .i64 0, .int .i64 0, .int .i64 0, .int .i64 0, .int .i64 0, .int .i64 0, .int .u32 0] 27)).drew := ⟨_, rfl⟩
     have hpa : za.heap[g3]? = some (.cells #[.int .i64 0, .int .i64 0, .int .i64 0, .int .i64 0, .int .i64 0, .int .i64 0, .int .u32 0] 27) := by rw [hza, hg3e]; exact heap_alloc_new y1 _
     have hg3 : g1 + 2 ≤ g3 := by rw [hg3e, Hsz1.out]; exact Nat.le_refl _
     have hbza : Below y1.heap.size y1 za := by rw [hza]; exact Below.drew (balloc (Below.refl _ _) _)
     have hbzaD : Below (g1 + 2) y1.drew za := ⟨hbza.os, hbza.tape, hbza.output, hbza.size, fun j hj => hbza.block j (by rw [Hsz1.out]; exact hj)⟩
     have hg3a : g3 < za.heap.size := (Array.getElem?_eq_some_iff.1 hpa).1
     rw [← hza, ← hg3e]
     refine hK _ _ (.inr hbzaD) ?_; clear hK K
     have HE2 := Lib.hid (HEn.out za hbza)
     have Hhbza := Lib.hid hbza
     clear hza hg3e hbzaD
     refine wpLinR_one rfl (fun K hK => ?_)
     go_simp
     refine HE2.out.mono ?_
     rintro e z ⟨p, aE, nE, kE, bl, rfl, HpE, hnE, HBE, HlE, HBz⟩
     have HpB : Hid (p.rows = N ∧ 0 ≤ p.enc ∧ p.enc ≤ 2 ∧ 0 ≤ p.cells ∧ p.cells ≤ 4000 ∧ 0 ≤ p.rl ∧ p.rl ≤ 1000000 ∧ 0 ≤ p.dl ∧ p.dl ≤ 1000000 ∧ 0 ≤ p.vl ∧ p.vl ≤ 1000000 ∧ p.crc < 4294967296) := Lib.hid ⟨HpE.out.1, by rw [HpE.out.2.1]; omega, by rw [HpE.out.2.1]; omega, HpE.out.2.2⟩
     have hpz : z.heap[g3]? = some (.cells #[.int .i64 0, .int .i64 0, .int .i64 0, .int .i64 0, .int .i64 0, .int .i64 0, .int .u32 0] 27) := (HBz.out.block g3 hg3a).trans hpa
     have hbz : Below (g1 + 2) y1 z := (Hhbza.out.mono (by rw [Hsz1.out]; exact Nat.le_refl _)).trans (HBz.out.mono (by omega))
     have hbE : ∀ yf, But g3 z yf → Bs yf aE nE kE bl := fun yf hb => ⟨HBE.out.len, HBE.out.cap, HBE.out.c.apart hb (fun a ha => by have := HlE.out a ha; omega), HBE.out.z, HBE.out.b⟩
     unfold pgV
     refine hK _ _ (.inr (HBz.out.mono (by omega))) ?_; clear hK K
     iterate 3 (first
      | (refine wpLinR_take (v := ?_) rfl rfl (fun w' hw' => ?_) (fun K hK => ?_); rotate_left; (go_simp; rfl); (go_simp; refine hK _ ?_; clear hK K)))
     obtain ⟨t0, t1, t2, t3, t4, t5, t6⟩ := seven_cells hpz
     have f0 := seven_frz hpz 0; have f1 := seven_frz hpz 1; have f2 := seven_frz hpz 2; have f3 := seven_frz hpz 3; have f4 := seven_frz hpz 4; have f5 := seven_frz hpz 5; have f6 := seven_frz hpz 6
     have hfin := seven_setT hpz (.int .i64 p.rows) (.int .i64 p.cells) (.int .i64 p.enc) (.int .i64 p.rl) (.int .i64 p.dl) (.int .i64 p.vl) (.int .u32 (p.crc : Nat))
     have hbut := (((((((But.refl g3 z).setCell 0 (.int .i64 p.rows)).setCell 1 (.int .i64 p.cells)).setCell 2 (.int .i64 p.enc)).setCell 3 (.int .i64 p.rl)).setCell 4 (.int .i64 p.dl)).setCell 5 (.int .i64 p.vl)).setCell 6 (.int .u32 (p.crc : Nat))
     obtain ⟨yf, hyf⟩ : ∃ yf, yf = ((((((z.setCell ⟨g3, 0, none⟩ (.int .i64 p.rows)).setCell ⟨g3, 1, none⟩ (.int .i64 p.cells)).setCell ⟨g3, 2, none⟩ (.int .i64 p.enc)).setCell ⟨g3, 3, none⟩ (.int .i64 p.rl)).setCell ⟨g3, 4, none⟩ (.int .i64 p.dl)).setCell ⟨g3, 5, none⟩ (.int .i64 p.vl)).setCell ⟨g3, 6, none⟩ (.int .u32 (p.crc : Nat)) := ⟨_, rfl⟩
     rw [← hyf] at hfin hbut
     have hbB : Below (g1 + 2) z yf := But.below (Below.refl _ _) hbut hg3 (Nat.le_of_lt (Nat.lt_of_le_of_lt hg3 (Array.getElem?_eq_some_iff.1 hpz).1))
     have Hfin : Hid (PgAt yf g3 p) := Lib.hid hfin
     have HBs : Hid (Bs yf aE nE kE bl) := Lib.hid (hbE yf hbut)
     have HbB := Lib.hid hbB
     clear hfin hbut hbB
     refine wpLinR_one rfl (fun K hK => ?_)
     go_simp
     rw [← hyf]
     refine hK _ _ (.inr HbB.out) ?_; clear hK K hyf t0 t1 t2 t3 t4 t5 t6 f0 f1 f2 f3 f4 f5 f6
     iterate 1 (first
      | (refine wpLinR_take (v := ?_) rfl rfl (fun w' hw' => ?_) (fun K hK => ?_); rotate_left; (go_simp; rfl); (go_simp; refine hK _ ?_; clear hK K)))
     refine wpLinR_nil ?_
     go_wp2
     go_meet
     exact ⟨p, g3, aE, nE, kE, bl, rfl, rfl, hnE, HBs, HpB, Hfin, hg3, Lib.hid (hbz.trans HbB.out)⟩
 case rest =>
 clear f1 f2
 obtain ⟨p, g3, aE, nE, kE, bl, rfl, rfl, hnE, HBE, HpB, HPg, hg3, Hb2⟩ := hcut
 obtain ⟨x2, hxx⟩ : ∃ z, z = wc := ⟨_, rfl⟩
 subst hxx
 obtain ⟨xe, hxe⟩ : ∃ z, z = x2.alloc (.cells #[] 5) := ⟨_, rfl⟩
 have hbe : Below x2.heap.size x2 xe := by rw [hxe]; exact balloc (Below.refl _ _) _
 have ho0 : xe.ownsRow x2.heap.size 5 1 (.slice (some ⟨x2.heap.size, 0, none⟩) 0 0) 0 [] := by rw [hxe]; exact own_emptyP x2 _ _
 have hE1 := HBE.out.at hbe
 have hg3x : g3 < x2.heap.size := HPg.out.lt
 go_wp2_with (at_builtin; rw [← hxe]; refine wpList_append_loose1 sl_u8 rfl (.tmp 61) (.tmp 62) rfl rfl ho0 rfl hE1.c hE1.z (fun _ _ => rfl) (by unfold maxLen; omega) (by omega) hbe.size ?_)
 intro v1 x3 ho1 hga
 rw [← hxe] at hga
 rw [range_u8c _ _ hE1.len] at ho1
 have hb3 := hbe.grown hga hbe.size (fun k hk => (ho0.lt k hk).1)
 have ho1 : x3.ownsRow (g3 + 1) 5 1 v1 nE (u8v bl) := own_base (by simpa using ho1) hg3x
 obtain ⟨aD, kD, rfl, -, -⟩ := own_u8 ho1
 have HO := Lib.hid ho1
 have HPg3 : Hid (PgAt x3 g3 p) := Lib.hid (HPg.out.keep (hb3.block g3 hg3x))
 have Hb3 : Hid (Below (g1 + 2) y1 x3) := Lib.hid (Hb2.out.trans (hb3.mono (by omega)))
 have Hbl : Hid (bl.length = nE ∧ ∀ x ∈ bl, x < 256) := Lib.hid ⟨HBE.out.len, HBE.out.b⟩
 have hkD := own_capG ho1
 clear hxe hbe ho0 hE1 hga hb3 ho1 HBE HPg Hb2
 go_upto_region 10 with fail
 go_wp2
 go_loopw [30] (fun iv wy => ∃ (k : Nat) (dl : List Nat), k ≤ 3 ∧ iv = .int .i64 (k : Nat) ∧ Hid (dl.length = nE ∧ ∀ x ∈ dl, x < 256) ∧ Hid (wy.ownsRow (g3 + 1) 5 1 (.slice aD nE kD) nE (u8v dl)) ∧ Hid (PgAt wy g3 p) ∧ Hid (Below (g1 + 2) y1 wy)) (fun iv _ => 3 - (intOf iv).toNat)
 case atStart => exact ⟨0, bl, by omega, rfl, Hbl, HO, HPg3, Hb3⟩
 case round =>
  clear Hbl HO HPg3 Hb3
  obtain ⟨k, dl, hk, rfl, Hdl, HO, HPg, Hb⟩ := hrel
  obtain ⟨z, hzz⟩ : ∃ z, z = wr := ⟨_, rfl⟩
  subst hzz
  obtain ⟨go, hgo⟩ : ∃ go, go = decide (k < lenA ∧ k < lenB ∧ k < 3 ∧ 0 < nE) := ⟨_, rfl⟩
  have Hgo := Lib.hid hgo
  clear hgo
  go_upto_region 11 with fail
  go_cut [82] (fun v wy => v = .bool go ∧ wy = z)
  case first =>
   as_aux_lemma =>
    by_cases q1 : k < lenA
    · have a1 : (k : Int) < (lenA : Int) := by omega
      by_cases q2 : k < lenB
      · have a2 : (k : Int) < (lenB : Int) := by omega
        by_cases q3 : k < 3
        · have a3 : (k : Int) < 3 := by omega
          by_cases q4 : 0 < nE
          · have a4 : (0 : Int) < (nE : Int) := by omega
            have hE : Hid (go = true) := Lib.hid (by rw [Hgo.out]; exact decide_eq_true ⟨q1, q2, q3, q4⟩)
            go_wp2
            go_meet
            exact ⟨by rw [hE.out], rfl⟩
          · have a4 : ¬ (0 : Int) < (nE : Int) := by omega
            have hE : Hid (go = false) := Lib.hid (by rw [Hgo.out]; exact decide_eq_false (fun h => q4 h.2.2.2))
            go_wp2
            go_meet
            exact ⟨by rw [hE.out], rfl⟩
        · have a3 : ¬ (k : Int) < 3 := by omega
          have hE : Hid (go = false) := Lib.hid (by rw [Hgo.out]; exact decide_eq_false (fun h => q3 h.2.2.1))
          go_wp2
          go_meet
          exact ⟨by rw [hE.out], rfl⟩
      · have a2 : ¬ (k : Int) < (lenB : Int) := by omega
        have hE : Hid (go = false) := Lib.hid (by rw [Hgo.out]; exact decide_eq_false (fun h => q2 h.2.1))
        go_wp2
        go_meet
        exact ⟨by rw [hE.out], rfl⟩
    · have a1 : ¬ (k : Int) < (lenA : Int) := by omega
      have hE : Hid (go = false) := Lib.hid (by rw [Hgo.out]; exact decide_eq_false (fun h => q1 h.1))
      go_wp2
      go_meet
      exact ⟨by rw [hE.out], rfl⟩
  case rest =>
  obtain ⟨rfl, hwz⟩ := hcut
  have hzw := hwz.symm
  subst hzw
  clear hwz
  cases go with
  | true =>
   obtain ⟨q1, q2, q3, q4⟩ := of_decide_eq_true Hgo.out.symm
   obtain ⟨bA, oA, rfl, hbA, cA⟩ := HA.out.2.2 k q1
   obtain ⟨bB, oB, rfl, hbB, cB⟩ := HB.out.2.2 k q2
   have hbw := HPR.out.b.trans (Hb.out.mono (by have := HPR.out.h0; have := HPR.out.h1; omega))
   have cA := (hbw.cell (by exact hbA)).trans cA
   have cB := (hbw.cell (by exact hbB)).trans cB
   obtain ⟨xa, hxa⟩ : ∃ xa, xa = ats.getD k 0 := ⟨_, rfl⟩
   have hxin : -9223372036854775808 ≤ xa ∧ xa ≤ 9223372036854775807 := by
    rw [hxa, List.getD_eq_getElem?_getD, List.getElem?_eq_getElem (by rw [HA.out.1]; exact q1)]
    exact HA.out.2.1 _ (List.getElem_mem _)
   rw [i64c, ← hxa] at cA
   obtain ⟨xb, hxb⟩ : ∃ xb, xb = bys.getD k 0 := ⟨_, rfl⟩
   have hxb256 : xb < 256 := by rw [hxb]; exact getD_lt HB.out.2.1 k
   rw [u8c, ← hxb] at cB
   obtain ⟨q, hq, hqn⟩ := modN' xa nE q4
   have Hq : Hid (xa % (nE : Int) = (q : Int)) := Lib.hid hq
   obtain ⟨gd, _, hvd, hgd, -⟩ := own_shapeG q4 HO.out
   simp only [Value.slice.injEq, true_and] at hvd
   obtain ⟨rfl, rfl⟩ := hvd
   obtain ⟨xd, hxd⟩ : ∃ xd, xd = dl.getD q 0 := ⟨_, rfl⟩
   have hxd256 : xd < 256 := by rw [hxd]; exact getD_lt Hdl.out.2 q
   have cD := cell_u8 HO.out q hqn
   have fD := HO.out.frozenAt q
   rw [u8c, ← hxd] at cD
   have hw8 : IntKind.u8.wrap ((xd : Int) + (xb : Int)) = ((xd : Int) + (xb : Int)) % 256 := by simp [IntKind.wrap, IntKind.bits, IntKind.signed]
   have hst := stored_u8 HO.out q (x := ((xd : Int) + (xb : Int)) % 256) (y := (xd + xb) % 256) (by omega)
   have HO2 := Lib.hid hst
   have Hdl2 : Hid ((dl.set q ((xd + xb) % 256)).length = nE ∧ ∀ x ∈ dl.set q ((xd + xb) % 256), x < 256) := Lib.hid ⟨by simp [Hdl.out.1], set_lt Hdl.out.2 (by omega)⟩
   have HPg2 : Hid (PgAt (z.setCell ⟨gd, q, none⟩ (.int .u8 (((xd : Int) + (xb : Int)) % 256))) g3 p) := Lib.hid (HPg.out.keep (Below.heap_setCell _ _ _ g3 (by show g3 ≠ gd; omega)))
   have Hb4 : Hid (Below (g1 + 2) y1 (z.setCell ⟨gd, q, none⟩ (.int .u8 (((xd : Int) + (xb : Int)) % 256)))) := Lib.hid (Hb.out.setCell (p := ⟨gd, q, none⟩) (by show _ ≤ gd; omega) _)
   have e0 : (0 : Int) ≤ (k : Int) := by omega
   have e1 : (k : Int) < (lenA : Int) := by omega
   have e2 : (k : Int) < (lenB : Int) := by omega
   have e3 : (0 : Int) ≤ (q : Int) := by omega
   have e4 : (q : Int) < (nE : Int) := by omega
   have pA : ∀ w', Grows z.drew w' → w'.cell? ⟨bA, oA + k, none⟩ = some (.int .i64 xa) := fun w' hg => Grows.cell (Grows.toDrew hg) cA
   have pB : ∀ w', Grows z.drew w' → w'.cell? ⟨bB, oB + k, none⟩ = some (.int .u8 (xb : Nat)) := fun w' hg => Grows.cell (Grows.toDrew hg) cB
   have pD : ∀ w', Grows z.drew w' → w'.cell? ⟨gd, q, none⟩ = some (.int .u8 (xd : Nat)) := fun w' hg => Grows.cell (Grows.toDrew hg) cD
   clear hst hq hxa hxb hxd cA cB HO Hdl HPg Hb hbw
   go_upto_region 13 with fail
   refine wp_region_linR Grows ⟨Grows.refl, Grows.trans⟩ (.take 0 (.take 1 (.take 2 (.take 3 (.take 4 (.take 5 (.take 6 (.take 7 (.take 8 (.take 9 (.take 10 (.take 11 (.take 12 (.take 13 (.take 14 (.take 15 (.one 16 (.done)))))))))))))))))) [16] (by kernel_rfl) (by kernel_rfl) (fun d _ _ _ _ h => by cases d <;> exact h) ?_
   iterate 7 (first
    | (refine wpLinR_take (v := ?_) rfl rfl (fun w' hw' => ?_) (fun K hK => ?_); rotate_left; (go_simp; rfl); (go_simp; refine hK _ ?_; clear hK K)))
   refine wpLinR_take (v := .int .i64 (q : Nat)) rfl rfl (fun w' hw' => ?_) (fun K hK => ?_)
   · go_simp
     refine (within18_any xa nE _ (by omega) (by omega) hxin.1 hxin.2).mono ?_
     rw [Hq.out]; rintro e x4 ⟨rfl, rfl⟩
     exact ⟨rfl, rfl⟩
   go_simp; refine hK _ ?_; clear hK K
   iterate 8 (first
    | (refine wpLinR_take (v := ?_) rfl rfl (fun w' hw' => ?_) (fun K hK => ?_); rotate_left; (go_simp; rfl); (go_simp; refine hK _ ?_; clear hK K)))
   clear pA pB pD
   refine wpLinR_one rfl (fun K hK => ?_)
   go_simp
   refine hK _ _ (.inl (by decide)) ?_; clear hK K
   refine wpLinR_nil ?_
   go_wp2
   go_roundw
   case rel => exact ⟨k + 1, _, by omega, by go_num, Hdl2, Lib.hid (own_below HO2.out (Below.drew (Below.refl _ _))), Lib.hid HPg2.out, Lib.hid (Below.drew Hb4.out)⟩
   case measure => simp [intOf]; omega
  | false =>
   clear Hgo
   obtain ⟨tq, htq, htq9⟩ := modN' turn 9 (by decide)
   have Htq : Hid (turn % 9 = (tq : Int)) := Lib.hid htq
   clear htq
   go_wp2_with fail
   refine (within18_any turn 9 _ (by omega) (by omega) Htu.out.1 Htu.out.2).mono ?_
   rw [Htq.out]; rintro e x4 ⟨rfl, rfl⟩
   go_upto_block 2 with fail
   go_cut [26] (fun wv wy => ∃ (p2 : Pg) (m2 : Nat) (ws2 : List Vl), wv = .slice aoW m2 capW ∧ Hid (OkPg p2) ∧ Hid (PgAt wy g3 p2) ∧ Hid (ws2.length = m2) ∧ m2 ≤ 256 ∧ Hid (CellsAt y1 y1.heap.size aoW (m2 * 2) (vlc ws2)) ∧ Hid (wy.ownsRow (g3 + 1) 5 1 (.slice aD nE kD) nE (u8v dl)) ∧ Hid (Below (g1 + 2) y1 wy))
   case first =>
    as_aux_lemma =>
     have HpO : Hid (OkPg p) := Lib.hid (by
      obtain ⟨b1, b2, b3, b4, b5, b6, b7, b8, b9, b10, b11, b12⟩ := HpB.out
      exact ⟨⟨by omega, by omega⟩, ⟨by omega, by omega⟩, ⟨by omega, by omega⟩, ⟨by omega, by omega⟩, ⟨by omega, by omega⟩, ⟨by omega, by omega⟩, b12⟩)
     obtain ⟨q5, hq5, hq5b⟩ := modN' n 5 (by decide)
     have Hq5 : Hid (n % 5 = (q5 : Int)) := Lib.hid hq5
     clear hq5
     have h9 : tq = 0 ∨ tq = 1 ∨ tq = 2 ∨ tq = 3 ∨ tq = 4 ∨ tq = 5 ∨ tq = 6 ∨ tq = 7 ∨ tq = 8 := by omega
     clear htq9
     rcases h9 with rfl | rfl | rfl | rfl | rfl | rfl | rfl | rfl | rfl
     · as_aux_lemma =>
        have hP := HPg.out.store 0 (.int .i64 n) ⟨n, p.cells, p.enc, p.rl, p.dl, p.vl, p.crc⟩ rfl
        have HP := Lib.hid hP
        have HO2 : Hid ((z.setCell ⟨g3, 0, none⟩ (.int .i64 n)).ownsRow (g3 + 1) 5 1 (.slice aD nE kD) nE (u8v dl)) := Lib.hid (HO.out.kept (setCell_grown z g3 0 _) (by right; intro e; have := (HO.out.lt _ e).1; omega))
        have Hb5 : Hid (Below (g1 + 2) y1 (z.setCell ⟨g3, 0, none⟩ (.int .i64 n))) := Lib.hid (Hb.out.setCell (p := ⟨g3, 0, none⟩) hg3 _)
        obtain ⟨r0, r1, r2, r3, r4, r5, r6⟩ := HPg.out.cells
        have fz := HPg.out.frz 0
        clear hP
        go_wp2
        go_meet
        exact ⟨⟨n, p.cells, p.enc, p.rl, p.dl, p.vl, p.crc⟩, m, ws, rfl, Lib.hid ⟨Hn.out, HpO.out.cells, HpO.out.enc, HpO.out.rl, HpO.out.dl, HpO.out.vl, HpO.out.crc⟩, HP, Hws, hm256, HcW, HO2, Hb5⟩
     · as_aux_lemma =>
        have hP := HPg.out.store 1 (.int .i64 n) ⟨p.rows, n, p.enc, p.rl, p.dl, p.vl, p.crc⟩ rfl
        have HP := Lib.hid hP
        have HO2 : Hid ((z.setCell ⟨g3, 1, none⟩ (.int .i64 n)).ownsRow (g3 + 1) 5 1 (.slice aD nE kD) nE (u8v dl)) := Lib.hid (HO.out.kept (setCell_grown z g3 1 _) (by right; intro e; have := (HO.out.lt _ e).1; omega))
        have Hb5 : Hid (Below (g1 + 2) y1 (z.setCell ⟨g3, 1, none⟩ (.int .i64 n))) := Lib.hid (Hb.out.setCell (p := ⟨g3, 1, none⟩) hg3 _)
        obtain ⟨r0, r1, r2, r3, r4, r5, r6⟩ := HPg.out.cells
        have fz := HPg.out.frz 1
        clear hP
        go_wp2
        go_meet
        exact ⟨⟨p.rows, n, p.enc, p.rl, p.dl, p.vl, p.crc⟩, m, ws, rfl, Lib.hid ⟨HpO.out.rows, Hn.out, HpO.out.enc, HpO.out.rl, HpO.out.dl, HpO.out.vl, HpO.out.crc⟩, HP, Hws, hm256, HcW, HO2, Hb5⟩
     · as_aux_lemma =>
        have hP := HPg.out.store 2 (.int .i64 n) ⟨p.rows, p.cells, n, p.rl, p.dl, p.vl, p.crc⟩ rfl
        have HP := Lib.hid hP
        have HO2 : Hid ((z.setCell ⟨g3, 2, none⟩ (.int .i64 n)).ownsRow (g3 + 1) 5 1 (.slice aD nE kD) nE (u8v dl)) := Lib.hid (HO.out.kept (setCell_grown z g3 2 _) (by right; intro e; have := (HO.out.lt _ e).1; omega))
        have Hb5 : Hid (Below (g1 + 2) y1 (z.setCell ⟨g3, 2, none⟩ (.int .i64 n))) := Lib.hid (Hb.out.setCell (p := ⟨g3, 2, none⟩) hg3 _)
        obtain ⟨r0, r1, r2, r3, r4, r5, r6⟩ := HPg.out.cells
        have fz := HPg.out.frz 2
        clear hP
        go_wp2
        go_meet
        exact ⟨⟨p.rows, p.cells, n, p.rl, p.dl, p.vl, p.crc⟩, m, ws, rfl, Lib.hid ⟨HpO.out.rows, HpO.out.cells, Hn.out, HpO.out.rl, HpO.out.dl, HpO.out.vl, HpO.out.crc⟩, HP, Hws, hm256, HcW, HO2, Hb5⟩
     · as_aux_lemma =>
        have hz1 := HPg.out.store 3 (.int .i64 (p.rl + (q5 : Int) - 2)) ⟨p.rows, p.cells, p.enc, p.rl + (q5 : Int) - 2, p.dl, p.vl, p.crc⟩ rfl
        have hz2 := hz1.store 4 (.int .i64 (p.dl - (q5 : Int) + 2)) ⟨p.rows, p.cells, p.enc, p.rl + (q5 : Int) - 2, p.dl - (q5 : Int) + 2, p.vl, p.crc⟩ rfl
        have ho1 := HO.out.kept (setCell_grown z g3 3 (.int .i64 (p.rl + (q5 : Int) - 2))) (by right; intro e; have := (HO.out.lt _ e).1; omega)
        have ho2 := ho1.kept (setCell_grown (z.setCell ⟨g3, 3, none⟩ (.int .i64 (p.rl + (q5 : Int) - 2))) g3 4 (.int .i64 (p.dl - (q5 : Int) + 2))) (by right; intro e; have := (ho1.lt _ e).1; omega)
        have HP : Hid (PgAt ((z.setCell ⟨g3, 3, none⟩ (.int .i64 (p.rl + (q5 : Int) - 2))).setCell ⟨g3, 4, none⟩ (.int .i64 (p.dl - (q5 : Int) + 2))).drew g3 ⟨p.rows, p.cells, p.enc, p.rl + (q5 : Int) - 2, p.dl - (q5 : Int) + 2, p.vl, p.crc⟩) := Lib.hid hz2
        have HO2 : Hid (((z.setCell ⟨g3, 3, none⟩ (.int .i64 (p.rl + (q5 : Int) - 2))).setCell ⟨g3, 4, none⟩ (.int .i64 (p.dl - (q5 : Int) + 2))).drew.ownsRow (g3 + 1) 5 1 (.slice aD nE kD) nE (u8v dl)) := Lib.hid (own_below ho2 (Below.drew (Below.refl _ _)))
        have Hb5 : Hid (Below (g1 + 2) y1 ((z.setCell ⟨g3, 3, none⟩ (.int .i64 (p.rl + (q5 : Int) - 2))).setCell ⟨g3, 4, none⟩ (.int .i64 (p.dl - (q5 : Int) + 2))).drew) := Lib.hid (Below.drew ((Hb.out.setCell (p := ⟨g3, 3, none⟩) hg3 _).setCell (p := ⟨g3, 4, none⟩) hg3 _))
        obtain ⟨b1, b2, b3, b4, b5, b6, b7, b8, b9, b10, b11, b12⟩ := HpB.out
        have w1 : IntKind.i64.wrap (p.rl + (q5 : Int)) = p.rl + (q5 : Int) := IntWalk.i64_in _ (by omega)
        have w2 : IntKind.i64.wrap (p.rl + (q5 : Int) - 2) = p.rl + (q5 : Int) - 2 := IntWalk.i64_in _ (by omega)
        have w3 : IntKind.i64.wrap (p.dl - (q5 : Int)) = p.dl - (q5 : Int) := IntWalk.i64_in _ (by omega)
        have w4 : IntKind.i64.wrap (p.dl - (q5 : Int) + 2) = p.dl - (q5 : Int) + 2 := IntWalk.i64_in _ (by omega)
        have HpN : Hid (OkPg ⟨p.rows, p.cells, p.enc, p.rl + (q5 : Int) - 2, p.dl - (q5 : Int) + 2, p.vl, p.crc⟩) := Lib.hid ⟨HpO.out.rows, HpO.out.cells, HpO.out.enc, ⟨by show _ ≤ p.rl + (q5 : Int) - 2; omega, by show p.rl + (q5 : Int) - 2 ≤ _; omega⟩, ⟨by show _ ≤ p.dl - (q5 : Int) + 2; omega, by show p.dl - (q5 : Int) + 2 ≤ _; omega⟩, HpO.out.vl, HpO.out.crc⟩
        obtain ⟨r0, r1, r2, r3, r4, r5, r6⟩ := HPg.out.cells
        obtain ⟨s0, s1, s2, s3, s4, s5, s6⟩ := hz1.cells
        have fa := HPg.out.frz 3
        have fb := hz1.frz 4
        have pa : ∀ w', SameBlk g3 z.drew w' → w'.cell? ⟨g3, 3, none⟩ = some (.int .i64 p.rl) := fun w' h => SameBlk.cell h r3
        have pb : ∀ w', SameBlk g3 z.drew w' → w'.cell? ⟨g3, 4, none⟩ = some (.int .i64 p.dl) := fun w' h => SameBlk.cell h r4
        clear hz1 hz2 ho1 ho2 b1 b2 b3 b4 b5 b6 b7 b8 b9 b10 b11 b12
        go_upto_region 22 with fail
        refine wp_region_linR (SameBlk g3) (SameBlk.pre g3) (.take 0 (.take 1 (.take 2 (.take 3 (.take 4 (.take 5 (.take 6 (.take 7 (.take 8 (.take 9 (.take 12 (.two 10 (.two 11 (.one 13 (.take 14 (.one 15 (.done)))) 13 (.take 11 (.take 14 (.one 15 (.done))))) 13 (.take 10 (.take 11 (.take 14 (.one 15 (.done))))))))))))))))) [13, 15] (by kernel_rfl) (by kernel_rfl) (fun d _ _ _ _ h => by cases d <;> exact h) ?_
        iterate 3 (first
         | (refine wpLinR_take (v := ?_) rfl rfl (fun w' hw' => ?_) (fun K hK => ?_); rotate_left; (go_simp; rfl); (go_simp; refine hK _ ?_; clear hK K)))
        refine wpLinR_take (v := .int .i64 (q5 : Nat)) rfl rfl (fun w' hw' => ?_) (fun K hK => ?_)
        · go_simp
          refine (within18_any n 5 _ (by omega) (by omega) Hn.out.1 Hn.out.2).mono ?_
          rw [Hq5.out]; rintro e x4 ⟨rfl, rfl⟩
          exact ⟨rfl, rfl⟩
        go_simp; refine hK _ ?_; clear hK K
        iterate 5 (first
         | (refine wpLinR_take (v := ?_) rfl rfl (fun w' hw' => ?_) (fun K hK => ?_); rotate_left; (go_simp; rfl); (go_simp; refine hK _ ?_; clear hK K)))
        refine wpLinR_take (v := .int .i64 (q5 : Nat)) rfl rfl (fun w' hw' => ?_) (fun K hK => ?_)
        · go_simp
          refine (within18_any n 5 _ (by omega) (by omega) Hn.out.1 Hn.out.2).mono ?_
          rw [Hq5.out]; rintro e x4 ⟨rfl, rfl⟩
          exact ⟨rfl, rfl⟩
        go_simp; refine hK _ ?_; clear hK K
        iterate 1 (first
         | (refine wpLinR_take (v := ?_) rfl rfl (fun w' hw' => ?_) (fun K hK => ?_); rotate_left; (go_simp; rfl); (go_simp; refine hK _ ?_; clear hK K)))
        refine wpLinR_two rfl rfl (fun K hK => ?_) (fun K hK => ?_)
        · go_simp
          refine hK _ _ (.inr rfl) ?_; clear hK K
          refine wpLinR_two rfl rfl (fun K hK => ?_) (fun K hK => ?_)
          · go_simp
            refine hK _ _ (.inr rfl) ?_; clear hK K
            refine wpLinR_one rfl (fun K hK => ?_)
            go_simp
            refine hK _ _ (.inl (by decide)) ?_; clear hK K
            iterate 1 (first
             | (refine wpLinR_take (v := ?_) rfl rfl (fun w' hw' => ?_) (fun K hK => ?_); rotate_left; (go_simp; rfl); (go_simp; refine hK _ ?_; clear hK K)))
            refine wpLinR_one rfl (fun K hK => ?_)
            go_simp
            refine hK _ _ (.inl (by decide)) ?_; clear hK K
            refine wpLinR_nil ?_
            go_wp2
            go_meet
            exact ⟨⟨p.rows, p.cells, p.enc, p.rl + (q5 : Int) - 2, p.dl - (q5 : Int) + 2, p.vl, p.crc⟩, m, ws, rfl, HpN, HP, Hws, hm256, HcW, HO2, Hb5⟩
          · go_simp
            refine hK _ _ (.inl (by decide)) ?_; clear hK K
            iterate 2 (first
             | (refine wpLinR_take (v := ?_) rfl rfl (fun w' hw' => ?_) (fun K hK => ?_); rotate_left; (go_simp; rfl); (go_simp; refine hK _ ?_; clear hK K)))
            refine wpLinR_one rfl (fun K hK => ?_)
            go_simp
            refine hK _ _ (.inl (by decide)) ?_; clear hK K
            refine wpLinR_nil ?_
            go_wp2
            go_meet
            exact ⟨⟨p.rows, p.cells, p.enc, p.rl + (q5 : Int) - 2, p.dl - (q5 : Int) + 2, p.vl, p.crc⟩, m, ws, rfl, HpN, HP, Hws, hm256, HcW, HO2, Hb5⟩
        · go_simp
          refine hK _ _ (.inl (by decide)) ?_; clear hK K
          iterate 3 (first
           | (refine wpLinR_take (v := ?_) rfl rfl (fun w' hw' => ?_) (fun K hK => ?_); rotate_left; (go_simp; rfl); (go_simp; refine hK _ ?_; clear hK K)))
          refine wpLinR_one rfl (fun K hK => ?_)
          go_simp
          refine hK _ _ (.inl (by decide)) ?_; clear hK K
          refine wpLinR_nil ?_
          go_wp2
          go_meet
          exact ⟨⟨p.rows, p.cells, p.enc, p.rl + (q5 : Int) - 2, p.dl - (q5 : Int) + 2, p.vl, p.crc⟩, m, ws, rfl, HpN, HP, Hws, hm256, HcW, HO2, Hb5⟩
     · as_aux_lemma =>
        have hz1 := HPg.out.store 4 (.int .i64 (p.dl + (q5 : Int) - 2)) ⟨p.rows, p.cells, p.enc, p.rl, p.dl + (q5 : Int) - 2, p.vl, p.crc⟩ rfl
        have hz2 := hz1.store 5 (.int .i64 (p.vl - (q5 : Int) + 2)) ⟨p.rows, p.cells, p.enc, p.rl, p.dl + (q5 : Int) - 2, p.vl - (q5 : Int) + 2, p.crc⟩ rfl
        have ho1 := HO.out.kept (setCell_grown z g3 4 (.int .i64 (p.dl + (q5 : Int) - 2))) (by right; intro e; have := (HO.out.lt _ e).1; omega)
        have ho2 := ho1.kept (setCell_grown (z.setCell ⟨g3, 4, none⟩ (.int .i64 (p.dl + (q5 : Int) - 2))) g3 5 (.int .i64 (p.vl - (q5 : Int) + 2))) (by right; intro e; have := (ho1.lt _ e).1; omega)
        have HP : Hid (PgAt ((z.setCell ⟨g3, 4, none⟩ (.int .i64 (p.dl + (q5 : Int) - 2))).setCell ⟨g3, 5, none⟩ (.int .i64 (p.vl - (q5 : Int) + 2))).drew g3 ⟨p.rows, p.cells, p.enc, p.rl, p.dl + (q5 : Int) - 2, p.vl - (q5 : Int) + 2, p.crc⟩) := Lib.hid hz2
        have HO2 : Hid (((z.setCell ⟨g3, 4, none⟩ (.int .i64 (p.dl + (q5 : Int) - 2))).setCell ⟨g3, 5, none⟩ (.int .i64 (p.vl - (q5 : Int) + 2))).drew.ownsRow (g3 + 1) 5 1 (.slice aD nE kD) nE (u8v dl)) := Lib.hid (own_below ho2 (Below.drew (Below.refl _ _)))
        have Hb5 : Hid (Below (g1 + 2) y1 ((z.setCell ⟨g3, 4, none⟩ (.int .i64 (p.dl + (q5 : Int) - 2))).setCell ⟨g3, 5, none⟩ (.int .i64 (p.vl - (q5 : Int) + 2))).drew) := Lib.hid (Below.drew ((Hb.out.setCell (p := ⟨g3, 4, none⟩) hg3 _).setCell (p := ⟨g3, 5, none⟩) hg3 _))
        obtain ⟨b1, b2, b3, b4, b5, b6, b7, b8, b9, b10, b11, b12⟩ := HpB.out
        have w1 : IntKind.i64.wrap (p.dl + (q5 : Int)) = p.dl + (q5 : Int) := IntWalk.i64_in _ (by omega)
        have w2 : IntKind.i64.wrap (p.dl + (q5 : Int) - 2) = p.dl + (q5 : Int) - 2 := IntWalk.i64_in _ (by omega)
        have w3 : IntKind.i64.wrap (p.vl - (q5 : Int)) = p.vl - (q5 : Int) := IntWalk.i64_in _ (by omega)
        have w4 : IntKind.i64.wrap (p.vl - (q5 : Int) + 2) = p.vl - (q5 : Int) + 2 := IntWalk.i64_in _ (by omega)
        have HpN : Hid (OkPg ⟨p.rows, p.cells, p.enc, p.rl, p.dl + (q5 : Int) - 2, p.vl - (q5 : Int) + 2, p.crc⟩) := Lib.hid ⟨HpO.out.rows, HpO.out.cells, HpO.out.enc, HpO.out.rl, ⟨by show _ ≤ p.dl + (q5 : Int) - 2; omega, by show p.dl + (q5 : Int) - 2 ≤ _; omega⟩, ⟨by show _ ≤ p.vl - (q5 : Int) + 2; omega, by show p.vl - (q5 : Int) + 2 ≤ _; omega⟩, HpO.out.crc⟩
        obtain ⟨r0, r1, r2, r3, r4, r5, r6⟩ := HPg.out.cells
        obtain ⟨s0, s1, s2, s3, s4, s5, s6⟩ := hz1.cells
        have fa := HPg.out.frz 4
        have fb := hz1.frz 5
        have pa : ∀ w', SameBlk g3 z.drew w' → w'.cell? ⟨g3, 4, none⟩ = some (.int .i64 p.dl) := fun w' h => SameBlk.cell h r4
        have pb : ∀ w', SameBlk g3 z.drew w' → w'.cell? ⟨g3, 5, none⟩ = some (.int .i64 p.vl) := fun w' h => SameBlk.cell h r5
        clear hz1 hz2 ho1 ho2 b1 b2 b3 b4 b5 b6 b7 b8 b9 b10 b11 b12
        go_upto_region 24 with fail
        refine wp_region_linR (SameBlk g3) (SameBlk.pre g3) (.take 0 (.take 1 (.take 2 (.take 3 (.take 4 (.take 5 (.take 6 (.take 7 (.take 8 (.take 9 (.take 12 (.two 10 (.two 11 (.one 13 (.take 14 (.one 15 (.done)))) 13 (.take 11 (.take 14 (.one 15 (.done))))) 13 (.take 10 (.take 11 (.take 14 (.one 15 (.done))))))))))))))))) [13, 15] (by kernel_rfl) (by kernel_rfl) (fun d _ _ _ _ h => by cases d <;> exact h) ?_
        iterate 3 (first
         | (refine wpLinR_take (v := ?_) rfl rfl (fun w' hw' => ?_) (fun K hK => ?_); rotate_left; (go_simp; rfl); (go_simp; refine hK _ ?_; clear hK K)))
        refine wpLinR_take (v := .int .i64 (q5 : Nat)) rfl rfl (fun w' hw' => ?_) (fun K hK => ?_)
        · go_simp
          refine (within18_any n 5 _ (by omega) (by omega) Hn.out.1 Hn.out.2).mono ?_
          rw [Hq5.out]; rintro e x4 ⟨rfl, rfl⟩
          exact ⟨rfl, rfl⟩
        go_simp; refine hK _ ?_; clear hK K
        iterate 5 (first
         | (refine wpLinR_take (v := ?_) rfl rfl (fun w' hw' => ?_) (fun K hK => ?_); rotate_left; (go_simp; rfl); (go_simp; refine hK _ ?_; clear hK K)))
        refine wpLinR_take (v := .int .i64 (q5 : Nat)) rfl rfl (fun w' hw' => ?_) (fun K hK => ?_)
        · go_simp
          refine (within18_any n 5 _ (by omega) (by omega) Hn.out.1 Hn.out.2).mono ?_
          rw [Hq5.out]; rintro e x4 ⟨rfl, rfl⟩
          exact ⟨rfl, rfl⟩
        go_simp; refine hK _ ?_; clear hK K
        iterate 1 (first
         | (refine wpLinR_take (v := ?_) rfl rfl (fun w' hw' => ?_) (fun K hK => ?_); rotate_left; (go_simp; rfl); (go_simp; refine hK _ ?_; clear hK K)))
        refine wpLinR_two rfl rfl (fun K hK => ?_) (fun K hK => ?_)
        · go_simp
          refine hK _ _ (.inr rfl) ?_; clear hK K
          refine wpLinR_two rfl rfl (fun K hK => ?_) (fun K hK => ?_)
          · go_simp
            refine hK _ _ (.inr rfl) ?_; clear hK K
            refine wpLinR_one rfl (fun K hK => ?_)
            go_simp
            refine hK _ _ (.inl (by decide)) ?_; clear hK K
            iterate 1 (first
             | (refine wpLinR_take (v := ?_) rfl rfl (fun w' hw' => ?_) (fun K hK => ?_); rotate_left; (go_simp; rfl); (go_simp; refine hK _ ?_; clear hK K)))
            refine wpLinR_one rfl (fun K hK => ?_)
            go_simp
            refine hK _ _ (.inl (by decide)) ?_; clear hK K
            refine wpLinR_nil ?_
            go_wp2
            go_meet
            exact ⟨⟨p.rows, p.cells, p.enc, p.rl, p.dl + (q5 : Int) - 2, p.vl - (q5 : Int) + 2, p.crc⟩, m, ws, rfl, HpN, HP, Hws, hm256, HcW, HO2, Hb5⟩
          · go_simp
            refine hK _ _ (.inl (by decide)) ?_; clear hK K
            iterate 2 (first
             | (refine wpLinR_take (v := ?_) rfl rfl (fun w' hw' => ?_) (fun K hK => ?_); rotate_left; (go_simp; rfl); (go_simp; refine hK _ ?_; clear hK K)))
            refine wpLinR_one rfl (fun K hK => ?_)
            go_simp
            refine hK _ _ (.inl (by decide)) ?_; clear hK K
            refine wpLinR_nil ?_
            go_wp2
            go_meet
            exact ⟨⟨p.rows, p.cells, p.enc, p.rl, p.dl + (q5 : Int) - 2, p.vl - (q5 : Int) + 2, p.crc⟩, m, ws, rfl, HpN, HP, Hws, hm256, HcW, HO2, Hb5⟩
        · go_simp
          refine hK _ _ (.inl (by decide)) ?_; clear hK K
          iterate 3 (first
           | (refine wpLinR_take (v := ?_) rfl rfl (fun w' hw' => ?_) (fun K hK => ?_); rotate_left; (go_simp; rfl); (go_simp; refine hK _ ?_; clear hK K)))
          refine wpLinR_one rfl (fun K hK => ?_)
          go_simp
          refine hK _ _ (.inl (by decide)) ?_; clear hK K
          refine wpLinR_nil ?_
          go_wp2
          go_meet
          exact ⟨⟨p.rows, p.cells, p.enc, p.rl, p.dl + (q5 : Int) - 2, p.vl - (q5 : Int) + 2, p.crc⟩, m, ws, rfl, HpN, HP, Hws, hm256, HcW, HO2, Hb5⟩
     · as_aux_lemma =>
        have hP := HPg.out.store 5 (.int .i64 n) ⟨p.rows, p.cells, p.enc, p.rl, p.dl, n, p.crc⟩ rfl
        have HP := Lib.hid hP
        have HO2 : Hid ((z.setCell ⟨g3, 5, none⟩ (.int .i64 n)).ownsRow (g3 + 1) 5 1 (.slice aD nE kD) nE (u8v dl)) := Lib.hid (HO.out.kept (setCell_grown z g3 5 _) (by right; intro e; have := (HO.out.lt _ e).1; omega))
        have Hb5 : Hid (Below (g1 + 2) y1 (z.setCell ⟨g3, 5, none⟩ (.int .i64 n))) := Lib.hid (Hb.out.setCell (p := ⟨g3, 5, none⟩) hg3 _)
        obtain ⟨r0, r1, r2, r3, r4, r5, r6⟩ := HPg.out.cells
        have fz := HPg.out.frz 5
        clear hP
        go_wp2
        go_meet
        exact ⟨⟨p.rows, p.cells, p.enc, p.rl, p.dl, n, p.crc⟩, m, ws, rfl, Lib.hid ⟨HpO.out.rows, HpO.out.cells, HpO.out.enc, HpO.out.rl, HpO.out.dl, Hn.out, HpO.out.crc⟩, HP, Hws, hm256, HcW, HO2, Hb5⟩
     · as_aux_lemma =>
        obtain ⟨kw, hkw, hkwb⟩ := modN' n (m + 1) (by omega)
        have Hkw : Hid (n % ((m : Int) + 1) = (kw : Int)) := Lib.hid (by rw [← hkw]; congr 1)
        have wm : IntKind.i64.wrap ((m : Int) + 1) = (m : Int) + 1 := IntWalk.i64_in _ (by omega)
        have e1 : (0 : Int) ≤ (kw : Int) := by omega
        have e2 : (kw : Int) ≤ (capW : Int) := by omega
        have Hwt : Hid ((ws.take kw).length = kw) := Lib.hid (by rw [List.length_take, Hws.out]; omega)
        have HcT : Hid (CellsAt y1 y1.heap.size aoW (kw * 2) (vlc (ws.take kw))) := Lib.hid (fun j hj => by
         obtain ⟨b, off, he, hl, hc⟩ := HcW.out j (by omega)
         exact ⟨b, off, he, hl, by rw [hc, vlc_take ws kw j hj]⟩)
        clear hkw
        go_wp2_with fail
        refine (within18_any n ((m : Int) + 1) _ (by omega) (by omega) Hn.out.1 Hn.out.2).mono ?_
        rw [Hkw.out]; rintro e x4 ⟨rfl, rfl⟩
        go_wp2
        go_meet
        exact ⟨p, kw, ws.take kw, rfl, HpO, HPg, Hwt, by omega, HcT, HO, Hb⟩
     · as_aux_lemma =>
        have hz1 := HPg.out.store 1 (.int .i64 (p.cells + (q5 : Int) - 2)) ⟨p.rows, p.cells + (q5 : Int) - 2, p.enc, p.rl, p.dl, p.vl, p.crc⟩ rfl
        have ho1 := HO.out.kept (setCell_grown z g3 1 (.int .i64 (p.cells + (q5 : Int) - 2))) (by right; intro e; have := (HO.out.lt _ e).1; omega)
        have HP : Hid (PgAt (z.setCell ⟨g3, 1, none⟩ (.int .i64 (p.cells + (q5 : Int) - 2))).drew g3 ⟨p.rows, p.cells + (q5 : Int) - 2, p.enc, p.rl, p.dl, p.vl, p.crc⟩) := Lib.hid hz1
        have HO2 : Hid ((z.setCell ⟨g3, 1, none⟩ (.int .i64 (p.cells + (q5 : Int) - 2))).drew.ownsRow (g3 + 1) 5 1 (.slice aD nE kD) nE (u8v dl)) := Lib.hid (own_below ho1 (Below.drew (Below.refl _ _)))
        have Hb5 : Hid (Below (g1 + 2) y1 (z.setCell ⟨g3, 1, none⟩ (.int .i64 (p.cells + (q5 : Int) - 2))).drew) := Lib.hid (Below.drew (Hb.out.setCell (p := ⟨g3, 1, none⟩) hg3 _))
        obtain ⟨b1, b2, b3, b4, b5, b6, b7, b8, b9, b10, b11, b12⟩ := HpB.out
        have w1 : IntKind.i64.wrap (p.cells + (q5 : Int)) = p.cells + (q5 : Int) := IntWalk.i64_in _ (by omega)
        have w2 : IntKind.i64.wrap (p.cells + (q5 : Int) - 2) = p.cells + (q5 : Int) - 2 := IntWalk.i64_in _ (by omega)
        have HpN : Hid (OkPg ⟨p.rows, p.cells + (q5 : Int) - 2, p.enc, p.rl, p.dl, p.vl, p.crc⟩) := Lib.hid ⟨HpO.out.rows, ⟨by show _ ≤ p.cells + (q5 : Int) - 2; omega, by show p.cells + (q5 : Int) - 2 ≤ _; omega⟩, HpO.out.enc, HpO.out.rl, HpO.out.dl, HpO.out.vl, HpO.out.crc⟩
        obtain ⟨r0, r1, r2, r3, r4, r5, r6⟩ := HPg.out.cells
        have fa := HPg.out.frz 1
        have pa : ∀ w', SameBlk g3 z.drew w' → w'.cell? ⟨g3, 1, none⟩ = some (.int .i64 p.cells) := fun w' h => SameBlk.cell h r1
        clear hz1 ho1 b1 b2 b3 b4 b5 b6 b7 b8 b9 b10 b11 b12
        go_upto_region 30 with fail
        refine wp_region_linR (SameBlk g3) (SameBlk.pre g3) (.take 0 (.take 1 (.take 2 (.take 3 (.take 4 (.take 5 (.take 6 (.one 7 (.done))))))))) [7] (by kernel_rfl) (by kernel_rfl) (fun d _ _ _ _ h => by cases d <;> exact h) ?_
        iterate 3 (first
         | (refine wpLinR_take (v := ?_) rfl rfl (fun w' hw' => ?_) (fun K hK => ?_); rotate_left; (go_simp; rfl); (go_simp; refine hK _ ?_; clear hK K)))
        refine wpLinR_take (v := .int .i64 (q5 : Nat)) rfl rfl (fun w' hw' => ?_) (fun K hK => ?_)
        · go_simp
          refine (within18_any n 5 _ (by omega) (by omega) Hn.out.1 Hn.out.2).mono ?_
          rw [Hq5.out]; rintro e x4 ⟨rfl, rfl⟩
          exact ⟨rfl, rfl⟩
        go_simp; refine hK _ ?_; clear hK K
        iterate 3 (first
         | (refine wpLinR_take (v := ?_) rfl rfl (fun w' hw' => ?_) (fun K hK => ?_); rotate_left; (go_simp; rfl); (go_simp; refine hK _ ?_; clear hK K)))
        refine wpLinR_one rfl (fun K hK => ?_)
        go_simp
        refine hK _ _ (.inl (by decide)) ?_; clear hK K
        refine wpLinR_nil ?_
        go_wp2
        go_meet
        exact ⟨⟨p.rows, p.cells + (q5 : Int) - 2, p.enc, p.rl, p.dl, p.vl, p.crc⟩, m, ws, rfl, HpN, HP, Hws, hm256, HcW, HO2, Hb5⟩
     · as_aux_lemma =>
        go_wp2
        go_meet
        exact ⟨p, m, ws, rfl, HpO, HPg, Hws, hm256, HcW, HO, Hb⟩
   case rest =>
   clear HO HPg Hb Htq HpB HcW Hws hm256 hmcap
   obtain ⟨p2, m2, ws2, rfl, Hp2, HPg2, Hws2, hm2, HcW2, HO, Hb⟩ := hcut
   obtain ⟨y4, hyy⟩ : ∃ z, z = wc := ⟨_, rfl⟩
   subst hyy
   go_upto_if 169 with fail
   go_cut [169] (fun v wy => v = .bool right ∧ ∃ p3, Hid (OkPg p3) ∧ Hid (PgAt wy g3 p3) ∧ Hid (wy.ownsRow (g3 + 1) 5 1 (.slice aD nE kD) nE (u8v dl)) ∧ Hid (Below (g1 + 2) y1 wy))
   case first =>
    as_aux_lemma =>
     cases right with
     | false =>
      go_wp2
      go_meet
      exact ⟨rfl, p2, Hp2, HPg2, HO, Hb⟩
     | true =>
      obtain ⟨_, _, hv, -, hcD, -⟩ := own_u8c HO.out
      simp only [Value.slice.injEq, true_and] at hv
      obtain ⟨rfl, rfl⟩ := hv
      obtain ⟨cs, hcs⟩ : ∃ cs, cs = csum dl := ⟨_, rfl⟩
      have hcs32 : cs < 4294967296 := by rw [hcs]; exact csum_lt _ Hdl.out.2
      have HS := Lib.hid (rsum_n aD nE kD dl y4 Hdl.out.1 (by omega) Hdl.out.2 hcD)
      rw [← hcs] at HS
      obtain ⟨r0, r1, r2, r3, r4, r5, r6⟩ := HPg2.out.cells
      have fz := HPg2.out.frz 6
      have HP := Lib.hid (HPg2.out.store 6 (.int .u32 (cs : Nat)) ⟨p2.rows, p2.cells, p2.enc, p2.rl, p2.dl, p2.vl, cs⟩ rfl)
      have HO2 : Hid ((y4.setCell ⟨g3, 6, none⟩ (.int .u32 (cs : Nat))).ownsRow (g3 + 1) 5 1 (.slice aD nE kD) nE (u8v dl)) := Lib.hid (HO.out.kept (setCell_grown y4 g3 6 _) (by right; intro e; have := (HO.out.lt _ e).1; omega))
      have Hb5 : Hid (Below (g1 + 2) y1 (y4.setCell ⟨g3, 6, none⟩ (.int .u32 (cs : Nat)))) := Lib.hid (Hb.out.setCell (p := ⟨g3, 6, none⟩) hg3 _)
      have Hp5 : Hid (OkPg ⟨p2.rows, p2.cells, p2.enc, p2.rl, p2.dl, p2.vl, cs⟩) := Lib.hid ⟨Hp2.out.rows, Hp2.out.cells, Hp2.out.enc, Hp2.out.rl, Hp2.out.dl, Hp2.out.vl, hcs32⟩
      clear hcs hcD
      go_wp2_with fail
      refine HS.out.mono ?_
      rintro e x4 ⟨rfl, rfl⟩
      go_wp2
      go_meet
      exact ⟨rfl, _, Hp5, HP, HO2, Hb5⟩
   case rest =>
   clear HO HPg2 Hb Hp2
   obtain ⟨rfl, p3, Hp3, HPg, HO, Hb⟩ := hcut
   obtain ⟨y5, hyy⟩ : ∃ z, z = wc := ⟨_, rfl⟩
   subst hyy
   have HPR5 := Lib.hid (HPR.out.keep Hb.out)
   have hy1b : Below y1.heap.size y1 y5 := Hb.out.mono (by rw [Hsz1.out]; exact Nat.le_refl _)
   have HcW5 := Lib.hid (HcW2.out.at hy1b)
   obtain ⟨_, _, hv, -, hcD, hzD⟩ := own_u8c HO.out
   simp only [Value.slice.injEq, true_and] at hv
   obtain ⟨rfl, rfl⟩ := hv
   have HcD := Lib.hid hcD; have HdZ : Hid (aD = none → nE = 0) := Lib.hid (fun h => (hzD h).1)
   have hn1 : nE ≤ 1000000 := hnE
   obtain ⟨hr6, hd6, hk1, hk4⟩ := Hlf.out
   obtain ⟨res, hres⟩ : ∃ res, res = pgDec lf.r lf.d lf.kind p3 dl ws2 := ⟨_, rfl⟩
   have HDc : Hid (∀ (z : World) (a : Option Addr) (k : Nat), Below y5.heap.size y5 z → CellsAt z z.heap.size a nE (u8c dl) → (a = none → nE = 0) → nE ≤ k → Calls Tryz.prog 9 #[.agg #[.int .i64 (lf.field : Nat), .int .i64 (lf.r : Nat), .int .i64 (lf.d : Nat), .int .i64 (lf.kind : Nat)], .agg #[.int .i64 p3.rows, .int .i64 p3.cells, .int .i64 p3.enc, .int .i64 p3.rl, .int .i64 p3.dl, .int .i64 p3.vl, .int .u32 (p3.crc : Nat)], .slice a nE k, .slice aoW m2 capW] z (GaveCol z res)) := Lib.hid (fun z a k hz h1 h2 h3 => by
    rw [hres]
    exact pdecode_any lf p3 a nE k dl aoW m2 capW ws2 z (by omega) (by omega) hk4 Hp3.out Hdl.out.1 h1 h2 h3 Hdl.out.2 hn1 Hws2.out (by omega) (HcW5.out.at hz))
   have HDr : Hid (∀ (z : World), Below y5.heap.size y5 z → Calls Tryz.prog 10 #[.agg #[.int .i64 (lf.field : Nat), .int .i64 (lf.r : Nat), .int .i64 (lf.d : Nat), .int .i64 (lf.kind : Nat)], .agg #[.int .i64 p3.rows, .int .i64 p3.cells, .int .i64 p3.enc, .int .i64 p3.rl, .int .i64 p3.dl, .int .i64 p3.vl, .int .u32 (p3.crc : Nat)], .slice aD nE kD, .slice aoW m2 capW] z (GaveCol z res)) := Lib.hid (fun z hz => by
    rw [hres]
    exact rdecode18_any lf p3 aD nE kD dl aoW m2 capW ws2 z (by omega) (by omega) hk4 Hp3.out Hdl.out.1 (HcD.out.at hz) HdZ.out hkD Hdl.out.2 hn1 Hws2.out (by omega) (HcW5.out.at hz))
   clear hres hcD hzD hy1b HcW2 HPR
   go_upto_region 33 with fail
   go_cut [31, 32] (fun pv ev wy => ∃ (g5 : Nat) (cv : ColV), pv = .pointer (some ⟨g5, 0, none⟩) ∧ ev = .int .i64 (res.2 : Nat) ∧ y5.heap.size ≤ g5 ∧ Hid (wy.heap[g5]? = some (.cells #[.slice cv.aoR cv.nR cv.cR, .slice cv.aoD cv.nD cv.cD, .slice cv.aoV cv.nV cv.cV] 33)) ∧ Hid (ColAt wy cv (ints res.1.1) (ints res.1.2.1) res.1.2.2) ∧ Hid (cv.nR ≤ 9223372036854775807 ∧ cv.nD ≤ 9223372036854775807 ∧ cv.nV ≤ 9223372036854775807) ∧ Hid (Below y5.heap.size y5 wy))
   case first =>
    as_aux_lemma =>
     obtain ⟨l0, l1, l2, l3⟩ := four_lf HPR5.out.l
     obtain ⟨c0, c1, c2, c3, c4, c5, c6⟩ := HPg.out.cells
     obtain ⟨B, hB⟩ : ∃ B, B = y5.heap.size := ⟨_, rfl⟩
     have hg1B : g1 < B := by rw [hB]; exact (Array.getElem?_eq_some_iff.1 HPR5.out.l).1
     have hg3B : g3 < B := by rw [hB]; exact HPg.out.lt
     have HB5 := Lib.hid hB
     clear hB
     have HdA : Hid (∀ z, Below y5.heap.size y5 z → CellsAt z z.heap.size aD nE (u8c dl)) := Lib.hid (fun z hz => HcD.out.at hz)
     have pl0 : ∀ w', Below B y5.drew w' → w'.cell? ⟨g1, 0, none⟩ = some (.int .i64 (lf.field : Nat)) := fun w' hg => (hg.cell (by exact hg1B)).trans l0
     have pl1 : ∀ w', Below B y5.drew w' → w'.cell? ⟨g1, 1, none⟩ = some (.int .i64 (lf.r : Nat)) := fun w' hg => (hg.cell (by exact hg1B)).trans l1
     have pl2 : ∀ w', Below B y5.drew w' → w'.cell? ⟨g1, 2, none⟩ = some (.int .i64 (lf.d : Nat)) := fun w' hg => (hg.cell (by exact hg1B)).trans l2
     have pl3 : ∀ w', Below B y5.drew w' → w'.cell? ⟨g1, 3, none⟩ = some (.int .i64 (lf.kind : Nat)) := fun w' hg => (hg.cell (by exact hg1B)).trans l3
     have pp0 : ∀ w', Below B y5.drew w' → w'.cell? ⟨g3, 0, none⟩ = some (.int .i64 p3.rows) := fun w' hg => (hg.cell (by exact hg3B)).trans c0
     have pp1 : ∀ w', Below B y5.drew w' → w'.cell? ⟨g3, 1, none⟩ = some (.int .i64 p3.cells) := fun w' hg => (hg.cell (by exact hg3B)).trans c1
     have pp2 : ∀ w', Below B y5.drew w' → w'.cell? ⟨g3, 2, none⟩ = some (.int .i64 p3.enc) := fun w' hg => (hg.cell (by exact hg3B)).trans c2
     have pp3 : ∀ w', Below B y5.drew w' → w'.cell? ⟨g3, 3, none⟩ = some (.int .i64 p3.rl) := fun w' hg => (hg.cell (by exact hg3B)).trans c3
     have pp4 : ∀ w', Below B y5.drew w' → w'.cell? ⟨g3, 4, none⟩ = some (.int .i64 p3.dl) := fun w' hg => (hg.cell (by exact hg3B)).trans c4
     have pp5 : ∀ w', Below B y5.drew w' → w'.cell? ⟨g3, 5, none⟩ = some (.int .i64 p3.vl) := fun w' hg => (hg.cell (by exact hg3B)).trans c5
     have pp6 : ∀ w', Below B y5.drew w' → w'.cell? ⟨g3, 6, none⟩ = some (.int .u32 (p3.crc : Nat)) := fun w' hg => (hg.cell (by exact hg3B)).trans c6
     clear l0 l1 l2 l3 c0 c1 c2 c3 c4 c5 c6
     refine wp_region_linR (Below B) ⟨fun w => Below.refl _ w, fun h k => h.trans k⟩ (.take 0 (.take 1 (.take 3 (.take 5 (.two 2 (.two 4 (.two 6 (.take 7 (.take 8 (.take 9 (.one 10 (.one 11 (.take 12 (.done))))))) 10 (.one 6 (.take 7 (.take 8 (.take 9 (.one 11 (.take 12 (.done)))))))) 10 (.one 4 (.one 6 (.take 7 (.take 8 (.take 9 (.one 11 (.take 12 (.done))))))))) 10 (.one 2 (.one 4 (.one 6 (.take 7 (.take 8 (.take 9 (.one 11 (.take 12 (.done)))))))))))))) [] (by kernel_rfl) (by kernel_rfl) (fun d _ _ _ _ h => by cases d <;> exact h) ?_
     iterate 4 (first
      | (refine wpLinR_take (v := ?_) rfl rfl (fun w' hw' => ?_) (fun K hK => ?_); rotate_left; (go_simp; rfl); (go_simp; refine hK _ ?_; clear hK K)))
     clear pl0 pl1 pl2 pl3 pp0 pp1 pp2 pp3 pp4 pp5 pp6
     refine wpLinR_two rfl rfl (fun K hK => ?_) (fun K hK => ?_)
     · obtain ⟨u1, hu1e⟩ : ∃ u, u = (y5.alloc (.cells #[] 5)).drew := ⟨_, rfl⟩
       have hbu1 : Below y5.heap.size y5 u1 := by rw [hu1e]; exact Below.drew (balloc (Below.refl _ _) _)
       have hou1 : u1.ownsRow y5.heap.size 5 1 (.slice (some ⟨y5.heap.size, 0, none⟩) 0 0) 0 [] := by rw [hu1e]; exact own_below (own_emptyP y5 _ _) (Below.drew (Below.refl _ _))
       go_simp
       rw [← hu1e]
       refine hK _ _ (.inr ⟨hbu1.os, hbu1.tape, hbu1.output, hbu1.size, fun j hj => hbu1.block j (by rw [← HB5.out]; exact hj)⟩) ?_; clear hK K
       have hBu1 : Below y5.heap.size y5 u1 := hbu1
       have hsu1 : y5.heap.size ≤ u1.heap.size := hBu1.size
       clear hu1e
       refine wpLinR_two rfl rfl (fun K hK => ?_) (fun K hK => ?_)
       · have hdA := HdA.out u1 hBu1
         refine step_append_loose1 sl_u8 rfl (.tmp 176) (.tmp 177) rfl rfl hou1 rfl hdA HdZ.out (fun _ _ => rfl) (by unfold maxLen; omega) (by omega) (Nat.le_of_lt (hou1.lt _ rfl).2) ?_
         intro v1 u2 hw1 hgA
         rw [range_u8c _ _ Hdl.out.1] at hw1
         have hw1 : u2.ownsRow y5.heap.size 5 1 v1 nE (u8v dl) := by simpa using hw1
         have hkk := hou1.lt
         have hbA : Below y5.heap.size u1 u2 := (Below.refl _ _).grown hgA hsu1 (fun k hk => by have h1 := (hkk k hk).1; have h2 : y5.heap.size ≤ y5.heap.size := Nat.le_refl _; omega)
         have hBu2 : Below y5.heap.size y5 u2 := hBu1.trans hbA
         have hsu2 : y5.heap.size ≤ u2.heap.size := hBu2.size
         obtain ⟨aC, kC, rfl, hlC, hcu2, hzC⟩ := own_u8c hw1
         have hkC := own_capG hw1
         go_simp
         refine hK _ _ (.inr (by rw [HB5.out]; exact hbA)) ?_; clear hK K
         clear hgA hkk hbA
         refine wpLinR_two rfl rfl (fun K hK => ?_) (fun K hK => ?_)
         · have hcall := Lib.hid (HDc.out u2 aC kC hBu2 hcu2 (fun h => (hzC h).1) hkC)
           go_simp
           refine hcall.out.mono ?_
           rintro e u3 ⟨cv, rfl, hcolu3, hsz, hlo, hbu3⟩
           have hBu3 : Below y5.heap.size y5 u3 := hBu2.trans (hbu3.mono hsu2)
           have hsu3 : y5.heap.size ≤ u3.heap.size := hBu3.size
           unfold ColV.v
           refine hK _ _ (.inr (hbu3.mono (by rw [HB5.out]; exact hsu2))) ?_; clear hK K hcall
           iterate 3 (first
            | (refine wpLinR_take (v := ?_) rfl rfl (fun w' hw' => ?_) (fun K hK => ?_); rotate_left; (go_simp; rfl); (go_simp; refine hK _ ?_; clear hK K)))
           refine wpLinR_one rfl (fun K hK => ?_)
           obtain ⟨g5, hg5e⟩ : ∃ g5, g5 = u3.heap.size := ⟨_, rfl⟩
           obtain ⟨u4, hu4e⟩ : ∃ u, u = u3.alloc (.cells #[.slice none 0 0, .slice none 0 0, .slice none 0 0] 33) := ⟨_, rfl⟩
           have hbu4 : Below u3.heap.size u3 u4 := by rw [hu4e]; exact balloc (Below.refl _ _) _
           have hzu4 : u4.heap[g5]? = some (.cells #[.slice none 0 0, .slice none 0 0, .slice none 0 0] 33) := by rw [hg5e, hu4e]; exact heap_alloc_new u3 _
           go_simp
           rw [← hu4e, ← hg5e]
           refine hK _ _ (.inr (hbu4.mono (by rw [HB5.out]; exact hsu3))) ?_; clear hK K
           have hBu4 : Below y5.heap.size y5 u4 := hBu3.trans (hbu4.mono hsu3)
           have hsu4 : y5.heap.size ≤ u4.heap.size := hBu4.size
           have hg5B : y5.heap.size ≤ g5 := by rw [hg5e]; exact hsu3
           have hcolu4 := hcolu3.at hbu4
           have hg5L : u3.heap.size ≤ g5 := by rw [hg5e]; exact Nat.le_refl _
           clear hu4e hg5e
           obtain ⟨t0, t1, t2, f0, f1, f2⟩ := three_cellsT hzu4
           have hfin := three_setT hzu4 (.slice cv.aoR cv.nR cv.cR) (.slice cv.aoD cv.nD cv.cD) (.slice cv.aoV cv.nV cv.cV)
           have hbut := But.three (g := g5) u4 (.slice cv.aoR cv.nR cv.cR) (.slice cv.aoD cv.nD cv.cD) (.slice cv.aoV cv.nV cv.cV)
           obtain ⟨yf, hyf⟩ : ∃ yf, yf = ((u4.setCell ⟨g5, 0, none⟩ (.slice cv.aoR cv.nR cv.cR)).setCell ⟨g5, 1, none⟩ (.slice cv.aoD cv.nD cv.cD)).setCell ⟨g5, 2, none⟩ (.slice cv.aoV cv.nV cv.cV) := ⟨_, rfl⟩
           rw [← hyf] at hfin hbut
           have hbf : Below y5.heap.size u4 yf := But.below (Below.refl _ _) hbut hg5B hsu4
           have hcf := hcolu3.at (But.below hbu4 hbut (by omega) hbu4.size)
           have Hcf := Lib.hid hcf; have Hfin := Lib.hid hfin; have Hsz := Lib.hid hsz; have Hbf := Lib.hid hbf
           have HBf := Lib.hid (hBu4.trans hbf)
           clear hcf hfin hbut hbf
           refine wpLinR_one rfl (fun K hK => ?_)
           go_simp
           rw [← hyf]
           refine hK _ _ (.inr (by rw [HB5.out]; exact Hbf.out)) ?_; clear hK K hyf t0 t1 t2 f0 f1 f2
           iterate 1 (first
            | (refine wpLinR_take (v := ?_) rfl rfl (fun w' hw' => ?_) (fun K hK => ?_); rotate_left; (go_simp; rfl); (go_simp; refine hK _ ?_; clear hK K)))
           refine wpLinR_nil ?_
           go_wp2
           go_meet
           exact ⟨g5, cv, rfl, rfl, hg5B, Hfin, Hcf, Hsz, HBf⟩
         · obtain ⟨g5, hg5e⟩ : ∃ g5, g5 = u2.heap.size := ⟨_, rfl⟩
           obtain ⟨u3, hu3e⟩ : ∃ u, u = u2.alloc (.cells #[.slice none 0 0, .slice none 0 0, .slice none 0 0] 33) := ⟨_, rfl⟩
           have hbu3 : Below u2.heap.size u2 u3 := by rw [hu3e]; exact balloc (Below.refl _ _) _
           have hzu3 : u3.heap[g5]? = some (.cells #[.slice none 0 0, .slice none 0 0, .slice none 0 0] 33) := by rw [hg5e, hu3e]; exact heap_alloc_new u2 _
           go_simp
           rw [← hu3e, ← hg5e]
           refine hK _ _ (.inr (hbu3.mono (by rw [HB5.out]; exact hsu2))) ?_; clear hK K
           have hBu3 : Below y5.heap.size y5 u3 := hBu2.trans (hbu3.mono hsu2)
           have hsu3 : y5.heap.size ≤ u3.heap.size := hBu3.size
           have hg5B : y5.heap.size ≤ g5 := by rw [hg5e]; exact hsu2
           have hcu3 := hcu2.at hbu3
           have hg5L : u2.heap.size ≤ g5 := by rw [hg5e]; exact Nat.le_refl _
           clear hu3e hg5e
           refine wpLinR_one rfl (fun K hK => ?_)
           have hcall := Lib.hid (HDc.out u3 aC kC hBu3 hcu3 (fun h => (hzC h).1) hkC)
           go_simp
           refine hcall.out.mono ?_
           rintro e u4 ⟨cv, rfl, hcolu4, hsz, hlo, hbu4⟩
           have hBu4 : Below y5.heap.size y5 u4 := hBu3.trans (hbu4.mono hsu3)
           have hsu4 : y5.heap.size ≤ u4.heap.size := hBu4.size
           have hzu4 := (hbu4.block g5 (Array.getElem?_eq_some_iff.1 hzu3).1).trans hzu3
           have hlt5 : g5 < u3.heap.size := (Array.getElem?_eq_some_iff.1 hzu3).1
           unfold ColV.v
           refine hK _ _ (.inr (hbu4.mono (by rw [HB5.out]; exact hsu3))) ?_; clear hK K hcall
           iterate 3 (first
            | (refine wpLinR_take (v := ?_) rfl rfl (fun w' hw' => ?_) (fun K hK => ?_); rotate_left; (go_simp; rfl); (go_simp; refine hK _ ?_; clear hK K)))
           obtain ⟨t0, t1, t2, f0, f1, f2⟩ := three_cellsT hzu4
           have hfin := three_setT hzu4 (.slice cv.aoR cv.nR cv.cR) (.slice cv.aoD cv.nD cv.cD) (.slice cv.aoV cv.nV cv.cV)
           have hbut := But.three (g := g5) u4 (.slice cv.aoR cv.nR cv.cR) (.slice cv.aoD cv.nD cv.cD) (.slice cv.aoV cv.nV cv.cV)
           obtain ⟨yf, hyf⟩ : ∃ yf, yf = ((u4.setCell ⟨g5, 0, none⟩ (.slice cv.aoR cv.nR cv.cR)).setCell ⟨g5, 1, none⟩ (.slice cv.aoD cv.nD cv.cD)).setCell ⟨g5, 2, none⟩ (.slice cv.aoV cv.nV cv.cV) := ⟨_, rfl⟩
           rw [← hyf] at hfin hbut
           have hbf : Below y5.heap.size u4 yf := But.below (Below.refl _ _) hbut hg5B hsu4
           have hcf := hcolu4.but hbut (hlo.mono (by omega))
           have Hcf := Lib.hid hcf; have Hfin := Lib.hid hfin; have Hsz := Lib.hid hsz; have Hbf := Lib.hid hbf
           have HBf := Lib.hid (hBu4.trans hbf)
           clear hcf hfin hbut hbf
           refine wpLinR_one rfl (fun K hK => ?_)
           go_simp
           rw [← hyf]
           refine hK _ _ (.inr (by rw [HB5.out]; exact Hbf.out)) ?_; clear hK K hyf t0 t1 t2 f0 f1 f2
           iterate 1 (first
            | (refine wpLinR_take (v := ?_) rfl rfl (fun w' hw' => ?_) (fun K hK => ?_); rotate_left; (go_simp; rfl); (go_simp; refine hK _ ?_; clear hK K)))
           refine wpLinR_nil ?_
           go_wp2
           go_meet
           exact ⟨g5, cv, rfl, rfl, hg5B, Hfin, Hcf, Hsz, HBf⟩
       · obtain ⟨g5, hg5e⟩ : ∃ g5, g5 = u1.heap.size := ⟨_, rfl⟩
         obtain ⟨u2, hu2e⟩ : ∃ u, u = u1.alloc (.cells #[.slice none 0 0, .slice none 0 0, .slice none 0 0] 33) := ⟨_, rfl⟩
         have hbu2 : Below u1.heap.size u1 u2 := by rw [hu2e]; exact balloc (Below.refl _ _) _
         have hzu2 : u2.heap[g5]? = some (.cells #[.slice none 0 0, .slice none 0 0, .slice none 0 0] 33) := by rw [hg5e, hu2e]; exact heap_alloc_new u1 _
         go_simp
         rw [← hu2e, ← hg5e]
         refine hK _ _ (.inr (hbu2.mono (by rw [HB5.out]; exact hsu1))) ?_; clear hK K
         have hBu2 : Below y5.heap.size y5 u2 := hBu1.trans (hbu2.mono hsu1)
         have hsu2 : y5.heap.size ≤ u2.heap.size := hBu2.size
         have hg5B : y5.heap.size ≤ g5 := by rw [hg5e]; exact hsu1
         have hou2 := own_below hou1 hbu2
         have hne5 : ∀ k, (Value.slice (some ⟨y5.heap.size, 0, none⟩) 0 0).ownBlock = some k → k < g5 := fun k hk => by have := (hou1.lt k hk).2; omega
         have hg5L : u1.heap.size ≤ g5 := by rw [hg5e]; exact Nat.le_refl _
         clear hu2e hg5e
         refine wpLinR_one rfl (fun K hK => ?_)
         have hdA := HdA.out u2 hBu2
         refine step_append_loose1 sl_u8 rfl (.tmp 176) (.tmp 177) rfl rfl hou2 rfl hdA HdZ.out (fun _ _ => rfl) (by unfold maxLen; omega) (by omega) (Nat.le_of_lt (hou2.lt _ rfl).2) ?_
         intro v1 u3 hw1 hgA
         rw [range_u8c _ _ Hdl.out.1] at hw1
         have hw1 : u3.ownsRow y5.heap.size 5 1 v1 nE (u8v dl) := by simpa using hw1
         have hkk := hou2.lt
         have hbA : Below y5.heap.size u2 u3 := (Below.refl _ _).grown hgA hsu2 (fun k hk => by have h1 := (hkk k hk).1; have h2 : y5.heap.size ≤ y5.heap.size := Nat.le_refl _; omega)
         have hBu3 : Below y5.heap.size y5 u3 := hBu2.trans hbA
         have hsu3 : y5.heap.size ≤ u3.heap.size := hBu3.size
         obtain ⟨aC, kC, rfl, hlC, hcu3, hzC⟩ := own_u8c hw1
         have hkC := own_capG hw1
         have hzu3 := (hgA.block g5 (Array.getElem?_eq_some_iff.1 hzu2).1 (fun e => by have := hne5 _ e.symm; omega)).trans hzu2
         go_simp
         refine hK _ _ (.inr (by rw [HB5.out]; exact hbA)) ?_; clear hK K
         clear hgA hkk hbA
         refine wpLinR_one rfl (fun K hK => ?_)
         have hcall := Lib.hid (HDc.out u3 aC kC hBu3 hcu3 (fun h => (hzC h).1) hkC)
         go_simp
         refine hcall.out.mono ?_
         rintro e u4 ⟨cv, rfl, hcolu4, hsz, hlo, hbu4⟩
         have hBu4 : Below y5.heap.size y5 u4 := hBu3.trans (hbu4.mono hsu3)
         have hsu4 : y5.heap.size ≤ u4.heap.size := hBu4.size
         have hzu4 := (hbu4.block g5 (Array.getElem?_eq_some_iff.1 hzu3).1).trans hzu3
         have hlt5 : g5 < u3.heap.size := (Array.getElem?_eq_some_iff.1 hzu3).1
         unfold ColV.v
         refine hK _ _ (.inr (hbu4.mono (by rw [HB5.out]; exact hsu3))) ?_; clear hK K hcall
         iterate 3 (first
          | (refine wpLinR_take (v := ?_) rfl rfl (fun w' hw' => ?_) (fun K hK => ?_); rotate_left; (go_simp; rfl); (go_simp; refine hK _ ?_; clear hK K)))
         obtain ⟨t0, t1, t2, f0, f1, f2⟩ := three_cellsT hzu4
         have hfin := three_setT hzu4 (.slice cv.aoR cv.nR cv.cR) (.slice cv.aoD cv.nD cv.cD) (.slice cv.aoV cv.nV cv.cV)
         have hbut := But.three (g := g5) u4 (.slice cv.aoR cv.nR cv.cR) (.slice cv.aoD cv.nD cv.cD) (.slice cv.aoV cv.nV cv.cV)
         obtain ⟨yf, hyf⟩ : ∃ yf, yf = ((u4.setCell ⟨g5, 0, none⟩ (.slice cv.aoR cv.nR cv.cR)).setCell ⟨g5, 1, none⟩ (.slice cv.aoD cv.nD cv.cD)).setCell ⟨g5, 2, none⟩ (.slice cv.aoV cv.nV cv.cV) := ⟨_, rfl⟩
         rw [← hyf] at hfin hbut
         have hbf : Below y5.heap.size u4 yf := But.below (Below.refl _ _) hbut hg5B hsu4
         have hcf := hcolu4.but hbut (hlo.mono (by omega))
         have Hcf := Lib.hid hcf; have Hfin := Lib.hid hfin; have Hsz := Lib.hid hsz; have Hbf := Lib.hid hbf
         have HBf := Lib.hid (hBu4.trans hbf)
         clear hcf hfin hbut hbf
         refine wpLinR_one rfl (fun K hK => ?_)
         go_simp
         rw [← hyf]
         refine hK _ _ (.inr (by rw [HB5.out]; exact Hbf.out)) ?_; clear hK K hyf t0 t1 t2 f0 f1 f2
         iterate 1 (first
          | (refine wpLinR_take (v := ?_) rfl rfl (fun w' hw' => ?_) (fun K hK => ?_); rotate_left; (go_simp; rfl); (go_simp; refine hK _ ?_; clear hK K)))
         refine wpLinR_nil ?_
         go_wp2
         go_meet
         exact ⟨g5, cv, rfl, rfl, hg5B, Hfin, Hcf, Hsz, HBf⟩
     · obtain ⟨g5, hg5e⟩ : ∃ g5, g5 = y5.heap.size := ⟨_, rfl⟩
       obtain ⟨u1, hu1e⟩ : ∃ u, u = (y5.alloc (.cells #[.slice none 0 0, .slice none 0 0, .slice none 0 0] 33)).drew := ⟨_, rfl⟩
       have hbu1 : Below y5.heap.size y5 u1 := by rw [hu1e]; exact Below.drew (balloc (Below.refl _ _) _)
       have hzu1 : u1.heap[g5]? = some (.cells #[.slice none 0 0, .slice none 0 0, .slice none 0 0] 33) := by rw [hg5e, hu1e]; exact heap_alloc_new y5 _
       go_simp
       rw [← hu1e, ← hg5e]
       refine hK _ _ (.inr ⟨hbu1.os, hbu1.tape, hbu1.output, hbu1.size, fun j hj => hbu1.block j (by rw [← HB5.out]; exact hj)⟩) ?_; clear hK K
       have hBu1 : Below y5.heap.size y5 u1 := hbu1
       have hsu1 : y5.heap.size ≤ u1.heap.size := hBu1.size
       have hg5B : y5.heap.size ≤ g5 := by rw [hg5e]; exact Nat.le_refl _
       have hg5L : y5.heap.size ≤ g5 := by rw [hg5e]; exact Nat.le_refl _
       clear hu1e hg5e
       refine wpLinR_one rfl (fun K hK => ?_)
       obtain ⟨u2, hu2e⟩ : ∃ u, u = u1.alloc (.cells #[] 5) := ⟨_, rfl⟩
       have hbu2 : Below u1.heap.size u1 u2 := by rw [hu2e]; exact balloc (Below.refl _ _) _
       have hou2 : u2.ownsRow u1.heap.size 5 1 (.slice (some ⟨u1.heap.size, 0, none⟩) 0 0) 0 [] := by rw [hu2e]; exact own_emptyP u1 _ _
       go_simp
       rw [← hu2e]
       refine hK _ _ (.inr (hbu2.mono (by rw [HB5.out]; exact hsu1))) ?_; clear hK K
       have hBu2 : Below y5.heap.size y5 u2 := hBu1.trans (hbu2.mono hsu1)
       have hsu2 : y5.heap.size ≤ u2.heap.size := hBu2.size
       have hzu2 := (hbu2.block g5 (Array.getElem?_eq_some_iff.1 hzu1).1).trans hzu1
       have hne5 : ∀ k, (Value.slice (some ⟨u1.heap.size, 0, none⟩) 0 0).ownBlock = some k → g5 < k := fun k hk => by have := (hou2.lt k hk).1; have := (Array.getElem?_eq_some_iff.1 hzu1).1; omega
       clear hu2e
       refine wpLinR_one rfl (fun K hK => ?_)
       have hdA := HdA.out u2 hBu2
       refine step_append_loose1 sl_u8 rfl (.tmp 176) (.tmp 177) rfl rfl hou2 rfl hdA HdZ.out (fun _ _ => rfl) (by unfold maxLen; omega) (by omega) (Nat.le_of_lt (hou2.lt _ rfl).2) ?_
       intro v1 u3 hw1 hgA
       rw [range_u8c _ _ Hdl.out.1] at hw1
       have hw1 : u3.ownsRow u1.heap.size 5 1 v1 nE (u8v dl) := by simpa using hw1
       have hkk := hou2.lt
       have hbA : Below y5.heap.size u2 u3 := (Below.refl _ _).grown hgA hsu2 (fun k hk => by have h1 := (hkk k hk).1; have h2 : y5.heap.size ≤ u1.heap.size := hsu1; omega)
       have hBu3 : Below y5.heap.size y5 u3 := hBu2.trans hbA
       have hsu3 : y5.heap.size ≤ u3.heap.size := hBu3.size
       obtain ⟨aC, kC, rfl, hlC, hcu3, hzC⟩ := own_u8c hw1
       have hkC := own_capG hw1
       have hzu3 := (hgA.block g5 (Array.getElem?_eq_some_iff.1 hzu2).1 (fun e => by have := hne5 _ e.symm; omega)).trans hzu2
       go_simp
       refine hK _ _ (.inr (by rw [HB5.out]; exact hbA)) ?_; clear hK K
       clear hgA hkk hbA
       refine wpLinR_one rfl (fun K hK => ?_)
       have hcall := Lib.hid (HDc.out u3 aC kC hBu3 hcu3 (fun h => (hzC h).1) hkC)
       go_simp
       refine hcall.out.mono ?_
       rintro e u4 ⟨cv, rfl, hcolu4, hsz, hlo, hbu4⟩
       have hBu4 : Below y5.heap.size y5 u4 := hBu3.trans (hbu4.mono hsu3)
       have hsu4 : y5.heap.size ≤ u4.heap.size := hBu4.size
       have hzu4 := (hbu4.block g5 (Array.getElem?_eq_some_iff.1 hzu3).1).trans hzu3
       have hlt5 : g5 < u3.heap.size := (Array.getElem?_eq_some_iff.1 hzu3).1
       unfold ColV.v
       refine hK _ _ (.inr (hbu4.mono (by rw [HB5.out]; exact hsu3))) ?_; clear hK K hcall
       iterate 3 (first
        | (refine wpLinR_take (v := ?_) rfl rfl (fun w' hw' => ?_) (fun K hK => ?_); rotate_left; (go_simp; rfl); (go_simp; refine hK _ ?_; clear hK K)))
       obtain ⟨t0, t1, t2, f0, f1, f2⟩ := three_cellsT hzu4
       have hfin := three_setT hzu4 (.slice cv.aoR cv.nR cv.cR) (.slice cv.aoD cv.nD cv.cD) (.slice cv.aoV cv.nV cv.cV)
       have hbut := But.three (g := g5) u4 (.slice cv.aoR cv.nR cv.cR) (.slice cv.aoD cv.nD cv.cD) (.slice cv.aoV cv.nV cv.cV)
       obtain ⟨yf, hyf⟩ : ∃ yf, yf = ((u4.setCell ⟨g5, 0, none⟩ (.slice cv.aoR cv.nR cv.cR)).setCell ⟨g5, 1, none⟩ (.slice cv.aoD cv.nD cv.cD)).setCell ⟨g5, 2, none⟩ (.slice cv.aoV cv.nV cv.cV) := ⟨_, rfl⟩
       rw [← hyf] at hfin hbut
       have hbf : Below y5.heap.size u4 yf := But.below (Below.refl _ _) hbut hg5B hsu4
       have hcf := hcolu4.but hbut (hlo.mono (by omega))
       have Hcf := Lib.hid hcf; have Hfin := Lib.hid hfin; have Hsz := Lib.hid hsz; have Hbf := Lib.hid hbf
       have HBf := Lib.hid (hBu4.trans hbf)
       clear hcf hfin hbut hbf
       refine wpLinR_one rfl (fun K hK => ?_)
       go_simp
       rw [← hyf]
       refine hK _ _ (.inr (by rw [HB5.out]; exact Hbf.out)) ?_; clear hK K hyf t0 t1 t2 f0 f1 f2
       iterate 1 (first
        | (refine wpLinR_take (v := ?_) rfl rfl (fun w' hw' => ?_) (fun K hK => ?_); rotate_left; (go_simp; rfl); (go_simp; refine hK _ ?_; clear hK K)))
       refine wpLinR_nil ?_
       go_wp2
       go_meet
       exact ⟨g5, cv, rfl, rfl, hg5B, Hfin, Hcf, Hsz, HBf⟩
   case rest =>
   clear HDc HO Hdl HdZ HcD
   obtain ⟨g5, cv, rfl, rfl, hg5, Hf5, Hc5, Hs5, Hb6⟩ := hcut
   obtain ⟨y6, hyy⟩ : ∃ z, z = wc := ⟨_, rfl⟩
   subst hyy
   have hy5g : g1 + 2 ≤ y5.heap.size := (Array.getElem?_eq_some_iff.1 HPR5.out.c).1
   have hg1' : g0 < g1 := HPR5.out.h1
   have HPR6 := Lib.hid (HPR5.out.keep (Hb6.out.mono hy5g))
   have HPg6 : Hid (PgAt y6 g3 p3) := Lib.hid (HPg.out.keep (Hb6.out.block g3 HPg.out.lt))
   obtain ⟨l0, l1, l2, l3⟩ := four_lf HPR6.out.l
   obtain ⟨c0, c1, c2, c3, c4, c5, c6⟩ := HPg6.out.cells
   have HD6 := Lib.hid (HDr.out y6 Hb6.out)
   obtain ⟨ec, hec⟩ : ∃ ec, ec = res.2 := ⟨_, rfl⟩
   unfold GaveCol at HD6
   rw [← hec] at HD6 ⊢
   clear hec
   go_wp2_with fail
   refine HD6.out.mono ?_
   rintro e y7 ⟨cw, rfl, hcol7, hsz7, hlo7, hb7⟩
   have Hcol7 := Lib.hid hcol7; have Hsz7 := Lib.hid hsz7; have Hb7 := Lib.hid hb7
   unfold ColV.v
   clear hcol7 hsz7 hlo7 hb7 HD6 HDr l0 l1 l2 l3 c0 c1 c2 c3 c4 c5 c6
   go_upto_region 35 with fail
   obtain ⟨g6, hg6⟩ : ∃ g6, g6 = y7.heap.size := ⟨_, rfl⟩
   obtain ⟨y8, hy8⟩ : ∃ y8, y8 = y7.alloc (.cells #[.slice cw.aoR cw.nR cw.cR, .slice cw.aoD cw.nD cw.cD, .slice cw.aoV cw.nV cw.cV] 33) := ⟨_, rfl⟩
   have hb8 : Below y7.heap.size y7 y8 := by rw [hy8]; exact balloc (Below.refl _ _) _
   have hk6 : y8.heap[g6]? = some (.cells #[.slice cw.aoR cw.nR cw.cR, .slice cw.aoD cw.nD cw.cD, .slice cw.aoV cw.nV cw.cV] 33) := by rw [hg6, hy8]; exact heap_alloc_new y7 _
   rw [← hy8, ← hg6]
   have hg5y : g5 < y6.heap.size := (Array.getElem?_eq_some_iff.1 Hf5.out).1
   have hk5 : y8.heap[g5]? = some (.cells #[.slice cv.aoR cv.nR cv.cR, .slice cv.aoD cv.nD cv.cD, .slice cv.aoV cv.nV cv.cV] 33) := (hb8.block g5 (Nat.lt_of_lt_of_le hg5y Hb7.out.size)).trans ((Hb7.out.block g5 hg5y).trans Hf5.out)
   have hg56 : g5 < g6 := by rw [hg6]; exact Nat.lt_of_lt_of_le hg5y Hb7.out.size
   have hb68 := bmore Hb7.out hb8
   have HSm := Lib.hid (same14_any cv cw (ints res.1.1) (ints res.1.2.1) res.1.2.2 y8 (Hc5.out.at hb68) (Hcol7.out.at hb8) Hs5.out)
   unfold ColV.v at HSm
   have Hb8 : Hid (Below y5.heap.size y5 y8) := Lib.hid (Hb6.out.trans (hb68.mono Hb6.out.size))
   obtain ⟨u0, u1, u2, -⟩ := three_cellsT hk5
   obtain ⟨v0, v1, v2, -⟩ := three_cellsT hk6
   have Hk5 := Lib.hid hk5; have Hk6 := Lib.hid hk6
   have f1 : ((ec : Int) != (ec : Int)) = false := by simp
   clear hy8 hg6 hb8 hk5 hk6 hb68 Hf5 Hc5 Hcol7 Hsz7 Hb7 Hs5
   go_wp2_with fail
   refine HSm.out.mono ?_
   rintro e y9 ⟨rfl, hb9⟩
   have hg6y : g6 < y8.heap.size := (Array.getElem?_eq_some_iff.1 Hk6.out).1
   have Hk5' : Hid (y9.heap[g5]? = some (.cells #[.slice cv.aoR cv.nR cv.cR, .slice cv.aoD cv.nD cv.cD, .slice cv.aoV cv.nV cv.cV] 33)) := Lib.hid ((hb9.block g5 (by omega)).trans Hk5.out)
   have Hk6' : Hid (y9.heap[g6]? = some (.cells #[.slice cw.aoR cw.nR cw.cR, .slice cw.aoD cw.nD cw.cD, .slice cw.aoV cw.nV cw.cV] 33)) := Lib.hid ((hb9.block g6 hg6y).trans Hk6.out)
   have Hb9 : Hid (Below y5.heap.size y5 y9) := Lib.hid (Hb8.out.trans (hb9.mono Hb8.out.size))
   have hg69 : g6 < y9.heap.size := Nat.lt_of_lt_of_le hg6y hb9.size
   have HPR9 := Lib.hid (HPR5.out.keep (Hb9.out.mono hy5g))
   have hg0 : g0 = w.heap.size := HPR5.out.h0
   have Hg0' := Lib.hid hg0
   clear hb9 HSm Hk5 Hk6 Hb8 u0 u1 u2 v0 v1 v2 hg0 HPR5 HPR6 HPg6 HPg
   go_upto_if 200 with fail
   go_cut [200] (fun v wy => ∃ raw2, Hid (OkPg raw2) ∧ Hid (PgAt wy g0 raw2) ∧ Hid (But g0 y9 wy))
   case first =>
    as_aux_lemma =>
     cases right with
     | false =>
      go_wp2
      go_meet
      exact ⟨raw, Hraw, Lib.hid HPR9.out.raw, Lib.hid (But.refl _ _)⟩
     | true =>
      obtain ⟨cs, hcs⟩ : ∃ cs, cs = csum ybs := ⟨_, rfl⟩
      have hcs32 : cs < 4294967296 := by rw [hcs]; exact csum_lt _ HY.out.2.1
      have HS := Lib.hid (rsum_n aoY lenY capY ybs y9 HY.out.1 hlenY HY.out.2.1 (HY.out.2.2.1.at HPR9.out.b))
      rw [← hcs] at HS
      obtain ⟨r0, r1, r2, r3, r4, r5, r6⟩ := HPR9.out.raw.cells
      have fz := HPR9.out.raw.frz 6
      have HP := Lib.hid (HPR9.out.raw.store 6 (.int .u32 (cs : Nat)) ⟨raw.rows, raw.cells, raw.enc, raw.rl, raw.dl, raw.vl, cs⟩ rfl)
      have Hp5 : Hid (OkPg ⟨raw.rows, raw.cells, raw.enc, raw.rl, raw.dl, raw.vl, cs⟩) := Lib.hid ⟨Hraw.out.rows, Hraw.out.cells, Hraw.out.enc, Hraw.out.rl, Hraw.out.dl, Hraw.out.vl, hcs32⟩
      clear hcs
      go_wp2_with fail
      refine HS.out.mono ?_
      rintro e x4 ⟨rfl, rfl⟩
      go_wp2
      go_meet
      exact ⟨_, Hp5, HP, Lib.hid ((But.refl _ _).setCell 6 _)⟩
   case rest =>
   obtain ⟨raw2, Hr2, HP2, Hbt⟩ := hcut
   obtain ⟨y10, hyy⟩ : ∃ z, z = wc := ⟨_, rfl⟩
   subst hyy
   have hl10 := (Hbt.out.block g1 (Array.getElem?_eq_some_iff.1 HPR9.out.l).1 (by omega)).trans HPR9.out.l
   have hk5 := (Hbt.out.block g5 (by omega) (by omega)).trans Hk5'.out
   have hk6 := (Hbt.out.block g6 hg69 (by omega)).trans Hk6'.out
   have hbw : Below w.heap.size w y10 := But.below HPR9.out.b Hbt.out (by rw [Hg0'.out]; exact Nat.le_refl _) HPR9.out.b.size
   have hcw10 : CellsAt y10 y5.heap.size aoW (m2 * 2) (vlc ws2) := fun i hi => by
    obtain ⟨b, off, he, hl, hc⟩ := (HcW5.out.below Hb9.out) i hi
    refine ⟨b, off, he, hl, ?_⟩
    have h1 : b ≠ g0 := by have h2 := HlW.out _ he; simp only at h2; omega
    rw [World.cell?_of_block (Hbt.out.block b (Nat.lt_of_lt_of_le hl Hb9.out.size) h1)]; exact hc
   have h59 : y5.heap.size ≤ y10.heap.size := Nat.le_trans Hb9.out.size Hbt.out.size
   have h60 : g6 < y10.heap.size := Nat.lt_of_lt_of_le hg69 Hbt.out.size
   have hlY6 : lenY ≤ 1000000 := by omega
   obtain ⟨res2, hres2⟩ : ∃ res, res = pgDec lf.r lf.d lf.kind raw2 ybs ws2 := ⟨_, rfl⟩
   have HDc2 := Lib.hid (pdecode_any lf raw2 aoY lenY capY ybs aoW m2 capW ws2 y10 (by omega) (by omega) hk4 Hr2.out HY.out.1 (HY.out.2.2.1.at hbw) HY.out.2.2.2 hcapY HY.out.2.1 hlY6 Hws2.out (by omega) (hcw10.mono h59))
   have HDr2 : Hid (∀ z, Below y5.heap.size y10 z → Calls Tryz.prog 10 #[.agg #[.int .i64 (lf.field : Nat), .int .i64 (lf.r : Nat), .int .i64 (lf.d : Nat), .int .i64 (lf.kind : Nat)], .agg #[.int .i64 raw2.rows, .int .i64 raw2.cells, .int .i64 raw2.enc, .int .i64 raw2.rl, .int .i64 raw2.dl, .int .i64 raw2.vl, .int .u32 (raw2.crc : Nat)], .slice aoY lenY capY, .slice aoW m2 capW] z (GaveCol z res2)) := Lib.hid (fun z hz => by
    rw [hres2]
    exact rdecode18_any lf raw2 aoY lenY capY ybs aoW m2 capW ws2 z (by omega) (by omega) hk4 Hr2.out HY.out.1 (HY.out.2.2.1.at (hbw.trans (hz.mono (by have := Hg0'.out; omega)))) HY.out.2.2.2 hcapY HY.out.2.1 hlY6 Hws2.out (by omega) ((hcw10.below hz).mono (Nat.le_trans h59 hz.size)))
   unfold lfA pgV at HDc2
   rw [← hres2] at HDc2
   obtain ⟨ec2, hec2⟩ : ∃ ec, ec = res2.2 := ⟨_, rfl⟩
   unfold GaveCol at HDc2 HDr2
   rw [← hec2] at HDc2 HDr2
   have Hl10 := Lib.hid hl10; have Hk5 := Lib.hid hk5; have Hk6 := Lib.hid hk6; have Hbw := Lib.hid hbw
   obtain ⟨l0, l1, l2, l3⟩ := four_lf hl10
   obtain ⟨c0, c1, c2, c3, c4, c5, c6⟩ := HP2.out.cells
   obtain ⟨u0, u1, u2, uf0, uf1, uf2⟩ := three_cellsT hk5
   clear hres2 hec2 hl10 hk5 hk6 hbw hcw10 HPR9 Hk5' Hk6' Hb9
   go_wp2_with fail
   refine HDc2.out.mono ?_
   rintro e y11 ⟨cx, rfl, hcx, hszx, hlox, hb11⟩
   have hk5x := (hb11.block g5 (by omega)).trans Hk5.out
   obtain ⟨u0, u1, u2, uf0, uf1, uf2⟩ := three_cellsT hk5x
   have hf5 := three_setT hk5x (.slice cx.aoR cx.nR cx.cR) (.slice cx.aoD cx.nD cx.cD) (.slice cx.aoV cx.nV cx.cV)
   have hbt5 := But.three (g := g5) y11 (.slice cx.aoR cx.nR cx.cR) (.slice cx.aoD cx.nD cx.cD) (.slice cx.aoV cx.nV cx.cV)
   obtain ⟨y12, hy12⟩ : ∃ y12, y12 = (((y11.setCell ⟨g5, 0, none⟩ (.slice cx.aoR cx.nR cx.cR)).setCell ⟨g5, 1, none⟩ (.slice cx.aoD cx.nD cx.cD)).setCell ⟨g5, 2, none⟩ (.slice cx.aoV cx.nV cx.cV)) := ⟨_, rfl⟩
   rw [← hy12] at hf5 hbt5
   have hb12 : Below y5.heap.size y10 y12 := But.below (hb11.mono h59) hbt5 hg5 (Nat.le_trans h59 hb11.size)
   have hcx12 := hcx.but hbt5 (hlox.mono (by omega))
   have h6x : g6 < y11.heap.size := Nat.lt_of_lt_of_le h60 hb11.size
   have hk6x := (hbt5.block g6 h6x (by omega)).trans ((hb11.block g6 h60).trans Hk6.out)
   have hl12 := (hb12.block g1 (by omega)).trans Hl10.out
   have hP12 : PgAt y12 g0 raw2 := HP2.out.keep (hb12.block g0 (by omega))
   have h12s : y10.heap.size ≤ y12.heap.size := Nat.le_trans hb11.size hbt5.size
   have Hcx := Lib.hid hcx12; have Hszx := Lib.hid hszx; have Hlox := Lib.hid hlox; have Hf5 := Lib.hid hf5; have Hk6x := Lib.hid hk6x; have Hb12 := Lib.hid hb12
   have HD12 := Lib.hid (HDr2.out y12 hb12)
   have Hy12 := Lib.hid hy12
   have Hl12 := Lib.hid hl12; have HP12 := Lib.hid hP12
   unfold ColV.v
   clear hcx hszx hlox hb11 hk5x hf5 hbt5 hy12 hb12 hcx12 hk6x hl12 hP12 HDc2 HDr2 l0 l1 l2 l3 c0 c1 c2 c3 c4 c5 c6
   go_upto_region 40 with fail
   rw [← Hy12.out]
   clear u0 u1 u2 uf0 uf1 uf2 Hy12
   obtain ⟨l0, l1, l2, l3⟩ := four_lf Hl12.out
   obtain ⟨c0, c1, c2, c3, c4, c5, c6⟩ := HP12.out.cells
   go_wp2_with fail
   refine HD12.out.mono ?_
   rintro e y13 ⟨cy, rfl, hcy, hszy, hloy, hb13⟩
   have hk6y := (hb13.block g6 (by omega)).trans Hk6x.out
   obtain ⟨v0, v1, v2, vf0, vf1, vf2⟩ := three_cellsT hk6y
   have hf6 := three_setT hk6y (.slice cy.aoR cy.nR cy.cR) (.slice cy.aoD cy.nD cy.cD) (.slice cy.aoV cy.nV cy.cV)
   have hbt6 := But.three (g := g6) y13 (.slice cy.aoR cy.nR cy.cR) (.slice cy.aoD cy.nD cy.cD) (.slice cy.aoV cy.nV cy.cV)
   obtain ⟨y14, hy14⟩ : ∃ y14, y14 = (((y13.setCell ⟨g6, 0, none⟩ (.slice cy.aoR cy.nR cy.cR)).setCell ⟨g6, 1, none⟩ (.slice cy.aoD cy.nD cy.cD)).setCell ⟨g6, 2, none⟩ (.slice cy.aoV cy.nV cy.cV)) := ⟨_, rfl⟩
   rw [← hy14] at hf6 hbt6
   have hk5y := (hbt6.block g5 (by have := hb13.size; omega) (by omega)).trans ((hb13.block g5 (by omega)).trans Hf5.out)
   have hcx14 := (Hcx.out.at hb13).but hbt6 (Hlox.out.mono (by omega))
   have hcy14 := hcy.but hbt6 (hloy.mono (by omega))
   have hb14 : Below w.heap.size w y14 := But.below ((Hbw.out.trans (Hb12.out.mono (by have := Hg0'.out; omega))).trans (hb13.mono (by have := Hbw.out.size; omega))) hbt6 (by have := Hg0'.out; omega) (Nat.le_trans (Nat.le_trans Hbw.out.size h12s) hb13.size)
   have HSm2 := Lib.hid (same14_any cx cy (ints res2.1.1) (ints res2.1.2.1) res2.1.2.2 y14 hcx14 hcy14 Hszx.out)
   unfold ColV.v at HSm2
   have Hf6 := Lib.hid hf6; have Hk5y := Lib.hid hk5y; have Hy14 := Lib.hid hy14; have Hb14 := Lib.hid hb14
   have f2 : ((ec2 : Int) == (ec2 : Int)) = true := by simp
   unfold ColV.v
   clear hcy hszy hloy hb13 hk6y hf6 hbt6 hy14 hk5y hcx14 hcy14 hb14 HD12 l0 l1 l2 l3 c0 c1 c2 c3 c4 c5 c6
   go_upto_region 41 with fail
   rw [← Hy14.out]
   clear v0 v1 v2 vf0 vf1 vf2 Hy14
   obtain ⟨u0, u1, u2, -⟩ := three_cellsT Hk5y.out
   obtain ⟨v0, v1, v2, -⟩ := three_cellsT Hf6.out
   go_wp2_with fail
   refine HSm2.out.mono ?_
   rintro e y15 ⟨rfl, hb15⟩
   have HBf := Lib.hid (bmore Hb14.out hb15)
   clear hb15
   go_wp2
   go_ret
   exact ⟨rfl, HBf.out⟩
end Go.Proofs.YtebmbkbnngeabaaGreat
