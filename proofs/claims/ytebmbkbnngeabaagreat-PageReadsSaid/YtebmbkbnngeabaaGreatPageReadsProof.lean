/-
  Proved: PageReadsSaid: for every input the law PageReads returns true, and each argument reads behind the call as it read before.
  Conditions: none beyond the row's own.
-/
import Derived.Test.YtebmbkbnngeabaaGreatRows
import Derived.Test.YtebmbkbnngeabaaGreatPgRd
import Derived.WalkKit
import Derived.ProofKit
import Derived.OpenShut
import Derived.JoinedCond
import Derived.ChangeOld
import Derived.Below
import Derived.Deep.Matrix
set_option linter.unusedSimpArgs false
namespace Go.Proofs.YtebmbkbnngeabaaGreat.pageReads
open Go.ChangeShapes Go.WideShapes Go.ChangeAt Go.RowKit Go.Deep
set_option linter.unusedVariables false
theorem own : ownKnob Tryz.prog.godebug = none := by kernel_rfl
theorem laidOut : laidOutB Tryz.prog = true := by kernel_rfl
theorem rows_open {H : Type} {enc : TypeId × Value → H} {W : World} {base : Nat} {held : Bool} {fuel : Nat} {ao : Option Addr} {len cap : Nat} {x : DataW H × List MemPlace}
 (hf : DataW.trod enc Tryz.prog W base (fun _ => true) held fuel 23 [.slice ao len cap] = some x) : RowsAt W ao len ∧ len ≤ 9223372036854775807 := by
 rcases open_int_rows Tryz.underlying23 Tryz.underlying22 Tryz.underlying3 (by kernel_rfl) (by kernel_rfl) hf with ⟨hcs, _⟩ | ⟨a, l, c, A, L, C, Z, hcs, _, hl, hm, hx, hr⟩
 · simp at hcs
   obtain ⟨rfl, rfl, rfl⟩ := hcs
   exact ⟨fun i hi => absurd hi (Nat.not_lt_zero i), by decide⟩
 · simp at hcs
   obtain ⟨rfl, rfl, rfl⟩ := hcs
   unfold maxLen at hm
   refine ⟨fun i hi => ?_, by omega⟩
   obtain ⟨hcell, hLC, hC, hZ, hwf, hn, hc⟩ := hr i (by omega)
   have h0c := (hr 0 (by omega)).1
   have hs : a.spot = none := cell_spot (by simpa [Addr.add] using h0c)
   obtain ⟨b, off, spot⟩ := a
   simp only at hs
   subst hs
   rw [Addr.add_lit] at hcell
   have hrow : IsRow .i64 W (A i) (L i) (C i) (Z i) := by
    cases hAi : A i with
    | none =>
     have h1 := hn hAi
     exact .inl ⟨rfl, by omega, h1, List.length_eq_zero_iff.1 (by omega)⟩
    | some a' => exact .inr ⟨a', rfl, hLC, hC, hZ, fun j hj => (hc a' hAi).2 j (by omega), hwf⟩
   obtain ⟨ns, g1, g2, g3, g4, g5⟩ := hrow.i64
   exact ⟨b, off, A i, L i, C i, ns, rfl, World.block_lt_of_cell? W _ hcell, hcell, g1, g5, g2, g3⟩
theorem take1 {c : Nat} {v x : Value} {l : List Value} (hc : c = 1) (h : List.take c (v :: l) = [x]) : v = x := by
 subst hc
 simpa using h
set_option maxRecDepth 100000 in
theorem page_open {H : Type} {enc : TypeId × Value → H} {W : World} {base : Nat} {held : Bool} {fuel : Nat} {cs : List Value} {x : DataW H × List MemPlace}
 (hf : DataW.trod enc Tryz.prog W base (fun _ => true) held fuel 27 cs = some x) : ∃ p : Pg, cs = [.int .i64 p.rows, .int .i64 p.cells, .int .i64 p.enc, .int .i64 p.rl, .int .i64 p.dl, .int .i64 p.vl, .int .u32 (p.crc : Nat)] ∧ OkPg p := by
 obtain ⟨xs, n, _, _, hlen, hxs, hall⟩ := DataW.trod_struct Tryz.underlying27 hf
 have hc7 : Tryz.prog.cellsOf 27 = 7 := by kernel_rfl
 have hc1 : Tryz.prog.cellsOf 3 = 1 := by kernel_rfl
 have hc2 : Tryz.prog.cellsOf 25 = 1 := by kernel_rfl
 rw [hc7] at hlen
 match cs, hlen with
 | [v0, v1, v2, v3, v4, v5, v6], _ =>
  match xs, hxs with
  | [y0, y1, y2, y3, y4, y5, y6], _ =>
   have f0 := hall 0 _ rfl
   have f1 := hall 1 _ rfl
   have f2 := hall 2 _ rfl
   have f3 := hall 3 _ rfl
   have f4 := hall 4 _ rfl
   have f5 := hall 5 _ rfl
   have f6 := hall 6 _ rfl
   simp only [hc1, hc2, List.drop, List.take, List.getElem?_cons_zero, List.getElem?_cons_succ] at f0 f1 f2 f3 f4 f5 f6
   obtain ⟨n0, e0, _, q0⟩ := DataW.trod_int Tryz.underlying3 f0
   obtain ⟨n1, e1, _, q1⟩ := DataW.trod_int Tryz.underlying3 f1
   obtain ⟨n2, e2, _, q2⟩ := DataW.trod_int Tryz.underlying3 f2
   obtain ⟨n3, e3, _, q3⟩ := DataW.trod_int Tryz.underlying3 f3
   obtain ⟨n4, e4, _, q4⟩ := DataW.trod_int Tryz.underlying3 f4
   obtain ⟨n5, e5, _, q5⟩ := DataW.trod_int Tryz.underlying3 f5
   obtain ⟨n6, e6, _, q6⟩ := DataW.trod_int Tryz.underlying25 f6
   obtain rfl : v0 = .int .i64 n0 := take1 hc1 e0
   obtain rfl : v1 = .int .i64 n1 := take1 hc1 e1
   obtain rfl : v2 = .int .i64 n2 := take1 hc1 e2
   obtain rfl : v3 = .int .i64 n3 := take1 hc1 e3
   obtain rfl : v4 = .int .i64 n4 := take1 hc1 e4
   obtain rfl : v5 = .int .i64 n5 := take1 hc1 e5
   obtain rfl : v6 = .int .u32 n6 := take1 hc2 e6
   have b6 := bounds_u32 q6
   refine ⟨⟨n0, n1, n2, n3, n4, n5, n6.toNat⟩, ?_, ⟨bounds_i64 q0, bounds_i64 q1, bounds_i64 q2, bounds_i64 q3, bounds_i64 q4, bounds_i64 q5, ?_⟩⟩
   · rw [Int.toNat_of_nonneg b6.1]
   · show n6.toNat < 4294967296
     omega
set_option maxRecDepth 100000 in
theorem lifted (os : Os) (started : os.Started) (H : Type) (enc : TypeId × Value → H) :
 ReturnsInHanded {} Tryz.checked os 3 .any (Rows.pageReadsSpec.pre6 enc Tryz.prog Tryz.f3 Rows.pageReadsRow.domain false) (Rows.pageReadsSpec.post enc Tryz.prog Tryz.f3 false true false false) := by
 refine returnsInHanded_of_change (C := Tryz.checked) own started (by kernel_rfl) Tryz.func3
  (ChangeSpec.witness6 (enc := enc) (C := Tryz.checked) false ⟨#[], #[.slice none 0 0, .slice none 0 0, .int .i64 0, .int .i64 0, .int .i64 0, .int .i64 0, .slice none 0 0, .slice none 0 0, .bool false, .agg #[.int .i64 0, .int .i64 0, .int .i64 0, .int .i64 0, .int .i64 0, .int .i64 0, .int .u32 0], .slice none 0 0], []⟩ 8 (by kernel_rfl) (by kernel_rfl) (by kernel_rfl) (by kernel_rfl)) ?_
 intro W base args ds gs before hval0 hW hcnd _
 have hval : ∀ (j : Nat) t v, Tryz.f3.params[j]? = some t → args[j]? = some v → Value.okWide Tryz.prog W .any base t v := hval0
 have hW' := hW
 obtain ⟨p, q, hA0, hV, rfl, hfz, hnd⟩ := hW
 have hA : DataW.TrodAll enc Tryz.prog W 0 (fun _ => true) true Tryz.f3.params.toList args.toList ds p := hA0
 rw [Tryz.params3] at hA hval
 obtain ⟨v0, vs0, d0, ds0, p0, q0, hargs, rfl, rfl, h0, r0⟩ := trodAll_cons hA
 obtain ⟨v1, vs1, d1, ds1, p1, q1, rfl, rfl, rfl, h1, r1⟩ := trodAll_cons r0
 obtain ⟨v2, vs2, d2, ds2, p2, q2, rfl, rfl, rfl, h2, r2⟩ := trodAll_cons r1
 obtain ⟨v3, vs3, d3, ds3, p3, q3, rfl, rfl, rfl, h3, r3⟩ := trodAll_cons r2
 obtain ⟨v4, vs4, d4, ds4, p4, q4, rfl, rfl, rfl, h4, r4⟩ := trodAll_cons r3
 obtain ⟨v5, vs5, d5, ds5, p5, q5, rfl, rfl, rfl, h5, r5⟩ := trodAll_cons r4
 obtain ⟨v6, vs6, d6, ds6, p6, q6, rfl, rfl, rfl, h6, r6⟩ := trodAll_cons r5
 obtain ⟨v7, vs7, d7, ds7, p7, q7, rfl, rfl, rfl, h7, r7⟩ := trodAll_cons r6
 obtain ⟨v8, vs8, d8, ds8, p8, q8, rfl, rfl, rfl, h8, r8⟩ := trodAll_cons r7
 obtain ⟨v9, vs9, d9, ds9, p9, q9, rfl, rfl, rfl, h9, r9⟩ := trodAll_cons r8
 obtain ⟨v10, vs10, d10, ds10, p10, q10, rfl, rfl, rfl, h10, r10⟩ := trodAll_cons r9
 obtain ⟨rfl, rfl, rfl⟩ := trodAll_nil r10
 obtain rfl : args = #[v0, v1, v2, v3, v4, v5, v6, v7, v8, v9, v10] := by cases args; simp_all
 obtain ⟨rfl, rfl⟩ := trodVars_none hV
 obtain ⟨a0, len0, cap0, rfl⟩ := okWide_slice Tryz.underlying22 (hval 0 22 v0 rfl rfl)
 have k0 := h0
 have lt0 : ∀ x ∈ p0, x.block < W.heap.size := by obtain ⟨m, hm⟩ := k0; exact DataW.trod_lt m _ _ _ hm
 obtain ⟨z0, w0⟩ : ∃ zs, IsRow .i64 W a0 len0 cap0 zs := by
  obtain ⟨fuel, hf⟩ := h0
  rcases open_ints Tryz.underlying22 Tryz.underlying3 (by kernel_rfl) hf with ⟨hcs, _⟩ | ⟨x, l, c, zs, hcs, _, hl, hm, hz, _, hcell, hwz⟩
  · simp [Value.cells] at hcs
    obtain ⟨rfl, rfl, rfl⟩ := hcs
    exact ⟨[], .inl ⟨rfl, rfl, rfl, rfl⟩⟩
  · simp [Value.cells] at hcs
    obtain ⟨rfl, rfl, rfl⟩ := hcs
    exact ⟨zs, .inr ⟨_, rfl, hl, hm, by simpa using hz, hcell, hwz⟩⟩
 obtain ⟨l0, x0, y0, s0, o0, u0⟩ := w0.i64
 obtain ⟨a1, len1, cap1, rfl⟩ := okWide_slice Tryz.underlying23 (hval 1 23 v1 rfl rfl)
 have k1 := h1
 have lt1 : ∀ x ∈ p1, x.block < W.heap.size := by obtain ⟨m, hm⟩ := k1; exact DataW.trod_lt m _ _ _ hm
 obtain ⟨w1, u1⟩ : RowsAt W a1 len1 ∧ len1 ≤ 9223372036854775807 := by
  obtain ⟨fuel, hf⟩ := h1
  exact rows_open (by simpa [Value.cells] using hf)
 obtain ⟨a2, rfl, rfl, rfl, w2⟩ := open_int Tryz.underlying3 (hval 2 3 v2 rfl rfl) h2
 obtain ⟨a3, rfl, rfl, rfl, w3⟩ := open_int Tryz.underlying3 (hval 3 3 v3 rfl rfl) h3
 obtain ⟨a4, rfl, rfl, rfl, w4⟩ := open_int Tryz.underlying3 (hval 4 3 v4 rfl rfl) h4
 obtain ⟨a5, rfl, rfl, rfl, w5⟩ := open_int Tryz.underlying3 (hval 5 3 v5 rfl rfl) h5
 obtain ⟨a6, len6, cap6, rfl⟩ := okWide_slice Tryz.underlying22 (hval 6 22 v6 rfl rfl)
 have k6 := h6
 have lt6 : ∀ x ∈ p6, x.block < W.heap.size := by obtain ⟨m, hm⟩ := k6; exact DataW.trod_lt m _ _ _ hm
 obtain ⟨z6, w6⟩ : ∃ zs, IsRow .i64 W a6 len6 cap6 zs := by
  obtain ⟨fuel, hf⟩ := h6
  rcases open_ints Tryz.underlying22 Tryz.underlying3 (by kernel_rfl) hf with ⟨hcs, _⟩ | ⟨x, l, c, zs, hcs, _, hl, hm, hz, _, hcell, hwz⟩
  · simp [Value.cells] at hcs
    obtain ⟨rfl, rfl, rfl⟩ := hcs
    exact ⟨[], .inl ⟨rfl, rfl, rfl, rfl⟩⟩
  · simp [Value.cells] at hcs
    obtain ⟨rfl, rfl, rfl⟩ := hcs
    exact ⟨zs, .inr ⟨_, rfl, hl, hm, by simpa using hz, hcell, hwz⟩⟩
 obtain ⟨l6, x6, y6, s6, o6, u6⟩ := w6.i64
 obtain ⟨a7, len7, cap7, rfl⟩ := okWide_slice Tryz.underlying24 (hval 7 24 v7 rfl rfl)
 have k7 := h7
 have lt7 : ∀ x ∈ p7, x.block < W.heap.size := by obtain ⟨m, hm⟩ := k7; exact DataW.trod_lt m _ _ _ hm
 obtain ⟨z7, w7⟩ : ∃ zs, IsRow .u8 W a7 len7 cap7 zs := by
  obtain ⟨fuel, hf⟩ := h7
  rcases open_ints Tryz.underlying24 Tryz.underlying5 (by kernel_rfl) hf with ⟨hcs, _⟩ | ⟨x, l, c, zs, hcs, _, hl, hm, hz, _, hcell, hwz⟩
  · simp [Value.cells] at hcs
    obtain ⟨rfl, rfl, rfl⟩ := hcs
    exact ⟨[], .inl ⟨rfl, rfl, rfl, rfl⟩⟩
  · simp [Value.cells] at hcs
    obtain ⟨rfl, rfl, rfl⟩ := hcs
    exact ⟨zs, .inr ⟨_, rfl, hl, hm, by simpa using hz, hcell, hwz⟩⟩
 obtain ⟨l7, x7, y7, s7, o7, u7⟩ := w7.u8
 obtain ⟨a8, rfl, rfl, rfl⟩ := open_bool Tryz.underlying4 (hval 8 4 v8 rfl rfl) h8
 obtain ⟨cs9, rfl, hcs9⟩ := okWide_struct Tryz.underlying27 (hval 9 27 v9 rfl rfl)
 have k9 := h9
 have lt9 : ∀ x ∈ p9, x.block < W.heap.size := by obtain ⟨m, hm⟩ := k9; exact DataW.trod_lt m _ _ _ hm
 obtain ⟨pg, hcse, hpg⟩ : ∃ p : Pg, Value.agg cs9 = pgV p ∧ OkPg p := by
  obtain ⟨fuel, hf⟩ := h9
  obtain ⟨p, e1, e2⟩ := page_open hf
  refine ⟨p, ?_, e2⟩
  unfold pgV
  rw [Value.agg.injEq]
  apply Array.ext'
  simpa [Value.cells] using e1
 obtain ⟨a10, len10, cap10, rfl⟩ := okWide_slice Tryz.underlying24 (hval 10 24 v10 rfl rfl)
 have k10 := h10
 have lt10 : ∀ x ∈ p10, x.block < W.heap.size := by obtain ⟨m, hm⟩ := k10; exact DataW.trod_lt m _ _ _ hm
 obtain ⟨z10, w10⟩ : ∃ zs, IsRow .u8 W a10 len10 cap10 zs := by
  obtain ⟨fuel, hf⟩ := h10
  rcases open_ints Tryz.underlying24 Tryz.underlying5 (by kernel_rfl) hf with ⟨hcs, _⟩ | ⟨x, l, c, zs, hcs, _, hl, hm, hz, _, hcell, hwz⟩
  · simp [Value.cells] at hcs
    obtain ⟨rfl, rfl, rfl⟩ := hcs
    exact ⟨[], .inl ⟨rfl, rfl, rfl, rfl⟩⟩
  · simp [Value.cells] at hcs
    obtain ⟨rfl, rfl, rfl⟩ := hcs
    exact ⟨zs, .inr ⟨_, rfl, hl, hm, by simpa using hz, hcell, hwz⟩⟩
 obtain ⟨l10, x10, y10, s10, o10, u10⟩ := w10.u8
 clear hA0 hval0 hA hval h9 r0 r1 r2 r3 r4 r5 r6 r7 r8 r9 r10
 rw [hcse] at hW' k9 ⊢
 refine (pageReads_any a0 len0 cap0 l0 a1 len1 cap1 a2 a3 a4 a5 a6 len6 cap6 l6 a7 len7 cap7 l7 a8 pg a10 len10 cap10 l10 W x0 u0 y0 s0 w1 u1 (bounds_i64 w2) (bounds_i64 w3) (bounds_i64 w4) (bounds_i64 w5) x6 u6 y6 s6 x7 u7 y7 s7 hpg x10 w10.open_.1 y10 s10 o10 u10).mono fun e W' hsays => ?_
 obtain ⟨he, bel⟩ : e = .returned (.bool true) ∧ Below W.heap.size W W' := hsays
 subst he
 exact ⟨_, rfl, _, _, _, [], _, [], hW', trodAll_mk1 (shut_bool Tryz.underlying4 _), (trodAll_cons_mk (Below.trod laidOut (by kernel_rfl) (of_decide_eq_true (by kernel_rfl)) k0 bel lt0) (trodAll_cons_mk (Below.trod laidOut (by kernel_rfl) (of_decide_eq_true (by kernel_rfl)) k1 bel lt1) (trodAll_cons_mk (shut_int Tryz.underlying3 w2) (trodAll_cons_mk (shut_int Tryz.underlying3 w3) (trodAll_cons_mk (shut_int Tryz.underlying3 w4) (trodAll_cons_mk (shut_int Tryz.underlying3 w5) (trodAll_cons_mk (Below.trod laidOut (by kernel_rfl) (of_decide_eq_true (by kernel_rfl)) k6 bel lt6) (trodAll_cons_mk (Below.trod laidOut (by kernel_rfl) (of_decide_eq_true (by kernel_rfl)) k7 bel lt7) (trodAll_cons_mk (shut_bool Tryz.underlying4 a8) (trodAll_cons_mk (Below.trod laidOut (by kernel_rfl) (of_decide_eq_true (by kernel_rfl)) k9 bel lt9) (trodAll_cons_mk (Below.trod laidOut (by kernel_rfl) (of_decide_eq_true (by kernel_rfl)) k10 bel lt10) trodAll_mk0))))))))))), rfl, bel.frame _, fun h => by cases h⟩
theorem over : Rows.pageReadsRow.holds Tryz.pinned (OpenSpec.ofChange Rows.pageReadsSpec) :=
 OpenClaim.holds_of_wide 3 Tryz.f3 rfl rfl rfl rfl rfl rfl rfl ⟨rfl, rfl, rfl, rfl, rfl⟩ rfl rfl rfl rfl rfl (by kernel_rfl) Tryz.func3 (by kernel_rfl)
  (of_decide_eq_true (by kernel_rfl)) (by unfold Func.isWrapper; first | (rw [if_pos (by decide +kernel)]; kernel_rfl) | (rw [if_neg (by decide +kernel)]; exact ⟨rfl, rfl⟩))
  (fun os started H enc _ => lifted os started H enc)
theorem proved : Rows.PageReadsSaid := over
#print axioms proved
end Go.Proofs.YtebmbkbnngeabaaGreat.pageReads
