/- Chapter 10: the walk over level.Encode. -/
import Derived.Test.YtkolmoebopfgiaaLevW
import Derived.ScopeJumps
namespace Go.Proofs.Ytkolmoebopfgiaa
open Go.RowKit
set_option linter.unusedVariables false

theorem vputB_le (v : Nat) : (vputB v).length ≤ 10 := (vputB_length v).2
theorem levB_le (w : Nat) (hw : w ≤ 16) (m : Nat) : ∀ l : List Nat, l.length ≤ m → (levB w l).length ≤ 26 * l.length := by
  induction m with
  | zero => intro l hm; rw [List.length_eq_zero_iff.1 (Nat.le_zero.1 hm)]; simp [levB_nil]
  | succ m ih =>
    intro l hm
    by_cases h0 : l = []
    · subst h0; simp [levB_nil]
    have hpos : 0 < l.length := List.length_pos_iff.2 h0
    cases hr : isRun l with
    | true =>
      have hs := sameN_pos l h0
      have hs2 := sameN_le l
      have h1 := ih (l.drop (sameN l)) (by rw [List.length_drop]; omega)
      have h2 := vputB_le (2 * sameN l)
      rw [levB_run w l h0 hr]
      simp only [List.length_append, lowB_length]
      rw [List.length_drop] at h1
      omega
    | false =>
      obtain ⟨G, g1, g2, g3, g4, g5⟩ := grps_is l.length l (Nat.le_refl _) h0
      have hsh := grps_shorter l h0
      have h1 := ih (grps l).2 (by omega)
      have h2 := vputB_le (2 * ((grps l).1.length / 8) + 1)
      have h3 : (packed (grps l).1 w).length ≤ 16 * G := by
        rw [packed_length, g1]; unfold packSize
        have : 8 * G * w ≤ 8 * G * 16 := Nat.mul_le_mul_left _ hw
        omega
      rw [levB_grp w l h0 hr]
      simp only [List.length_append]
      rw [g4, List.length_drop] at h1
      rw [g4]
      omega
theorem pre_le {w : Nat} {l pre rest : List Nat} (hw : w ≤ 16) (h : levB w l = pre ++ levB w rest) : pre.length ≤ 26 * l.length := by
  have h1 := congrArg List.length h
  have h2 := levB_le w hw l.length l (Nat.le_refl _)
  rw [List.length_append] at h1
  omega
theorem GaveB.opened {w w' : World} {l : List Nat} {e : Ending} (h : GaveB w l e w') :
    ∃ ao n cap, e = .returned (.slice ao n cap) ∧ Hid (l.length = n) ∧ CellsAt w' w'.heap.size ao n (u8c l) ∧ (ao = none → n = 0) ∧ RowB w' w.heap.size ao n cap l ∧ Below w.heap.size w w' := by
  obtain ⟨ao, cap, rfl, h1, h2, h3, h4⟩ := h
  exact ⟨ao, _, cap, rfl, Lib.hid rfl, h1, h2, h3, h4⟩
theorem RowB.below {w w' : World} {base : Nat} {ao : Option Addr} {n cap : Nat} {l : List Nat} (h : RowB w base ao n cap l) (hb : Below w.heap.size w w') : RowB w' base ao n cap l := by
  refine ⟨h.1, h.2.imp id fun x => ⟨x.1, ?_⟩⟩
  exact ⟨x.2.1, x.2.2.imp id fun ⟨g, cap, cur, h1, h2, h3, h4⟩ => ⟨g, cap, cur, h1, h2, (hb.block g (Array.getElem?_eq_some_iff.1 h3).1).trans h3, h4⟩⟩
set_option maxRecDepth 100000 in
theorem slI_from (a : Option Addr) (len cap p : Nat) (hp : p ≤ len) (hcap : len ≤ cap) :
    ∃ ao', (len - p = 0 ∨ ao' = a.map (·.add p)) ∧ ∀ w : World, (Instr.sliceAt 26 (.slice a len cap) (some (.int .i64 (p : Nat))) none none).run Try.prog w = .ok (.slice ao' (len - p) (cap - p)) w := by
  refine ⟨if cap = p then a else a.map (·.add (p * 1)), ?_, fun w => ?_⟩
  · by_cases h : cap = p
    · exact .inl (by omega)
    · rw [if_neg h, Nat.mul_one]; exact .inr rfl
  · have h := run_slice_l (P := Try.prog) (w := w) 26 a len cap Try.underlying26 .i64 (p : Int) (by omega) (by omega)
    rw [run_sliceAt_slice (P := Try.prog) w _ _ _ _ _ Try.underlying26, h, Int.toNat_natCast]
    have hs : (sizeOf (Try.prog.elem 26)).run Try.prog w = .ok 1 w := by kernel_rfl
    rw [hs]
    simp [Result.andThen, sliced]
/-- The rest of a row of levels. -/
theorem rest_cells {w : World} {B : Nat} {a ao' : Option Addr} {len p : Nat} {l : List Nat} (hl : l.length = len) (h : CellsAt w B a len (nic l)) (hp : p ≤ len) (hao : len - p = 0 ∨ ao' = a.map (·.add p)) : CellsAt w B ao' (len - p) (nic (l.drop p)) := by
  rcases hao with h0 | rfl
  · rw [h0]; exact CellsAt.zero
  · have := drop_nic (p := p) (m := len - p) h (by omega)
    rw [List.take_of_length_le (by rw [List.length_drop]; omega)] at this
    exact this
theorem drop8_min (l : List Nat) (m : Nat) (h : m = min 8 l.length) : l.drop m = l.drop 8 := by
  subst h
  by_cases h8 : l.length ≤ 8
  · rw [Nat.min_eq_right h8, List.drop_of_length_le (Nat.le_refl _), List.drop_of_length_le h8]
  · rw [Nat.min_eq_left (by omega)]

set_option maxHeartbeats 400000 in
theorem levE_out (ao : Option Addr) (n cap : Nat) (width : Int) (w : World) (h : width ≤ 0 ∨ 16 < width) :
    Calls Try.prog 30 #[.slice ao n cap, .int .i64 width] w (GaveB w []) := by
  have key : GaveB w [] (.returned (.slice none 0 0)) w := ⟨none, 0, rfl, CellsAt.zero, fun _ => rfl, ⟨rfl, .inl ⟨rfl, rfl⟩⟩, Below.refl _ _⟩
  have Key := Lib.hid key; clear key
  by_cases h0 : width ≤ 0
  · go_enter Try.func30, Try.ntmps30
    go_wp2
    go_ret
    exact Key.out
  · have d0 : decide (width ≤ 0) = false := decide_eq_false h0
    have h16 : 16 < width := by omega
    clear h
    go_enter Try.func30, Try.ntmps30
    go_wp2
    go_ret
    exact Key.out

theorem grps_mem (l : List Nat) (h : l ≠ []) (hb : ∀ x ∈ l, x < 18446744073709551616) : ∀ x ∈ (grps l).1, x < 18446744073709551616 := by
  obtain ⟨G, g1, g2, g3, g4, g5⟩ := grps_is l.length l (Nat.le_refl _) h
  intro x hx
  rw [g5] at hx
  rcases List.mem_append.1 hx with h | h
  · exact hb x (List.mem_of_mem_take h)
  · rw [List.eq_of_mem_replicate h]; decide

def LevJ (w wr : World) (wd nR nO : Nat) (aoO : Option Addr) (capO : Nat) (rest : List Nat) (a' : Act) (x : World) : Prop := ∃ (gp rs : List Nat) (nG nS : Nat) (aoG aoS : Option Addr) (capG capS : Nat) (u6 u14 u15 u16 u17 u18 u19 u20 u21 u22 u23 u24 u25 u26 u27 u28 u29 u30 u31 u32 u33 u34 u35 u36 u37 u38 u39 u40 u41 u42 u43 u44 u45 u46 u47 u48 u49 u50 u51 u52 u53 u54 u55 u56 u57 u58 u59 u60 u61 u62 u63 u64 : Value), a' = { tmps := #[.slice aoS nS capS, .int .i64 (wd : Nat), undef, undef, .slice none 0 0, .slice aoO nO capO, u6, .slice aoG nG capG, .int .i64 (wd : Nat), .bool false, .bool false, .int .i64 (wd : Nat), .bool false, .bool false, u14, u15, u16, u17, u18, u19, u20, u21, u22, u23, u24, u25, u26, u27, u28, u29, u30, u31, u32, u33, u34, u35, u36, u37, u38, u39, u40, u41, u42, u43, u44, u45, u46, u47, u48, u49, u50, u51, u52, u53, u54, u55, u56, u57, u58, u59, u60, u61, u62, u63, u64, undef, undef], defers := [] } ∧
        Hid (rs.length = nS) ∧ 0 < nS ∧ nS < nR ∧ nS ≤ capS ∧ CellsAt w w.heap.size aoS nS (nic rs) ∧ Hid (∀ y ∈ rs, y < 18446744073709551616) ∧ nG ≤ 8 * (nR - nS) ∧ x.ownsRow wr.heap.size 68 1 (.slice aoG nG capG) nG (u64v gp) ∧
        Hid (grps rest = (gp ++ (grps rs).1, (grps rs).2)) ∧ Below wr.heap.size wr x
set_option maxRecDepth 100000 in
theorem LevJ.open_ {w wr : World} {wd nR nO : Nat} {aoO : Option Addr} {capO : Nat} {rest : List Nat} {a' : Act} {x : World} (h : LevJ w wr wd nR nO aoO capO rest a' x) :
    ∃ (gp rs : List Nat) (nG nS : Nat) (aoG aoS : Option Addr) (capG capS : Nat) (us : Nat → Value), a' = { tmps := #[.slice aoS nS capS, .int .i64 (wd : Nat), undef, undef, .slice none 0 0, .slice aoO nO capO, us 6, .slice aoG nG capG, .int .i64 (wd : Nat), .bool false, .bool false, .int .i64 (wd : Nat), .bool false, .bool false, us 14, us 15, us 16, us 17, us 18, us 19, us 20, us 21, us 22, us 23, us 24, us 25, us 26, us 27, us 28, us 29, us 30, us 31, us 32, us 33, us 34, us 35, us 36, us 37, us 38, us 39, us 40, us 41, us 42, us 43, us 44, us 45, us 46, us 47, us 48, us 49, us 50, us 51, us 52, us 53, us 54, us 55, us 56, us 57, us 58, us 59, us 60, us 61, us 62, us 63, us 64, undef, undef], defers := [] } ∧ Hid (rs.length = nS) ∧ 0 < nS ∧ nS < nR ∧ nS ≤ capS ∧ CellsAt w w.heap.size aoS nS (nic rs) ∧ Hid (∀ y ∈ rs, y < 18446744073709551616) ∧ nG ≤ 8 * (nR - nS) ∧ x.ownsRow wr.heap.size 68 1 (.slice aoG nG capG) nG (u64v gp) ∧
        Hid (grps rest = (gp ++ (grps rs).1, (grps rs).2)) ∧ Below wr.heap.size wr x := by
  obtain ⟨gp, rs, nG, nS, aoG, aoS, capG, capS, u6, u14, u15, u16, u17, u18, u19, u20, u21, u22, u23, u24, u25, u26, u27, u28, u29, u30, u31, u32, u33, u34, u35, u36, u37, u38, u39, u40, u41, u42, u43, u44, u45, u46, u47, u48, u49, u50, u51, u52, u53, u54, u55, u56, u57, u58, u59, u60, u61, u62, u63, u64, ha, hr⟩ := h
  exact ⟨gp, rs, nG, nS, aoG, aoS, capG, capS, fun i => match i with | 6 => u6 | 14 => u14 | 15 => u15 | 16 => u16 | 17 => u17 | 18 => u18 | 19 => u19 | 20 => u20 | 21 => u21 | 22 => u22 | 23 => u23 | 24 => u24 | 25 => u25 | 26 => u26 | 27 => u27 | 28 => u28 | 29 => u29 | 30 => u30 | 31 => u31 | 32 => u32 | 33 => u33 | 34 => u34 | 35 => u35 | 36 => u36 | 37 => u37 | 38 => u38 | 39 => u39 | 40 => u40 | 41 => u41 | 42 => u42 | 43 => u43 | 44 => u44 | 45 => u45 | 46 => u46 | 47 => u47 | 48 => u48 | 49 => u49 | 50 => u50 | 51 => u51 | 52 => u52 | 53 => u53 | 54 => u54 | 55 => u55 | 56 => u56 | 57 => u57 | 58 => u58 | 59 => u59 | 60 => u60 | 61 => u61 | 62 => u62 | 63 => u63 | 64 => u64 | _ => undef, ha, hr⟩

set_option maxHeartbeats 16000000 in
set_option maxRecDepth 100000 in
theorem levE_in (ao : Option Addr) (n cap wd : Nat) (l : List Nat) (w : World) (hl : l.length = n) (hn : n ≤ 100000) (hcap : n ≤ cap) (hc : CellsAt w w.heap.size ao n (nic l)) (hb : ∀ x ∈ l, x < 18446744073709551616) (h1 : 1 ≤ wd) (h16 : wd ≤ 16) :
    Calls Try.prog 30 #[.slice ao n cap, .int .i64 (wd : Nat)] w (GaveB w (levB wd l)) := by
  have Hl := Lib.hid hl; clear hl
  have Hb := Lib.hid hb; clear hb
  have d1 : decide ((wd : Int) ≤ 0) = false := decide_eq_false (by omega)
  have d2 : decide ((16 : Int) < (wd : Int)) = false := decide_eq_false (by omega)
  go_enter Try.func30, Try.ntmps30
  go_wp2
  go_loopw [0, 5] (fun v o wr => ∃ (pre rest : List Nat) (nR nO : Nat) (aoR aoO : Option Addr) (capR capO : Nat), v = .slice aoR nR capR ∧ o = .slice aoO nO capO ∧ Hid (rest.length = nR) ∧ nR ≤ capR ∧ nR ≤ n ∧ CellsAt w w.heap.size aoR nR (nic rest) ∧ Hid (∀ y ∈ rest, y < 18446744073709551616) ∧ RowB wr w.heap.size aoO nO capO pre ∧ Hid (levB wd l = pre ++ levB wd rest) ∧ Below w.heap.size w wr) (fun v _ _ => match v with | .slice _ m _ => m | _ => 0)
  case atStart => exact ⟨[], l, n, 0, ao, none, cap, 0, rfl, rfl, Hl, hcap, Nat.le_refl _, hc, Hb, ⟨rfl, .inl ⟨rfl, rfl⟩⟩, Lib.hid rfl, Below.refl _ _⟩
  case round =>
    obtain ⟨pre, rest, nR, nO, aoR, aoO, capR, capO, rfl, rfl, hlR, hcapR, hRn, hcR, hbR, hrO, hlev, hwr⟩ := hrel
    have hnR : nR ≤ 100000 := by omega
    have hnO : nO ≤ 2600000 := by have h1 := pre_le h16 hlev.out; have h2 := hrO.1; have h3 := Hl.out; omega
    by_cases h0 : nR = 0
    · have hr0 : rest = [] := List.length_eq_zero_iff.1 (hlR.out.trans h0)
      have hfin : Hid (levB wd l = pre) := Lib.hid (by rw [hlev.out, hr0, levB_nil, List.append_nil])
      have e1 : ¬ (0 : Int) < (nR : Int) := by omega
      have hpl := Lib.hid hrO.1
      clear h0 hr0 hcR
      go_wp2_with fail
      refine (clone_any aoO nO capO pre _ hrO.1 hrO.cells hrO.nil0 (by omega)).mono ?_
      intro e x1 hg1
      obtain ⟨ao1, n1, cap1, rfl, Hn1, hc1, hn1, hr1, hx1⟩ := hg1.opened
      have hr1' := hr1.base hwr.size
      have Hg := Lib.hid (GaveB.of (w := w) Hn1.out.symm hr1' (bmore hwr hx1))
      clear hg1
      clear hc1 hn1 hr1 hr1' hx1
      go_wp2
      go_ret
      rw [hfin.out]
      exact Hg.out
    · have e1 : (0 : Int) < (nR : Int) := by omega
      have hne0 : rest ≠ [] := fun e => h0 (by rw [← hlR.out, e]; rfl)
      cases hrunf : isRun rest with
      | true =>
        go_wp2
        refine wp_scope_jumps 0 (fun _ _ => False) (fun _ _ => 0) rfl ?_ (fun _ _ h => h.elim)
        go_wp2_with fail
        refine (lruns_any aoR nR capR rest _ hlR.out (by omega) (hcR.at hwr)).mono ?_
        rw [hrunf]
        rintro e W ⟨rfl, hW⟩
        have hW := below_of_drew hW
        go_wp2_with fail
        refine (lrun_any aoR nR capR rest _ hlR.out (by omega) (hcR.at (bmore hwr hW))).mono ?_
        have hs0 := sameN_pos rest hne0
        have hs1 := sameN_le rest
        rw [hlR.out] at hs1
        have hlv := levB_run wd rest hne0 hrunf
        obtain ⟨x0, hx0⟩ : ∃ x, x = rest.getD 0 0 := ⟨_, rfl⟩
        obtain ⟨s, hs⟩ : ∃ s, s = sameN rest := ⟨_, rfl⟩
        rw [← hs] at hs0 hs1 hlv ⊢
        rw [← hx0] at hlv
        rintro e W2 ⟨rfl, hW2⟩
        have hW2 := bmore hW (below_of_drew hW2)
        obtain ⟨b, off, rfl, hbl, c0⟩ := hcR.first (by omega)
        rw [nic, ← hx0] at c0
        have hx64 : x0 < 18446744073709551616 := by
          rw [hx0, List.getD_eq_getElem?_getD, List.getElem?_eq_getElem (by rw [hlR.out]; omega)]; exact hbR.out _ (List.getElem_mem _)
        have c2 := ((bmore hwr hW2).cell (by exact hbl)).trans c0
        obtain ⟨aoT, haoT, hsT⟩ := slI_from (some ⟨b, off, none⟩) nR capR s hs1 hcapR
        have hcT := rest_cells hlR.out hcR hs1 haoT
        obtain ⟨nT, hnT⟩ : ∃ nT, nT = nR - s := ⟨_, rfl⟩
        rw [← hnT] at hcT hsT
        have HcT : CellsAt w w.heap.size aoT nT (nic (rest.drop s)) := hcT
        have HlT : Hid ((rest.drop s).length = nT) := Lib.hid (by rw [List.length_drop, hlR.out, hnT])
        have HbT : Hid (∀ y ∈ rest.drop s, y < 18446744073709551616) := Lib.hid (fun y hy => hbR.out y (List.mem_of_mem_drop hy))
        have hcapT : nT ≤ capR - s := by omega
        have hnT2 : nT < nR := by omega
        clear hnT
        have hst : Hid (levB wd l = (pre ++ (vputB (2 * s) ++ lowB x0 ((wd + 7) / 8))) ++ levB wd (rest.drop s)) := Lib.hid (by
          rw [hlev.out, hlv]; simp only [List.append_assoc])
        have hrO2 := hrO.below hW2
        have Hs0 : s < 18446744073709551616 := by omega
        have hP := fun w' h1 h2 h3 h4 h5 => vput_any aoO nO capO pre (2 * s) w' h1 h2 h3 h4 h5
        rw [show ((2 * s : Nat) : Int) = 2 * (s : Int) by omega] at hP
        have hw0 : IntKind.u64.wrap (x0 : Int) = (x0 : Nat) := IntWalk.u64_in _ (by omega)
        have hw1 : IntKind.i64.wrap (2 * (s : Int)) = 2 * (s : Int) := IntWalk.i64_in _ (by omega)
        have hw2 : IntKind.u64.wrap (2 * (s : Int)) = 2 * (s : Int) := IntWalk.u64_in _ (by omega)
        have f0 : ∀ w', Grows W2.drew w' → w'.cell? ⟨b, off, none⟩ = some (.int .i64 (x0 : Nat)) := fun w' hg => (Grows.toDrew hg).cell c2
        have HP := Lib.hid hP
        have hwb : (wd + 7) / 8 ≤ 2 := by omega
        have HW2 := Lib.hid hW2
        clear hx0 hs hlv hcR hcT haoT c0 c2 hW hW2 hP
        go_wp2
        refine wp_region_linH [(0, 0), (1, 0), (2, 0), (3, 0), (5, 0), (7, 0), (8, 0), (9, 0), (10, 0), (4, 1), (6, 1), (11, 1), (12, 0)] [] (by kernel_rfl) (by kernel_rfl) (fun d _ _ _ _ h => by cases d <;> exact h) ?_
        repeat (first
          | (refine wpLinH_skip rfl rfl (fun K hK => ?_); go_simp; refine hK _ ?_; clear hK K)
          | (refine wpLinH_take (v := ?_) rfl rfl (fun w' hw' => ?_) (fun K hK => ?_); rotate_left; (go_simp; rfl); (go_simp; refine hK _ ?_; clear hK K)))
        refine wpLinH_do rfl (fun K hK => ?_); go_simp
        refine (HP.out _ hrO2.1 hrO2.drew.cells hrO2.nil0 (by omega) (by omega)).mono ?_
        intro e y1 hgv
        obtain ⟨aoV, nV, capV, rfl, HnV, hcV, hnV, hrV, hbV⟩ := hgv.opened
        refine hK _ _ hbV ?_; clear hK K f0 hgv
        refine wpLinH_do rfl (fun K hK => ?_); go_simp
        refine (lbytes_any wd _ h16).mono ?_
        rintro e y2 ⟨rfl, rfl⟩
        refine hK _ _ (Grows.refl _) ?_; clear hK K
        have hvl : nV ≤ nO + 10 := by
          have h1 := vputB_le (2 * s)
          have h2 := hrO2.1
          rw [← HnV.out, List.length_append]; omega
        refine wpLinH_do rfl (fun K hK => ?_); go_simp
        refine (put_n aoV nV capV (pre ++ vputB (2 * s)) (((wd + 7) / 8 : Nat) : Int) ((wd + 7) / 8) x0 _ HnV.out hcV hnV (by omega) hx64 (.inr ⟨rfl, by omega⟩)).mono ?_
        intro e y3 hgz
        obtain ⟨aoZ, nZ, capZ, rfl, HnZ, hcZ, hnZ, hrZ, hbZ⟩ := hgz.opened
        refine hK _ _ hbZ ?_; clear hK K hgz
        have hy3 : Below wr.heap.size wr y3 := bmore (HW2.out.trans ((Grows.toDrew hbV).mono HW2.out.size)) hbZ
        have HrZ := Lib.hid (hrZ.base (Nat.le_trans hwr.size (Nat.le_trans HW2.out.size hbV.size))); have Hy3 := Lib.hid (bmore hwr hy3)
        clear hcV hnV hrV hbV hcZ hnZ hrZ hbZ hy3 hrO2
        repeat (first
          | (refine wpLinH_skip rfl rfl (fun K hK => ?_); go_simp; refine hK _ ?_; clear hK K)
          | (refine wpLinH_take (v := ?_) rfl rfl (fun w' hw' => ?_) (fun K hK => ?_); rotate_left; (go_simp; rfl); (go_simp; refine hK _ ?_; clear hK K)))
        refine wpLinH_nil ?_
        go_wp2
        simp only [Exit.jump]
        go_roundw
        case rel =>
          have hrZ : RowB y3 w.heap.size aoZ nZ capZ (pre ++ (vputB (2 * s) ++ lowB x0 ((wd + 7) / 8))) := by have h := HrZ.out; simpa [List.append_assoc] using h
          have hnn : nT ≤ n := by omega
          first | exact ⟨pre ++ (vputB (2 * s) ++ lowB x0 ((wd + 7) / 8)), rest.drop s, nT, _, aoT, _, _, _, rfl, rfl, HlT, hcapT, hnn, HcT, HbT, hrZ, hst, Hy3.out⟩ | exact ⟨_, _, _, _, _, _, _, _, _, _, _, _, _, _, _, _, _, _, _, _, _, _, _, _, _, _, _, _, _, _, _, _, _, _, _, _, _, _, _, _, _, _, _, _, _, _, _, _, _, _, _, _, _, _, _, ⟨pre ++ (vputB (2 * s) ++ lowB x0 ((wd + 7) / 8)), rest.drop s, nT, _, aoT, _, _, _, rfl, rfl, HlT, hcapT, hnn, HcT, HbT, hrZ, hst, Hy3.out⟩, rfl⟩
        case measure => show nT < nR; omega
      | false =>
        go_wp2
        refine wp_scope_jumps 0 (fun a' x => LevJ w wr wd nR nO aoO capO rest a' x) (fun a' _ => match a'.tmps.getD 0 undef with | .slice _ m _ => m | _ => 0) rfl ?_ ?_
        · go_wp2_with fail
          refine (lruns_any aoR nR capR rest _ hlR.out (by omega) (hcR.at hwr)).mono ?_
          rw [hrunf]
          rintro e W ⟨rfl, hW⟩
          have hW := below_of_drew hW
          go_wp2
          go_step3
          have hownG : W.ownsRow wr.heap.size 68 1 (.slice none 0 0) 0 (u64v []) := World.ownsRow_nil _ _ _ _
          obtain ⟨k8, hk8⟩ : ∃ k8, Hid (k8 = min 8 rest.length) := ⟨_, Lib.hid rfl⟩
          have hk8n : k8 ≤ nR ∧ 0 < k8 ∧ k8 ≤ 8 := by have h1 := hk8.out; have h2 := hlR.out; omega
          have hmin := fun (w' : World) => run_min_int2 (P := Try.prog) (w := w') #[3, 3] 3 .i64 8 (nR : Int) (k8 : Int) (by have h1 := hk8.out; have h2 := hlR.out; omega)
          have hd8 := drop8_min rest k8 hk8.out
          obtain ⟨aoT, haoT, hsT⟩ := slI_from aoR nR capR k8 hk8n.1 hcapR
          have hcT0 := rest_cells hlR.out hcR hk8n.1 haoT
          rw [hd8] at hcT0
          obtain ⟨nT, hnT⟩ : ∃ nT, nT = nR - k8 := ⟨_, rfl⟩
          rw [← hnT] at hcT0 hsT
          have HcT : CellsAt w w.heap.size aoT nT (nic (rest.drop 8)) := hcT0
          have HlT : Hid ((rest.drop 8).length = nT) := Lib.hid (by rw [← hd8, List.length_drop, hlR.out, hnT])
          have HbT : Hid (∀ y ∈ rest.drop 8, y < 18446744073709551616) := Lib.hid (fun y hy => hbR.out y (List.mem_of_mem_drop hy))
          have hcapT : nT ≤ capR - k8 := by omega
          have hnT8 : 8 ≤ 8 * (nR - nT) := by omega
          have hnT2 : nT < nR := by omega
          clear hnT
          clear hd8 haoT hcT0
          go_wp2_with fail
          refine (lgroup_any aoR nR capR rest _ hlR.out (by omega) hcapR (hcR.at (bmore hwr hW)) hbR.out).mono ?_
          rintro e x1 ⟨v1, rfl, hf1⟩
          have hx1 := hf1.2
          obtain ⟨aoP, nP, capP, rfl, HnP, hcP, hzP, hoP⟩ := hf1.u64
          have hnP8 : nP = 8 := by rw [HnP.out, pad8_length]
          subst hnP8
          obtain ⟨aoP2, capP2, hslP, -, hnilP⟩ := own_u64c hoP
          simp only [Value.slice.injEq, true_and] at hslP
          obtain ⟨rfl, rfl⟩ := hslP
          have hownG1 := own_below hownG hx1
          have hW1 := bmore hW hx1
          have hns1 : wr.heap.size ≤ x1.heap.size := hW1.size
          have e8 : (List.range 8).map (u64c (pad8 rest)) = u64v (pad8 rest) := by
            refine List.ext_getElem (by simp [u64v, pad8_length]) fun i h1 h2 => ?_
            have hi : i < (pad8 rest).length := by simpa [u64v] using h2
            simp [u64v, u64c, hi]
          have E8 := Lib.hid e8
          clear hf1 hoP HnP hzP hownG hW hx1 e8
          go_wp2_with (at_builtin; refine wpList_append_all1 sl_u64 rfl (.tmp 36) (.tmp 38) rfl rfl hownG1 rfl hcP hnilP (fun _ _ => rfl) (by unfold maxLen; omega) (by omega) hns1 ?_)
          intro v2 x2 hown2 hgrow2
          have hx2 : Below wr.heap.size wr x2 := hW1.grown hgrow2 hns1 (fun k hk => (hownG1.lt k hk).1)
          have hown2 : x2.ownsRow wr.heap.size 68 1 v2 8 (u64v (pad8 rest)) := by
            have h := hown2
            rw [← E8.out]; exact h
          obtain ⟨aoH, capH, rfl, hcH, -⟩ := own_u64 hown2
          have HownG := Lib.hid hown2; have HwT := Lib.hid hx2
          clear hown2 hx2 hgrow2 hownG1 hW1 hcH hcP hnilP hns1 hcR hcapR
          by_cases hT0 : nT = 0
          · have hgl := grps_last rest (.inl (List.length_eq_zero_iff.1 (HlT.out.trans hT0)))
            have HgE : Hid (grps rest = (pad8 rest, rest.drop 8)) := Lib.hid (by rw [hgl])
            have e5 : ¬ (0 : Int) < (nT : Int) := by omega
            have HownF := HownG; have HwF := HwT
            obtain ⟨wF, hwF⟩ : ∃ wF, wF = x2 := ⟨_, rfl⟩
            subst hwF
            clear hgl hT0
            have e6 : ((2 * (8 / 8) + 1 : Nat) : Int) = 2 * ((8 : Int) / 8) + 1 := by omega
            have hnG8 : Hid ((pad8 rest).length = 8) := Lib.hid (by have h := HownF.out.1; rw [u64v_length, Nat.mul_one] at h; exact h)
            have hpl : Hid (packedAny (pad8 rest) wd = packed (pad8 rest) wd) := Lib.hid (by unfold packedAny; rw [if_pos (by omega), Int.toNat_natCast])
            have hst : Hid (levB wd l = (pre ++ (vputB (2 * (8 / 8) + 1) ++ packed (pad8 rest) wd)) ++ levB wd (rest.drop 8)) := Lib.hid (by
              rw [hlev.out, levB_grp wd rest hne0 hrunf, HgE.out]
              simp only [hnG8.out, List.append_assoc])
            have hgb : Hid (∀ y ∈ pad8 rest, y < 18446744073709551616) := Lib.hid (fun y hy => by
              have h2 : y ∈ (grps rest).1 := by rw [HgE.out]; exact hy
              exact grps_mem rest hne0 hbR.out y h2)
            have hrO1 := hrO.below HwF.out
            have hP := fun w' h1 h2 h3 h4 h5 => vput_any aoO nO capO pre (2 * (8 / 8) + 1) w' h1 h2 h3 h4 h5
            rw [e6] at hP
            go_wp2_with fail
            refine (hP _ hrO1.1 hrO1.cells hrO1.nil0 (by omega) (by omega)).mono ?_
            intro e y1 hgv
            obtain ⟨aoV, nV, capV, rfl, HnV, hcV, hnV, hrV, hbV⟩ := hgv.opened
            have hownH := own_below HownF.out hbV
            obtain ⟨aoH2, capH2, hsl, hcH, -⟩ := own_u64 hownH
            simp only [Value.slice.injEq, true_and] at hsl
            obtain ⟨rfl, rfl⟩ := hsl
            have hvl : nV ≤ nO + 10 := by
              have h1 := vputB_le (2 * (8 / 8) + 1)
              have h2 := hrO1.1
              rw [← HnV.out, List.length_append]; omega
            have hy1 := bmore HwF.out hbV
            clear hP hrO1 hcV hnV e6
            go_wp2_with fail
            refine (pack_any aoH 8 capH (wd : Nat) (pad8 rest) _ hnG8.out (by omega) hgb.out hcH).mono ?_
            rw [hpl.out]
            rintro e y2 ⟨v3, rfl, hf3⟩
            obtain ⟨aoK, capK, hv3, hlK, hcK, hzK⟩ := own_u8c hf3.1
            subst hv3
            have hy2 := bmore hy1 hf3.2
            have hrV2 := hrV.below hf3.2
            obtain ⟨nK, hnK⟩ : ∃ nK, nK = (u8v (packed (pad8 rest) wd)).length := ⟨_, rfl⟩
            rw [← hnK] at hcK hzK hlK ⊢
            have hkl : nK ≤ 16 * 8 := by
              rw [← hlK, packed_length, hnG8.out]; unfold packSize
              have : 8 * wd ≤ 8 * 16 := Nat.mul_le_mul_left _ h16
              omega
            have HlK := Lib.hid hlK
            have hsx : wF.heap.size ≤ y2.heap.size := Nat.le_trans hbV.size hf3.2.size
            clear hf3 hcH hownH hnK hlK
            go_wp2_with (at_builtin; refine wpList_append_rowB rfl (.tmp 60) (.tmp 63) rfl rfl hrV2 rfl HlK.out hcK hzK (by omega) hsx ?_)
            intro aoZ capZ y3 hrZ hbZ hsZ
            have hy3 : Below wr.heap.size wr y3 := hy2.trans (hbZ.mono (Nat.le_trans HwF.out.size (Nat.le_refl _)))
            have HrZ := Lib.hid (hrZ.base (Nat.le_trans hwr.size HwF.out.size)); have Hy3 := Lib.hid (bmore hwr hy3)
            clear hrZ hbZ hsZ hy3 hy2 hy1 hrV hrV2 hcK hzK hbV
            go_wp2
            simp only [Exit.jump]
            go_roundw
            case rel =>
              have hrZ : RowB y3 w.heap.size aoZ (nV + nK) capZ (pre ++ (vputB (2 * (8 / 8) + 1) ++ packed (pad8 rest) wd)) := by have h := HrZ.out; simpa [List.append_assoc] using h
              have hnn : nT ≤ n := by omega
              first | exact ⟨pre ++ (vputB (2 * (8 / 8) + 1) ++ packed (pad8 rest) wd), rest.drop 8, nT, _, aoT, _, _, _, rfl, rfl, HlT, hcapT, hnn, HcT, HbT, hrZ, hst, Hy3.out⟩ | exact ⟨_, _, _, _, _, _, _, _, _, _, _, _, _, _, _, _, _, _, _, _, _, _, _, _, _, _, _, _, _, _, _, _, _, _, _, _, _, _, _, _, _, _, _, _, _, _, _, _, _, _, _, _, _, _, _, ⟨pre ++ (vputB (2 * (8 / 8) + 1) ++ packed (pad8 rest) wd), rest.drop 8, nT, _, aoT, _, _, _, rfl, rfl, HlT, hcapT, hnn, HcT, HbT, hrZ, hst, Hy3.out⟩, rfl⟩
            case measure => show nT < nR; omega
          · have e5 : (0 : Int) < (nT : Int) := by omega
            have hne : rest.drop 8 ≠ [] := fun e => hT0 (by rw [← HlT.out, e]; rfl)
            cases hrun : isRun (rest.drop 8) with
            | true =>
              have hgl := grps_last rest (.inr hrun)
              have HgE : Hid (grps rest = (pad8 rest, rest.drop 8)) := Lib.hid (by rw [hgl])
              clear hgl hT0 hne
              go_wp2_with fail
              refine (lruns_any aoT nT (capR - k8) (rest.drop 8) _ HlT.out (by omega) (HcT.at (bmore hwr HwT.out))).mono ?_
              rw [hrun]
              rintro e wF ⟨rfl, hx3⟩
              have hx3 := below_of_drew hx3
              have HownF := Lib.hid (own_below HownG.out hx3); have HwF := Lib.hid (bmore HwT.out hx3)
              clear hx3
              have e6 : ((2 * (8 / 8) + 1 : Nat) : Int) = 2 * ((8 : Int) / 8) + 1 := by omega
              have hnG8 : Hid ((pad8 rest).length = 8) := Lib.hid (by have h := HownF.out.1; rw [u64v_length, Nat.mul_one] at h; exact h)
              have hpl : Hid (packedAny (pad8 rest) wd = packed (pad8 rest) wd) := Lib.hid (by unfold packedAny; rw [if_pos (by omega), Int.toNat_natCast])
              have hst : Hid (levB wd l = (pre ++ (vputB (2 * (8 / 8) + 1) ++ packed (pad8 rest) wd)) ++ levB wd (rest.drop 8)) := Lib.hid (by
                rw [hlev.out, levB_grp wd rest hne0 hrunf, HgE.out]
                simp only [hnG8.out, List.append_assoc])
              have hgb : Hid (∀ y ∈ pad8 rest, y < 18446744073709551616) := Lib.hid (fun y hy => by
                have h2 : y ∈ (grps rest).1 := by rw [HgE.out]; exact hy
                exact grps_mem rest hne0 hbR.out y h2)
              have hrO1 := hrO.below HwF.out
              have hP := fun w' h1 h2 h3 h4 h5 => vput_any aoO nO capO pre (2 * (8 / 8) + 1) w' h1 h2 h3 h4 h5
              rw [e6] at hP
              go_wp2_with fail
              refine (hP _ hrO1.1 hrO1.cells hrO1.nil0 (by omega) (by omega)).mono ?_
              intro e y1 hgv
              obtain ⟨aoV, nV, capV, rfl, HnV, hcV, hnV, hrV, hbV⟩ := hgv.opened
              have hownH := own_below HownF.out hbV
              obtain ⟨aoH2, capH2, hsl, hcH, -⟩ := own_u64 hownH
              simp only [Value.slice.injEq, true_and] at hsl
              obtain ⟨rfl, rfl⟩ := hsl
              have hvl : nV ≤ nO + 10 := by
                have h1 := vputB_le (2 * (8 / 8) + 1)
                have h2 := hrO1.1
                rw [← HnV.out, List.length_append]; omega
              have hy1 := bmore HwF.out hbV
              clear hP hrO1 hcV hnV e6
              go_wp2_with fail
              refine (pack_any aoH 8 capH (wd : Nat) (pad8 rest) _ hnG8.out (by omega) hgb.out hcH).mono ?_
              rw [hpl.out]
              rintro e y2 ⟨v3, rfl, hf3⟩
              obtain ⟨aoK, capK, hv3, hlK, hcK, hzK⟩ := own_u8c hf3.1
              subst hv3
              have hy2 := bmore hy1 hf3.2
              have hrV2 := hrV.below hf3.2
              obtain ⟨nK, hnK⟩ : ∃ nK, nK = (u8v (packed (pad8 rest) wd)).length := ⟨_, rfl⟩
              rw [← hnK] at hcK hzK hlK ⊢
              have hkl : nK ≤ 16 * 8 := by
                rw [← hlK, packed_length, hnG8.out]; unfold packSize
                have : 8 * wd ≤ 8 * 16 := Nat.mul_le_mul_left _ h16
                omega
              have HlK := Lib.hid hlK
              have hsx : wF.heap.size ≤ y2.heap.size := Nat.le_trans hbV.size hf3.2.size
              clear hf3 hcH hownH hnK hlK
              go_wp2_with (at_builtin; refine wpList_append_rowB rfl (.tmp 60) (.tmp 63) rfl rfl hrV2 rfl HlK.out hcK hzK (by omega) hsx ?_)
              intro aoZ capZ y3 hrZ hbZ hsZ
              have hy3 : Below wr.heap.size wr y3 := hy2.trans (hbZ.mono (Nat.le_trans HwF.out.size (Nat.le_refl _)))
              have HrZ := Lib.hid (hrZ.base (Nat.le_trans hwr.size HwF.out.size)); have Hy3 := Lib.hid (bmore hwr hy3)
              clear hrZ hbZ hsZ hy3 hy2 hy1 hrV hrV2 hcK hzK hbV
              go_wp2
              simp only [Exit.jump]
              go_roundw
              case rel =>
                have hrZ : RowB y3 w.heap.size aoZ (nV + nK) capZ (pre ++ (vputB (2 * (8 / 8) + 1) ++ packed (pad8 rest) wd)) := by have h := HrZ.out; simpa [List.append_assoc] using h
                have hnn : nT ≤ n := by omega
                first | exact ⟨pre ++ (vputB (2 * (8 / 8) + 1) ++ packed (pad8 rest) wd), rest.drop 8, nT, _, aoT, _, _, _, rfl, rfl, HlT, hcapT, hnn, HcT, HbT, hrZ, hst, Hy3.out⟩ | exact ⟨_, _, _, _, _, _, _, _, _, _, _, _, _, _, _, _, _, _, _, _, _, _, _, _, _, _, _, _, _, _, _, _, _, _, _, _, _, _, _, _, _, _, _, _, _, _, _, _, _, _, _, _, _, _, _, ⟨pre ++ (vputB (2 * (8 / 8) + 1) ++ packed (pad8 rest) wd), rest.drop 8, nT, _, aoT, _, _, _, rfl, rfl, HlT, hcapT, hnn, HcT, HbT, hrZ, hst, Hy3.out⟩, rfl⟩
              case measure => show nT < nR; omega
            | false =>
              have hgm := grps_more rest (by rw [hrun]; simp [hne])
              have HgM : Hid (grps rest = ((pad8 rest) ++ (grps (rest.drop 8)).1, (grps (rest.drop 8)).2)) := Lib.hid (by rw [hgm])
              clear hgm hne
              go_wp2_with fail
              refine (lruns_any aoT nT (capR - k8) (rest.drop 8) _ HlT.out (by omega) (HcT.at (bmore hwr HwT.out))).mono ?_
              rw [hrun]
              rintro e x3 ⟨rfl, hx3⟩
              have hx3 := below_of_drew hx3
              have HownG := Lib.hid (own_below HownG.out hx3); have HwT := Lib.hid (bmore HwT.out hx3)
              clear hx3
              go_wp2
              go_step3
              refine ⟨rfl, ?_⟩
              unfold LevJ
              exact ⟨pad8 rest, rest.drop 8, _, _, _, _, _, _, _, _, _, _, _, _, _, _, _, _, _, _, _, _, _, _, _, _, _, _, _, _, _, _, _, _, _, _, _, _, _, _, _, _, _, _, _, _, _, _, _, _, _, _, _, _, _, _, _, _, _, _, rfl, HlT, by omega, by omega, hcapT, HcT, HbT, by omega, HownG.out, HgM, HwT.out⟩
        · intro a' W hJ
          obtain ⟨gp, rs, nG, nS, aoG, aoS, capG, capS, us, rfl, hlS, h0S, hSR, hcapS, hcS, hbS, hnG, hownG, hgS, hW⟩ := LevJ.open_ hJ
          clear hJ
          generalize us 6 = u6, us 14 = u14, us 15 = u15, us 16 = u16, us 17 = u17, us 18 = u18, us 19 = u19, us 20 = u20, us 21 = u21, us 22 = u22, us 23 = u23, us 24 = u24, us 25 = u25, us 26 = u26, us 27 = u27, us 28 = u28, us 29 = u29, us 30 = u30, us 31 = u31, us 32 = u32, us 33 = u33, us 34 = u34, us 35 = u35, us 36 = u36, us 37 = u37, us 38 = u38, us 39 = u39, us 40 = u40, us 41 = u41, us 42 = u42, us 43 = u43, us 44 = u44, us 45 = u45, us 46 = u46, us 47 = u47, us 48 = u48, us 49 = u49, us 50 = u50, us 51 = u51, us 52 = u52, us 53 = u53, us 54 = u54, us 55 = u55, us 56 = u56, us 57 = u57, us 58 = u58, us 59 = u59, us 60 = u60, us 61 = u61, us 62 = u62, us 63 = u63, us 64 = u64
          obtain ⟨k8, hk8⟩ : ∃ k8, Hid (k8 = min 8 rs.length) := ⟨_, Lib.hid rfl⟩
          have hk8n : k8 ≤ nS ∧ 0 < k8 ∧ k8 ≤ 8 := by have h1 := hk8.out; have h2 := hlS.out; omega
          have hmin := fun (w' : World) => run_min_int2 (P := Try.prog) (w := w') #[3, 3] 3 .i64 8 (nS : Int) (k8 : Int) (by have h1 := hk8.out; have h2 := hlS.out; omega)
          have hd8 := drop8_min rs k8 hk8.out
          obtain ⟨aoT, haoT, hsT⟩ := slI_from aoS nS capS k8 hk8n.1 hcapS
          have hcT0 := rest_cells hlS.out hcS hk8n.1 haoT
          rw [hd8] at hcT0
          obtain ⟨nT, hnT⟩ : ∃ nT, nT = nS - k8 := ⟨_, rfl⟩
          rw [← hnT] at hcT0 hsT
          have HcT : CellsAt w w.heap.size aoT nT (nic (rs.drop 8)) := hcT0
          have HlT : Hid ((rs.drop 8).length = nT) := Lib.hid (by rw [← hd8, List.length_drop, hlS.out, hnT])
          have HbT : Hid (∀ y ∈ rs.drop 8, y < 18446744073709551616) := Lib.hid (fun y hy => hbS.out y (List.mem_of_mem_drop hy))
          have hcapT : nT ≤ capS - k8 := by omega
          have hnT8 : nG + 8 ≤ 8 * (nR - nT) := by omega
          have hnT2 : nT < nS := by omega
          clear hnT
          clear hd8 haoT hcT0
          go_wp2_with fail
          refine (lgroup_any aoS nS capS rs _ hlS.out (by omega) hcapS (hcS.at (bmore hwr hW)) hbS.out).mono ?_
          rintro e x1 ⟨v1, rfl, hf1⟩
          have hx1 := hf1.2
          obtain ⟨aoP, nP, capP, rfl, HnP, hcP, hzP, hoP⟩ := hf1.u64
          have hnP8 : nP = 8 := by rw [HnP.out, pad8_length]
          subst hnP8
          obtain ⟨aoP2, capP2, hslP, -, hnilP⟩ := own_u64c hoP
          simp only [Value.slice.injEq, true_and] at hslP
          obtain ⟨rfl, rfl⟩ := hslP
          have hownG1 := own_below hownG hx1
          have hW1 := bmore hW hx1
          have hns1 : wr.heap.size ≤ x1.heap.size := hW1.size
          have e8 : (List.range 8).map (u64c (pad8 rs)) = u64v (pad8 rs) := by
            refine List.ext_getElem (by simp [u64v, pad8_length]) fun i h1 h2 => ?_
            have hi : i < (pad8 rs).length := by simpa [u64v] using h2
            simp [u64v, u64c, hi]
          have E8 := Lib.hid e8
          clear hf1 hoP HnP hzP hownG hW hx1 e8
          go_wp2_with (at_builtin; refine wpList_append_all1 sl_u64 rfl (.tmp 36) (.tmp 38) rfl rfl hownG1 rfl hcP hnilP (fun _ _ => rfl) (by unfold maxLen; omega) (by omega) hns1 ?_)
          intro v2 x2 hown2 hgrow2
          have hx2 : Below wr.heap.size wr x2 := hW1.grown hgrow2 hns1 (fun k hk => (hownG1.lt k hk).1)
          have hown2 : x2.ownsRow wr.heap.size 68 1 v2 (nG + 8) (u64v (gp ++ pad8 rs)) := by
            have h := hown2
            rw [← u64v_append, ← E8.out]; exact h
          obtain ⟨aoH, capH, rfl, hcH, -⟩ := own_u64 hown2
          have HownG := Lib.hid hown2; have HwT := Lib.hid hx2
          clear hown2 hx2 hgrow2 hownG1 hW1 hcH hcP hnilP hns1 hcS hcapS
          by_cases hT0 : nT = 0
          · have hgl := grps_last rs (.inl (List.length_eq_zero_iff.1 (HlT.out.trans hT0)))
            have HgE : Hid (grps rest = (gp ++ pad8 rs, rs.drop 8)) := Lib.hid (by rw [hgS.out, hgl])
            have e5 : ¬ (0 : Int) < (nT : Int) := by omega
            have HownF := HownG; have HwF := HwT
            obtain ⟨wF, hwF⟩ : ∃ wF, wF = x2 := ⟨_, rfl⟩
            subst hwF
            clear hgl hT0
            have e6 : ((2 * ((nG + 8) / 8) + 1 : Nat) : Int) = 2 * (((nG : Int) + 8) / 8) + 1 := by omega
            have hnG8 : Hid ((gp ++ pad8 rs).length = nG + 8) := Lib.hid (by have h := HownF.out.1; rw [u64v_length, Nat.mul_one] at h; exact h)
            have hpl : Hid (packedAny (gp ++ pad8 rs) wd = packed (gp ++ pad8 rs) wd) := Lib.hid (by unfold packedAny; rw [if_pos (by omega), Int.toNat_natCast])
            have hst : Hid (levB wd l = (pre ++ (vputB (2 * ((nG + 8) / 8) + 1) ++ packed (gp ++ pad8 rs) wd)) ++ levB wd (rs.drop 8)) := Lib.hid (by
              rw [hlev.out, levB_grp wd rest hne0 hrunf, HgE.out]
              simp only [hnG8.out, List.append_assoc])
            have hgb : Hid (∀ y ∈ gp ++ pad8 rs, y < 18446744073709551616) := Lib.hid (fun y hy => by
              have h2 : y ∈ (grps rest).1 := by rw [HgE.out]; exact hy
              exact grps_mem rest hne0 hbR.out y h2)
            have hrO1 := hrO.below HwF.out
            have hP := fun w' h1 h2 h3 h4 h5 => vput_any aoO nO capO pre (2 * ((nG + 8) / 8) + 1) w' h1 h2 h3 h4 h5
            rw [e6] at hP
            go_wp2_with fail
            refine (hP _ hrO1.1 hrO1.cells hrO1.nil0 (by omega) (by omega)).mono ?_
            intro e y1 hgv
            obtain ⟨aoV, nV, capV, rfl, HnV, hcV, hnV, hrV, hbV⟩ := hgv.opened
            have hownH := own_below HownF.out hbV
            obtain ⟨aoH2, capH2, hsl, hcH, -⟩ := own_u64 hownH
            simp only [Value.slice.injEq, true_and] at hsl
            obtain ⟨rfl, rfl⟩ := hsl
            have hvl : nV ≤ nO + 10 := by
              have h1 := vputB_le (2 * ((nG + 8) / 8) + 1)
              have h2 := hrO1.1
              rw [← HnV.out, List.length_append]; omega
            have hy1 := bmore HwF.out hbV
            clear hP hrO1 hcV hnV e6
            go_wp2_with fail
            refine (pack_any aoH (nG + 8) capH (wd : Nat) (gp ++ pad8 rs) _ hnG8.out (by omega) hgb.out hcH).mono ?_
            rw [hpl.out]
            rintro e y2 ⟨v3, rfl, hf3⟩
            obtain ⟨aoK, capK, hv3, hlK, hcK, hzK⟩ := own_u8c hf3.1
            subst hv3
            have hy2 := bmore hy1 hf3.2
            have hrV2 := hrV.below hf3.2
            obtain ⟨nK, hnK⟩ : ∃ nK, nK = (u8v (packed (gp ++ pad8 rs) wd)).length := ⟨_, rfl⟩
            rw [← hnK] at hcK hzK hlK ⊢
            have hkl : nK ≤ 16 * (nG + 8) := by
              rw [← hlK, packed_length, hnG8.out]; unfold packSize
              have : (nG + 8) * wd ≤ (nG + 8) * 16 := Nat.mul_le_mul_left _ h16
              omega
            have HlK := Lib.hid hlK
            have hsx : wF.heap.size ≤ y2.heap.size := Nat.le_trans hbV.size hf3.2.size
            clear hf3 hcH hownH hnK hlK
            go_wp2_with (at_builtin; refine wpList_append_rowB rfl (.tmp 60) (.tmp 63) rfl rfl hrV2 rfl HlK.out hcK hzK (by omega) hsx ?_)
            intro aoZ capZ y3 hrZ hbZ hsZ
            have hy3 : Below wr.heap.size wr y3 := hy2.trans (hbZ.mono (Nat.le_trans HwF.out.size (Nat.le_refl _)))
            have HrZ := Lib.hid (hrZ.base (Nat.le_trans hwr.size HwF.out.size)); have Hy3 := Lib.hid (bmore hwr hy3)
            clear hrZ hbZ hsZ hy3 hy2 hy1 hrV hrV2 hcK hzK hbV
            go_wp2
            simp only [Exit.jump]
            go_roundw
            case rel =>
              have hrZ : RowB y3 w.heap.size aoZ (nV + nK) capZ (pre ++ (vputB (2 * ((nG + 8) / 8) + 1) ++ packed (gp ++ pad8 rs) wd)) := by have h := HrZ.out; simpa [List.append_assoc] using h
              have hnn : nT ≤ n := by omega
              first | exact ⟨pre ++ (vputB (2 * ((nG + 8) / 8) + 1) ++ packed (gp ++ pad8 rs) wd), rs.drop 8, nT, _, aoT, _, _, _, rfl, rfl, HlT, hcapT, hnn, HcT, HbT, hrZ, hst, Hy3.out⟩ | exact ⟨_, _, _, _, _, _, _, _, _, _, _, _, _, _, _, _, _, _, _, _, _, _, _, _, _, _, _, _, _, _, _, _, _, _, _, _, _, _, _, _, _, _, _, _, _, _, _, _, _, _, _, _, _, _, _, ⟨pre ++ (vputB (2 * ((nG + 8) / 8) + 1) ++ packed (gp ++ pad8 rs) wd), rs.drop 8, nT, _, aoT, _, _, _, rfl, rfl, HlT, hcapT, hnn, HcT, HbT, hrZ, hst, Hy3.out⟩, rfl⟩
            case measure => show nT < nR; omega
          · have e5 : (0 : Int) < (nT : Int) := by omega
            have hne : rs.drop 8 ≠ [] := fun e => hT0 (by rw [← HlT.out, e]; rfl)
            cases hrun : isRun (rs.drop 8) with
            | true =>
              have hgl := grps_last rs (.inr hrun)
              have HgE : Hid (grps rest = (gp ++ pad8 rs, rs.drop 8)) := Lib.hid (by rw [hgS.out, hgl])
              clear hgl hT0 hne
              go_wp2_with fail
              refine (lruns_any aoT nT (capS - k8) (rs.drop 8) _ HlT.out (by omega) (HcT.at (bmore hwr HwT.out))).mono ?_
              rw [hrun]
              rintro e wF ⟨rfl, hx3⟩
              have hx3 := below_of_drew hx3
              have HownF := Lib.hid (own_below HownG.out hx3); have HwF := Lib.hid (bmore HwT.out hx3)
              clear hx3
              have e6 : ((2 * ((nG + 8) / 8) + 1 : Nat) : Int) = 2 * (((nG : Int) + 8) / 8) + 1 := by omega
              have hnG8 : Hid ((gp ++ pad8 rs).length = nG + 8) := Lib.hid (by have h := HownF.out.1; rw [u64v_length, Nat.mul_one] at h; exact h)
              have hpl : Hid (packedAny (gp ++ pad8 rs) wd = packed (gp ++ pad8 rs) wd) := Lib.hid (by unfold packedAny; rw [if_pos (by omega), Int.toNat_natCast])
              have hst : Hid (levB wd l = (pre ++ (vputB (2 * ((nG + 8) / 8) + 1) ++ packed (gp ++ pad8 rs) wd)) ++ levB wd (rs.drop 8)) := Lib.hid (by
                rw [hlev.out, levB_grp wd rest hne0 hrunf, HgE.out]
                simp only [hnG8.out, List.append_assoc])
              have hgb : Hid (∀ y ∈ gp ++ pad8 rs, y < 18446744073709551616) := Lib.hid (fun y hy => by
                have h2 : y ∈ (grps rest).1 := by rw [HgE.out]; exact hy
                exact grps_mem rest hne0 hbR.out y h2)
              have hrO1 := hrO.below HwF.out
              have hP := fun w' h1 h2 h3 h4 h5 => vput_any aoO nO capO pre (2 * ((nG + 8) / 8) + 1) w' h1 h2 h3 h4 h5
              rw [e6] at hP
              go_wp2_with fail
              refine (hP _ hrO1.1 hrO1.cells hrO1.nil0 (by omega) (by omega)).mono ?_
              intro e y1 hgv
              obtain ⟨aoV, nV, capV, rfl, HnV, hcV, hnV, hrV, hbV⟩ := hgv.opened
              have hownH := own_below HownF.out hbV
              obtain ⟨aoH2, capH2, hsl, hcH, -⟩ := own_u64 hownH
              simp only [Value.slice.injEq, true_and] at hsl
              obtain ⟨rfl, rfl⟩ := hsl
              have hvl : nV ≤ nO + 10 := by
                have h1 := vputB_le (2 * ((nG + 8) / 8) + 1)
                have h2 := hrO1.1
                rw [← HnV.out, List.length_append]; omega
              have hy1 := bmore HwF.out hbV
              clear hP hrO1 hcV hnV e6
              go_wp2_with fail
              refine (pack_any aoH (nG + 8) capH (wd : Nat) (gp ++ pad8 rs) _ hnG8.out (by omega) hgb.out hcH).mono ?_
              rw [hpl.out]
              rintro e y2 ⟨v3, rfl, hf3⟩
              obtain ⟨aoK, capK, hv3, hlK, hcK, hzK⟩ := own_u8c hf3.1
              subst hv3
              have hy2 := bmore hy1 hf3.2
              have hrV2 := hrV.below hf3.2
              obtain ⟨nK, hnK⟩ : ∃ nK, nK = (u8v (packed (gp ++ pad8 rs) wd)).length := ⟨_, rfl⟩
              rw [← hnK] at hcK hzK hlK ⊢
              have hkl : nK ≤ 16 * (nG + 8) := by
                rw [← hlK, packed_length, hnG8.out]; unfold packSize
                have : (nG + 8) * wd ≤ (nG + 8) * 16 := Nat.mul_le_mul_left _ h16
                omega
              have HlK := Lib.hid hlK
              have hsx : wF.heap.size ≤ y2.heap.size := Nat.le_trans hbV.size hf3.2.size
              clear hf3 hcH hownH hnK hlK
              go_wp2_with (at_builtin; refine wpList_append_rowB rfl (.tmp 60) (.tmp 63) rfl rfl hrV2 rfl HlK.out hcK hzK (by omega) hsx ?_)
              intro aoZ capZ y3 hrZ hbZ hsZ
              have hy3 : Below wr.heap.size wr y3 := hy2.trans (hbZ.mono (Nat.le_trans HwF.out.size (Nat.le_refl _)))
              have HrZ := Lib.hid (hrZ.base (Nat.le_trans hwr.size HwF.out.size)); have Hy3 := Lib.hid (bmore hwr hy3)
              clear hrZ hbZ hsZ hy3 hy2 hy1 hrV hrV2 hcK hzK hbV
              go_wp2
              simp only [Exit.jump]
              go_roundw
              case rel =>
                have hrZ : RowB y3 w.heap.size aoZ (nV + nK) capZ (pre ++ (vputB (2 * ((nG + 8) / 8) + 1) ++ packed (gp ++ pad8 rs) wd)) := by have h := HrZ.out; simpa [List.append_assoc] using h
                have hnn : nT ≤ n := by omega
                first | exact ⟨pre ++ (vputB (2 * ((nG + 8) / 8) + 1) ++ packed (gp ++ pad8 rs) wd), rs.drop 8, nT, _, aoT, _, _, _, rfl, rfl, HlT, hcapT, hnn, HcT, HbT, hrZ, hst, Hy3.out⟩ | exact ⟨_, _, _, _, _, _, _, _, _, _, _, _, _, _, _, _, _, _, _, _, _, _, _, _, _, _, _, _, _, _, _, _, _, _, _, _, _, _, _, _, _, _, _, _, _, _, _, _, _, _, _, _, _, _, _, ⟨pre ++ (vputB (2 * ((nG + 8) / 8) + 1) ++ packed (gp ++ pad8 rs) wd), rs.drop 8, nT, _, aoT, _, _, _, rfl, rfl, HlT, hcapT, hnn, HcT, HbT, hrZ, hst, Hy3.out⟩, rfl⟩
              case measure => show nT < nR; omega
            | false =>
              have hgm := grps_more rs (by rw [hrun]; simp [hne])
              have HgM : Hid (grps rest = ((gp ++ pad8 rs) ++ (grps (rs.drop 8)).1, (grps (rs.drop 8)).2)) := Lib.hid (by rw [hgS.out, hgm, List.append_assoc])
              clear hgm hne
              go_wp2_with fail
              refine (lruns_any aoT nT (capS - k8) (rs.drop 8) _ HlT.out (by omega) (HcT.at (bmore hwr HwT.out))).mono ?_
              rw [hrun]
              rintro e x3 ⟨rfl, hx3⟩
              have hx3 := below_of_drew hx3
              have HownG := Lib.hid (own_below HownG.out hx3); have HwT := Lib.hid (bmore HwT.out hx3)
              clear hx3
              go_wp2
              go_step3
              refine ⟨rfl, ?_, ?_⟩
              · unfold LevJ
                exact ⟨gp ++ pad8 rs, rs.drop 8, _, _, _, _, _, _, _, _, _, _, _, _, _, _, _, _, _, _, _, _, _, _, _, _, _, _, _, _, _, _, _, _, _, _, _, _, _, _, _, _, _, _, _, _, _, _, _, _, _, _, _, _, _, _, _, _, _, _, rfl, HlT, by omega, by omega, hcapT, HcT, HbT, by omega, HownG.out, HgM, HwT.out⟩
              · show nT < nS
                omega
theorem levE_any (ao : Option Addr) (n cap : Nat) (width : Int) (l : List Nat) (w : World) (hl : l.length = n) (hn : n ≤ 100000) (hcap : n ≤ cap) (hc : CellsAt w w.heap.size ao n (nic l)) (hb : ∀ x ∈ l, x < 18446744073709551616) :
    Calls Try.prog 30 #[.slice ao n cap, .int .i64 width] w (GaveB w (levAny l width)) := by
  unfold levAny
  by_cases h : width ≤ 0 ∨ 16 < width
  · rw [if_pos h]; exact levE_out ao n cap width w h
  · rw [if_neg h]
    obtain ⟨wd, rfl⟩ : ∃ k : Nat, width = k := ⟨width.toNat, by omega⟩
    rw [Int.toNat_natCast]
    exact levE_in ao n cap wd l w hl hn hcap hc hb (by omega) (by omega)
end Go.Proofs.Ytkolmoebopfgiaa
