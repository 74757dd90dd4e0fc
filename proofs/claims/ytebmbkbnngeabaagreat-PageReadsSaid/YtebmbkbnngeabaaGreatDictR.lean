/- Chapter 13: the walks over the document's find and Build; what was written is read as it was. -/
import Derived.Test.YtebmbkbnngeabaaGreatDictD
import Derived.Test.YtebmbkbnngeabaaGreatBunB
import Derived.Test.YtebmbkbnngeabaaGreatBunA
set_option linter.unusedSimpArgs false
namespace Go.Proofs.YtebmbkbnngeabaaGreat
open Go.RowKit
set_option linter.unusedVariables false
theorem dIdx_first (v : Vl) : ∀ (ws : List Vl) (j : Nat), j < ws.length → ws.getD j vl0 = v → (∀ i, i < j → ws.getD i vl0 ≠ v) → v ∈ ws ∧ dIdx v ws = j
 | [], j, h, _, _ => by simp at h
 | x :: t, 0, _, h, _ => by
  have hx : x = v := h
  subst hx
  exact ⟨List.mem_cons_self .., by simp [dIdx]⟩
 | x :: t, j + 1, hl, h, hn => by
  have hx : x ≠ v := hn 0 (by omega)
  obtain ⟨h1, h2⟩ := dIdx_first v t j (by simpa using hl) (by simpa using h) (fun i hi => by have := hn (i + 1) (by omega); simpa using this)
  exact ⟨List.mem_cons_of_mem _ h1, by simp only [dIdx]; rw [if_neg hx, h2]⟩
theorem not_mem_all (v : Vl) (ws : List Vl) (h : ∀ i, i < ws.length → ws.getD i vl0 ≠ v) : v ∉ ws := by
 intro hm
 obtain ⟨i, hi, e⟩ := List.mem_iff_getElem.1 hm
 have := h i hi
 rw [List.getD_eq_getElem?_getD, List.getElem?_eq_getElem hi] at this
 exact this e
def findR (ws : List Vl) (v : Vl) : Int := if v ∈ ws then (dIdx v ws : Int) else -1
set_option maxHeartbeats 4000000 in
set_option maxRecDepth 100000 in
theorem rfind_any (ao : Option Addr) (n cap : Nat) (ws : List Vl) (v : Vl) (w : World) (hl : ws.length = n) (hn : n ≤ 100000) (hc : CellsAt w w.heap.size ao (n * 2) (vlc ws)) :
 Calls Tryz.prog 42 #[.slice ao n cap, .agg #[.int .i64 v.1, .string v.2]] w fun e w' => e = .returned (.int .i64 (findR ws v)) ∧ Below w.heap.size w w' := by
 have Hl := Lib.hid hl
 have hcW := Lib.hid (hc.alloc (Nat.le_refl _) (.cells #[.int .i64 v.1, .string v.2] 81))
 obtain ⟨W1, hW1⟩ : ∃ W, W = w.alloc (.cells #[.int .i64 v.1, .string v.2] 81) := ⟨_, rfl⟩
 have v0 : W1.cell? ⟨w.heap.size, 0, none⟩ = some (.int .i64 v.1) := by rw [hW1]; simp [go_sem]
 have v1 : W1.cell? ⟨w.heap.size, 1, none⟩ = some (.string v.2) := by rw [hW1]; simp [go_sem]
 have HbW := Lib.hid (show Below w.heap.size w W1 by rw [hW1]; exact balloc (Below.refl _ _) _)
 rw [← hW1] at hcW
 clear hc hl
 go_enter Tryz.func42, Tryz.ntmps42
 go_wp2
 rw [← hW1]
 clear hW1
 go_loopw [5] (fun i wr => ∃ j m : Nat, j ≤ n ∧ i = .int .i64 (j : Nat) ∧ wr = W1.drewN m ∧ Hid (∀ i, i < j → ws.getD i vl0 ≠ v)) (fun i _ => n - (intOf i).toNat)
 case atStart => exact ⟨0, 0, Nat.zero_le _, rfl, rfl, Lib.hid (fun i h => by omega)⟩
 case round =>
  obtain ⟨j, m, hj, rfl, rfl, hno⟩ := hrel
  by_cases hjn : j < n
  · have e1 : (j : Int) < (n : Int) := by omega
    have e2 : (0 : Int) ≤ (j : Int) := by omega
    obtain ⟨b, off, rfl, hb, c0, c1⟩ := hcW.out.val hjn
    obtain ⟨x, hx⟩ : ∃ x, x = ws.getD j vl0 := ⟨_, rfl⟩
    rw [vN, ← hx] at c0
    rw [vS, ← hx] at c1
    have heq := fun w' => equal_v w' x v
    have hg := Tryz.guardV
    have Hx := Lib.hid hx
    clear hx hb
    by_cases hxv : x = v
    · have hd : decide (x = v) = true := decide_eq_true hxv
      have hfin : Hid (findR ws v = (j : Nat)) := Lib.hid (by
       obtain ⟨h1, h2⟩ := dIdx_first v ws j (by rw [Hl.out]; exact hjn) (by rw [← Hx.out]; exact hxv) hno.out
       unfold findR; rw [if_pos h1, h2])
      clear hxv
      go_wp2
      go_quiet (fail)
      go_wp2
      go_ret
      rw [hfin.out]
      exact ⟨rfl, below_drewN (below_drewN HbW.out m) nq⟩
    · have hd : decide (x = v) = false := decide_eq_false hxv
      have hno2 : Hid (∀ i, i < j + 1 → ws.getD i vl0 ≠ v) := Lib.hid (fun i hi => by
       by_cases h : i = j
       · subst h; rw [← Hx.out]; exact hxv
       · exact hno.out i (by omega))
      clear hxv
      go_wp2
      go_quiet (fail)
      go_wp2
      go_roundw
      case rel => exact ⟨j + 1, m + nq, by omega, by go_num, rfl, hno2⟩
      case measure => simp [intOf]; omega
  · have e1 : ¬ (j : Int) < (n : Int) := by omega
    have hfin : Hid (findR ws v = -1) := Lib.hid (by
     unfold findR; rw [if_neg (not_mem_all v ws (fun i hi => hno.out i (by rw [Hl.out] at hi; omega)))])
    go_wp2
    go_ret
    rw [hfin.out]
    exact ⟨rfl, below_drewN HbW.out m⟩
def RB (w : World) (l : List Vl) (len most : Nat) (e : Ending) (w' : World) : Prop :=
 ((dWords l).length ≤ most ∧ ∃ v1 v2, e = .returned (.tuple #[v1, v2, .bool true]) ∧ w'.ownsRow w.heap.size 81 2 v1 (dWords l).length (vcs (dWords l)) ∧ w'.ownsRow w.heap.size 3 1 v2 len (i64v (dAtsI l)) ∧ Below w.heap.size w w') ∨
 (most < (dWords l).length ∧ e = .returned (.tuple #[.slice none 0 0, .slice none 0 0, .bool false]) ∧ Below w.heap.size w w')
set_option maxHeartbeats 8000000 in
set_option maxRecDepth 100000 in
theorem rbuild_in (ao : Option Addr) (len cap : Nat) (l : List Vl) (most : Nat) (w : World) (hl : l.length = len) (hlen : len ≤ 100000) (hc : CellsAt w w.heap.size ao (len * 2) (vlc l)) (hm : most ≤ 256) :
 Calls Tryz.prog 16 #[.slice ao len cap, .int .i64 (most : Nat)] w (RB w l len most) := by
 have Hl := Lib.hid hl; have Hc := Lib.hid hc
 have d1 : decide ((most : Int) < 0) = false := decide_eq_false (by omega)
 have d2 : decide ((256 : Int) < (most : Int)) = false := decide_eq_false (by omega)
 clear hl hc
 go_enter Tryz.func16, Tryz.ntmps16
 go_wp2
 go_loopw [7, 8, 9] (fun wv av i wr => ∃ (j m : Nat) (aoW aoA : Option Addr) (capW capA : Nat), j ≤ len ∧ i = .int .i64 (j : Nat) ∧ wv = .slice aoW m capW ∧ av = .slice aoA j capA ∧ Hid (m = (dWords (l.take j)).length) ∧ m ≤ most ∧
  Hid (wr.ownsRow w.heap.size 81 2 (.slice aoW m capW) m (vcs (dWords (l.take j)))) ∧ Hid (wr.ownsRow w.heap.size 3 1 (.slice aoA j capA) j (i64v (dAtsI (l.take j)))) ∧ Hid (Below w.heap.size w wr)) (fun _ _ i _ => len - (intOf i).toNat)
 case atStart => exact ⟨0, 0, none, none, 0, 0, Nat.zero_le _, rfl, rfl, rfl, Lib.hid rfl, Nat.zero_le _, Lib.hid (World.ownsRow_nil _ _ _ _), Lib.hid (World.ownsRow_nil _ _ _ _), Lib.hid (Below.refl _ _)⟩
 case round =>
  obtain ⟨j, m, aoW, aoA, capW, capA, hj, rfl, rfl, rfl, hmw, hmm, how, hoa, hwr⟩ := hrel
  obtain ⟨y, hyy⟩ : ∃ x, x = wr := ⟨_, rfl⟩
  subst hyy
  by_cases hlt : j < len
  · have e1 : (j : Int) < (len : Int) := by omega
    have e2 : (0 : Int) ≤ (j : Int) := by omega
    obtain ⟨b, off, rfl, hb, c0, c1⟩ := Hc.out.val hlt
    have c0' := (hwr.out.cell (by exact hb)).trans c0
    have c1' := (hwr.out.cell (by exact hb)).trans c1
    obtain ⟨v, hv⟩ : ∃ v, v = l.getD j vl0 := ⟨_, rfl⟩
    rw [vN, ← hv] at c0 c0'
    rw [vS, ← hv] at c1 c1'
    have Hb := Lib.hid hb; have C0 := Lib.hid c0; have C1 := Lib.hid c1
    have htk : l.take (j + 1) = l.take j ++ [v] := by
     rw [List.take_succ_eq_append_getElem (by rw [Hl.out]; exact hlt), hv, List.getD_eq_getElem?_getD, List.getElem?_eq_getElem (by rw [Hl.out]; exact hlt)]; rfl
    obtain ⟨ws, hws⟩ : ∃ ws, ws = dWords (l.take j) := ⟨_, rfl⟩
    have hsn : Hid (dWords (l.take (j + 1)) = dStep ws v) := Lib.hid (by rw [htk, dWords_snoc, hws])
    have han : Hid (dAtsI (l.take (j + 1)) = dAtsI (l.take j) ++ [(dIdx v (dStep ws v) : Int)]) := Lib.hid (by rw [htk, dAtsI_snoc, hws])
    rw [← hws] at hmw how
    obtain ⟨aoW2, capW2, hsl, -, -, hcW, -, -⟩ := own_v how.out
    simp only [Value.slice.injEq, true_and] at hsl
    obtain ⟨rfl, rfl⟩ := hsl
    have HF := Lib.hid (rfind_any aoW m capW ws v y hmw.out.symm (by omega) hcW)
    clear hv htk hws hcW hb c0 c1
    by_cases hmem : v ∈ ws
    · obtain ⟨kx, hkx⟩ : ∃ kx, kx = dIdx v ws := ⟨_, rfl⟩
      have hf : findR ws v = (kx : Nat) := by unfold findR; rw [if_pos hmem, hkx]
      rw [hf] at HF
      have hds : dStep ws v = ws := if_pos hmem
      rw [hds] at hsn han
      rw [← hkx] at han
      have e5 : ¬ ((kx : Nat) : Int) < 0 := by omega
      clear hmem hkx hf hds
      go_wp2_with fail
      refine HF.out.mono ?_
      rintro e y2 ⟨rfl, hb2⟩
      have how2 := own_below how.out hb2
      have hoa2 := own_below hoa.out hb2
      have hy2 := bmore hwr.out hb2
      have hbA := (Below.refl y2.heap.size y2).alloc (Nat.le_refl _) (.cells #[.int .i64 (kx : Nat)] 3)
      have hownA := own_below hoa2 hbA
      have howA := own_below how2 hbA
      have hsA : w.heap.size ≤ (y2.alloc (.cells #[.int .i64 (kx : Nat)] 3)).heap.size := Nat.le_trans hy2.size (by simp)
      have HowA := Lib.hid howA; have Hy2 := Lib.hid hy2
      clear how2 hoa2 hb2 hbA how hoa howA hy2
      go_wp2_with (at_builtin; refine wpList_append_all1 sl_i64 rfl (.tmp 43) (.tmp 45) rfl rfl hownA rfl (cells_one y2 3 (.int .i64 (kx : Nat))) (fun h => by cases h) (fun _ _ => rfl) (by unfold maxLen; omega) (by omega) hsA ?_)
      intro v' y3 ho3 hg3
      have hy3 : Below w.heap.size w y3 := (Hy2.out.alloc Hy2.out.size _).grown hg3 hsA (fun k hk => (hownA.lt k hk).1)
      have how3 := HowA.out.kept hg3 (own_apartD HowA.out hownA (by decide))
      have hoa3 : y3.ownsRow w.heap.size 3 1 v' (j + 1) (i64v (dAtsI (l.take (j + 1)))) := by
       rw [han.out, ← i64v_append]; exact ho3
      rw [← hsn.out] at how3
      obtain ⟨ao3, cap3, rfl, -, -⟩ := own_cells hoa3
      have How3 := Lib.hid how3; have Hoa3 := Lib.hid hoa3; have Hy3 := Lib.hid hy3
      have hm3 : Hid (m = (dWords (l.take (j + 1))).length) := Lib.hid (by rw [hsn.out]; exact hmw.out)
      clear ho3 hg3 how3 hoa3 hy3 hownA hsA HowA
      go_wp2
      go_roundw
      case rel => exact ⟨j + 1, m, aoW, ao3, capW, cap3, by omega, by go_num, rfl, rfl, hm3, hmm, How3, Hoa3, Hy3⟩
      case measure => simp [intOf]; omega
    · have hf : findR ws v = -1 := by unfold findR; rw [if_neg hmem]
      rw [hf] at HF
      have hds : dStep ws v = ws ++ [v] := if_neg hmem
      have hdx : dIdx v (dStep ws v) = m := by rw [hds, dIdx_new v ws hmem, hmw.out]
      rw [hdx] at han
      rw [hds] at hsn
      have hml : Hid ((dWords (l.take (j + 1))).length = m + 1) := Lib.hid (by rw [hsn.out, List.length_append, hmw.out]; rfl)
      clear hmem hf hds hdx
      by_cases hover : most ≤ m
      · have e5 : (most : Int) ≤ (m : Int) := by omega
        have hbig : Hid (most < (dWords l).length) := Lib.hid (by
         have := dWords_take_le l (j + 1)
         have := hml.out
         omega)
        clear hover how hoa
        go_wp2_with fail
        refine HF.out.mono ?_
        rintro e y2 ⟨rfl, hb2⟩
        have hy2 := Lib.hid (bmore hwr.out hb2)
        clear hb2
        go_wp2
        go_ret3
        exact .inr ⟨hbig.out, rfl, hy2.out⟩
      · have e5 : ¬ (most : Int) ≤ (m : Int) := by omega
        have hmm2 : m + 1 ≤ most := by omega
        clear hover
        go_wp2_with fail
        refine HF.out.mono ?_
        rintro e y2 ⟨rfl, hb2⟩
        have how2 := own_below how.out hb2
        have hoa2 := own_below hoa.out hb2
        have hy2 := bmore hwr.out hb2
        have d0 := Grows.cell hb2 c0'
        have d1 := Grows.cell hb2 c1'
        have hbA := (Below.refl y2.heap.size y2).alloc (Nat.le_refl _) (.cells #[.int .i64 v.1, .string v.2] 81)
        have hownA := own_below how2 hbA
        have hoaA := own_below hoa2 hbA
        have hsA : w.heap.size ≤ (y2.alloc (.cells #[.int .i64 v.1, .string v.2] 81)).heap.size := Nat.le_trans hy2.size (by simp)
        have HoaA := Lib.hid hoaA; have Hy2 := Lib.hid hy2
        clear how2 hoa2 hb2 hbA how hoa hoaA hy2
        go_wp2_with (at_builtin; refine wpList_append_all sl_v rfl (.tmp 36) (.tmp 41) rfl rfl hownA rfl (m := 1) (cells_one_v y2 81 v) (fun h => by cases h) (fun _ _ => vlc_one _ _) (by unfold maxLen; omega) (by omega) hsA ?_)
        intro v' y3 ho3 hg3
        have hy3 : Below w.heap.size w y3 := (Hy2.out.alloc Hy2.out.size _).grown hg3 hsA (fun k hk => (hownA.lt k hk).1)
        have hoa3 := HoaA.out.kept hg3 (own_apartD HoaA.out hownA (by decide))
        have how3 : y3.ownsRow w.heap.size 81 2 v' (m + 1) (vcs (dWords (l.take (j + 1)))) := by
         rw [hsn.out, ← vcs_snoc]; exact ho3
        obtain ⟨ao3, cap3, rfl, -⟩ := own_v how3
        have hbB := (Below.refl y3.heap.size y3).alloc (Nat.le_refl _) (.cells #[.int .i64 (m : Nat)] 3)
        have hownB := own_below hoa3 hbB
        have howB := own_below how3 hbB
        have hsB : w.heap.size ≤ (y3.alloc (.cells #[.int .i64 (m : Nat)] 3)).heap.size := Nat.le_trans hy3.size (by simp)
        have HowB := Lib.hid howB; have Hy3 := Lib.hid hy3
        clear ho3 hg3 how3 hoa3 hy3 hownA hsA HoaA hbB howB c0' c1' d0 d1
        go_wp2_with (at_builtin; refine wpList_append_all1 sl_i64 rfl (.tmp 43) (.tmp 45) rfl rfl hownB rfl (cells_one y3 3 (.int .i64 (m : Nat))) (fun h => by cases h) (fun _ _ => rfl) (by unfold maxLen; omega) (by omega) hsB ?_)
        intro v'' y4 ho4 hg4
        have hy4 : Below w.heap.size w y4 := (Hy3.out.alloc Hy3.out.size _).grown hg4 hsB (fun k hk => (hownB.lt k hk).1)
        have how4 := HowB.out.kept hg4 (own_apartD HowB.out hownB (by decide))
        have hoa4 : y4.ownsRow w.heap.size 3 1 v'' (j + 1) (i64v (dAtsI (l.take (j + 1)))) := by
         rw [han.out, ← i64v_append]; exact ho4
        obtain ⟨ao4, cap4, rfl, -, -⟩ := own_cells hoa4
        have How4 := Lib.hid how4; have Hoa4 := Lib.hid hoa4; have Hy4 := Lib.hid hy4
        have hm3 : Hid (m + 1 = (dWords (l.take (j + 1))).length) := Lib.hid hml.out.symm
        clear ho4 hg4 how4 hoa4 hy4 hownB hsB HowB
        go_wp2
        go_roundw
        case rel => exact ⟨j + 1, m + 1, ao3, ao4, cap3, cap4, by omega, by go_num, rfl, rfl, hm3, hmm2, How4, Hoa4, Hy4⟩
        case measure => simp [intOf]; omega
  · have e1 : ¬ (j : Int) < (len : Int) := by omega
    have hfin : Hid (RB w l len most (.returned (.tuple #[.slice aoW m capW, .slice aoA j capA, .bool true])) y) := Lib.hid (by
     have hj2 : j = len := by omega
     subst hj2
     have hall : l.take j = l := List.take_of_length_le (by rw [Hl.out]; exact Nat.le_refl _)
     have h1 := hmw.out; have h2 := how.out; have h3 := hoa.out
     rw [hall] at h1 h2 h3
     refine .inl ⟨by omega, _, _, rfl, ?_, h3, hwr.out⟩
     rw [← h1]; exact h2)
    clear how hoa
    go_wp2
    go_ret3
    exact hfin.out
end Go.Proofs.YtebmbkbnngeabaaGreat
