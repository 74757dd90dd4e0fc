/- Chapter 12: the walk over delta.Encode. -/
import Derived.Test.YtlnlcmdbhkpnhaaBunA
import Derived.Test.YtlnlcmdbhkpnhaaDelVP
import Derived.Test.YtlnlcmdbhkpnhaaDelM
import Derived.Test.YtlnlcmdbhkpnhaaPlainE
namespace Go.Proofs.Ytlnlcmdbhkpnhaa
open Go.RowKit
set_option linter.unusedVariables false

/-- A call gave bytes. -/
def GaveC (w : World) (l : List Nat) (e : Ending) (w' : World) : Prop :=
  ∃ ao n cap, e = .returned (.slice ao n cap) ∧ Hid (l.length = n) ∧ n ≤ cap ∧ CellsAt w' w'.heap.size ao n (u8c l) ∧ (ao = none → n = 0) ∧ Below w.heap.size w w'
theorem GaveC.of_fresh {w w' : World} {v : Value} {l : List Nat} (h : Fresh w w' 5 v (u8v l)) : GaveC w l (.returned v) w' := by
  obtain ⟨ao, n, cap, rfl, Hn, hc, hz, ho⟩ := h.u8
  have hcap : n ≤ cap := by
    rcases ho.2 with ⟨h1, h2⟩ | ⟨g, c2, cur, h1, -, -, h4, -⟩
    · omega
    · simp only [Value.slice.injEq] at h1; omega
  exact ⟨ao, n, cap, rfl, Lib.hid Hn.out.symm, hcap, hc, hz, h.2⟩
theorem GaveC.of_row {w y : World} {base : Nat} {ao : Option Addr} {n cap : Nat} {l : List Nat} (hr : RowB y base ao n cap l) (hb : Below w.heap.size w y) : GaveC w l (.returned (.slice ao n cap)) y :=
  ⟨ao, n, cap, rfl, Lib.hid hr.1, hr.cap, hr.cells, hr.nil0, hb⟩
theorem wpList_append_str {ops : Array Oper} {Q : Exit → Act → World → Prop} {rest : List Oper} {o : Oper} {a : Act} {w : World} (hgd : o.guard = none) (s x : Operand) (ho : o.op = .call { callee := .builtin .append, args := #[s, x], argTypes := #[26, 9] })
    {base : Nat} {v : Value} {n : Nat} {l : List Nat} (hs : a.eval s = v) (hown : w.ownsRow base 5 1 v n (u8v l)) {str : ByteArray} (hx : a.eval x = .string str)
    (hb : n + str.size ≤ 140737488355328) (hbase : base ≤ w.heap.size)
    (h : ∀ v' w', w'.ownsRow base 5 1 v' (n + str.size) (u8v (l ++ strB str)) → w.grownBy w' v.ownBlock → wpList Try.prog ops Q rest (a.put o.dst v') w') : wpList Try.prog ops Q (o :: rest) a w := by
  refine wpList_plain hgd fun K hK => ?_
  have hw : Region.wanted o (yielded ops a.tmps) = true := by simp [Region.wanted, hgd]
  have key := step_append_str (ops := ops) (Q := Q) (K := K) (E := True) hgd s x ho hs hown hx hb hbase (fun v' w' h1 h2 => hK _ _ (h v' w' h1 h2))
  rwa [if_pos hw] at key
theorem grown_cell {w w' : World} {own : Option Nat} (h : w.grownBy w' own) {a : Addr} (hlt : a.block < w.heap.size) (hne : own = none ∨ own ≠ some a.block) : w'.cell? a = w.cell? a :=
  World.cell?_of_block (h.block a.block hlt (by rcases hne with h | h; (rw [h]; simp); exact fun e => h e.symm))
theorem i64v_one (l : List Int) (x : Int) : i64v l ++ (List.range 1).map (fun _ => Value.int .i64 x) = i64v (l ++ [x]) := by simp [i64v]

set_option maxHeartbeats 4000000 in
set_option maxRecDepth 100000 in
theorem dencode_1 (ao : Option Addr) (len cap : Nat) (l : List Vl) (w : World) (hl : l.length = len) (hlen : len ≤ 1000) (hs : ∀ v ∈ l, v.2.size ≤ 100) (hc : CellsAt w w.heap.size ao (len * 2) (vlc l)) :
    Calls Try.prog 16 #[.int .i64 1, .slice ao len cap] w (GaveC w (dEncB 1 l)) := by
  have HS := Lib.hid (dsign_any 1 w (by decide) (by decide))
  rw [show signC 1 = 98 from rfl] at HS
  have Hl := Lib.hid hl; have Hs := Lib.hid hs; have Hc := Lib.hid hc
  clear hl hs hc
  go_enter Try.func16, Try.ntmps16
  go_wp2_with fail
  refine HS.out.mono ?_
  rintro e x ⟨rfl, hx⟩
  have HE := Lib.hid (plainE_any 1 ao len cap l x (by decide) (by decide) Hl.out (by omega) Hs.out (Hc.out.at hx))
  have Hx := Lib.hid hx
  clear hx
  go_wp2_with fail
  refine HE.out.mono ?_
  rintro e y ⟨v, rfl, hf⟩
  have hg := GaveC.of_fresh hf
  have Hg : Hid (GaveC w (dEncB 1 l) (.returned v) y) := Lib.hid (by
    obtain ⟨ao, n, cap, h1, h2, h3, h4, h5, h6⟩ := hg
    exact ⟨ao, n, cap, h1, h2, h3, h4, h5, bmore Hx.out h6⟩)
  clear hf hg
  go_wp2
  go_ret
  exact Hg.out

set_option maxHeartbeats 8000000 in
set_option maxRecDepth 100000 in
theorem dencode_n (k : Nat) (hk : k = 2 ∨ k = 3) (ao : Option Addr) (len cap : Nat) (l : List Vl) (w : World) (hl : l.length = len) (hlen : len ≤ 1000) (hok : ∀ v ∈ l, okV v) (hc : CellsAt w w.heap.size ao (len * 2) (vlc l)) :
    Calls Try.prog 16 #[.int .i64 (k : Nat), .slice ao len cap] w (GaveC w (dEncB k l)) := by
  obtain ⟨c, hcd⟩ : ∃ c, c = signC (k : Nat) := ⟨_, rfl⟩
  have hc1 : c = 105 ∨ c = 108 := by rw [hcd]; rcases hk with rfl | rfl; exact .inl rfl; exact .inr rfl
  have b1 : (c == 98) = false := by rw [beq_eq_false_iff_ne]; omega
  have b2 : (c == 116) = false := by rw [beq_eq_false_iff_ne]; omega
  have HS : Hid (∀ w : World, Calls Try.prog 32 #[.int .i64 (k : Nat)] w fun e w' => e = .returned (.int .i32 c) ∧ Below w.heap.size w w') := Lib.hid (fun w => by rw [hcd]; exact dsign_any (k : Nat) w (by omega) (by omega))
  have HB : Hid (dEncB k l = dIntsB (numsI l)) := Lib.hid (by unfold dEncB; rw [if_neg (by omega), if_neg (by omega)])
  have Hl := Lib.hid hl; have Hok := Lib.hid hok; have Hc := Lib.hid hc
  clear hl hok hc hcd hc1 hk
  go_enter Try.func16, Try.ntmps16
  go_wp2_with fail
  refine (HS.out _).mono ?_
  rintro e x0 ⟨rfl, hx0⟩
  have Hx0 := Lib.hid hx0
  clear hx0
  go_wp2
  go_loopw [5, 6, 17] (fun u t i x => ∃ (j : Nat) (aoJ : Option Addr) (capJ : Nat), j ≤ len ∧ u = .slice aoJ j capJ ∧ t = .slice none 0 0 ∧ i = .int .i64 (j : Nat) ∧ Hid (x.ownsRow w.heap.size 3 1 (.slice aoJ j capJ) j (i64v ((numsI l).take j))) ∧ Hid (Below w.heap.size w x)) (fun _ _ i _ => len - (intOf i).toNat)
  case atStart => exact ⟨0, none, 0, Nat.zero_le _, rfl, rfl, rfl, Lib.hid (World.ownsRow_nil _ _ _ _), Hx0⟩
  case round =>
    obtain ⟨j, aoJ, capJ, hj, rfl, rfl, rfl, hown, hbel⟩ := hrel
    obtain ⟨x, hxx⟩ : ∃ x, x = wr := ⟨_, rfl⟩
    subst hxx
    by_cases hlt : j < len
    · obtain ⟨b, off, rfl, hb, c0, c1⟩ := Hc.out.val hlt
      have c0' := (hbel.out.cell (by exact hb)).trans c0
      have c1' := (hbel.out.cell (by exact hb)).trans c1
      obtain ⟨v, hv⟩ : ∃ v, v = l.getD j vl0 := ⟨_, rfl⟩
      rw [vN, ← hv] at c0'
      rw [vS, ← hv] at c1'
      have htk : Hid (i64v ((numsI l).take (j + 1)) = i64v ((numsI l).take j) ++ (List.range 1).map (fun _ => Value.int .i64 v.1)) := Lib.hid (by
        rw [i64v_one, List.take_succ_eq_append_getElem (by rw [numsI_length, Hl.out]; exact hlt)]
        simp only [numsI, List.getElem_map]
        rw [hv, List.getD_eq_getElem?_getD, List.getElem?_eq_getElem (by rw [Hl.out]; exact hlt)]; rfl)
      have e1 : (j : Int) < (len : Int) := by omega
      have e2 : (0 : Int) ≤ (j : Int) := by omega
      clear hv c0 c1
      go_wp2_with fail
      refine (HS.out _).mono ?_
      rintro e x1 ⟨rfl, hx1⟩
      have hbox : x1.cell? ⟨x.heap.size, 0, none⟩ = some (.int .i64 v.1) := (hx1.cell (by simp)).trans (by simp [go_sem])
      have hA := balloc (Below.refl x.heap.size x) (.cells #[.int .i64 v.1, .string v.2] 32)
      have hxx1 := bmore hA hx1
      have hownA := own_below (own_below hown.out hxx1) ((Below.refl _ _).alloc (Nat.le_refl _) (.cells #[.int .i64 v.1] 3))
      have hsA : w.heap.size ≤ (x1.alloc (.cells #[.int .i64 v.1] 3)).heap.size := Nat.le_trans hbel.out.size (Nat.le_trans hxx1.size (by simp))
      have Hxx1 := Lib.hid (balloc (bmore hbel.out hxx1) (.cells #[.int .i64 v.1] 3))
      clear hx1 hA hxx1
      go_wp2_with (at_builtin; refine wpList_append_all1 sl_i64' rfl (.tmp 34) (.tmp 37) rfl rfl hownA rfl (cells_one x1 3 (.int .i64 v.1)) (fun h => by cases h) (fun _ _ => rfl) (by unfold maxLen; omega) (by omega) hsA ?_)
      intro v' y2 ho2 hg2
      have hb2 : Below w.heap.size w y2 := Hxx1.out.grown hg2 hsA (fun k hk => (hownA.lt k hk).1)
      have ho3 : y2.ownsRow w.heap.size 3 1 v' (j + 1) (i64v ((numsI l).take (j + 1))) := by rw [htk.out]; exact ho2
      obtain ⟨ao3, cap3, rfl, -⟩ := own_cells ho3
      have H3 := Lib.hid ho3; have Hb2 := Lib.hid hb2
      clear ho2 hg2 ho3 hb2 hownA hsA hown hbel
      go_wp2
      go_roundw
      case rel => exact ⟨j + 1, ao3, cap3, by omega, rfl, rfl, by go_num, H3, Hb2⟩
      case measure => simp [intOf]; omega
    · have e1 : ¬ (j : Int) < (len : Int) := by omega
      obtain rfl : j = len := by omega
      have ho := hown.out
      rw [List.take_of_length_le (by rw [numsI_length, Hl.out]; exact Nat.le_refl _)] at ho
      obtain ⟨_, _, hsl, hcR, -⟩ := own_i64 ho
      simp only [Value.slice.injEq, true_and] at hsl
      obtain ⟨rfl, rfl⟩ := hsl
      have HI := Lib.hid (dInts_any aoJ j capJ (numsI l) x (by rw [numsI_length]; exact Hl.out) (by omega) hcR (numsI_in l Hok.out))
      have hbnd := dIntsB_bound (numsI l)
      rw [numsI_length, Hl.out] at hbnd
      obtain ⟨bs, hbs⟩ : ∃ b, b = dIntsB (numsI l) := ⟨_, rfl⟩
      rw [← hbs] at HI HB hbnd
      have Hbnd := Lib.hid hbnd
      clear ho hcR hown hbs hbnd
      go_wp2_with fail
      refine HI.out.mono ?_
      intro e y hg
      obtain ⟨aoP, nP, capP, rfl, HnP, -, -, hrP, hbP⟩ := hg.opened
      have hnP : nP ≤ 100000 := by have := HnP.out; have := Hbnd.out; omega
      have HrP := Lib.hid hrP; have HbP := Lib.hid hbP
      clear hg hrP hbP
      go_wp2_with (at_builtin; refine wpList_append_rowB rfl (.tmp 41) (.tmp 42) rfl rfl HrP.out (B := 0) rfl (r := []) rfl CellsAt.zero (fun _ => ⟨rfl, rfl⟩) (by omega) HbP.out.size ?_)
      intro ao6 cap6 y6 hr6 hb6 hs6
      have Hg : Hid (GaveC w (dEncB k l) (.returned (.slice ao6 nP cap6)) y6) := Lib.hid (by
        rw [HB.out]
        exact GaveC.of_row hr6 (bmore hbel.out (HbP.out.trans hb6)))
      clear hr6 hb6 hs6
      go_wp2
      go_ret
      exact Hg.out

set_option maxHeartbeats 8000000 in
set_option maxRecDepth 100000 in
theorem dencode_4 (ao : Option Addr) (len cap : Nat) (l : List Vl) (w : World) (hl : l.length = len) (hlen : len ≤ 1000) (hs : ∀ v ∈ l, v.2.size ≤ 100) (hc : CellsAt w w.heap.size ao (len * 2) (vlc l)) :
    Calls Try.prog 16 #[.int .i64 4, .slice ao len cap] w (GaveC w (dEncB 4 l)) := by
  have HS : Hid (∀ w : World, Calls Try.prog 32 #[.int .i64 4] w fun e w' => e = .returned (.int .i32 116) ∧ Below w.heap.size w w') := Lib.hid (fun w => dsign_any 4 w (by decide) (by decide))
  have HB : Hid (dEncB 4 l = dIntsB (sizesI l) ++ textsB l) := Lib.hid (by unfold dEncB; rw [if_neg (by decide), if_pos rfl])
  have Hl := Lib.hid hl; have Hs := Lib.hid hs; have Hc := Lib.hid hc
  clear hl hs hc
  go_enter Try.func16, Try.ntmps16
  go_wp2_with fail
  refine (HS.out _).mono ?_
  rintro e x0 ⟨rfl, hx0⟩
  have Hx0 := Lib.hid hx0
  clear hx0
  go_wp2
  go_loopw [5, 6, 17] (fun u t i x => ∃ (j nT : Nat) (aoJ : Option Addr) (capJ : Nat) (aoT : Option Addr) (capT : Nat), j ≤ len ∧ nT ≤ 100 * j ∧ u = .slice aoJ j capJ ∧ t = .slice aoT nT capT ∧ i = .int .i64 (j : Nat) ∧ Hid (nT = (textsB (l.take j)).length) ∧ Hid (x.ownsRow w.heap.size 3 1 (.slice aoJ j capJ) j (i64v ((sizesI l).take j))) ∧ Hid (x.ownsRow w.heap.size 5 1 (.slice aoT nT capT) nT (u8v (textsB (l.take j)))) ∧ Hid (Below w.heap.size w x)) (fun _ _ i _ => len - (intOf i).toNat)
  case atStart => exact ⟨0, 0, none, 0, none, 0, Nat.zero_le _, Nat.zero_le _, rfl, rfl, rfl, Lib.hid rfl, Lib.hid (World.ownsRow_nil _ _ _ _), Lib.hid (World.ownsRow_nil _ _ _ _), Hx0⟩
  case round =>
    obtain ⟨j, nT, aoJ, capJ, aoT, capT, hj, hnT, rfl, rfl, rfl, HnT, hown, hownT, hbel⟩ := hrel
    obtain ⟨x, hxx⟩ : ∃ x, x = wr := ⟨_, rfl⟩
    subst hxx
    by_cases hlt : j < len
    · obtain ⟨b, off, rfl, hb, c0, c1⟩ := Hc.out.val hlt
      have c0' := (hbel.out.cell (by exact hb)).trans c0
      have c1' := (hbel.out.cell (by exact hb)).trans c1
      obtain ⟨v, hv⟩ : ∃ v, v = l.getD j vl0 := ⟨_, rfl⟩
      rw [vN, ← hv] at c0'
      rw [vS, ← hv] at c1'
      have hv100 : v.2.size ≤ 100 := by
        rw [hv, List.getD_eq_getElem?_getD, List.getElem?_eq_getElem (by rw [Hl.out]; exact hlt)]
        exact Hs.out _ (List.getElem_mem _)
      have htk : Hid (i64v ((sizesI l).take (j + 1)) = i64v ((sizesI l).take j) ++ (List.range 1).map (fun _ => Value.int .i64 (v.2.size : Nat))) := Lib.hid (by
        rw [i64v_one, List.take_succ_eq_append_getElem (by rw [sizesI_length, Hl.out]; exact hlt)]
        simp only [sizesI, List.getElem_map]
        rw [hv, List.getD_eq_getElem?_getD, List.getElem?_eq_getElem (by rw [Hl.out]; exact hlt)]; rfl)
      have htT : Hid (textsB (l.take (j + 1)) = textsB (l.take j) ++ strB v.2) := Lib.hid (by
        rw [take_vl l j (by rw [Hl.out]; exact hlt), textsB_snoc, ← hv])
      have e1 : (j : Int) < (len : Int) := by omega
      have e2 : (0 : Int) ≤ (j : Int) := by omega
      clear hv c0 c1
      go_wp2_with fail
      refine (HS.out _).mono ?_
      rintro e x1 ⟨rfl, hx1⟩
      have hboxlt : x.heap.size < x1.heap.size := Nat.lt_of_lt_of_le (by simp) hx1.size
      have hbox : x1.cell? ⟨x.heap.size, 1, none⟩ = some (.string v.2) := (hx1.cell (by simp)).trans (by simp [go_sem])
      have hA := balloc (Below.refl x.heap.size x) (.cells #[.int .i64 v.1, .string v.2] 32)
      have hxx1 := bmore hA hx1
      have hownX := own_below hown.out hxx1
      have hownA := own_below hownX ((Below.refl _ _).alloc (Nat.le_refl _) (.cells #[.int .i64 (v.2.size : Nat)] 3))
      have hTA := own_below (own_below hownT.out hxx1) ((Below.refl _ _).alloc (Nat.le_refl _) (.cells #[.int .i64 (v.2.size : Nat)] 3))
      have hsA : w.heap.size ≤ (x1.alloc (.cells #[.int .i64 (v.2.size : Nat)] 3)).heap.size := Nat.le_trans hbel.out.size (Nat.le_trans hxx1.size (by simp))
      have Hxx1 := Lib.hid (balloc (bmore hbel.out hxx1) (.cells #[.int .i64 (v.2.size : Nat)] 3))
      have hlow : (Value.slice aoJ j capJ).ownBlock = none ∨ (Value.slice aoJ j capJ).ownBlock ≠ some x.heap.size := by
        by_cases h : (Value.slice aoJ j capJ).ownBlock = none
        · exact .inl h
        · right; intro e; have := (hown.out.lt _ e).2; omega
      have hboxA : (x1.alloc (.cells #[.int .i64 (v.2.size : Nat)] 3)).cell? ⟨x.heap.size, 1, none⟩ = some (.string v.2) := (((Below.refl x1.heap.size x1).alloc (Nat.le_refl _) (.cells #[.int .i64 (v.2.size : Nat)] 3)).cell (by exact hboxlt)).trans hbox
      have Hlow := Lib.hid hlow; have HboxA := Lib.hid hboxA; have HTA := Lib.hid hTA; have HNA := Lib.hid hownA
      clear hx1 hA hxx1 hlow hboxA hTA hownX
      go_wp2_with (at_builtin; refine wpList_append_all1 sl_i64' rfl (.tmp 24) (.tmp 28) rfl rfl hownA rfl (cells_one x1 3 (.int .i64 (v.2.size : Nat))) (fun h => by cases h) (fun _ _ => rfl) (by unfold maxLen; omega) (by omega) hsA ?_)
      intro v' y2 ho2 hg2
      have hb2 : Below w.heap.size w y2 := Hxx1.out.grown hg2 hsA (fun k hk => (hownA.lt k hk).1)
      have ho3 : y2.ownsRow w.heap.size 3 1 v' (j + 1) (i64v ((sizesI l).take (j + 1))) := by rw [htk.out]; exact ho2
      have hT2 := HTA.out.kept hg2 (own_apart HTA.out HNA.out (by decide))
      have hbox2 : y2.cell? ⟨x.heap.size, 1, none⟩ = some (.string v.2) := (grown_cell hg2 (by simp; omega) Hlow.out).trans HboxA.out
      obtain ⟨ao3, cap3, rfl, -⟩ := own_cells ho3
      have H3 := Lib.hid ho3; have Hb2 := Lib.hid hb2
      clear ho2 hg2 ho3 hb2 hownA hsA hown hbel hbox
      go_wp2_with (at_builtin; refine wpList_append_str rfl (.tmp 30) (.tmp 32) rfl rfl hT2 rfl (by omega) Hb2.out.size ?_)
      intro v'' y3 hT3 hg3
      have hb3 : Below w.heap.size w y3 := Hb2.out.grown hg3 Hb2.out.size (fun k hk => (hT2.lt k hk).1)
      have hN3 := H3.out.kept hg3 (own_apart H3.out hT2 (by decide))
      rw [← htT.out] at hT3
      obtain ⟨aoT3, capT3, rfl, -⟩ := own_cells hT3
      have HT3 := Lib.hid hT3; have HN3 := Lib.hid hN3; have Hb3 := Lib.hid hb3
      have hnT3 : Hid (nT + v.2.size = (textsB (l.take (j + 1))).length) := Lib.hid (by rw [htT.out, List.length_append, ← HnT.out, strB_length])
      clear hT3 hg3 hb3 hN3 hT2 hbox2
      go_wp2
      go_roundw
      case rel => exact ⟨j + 1, nT + v.2.size, ao3, cap3, aoT3, capT3, by omega, by omega, rfl, rfl, by go_num, hnT3, HN3, HT3, Hb3⟩
      case measure => simp [intOf]; omega
    · have e1 : ¬ (j : Int) < (len : Int) := by omega
      obtain rfl : j = len := by omega
      have ho := hown.out
      rw [List.take_of_length_le (by rw [sizesI_length, Hl.out]; exact Nat.le_refl _)] at ho
      obtain ⟨_, _, hsl, hcR, -⟩ := own_i64 ho
      simp only [Value.slice.injEq, true_and] at hsl
      obtain ⟨rfl, rfl⟩ := hsl
      have hT := hownT.out
      have hTl := HnT.out
      rw [List.take_of_length_le (by rw [Hl.out]; exact Nat.le_refl _)] at hT hTl
      obtain ⟨_, _, hsl, hlT, hcT, hzT⟩ := own_u8c hT
      simp only [Value.slice.injEq, true_and] at hsl
      obtain ⟨rfl, rfl⟩ := hsl
      have HI := Lib.hid (dInts_any aoJ j capJ (sizesI l) x (by rw [sizesI_length]; exact Hl.out) (by omega) hcR (sizesI_in l Hs.out))
      have hbnd := dIntsB_bound (sizesI l)
      rw [sizesI_length, Hl.out] at hbnd
      obtain ⟨bs, hbs⟩ : ∃ b, b = dIntsB (sizesI l) := ⟨_, rfl⟩
      rw [← hbs] at HI HB hbnd
      have Hbnd := Lib.hid hbnd; have HlT := Lib.hid hlT; have HcT := Lib.hid hcT; have HzT := Lib.hid hzT
      clear ho hcR hown hbs hbnd hT hTl hlT hcT hzT
      go_wp2_with fail
      refine HI.out.mono ?_
      intro e y hg
      obtain ⟨aoP, nP, capP, rfl, HnP, -, -, hrP, hbP⟩ := hg.opened
      have hnP : nP ≤ 100000 := by have := HnP.out; have := Hbnd.out; omega
      have HrP := Lib.hid hrP; have HbP := Lib.hid hbP
      clear hg hrP hbP
      go_wp2_with (at_builtin; refine wpList_append_rowB rfl (.tmp 41) (.tmp 42) rfl rfl HrP.out rfl HlT.out (HcT.out.at HbP.out) HzT.out (by omega) HbP.out.size ?_)
      intro ao6 cap6 y6 hr6 hb6 hs6
      have Hg : Hid (GaveC w (dEncB 4 l) (.returned (.slice ao6 (nP + nT) cap6)) y6) := Lib.hid (by
        rw [HB.out]
        exact GaveC.of_row hr6 (bmore hbel.out (HbP.out.trans hb6)))
      clear hr6 hb6 hs6
      go_wp2
      go_ret
      exact Hg.out
/-- delta.Encode of any kind. -/
theorem dencode_any (k : Nat) (ao : Option Addr) (len cap : Nat) (l : List Vl) (w : World) (h1 : 1 ≤ k) (h4 : k ≤ 4) (hl : l.length = len) (hlen : len ≤ 1000) (hs : ∀ v ∈ l, v.2.size ≤ 100) (hok : ∀ v ∈ l, okV v) (hc : CellsAt w w.heap.size ao (len * 2) (vlc l)) :
    Calls Try.prog 16 #[.int .i64 (k : Nat), .slice ao len cap] w (GaveC w (dEncB k l)) := by
  have hk' : k = 1 ∨ (k = 2 ∨ k = 3) ∨ k = 4 := by omega
  rcases hk' with rfl | h | rfl
  · exact dencode_1 ao len cap l w hl hlen hs hc
  · exact dencode_n k h ao len cap l w hl hlen hok hc
  · exact dencode_4 ao len cap l w hl hlen hs hc
theorem dEncB_lt (k : Nat) (l : List Vl) (hs : ∀ v ∈ l, v.2.size ≤ 100) (hok : ∀ v ∈ l, okV v) : ∀ x ∈ dEncB k l, x < 256 := by
  unfold dEncB
  split
  · exact plainB_lt' 1 l
  · split
    · intro x hx
      rcases List.mem_append.1 hx with h | h
      · exact dIntsB_lt _ (sizesI_in l hs) x h
      · exact textsB_lt l x h
    · exact dIntsB_lt _ (numsI_in l hok)
theorem dEncB_le (k : Nat) (l : List Vl) (hs : ∀ v ∈ l, v.2.size ≤ 100) (hn : l.length ≤ 60) : (dEncB k l).length ≤ 7000 := by
  unfold dEncB
  split
  · unfold plainB; rw [if_pos rfl, packed1_length, List.length_map]; omega
  · split
    · have h1 := dIntsB_bound (sizesI l)
      have h2 := textsB_le l hs
      rw [sizesI_length] at h1
      rw [List.length_append]; omega
    · have h1 := dIntsB_bound (numsI l)
      rw [numsI_length] at h1
      omega
end Go.Proofs.Ytlnlcmdbhkpnhaa
