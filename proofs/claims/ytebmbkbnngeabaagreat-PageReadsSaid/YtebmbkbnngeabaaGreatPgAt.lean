/- Chapter 13's document: the walk over At. -/
import Derived.Test.YtebmbkbnngeabaaGreatBunC
import Derived.Test.YtebmbkbnngeabaaGreatDictR
set_option linter.unusedSimpArgs false
namespace Go.Proofs.YtebmbkbnngeabaaGreat
open Go.RowKit
set_option linter.unusedVariables false
def GaveAt (len : Nat) (w : World) (e : Ending) (w' : World) : Prop := ∃ ao cap, ∃ l : List Nat, e = .returned (.slice ao len cap) ∧ Hid (l.length = len) ∧ Hid (∀ x ∈ l, x ≤ 1000000) ∧ CellsAt w' w'.heap.size ao len (nic l) ∧ Hid (len ≤ cap) ∧ Below w.heap.size w w'
theorem findR_in (ws : List Vl) (v : Vl) (n : Nat) (hl : ws.length = n) : -1 ≤ findR ws v ∧ findR ws v ≤ n := by
 have key : ∀ ws : List Vl, dIdx v ws ≤ ws.length := by
  intro ws
  induction ws with
  | nil => simp [dIdx]
  | cons x t ih => simp only [dIdx]; split <;> simp <;> omega
 have := key ws
 unfold findR; split <;> omega
set_option maxHeartbeats 4000000 in
set_option maxRecDepth 100000 in
theorem at13_any (ao : Option Addr) (len cap : Nat) (l : List Vl) (aoW : Option Addr) (m capW : Nat) (ws : List Vl) (w : World) (hl : l.length = len) (hlen : len ≤ 100000) (hc : CellsAt w w.heap.size ao (len * 2) (vlc l)) (hm : ws.length = m) (hm2 : m ≤ 100000) (hw : CellsAt w w.heap.size aoW (m * 2) (vlc ws)) :
 Calls Tryz.prog 22 #[.slice ao len cap, .slice aoW m capW] w (GaveAt len w) := by
 have Hc := Lib.hid hc; have Hw := Lib.hid hw; have Hm := Lib.hid hm
 clear hl hc hw hm
 go_enter Tryz.func22, Tryz.ntmps22
 go_wp2
 go_loopw [5, 6] (fun u i x => ∃ (j : Nat) (aoJ : Option Addr) (capJ : Nat) (r : List Nat), j ≤ len ∧ u = .slice aoJ j capJ ∧ i = .int .i64 (j : Nat) ∧ Hid (r.length = j) ∧ Hid (∀ x ∈ r, x ≤ 1000000) ∧ Hid (x.ownsRow w.heap.size 3 1 (.slice aoJ j capJ) j (i64v (r.map Int.ofNat))) ∧ Hid (Below w.heap.size w x)) (fun _ i _ => len - (intOf i).toNat)
 case atStart => exact ⟨0, none, 0, [], Nat.zero_le _, rfl, rfl, Lib.hid rfl, Lib.hid (fun x h => by cases h), Lib.hid (World.ownsRow_nil _ _ _ _), Lib.hid (Below.refl _ _)⟩
 case round =>
  obtain ⟨j, aoJ, capJ, r, hj, rfl, rfl, Hr, Hrb, HO, HB⟩ := hrel
  obtain ⟨x, hxx⟩ : ∃ x, x = wr := ⟨_, rfl⟩
  subst hxx
  by_cases hlt : j < len
  · obtain ⟨b, off, rfl, hb, c0, c1⟩ := Hc.out.val hlt
    have e1 : (j : Int) < (len : Int) := by omega
    have e2 : (0 : Int) ≤ (j : Int) := by omega
    obtain ⟨v, hv⟩ : ∃ v, v = l.getD j vl0 := ⟨_, rfl⟩
    rw [vN, ← hv] at c0
    rw [vS, ← hv] at c1
    have c0 := (HB.out.cell (by exact hb)).trans c0
    have c1 := (HB.out.cell (by exact hb)).trans c1
    have HFi := Lib.hid (rfind_any aoW m capW ws v x Hm.out hm2 (Hw.out.at HB.out))
    obtain ⟨f1, f2⟩ := findR_in ws v m Hm.out
    obtain ⟨q, hq⟩ : ∃ q, q = findR ws v := ⟨_, rfl⟩
    rw [← hq] at HFi f1 f2
    obtain ⟨k, hk⟩ : ∃ k : Nat, (k : Int) = max q 0 := ⟨(max q 0).toNat, by omega⟩
    have hkb : k ≤ 1000000 := by omega
    have hmax := fun w' : World => run_max_int2 (P := Tryz.prog) (w := w') #[3, 3] 3 .i64 q 0 (k : Int) hk
    clear hv hq hk
    go_wp2_with fail
    refine HFi.out.mono ?_
    rintro e x2 ⟨rfl, hx2⟩
    have HO2 := own_below HO.out hx2
    have hBx := Nat.le_trans HB.out.size hx2.size
    have HB2 := Lib.hid (bmore HB.out hx2)
    have hownA := HO2.alloc (.cells #[.int .i64 (k : Nat)] 3)
    have hsA : w.heap.size ≤ (x2.alloc (.cells #[.int .i64 (k : Nat)] 3)).heap.size := Nat.le_trans hBx (by simp)
    clear hx2 HO2
    go_wp2_with (at_builtin; refine wpList_append_all1 sl_i64' rfl (.tmp 13) (.tmp 21) rfl rfl hownA rfl (cells_one x2 3 (.int .i64 (k : Nat))) (fun h => by cases h) (fun _ _ => rfl) (by unfold maxLen; omega) (by omega) hsA ?_)
    intro v' y2 ho2 hg2
    have ho3 : y2.ownsRow w.heap.size 3 1 v' (j + 1) (i64v ((r ++ [k]).map Int.ofNat)) := by
     rw [List.map_append, ← i64v_append]; exact ho2
    obtain ⟨g3, cap3, rfl, -, -⟩ := own_shapeG (Nat.succ_pos _) ho3
    have HO3 := Lib.hid ho3
    have HB3 := Lib.hid ((HB2.out.alloc hBx (.cells #[.int .i64 (k : Nat)] 3)).grown hg2 hsA (fun k hk => (hownA.lt k hk).1))
    have Hr3 : Hid ((r ++ [k]).length = j + 1) := Lib.hid (by rw [List.length_append, Hr.out]; rfl)
    have Hrb3 : Hid (∀ x ∈ r ++ [k], x ≤ 1000000) := Lib.hid (fun x hx => by
     rcases List.mem_append.1 hx with h | h
     · exact Hrb.out x h
     · rw [List.mem_singleton.1 h]; exact hkb)
    clear ho2 hg2 ho3 hownA hsA c0 c1
    go_wp2
    go_roundw
    case rel => exact ⟨j + 1, _, _, _, by omega, rfl, by go_num, Hr3, Hrb3, HO3, HB3⟩
    case measure => simp [intOf]; omega
  · obtain rfl : j = len := by omega
    have e1 : ¬ (j : Int) < (j : Int) := by omega
    obtain ⟨_, _, hv, hcJ, -⟩ := own_i64 HO.out
    simp only [Value.slice.injEq, true_and] at hv
    obtain ⟨rfl, rfl⟩ := hv
    have Hcap := Lib.hid (own_capG HO.out)
    have HcJ : Hid (CellsAt x x.heap.size aoJ j (nic r)) := Lib.hid (hcJ.congr (fun i hi => by
     simp only [i64c, nic, List.getD_eq_getElem?_getD, List.getElem?_map, List.getElem?_eq_getElem (show i < r.length by rw [Hr.out]; exact hi)]
     rfl))
    clear hcJ HO
    go_wp2
    go_ret
    exact ⟨_, _, r, rfl, Hr, Hrb, HcJ.out, Hcap, HB.out⟩
end Go.Proofs.YtebmbkbnngeabaaGreat
