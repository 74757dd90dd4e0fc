/- Texts that the proof stands on, merged. -/
import Derived.Test.YtebmbkbnngeabaaGreatBunB
import Derived.ScopeJumps
import Derived.Test.YtebmbkbnngeabaaGreatBunA
import Derived.Laws.CopyOwn
import Derived.Lib.AppendStr
import Derived.Lib.AppendZeros
import Derived.RangeFuncNested
import Derived.RangeFuncBound
import Derived.RangeFuncCalls
import Derived.RangeFuncLeaves
import Derived.RangeFuncBox
import Derived.Shelf.Abstract
import Derived.Shelf.RegionOpen
import Derived.WalkKit
import Derived.OwnWalkIn
import Derived.TacticsInMore
import Derived.LoopNIn
import Derived.LoopIn
import Derived.BigQuiet
set_option linter.unusedSimpArgs false
namespace Go.Proofs.YtebmbkbnngeabaaGreat
open Go.RowKit
set_option linter.unusedVariables false
def RowB (w : World) (base : Nat) (ao : Option Addr) (n cap : Nat) (l : List Nat) : Prop :=
 l.length = n ∧ (n = 0 ∧ cap = 0 ∨ 0 < n ∧ w.ownsRow base 5 1 (.slice ao n cap) n (u8v l))
theorem RowB.cap {w : World} {base : Nat} {ao : Option Addr} {n cap : Nat} {l : List Nat} (h : RowB w base ao n cap l) : n ≤ cap := by
 rcases h.2 with ⟨h0, -⟩ | ⟨h0, ho⟩
 · omega
 · rcases ho.2 with ⟨-, h3⟩ | ⟨g, c2, cur, h3, -, -, h4, -⟩
   · omega
   · simp only [Value.slice.injEq] at h3; omega
theorem RowB.cells {w : World} {base : Nat} {ao : Option Addr} {n cap : Nat} {l : List Nat} (h : RowB w base ao n cap l) : CellsAt w w.heap.size ao n (u8c l) := by
 rcases h.2 with ⟨h0, -⟩ | ⟨h0, ho⟩
 · subst h0; exact CellsAt.zero
 · obtain ⟨ao', cap', hv, hc, -⟩ := own_u8 ho
   simp only [Value.slice.injEq, true_and] at hv
   obtain ⟨rfl, rfl⟩ := hv
   exact hc
theorem RowB.base {w : World} {base base' : Nat} {ao : Option Addr} {n cap : Nat} {l : List Nat} (h : RowB w base ao n cap l) (hb : base' ≤ base) : RowB w base' ao n cap l :=
 ⟨h.1, h.2.imp id fun x => ⟨x.1, own_base x.2 hb⟩⟩
theorem RowB.low {w : World} {base : Nat} {ao : Option Addr} {n cap : Nat} {l : List Nat} (h : RowB w base ao n cap l) (hn : 0 < n) (a : Addr) (ha : ao = some a) : base ≤ a.block := by
 rcases h.2 with ⟨h0, -⟩ | ⟨h0, ho⟩
 · omega
 · obtain ⟨ao', cap', hv, -, hb⟩ := own_u8 ho
   simp only [Value.slice.injEq, true_and] at hv
   obtain ⟨rfl, rfl⟩ := hv
   exact hb a ha
theorem RowB.nil0 {w : World} {base : Nat} {ao : Option Addr} {n cap : Nat} {l : List Nat} (h : RowB w base ao n cap l) : ao = none → n = 0 := by
 intro e
 rcases Nat.eq_zero_or_pos n with h0 | h0
 · exact h0
 · obtain ⟨b, off, e2, -⟩ := h.cells 0 h0
   rw [e] at e2; cases e2
theorem RowB.drew {w : World} {base : Nat} {ao : Option Addr} {n cap : Nat} {l : List Nat} (h : RowB w base ao n cap l) : RowB w.drew base ao n cap l := ⟨h.1, h.2.imp id fun x => ⟨x.1, x.2.drew⟩⟩
theorem RowB.alloc {w : World} {base : Nat} {ao : Option Addr} {n cap : Nat} {l : List Nat} (h : RowB w base ao n cap l) (o : Obj) : RowB (w.alloc o) base ao n cap l := ⟨h.1, h.2.imp id fun x => ⟨x.1, x.2.alloc o⟩⟩
theorem wpList_append_rowB {ops : Array Oper} {Q : Exit → Act → World → Prop} {rest : List Oper} {o : Oper} {a : Act} {w : World} (hgd : o.guard = none) (s x : Operand) (ho : o.op = .call { callee := .builtin .append, args := #[s, x], argTypes := #[24, 24] })
 {base : Nat} {ao : Option Addr} {n cap : Nat} {l : List Nat} (hs : a.eval s = .slice ao n cap) (hrow : RowB w base ao n cap l)
 {B : Nat} {ax : Option Addr} {k c : Nat} {r : List Nat} (hx : a.eval x = .slice ax k c) (hr : r.length = k) (hc : CellsAt w B ax k (u8c r)) (hax : ax = none → k = 0 ∧ c = 0)
 (hb : n + k ≤ 140737488355328) (hbase : base ≤ w.heap.size)
 (h : ∀ ao' cap' w', RowB w' base ao' (n + k) cap' (l ++ r) → Below base w w' → w.heap.size ≤ w'.heap.size → wpList Tryz.prog ops Q rest (a.put o.dst (.slice ao' (n + k) cap')) w') : wpList Tryz.prog ops Q (o :: rest) a w := by
 obtain ⟨hl, hrow⟩ := hrow
 rcases hrow with ⟨rfl, rfl⟩ | ⟨hn, hown⟩
 · obtain rfl : l = [] := List.length_eq_zero_iff.1 hl
   refine wpList_append_clone1 sl_u8 hgd s x ho hs hx hc (fun e => (hax e).1) (fun _ _ => rfl) (by unfold maxLen; omega) (by omega) (fun ao' cap' w' r1 r2 r3 => ?_)
   have r4 := r3.row
   rw [range_u8c r k hr] at r4
   have := h ao' cap' w' ⟨by simp [hr], by rw [Nat.zero_add, List.nil_append]; exact r4.imp id fun x => ⟨x.1, own_base x.2 hbase⟩⟩ (r2.mono hbase) r2.size
   rwa [Nat.zero_add] at this
 · refine wpList_append_all1 sl_u8 hgd s x ho hs hown hx hc hax (fun _ _ => rfl) (by unfold maxLen; omega) (by omega) hbase (fun v' w' r1 r2 => ?_)
   rw [range_u8c r k hr, u8v_append] at r1
   obtain ⟨ao', cap', rfl, -, -⟩ := own_u8 r1
   exact h ao' cap' w' ⟨by simp [hl, hr], .inr ⟨by omega, r1⟩⟩ ((Below.refl _ _).grown r2 hbase (fun k hk => (hown.lt k hk).1)) r2.size
def GaveB (w : World) (l : List Nat) (e : Ending) (w' : World) : Prop :=
 ∃ ao cap, e = .returned (.slice ao l.length cap) ∧ CellsAt w' w'.heap.size ao l.length (u8c l) ∧ (ao = none → l.length = 0) ∧ RowB w' w.heap.size ao l.length cap l ∧ Below w.heap.size w w'
set_option maxHeartbeats 1000000 in
theorem clone_any (ao : Option Addr) (n cap : Nat) (l : List Nat) (w : World) (hl : l.length = n) (hc : CellsAt w w.heap.size ao n (u8c l)) (hn : ao = none → n = 0) (hb : n ≤ 140737488355328) :
 Calls Tryz.prog 100 #[.slice ao n cap] w (GaveB w l) := by
 have Hl := Lib.hid hl; clear hl
 have kn := fun (w : World) (a : Option Addr) (l c : Nat) => Lib.run_eql_slice_nil (P := Tryz.prog) w 24 5 a l c 0 0 Tryz.underlying24
 cases ao with
 | none =>
  obtain rfl : n = 0 := hn rfl
  obtain rfl : l = [] := List.length_eq_zero_iff.1 Hl.out
  go_enter Tryz.func100, Tryz.ntmps100
  go_wp2
  go_ret
  exact ⟨none, 0, rfl, CellsAt.zero, fun _ => rfl, ⟨rfl, .inl ⟨rfl, rfl⟩⟩, Below.refl _ _⟩
 | some a =>
  go_enter Tryz.func100, Tryz.ntmps100
  go_wp2_with (at_builtin; refine wpList_append_clone1 sl_u8 rfl (.tmp 5) (.tmp 6) rfl rfl rfl (hc.alloc (Nat.le_refl _) _) hn (fun _ _ => rfl) (by unfold maxLen; omega) (by omega) ?_)
  intro aoD capD x3 hcD hbD hown
  have hx3 : Below w.heap.size w x3 := (balloc (Below.refl _ _) _).trans (hbD.mono (by simp))
  have hr := Lib.hid hown.row
  have hq := Lib.hid hbD
  clear hown hbD
  go_wp2
  go_ret
  refine ⟨aoD, capD, by rw [Hl.out]; rfl, by rw [Hl.out]; exact hcD, fun e => ?_, ⟨rfl, ?_⟩, hx3⟩
  · rcases Nat.eq_zero_or_pos l.length with h0 | h0
    · exact h0
    · obtain ⟨b, off, e2, -⟩ := hcD 0 (by rw [← Hl.out]; exact h0)
      rw [e] at e2; cases e2
  · rw [Hl.out]
    have h := hr.out
    rw [range_u8c l n Hl.out] at h
    exact h.imp id fun x => ⟨x.1, own_base x.2 (by simp)⟩
set_option maxHeartbeats 1000000 in
theorem new_any (ao : Option Addr) (n cap : Nat) (l : List Nat) (w : World) (hl : l.length = n) (hc : CellsAt w w.heap.size ao n (u8c l)) (hn : ao = none → n = 0) (hb : n ≤ 140737488355328) :
 Calls Tryz.prog 86 #[.slice ao n cap] w fun e w' => ∃ g, e = .returned (.pointer (some ⟨g, 0, none⟩)) ∧ w.heap.size ≤ g ∧ Rd w' g w.heap.size l 0 ∧ Below w.heap.size w w' := by
 have Hl := Lib.hid hl; clear hl
 go_enter Tryz.func86, Tryz.ntmps86
 go_wp2_with (go_at_call 100; refine (clone_any _ _ _ l _ Hl.out hc hn hb).mono ?_; rintro e x1 ⟨ao1, cap1, rfl, hc1, hn1, hr1, hx1⟩)
 go_ret
 refine ⟨x1.heap.size, rfl, hx1.size, ⟨ao1, cap1, ?_, ?_, hn1, hr1.cap, fun h0 a ha => hr1.low h0 a ha⟩, balloc hx1 _⟩
 · rw [heap_alloc_new]; rfl
 · intro i hi
   obtain ⟨b, off, e, hlt, hcc⟩ := hc1 i hi
   exact ⟨b, off, e, hlt, ((balloc (Below.refl _ _) _).cell (by exact hlt)).trans hcc⟩
set_option maxHeartbeats 1000000 in
theorem fail_any (g : Nat) {lo : Nat} (l : List Nat) (e c : Nat) (w : World) (h : Rd w g lo l e) :
 Calls Tryz.prog 102 #[.pointer (some ⟨g, 0, none⟩), .int .i64 (c : Nat)] w fun r w' => r = .returned (.tuple #[]) ∧ Rd w' g lo (rdFail l e c).1 (rdFail l e c).2 ∧ But g w w' := by
 obtain ⟨ao, cap, hg, hc, hn, hlc, hlo⟩ := h
 have hlo := Lib.hid hlo
 obtain ⟨c0, c1, f0, f1⟩ := two_cells hg
 by_cases he : e = 0
 · subst he
   have s1 := two_set1 hg (.int .i64 (c : Nat))
   obtain ⟨d0, d1, g0, g1⟩ := two_cells s1
   by_cases hcz : c = 0
   · subst hcz
     have Hs := Lib.hid s1; clear s1
     have Hf := Lib.hid hc; clear hc
     go_enter Tryz.func102, Tryz.ntmps102
     go_wp2
     go_end0
     exact ⟨rfl, ⟨ao, cap, Hs.out, ((But.refl g w).setCell 1 _).cells (Nat.le_of_lt (Array.getElem?_eq_some_iff.1 hg).1) (Nat.le_refl _) Hf.out, hn, hlc, hlo.out⟩, (But.refl g w).setCell 1 _⟩
   · have s2 := Lib.hid (two_set0 s1 (.slice none 0 0))
     have e1 : ((c : Int) != 0) = true := by simp; omega
     clear s1
     go_enter Tryz.func102, Tryz.ntmps102
     go_wp2
     go_end0
     refine ⟨rfl, ?_, ((But.refl g w).setCell 1 _).setCell 0 _⟩
     rw [show rdFail l 0 c = ([], c) by simp [rdFail, hcz]]
     exact ⟨none, 0, s2.out, CellsAt.zero, fun _ => rfl, Nat.le_refl _, fun h => absurd h (by simp)⟩
 · have s2 := Lib.hid (two_set0 hg (.slice none 0 0))
   have e1 : ((e : Int) != 0) = true := by simp; omega
   have e2 : ((e : Int) == 0) = false := by simp; omega
   go_enter Tryz.func102, Tryz.ntmps102
   go_wp2
   go_end0
   refine ⟨rfl, ?_, (But.refl g w).setCell 0 _⟩
   rw [show rdFail l e c = ([], e) by simp [rdFail, he]]
   exact ⟨none, 0, s2.out, CellsAt.zero, fun _ => rfl, Nat.le_refl _, fun h => absurd h (by simp)⟩
def rdEnd (l : List Nat) (e : Nat) : Nat := if e = 0 ∧ 0 < l.length then 9 else e
set_option maxHeartbeats 1000000 in
theorem end_any (g : Nat) {lo : Nat} (l : List Nat) (e : Nat) (w : World) (h : Rd w g lo l e) :
 Calls Tryz.prog 88 #[.pointer (some ⟨g, 0, none⟩)] w fun r w' => r = .returned (.int .i64 (rdEnd l e : Nat)) ∧ w = w' := by
 obtain ⟨ao, cap, hg, hc, hn, hlc, hlo⟩ := h
 have hlo := Lib.hid hlo
 obtain ⟨c0, c1, f0, f1⟩ := two_cells hg
 clear hg
 by_cases he : e = 0
 · subst he
   by_cases hl : 0 < l.length
   · have e2 : (0 : Int) < (l.length : Int) := by omega
     go_enter Tryz.func88, Tryz.ntmps88
     go_wp2
     go_ret
     exact ⟨by simp [rdEnd, hl], rfl⟩
   · have e2 : l.length = 0 := by omega
     go_enter Tryz.func88, Tryz.ntmps88
     go_wp2
     go_ret
     exact ⟨by simp [rdEnd, e2], rfl⟩
 · have e2 : ((e : Int) == 0) = false := by simp; omega
   go_enter Tryz.func88, Tryz.ntmps88
   go_wp2
   go_ret
   exact ⟨by simp [rdEnd, he], rfl⟩
def Took (w : World) (g lo : Nat) (t : List Nat × List Nat × Nat) (r : Ending) (w' : World) : Prop :=
 ∃ ao cap, r = .returned (.slice ao t.1.length cap) ∧ CellsAt w' g ao t.1.length (u8c t.1) ∧ (ao = none → t.1.length = 0) ∧ Rd w' g lo t.2.1 t.2.2 ∧ But g w w'
theorem CellsAt.from {w : World} {B : Nat} {a : Addr} {n m : Nat} {l : List Nat} (h : CellsAt w B (some a) n (u8c l)) (hm : m ≤ n) : CellsAt w B (some (a.add m)) (n - m) (u8c (l.drop m)) := by
 intro i hi
 obtain ⟨b, off, e, hb, hc⟩ := h (m + i) (by omega)
 cases e
 refine ⟨b, off + m, by rw [Addr.add_lit], hb, ?_⟩
 rw [u8c_drop, ← hc, Nat.add_assoc]
set_option maxHeartbeats 1000000 in
theorem take_n (g : Nat) {lo : Nat} (l : List Nat) (e m : Nat) (w : World) (h : Rd w g lo l e) (hl : l.length ≤ 9223372036854775807) :
 Calls Tryz.prog 104 #[.pointer (some ⟨g, 0, none⟩), .int .i64 (m : Nat)] w (Took w g lo (rdTake l e (m : Nat))) := by
 have hR := Lib.hid h
 obtain ⟨ao, cap, hg, hc, hn, hlc, hlo⟩ := h
 have hlo := Lib.hid hlo
 obtain ⟨c0, c1, f0, f1⟩ := two_cells hg
 by_cases hlt : l.length < m
 · have e1 : (l.length : Int) < (m : Int) := by omega
   have hs : rdTake l e (m : Nat) = ([], rdFail l e 8) := by unfold rdTake; rw [if_pos (by omega)]
   rw [hs]
   clear hg hs
   go_enter Tryz.func104, Tryz.ntmps104
   go_wp2_with (go_at_call 102; refine (fail_any _ l e 8 _ hR.out).mono ?_; rintro r x1 ⟨rfl, hr1, hb1⟩)
   go_ret
   exact ⟨none, 0, rfl, CellsAt.zero, fun _ => rfl, hr1, hb1⟩
 · have hs : rdTake l e (m : Nat) = (l.take m, l.drop m, e) := by unfold rdTake; rw [if_neg (by omega), Int.toNat_natCast]
   have hml : m ≤ l.length := by omega
   have e1 : ¬ ((l.length : Int) < (m : Int)) := by omega
   have e3 : (m : Int) ≤ (l.length : Int) := by omega
   rw [hs]
   have Hlen := Lib.hid (List.length_take_of_le hml)
   have Hg := Lib.hid hg
   have Hlt := Lib.hid (Array.getElem?_eq_some_iff.1 hg).1
   clear hs hlt hg
   by_cases hcm : cap = m
   · subst hcm
     have hlm : l.length = cap := by omega
     go_enter Tryz.func104, Tryz.ntmps104
     go_wp2
     go_ret
     refine ⟨ao, cap, by simp only [Hlen.out]; rfl, ?_, ?_, ⟨ao, 0, ?_, ?_, ?_, ?_, ?_⟩, (But.refl g w).setCell 0 _⟩
     · rw [Hlen.out]
       exact ((But.refl g w).setCell 0 _).cells (Nat.le_of_lt Hlt.out) (Nat.le_refl _) ((hc.take hml).congr fun i hi => (u8c_take l _ i hi).symm)
     · intro e; rw [Hlen.out, ← hlm]; exact hn e
     · have := two_set0 Hg.out (.slice ao 0 0)
       rw [List.length_drop, hlm, Nat.sub_self]; exact this
     · rw [List.length_drop, hlm, Nat.sub_self]; exact CellsAt.zero
     · intro _; rw [List.length_drop]; omega
     · rw [List.length_drop]; omega
     · intro h; rw [List.length_drop] at h; omega
   · go_enter Tryz.func104, Tryz.ntmps104
     go_wp2
     go_ret
     refine ⟨ao, cap, by simp only [Hlen.out]; rfl, ?_, ?_, ⟨ao.map (·.add m), cap - m, ?_, ?_, ?_, ?_, ?_⟩, (But.refl g w).setCell 0 _⟩
     · rw [Hlen.out]
       exact ((But.refl g w).setCell 0 _).cells (Nat.le_of_lt Hlt.out) (Nat.le_refl _) ((hc.take hml).congr fun i hi => (u8c_take l _ i hi).symm)
     · intro e; rw [Hlen.out]; have := hn e; omega
     · have := two_set0 Hg.out (.slice (ao.map (·.add m)) (l.length - m) (cap - m))
       rw [List.length_drop]; exact this
     · rw [List.length_drop]
       refine ((But.refl g w).setCell 0 _).cells (Nat.le_of_lt Hlt.out) (Nat.le_refl _) ?_
       cases ao with
       | none => have h0 := hn rfl; rw [h0, Nat.zero_sub]; exact CellsAt.zero
       | some a => exact hc.from hml
     · intro e
       rw [List.length_drop]
       cases ao with
       | none => have := hn rfl; omega
       | some a => simp at e
     · rw [List.length_drop]; omega
     · intro h a ha
       rw [List.length_drop] at h
       cases ao with
       | none => simp at ha
       | some a2 =>
        simp only [Option.map_some, Option.some.injEq] at ha
        obtain ⟨b, off, e, -, -⟩ := hc 0 (by omega)
        cases e
        rw [← ha, Addr.add_lit]
        exact hlo.out (by omega) ⟨b, off, none⟩ rfl
set_option maxHeartbeats 1000000 in
theorem take_any (g : Nat) {lo : Nat} (l : List Nat) (e : Nat) (n : Int) (w : World) (h : Rd w g lo l e) (hl : l.length ≤ 9223372036854775807) :
 Calls Tryz.prog 104 #[.pointer (some ⟨g, 0, none⟩), .int .i64 n] w (Took w g lo (rdTake l e n)) := by
 by_cases hn0 : 0 ≤ n
 · obtain ⟨m, rfl⟩ : ∃ m : Nat, n = m := ⟨n.toNat, by omega⟩
   exact take_n g l e m w h hl
 · have hs : rdTake l e n = ([], l, e) := by unfold rdTake; rw [if_neg (by omega), show n.toNat = 0 by omega]; rfl
   rw [hs]
   have hneg : n < 0 := by omega
   obtain ⟨ao, cap, hg, hc, hn, hlc, hlo⟩ := h
   have hlo := Lib.hid hlo
   obtain ⟨c0, c1, f0, f1⟩ := two_cells hg
   have Hg := Lib.hid hg
   have Hlt := Lib.hid (Array.getElem?_eq_some_iff.1 hg).1
   clear hs hg hn0
   by_cases hcm : cap = 0
   · subst hcm
     obtain rfl : l = [] := List.length_eq_zero_iff.1 (by omega)
     go_enter Tryz.func104, Tryz.ntmps104
     go_wp2
     go_ret
     exact ⟨ao, 0, rfl, CellsAt.zero, fun _ => rfl, ⟨ao, 0, two_set0 Hg.out _, CellsAt.zero, hn, Nat.le_refl _, hlo.out⟩, (But.refl g w).setCell 0 _⟩
   · go_enter Tryz.func104, Tryz.ntmps104
     go_wp2
     go_ret
     refine ⟨ao, cap, rfl, CellsAt.zero, fun _ => rfl, ⟨ao, cap, ?_, ((But.refl g w).setCell 0 _).cells (Nat.le_of_lt Hlt.out) (Nat.le_refl _) hc, hn, hlc, hlo.out⟩, (But.refl g w).setCell 0 _⟩
     have := two_set0 Hg.out (.slice ao l.length cap)
     exact this
set_option maxHeartbeats 1000000 in
theorem rtake_any (g : Nat) {lo : Nat} (l : List Nat) (e : Nat) (n : Int) (w : World) (h : Rd w g lo l e) (hl : l.length ≤ 140737488355328) :
 Calls Tryz.prog 103 #[.pointer (some ⟨g, 0, none⟩), .int .i64 n] w fun r w' =>
  ∃ ao cap, r = .returned (.slice ao (rdTake l e n).1.length cap) ∧ CellsAt w' w'.heap.size ao (rdTake l e n).1.length (u8c (rdTake l e n).1) ∧ (ao = none → (rdTake l e n).1.length = 0) ∧ RowB w' w.heap.size ao (rdTake l e n).1.length cap (rdTake l e n).1 ∧ Rd w' g lo (rdTake l e n).2.1 (rdTake l e n).2.2 ∧ But g w w' := by
 have hlt := h.lt
 have hle : (rdTake l e n).1.length ≤ l.length := by unfold rdTake; split <;> simp [List.length_take]; omega
 have hT := fun (w : World) h => take_any g (lo := lo) l e n w h (by omega)
 obtain ⟨t, ht⟩ : ∃ t, t = rdTake l e n := ⟨_, rfl⟩
 rw [← ht] at hT hle ⊢
 have hC := fun (w : World) (ao : Option Addr) (n cap : Nat) (h1 : t.1.length = n) h2 h3 h4 => clone_any ao n cap t.1 w h1 h2 h3 h4
 clear ht
 go_enter Tryz.func103, Tryz.ntmps103
 go_wp2_with (go_at_call 104; refine (hT _ h).mono ?_; rintro r x1 ⟨ao, cap, rfl, hc1, hn1, hr1, hb1⟩)
 refine (hC _ _ _ _ rfl (hc1.mono (Nat.le_of_lt hr1.lt)) hn1 (by omega)).mono ?_
 rintro r x2 ⟨ao2, cap2, rfl, hc2, hn2, hrow, hb2⟩
 have hrow := hrow.base hb1.size
 go_wp2
 go_ret
 exact ⟨ao2, cap2, rfl, hc2, hn2, hrow, hr1.keep hb2, hb1.trans (But.of hb2)⟩
theorem GaveB.opened {w w' : World} {l : List Nat} {e : Ending} (h : GaveB w l e w') :
 ∃ ao n cap, e = .returned (.slice ao n cap) ∧ Hid (l.length = n) ∧ CellsAt w' w'.heap.size ao n (u8c l) ∧ (ao = none → n = 0) ∧ RowB w' w.heap.size ao n cap l ∧ Below w.heap.size w w' := by
 obtain ⟨ao, cap, rfl, h1, h2, h3, h4⟩ := h
 exact ⟨ao, _, cap, rfl, Lib.hid rfl, h1, h2, h3, h4⟩
theorem RowB.below {w w' : World} {base : Nat} {ao : Option Addr} {n cap : Nat} {l : List Nat} (h : RowB w base ao n cap l) (hb : Below w.heap.size w w') : RowB w' base ao n cap l := by
 refine ⟨h.1, h.2.imp id fun x => ⟨x.1, ?_⟩⟩
 exact ⟨x.2.1, x.2.2.imp id fun ⟨g, cap, cur, h1, h2, h3, h4⟩ => ⟨g, cap, cur, h1, h2, (hb.block g (Array.getElem?_eq_some_iff.1 h3).1).trans h3, h4⟩⟩
end Go.Proofs.YtebmbkbnngeabaaGreat

set_option linter.unusedSimpArgs false
namespace Go.Proofs.YtebmbkbnngeabaaGreat
open Go.RowKit
set_option linter.unusedVariables false
def lowB (v : Nat) : Nat → List Nat
 | 0 => []
 | n + 1 => lowB v n ++ [v / 2 ^ (8 * n) % 256]
theorem lowB_length (v n : Nat) : (lowB v n).length = n := by
 induction n with
 | zero => rfl
 | succ n ih => simp [lowB, ih]
theorem numB_append (l m : List Nat) : numB (l ++ m) = numB l + 256 ^ l.length * numB m := by
 induction l with
 | nil => simp [numB]
 | cons x t ih => simp only [List.cons_append, numB, ih, List.length_cons, Nat.pow_succ]; rw [Nat.mul_add, Nat.mul_comm (256 ^ t.length) 256, Nat.mul_assoc]; omega
theorem numB_lt (l : List Nat) (h : ∀ x ∈ l, x < 256) : numB l < 256 ^ l.length := by
 induction l with
 | nil => simp [numB]
 | cons x t ih =>
  have h1 := h x (by simp)
  have h2 := ih fun y hy => h y (by simp [hy])
  simp only [numB, List.length_cons, Nat.pow_succ]
  omega
theorem numB_step (t : List Nat) (k : Nat) (hk : k < t.length) (h8 : k < 8) (h : ∀ x ∈ t, x < 256) :
 bits .or .u64 ((numB (t.take k) : Nat) : Int) (IntKind.u64.wrap (((t.getD k 0 : Nat) : Int) * 2 ^ (8 * k))) = ((numB (t.take (k + 1)) : Nat) : Int) := by
 have hy : t.getD k 0 < 256 := by rw [List.getD_eq_getElem?_getD, List.getElem?_eq_getElem hk]; exact h _ (List.getElem_mem _)
 have h1 : numB (t.take k) < 2 ^ (8 * k) := by
  have := numB_lt (t.take k) fun x hx => h x (List.mem_of_mem_take hx)
  rw [List.length_take_of_le (by omega), show (256 : Nat) = 2 ^ 8 from rfl, ← Nat.pow_mul] at this; exact this
 have h2 : numB (t.take (k + 1)) = 2 ^ (8 * k) * t.getD k 0 + numB (t.take k) := by
  rw [List.take_succ_eq_append_getElem hk, numB_append, List.length_take_of_le (by omega), show (256 : Nat) = 2 ^ 8 from rfl, ← Nat.pow_mul]
  rw [List.getD_eq_getElem?_getD, List.getElem?_eq_getElem hk]
  simp [numB]; omega
 have h3 : 2 ^ (8 * k) ≤ 2 ^ 56 := Nat.pow_le_pow_right (by decide) (by omega)
 have h4 : 2 ^ (8 * k) * t.getD k 0 ≤ 2 ^ (8 * k) * 255 := Nat.mul_le_mul_left _ (by omega)
 have e : IntKind.u64.wrap (((t.getD k 0 : Nat) : Int) * 2 ^ (8 * k)) = ((2 ^ (8 * k) * t.getD k 0 : Nat) : Int) := by
  have e2 : (((t.getD k 0 : Nat) : Int) * 2 ^ (8 * k)) = ((2 ^ (8 * k) * t.getD k 0 : Nat) : Int) := by
   rw [Int.natCast_mul, Int.natCast_pow, Int.mul_comm]; rfl
  rw [e2]
  exact IntWalk.u64_in _ (by omega)
 rw [e, h2]
 have h5 : numB (t.take k) < 18446744073709551616 := by omega
 have h6 : 2 ^ (8 * k) * t.getD k 0 < 18446744073709551616 := by omega
 refine (bits_or_u64_nat _ _ h5 h6).trans ?_
 rw [Nat.two_pow_add_eq_or_of_lt h1, Nat.or_comm]
set_option maxHeartbeats 1000000 in
theorem get_any (g : Nat) {lo : Nat} (l : List Nat) (e : Nat) (n : Int) (w : World) (h : Rd w g lo l e) (hl : l.length ≤ 9223372036854775807) (h256 : ∀ x ∈ l, x < 256) :
 Calls Tryz.prog 95 #[.pointer (some ⟨g, 0, none⟩), .int .i64 n] w fun r w' =>
  r = .returned (.int .u64 ((rdGet l e n).1 : Nat)) ∧ Rd w' g lo (rdGet l e n).2.1 (rdGet l e n).2.2 ∧ But g w w' := by
 obtain ⟨m, hm⟩ : ∃ m : Int, m = if 8 < n then 0 else n := ⟨_, rfl⟩
 have hm8 : m ≤ 8 := by split at hm <;> omega
 have hG : rdGet l e n = (numB (rdTake l e m).1, (rdTake l e m).2) := by unfold rdGet; rw [← hm]
 rw [hG]
 have hT := fun (w : World) h => take_any g (lo := lo) l e m w h hl
 have htl : (rdTake l e m).1.length ≤ 8 := by unfold rdTake; split <;> simp [List.length_take]; omega
 have ht256 : ∀ x ∈ (rdTake l e m).1, x < 256 := by
  unfold rdTake; split
  · simp
  · exact fun x hx => h256 x (List.mem_of_mem_take hx)
 obtain ⟨t, ht⟩ : ∃ t, t = rdTake l e m := ⟨_, rfl⟩
 rw [← ht] at hT htl ht256 ⊢
 have Hm := Lib.hid hm
 have H256 := Lib.hid ht256
 clear ht hG hm h256 ht256
 have hmf : ∀ (fn : Fn) (first cap : Array Value) (w : World), (Instr.makeFunc fn first cap).run Tryz.prog w = .ok (.func fn first cap) w := fun _ _ _ _ => rfl
 by_cases hn : 8 < n
 · obtain rfl : m = 0 := by have := Hm.out; rw [if_pos hn] at this; exact this
   go_enter Tryz.func95, Tryz.ntmps95
   go_wp2_with fail
   refine (hT _ h).mono ?_
   rintro r x1 ⟨ao, cap, rfl, hc1, hn1, hr1, hb1⟩
   have Hr := Lib.hid hr1
   have Hb := Lib.hid hb1
   clear hr1 hb1 hT h
   go_wp2
   go_loop [6, 17] (fun v i => ∃ k : Nat, k ≤ t.1.length ∧ v = .int .u64 (numB (t.1.take k) : Nat) ∧ i = .int .i64 k) (fun _ i => t.1.length - (intOf i).toNat)
   case atStart => exact ⟨0, Nat.zero_le _, rfl, rfl⟩
   case round =>
    obtain ⟨k, hk, rfl, rfl⟩ := hrel
    by_cases hkn : k < t.1.length
    · obtain ⟨b, off, rfl, -, hcc⟩ := hc1 k hkn
      have e1 : (k : Int) < (t.1.length : Int) := by omega
      have e2 : (0 : Int) ≤ (k : Int) := by omega
      have e4 : IntKind.i64.wrap (8 * (k : Int)) = ((8 * k : Nat) : Int) := by rw [IntWalk.i64_in _ (by omega)]; omega
      have hst := numB_step t.1 k hkn (by omega) H256.out
      obtain ⟨y, hy⟩ : ∃ y, y = t.1.getD k 0 := ⟨_, rfl⟩
      have hy2 : y < 256 := by rw [hy, List.getD_eq_getElem?_getD, List.getElem?_eq_getElem hkn]; exact H256.out _ (List.getElem_mem _)
      rw [← hy] at hst
      rw [u8c, ← hy] at hcc
      have Hy := Lib.hid hy
      have Hst := Lib.hid hst
      clear hc1 hy hst
      go_wp2
      refine ⟨⟨k + 1, by omega, by rw [Hst.out], by go_num⟩, ?_⟩
      simp [intOf]; omega
    · obtain rfl : k = t.1.length := by omega
      go_wp2
      go_ret
      exact ⟨rfl, Hr.out, Hb.out⟩
 · obtain rfl : m = n := by have := Hm.out; rw [if_neg hn] at this; exact this
   go_enter Tryz.func95, Tryz.ntmps95
   go_wp2_with fail
   refine (hT _ h).mono ?_
   rintro r x1 ⟨ao, cap, rfl, hc1, hn1, hr1, hb1⟩
   have Hr := Lib.hid hr1
   have Hb := Lib.hid hb1
   clear hr1 hb1 hT h
   go_wp2
   go_loop [6, 17] (fun v i => ∃ k : Nat, k ≤ t.1.length ∧ v = .int .u64 (numB (t.1.take k) : Nat) ∧ i = .int .i64 k) (fun _ i => t.1.length - (intOf i).toNat)
   case atStart => exact ⟨0, Nat.zero_le _, rfl, rfl⟩
   case round =>
    obtain ⟨k, hk, rfl, rfl⟩ := hrel
    by_cases hkn : k < t.1.length
    · obtain ⟨b, off, rfl, -, hcc⟩ := hc1 k hkn
      have e1 : (k : Int) < (t.1.length : Int) := by omega
      have e2 : (0 : Int) ≤ (k : Int) := by omega
      have e4 : IntKind.i64.wrap (8 * (k : Int)) = ((8 * k : Nat) : Int) := by rw [IntWalk.i64_in _ (by omega)]; omega
      have hst := numB_step t.1 k hkn (by omega) H256.out
      obtain ⟨y, hy⟩ : ∃ y, y = t.1.getD k 0 := ⟨_, rfl⟩
      have hy2 : y < 256 := by rw [hy, List.getD_eq_getElem?_getD, List.getElem?_eq_getElem hkn]; exact H256.out _ (List.getElem_mem _)
      rw [← hy] at hst
      rw [u8c, ← hy] at hcc
      have Hy := Lib.hid hy
      have Hst := Lib.hid hst
      clear hc1 hy hst
      go_wp2
      refine ⟨⟨k + 1, by omega, by rw [Hst.out], by go_num⟩, ?_⟩
      simp [intOf]; omega
    · obtain rfl : k = t.1.length := by omega
      go_wp2
      go_ret
      exact ⟨rfl, Hr.out, Hb.out⟩
end Go.Proofs.YtebmbkbnngeabaaGreat

set_option linter.unusedSimpArgs false
namespace Go.Proofs.YtebmbkbnngeabaaGreat
open Go.RowKit
set_option linter.unusedVariables false
theorem Cloned.rowB {w w1 x1 : World} {ao ao1 : Option Addr} {n cap1 : Nat} {l : List Nat} (hl : l.length = n) (h : Cloned w1 x1 5 ao ao1 n cap1 (u8c l)) (hw : w.heap.size ≤ w1.heap.size) : RowB x1 w.heap.size ao1 n cap1 l := by
 refine ⟨hl, ?_⟩
 have h := h.row
 rw [range_u8c l n hl] at h
 exact h.imp id fun x => ⟨x.1, own_base x.2 hw⟩
set_option maxHeartbeats 2000000 in
theorem rput_n (ao : Option Addr) (L cap : Nat) (l : List Nat) (n : Int) (m v : Nat) (w : World) (hl : l.length = L) (hc : CellsAt w w.heap.size ao L (u8c l)) (hn : ao = none → L = 0) (hb : L ≤ 140737488355000) (hv : v < 18446744073709551616)
 (hm : (n ≤ 0 ∨ 8 < n) ∧ m = 0 ∨ n = m ∧ m ≤ 8) :
 Calls Tryz.prog 45 #[.slice ao L cap, .int .i64 n, .int .u64 (v : Nat)] w (GaveB w (l ++ lowB v m)) := by
 subst hl
 have hm8 : m ≤ 8 := by omega
 go_enter Tryz.func45, Tryz.ntmps45
 go_wp2_with (at_builtin; refine wpList_append_clone1 sl_u8 rfl (.tmp 8) (.tmp 9) rfl rfl rfl (hc.alloc (Nat.le_refl _) _) hn (fun _ _ => rfl) (by unfold maxLen; omega) (by omega) ?_)
 intro ao1 cap1 x1 hc1 hbD hown
 have hx1 : Below w.heap.size w x1 := (balloc (Below.refl _ _) _).trans (hbD.mono (by simp))
 have hr1 : RowB x1 w.heap.size ao1 l.length cap1 l := hown.rowB rfl (by simp)
 clear hown hbD hc1 hc
 go_wp2
 go_loopw [0, 7] (fun b i wr => ∃ (k : Nat) (ao2 : Option Addr) (cap2 : Nat), k ≤ m ∧ i = .int .i64 k ∧ b = .slice ao2 (l.length + k) cap2 ∧ RowB wr w.heap.size ao2 (l.length + k) cap2 (l ++ lowB v k) ∧ Below w.heap.size w wr) (fun _ i _ => m - (intOf i).toNat)
 case atStart => exact ⟨0, ao1, cap1, Nat.zero_le _, rfl, rfl, by simpa [lowB] using hr1, hx1⟩
 case round =>
  clear hr1 hx1
  obtain ⟨k, ao2, cap2, hk, rfl, rfl, hr2, hx2⟩ := hrel
  by_cases hkm : k < m
  · have hnm : n = m := by omega
    subst hnm
    have e1 : (k : Int) < (m : Int) := by omega
    have e2 : (0 : Int) ≤ (k : Int) := by omega
    have e3 : (m : Int) ≤ 8 := by omega
    have e4 : IntKind.u64.wrap (8 * (k : Int)) = ((8 * k : Nat) : Int) := by rw [IntWalk.u64_in _ (by omega)]; omega
    go_wp2_with (at_builtin; refine wpList_append_rowB rfl (.tmp 20) (.tmp 27) rfl rfl (hr2.alloc _) rfl rfl (cells_alloc _ _ _ 1 (u8c [v / 2 ^ (8 * k) % 256]) (fun i hi => by (obtain rfl : i = 0 := (by omega)); simp [u8c])) (fun h => by cases h) (by omega) (by have := hx2.size; simp; omega) ?_)
    intro ao3 cap3 x3 hr3 hb3 hs3
    have hb3 := (hx2.alloc hx2.size _).trans hb3
    clear hs3 hr2 e4
    go_wp2
    go_roundw
    case rel => exact ⟨k + 1, ao3, cap3, by omega, by go_num, rfl, by simpa [lowB, Nat.add_assoc] using hr3, hb3⟩
    case measure => simp [intOf]; omega
  · obtain rfl : k = m := by omega
    have hend : GaveB w (l ++ lowB v k) (.returned (.slice ao2 (l.length + k) cap2)) wr := by
     have hlen : (l ++ lowB v k).length = l.length + k := by rw [List.length_append, lowB_length]
     refine ⟨ao2, cap2, by rw [hlen], by rw [hlen]; exact hr2.cells, by rw [hlen]; exact hr2.nil0, by rw [hlen]; exact hr2, hx2⟩
    have Hend := Lib.hid hend
    clear hend hr2 hx2
    rcases hm with ⟨h | h, rfl⟩ | ⟨rfl, h⟩
    · go_wp2
      go_ret
      exact Hend.out
    · go_wp2
      go_ret
      exact Hend.out
    · go_wp2
      go_ret
      exact Hend.out
end Go.Proofs.YtebmbkbnngeabaaGreat

set_option linter.unusedSimpArgs false
namespace Go.Proofs.YtebmbkbnngeabaaGreat
open Go.RowKit
set_option linter.unusedVariables false
theorem or128 (v : Nat) : bits .or .u8 ((v % 256 : Nat) : Int) 128 = ((v % 128 + 128 : Nat) : Int) := by
 have h := bits_or_u8 (v % 256) 128 (by omega) (by decide)
 rw [show ((128 : Nat) : Int) = 128 from rfl] at h
 rw [h]
 congr 1
 have h2 : v % 256 = v % 128 ∨ v % 256 = v % 128 + 128 := by omega
 have hl : v % 128 < 2 ^ 7 := by omega
 have e := or_add (v % 128) 1 7 hl
 rw [show 1 * 2 ^ 7 = 128 from rfl] at e
 rcases h2 with h2 | h2
 · rw [h2, e]
 · rw [h2, ← e, Nat.or_assoc, Nat.or_self]
theorem vputF_shift (n v : Nat) (h : 128 ≤ v) (hv : v < 128 * 128 ^ n * 128) : vputF (n + 1) v = (v % 128 + 128) :: vputF n (v / 128) := by
 rw [vputF, if_neg (by omega)]
theorem vputF_ge (n : Nat) : ∀ v, v < 128 * 128 ^ n → vputF (n + 1) v = vputF n v := by
 induction n with
 | zero => intro v hv; simp only [vputF]; rw [if_pos (by omega)]
 | succ n ih =>
  intro v hv
  rw [vputF]
  conv => rhs; rw [vputF]
  split
  · rfl
  · rw [ih (v / 128) (by rw [Nat.pow_succ] at hv; omega)]
theorem vputB_step (v : Nat) (hv : v < 18446744073709551616) (h : 128 ≤ v) : vputB v = (v % 128 + 128) :: vputB (v / 128) := by
 unfold vputB
 rw [vputF_shift 8 v h (by omega), ← vputF_ge 8 (v / 128) (by omega)]
theorem cells_byte (w : World) (x : Int) (y : Nat) (h : x = (y : Nat)) : CellsAt (w.alloc (.cells #[.int .u8 x] 5)) (w.alloc (.cells #[.int .u8 x] 5)).heap.size (some ⟨w.heap.size, 0, none⟩) 1 (u8c [y]) :=
 cells_alloc _ _ _ 1 (u8c [y]) (fun i hi => by (obtain rfl : i = 0 := (by omega)); subst h; rfl)
theorem GaveB.of {w w' : World} {ao : Option Addr} {n cap : Nat} {l : List Nat} (hl : n = l.length) (hr : RowB w' w.heap.size ao n cap l) (hb : Below w.heap.size w w') : GaveB w l (.returned (.slice ao n cap)) w' := by
 subst hl
 exact ⟨ao, cap, rfl, hr.cells, hr.nil0, hr, hb⟩
set_option maxHeartbeats 1000000 in
theorem rvput_any (ao : Option Addr) (L cap : Nat) (l : List Nat) (v : Nat) (w : World) (hl : l.length = L) (hc : CellsAt w w.heap.size ao L (u8c l)) (hn : ao = none → L = 0) (hb : L ≤ 140737488355000) (hv : v < 18446744073709551616) :
 Calls Tryz.prog 46 #[.slice ao L cap, .int .u64 (v : Nat)] w (GaveB w (l ++ vputB v)) := by
 subst hl
 have hvl := vputB_length v
 go_enter Tryz.func46, Tryz.ntmps46
 go_wp2_with (at_builtin; refine wpList_append_clone1 sl_u8 rfl (.tmp 5) (.tmp 6) rfl rfl rfl (hc.alloc (Nat.le_refl _) _) hn (fun _ _ => rfl) (by unfold maxLen; omega) (by omega) ?_)
 intro ao1 cap1 x1 hc1 hbD hown
 have hx1 : Below w.heap.size w x1 := (balloc (Below.refl _ _) _).trans (hbD.mono (by simp))
 have hr1 : RowB x1 w.heap.size ao1 l.length cap1 l := hown.rowB rfl (by simp)
 clear hown hbD hc1 hc
 go_wp2
 go_loopw [0, 1] (fun b i wr => ∃ (pre : List Nat) (u n : Nat) (ao2 : Option Addr) (cap2 : Nat), i = .int .u64 (u : Nat) ∧ b = .slice ao2 n cap2 ∧ Hid (n = l.length + pre.length) ∧ RowB wr w.heap.size ao2 n cap2 (l ++ pre) ∧ Hid (vputB v = pre ++ vputB u) ∧ u < 18446744073709551616 ∧ Below w.heap.size w wr) (fun _ i _ => (intOf i).toNat)
 case atStart => exact ⟨[], v, _, ao1, cap1, rfl, rfl, Lib.hid rfl, by simpa using hr1, Lib.hid rfl, hv, hx1⟩
 case round =>
  clear hr1 hx1
  obtain ⟨pre, u, n, ao2, cap2, rfl, rfl, hn', hr1, hst, hu, hx1⟩ := hrel
  have hpre : n ≤ l.length + 9 := by
   have h1 := congrArg List.length hst.out
   have h2 := vputB_length u
   have h3 := hn'.out
   rw [List.length_append] at h1
   omega
  by_cases h128 : 128 ≤ u
  · have hst2 := Lib.hid (vputB_step u hu h128)
    have e1 : (128 : Int) ≤ (u : Int) := by omega
    have hs1 := hx1.size
    go_wp2_with (at_builtin; refine wpList_append_rowB rfl (.tmp 10) (.tmp 14) rfl rfl (hr1.alloc _) rfl rfl (cells_byte wr _ _ (or128 u)) (fun h => by cases h) (by omega) (by simp; omega) ?_)
    intro ao3 cap3 x2 hr2 hb2 hs2
    have hb2 := (hx1.alloc hs1 _).trans hb2
    clear hs2 hr1
    go_wp2
    go_roundw
    case rel => exact ⟨pre ++ [u % 128 + 128], u / 128, _, ao3, cap3, rfl, rfl, Lib.hid (by rw [hn'.out, List.length_append]; rfl), hr2, Lib.hid (by rw [hst.out, hst2.out, List.append_assoc]; rfl), by omega, hb2⟩
    case measure => simp [intOf]; omega
  · have hst2 := Lib.hid (vputB_small u (by omega))
    have e1 : ¬ (128 : Int) ≤ (u : Int) := by omega
    have hs1 := hx1.size
    go_wp2_with (at_builtin; refine wpList_append_rowB rfl (.tmp 18) (.tmp 21) rfl rfl (hr1.alloc _) rfl rfl (cells_byte wr _ u rfl) (fun h => by cases h) (by omega) (by simp; omega) ?_)
    intro ao3 cap3 x2 hr2 hb2 hs2
    have hb2 := (hx1.alloc hs1 _).trans hb2
    have H2 := Lib.hid hr2; have Hb2 := Lib.hid hb2
    clear hs2 hr1 hr2 hb2
    go_wp2
    go_ret
    rw [hst.out, hst2.out]
    exact GaveB.of (by have := hn'.out; simp only [List.length_append, List.length_singleton] <;> omega) H2.out Hb2.out
theorem or_shl (v x k : Nat) (hk : k ≤ 9) (hv : v < 2 ^ (7 * k)) (hx : x < 128) (h9 : k = 9 → x ≤ 1) : bits .or .u64 ((v : Nat) : Int) (((x : Nat) : Int) * 2 ^ (7 * k) % 18446744073709551616) = ((v + x * 2 ^ (7 * k) : Nat) : Int) := by
 have hx2 : x * 2 ^ (7 * k) < 2 ^ 64 := by
  have hk' : k ≤ 8 ∨ k = 9 := by omega
  rcases hk' with h8 | rfl
  · have : 2 ^ (7 * k) ≤ 2 ^ 56 := Nat.pow_le_pow_right (by decide) (by omega)
    have : x * 2 ^ (7 * k) ≤ 127 * 2 ^ 56 := Nat.mul_le_mul (by omega) this
    omega
  · have : x * 2 ^ (7 * 9) ≤ 1 * 2 ^ (7 * 9) := Nat.mul_le_mul_right _ (h9 rfl)
    omega
 have hv2 : v < 2 ^ 64 := Nat.lt_of_lt_of_le hv (Nat.pow_le_pow_right (by decide) (by omega))
 have e : (((x : Nat) : Int) * 2 ^ (7 * k) % 18446744073709551616) = ((x * 2 ^ (7 * k) : Nat) : Int) := by
  have e2 : (((x : Nat) : Int) * 2 ^ (7 * k)) = ((x * 2 ^ (7 * k) : Nat) : Int) := by rw [Int.natCast_mul, Int.natCast_pow]; rfl
  rw [e2]; omega
 rw [e, ← or_add v x (7 * k) hv]
 exact bits_or_u64_nat _ _ (by omega) (by omega)
set_option maxHeartbeats 1000000 in
set_option maxRecDepth 100000 in
theorem vget_any (ao : Option Addr) (L cap : Nat) (b : List Nat) (w : World) (hl : b.length = L) (h256 : ∀ x ∈ b, x < 256) (hL : L ≤ 9223372036854775807) (hc : CellsAt w w.heap.size ao L (u8c b)) :
 Calls Tryz.prog 76 #[.slice ao L cap] w fun e w' => e = .returned (.tuple #[.int .u64 ((vgetM b).1 : Nat), .int .i64 ((vgetM b).2.1 : Nat), .int .i64 ((vgetM b).2.2 : Nat)]) ∧ w = w' := by
 have Hl := Lib.hid hl; clear hl
 have H256 := Lib.hid h256; clear h256
 go_enter Tryz.func76, Tryz.ntmps76
 go_wp2
 go_loop [2, 3, 4, 9] (fun v n e i => ∃ k u : Nat, k ≤ L ∧ k ≤ 9 ∧ u < 2 ^ (7 * k) ∧ v = .int .u64 (u : Nat) ∧ n = .int .i64 0 ∧ e = .int .i64 0 ∧ i = .int .i64 k ∧ Hid (vgetM b = vgetR (b.drop k) k u)) (fun _ _ _ i => L - (intOf i).toNat)
 case atStart => exact ⟨0, 0, Nat.zero_le _, by decide, by decide, rfl, rfl, rfl, rfl, Lib.hid rfl⟩
 case round =>
  obtain ⟨k, u, hk, hk9, hu, rfl, rfl, rfl, rfl, hR⟩ := hrel
  by_cases hlt : k < L
  · obtain ⟨bb, off, rfl, -, hcc⟩ := hc k hlt
    obtain ⟨x, hx⟩ : ∃ x, x = b.getD k 0 := ⟨_, rfl⟩
    rw [u8c, ← hx] at hcc
    have hx256 : x < 256 := by rw [hx]; exact getD_lt H256.out k
    have hd : b.drop k = x :: b.drop (k + 1) := by
     rw [List.drop_eq_getElem_cons (by rw [Hl.out]; exact hlt), hx, List.getD_eq_getElem?_getD, List.getElem?_eq_getElem (by rw [Hl.out]; exact hlt)]; rfl
    have hR2 := hR.out
    rw [hd] at hR2
    unfold vgetR at hR2
    have e1 : (k : Int) < (L : Int) := by omega
    have e2 : (0 : Int) ≤ (k : Int) := by omega
    clear hd hc hx
    by_cases h9 : k = 9 ∧ 1 < x
    · rw [if_pos h9] at hR2
      obtain ⟨rfl, h1⟩ := h9
      have HR := Lib.hid hR2; clear hR2
      go_wp2
      go_ret3
      exact ⟨by rw [HR.out]; rfl, rfl⟩
    · rw [if_neg h9] at hR2
      have g9 : k = 9 → x ≤ 1 := fun h => by omega
      by_cases h128 : x < 128
      · rw [if_pos h128] at hR2
        have e5 : (x : Int) % 128 = (x : Int) := by omega
        have e6 : (x : Int) < 128 := by omega
        have Ho := Lib.hid (or_shl u x k hk9 hu h128 g9)
        by_cases h0 : x = 0 ∧ 0 < k
        · rw [if_pos h0] at hR2
          obtain ⟨rfl, h1⟩ := h0
          have HR := Lib.hid hR2; clear hR2 e5 e6
          have bk : decide ((0 : Int) < (k : Int)) = true := decide_eq_true (by omega)
          by_cases hk9' : k = 9
          · have b8 : ((k : Int) == 9) = true := by rw [beq_iff_eq]; omega
            clear hk9'
            go_wp2
            go_ret3
            exact ⟨by rw [HR.out]; rfl, rfl⟩
          · have b8 : ((k : Int) == 9) = false := by rw [beq_eq_false_iff_ne]; omega
            clear hk9'
            go_wp2
            go_ret3
            exact ⟨by rw [HR.out]; rfl, rfl⟩
        · rw [if_neg h0] at hR2
          have HR := Lib.hid hR2; clear hR2
          by_cases hx0 : x = 0
          · have hk0 : k = 0 := by omega
            have bk : ¬ 0 < k := by omega
            have b8 : ((k : Int) == 9) = false := by rw [beq_eq_false_iff_ne]; omega
            have b0 : ((x : Int) == 0) = true := by rw [beq_iff_eq]; omega
            clear h0 hx0 hk0
            go_wp2
            go_ret3
            exact ⟨by rw [HR.out, ← Ho.out]; rfl, rfl⟩
          · have b0 : ((x : Int) == 0) = false := by rw [beq_eq_false_iff_ne]; omega
            clear h0
            by_cases hk9' : k = 9
            · have b8 : ((k : Int) == 9) = true := by rw [beq_iff_eq]; omega
              have b9 : decide ((1 : Int) < (x : Int)) = false := decide_eq_false (by have := g9 hk9'; omega)
              clear hk9'
              go_wp2
              go_ret3
              exact ⟨by rw [HR.out, ← Ho.out]; rfl, rfl⟩
            · have b8 : ((k : Int) == 9) = false := by rw [beq_eq_false_iff_ne]; omega
              clear hk9'
              go_wp2
              go_ret3
              exact ⟨by rw [HR.out, ← Ho.out]; rfl, rfl⟩
      · rw [if_neg h128] at hR2
        have HR := Lib.hid hR2; clear hR2
        have hk8 : k ≤ 8 := by omega
        have b8 : ((k : Int) == 9) = false := by rw [beq_eq_false_iff_ne]; omega
        have Ho := Lib.hid (or_shl u (x % 128) k hk9 hu (by omega) (by omega))
        have hu2 : u + x % 128 * 2 ^ (7 * k) < 2 ^ (7 * (k + 1)) := by
         have : x % 128 * 2 ^ (7 * k) ≤ 127 * 2 ^ (7 * k) := Nat.mul_le_mul_right _ (by omega)
         rw [show 7 * (k + 1) = 7 * k + 7 by omega, Nat.pow_add]
         omega
        have Hu2 := Lib.hid hu2; clear hu2
        have e6 : ¬ (x : Int) < 128 := by omega
        go_wp2
        go_round
        case rel => exact ⟨k + 1, u + x % 128 * 2 ^ (7 * k), by omega, by omega, Hu2.out, by rw [← Ho.out]; rfl, rfl, rfl, by go_num, HR⟩
        case measure => simp [intOf]; omega
  · obtain rfl : k = L := by omega
    have hR2 := hR.out
    rw [List.drop_of_length_le (by rw [Hl.out]; exact Nat.le_refl _)] at hR2
    have HR := Lib.hid hR2; clear hR2
    go_wp2
    go_ret3
    exact ⟨by rw [HR.out]; rfl, rfl⟩
end Go.Proofs.YtebmbkbnngeabaaGreat

set_option linter.unusedSimpArgs false
namespace Go.Proofs.YtebmbkbnngeabaaGreat
open Go.RowKit
set_option linter.unusedVariables false
def RRd (w : World) (g lo : Nat) (b : List Nat) (at_ err : Nat) : Prop :=
 ∃ ao cap, w.heap[g]? = some (.cells #[.slice ao b.length cap, .int .i64 (at_ : Nat), .int .i64 (err : Nat)] 115) ∧ CellsAt w g ao b.length (u8c b) ∧ (ao = none → b.length = 0) ∧ b.length ≤ cap ∧ (0 < b.length → ∀ a, ao = some a → lo ≤ a.block)
theorem RRd.lt {w : World} {g lo : Nat} {b : List Nat} {at_ err : Nat} (h : RRd w g lo b at_ err) : g < w.heap.size := by
 obtain ⟨ao, cap, h, -⟩ := h
 exact (Array.getElem?_eq_some_iff.1 h).1
theorem RRd.below {w w' : World} {g lo B : Nat} {b : List Nat} {at_ err : Nat} (h : RRd w g lo b at_ err) (hb : Below B w w') (hg : g < B) : RRd w' g lo b at_ err := by
 obtain ⟨ao, cap, h1, h2, h3⟩ := h
 refine ⟨ao, cap, (hb.block g hg).trans h1, fun i hi => ?_, h3⟩
 obtain ⟨b, off, e, hlt, hc⟩ := h2 i hi
 exact ⟨b, off, e, hlt, (hb.cell (show b < B by omega)).trans hc⟩
theorem RRd.keep {w w' : World} {g lo : Nat} {b : List Nat} {at_ err : Nat} (h : RRd w g lo b at_ err) (hb : Below w.heap.size w w') : RRd w' g lo b at_ err := h.below hb h.lt
theorem RRd.but {w w' : World} {g lo g' : Nat} {b : List Nat} {at_ err : Nat} (h : RRd w g lo b at_ err) (hb : But g' w w') (hg : g < g' ∨ g' < lo ∧ g' < g) : RRd w' g lo b at_ err := by
 have hlt := h.lt
 obtain ⟨ao, cap, h1, h2, h3, h4, h5⟩ := h
 refine ⟨ao, cap, (hb.block g hlt (by omega)).trans h1, fun i hi => ?_, h3, h4, h5⟩
 obtain ⟨b, off, rfl, hbg, hc⟩ := h2 i hi
 have := h5 (by omega) _ rfl
 simp only at this
 exact ⟨b, off, rfl, hbg, (hb.cell (show b < w.heap.size by omega) (show b ≠ g' by omega)).trans hc⟩
theorem three_cells {w : World} {g T : Nat} {a b c : Value} (h : w.heap[g]? = some (.cells #[a, b, c] T)) :
 w.cell? ⟨g, 0, none⟩ = some a ∧ w.cell? ⟨g, 1, none⟩ = some b ∧ w.cell? ⟨g, 2, none⟩ = some c ∧ w.frozen? ⟨g, 1, none⟩ = false ∧ w.frozen? ⟨g, 2, none⟩ = false := by
 refine ⟨?_, ?_, ?_, ?_, ?_⟩ <;> simp [World.cell?, World.frozen?, h]
theorem three_set1 {w : World} {g T : Nat} {a b c : Value} (h : w.heap[g]? = some (.cells #[a, b, c] T)) (v : Value) : (w.setCell ⟨g, 1, none⟩ v).heap[g]? = some (.cells #[a, v, c] T) := by
 simp only [World.setCell, Array.getElem?_modify, h]; simp
theorem three_set2 {w : World} {g T : Nat} {a b c : Value} (h : w.heap[g]? = some (.cells #[a, b, c] T)) (v : Value) : (w.setCell ⟨g, 2, none⟩ v).heap[g]? = some (.cells #[a, b, v] T) := by
 simp only [World.setCell, Array.getElem?_modify, h]; simp
set_option maxHeartbeats 1000000 in
theorem rnew_any (ao : Option Addr) (n cap : Nat) (l : List Nat) (w : World) (hl : l.length = n) (hc : CellsAt w w.heap.size ao n (u8c l)) (hn : ao = none → n = 0) (hb : n ≤ 140737488355328) :
 Calls Tryz.prog 59 #[.slice ao n cap] w fun e w' => ∃ g, e = .returned (.pointer (some ⟨g, 0, none⟩)) ∧ w.heap.size ≤ g ∧ RRd w' g w.heap.size l 0 0 ∧ Below w.heap.size w w' := by
 have Hl := Lib.hid hl; clear hl
 go_enter Tryz.func59, Tryz.ntmps59
 go_wp2_with (at_builtin; refine wpList_append_clone1 sl_u8 rfl (.tmp 3) (.tmp 4) rfl rfl rfl (hc.alloc (Nat.le_refl _) _) hn (fun _ _ => rfl) (by unfold maxLen; omega) (by omega) ?_)
 intro ao1 cap1 x1 hc1 hbD hown
 have hx1 : Below w.heap.size w x1 := (balloc (Below.refl _ _) _).trans (hbD.mono (by simp))
 have hr1 : RowB x1 w.heap.size ao1 n cap1 l := by
  refine ⟨Hl.out, ?_⟩
  have h := hown.row
  rw [range_u8c l n Hl.out] at h
  exact h.imp id fun x => ⟨x.1, own_base x.2 (by simp)⟩
 have Hr1 := Lib.hid hr1
 have Hx1 := Lib.hid hx1
 clear hbD hown hr1 hx1
 go_wp2
 go_ret
 refine ⟨x1.heap.size, rfl, Hx1.out.size, ⟨ao1, cap1, ?_, ?_, ?_, ?_, ?_⟩, balloc Hx1.out _⟩
 · rw [heap_alloc_new, Hl.out]; rfl
 · rw [Hl.out]
   intro i hi
   obtain ⟨b, off, e, hlt, hcc⟩ := hc1 i hi
   exact ⟨b, off, e, hlt, ((balloc (Below.refl _ _) _).cell (by exact hlt)).trans hcc⟩
 · rw [Hl.out]; exact Hr1.out.nil0
 · rw [Hl.out]; exact Hr1.out.cap
 · rw [Hl.out]; exact fun h0 a ha => Hr1.out.low h0 a ha
set_option maxHeartbeats 1000000 in
theorem rfail_any (g : Nat) {lo : Nat} (b : List Nat) (at_ err c : Nat) (w : World) (h : RRd w g lo b at_ err) :
 Calls Tryz.prog 61 #[.pointer (some ⟨g, 0, none⟩), .int .i64 (c : Nat)] w fun r w' => r = .returned (.tuple #[]) ∧ RRd w' g lo b at_ (if err = 0 then c else err) ∧ But g w w' := by
 obtain ⟨ao, cap, hg, hc, hn, hlc, hlo⟩ := h
 obtain ⟨c0, c1, c2, f1, f2⟩ := three_cells hg
 have Hlo := Lib.hid hlo
 by_cases he : err = 0
 · subst he
   have Hs := Lib.hid (three_set2 hg (.int .i64 (c : Nat)))
   have Hg := Lib.hid (Nat.le_of_lt (Array.getElem?_eq_some_iff.1 hg).1)
   clear hg hlo
   go_enter Tryz.func61, Tryz.ntmps61
   go_wp2
   go_end0
   exact ⟨rfl, ⟨ao, cap, Hs.out, ((But.refl g w).setCell 2 _).cells Hg.out (Nat.le_refl _) hc, hn, hlc, Hlo.out⟩, (But.refl g w).setCell 2 _⟩
 · have e1 : ((err : Int) == 0) = false := by simp; omega
   have Hg := Lib.hid hg
   rw [if_neg he]
   clear hg hlo
   go_enter Tryz.func61, Tryz.ntmps61
   go_wp2
   go_end0
   exact ⟨rfl, ⟨ao, cap, Hg.out, hc, hn, hlc, Hlo.out⟩, But.refl g w⟩
def rrEnd (b : List Nat) (at_ err : Nat) : Nat := if err = 0 ∧ at_ < b.length then 9 else err
set_option maxHeartbeats 1000000 in
theorem rend_any (g : Nat) {lo : Nat} (b : List Nat) (at_ err : Nat) (w : World) (h : RRd w g lo b at_ err) :
 Calls Tryz.prog 65 #[.pointer (some ⟨g, 0, none⟩)] w fun r w' => r = .returned (.int .i64 (rrEnd b at_ err : Nat)) ∧ ∃ m, w' = w.drewN m := by
 obtain ⟨ao, cap, hg, hc, hn, hlc, hlo⟩ := h
 obtain ⟨c0, c1, c2, f1, f2⟩ := three_cells hg
 clear hlo hg
 by_cases he : err = 0
 · subst he
   by_cases hl : at_ < b.length
   · have e2 : (at_ : Int) < (b.length : Int) := by omega
     have e3 : decide ((at_ : Int) < (b.length : Int)) = true := by simp; omega
     go_enter Tryz.func65, Tryz.ntmps65
     go_wp2
     go_quiet (fail)
     go_wp2
     go_ret
     exact ⟨by simp [rrEnd, hl], _, rfl⟩
   · have e3 : decide ((at_ : Int) < (b.length : Int)) = false := by simp; omega
     go_enter Tryz.func65, Tryz.ntmps65
     go_wp2
     go_quiet (fail)
     go_wp2
     go_ret
     exact ⟨by simp [rrEnd, hl], _, rfl⟩
 · have e2 : ((err : Int) == 0) = false := by simp; omega
   go_enter Tryz.func65, Tryz.ntmps65
   go_wp2
   go_quiet (fail)
   go_wp2
   go_ret
   exact ⟨by simp [rrEnd, he], _, rfl⟩
def rrTake (b : List Nat) (at_ err : Nat) (n : Int) : List Nat × Nat × Nat :=
 if err ≠ 0 ∨ n ≤ 0 then ([], at_, err) else if (b.length : Int) - at_ < n then ([], at_, 8) else ((b.drop at_).take n.toNat, at_ + n.toNat, err)
def RTook (w : World) (g lo : Nat) (b : List Nat) (t : List Nat × Nat × Nat) (r : Ending) (w' : World) : Prop :=
 ∃ ao cap, r = .returned (.slice ao t.1.length cap) ∧ CellsAt w' w'.heap.size ao t.1.length (u8c t.1) ∧ (ao = none → t.1.length = 0) ∧ RRd w' g lo b t.2.1 t.2.2 ∧ But g w w'
set_option maxHeartbeats 2000000 in
theorem rrtake_any (g : Nat) {lo : Nat} (b : List Nat) (at_ err : Nat) (n : Int) (w : World) (h : RRd w g lo b at_ err) (hl : b.length ≤ 1000000) (ha : at_ ≤ b.length) :
 Calls Tryz.prog 63 #[.pointer (some ⟨g, 0, none⟩), .int .i64 n] w (RTook w g lo b (rrTake b at_ err n)) := by
 have hR := Lib.hid h
 obtain ⟨ao, cap, hg, hc, hn, hlc, hlo⟩ := h
 obtain ⟨c0, c1, c2, f1, f2⟩ := three_cells hg
 have Hlo := Lib.hid hlo
 have Hg := Lib.hid hg
 clear hg hlo
 by_cases he : err = 0
 · subst he
   by_cases hn0 : n ≤ 0
   · rw [show rrTake b at_ 0 n = ([], at_, 0) by unfold rrTake; rw [if_pos (.inr hn0)]]
     go_enter Tryz.func63, Tryz.ntmps63
     go_wp2
     go_ret
     exact ⟨none, 0, rfl, CellsAt.zero, fun _ => rfl, hR.out, But.refl g w⟩
   · obtain ⟨m, rfl⟩ : ∃ m : Nat, n = m := ⟨n.toNat, by omega⟩
     by_cases hlt : (b.length : Int) - at_ < m
     · rw [show rrTake b at_ 0 m = ([], at_, 8) by unfold rrTake; rw [if_neg (by omega), if_pos hlt]]
       go_enter Tryz.func63, Tryz.ntmps63
       go_wp2
       go_quiet (fail)
       go_wp2_with fail
       refine (rfail_any g (lo := lo) b at_ 0 8 _ (hR.out.keep (below_drewN (Below.refl _ _) nq))).mono ?_
       rintro e x1 ⟨rfl, hr1, hb1⟩
       rw [if_pos rfl] at hr1
       have hb1 : But g w x1 := ⟨hb1.os, hb1.tape, hb1.output, hb1.size, hb1.block⟩
       have hr1 := Lib.hid hr1
       have hb1 := Lib.hid hb1
       go_wp2
       go_ret
       exact ⟨none, 0, rfl, CellsAt.zero, fun _ => rfl, hr1.out, hb1.out⟩
     · rw [show rrTake b at_ 0 m = ((b.drop at_).take m, at_ + m, 0) by unfold rrTake; rw [if_neg (by omega), if_neg hlt]; rfl]
       have Ht : Hid (((b.drop at_).take m).length = m) := Lib.hid (List.length_take_of_le (by rw [List.length_drop]; omega))
       have hs1 := fun (w' : World) (h : w'.heap[g]? = some (.cells #[.slice ao b.length cap, .int .i64 (at_ : Nat), .int .i64 (0 : Nat)] 115)) => three_set1 h (.int .i64 ((at_ : Int) + (m : Int)))
       obtain ⟨ao', hao, hs⟩ := slice_lh ao b.length cap at_ m (by omega)
       go_enter Tryz.func63, Tryz.ntmps63
       go_wp2
       go_quiet (fail)
       go_wp2
       have hbW : But g w ((w.drewN nq).setCell ⟨g, 1, none⟩ (.int .i64 ((at_ : Int) + (m : Int)))) := But.setCell (But.of (below_drewN (Below.refl _ _) nq)) 1 _
       have hgW := hs1 (w.drewN nq) Hg.out
       obtain ⟨W, hW⟩ : ∃ W, W = (w.drewN nq).setCell ⟨g, 1, none⟩ (.int .i64 ((at_ : Int) + (m : Int))) := ⟨_, rfl⟩
       rw [← hW] at hbW hgW ⊢
       have hcW := hbW.cells (Nat.le_of_lt hR.out.lt) (Nat.le_refl _) hc
       obtain ⟨d0, d1, d2, _, _⟩ := three_cells hgW
       have D0 := fun (w' : World) (h : Grows W.drew w') => h.toDrew.cell d0
       have D1 := fun (w' : World) (h : Grows W.drew w') => h.toDrew.cell d1
       have HgW := Lib.hid hgW
       have HbW := Lib.hid hbW
       have e5 : IntKind.i64.wrap ((at_ : Int) + (m : Int) - (m : Int)) = (at_ : Int) := by rw [IntWalk.i64_in _ (by omega)]; omega
       have e6 : IntKind.i64.wrap (at_ : Int) = (at_ : Int) := IntWalk.i64_in _ (by omega)
       clear hW hs1 c0 c1 c2 f1 f2 d0 d1 d2 hgW hbW
       refine wp_region_lin [(1, true), (2, true), (3, true), (4, true), (5, true), (6, true), (7, true), (8, true), (9, true), (10, true), (11, true), (12, true), (13, true), (14, true), (15, true), (0, false), (16, false), (17, true)] (by kernel_rfl) (by kernel_rfl) (fun d _ _ _ _ h => by cases d <;> exact h) ?_
       repeat (first
        | (refine wpLin_skip rfl rfl (fun K hK => ?_); go_simp; refine hK _ ?_; clear hK K)
        | (refine wpLin_take (v := ?_) rfl rfl (fun w' hw' => ?_) (fun K hK => ?_); rotate_left; (go_simp; rfl); (go_simp; refine hK _ ?_; clear hK K)))
       refine wpLin_do rfl (fun K hK => ?_); go_simp; refine hK _ _ ((Grows.refl W.drew).alloc _) ?_; clear hK K
       have hcA : CellsAt W W.heap.size ao' m (u8c ((b.drop at_).take m)) := by
        rcases hao with h0 | rfl
        · subst h0; exact CellsAt.zero
        · exact drop_cells (p := at_) (m := m) (hcW.mono (Nat.le_trans (Nat.le_of_lt hR.out.lt) HbW.out.size)) (by omega)
       have hnA : ao' = none → m = 0 := fun e => by
        rcases Nat.eq_zero_or_pos m with h | h
        · exact h
        · obtain ⟨_, _, e2, -⟩ := hcA 0 h
          rw [e] at e2; cases e2
       refine wpLin_do rfl (fun K hK => ?_)
       refine step_append_clone1 sl_u8 rfl (.tmp 37) (.tmp 52) rfl rfl rfl (hcA.drew.alloc (Nat.le_refl _) _) hnA (fun _ _ => rfl) (by unfold maxLen; omega) (by omega) ?_
       intro aoA capA wA hcA2 hbA hclA
       have hbA2 : Below W.heap.size W wA := (balloc (Below.refl _ _).drew _).trans (hbA.mono (by simp))
       have HbA := Lib.hid hbA2
       have hlt := hR.out.lt
       have hrA : RRd wA g lo b (at_ + m) 0 := by
        refine ⟨ao, cap, (hbA2.block g (Nat.lt_of_lt_of_le hlt HbW.out.size)).trans ?_, fun i hi => ?_, hn, hlc, Hlo.out⟩
        · rw [HgW.out, Int.natCast_add]
        · obtain ⟨b', off, e, hlt2, hcc⟩ := hcW i hi
          exact ⟨b', off, e, hlt2, (hbA2.cell (show b' < W.heap.size from Nat.lt_trans hlt2 (Nat.lt_of_lt_of_le hlt HbW.out.size))).trans hcc⟩
       have hnA2 : aoA = none → m = 0 := fun e => by
        rcases Nat.eq_zero_or_pos m with h | h
        · exact h
        · obtain ⟨_, _, e2, -⟩ := hcA2 0 h
          rw [e] at e2; cases e2
       go_simp; refine hK _ _ (by exact hbA) ?_; clear hK K hbA hbA2 hclA
       have HrA := Lib.hid hrA
       clear hrA
       repeat (first
        | (refine wpLin_skip rfl rfl (fun K hK => ?_); go_simp; refine hK _ ?_; clear hK K)
        | (refine wpLin_take (v := ?_) rfl rfl (fun w' hw' => ?_) (fun K hK => ?_); rotate_left; (go_simp; rfl); (go_simp; refine hK _ ?_; clear hK K)))
       refine wpLin_nil ?_
       go_wp2
       go_ret
       exact ⟨aoA, capA, by simp only [Ht.out]; rfl, by rw [Ht.out]; exact hcA2, by rw [Ht.out]; exact hnA2, HrA.out, HbW.out.trans (But.of HbA.out)⟩
 · have e1 : ((err : Int) != 0) = true := by simp; omega
   rw [show rrTake b at_ err n = ([], at_, err) by unfold rrTake; rw [if_pos (.inl he)]]
   go_enter Tryz.func63, Tryz.ntmps63
   go_wp2
   go_ret
   exact ⟨none, 0, rfl, CellsAt.zero, fun _ => rfl, hR.out, But.refl g w⟩
def rrGet (b : List Nat) (at_ err : Nat) (n : Int) : Nat × Nat × Nat :=
 let r := rrTake b at_ err (if n < 0 ∨ 8 < n then 0 else n)
 (numB r.1, r.2)
set_option maxHeartbeats 2000000 in
theorem rrget_any (g : Nat) {lo : Nat} (b : List Nat) (at_ err : Nat) (n : Int) (w : World) (h : RRd w g lo b at_ err) (hl : b.length ≤ 1000000) (ha : at_ ≤ b.length) (h256 : ∀ x ∈ b, x < 256) :
 Calls Tryz.prog 62 #[.pointer (some ⟨g, 0, none⟩), .int .i64 n] w fun r w' =>
  r = .returned (.int .u64 ((rrGet b at_ err n).1 : Nat)) ∧ RRd w' g lo b (rrGet b at_ err n).2.1 (rrGet b at_ err n).2.2 ∧ But g w w' := by
 obtain ⟨m, hm⟩ : ∃ m : Int, m = if n < 0 ∨ 8 < n then 0 else n := ⟨_, rfl⟩
 have hm8 : m ≤ 8 := by split at hm <;> omega
 have hG : rrGet b at_ err n = (numB (rrTake b at_ err m).1, (rrTake b at_ err m).2) := by unfold rrGet; rw [← hm]
 rw [hG]
 have hT := fun (w : World) h => rrtake_any g (lo := lo) b at_ err m w h hl ha
 have htl : (rrTake b at_ err m).1.length ≤ 8 := by
  unfold rrTake; split
  · simp
  · split
    · simp
    · simp only [List.length_take]; omega
 have ht256 : ∀ x ∈ (rrTake b at_ err m).1, x < 256 := by
  unfold rrTake; split
  · simp
  · split
    · simp
    · exact fun x hx => h256 x (List.mem_of_mem_drop (List.mem_of_mem_take hx))
 obtain ⟨t, ht⟩ : ∃ t, t = rrTake b at_ err m := ⟨_, rfl⟩
 rw [← ht] at hT htl ht256 ⊢
 have Hm := Lib.hid hm
 have H256 := Lib.hid ht256
 clear ht hG hm h256 ht256
 by_cases hn : n < 0
 · obtain rfl : m = 0 := by have := Hm.out; rw [if_pos (.inl hn)] at this; exact this
   go_enter Tryz.func62, Tryz.ntmps62
   go_wp2_with fail
   refine (hT _ h).mono ?_
   rintro r x1 ⟨ao, cap, rfl, hc1, hn1, hr1, hb1⟩
   have Hr := Lib.hid hr1
   have Hb := Lib.hid hb1
   clear hr1 hb1 hT h
   go_wp2
   go_loop [6, 7] (fun v i => ∃ k : Nat, k ≤ t.1.length ∧ v = .int .u64 (numB (t.1.take k) : Nat) ∧ i = .int .i64 k) (fun _ i => t.1.length - (intOf i).toNat)
   case atStart => exact ⟨0, Nat.zero_le _, rfl, rfl⟩
   case round =>
    obtain ⟨k, hk, rfl, rfl⟩ := hrel
    by_cases hkn : k < t.1.length
    · obtain ⟨b', off, rfl, -, hcc⟩ := hc1 k hkn
      have e1 : (k : Int) < (t.1.length : Int) := by omega
      have e2 : (0 : Int) ≤ (k : Int) := by omega
      have e4 : IntKind.u64.wrap (8 * (k : Int)) = ((8 * k : Nat) : Int) := by rw [IntWalk.u64_in _ (by omega)]; omega
      have hst := numB_step t.1 k hkn (by omega) H256.out
      obtain ⟨y, hy⟩ : ∃ y, y = t.1.getD k 0 := ⟨_, rfl⟩
      rw [u8c, ← hy] at hcc
      have hy2 : y < 256 := by rw [hy, List.getD_eq_getElem?_getD, List.getElem?_eq_getElem hkn]; exact H256.out _ (List.getElem_mem _)
      rw [← hy] at hst
      have Hy := Lib.hid hy
      have Hst := Lib.hid hst
      clear hc1 hy hst
      go_wp2
      refine ⟨⟨k + 1, by omega, by rw [Hst.out], by go_num⟩, ?_⟩
      simp [intOf]; omega
    · obtain rfl : k = t.1.length := by omega
      go_wp2
      go_ret
      exact ⟨rfl, Hr.out, Hb.out⟩
 · by_cases hn8 : 8 < n
   · obtain rfl : m = 0 := by have := Hm.out; rw [if_pos (.inr hn8)] at this; exact this
     go_enter Tryz.func62, Tryz.ntmps62
     go_wp2_with fail
     refine (hT _ h).mono ?_
     rintro r x1 ⟨ao, cap, rfl, hc1, hn1, hr1, hb1⟩
     have Hr := Lib.hid hr1
     have Hb := Lib.hid hb1
     clear hr1 hb1 hT h
     go_wp2
     go_loop [6, 7] (fun v i => ∃ k : Nat, k ≤ t.1.length ∧ v = .int .u64 (numB (t.1.take k) : Nat) ∧ i = .int .i64 k) (fun _ i => t.1.length - (intOf i).toNat)
     case atStart => exact ⟨0, Nat.zero_le _, rfl, rfl⟩
     case round =>
      obtain ⟨k, hk, rfl, rfl⟩ := hrel
      by_cases hkn : k < t.1.length
      · obtain ⟨b', off, rfl, -, hcc⟩ := hc1 k hkn
        have e1 : (k : Int) < (t.1.length : Int) := by omega
        have e2 : (0 : Int) ≤ (k : Int) := by omega
        have e4 : IntKind.u64.wrap (8 * (k : Int)) = ((8 * k : Nat) : Int) := by rw [IntWalk.u64_in _ (by omega)]; omega
        have hst := numB_step t.1 k hkn (by omega) H256.out
        obtain ⟨y, hy⟩ : ∃ y, y = t.1.getD k 0 := ⟨_, rfl⟩
        rw [u8c, ← hy] at hcc
        have hy2 : y < 256 := by rw [hy, List.getD_eq_getElem?_getD, List.getElem?_eq_getElem hkn]; exact H256.out _ (List.getElem_mem _)
        rw [← hy] at hst
        have Hy := Lib.hid hy
        have Hst := Lib.hid hst
        clear hc1 hy hst
        go_wp2
        refine ⟨⟨k + 1, by omega, by rw [Hst.out], by go_num⟩, ?_⟩
        simp [intOf]; omega
      · obtain rfl : k = t.1.length := by omega
        go_wp2
        go_ret
        exact ⟨rfl, Hr.out, Hb.out⟩
   · obtain rfl : m = n := by have := Hm.out; rw [if_neg (by omega)] at this; exact this
     have e0 : 0 ≤ m := by omega
     go_enter Tryz.func62, Tryz.ntmps62
     go_wp2_with fail
     refine (hT _ h).mono ?_
     rintro r x1 ⟨ao, cap, rfl, hc1, hn1, hr1, hb1⟩
     have Hr := Lib.hid hr1
     have Hb := Lib.hid hb1
     clear hr1 hb1 hT h
     go_wp2
     go_loop [6, 7] (fun v i => ∃ k : Nat, k ≤ t.1.length ∧ v = .int .u64 (numB (t.1.take k) : Nat) ∧ i = .int .i64 k) (fun _ i => t.1.length - (intOf i).toNat)
     case atStart => exact ⟨0, Nat.zero_le _, rfl, rfl⟩
     case round =>
      obtain ⟨k, hk, rfl, rfl⟩ := hrel
      by_cases hkn : k < t.1.length
      · obtain ⟨b', off, rfl, -, hcc⟩ := hc1 k hkn
        have e1 : (k : Int) < (t.1.length : Int) := by omega
        have e2 : (0 : Int) ≤ (k : Int) := by omega
        have e4 : IntKind.u64.wrap (8 * (k : Int)) = ((8 * k : Nat) : Int) := by rw [IntWalk.u64_in _ (by omega)]; omega
        have hst := numB_step t.1 k hkn (by omega) H256.out
        obtain ⟨y, hy⟩ : ∃ y, y = t.1.getD k 0 := ⟨_, rfl⟩
        rw [u8c, ← hy] at hcc
        have hy2 : y < 256 := by rw [hy, List.getD_eq_getElem?_getD, List.getElem?_eq_getElem hkn]; exact H256.out _ (List.getElem_mem _)
        rw [← hy] at hst
        have Hy := Lib.hid hy
        have Hst := Lib.hid hst
        clear hc1 hy hst
        go_wp2
        refine ⟨⟨k + 1, by omega, by rw [Hst.out], by go_num⟩, ?_⟩
        simp [intOf]; omega
      · obtain rfl : k = t.1.length := by omega
        go_wp2
        go_ret
        exact ⟨rfl, Hr.out, Hb.out⟩
end Go.Proofs.YtebmbkbnngeabaaGreat

set_option linter.unusedSimpArgs false
namespace Go.Proofs.YtebmbkbnngeabaaGreat
open Go.RowKit
set_option linter.unusedVariables false
def Rel (b l : List Nat) (at_ err : Nat) : Prop := at_ ≤ b.length ∧ (err = 0 → l = b.drop at_) ∧ (err ≠ 0 → l = [])
theorem rel_take {b l : List Nat} {at_ err : Nat} (h : Rel b l at_ err) (n : Int) :
 (rdTake l err n).1 = (rrTake b at_ err n).1 ∧ (rdTake l err n).2.2 = (rrTake b at_ err n).2.2 ∧ Rel b (rdTake l err n).2.1 (rrTake b at_ err n).2.1 (rrTake b at_ err n).2.2 := by
 obtain ⟨h1, h2, h3⟩ := h
 by_cases he : err = 0
 · obtain rfl := h2 he
   subst he
   by_cases hn : n ≤ 0
   · have e1 : rdTake (b.drop at_) 0 n = ([], b.drop at_, 0) := by unfold rdTake; rw [if_neg (by omega), show n.toNat = 0 by omega]; rfl
     have e2 : rrTake b at_ 0 n = ([], at_, 0) := by unfold rrTake; rw [if_pos (.inr hn)]
     rw [e1, e2]
     exact ⟨rfl, rfl, h1, fun _ => rfl, fun h => absurd rfl h⟩
   · by_cases hlt : (b.length : Int) - at_ < n
     · have e1 : rdTake (b.drop at_) 0 n = ([], [], 8) := by unfold rdTake; rw [if_pos (by rw [List.length_drop]; omega)]; rfl
       have e2 : rrTake b at_ 0 n = ([], at_, 8) := by unfold rrTake; rw [if_neg (by omega), if_pos hlt]
       rw [e1, e2]
       exact ⟨rfl, rfl, h1, fun h => by simp at h, fun _ => rfl⟩
     · have e1 : rdTake (b.drop at_) 0 n = ((b.drop at_).take n.toNat, b.drop (at_ + n.toNat), 0) := by unfold rdTake; rw [if_neg (by rw [List.length_drop]; omega), List.drop_drop]
       have e2 : rrTake b at_ 0 n = ((b.drop at_).take n.toNat, at_ + n.toNat, 0) := by unfold rrTake; rw [if_neg (by omega), if_neg hlt]
       rw [e1, e2]
       exact ⟨rfl, rfl, by show at_ + n.toNat ≤ b.length; omega, fun _ => rfl, fun h => absurd rfl h⟩
 · obtain rfl := h3 he
   have e2 : rrTake b at_ err n = ([], at_, err) := by unfold rrTake; rw [if_pos (.inl he)]
   have e1 : rdTake [] err n = ([], [], err) := by
    unfold rdTake
    split
    · unfold rdFail; rw [if_neg he]
    · simp
   rw [e1, e2]
   exact ⟨rfl, rfl, h1, fun h => absurd h he, fun _ => rfl⟩
theorem rdTake_neg (l : List Nat) (e : Nat) (n : Int) (h : n < 0) : rdTake l e n = rdTake l e 0 := by
 unfold rdTake; rw [show n.toNat = 0 by omega]; rfl
theorem rel_get {b l : List Nat} {at_ err : Nat} (h : Rel b l at_ err) (n : Int) :
 (rdGet l err n).1 = (rrGet b at_ err n).1 ∧ (rdGet l err n).2.2 = (rrGet b at_ err n).2.2 ∧ Rel b (rdGet l err n).2.1 (rrGet b at_ err n).2.1 (rrGet b at_ err n).2.2 := by
 obtain ⟨m, hm⟩ : ∃ m : Int, m = if n < 0 ∨ 8 < n then 0 else n := ⟨_, rfl⟩
 have h1 : rdGet l err n = (numB (rdTake l err m).1, (rdTake l err m).2) := by
  unfold rdGet
  by_cases h8 : 8 < n
  · rw [if_pos h8, show m = 0 by rw [hm, if_pos (.inr h8)]]
  · rw [if_neg h8]
    by_cases h0 : n < 0
    · rw [rdTake_neg l err n h0, show m = 0 by rw [hm, if_pos (.inl h0)]]
    · rw [show m = n by rw [hm, if_neg (by omega)]]
 have h2 : rrGet b at_ err n = (numB (rrTake b at_ err m).1, (rrTake b at_ err m).2) := by unfold rrGet; rw [← hm]
 obtain ⟨r1, r2, r3⟩ := rel_take h m
 rw [h1, h2]
 exact ⟨by rw [r1], r2, r3⟩
theorem rel_fail {b l : List Nat} {at_ err : Nat} (h : Rel b l at_ err) (c : Nat) :
 (rdFail l err c).2 = (if err = 0 then c else err) ∧ Rel b (rdFail l err c).1 at_ (if err = 0 then c else err) := by
 obtain ⟨h1, h2, h3⟩ := h
 unfold rdFail
 by_cases he : err = 0
 · rw [if_pos he, if_pos he]
   refine ⟨rfl, h1, fun hc => ?_, fun hc => ?_⟩
   · show (if c = 0 then l else []) = _
     rw [if_pos hc]; exact h2 he
   · show (if c = 0 then l else []) = _
     rw [if_neg hc]
 · rw [if_neg he, if_neg he]
   exact ⟨rfl, h1, fun h => absurd h he, fun _ => rfl⟩
theorem rel_end {b l : List Nat} {at_ err : Nat} (h : Rel b l at_ err) : rrEnd b at_ err = rdEnd l err := by
 obtain ⟨h1, h2, h3⟩ := h
 unfold rrEnd rdEnd
 by_cases he : err = 0
 · rw [h2 he, List.length_drop]
   by_cases hb : at_ < b.length
   · rw [if_pos ⟨he, hb⟩, if_pos ⟨he, by omega⟩]
   · rw [if_neg (fun h => hb h.2), if_neg (fun h => by have := h.2; omega)]
 · rw [if_neg (fun h => he h.1), if_neg (fun h => he h.1)]
end Go.Proofs.YtebmbkbnngeabaaGreat

set_option linter.unusedSimpArgs false
namespace Go.Proofs.YtebmbkbnngeabaaGreat
open Go.RowKit
set_option linter.unusedVariables false
theorem and127 (x : Nat) (hx : x < 256) : bits .and .u8 ((x : Nat) : Int) 127 = ((x % 128 : Nat) : Int) := by
 have h := bits_and_u8 x 127 hx (by decide)
 rw [show ((127 : Nat) : Int) = 127 from rfl] at h
 rw [h]
 congr 1
 exact Nat.and_two_pow_sub_one_eq_mod x 7
set_option maxHeartbeats 1000000 in
set_option maxRecDepth 100000 in
theorem rvget_any (ao : Option Addr) (L cap : Nat) (b : List Nat) (w : World) (hl : b.length = L) (h256 : ∀ x ∈ b, x < 256) (hL : L ≤ 9223372036854775807) (hc : CellsAt w w.heap.size ao L (u8c b)) :
 Calls Tryz.prog 89 #[.slice ao L cap] w fun e w' => e = .returned (.tuple #[.int .u64 ((vgetM b).1 : Nat), .int .i64 ((vgetM b).2.1 : Nat), .int .i64 ((vgetM b).2.2 : Nat)]) ∧ w = w' := by
 have Hl := Lib.hid hl; clear hl
 have H256 := Lib.hid h256; clear h256
 go_enter Tryz.func89, Tryz.ntmps89
 go_wp2
 go_loop [5, 6] (fun v i => ∃ k u : Nat, k ≤ L ∧ k ≤ 9 ∧ u < 2 ^ (7 * k) ∧ v = .int .u64 (u : Nat) ∧ i = .int .i64 k ∧ Hid (vgetM b = vgetR (b.drop k) k u)) (fun _ i => L - (intOf i).toNat)
 case atStart => exact ⟨0, 0, Nat.zero_le _, by decide, by decide, rfl, rfl, Lib.hid rfl⟩
 case round =>
  obtain ⟨k, u, hk, hk9, hu, rfl, rfl, hR⟩ := hrel
  by_cases hlt : k < L
  · obtain ⟨bb, off, rfl, -, hcc⟩ := hc k hlt
    obtain ⟨x, hx⟩ : ∃ x, x = b.getD k 0 := ⟨_, rfl⟩
    rw [u8c, ← hx] at hcc
    have hx256 : x < 256 := by rw [hx]; exact getD_lt H256.out k
    have hd : b.drop k = x :: b.drop (k + 1) := by
     rw [List.drop_eq_getElem_cons (by rw [Hl.out]; exact hlt), hx, List.getD_eq_getElem?_getD, List.getElem?_eq_getElem (by rw [Hl.out]; exact hlt)]; rfl
    have hR2 := hR.out
    rw [hd] at hR2
    unfold vgetR at hR2
    have e1 : (k : Int) < (L : Int) := by omega
    have e2 : (0 : Int) ≤ (k : Int) := by omega
    have e4 : IntKind.u64.wrap (7 * (k : Int)) = ((7 * k : Nat) : Int) := by rw [IntWalk.u64_in _ (by omega)]; omega
    have ha := and127 x hx256
    clear hd hc hx
    by_cases h9 : k = 9 ∧ 1 < x
    · rw [if_pos h9] at hR2
      obtain ⟨hk9', h1⟩ := h9
      have HR := Lib.hid hR2; clear hR2
      have b8 : ((k : Int) == 9) = true := by rw [beq_iff_eq]; omega
      clear hk9'
      go_wp2
      go_ret3
      exact ⟨by rw [HR.out]; rfl, rfl⟩
    · rw [if_neg h9] at hR2
      have g9 : k = 9 → x ≤ 1 := fun h => by omega
      have Ho := Lib.hid (or_shl u (x % 128) k hk9 hu (by omega) (by omega))
      by_cases h128 : x < 128
      · rw [if_pos h128] at hR2
        have hxm : x % 128 = x := Nat.mod_eq_of_lt h128
        have e6 : (x : Int) < 128 := by omega
        by_cases h0 : x = 0 ∧ 0 < k
        · rw [if_pos h0] at hR2
          obtain ⟨rfl, h1⟩ := h0
          have HR := Lib.hid hR2; clear hR2 e6 hxm
          by_cases hk9' : k = 9
          · have b8 : ((k : Int) == 9) = true := by rw [beq_iff_eq]; omega
            clear hk9'
            go_wp2
            go_ret3
            exact ⟨by rw [HR.out]; rfl, rfl⟩
          · have b8 : ((k : Int) == 9) = false := by rw [beq_eq_false_iff_ne]; omega
            clear hk9'
            go_wp2
            go_ret3
            exact ⟨by rw [HR.out]; rfl, rfl⟩
        · rw [if_neg h0] at hR2
          have HR := Lib.hid hR2; clear hR2
          have Hxe : Hid (u + x * 2 ^ (7 * k) = u + x % 128 * 2 ^ (7 * k)) := Lib.hid (by rw [hxm])
          clear hxm
          by_cases hx0 : x = 0
          · have hk0 : k = 0 := by omega
            have bk : ¬ 0 < k := by omega
            have b8 : ((k : Int) == 9) = false := by rw [beq_eq_false_iff_ne]; omega
            have b0 : ((x : Int) == 0) = true := by rw [beq_iff_eq]; omega
            clear h0 hx0 hk0
            go_wp2
            go_ret3
            exact ⟨by rw [HR.out, Hxe.out, ← Ho.out]; rfl, rfl⟩
          · have b0 : ((x : Int) == 0) = false := by rw [beq_eq_false_iff_ne]; omega
            clear h0
            by_cases hk9' : k = 9
            · have b8 : ((k : Int) == 9) = true := by rw [beq_iff_eq]; omega
              have b9 : decide ((1 : Int) < (x : Int)) = false := decide_eq_false (by have := g9 hk9'; omega)
              clear hk9'
              go_wp2
              go_ret3
              exact ⟨by rw [HR.out, Hxe.out, ← Ho.out]; rfl, rfl⟩
            · have b8 : ((k : Int) == 9) = false := by rw [beq_eq_false_iff_ne]; omega
              clear hk9'
              go_wp2
              go_ret3
              exact ⟨by rw [HR.out, Hxe.out, ← Ho.out]; rfl, rfl⟩
      · rw [if_neg h128] at hR2
        have HR := Lib.hid hR2; clear hR2
        have hk8 : k ≤ 8 := by omega
        have b8 : ((k : Int) == 9) = false := by rw [beq_eq_false_iff_ne]; omega
        have hu2 : u + x % 128 * 2 ^ (7 * k) < 2 ^ (7 * (k + 1)) := by
         have : x % 128 * 2 ^ (7 * k) ≤ 127 * 2 ^ (7 * k) := Nat.mul_le_mul_right _ (by omega)
         rw [show 7 * (k + 1) = 7 * k + 7 by omega, Nat.pow_add]
         omega
        have Hu2 := Lib.hid hu2; clear hu2
        have e6 : ¬ (x : Int) < 128 := by omega
        go_wp2
        go_round
        case rel => exact ⟨k + 1, u + x % 128 * 2 ^ (7 * k), by omega, by omega, Hu2.out, by rw [← Ho.out]; rfl, by go_num, HR⟩
        case measure => simp [intOf]; omega
  · obtain rfl : k = L := by omega
    have hR2 := hR.out
    rw [List.drop_of_length_le (by rw [Hl.out]; exact Nat.le_refl _)] at hR2
    have HR := Lib.hid hR2; clear hR2
    go_wp2
    go_ret3
    exact ⟨by rw [HR.out]; rfl, rfl⟩
theorem RRd.slice {w : World} {g lo : Nat} {b : List Nat} {at_ err : Nat} {ao : Option Addr} {cap : Nat} (h : RRd w g lo b at_ err) (hg : w.heap[g]? = some (.cells #[.slice ao b.length cap, .int .i64 (at_ : Nat), .int .i64 (err : Nat)] 115)) :
 CellsAt w g ao b.length (u8c b) := by
 obtain ⟨ao', cap', hg', hc, -⟩ := h
 rw [hg] at hg'
 simp only [Option.some.injEq, Obj.cells.injEq, Array.mk.injEq, List.cons.injEq, Value.slice.injEq] at hg'
 obtain ⟨⟨rfl, -⟩, -⟩ := hg'.1
 exact hc
def rvRead (b : List Nat) (at_ err : Nat) : Nat × Nat × Nat :=
 if err ≠ 0 then (0, at_, err) else if (vgetM (b.drop at_)).2.2 ≠ 0 then (0, at_, (vgetM (b.drop at_)).2.2) else ((vgetM (b.drop at_)).1, at_ + (vgetM (b.drop at_)).2.1, 0)
set_option maxHeartbeats 2000000 in
theorem rvread_any (g : Nat) {lo : Nat} (b : List Nat) (at_ err : Nat) (w : World) (h : RRd w g lo b at_ err) (hl : b.length ≤ 1000000) (ha : at_ ≤ b.length) (h256 : ∀ x ∈ b, x < 256) :
 Calls Tryz.prog 60 #[.pointer (some ⟨g, 0, none⟩)] w fun r w' => r = .returned (.int .u64 ((rvRead b at_ err).1 : Nat)) ∧ RRd w' g lo b (rvRead b at_ err).2.1 (rvRead b at_ err).2.2 ∧ But g w w' := by
 have hR := Lib.hid h
 obtain ⟨ao, cap, hg, hc, hn, hlc, hlo⟩ := h
 obtain ⟨c0, c1, c2, f1, f2⟩ := three_cells hg
 have Hlo := Lib.hid hlo
 have Hg := Lib.hid hg
 clear hg hlo
 by_cases he : err = 0
 · subst he
   obtain ⟨G, hG⟩ : ∃ G, G = vgetM (b.drop at_) := ⟨_, rfl⟩
   have hrv : rvRead b at_ 0 = if G.2.2 ≠ 0 then (0, at_, G.2.2) else (G.1, at_ + G.2.1, 0) := by unfold rvRead; rw [if_neg (by decide), ← hG]
   have hGn : G.2.1 ≤ (b.drop at_).length := by rw [hG]; exact vgetM_n _
   rw [List.length_drop] at hGn
   obtain ⟨ao', hao, hs⟩ := slice_from ao b.length cap at_ (by omega) (by omega)
   have hcD : ∀ w', Below w.heap.size w w' → CellsAt w' w'.heap.size ao' (b.length - at_) (u8c (b.drop at_)) := fun w' hw' => by
    rcases hao with h0 | rfl
    · rw [h0]; exact CellsAt.zero
    · have := drop_cells (p := at_) (m := b.length - at_) ((hc.mono (Nat.le_of_lt hR.out.lt)).at hw') (by omega)
      rw [List.take_of_length_le (by rw [List.length_drop]; omega)] at this
      exact this
   have hV := fun w' hw' => rvget_any ao' (b.length - at_) (cap - at_) (b.drop at_) w' (by rw [List.length_drop]) (fun x hx => h256 x (List.mem_of_mem_drop hx)) (by omega) (hcD w' hw')
   rw [← hG] at hV
   have HV := Lib.hid hV
   clear hV hcD hG hc
   by_cases hge : G.2.2 = 0
   · rw [if_neg (by omega)] at hrv
     have b1 : ((G.2.2 : Int) != 0) = false := by rw [bne_eq_false_iff_eq]; omega
     have hs1 := fun (w' : World) (h : w'.heap[g]? = some (.cells #[.slice ao b.length cap, .int .i64 (at_ : Nat), .int .i64 (0 : Nat)] 115)) => three_set1 h (.int .i64 ((at_ : Int) + (G.2.1 : Int)))
     have Hs1 := Lib.hid hs1
     have Hrv := Lib.hid hrv
     clear hrv hge hs1
     go_enter Tryz.func60, Tryz.ntmps60
     go_wp2
     go_quiet ((go_at_call 89; exact Calls.quiet_of_same (same_flip (HV.out _ (below_drewN (Below.refl _ _) _)))))
     go_wp2
     go_ret
     rw [Hrv.out]
     have hbW : But g w ((w.drewN nq).setCell ⟨g, 1, none⟩ (.int .i64 ((at_ : Int) + (G.2.1 : Int)))) := But.setCell (But.of (below_drewN (Below.refl _ _) nq)) 1 _
     refine ⟨rfl, ⟨ao, cap, ?_, ?_, hn, hlc, Hlo.out⟩, hbW⟩
     · exact Hs1.out (w.drewN nq) Hg.out
     · exact hbW.cells (Nat.le_of_lt hR.out.lt) (Nat.le_refl _) (hR.out.slice Hg.out)
   · rw [if_pos hge] at hrv
     have b1 : ((G.2.2 : Int) != 0) = true := by rw [bne_iff_ne]; omega
     have Hrv := Lib.hid hrv
     clear hrv hge
     go_enter Tryz.func60, Tryz.ntmps60
     go_wp2
     go_quiet ((go_at_call 89; exact Calls.quiet_of_same (same_flip (HV.out _ (below_drewN (Below.refl _ _) _)))))
     go_wp2_with fail
     refine (rfail_any g (lo := lo) b at_ 0 G.2.2 _ (hR.out.keep (below_drewN (Below.refl _ _) nq))).mono ?_
     rintro e x1 ⟨rfl, hr1, hb1⟩
     rw [if_pos rfl] at hr1
     have hb1 : But g w x1 := ⟨hb1.os, hb1.tape, hb1.output, hb1.size, hb1.block⟩
     have hr1 := Lib.hid hr1
     have hb1 := Lib.hid hb1
     go_wp2
     go_ret
     rw [Hrv.out]
     exact ⟨rfl, hr1.out, hb1.out⟩
 · have e1 : ((err : Int) != 0) = true := by rw [bne_iff_ne]; omega
   rw [show rvRead b at_ err = (0, at_, err) by unfold rvRead; rw [if_pos he]]
   go_enter Tryz.func60, Tryz.ntmps60
   go_wp2
   go_ret
   exact ⟨rfl, hR.out, But.refl g w⟩
end Go.Proofs.YtebmbkbnngeabaaGreat

set_option linter.unusedSimpArgs false
namespace Go.Proofs.YtebmbkbnngeabaaGreat
open Go.RowKit
set_option linter.unusedVariables false
theorem xor0_u64 (x : Int) (h0 : 0 ≤ x) (h1 : x < 18446744073709551616) : bits .xor .u64 x 0 = x := by
 show IntKind.u64.wrap ((BitVec.ofInt 64 x ^^^ BitVec.ofInt 64 0).toNat : Nat) = x
 rw [show BitVec.ofInt 64 0 = 0#64 from rfl, BitVec.xor_zero, BitVec.toNat_ofInt, IntKind.wrap_u64]
 omega
theorem xor1_u64 (x : Int) (h0 : 0 ≤ x) (h1 : x < 18446744073709551616) : bits .xor .u64 x 18446744073709551615 = 18446744073709551615 - x := by
 show IntKind.u64.wrap ((BitVec.ofInt 64 x ^^^ BitVec.ofInt 64 18446744073709551615).toNat : Nat) = _
 rw [show BitVec.ofInt 64 18446744073709551615 = BitVec.allOnes 64 from by decide, BitVec.xor_allOnes, BitVec.toNat_not, BitVec.toNat_ofInt, IntKind.wrap_u64]
 omega
theorem xor0_i64 (x : Int) (h0 : -9223372036854775808 ≤ x) (h1 : x ≤ 9223372036854775807) : bits .xor .i64 x 0 = x := by
 show IntKind.i64.wrap ((BitVec.ofInt 64 x ^^^ BitVec.ofInt 64 0).toNat : Nat) = x
 rw [show BitVec.ofInt 64 0 = 0#64 from rfl, BitVec.xor_zero, BitVec.toNat_ofInt, IntKind.wrap_i64]
 omega
theorem xor1_i64 (x : Int) (h0 : -9223372036854775808 ≤ x) (h1 : x ≤ 9223372036854775807) : bits .xor .i64 x (-1) = -x - 1 := by
 show IntKind.i64.wrap ((BitVec.ofInt 64 x ^^^ BitVec.ofInt 64 (-1)).toNat : Nat) = _
 rw [show BitVec.ofInt 64 (-1) = BitVec.allOnes 64 from by decide, BitVec.xor_allOnes, BitVec.toNat_not, BitVec.toNat_ofInt, IntKind.wrap_i64]
 omega
set_option maxHeartbeats 1000000 in
theorem rzig_any (v : Int) (w : World) (h : inI64 v) : Calls Tryz.prog 75 #[.int .i64 v] w fun e w' => e = .returned (.int .u64 (zigN v : Nat)) ∧ w = w' := by
 obtain ⟨h1, h2⟩ := h
 by_cases h0 : 0 ≤ v
 · have e1 : v / 9223372036854775808 = 0 := by omega
   have e2 : IntKind.u64.wrap v = v := by rw [IntKind.wrap_u64]; omega
   have e3 : IntKind.u64.wrap (v * 2) = 2 * v := by rw [IntKind.wrap_u64]; omega
   have e4 := xor0_u64 (2 * v) (by omega) (by omega)
   have ez : Hid ((zigN v : Int) = 2 * v) := Lib.hid (by unfold zigN; rw [if_pos h0]; omega)
   have e5 : v / 2 ^ 63 = 0 := e1
   go_enter Tryz.func75, Tryz.ntmps75
   go_wp2
   go_ret
   exact ⟨by rw [ez.out]; rfl, rfl⟩
 · have e1 : v / 9223372036854775808 = -1 := by omega
   have e2 : IntKind.u64.wrap v = v + 18446744073709551616 := by rw [IntKind.wrap_u64]; omega
   have e3 : IntKind.u64.wrap ((v + 18446744073709551616) * 2) = 2 * v + 18446744073709551616 := by rw [IntKind.wrap_u64]; omega
   have e4 := xor1_u64 (2 * v + 18446744073709551616) (by omega) (by omega)
   have ez : Hid ((zigN v : Int) = 18446744073709551615 - (2 * v + 18446744073709551616)) := Lib.hid (by unfold zigN; rw [if_neg h0]; omega)
   have e5 : v / 2 ^ 63 = -1 := e1
   have e6 : IntKind.u64.wrap (-1) = 18446744073709551615 := by decide
   go_enter Tryz.func75, Tryz.ntmps75
   go_wp2
   go_ret
   exact ⟨by rw [ez.out]; rfl, rfl⟩
theorem and1' (V : Nat) (h : V < 18446744073709551616) : bits .and .u64 (V : Int) 1 = ((V % 2 : Nat) : Int) := by
 have e := bits_and_u64_nat V 1 h (by decide)
 rw [show ((1 : Nat) : Int) = 1 from rfl] at e
 rw [e, Nat.and_one_is_mod]
set_option maxHeartbeats 1000000 in
theorem zag_any (u : Nat) (w : World) (h : u < 18446744073709551616) : Calls Tryz.prog 108 #[.int .u64 (u : Nat)] w fun e w' => e = .returned (.int .i64 (zagI u)) ∧ w = w' := by
 have ea := and1' u h
 obtain ⟨q, hq⟩ : ∃ q, q = u / 2 := ⟨_, rfl⟩
 have eq : (u : Int) / 2 = (q : Int) := by omega
 have hq63 : q ≤ 9223372036854775807 := by omega
 have ew : IntKind.i64.wrap (q : Int) = (q : Int) := IntWalk.i64_in _ (by omega)
 by_cases h0 : u % 2 = 0
 · have e2 : bits .and .u64 (u : Int) 1 = 0 := by rw [ea, h0]; rfl
   have e4 := xor0_i64 (q : Int) (by omega) (by omega)
   have ez : Hid (zagI u = (q : Int)) := Lib.hid (by unfold zagI; rw [if_pos h0, hq])
   clear ea hq h0
   go_enter Tryz.func108, Tryz.ntmps108
   go_wp2
   go_ret
   exact ⟨by rw [ez.out]; rfl, rfl⟩
 · have e2 : bits .and .u64 (u : Int) 1 = 1 := by rw [ea, show u % 2 = 1 by omega]; rfl
   have e4 := xor1_i64 (q : Int) (by omega) (by omega)
   have ez : Hid (zagI u = -(q : Int) - 1) := Lib.hid (by unfold zagI; rw [if_neg h0, hq])
   clear ea hq h0
   go_enter Tryz.func108, Tryz.ntmps108
   go_wp2
   go_ret
   exact ⟨by rw [ez.out]; rfl, rfl⟩
set_option maxHeartbeats 1000000 in
theorem rzag_any (u : Nat) (w : World) (h : u < 18446744073709551616) : Calls Tryz.prog 90 #[.int .u64 (u : Nat)] w fun e w' => e = .returned (.int .i64 (zagI u)) ∧ w = w' := by
 have ea := and1' u h
 obtain ⟨q, hq⟩ : ∃ q, q = u / 2 := ⟨_, rfl⟩
 have eq : (u : Int) / 2 = (q : Int) := by omega
 have hq63 : q ≤ 9223372036854775807 := by omega
 have ew : IntKind.i64.wrap (q : Int) = (q : Int) := IntWalk.i64_in _ (by omega)
 by_cases h0 : u % 2 = 0
 · have e2 : bits .and .u64 (u : Int) 1 = 0 := by rw [ea, h0]; rfl
   have e4 := xor0_i64 (q : Int) (by omega) (by omega)
   have ez : Hid (zagI u = (q : Int)) := Lib.hid (by unfold zagI; rw [if_pos h0, hq])
   clear ea hq h0
   go_enter Tryz.func90, Tryz.ntmps90
   go_wp2
   go_ret
   exact ⟨by rw [ez.out]; rfl, rfl⟩
 · have e2 : bits .and .u64 (u : Int) 1 = 1 := by rw [ea, show u % 2 = 1 by omega]; rfl
   have e4 := xor1_i64 (q : Int) (by omega) (by omega)
   have ez : Hid (zagI u = -(q : Int) - 1) := Lib.hid (by unfold zagI; rw [if_neg h0, hq])
   clear ea hq h0
   go_enter Tryz.func90, Tryz.ntmps90
   go_wp2
   go_ret
   exact ⟨by rw [ez.out]; rfl, rfl⟩
theorem run_min_int2' {P : Program} {w : World} (ts : Array TypeId) (t : TypeId) (k : IntKind) (x y : Int) (m : Int) (hm : m = min x y) : (Builtin.min_ ts t #[.int k x, .int k y]).run P w = .ok (.int k m) w := by
 have e : m = (if y < x then y else x) := by rw [hm]; split <;> omega
 rw [e]
 simp [Builtin.min_, Builtin.min2]
theorem Tryz.infoI' : (Tryz.prog.info? 3).map (fun i => (i.zero, i.size, i.bytes)) = some (some (.int .i64 0), 1, 8) := by kernel_rfl
theorem sl_i64' : SlT Tryz.prog 22 3 1 8 (.int .i64 0) := ⟨Tryz.underlying22, Tryz.infoI', rfl, by decide⟩
theorem w64_wrap (n : Int) : IntKind.i64.wrap n = w64 n := by rw [IntKind.wrap_i64]; rfl
end Go.Proofs.YtebmbkbnngeabaaGreat

set_option linter.unusedSimpArgs false
namespace Go.Proofs.YtebmbkbnngeabaaGreat
open Go.RowKit
set_option linter.unusedVariables false
theorem Tryz.infoFd : (Tryz.prog.info? 83).map (fun i => (i.zero, i.size, i.bytes)) = some (some (.agg #[.string ByteArray.empty, .int .i64 0, .int .i64 0, .int .i64 0]), 4, 40) := by kernel_rfl
theorem sl_fd : SlT Tryz.prog 48 83 4 40 (.agg #[.string ByteArray.empty, .int .i64 0, .int .i64 0, .int .i64 0]) := ⟨Tryz.underlying48, Tryz.infoFd, rfl, by decide⟩
theorem Tryz.infoLf : (Tryz.prog.info? 30).map (fun i => (i.zero, i.size, i.bytes)) = some (some (.agg #[.int .i64 0, .int .i64 0, .int .i64 0, .int .i64 0]), 4, 32) := by kernel_rfl
theorem sl_lf : SlT Tryz.prog 55 30 4 32 (.agg #[.int .i64 0, .int .i64 0, .int .i64 0, .int .i64 0]) := ⟨Tryz.underlying55, Tryz.infoLf, rfl, by decide⟩
theorem Tryz.infoCo : (Tryz.prog.info? 33).map (fun i => (i.zero, i.size, i.bytes)) = some (some (.agg #[.slice none 0 0, .slice none 0 0, .slice none 0 0]), 3, 72) := by kernel_rfl
theorem sl_co : SlT Tryz.prog 52 33 3 72 (.agg #[.slice none 0 0, .slice none 0 0, .slice none 0 0]) := ⟨Tryz.underlying52, Tryz.infoCo, rfl, by decide⟩
theorem Tryz.infoTr : (Tryz.prog.info? 86).map (fun i => (i.zero, i.size, i.bytes)) = some (some (.agg #[.int .i64 0, .string ByteArray.empty, .slice none 0 0]), 3, 48) := by kernel_rfl
theorem sl_tr : SlT Tryz.prog 50 86 3 48 (.agg #[.int .i64 0, .string ByteArray.empty, .slice none 0 0]) := ⟨Tryz.underlying50, Tryz.infoTr, rfl, by decide⟩
theorem Tryz.infoTs : (Tryz.prog.info? 50).map (fun i => (i.zero, i.size, i.bytes)) = some (some (.slice none 0 0), 1, 24) := by kernel_rfl
theorem sl_ts : SlT Tryz.prog 84 50 1 24 (.slice none 0 0) := ⟨Tryz.underlying84, Tryz.infoTs, rfl, by decide⟩
theorem own_litG (w : World) (cs : Array Value) (E : TypeId) (s n : Nat) (h : cs.size = n * s) (hn : n ≤ maxLen) :
 (w.alloc (.cells cs E)).ownsRow w.heap.size E s (.slice (some ⟨w.heap.size, 0, none⟩) n n) n cs.toList := by
 refine ⟨by simpa using h, .inr ⟨w.heap.size, n, cs, rfl, Nat.le_refl _, heap_alloc_new w _, Nat.le_refl _, hn, h, ?_⟩⟩
 exact List.take_of_length_le (by simp [h])
theorem cells_lit {α : Type} (w : World) (E : TypeId) (g : α → List Value) (s : Nat) (hg : ∀ x, (g x).length = s) (x : α) (cs : Array Value) (h : cs.toList = g x) :
 CellsAt (w.alloc (.cells cs E)) (w.alloc (.cells cs E)).heap.size (some ⟨w.heap.size, 0, none⟩) (1 * s) (wc g [x]) :=
 cells_alloc w _ E _ (wc g [x]) (fun i hi => by
  have e : wcs g [x] = g x := by simp [wcs]
  unfold wc
  rw [e, List.getD_eq_getElem?_getD, List.getElem?_eq_getElem (by rw [hg]; omega), ← Array.getElem?_toList, h, List.getElem?_eq_getElem (by rw [hg]; omega)]
  rfl)
theorem wcs_range {α : Type} (g : α → List Value) (s : Nat) (hg : ∀ x, (g x).length = s) (l : List α) (n : Nat) (hn : l.length * s = n) : (List.range n).map (wc g l) = wcs g l := by
 subst hn
 refine List.ext_getElem (by simp [wcs_length hg]) fun i h1 h2 => ?_
 simp only [List.getElem_map, List.getElem_range, wc]
 rw [List.getD_eq_getElem?_getD, List.getElem?_eq_getElem h2]; rfl
theorem wcs_snoc {α : Type} (g : α → List Value) (s : Nat) (hg : ∀ x, (g x).length = s) (l : List α) (x : α) : wcs g l ++ (List.range (1 * s)).map (wc g [x]) = wcs g (l ++ [x]) := by
 rw [wcs_range g s hg [x] (1 * s) (by simp), wcs_app]
theorem wc_one {α : Type} (g : α → List Value) (l : List α) (s n : Nat) (hg : ∀ x, (g x).length = s) (hl : l.length = n) (h1 : ∀ x ∈ l, ∀ v ∈ g x, v.oneCell' = true) : ∀ i, i < n * s → (wc g l i).oneCell' = true := by
 intro i hi
 have h2 : i < (wcs g l).length := by rw [wcs_length hg, hl]; exact hi
 unfold wc
 rw [List.getD_eq_getElem?_getD, List.getElem?_eq_getElem h2]
 obtain ⟨y, hy, hv⟩ := List.mem_flatten.1 (show (wcs g l)[i] ∈ (l.map g).flatten from List.getElem_mem _)
 obtain ⟨x, hx, rfl⟩ := List.mem_map.1 hy
 exact h1 x hx _ hv
theorem fdV_one (f : Fd) : ∀ v ∈ fdV f, v.oneCell' = true := by
 intro v hv
 simp only [fdV, List.mem_cons, List.not_mem_nil, or_false] at hv
 rcases hv with rfl | rfl | rfl | rfl <;> rfl
theorem CellsAt.fd {w : World} {B : Nat} {ao : Option Addr} {n : Nat} {F : List Fd} (h : CellsAt w B ao (n * 4) (wc fdV F)) (hl : F.length = n) {i : Nat} (hi : i < n) :
 ∃ b off, ao = some ⟨b, off, none⟩ ∧ b < B ∧ w.cell? ⟨b, off + i * 4, none⟩ = some (.string (fAt F i).nm) ∧ w.cell? ⟨b, off + i * 4 + 1, none⟩ = some (.int .i64 ((fAt F i).rep : Nat)) ∧
  w.cell? ⟨b, off + i * 4 + 2, none⟩ = some (.int .i64 ((fAt F i).kind : Nat)) ∧ w.cell? ⟨b, off + i * 4 + 3, none⟩ = some (.int .i64 ((fAt F i).kids : Nat)) := by
 obtain ⟨b, off, e, hb, hc⟩ := h.wide fdV_length (by decide) hl hi fd0
 have h0 := hc 0 (by decide); have h1 := hc 1 (by decide); have h2 := hc 2 (by decide); have h3 := hc 3 (by decide)
 exact ⟨b, off, e, hb, h0, h1, h2, h3⟩
theorem own_ci {w : World} {base E g n cap : Nat} {l : List Int} (h : w.ownsRow base E 1 (.slice (some ⟨g, 0, none⟩) n cap) n (i64v l)) (j : Nat) (hj : j < n) :
 w.cell? ⟨g, j, none⟩ = some (.int .i64 (l.getD j 0)) := by
 have hl : l.length = n := by have := h.1; simpa [i64v_length] using this
 rw [h.cellAt j (by omega), i64v_at l j (by omega)]
theorem own_cw {α : Type} {s : Nat} {gf : α → List Value} (hg : ∀ x, (gf x).length = s) {w : World} {base E g n cap : Nat} {l : List α} (h : w.ownsRow base E s (.slice (some ⟨g, 0, none⟩) n cap) n (wcs gf l)) (d : α) (hl : l.length = n) (i k : Nat) (hi : i < n) (hk : k < s) :
 w.cell? ⟨g, i * s + k, none⟩ = some ((gf (l.getD i d)).getD k undef) := by
 have hb : i * s + k < n * s := by
  have : (i + 1) * s ≤ n * s := Nat.mul_le_mul_right _ hi
  rw [Nat.add_mul] at this; omega
 rw [h.cellAt _ (by omega), wcs_get hg l i k (by omega) hk, List.getD_eq_getElem?_getD, List.getD_eq_getElem?_getD, List.getElem?_eq_getElem (show i < l.length by omega)]
 simp only [Option.getD_some]
 rw [List.getElem?_eq_getElem (by rw [hg]; exact hk)]; rfl
theorem own_wset {α : Type} {s : Nat} {gf : α → List Value} (hg : ∀ x, (gf x).length = s) {w : World} {base E g n cap : Nat} {l : List α} (h : w.ownsRow base E s (.slice (some ⟨g, 0, none⟩) n cap) n (wcs gf l)) (d : α) (hl : l.length = n) (i k : Nat) (hi : i < n) (hk : k < s) (u : Value) (x' : α) (hx : (gf (l.getD i d)).set k u = gf x') :
 (w.setCell ⟨g, i * s + k, none⟩ u).ownsRow base E s (.slice (some ⟨g, 0, none⟩) n cap) n (wcs gf (l.set i x')) ∧ w.grownBy (w.setCell ⟨g, i * s + k, none⟩ u) (some g) := by
 have h2 := h.stored (i * s + k) u
 rw [wcs_set hg l i k u x' (by omega) hk (by rw [← hx, List.getD_eq_getElem?_getD, List.getElem?_eq_getElem (show i < l.length by omega)]; rfl)] at h2
 exact h2
theorem own_shapeG {w : World} {base E s n : Nat} {v : Value} {xs : List Value} (h0 : 0 < n) (h : w.ownsRow base E s v n xs) : ∃ g cap, v = .slice (some ⟨g, 0, none⟩) n cap ∧ base ≤ g ∧ n ≤ cap := by
 rcases h.2 with ⟨-, h3⟩ | ⟨g, c2, cur, h3, hb, -, hc, -⟩
 · omega
 · exact ⟨g, c2, h3, hb, hc⟩
theorem own_capG {w : World} {base E s n cap : Nat} {ao : Option Addr} {xs : List Value} (h : w.ownsRow base E s (.slice ao n cap) n xs) : n ≤ cap := by
 rcases h.2 with ⟨h2, h3⟩ | ⟨g, c2, cur, h3, hb, -, hc, -⟩
 · omega
 · simp only [Value.slice.injEq] at h3; omega
theorem own_apartT {w : World} {b1 b2 : Nat} {e1 e2 : TypeId} {s1 s2 : Nat} {v1 v2 : Value} {n1 n2 : Nat} {x1 x2 : List Value} (h1 : w.ownsRow b1 e1 s1 v1 n1 x1) (h2 : w.ownsRow b2 e2 s2 v2 n2 x2) (he : e1 ≠ e2) : v1.ownBlock = none ∨ v1.ownBlock ≠ v2.ownBlock := by
 cases hv : v1.ownBlock with
 | none => exact .inl rfl
 | some k =>
  right
  intro e
  obtain ⟨_, g1⟩ := own_type h1 hv
  obtain ⟨_, g2⟩ := own_type h2 e.symm
  rw [g1] at g2
  simp only [Option.some.injEq, Obj.cells.injEq] at g2
  exact he g2.2.1
theorem cell_set_ne {w : World} {a b : Addr} {u v : Value} (h : a ≠ b) (hc : w.cell? b = some u) : (w.setCell a v).cell? b = some u := by
 rw [World.cell?_setCell_other _ _ _ _ h]; exact hc
theorem cell_set_eq {w : World} {a : Addr} {u v : Value} (hc : w.cell? a = some u) : (w.setCell a v).cell? a = some v := World.cell?_setCell_same _ _ _ hc
theorem own_front {w : World} {base E g n cap k : Nat} {xs : List Value} (h : w.ownsRow base E 1 (.slice (some ⟨g, 0, none⟩) n cap) n xs) (hk : k ≤ n) : w.ownsRow base E 1 (.slice (some ⟨g, 0, none⟩) k cap) k (xs.take k) := by
 rcases h.2 with ⟨h2, h3⟩ | ⟨g', c2, cur, h3, hb, hg, hc, hm, hs, ht⟩
 · cases h2
 · have hx := h.1
   simp only [Value.slice.injEq, Option.some.injEq, Addr.mk.injEq, and_true, true_and] at h3
   obtain ⟨rfl, rfl⟩ := h3
   refine ⟨by rw [List.length_take]; omega, .inr ⟨g, cap, cur, rfl, hb, hg, by omega, hm, hs, ?_⟩⟩
   rw [← ht, List.take_take]; congr 1; omega
set_option maxHeartbeats 400000 in
theorem within5_any (a b : Int) (w : World) (hb : 0 < b) (hb2 : b ≤ 100000) (ha : -9223372036854775808 ≤ a) (ha2 : a ≤ 9223372036854775807):
 Calls Tryz.prog 36 #[.int .i64 a, .int .i64 b] w fun e w' => e = .returned (.int .i64 (a % b)) ∧ w = w' := by
 by_cases h0 : 0 ≤ a
 · have h1 : a.tmod b = a % b := Int.tmod_eq_emod_of_nonneg h0
   have h2 : 0 ≤ a % b := Int.emod_nonneg _ (by omega)
   go_enter Tryz.func36, Tryz.ntmps36
   go_wp2
   go_ret
   exact ⟨rfl, rfl⟩
 · by_cases hd : a % b = 0
   · have h1 : a.tmod b = 0 := Int.tmod_eq_zero_of_dvd (Int.dvd_of_emod_eq_zero hd)
     have Hd := Lib.hid hd; clear hd
     go_enter Tryz.func36, Tryz.ntmps36
     go_wp2
     go_ret
     rw [Hd.out]; exact ⟨rfl, rfl⟩
   · have h1 : a.tmod b = a % b - b := by
      rw [Int.tmod_eq_emod]
      rw [if_neg (by rintro (h | h); exact h0 h; exact hd (Int.emod_eq_zero_of_dvd h))]
      omega
     have h2 : a % b < b := Int.emod_lt_of_pos _ hb
     have h3 : 0 ≤ a % b := Int.emod_nonneg _ (by omega)
     go_enter Tryz.func36, Tryz.ntmps36
     go_wp2
     go_ret
     exact ⟨rfl, rfl⟩
set_option maxHeartbeats 400000 in
theorem within8_any (a b : Int) (w : World) (hb : 0 < b) (hb2 : b ≤ 100000) (ha : -9223372036854775808 ≤ a) (ha2 : a ≤ 9223372036854775807):
 Calls Tryz.prog 92 #[.int .i64 a, .int .i64 b] w fun e w' => e = .returned (.int .i64 (a % b)) ∧ w = w' := by
 by_cases h0 : 0 ≤ a
 · have h1 : a.tmod b = a % b := Int.tmod_eq_emod_of_nonneg h0
   have h2 : 0 ≤ a % b := Int.emod_nonneg _ (by omega)
   go_enter Tryz.func92, Tryz.ntmps92
   go_wp2
   go_ret
   exact ⟨rfl, rfl⟩
 · by_cases hd : a % b = 0
   · have h1 : a.tmod b = 0 := Int.tmod_eq_zero_of_dvd (Int.dvd_of_emod_eq_zero hd)
     have Hd := Lib.hid hd; clear hd
     go_enter Tryz.func92, Tryz.ntmps92
     go_wp2
     go_ret
     rw [Hd.out]; exact ⟨rfl, rfl⟩
   · have h1 : a.tmod b = a % b - b := by
      rw [Int.tmod_eq_emod]
      rw [if_neg (by rintro (h | h); exact h0 h; exact hd (Int.emod_eq_zero_of_dvd h))]
      omega
     have h2 : a % b < b := Int.emod_lt_of_pos _ hb
     have h3 : 0 ≤ a % b := Int.emod_nonneg _ (by omega)
     go_enter Tryz.func92, Tryz.ntmps92
     go_wp2
     go_ret
     exact ⟨rfl, rfl⟩
end Go.Proofs.YtebmbkbnngeabaaGreat

set_option linter.unusedSimpArgs false
namespace Go.Proofs.YtebmbkbnngeabaaGreat
open Go.RowKit
set_option linter.unusedVariables false
def sameN : List Nat → Nat
 | [] => 0
 | x :: t => 1 + (t.takeWhile (· == x)).length
def isRun (l : List Nat) : Bool := decide (8 ≤ sameN l ∨ sameN l = l.length)
theorem sameN_le (l : List Nat) : sameN l ≤ l.length := by
 cases l with
 | nil => simp [sameN]
 | cons x t =>
  have := List.Sublist.length_le (List.takeWhile_sublist (l := t) (· == x))
  simp only [sameN, List.length_cons]; omega
theorem sameN_pos (l : List Nat) (h : l ≠ []) : 0 < sameN l := by
 cases l with
 | nil => exact absurd rfl h
 | cons x t => simp only [sameN]; omega
theorem sameN_of (l : List Nat) (n : Nat) (hn : 0 < n) (hl : n ≤ l.length) (h : ∀ i, i < n → l.getD i 0 = l.getD 0 0) (hx : n = l.length ∨ l.getD n 0 ≠ l.getD 0 0) : sameN l = n := by
 cases l with
 | nil => simp at hl; omega
 | cons x t =>
  obtain ⟨m, rfl⟩ : ∃ m, n = m + 1 := ⟨n - 1, by omega⟩
  simp only [sameN]
  have key : ∀ (t : List Nat) (m : Nat), m ≤ t.length → (∀ i, i < m → t.getD i 0 = x) → (m = t.length ∨ t.getD m 0 ≠ x) → (t.takeWhile (· == x)).length = m := by
   intro t
   induction t with
   | nil => intro m hm _ _; simp at hm; subst hm; rfl
   | cons y t ih =>
    intro m hm h hx
    cases m with
    | zero =>
     have hy : ¬ (y == x) = true := by
      rw [beq_iff_eq]
      rcases hx with hx | hx
      · simp at hx
      · exact hx
     rw [List.takeWhile_cons, if_neg hy]; rfl
    | succ m =>
     have hy : y = x := h 0 (by omega)
     rw [List.takeWhile_cons, if_pos (by rw [beq_iff_eq]; exact hy), List.length_cons]
     rw [ih m (by simpa using hm) (fun i hi => by have := h (i + 1) (by omega); simpa using this) (by
      rcases hx with hx | hx
      · left; simpa using hx
      · right; simpa using hx)]
  rw [key t m (by simpa using hl) (fun i hi => by have := h (i + 1) (by omega); simpa using this) (by
   rcases hx with hx | hx
   · left; simpa using hx
   · right; simpa using hx)]
  omega
def pad8 (l : List Nat) : List Nat := l.take 8 ++ List.replicate (8 - l.length) 0
theorem pad8_length (l : List Nat) : (pad8 l).length = 8 := by simp [pad8]; omega
def grpsF : Nat → List Nat → List Nat × List Nat
 | 0, l => (pad8 l, l.drop 8)
 | n + 1, l => if l.drop 8 = [] ∨ isRun (l.drop 8) = true then (pad8 l, l.drop 8) else (pad8 l ++ (grpsF n (l.drop 8)).1, (grpsF n (l.drop 8)).2)
def grps (l : List Nat) : List Nat × List Nat := grpsF l.length l
theorem grpsF_fuel (n : Nat) : ∀ (m : Nat) (l : List Nat), l.length ≤ n → l.length ≤ m → grpsF n l = grpsF m l := by
 induction n with
 | zero =>
  intro m l hn hm
  have : l = [] := List.length_eq_zero_iff.1 (by omega)
  subst this
  cases m with
  | zero => rfl
  | succ m => simp [grpsF]
 | succ n ih =>
  intro m l hn hm
  cases m with
  | zero =>
   have : l = [] := List.length_eq_zero_iff.1 (by omega)
   subst this
   simp [grpsF]
  | succ m =>
   simp only [grpsF]
   split
   · rfl
   · rename_i h
     have h8 : 8 < l.length := by
      rcases Nat.lt_or_ge 8 l.length with h8 | h8
      · exact h8
      · exact absurd (.inl (List.drop_of_length_le h8)) h
     rw [ih m (l.drop 8) (by rw [List.length_drop]; omega) (by rw [List.length_drop]; omega)]
theorem grps_last (l : List Nat) (h : l.drop 8 = [] ∨ isRun (l.drop 8) = true) : grps l = (pad8 l, l.drop 8) := by
 unfold grps
 cases hl : l.length with
 | zero => rfl
 | succ n => simp only [grpsF]; rw [if_pos h]
theorem grps_more (l : List Nat) (h : ¬ (l.drop 8 = [] ∨ isRun (l.drop 8) = true)) : grps l = (pad8 l ++ (grps (l.drop 8)).1, (grps (l.drop 8)).2) := by
 have h8 : 8 < l.length := by
  rcases Nat.lt_or_ge 8 l.length with h8 | h8
  · exact h8
  · exact absurd (.inl (List.drop_of_length_le h8)) h
 have e : grps l = grpsF (l.length - 1 + 1) l := by unfold grps; rw [show l.length - 1 + 1 = l.length by omega]
 rw [e]
 simp only [grpsF]
 rw [if_neg h]
 unfold grps
 rw [grpsF_fuel (l.length - 1) (l.drop 8).length (l.drop 8) (by rw [List.length_drop]; omega) (Nat.le_refl _)]
theorem grps_is (n : Nat) : ∀ l : List Nat, l.length ≤ n → l ≠ [] → ∃ G, (grps l).1.length = 8 * G ∧ 0 < G ∧ 8 * (G - 1) < l.length ∧ (grps l).2 = l.drop (8 * G) ∧ (grps l).1 = l.take (8 * G) ++ List.replicate (8 * G - l.length) 0 := by
 induction n with
 | zero => intro l hn h; exact absurd (List.length_eq_zero_iff.1 (by omega)) h
 | succ n ih =>
  intro l hn h
  have hpos : 0 < l.length := List.length_pos_iff.2 h
  by_cases hx : l.drop 8 = [] ∨ isRun (l.drop 8) = true
  · rw [grps_last l hx]
    exact ⟨1, pad8_length l, by omega, by omega, rfl, rfl⟩
  · have h8 : 8 < l.length := by
     rcases Nat.lt_or_ge 8 l.length with h8 | h8
     · exact h8
     · exact absurd (.inl (List.drop_of_length_le h8)) hx
    obtain ⟨G, g1, g2, g3, g4, g5⟩ := ih (l.drop 8) (by rw [List.length_drop]; omega) (fun e => hx (.inl e))
    rw [grps_more l hx]
    rw [List.length_drop] at g3
    refine ⟨G + 1, ?_, by omega, by omega, ?_, ?_⟩
    · rw [List.length_append, pad8_length, g1]; omega
    · simp only []
      rw [g4, List.drop_drop]; congr 1; omega
    · simp only []
      rw [g5]
      unfold pad8
      rw [show 8 - l.length = 0 by omega, List.replicate_zero, List.append_nil, List.length_drop, ← List.append_assoc]
      congr 1
      · rw [show 8 * (G + 1) = 8 + 8 * G by omega, List.take_add]
      · congr 1; omega
theorem grps_shorter (l : List Nat) (h : l ≠ []) : (grps l).2.length < l.length := by
 obtain ⟨G, -, h0, -, h4, -⟩ := grps_is l.length l (Nat.le_refl _) h
 have hpos : 0 < l.length := List.length_pos_iff.2 h
 rw [h4, List.length_drop]; omega
def levF (w : Nat) : Nat → List Nat → List Nat
 | 0, _ => []
 | n + 1, l => if l = [] then [] else if isRun l = true then vputB (2 * sameN l) ++ lowB (l.getD 0 0) ((w + 7) / 8) ++ levF w n (l.drop (sameN l))
  else vputB (2 * ((grps l).1.length / 8) + 1) ++ packed (grps l).1 w ++ levF w n (grps l).2
def levB (w : Nat) (l : List Nat) : List Nat := levF w l.length l
theorem levF_fuel (w n : Nat) : ∀ (m : Nat) (l : List Nat), l.length ≤ n → l.length ≤ m → levF w n l = levF w m l := by
 induction n with
 | zero =>
  intro m l hn hm
  have : l = [] := List.length_eq_zero_iff.1 (by omega)
  subst this
  cases m <;> simp [levF]
 | succ n ih =>
  intro m l hn hm
  cases m with
  | zero =>
   have : l = [] := List.length_eq_zero_iff.1 (by omega)
   subst this
   simp [levF]
  | succ m =>
   simp only [levF]
   split
   · rfl
   rename_i h
   have := sameN_pos l h
   have := grps_shorter l h
   split
   · rw [ih m _ (by rw [List.length_drop]; omega) (by rw [List.length_drop]; omega)]
   · rw [ih m _ (by omega) (by omega)]
theorem levB_nil (w : Nat) : levB w [] = [] := rfl
theorem levB_run (w : Nat) (l : List Nat) (h : l ≠ []) (hr : isRun l = true) : levB w l = vputB (2 * sameN l) ++ lowB (l.getD 0 0) ((w + 7) / 8) ++ levB w (l.drop (sameN l)) := by
 have hpos : 0 < l.length := List.length_pos_iff.2 h
 have e : levB w l = levF w (l.length - 1 + 1) l := by unfold levB; rw [show l.length - 1 + 1 = l.length by omega]
 have := sameN_pos l h
 rw [e]
 simp only [levF]
 rw [if_neg h, if_pos hr]
 unfold levB
 rw [levF_fuel w (l.length - 1) (l.drop (sameN l)).length _ (by rw [List.length_drop]; omega) (Nat.le_refl _)]
theorem levB_grp (w : Nat) (l : List Nat) (h : l ≠ []) (hr : isRun l = false) : levB w l = vputB (2 * ((grps l).1.length / 8) + 1) ++ packed (grps l).1 w ++ levB w (grps l).2 := by
 have hpos : 0 < l.length := List.length_pos_iff.2 h
 have e : levB w l = levF w (l.length - 1 + 1) l := by unfold levB; rw [show l.length - 1 + 1 = l.length by omega]
 have := grps_shorter l h
 rw [e]
 simp only [levF]
 rw [if_neg h, if_neg (by rw [hr]; decide)]
 unfold levB
 rw [levF_fuel w (l.length - 1) (grps l).2.length _ (by omega) (Nat.le_refl _)]
def decRun (w n : Nat) (b l : List Nat) (k : Nat) : List Nat × List Nat × Nat :=
 if k = 0 ∨ n - l.length < k then (b, l, 10) else if b.length < (w + 7) / 8 then (b, l, 8)
 else if numB (b.take ((w + 7) / 8)) / 2 ^ w ≠ 0 then (b, l, 10) else (b.drop ((w + 7) / 8), l ++ List.replicate k (numB (b.take ((w + 7) / 8))), 0)
def decGrp (w n : Nat) (b l : List Nat) (k : Nat) : List Nat × List Nat × Nat :=
 if k = 0 ∨ n < k ∨ n - l.length ≤ 8 * (k - 1) then (b, l, 10) else if b.length < k * w then (b, l, 8)
 else if ((unpacked (b.take (k * w)) (8 * k) w).drop (n - l.length)).all (· == 0) then (b.drop (k * w), l ++ (unpacked (b.take (k * w)) (8 * k) w).take (n - l.length), 0) else (b, l, 10)
def decRow (w n : Nat) (b l : List Nat) : List Nat × List Nat × Nat :=
 if (vgetM b).2.2 ≠ 0 then (b, l, (vgetM b).2.2)
 else if (vgetM b).1 % 2 = 0 then decRun w n (b.drop (vgetM b).2.1) l ((vgetM b).1 / 2) else decGrp w n (b.drop (vgetM b).2.1) l ((vgetM b).1 / 2)
def decL (w n : Nat) : Nat → List Nat → List Nat → List Nat × Nat
 | 0, _, _ => ([], 0)
 | f + 1, b, l => if l.length < n then (if (decRow w n b l).2.2 ≠ 0 then ([], (decRow w n b l).2.2) else decL w n f (decRow w n b l).1 (decRow w n b l).2.1)
  else if 0 < b.length then ([], 9) else (l, 0)
def levDec (b : List Nat) (n width : Int) : List Nat × Nat :=
 if n < 0 ∨ 4000 < n ∨ width < 0 ∨ 16 < width then ([], 1) else decL width.toNat n.toNat (n.toNat + 1) b (if width = 0 then List.replicate n.toNat 0 else [])
theorem decRun_grow (w n : Nat) (b l : List Nat) (k : Nat) (h : (decRun w n b l k).2.2 = 0) : l.length < (decRun w n b l k).2.1.length ∧ (decRun w n b l k).2.1.length ≤ n ∧ (decRun w n b l k).1.length ≤ b.length := by
 unfold decRun at h ⊢
 split
 · rename_i h1; rw [if_pos h1] at h; simp at h
 rename_i h1; rw [if_neg h1] at h
 split
 · rename_i h2; rw [if_pos h2] at h; simp at h
 rename_i h2; rw [if_neg h2] at h
 split
 · rename_i h3; rw [if_pos h3] at h; simp at h
 simp only [List.length_append, List.length_replicate, List.length_drop]; omega
theorem decGrp_grow (w n : Nat) (b l : List Nat) (k : Nat) (h : (decGrp w n b l k).2.2 = 0) : l.length < (decGrp w n b l k).2.1.length ∧ (decGrp w n b l k).2.1.length ≤ n ∧ (decGrp w n b l k).1.length ≤ b.length := by
 unfold decGrp at h ⊢
 split
 · rename_i h1; rw [if_pos h1] at h; simp at h
 rename_i h1; rw [if_neg h1] at h
 split
 · rename_i h2; rw [if_pos h2] at h; simp at h
 rename_i h2; rw [if_neg h2] at h
 split
 · simp only [List.length_append, List.length_take, unpacked_length, List.length_drop]; omega
 · rename_i h3; rw [if_neg h3] at h; simp at h
theorem decRow_grow (w n : Nat) (b l : List Nat) (h : (decRow w n b l).2.2 = 0) : l.length < (decRow w n b l).2.1.length ∧ (decRow w n b l).2.1.length ≤ n ∧ (decRow w n b l).1.length ≤ b.length := by
 unfold decRow at h ⊢
 split
 · rename_i h1; rw [if_pos h1] at h; exact absurd h h1
 rename_i h1; rw [if_neg h1] at h
 split
 · rename_i h2; rw [if_pos h2] at h
   have := decRun_grow _ _ _ _ _ h
   rw [List.length_drop] at this; omega
 · rename_i h2; rw [if_neg h2] at h
   have := decGrp_grow _ _ _ _ _ h
   rw [List.length_drop] at this; omega
theorem decL_fuel (w n : Nat) : ∀ (f f2 : Nat) (b l : List Nat), n - l.length < f → n - l.length < f2 → decL w n f b l = decL w n f2 b l
 | 0, _, _, _, h, _ => by omega
 | _ + 1, 0, _, _, _, h => by omega
 | f + 1, f2 + 1, b, l, h1, h2 => by
  simp only [decL]
  split
  · split
    · rfl
    · rename_i h3 h4
      have := decRow_grow w n b l (by omega)
      exact decL_fuel w n f f2 _ _ (by omega) (by omega)
  · rfl
end Go.Proofs.YtebmbkbnngeabaaGreat

set_option linter.unusedSimpArgs false
namespace Go.Proofs.YtebmbkbnngeabaaGreat
open Go.RowKit
set_option linter.unusedVariables false
def levAny (l : List Nat) (width : Int) : List Nat := if width ≤ 0 ∨ 16 < width then [] else levB width.toNat l
end Go.Proofs.YtebmbkbnngeabaaGreat

set_option linter.unusedSimpArgs false
namespace Go.Proofs.YtebmbkbnngeabaaGreat
open Go.RowKit
set_option linter.unusedVariables false
def GaveNums (w : World) (E : TypeId) (r : List Nat × Nat) (e : Ending) (w' : World) : Prop := ∃ v, e = .returned (.tuple #[v, .int .i64 (r.2 : Nat)]) ∧ Fresh w w' E v (u64v r.1)
theorem gave_no (w : World) (E k : Nat) : GaveNums w E ([], k) (.returned (.tuple #[.slice none 0 0, .int .i64 (k : Nat)])) w := ⟨_, rfl, fresh_nil _ _⟩
theorem madeU64 (N : Nat) : (madeCells #[Value.int .u64 0] N).toList = u64v (List.replicate N 0) := by
 refine List.ext_getElem (by simp [madeCells, u64v]) fun i h1 h2 => ?_
 simp [madeCells, u64v, Nat.mod_one]
theorem cell_u64 {w : World} {base E g n cap : Nat} {l : List Nat} (h : w.ownsRow base E 1 (.slice (some ⟨g, 0, none⟩) n cap) n (u64v l)) (j : Nat) (hj : j < n) :
 w.cell? ⟨g, j, none⟩ = some (u64c l j) := by
 have hl : l.length = n := by have := h.1; simpa [u64v_length] using this
 rw [h.cellAt j (by omega), u64v_at l j (by omega)]
theorem stored_u64 {w : World} {base E g n cap : Nat} {l : List Nat} {x : Int} {y : Nat} (h : w.ownsRow base E 1 (.slice (some ⟨g, 0, none⟩) n cap) n (u64v l)) (j : Nat) (e : x = (y : Nat)) :
 (w.setCell ⟨g, j, none⟩ (.int .u64 x)).ownsRow base E 1 (.slice (some ⟨g, 0, none⟩) n cap) n (u64v (l.set j y)) := by
 subst e
 rw [← u64v_set]
 exact (h.stored j _).1
theorem spec_arg (b : List Nat) (n width : Int) (h : n < 0 ∨ 4000 < n ∨ width < 0 ∨ 64 < width) : unpackSpec b n width = ([], 1) := if_pos h
theorem spec_cut (b : List Nat) (n wd : Nat) (h1 : n ≤ 4000) (h2 : wd ≤ 64) (h : b.length < packSize n wd) : unpackSpec b n wd = ([], 8) := by
 unfold unpackSpec; rw [if_neg (by omega), if_pos (by simpa using h)]
theorem spec_more (b : List Nat) (n wd : Nat) (h1 : n ≤ 4000) (h2 : wd ≤ 64) (h : packSize n wd < b.length) : unpackSpec b n wd = ([], 9) := by
 unfold unpackSpec; rw [if_neg (by omega), if_neg (by simp; omega), if_pos (by simpa using h)]
theorem spec_ok (b : List Nat) (n wd : Nat) (h1 : n ≤ 4000) (h2 : wd ≤ 64) (h : b.length = packSize n wd) (ht : tailClear b (n * wd) = true) : unpackSpec b n wd = (unpacked b n wd, 0) := by
 unfold unpackSpec; rw [if_neg (by omega), if_neg (by simp; omega), if_neg (by simp; omega)]; simp [ht]
theorem spec_bad (b : List Nat) (n wd : Nat) (h1 : n ≤ 4000) (h2 : wd ≤ 64) (h : b.length = packSize n wd) (ht : tailClear b (n * wd) = false) : unpackSpec b n wd = ([], 10) := by
 unfold unpackSpec; rw [if_neg (by omega), if_neg (by simp; omega), if_neg (by simp; omega)]; simp [ht]
set_option maxHeartbeats 400000 in
theorem unpack_arg (ao : Option Addr) (L cap : Nat) (b : List Nat) (n width : Int) (w : World) (h : n < 0 ∨ 4000 < n ∨ width < 0 ∨ 64 < width) :
 Calls Tryz.prog 97 #[.slice ao L cap, .int .i64 n, .int .i64 width] w (GaveNums w 61 (unpackSpec b n width)) := by
 rw [spec_arg b n width h]
 by_cases h1 : n < 0
 · go_enter Tryz.func97, Tryz.ntmps97
   go_wp2
   go_ret2
   exact gave_no _ _ 1
 by_cases h2 : 4000 < n
 · go_enter Tryz.func97, Tryz.ntmps97
   go_wp2
   go_ret2
   exact gave_no _ _ 1
 by_cases h3 : width < 0
 · clear h
   go_enter Tryz.func97, Tryz.ntmps97
   go_wp2
   go_ret2
   exact gave_no _ _ 1
 · have h4 : 64 < width := by omega
   clear h
   go_enter Tryz.func97, Tryz.ntmps97
   go_wp2
   go_ret2
   exact gave_no _ _ 1
set_option maxHeartbeats 400000 in
theorem unpack_len (ao : Option Addr) (L cap n wd : Nat) (b : List Nat) (w : World) (hl : b.length = L) (hn : n ≤ 4000) (hw : wd ≤ 64) (hL : L ≤ 9223372036854775807) (h : L ≠ packSize n wd) :
 Calls Tryz.prog 97 #[.slice ao L cap, .int .i64 n, .int .i64 wd] w (GaveNums w 61 (unpackSpec b n wd)) := by
 obtain ⟨N, hN⟩ : ∃ N, Hid (N = packSize n wd) := ⟨_, Lib.hid rfl⟩
 have hN2 : N ≤ 800000001 := by rw [hN.out]; exact packSize_le (by omega) hw
 rcases Nat.lt_or_ge L N with hlt | hge
 · rw [spec_cut b n wd hn hw (by rw [hl, ← hN.out]; exact hlt)]
   clear h hl
   go_enter Tryz.func97, Tryz.ntmps97
   go_wp2_with (go_at_call 106; refine (size_n n wd N _ (by omega) hw hN).mono ?_; rintro e w' ⟨rfl, rfl⟩)
   go_ret2
   exact gave_no _ _ 8
 · have hgt : N < L := by have := hN.out; omega
   rw [spec_more b n wd hn hw (by rw [hl, ← hN.out]; exact hgt)]
   clear h hl
   go_enter Tryz.func97, Tryz.ntmps97
   go_wp2_with (go_at_call 106; refine (size_n n wd N _ (by omega) hw hN).mono ?_; rintro e w' ⟨rfl, rfl⟩)
   go_ret2
   exact gave_no _ _ 9
theorem or64 (v : Nat) (b : Bool) (j : Nat) (hv : v < 2 ^ j) (hj : j < 64) : bits .or .u64 (v : Int) (((b.toNat : Nat) : Int) * 2 ^ j % 18446744073709551616) = ((v ||| (b.toNat <<< j) : Nat) : Int) := by
 have h1 := toNat_le b
 have h2 : 2 ^ j ≤ 2 ^ 63 := Nat.pow_le_pow_right (by decide) (by omega)
 have h3 : b.toNat <<< j ≤ 2 ^ j := by rw [Nat.shiftLeft_eq]; have := Nat.mul_le_mul_right (2 ^ j) h1; omega
 have e : ((b.toNat : Nat) : Int) * 2 ^ j % 18446744073709551616 = ((b.toNat <<< j : Nat) : Int) := by
  have e2 : ((b.toNat <<< j : Nat) : Int) = (b.toNat : Int) * 2 ^ j := by rw [Nat.shiftLeft_eq]; simp
  rw [← e2]
  have h4 : b.toNat <<< j < 18446744073709551616 := by omega
  exact Int.emod_eq_of_lt (Int.natCast_nonneg _) (Int.ofNat_lt.2 h4)
 rw [e]
 exact bits_or_u64_nat _ _ (by omega) (by omega)
theorem or64w (v : Nat) (b : Bool) (j : Nat) (hv : v < 2 ^ j) (hj : j < 64) : bits .or .u64 (v : Int) (IntKind.u64.wrap (IntKind.u64.wrap ((b.toNat : Nat) : Int) * 2 ^ j)) = ((v ||| (b.toNat <<< j) : Nat) : Int) := by
 have h1 := toNat_le b
 have e : IntKind.u64.wrap ((b.toNat : Nat) : Int) = (b.toNat : Nat) := IntWalk.u64_in _ (by omega)
 rw [e, IntKind.wrap_u64]
 exact or64 v b j hv hj
set_option maxHeartbeats 2000000 in
set_option maxRecDepth 100000 in
theorem unpack_same (ao : Option Addr) (L cap n wd : Nat) (b : List Nat) (w : World) (hl : b.length = L) (hb : ∀ x ∈ b, x < 256) (hn : n ≤ 4000) (hw : wd ≤ 64) (h : L = packSize n wd)
 (hc : CellsAt w w.heap.size ao L (u8c b)) :
 Calls Tryz.prog 97 #[.slice ao L cap, .int .i64 n, .int .i64 wd] w (GaveNums w 61 (unpackSpec b n wd)) := by
 have Hl := Lib.hid hl; clear hl
 have Hb := Lib.hid hb; clear hb
 have hN : Hid (L = packSize n wd) := Lib.hid h
 have hN2 : L ≤ 800000001 := by rw [h]; exact packSize_le (by omega) hw
 have hN3 : L ≤ 40000 := by
  have := Nat.mul_le_mul hn hw
  rw [h]; unfold packSize; omega
 obtain ⟨F, hF⟩ : ∃ F, Hid (F = n * wd) := ⟨_, Lib.hid rfl⟩
 have hmul : n * wd ≤ 256000 := by have := Nat.mul_le_mul hn hw; omega
 have hFL : F ≤ 8 * L := by rw [hF.out, h]; unfold packSize; omega
 clear h
 obtain ⟨i0, hi, hz0, hz1, hz2⟩ := info_parts Tryz.infoU64
 go_enter Tryz.func97, Tryz.ntmps97
 go_wp2_with (go_at_call 106; refine (size_n n wd L _ (by omega) hw hN).mono ?_; rintro e w' ⟨rfl, rfl⟩)
 go_loop [9] (fun at_ => ∃ p : Nat, F ≤ p ∧ p ≤ 8 * L ∧ at_ = .int .i64 p ∧ Hid (∀ q, F ≤ q → q < p → bitOf b q = false)) (fun at_ => 8 * L - (intOf at_).toNat)
 case atStart => exact ⟨F, Nat.le_refl _, hFL, by rw [hF.out]; go_num, Lib.hid (fun q h1 h2 => by omega)⟩
 case round =>
  obtain ⟨p, hp1, hp2, rfl, hcl⟩ := hrel
  by_cases hp : p < 8 * L
  · cases hbit : bitOf b p with
    | true =>
     go_wp2_with (go_at_call 107; refine (bit_n ao L cap p b _ Hb.out Hl.out hp (by omega) hc).mono ?_; rw [hbit]; rintro e w' ⟨rfl, rfl⟩)
     go_ret2
     rw [spec_bad b n wd hn hw (by rw [Hl.out, hN.out]) ?_]
     · exact gave_no _ _ 10
     · cases ht : tailClear b (n * wd) with
       | false => rfl
       | true =>
        rw [tailClear_iff] at ht
        rw [ht p (by rw [← hF.out]; exact hp1) (by rw [Hl.out]; exact hp)] at hbit
        cases hbit
    | false =>
     go_wp2_with (go_at_call 107; refine (bit_n ao L cap p b _ Hb.out Hl.out hp (by omega) hc).mono ?_; rw [hbit]; rintro e w' ⟨rfl, rfl⟩)
     go_round
     case rel => exact ⟨p + 1, by omega, by omega, by go_num, Lib.hid (fun q h1 h2 => by
      by_cases hq : q = p
      · subst hq; exact hbit
      · exact hcl.out q h1 (by omega))⟩
     case measure => simp [intOf]; omega
  · have htc : Hid (tailClear b (n * wd) = true) := Lib.hid (by
     rw [tailClear_iff, ← hF.out, Hl.out]
     exact fun q h1 h2 => hcl.out q h1 (by omega))
    clear hcl
    go_wp2_with (at_make; refine wpList_make_full _ rfl _ _ 98 rfl w.heap.size 61 i0 (.int .u64 0) 1 Tryz.underlying98 hi hz0 hz1 _ _ _ _ n rfl rfl rfl rfl ?b2 ?b3 (Nat.le_refl _) ?_)
    case b2 => first | omega | (rw [hz2]; omega)
    case b3 => unfold maxLen; omega
    intro w0 hown0 hgrow0
    rw [madeU64] at hown0
    go_wp2
    go_loopw [58] (fun i wr => ∃ k : Nat, k ≤ n ∧ i = .int .i64 k ∧ wr.ownsRow w.heap.size 61 1 (.slice (some ⟨w.heap.size, 0, none⟩) n n) n (u64v (unpackTo b n wd k 0)) ∧ Below w.heap.size w wr)
     (fun i _ => n - (intOf i).toNat)
    case atStart => exact ⟨0, by omega, rfl, by rw [unpackTo_zero]; simpa using hown0, (Below.refl _ _).grown hgrow0 (Nat.le_refl _) (fun k h => by cases h)⟩
    case round =>
     obtain ⟨k, hk, rfl, hown, hnx⟩ := hrel
     by_cases hkn : k < n
     · go_wp2
       go_loopw [62] (fun i wr => ∃ j : Nat, j ≤ wd ∧ i = .int .i64 j ∧ wr.ownsRow w.heap.size 61 1 (.slice (some ⟨w.heap.size, 0, none⟩) n n) n (u64v (unpackTo b n wd k j)) ∧ Below w.heap.size w wr)
        (fun i _ => wd - (intOf i).toNat)
       case atStart => exact ⟨0, by omega, rfl, hown, hnx⟩
       case round =>
        clear hown hnx
        obtain ⟨j, hj, rfl, hown, hnx⟩ := hrel
        by_cases hjw : j < wd
        · have hkw : (k + 1) * wd ≤ n * wd := Nat.mul_le_mul_right _ hkn
          rw [Nat.add_mul] at hkw
          have hpl : k * wd + j < 8 * L := by have := hF.out; omega
          have hkw2 : k * wd ≤ 256000 := by omega
          obtain ⟨old, hold⟩ : ∃ old, Hid (old = numOf (fun m => bitOf b (k * wd + m)) j) := ⟨_, Lib.hid rfl⟩
          have hcell : wr.cell? ⟨w.heap.size, k, none⟩ = some (.int .u64 (old : Nat)) := by
           rw [hold.out, ← unpackTo_getD b n wd k j hkn]; exact cell_u64 hown _ hkn
          have hfr := hown.frozenAt k
          have hcw := (hc.at hnx).drew
          obtain ⟨t, ht⟩ : ∃ t, Hid (t = k * wd) := ⟨_, Lib.hid rfl⟩
          have e0 : ((k : Int) * (wd : Int)) = (t : Int) := by rw [ht.out]; simp
          have e1 : IntKind.i64.wrap (t : Int) = t := IntWalk.i64_in _ (by have := ht.out; omega)
          have e2 : IntKind.i64.wrap ((t : Int) + j) = t + j := IntWalk.i64_in _ (by have := ht.out; omega)
          have e3 : (k : Int) < (n : Int) := by omega
          have e4 : (0 : Int) ≤ (k : Int) := by omega
          have e5 : (0 : Int) ≤ (j : Int) := by omega
          have e6 : (j : Int) ≤ 64 := by omega
          clear hmul hkw hkw2
          go_wp2
          go_still_tail 16, (by kernel_rfl)
          still_call (same_flip (bit_n ao L cap (t + j) b wr.drew Hb.out Hl.out (by rw [ht.out]; exact hpl) (by have := ht.out; omega) hcw))
          repeat still_step
          refine wpStill_nil ?_
          change wpList _ _ _ _ _ wr.drew
          go_wp2
          go_roundw
          case rel =>
           have hold2 : old < 2 ^ j := by rw [hold.out]; exact numOf_lt _ _
           have hst := or64w old (bitOf b (t + j)) j hold2 (by omega)
           refine ⟨j + 1, by omega, by go_num, ?_, (hnx.setCell (by simp) _).drew⟩
           have hs := stored_u64 hown k hst
           have hps := unpackTo_succ b n wd k j hkn
           rw [← hold.out, ← ht.out] at hps
           rw [hps] at hs
           exact hs.drew
          case measure => simp [intOf]; omega
        · go_wp2
          go_roundw
          case rel =>
           obtain rfl : j = wd := by omega
           rw [unpackTo_next] at hown
           exact ⟨k + 1, by omega, by go_num, hown, hnx⟩
          case measure => simp [intOf]; omega
     · go_wp2
       go_ret2
       obtain rfl : k = n := by omega
       rw [unpackTo_all] at hown
       rw [spec_ok b k wd hn hw (by rw [Hl.out, hN.out]) htc.out]
       refine ⟨_, rfl, ?_, hnx⟩
       rw [u64v_length, unpacked_length]
       exact hown
theorem unpack_any (ao : Option Addr) (L cap : Nat) (n width : Int) (b : List Nat) (w : World) (hl : b.length = L) (hb : ∀ x ∈ b, x < 256) (hL : L ≤ 9223372036854775807) (hc : CellsAt w w.heap.size ao L (u8c b)) :
 Calls Tryz.prog 97 #[.slice ao L cap, .int .i64 n, .int .i64 width] w (GaveNums w 61 (unpackSpec b n width)) := by
 by_cases h : n < 0 ∨ 4000 < n ∨ width < 0 ∨ 64 < width
 · exact unpack_arg ao L cap b n width w h
 · obtain ⟨k, rfl⟩ : ∃ k : Nat, n = k := ⟨n.toNat, by omega⟩
   obtain ⟨wd, rfl⟩ : ∃ k : Nat, width = k := ⟨width.toNat, by omega⟩
   by_cases h2 : L = packSize k wd
   · exact unpack_same ao L cap k wd b w hl hb (by omega) (by omega) h2 hc
   · exact unpack_len ao L cap k wd b w hl (by omega) (by omega) hL h2
end Go.Proofs.YtebmbkbnngeabaaGreat

set_option linter.unusedSimpArgs false
namespace Go.Proofs.YtebmbkbnngeabaaGreat
open Go.RowKit
set_option linter.unusedVariables false
@[reducible] def nic (l : List Nat) (i : Nat) : Value := .int .i64 ((l.getD i 0 : Nat) : Int)
theorem nic_drop (l : List Nat) (m i : Nat) : nic (l.drop m) i = nic l (m + i) := by
 simp [nic, List.getD_eq_getElem?_getD]
theorem Tryz.infoI : (Tryz.prog.info? 3).map (fun i => (i.zero, i.size, i.bytes)) = some (some (.int .i64 0), 1, 8) := by kernel_rfl
theorem sl_i : SlT Tryz.prog 22 3 1 8 (.int .i64 0) := ⟨Tryz.underlying22, Tryz.infoI, rfl, by decide⟩
set_option maxHeartbeats 400000 in
theorem lbytes_any (wd : Nat) (w : World) (h : wd ≤ 16) : Calls Tryz.prog 94 #[.int .i64 (wd : Nat)] w fun e w' => e = .returned (.int .i64 (((wd + 7) / 8 : Nat) : Int)) ∧ w = w' := by
 have e1 : Hid (((wd : Int) + 8 - 1) / 8 = (((wd + 7) / 8 : Nat) : Int)) := Lib.hid (by omega)
 go_enter Tryz.func94, Tryz.ntmps94
 go_wp2
 go_ret
 exact ⟨by rw [← e1.out]; rfl, rfl⟩
end Go.Proofs.YtebmbkbnngeabaaGreat

set_option linter.unusedSimpArgs false
namespace Go.Proofs.YtebmbkbnngeabaaGreat
open Go.RowKit
set_option linter.unusedVariables false
theorem vputB_le (v : Nat) : (vputB v).length ≤ 10 := (vputB_length v).2
theorem levB_le (w : Nat) (hw : w ≤ 16) (m : Nat) : ∀ l : List Nat, l.length ≤ m → (levB w l).length ≤ 26 * l.length := by
 induction m with
 | zero => intro l hm; rw [List.length_eq_zero_iff.1 (Nat.le_zero.1 hm)]; simp [levB_nil]
 | succ m ih =>
  intro l hm
  by_cases h0 : l = []
  · subst h0; simp [levB_nil]
  have hpos : 0 < l.length := List.length_pos_iff.2 h0
  cases hr : isRun l with
  | true =>
   have hs := sameN_pos l h0
   have hs2 := sameN_le l
   have h1 := ih (l.drop (sameN l)) (by rw [List.length_drop]; omega)
   have h2 := vputB_le (2 * sameN l)
   rw [levB_run w l h0 hr]
   simp only [List.length_append, lowB_length]
   rw [List.length_drop] at h1
   omega
  | false =>
   obtain ⟨G, g1, g2, g3, g4, g5⟩ := grps_is l.length l (Nat.le_refl _) h0
   have hsh := grps_shorter l h0
   have h1 := ih (grps l).2 (by omega)
   have h2 := vputB_le (2 * ((grps l).1.length / 8) + 1)
   have h3 : (packed (grps l).1 w).length ≤ 16 * G := by
    rw [packed_length, g1]; unfold packSize
    have : 8 * G * w ≤ 8 * G * 16 := Nat.mul_le_mul_left _ hw
    omega
   rw [levB_grp w l h0 hr]
   simp only [List.length_append]
   rw [g4, List.length_drop] at h1
   rw [g4]
   omega
theorem pre_le {w : Nat} {l pre rest : List Nat} (hw : w ≤ 16) (h : levB w l = pre ++ levB w rest) : pre.length ≤ 26 * l.length := by
 have h1 := congrArg List.length h
 have h2 := levB_le w hw l.length l (Nat.le_refl _)
 rw [List.length_append] at h1
 omega
set_option maxRecDepth 100000 in
theorem slI_from (a : Option Addr) (len cap p : Nat) (hp : p ≤ len) (hcap : len ≤ cap) :
 ∃ ao', (len - p = 0 ∨ ao' = a.map (·.add p)) ∧ ∀ w : World, (Instr.sliceAt 22 (.slice a len cap) (some (.int .i64 (p : Nat))) none none).run Tryz.prog w = .ok (.slice ao' (len - p) (cap - p)) w := by
 refine ⟨if cap = p then a else a.map (·.add (p * 1)), ?_, fun w => ?_⟩
 · by_cases h : cap = p
   · exact .inl (by omega)
   · rw [if_neg h, Nat.mul_one]; exact .inr rfl
 · have h := run_slice_l (P := Tryz.prog) (w := w) 22 a len cap Tryz.underlying22 .i64 (p : Int) (by omega) (by omega)
   rw [run_sliceAt_slice (P := Tryz.prog) w _ _ _ _ _ Tryz.underlying22, h, Int.toNat_natCast]
   have hs : (sizeOf (Tryz.prog.elem 22)).run Tryz.prog w = .ok 1 w := by kernel_rfl
   rw [hs]
   simp [Result.andThen, sliced]
theorem grps_mem (l : List Nat) (h : l ≠ []) (hb : ∀ x ∈ l, x < 18446744073709551616) : ∀ x ∈ (grps l).1, x < 18446744073709551616 := by
 obtain ⟨G, g1, g2, g3, g4, g5⟩ := grps_is l.length l (Nat.le_refl _) h
 intro x hx
 rw [g5] at hx
 rcases List.mem_append.1 hx with h | h
 · exact hb x (List.mem_of_mem_take h)
 · rw [List.eq_of_mem_replicate h]; decide
def LevJ (w wr : World) (wd nR nO : Nat) (aoO : Option Addr) (capO : Nat) (rest : List Nat) (a' : Act) (x : World) : Prop := ∃ (gp rs : List Nat) (nG nS : Nat) (aoG aoS : Option Addr) (capG capS : Nat) (u6 u14 u15 u16 u17 u18 u19 u20 u21 u22 u23 u24 u25 u26 u27 u28 u29 u30 u31 u32 u33 u34 u35 u36 u37 u38 u39 u40 u41 u42 u43 u44 u45 u46 u47 u48 u49 u50 u51 u52 u53 u54 u55 u56 u57 u58 u59 u60 u61 u62 u63 u64 : Value), a' = { tmps := #[.slice aoS nS capS, .int .i64 (wd : Nat), undef, undef, .slice none 0 0, .slice aoO nO capO, u6, .slice aoG nG capG, .int .i64 (wd : Nat), .bool false, .bool false, .int .i64 (wd : Nat), .bool false, .bool false, u14, u15, u16, u17, u18, u19, u20, u21, u22, u23, u24, u25, u26, u27, u28, u29, u30, u31, u32, u33, u34, u35, u36, u37, u38, u39, u40, u41, u42, u43, u44, u45, u46, u47, u48, u49, u50, u51, u52, u53, u54, u55, u56, u57, u58, u59, u60, u61, u62, u63, u64, undef, undef], defers := [] } ∧
        Hid (rs.length = nS) ∧ 0 < nS ∧ nS < nR ∧ nS ≤ capS ∧ CellsAt w w.heap.size aoS nS (nic rs) ∧ Hid (∀ y ∈ rs, y < 18446744073709551616) ∧ nG ≤ 8 * (nR - nS) ∧ x.ownsRow wr.heap.size 61 1 (.slice aoG nG capG) nG (u64v gp) ∧
        Hid (grps rest = (gp ++ (grps rs).1, (grps rs).2)) ∧ Below wr.heap.size wr x
set_option maxRecDepth 100000 in
theorem LevJ.open_ {w wr : World} {wd nR nO : Nat} {aoO : Option Addr} {capO : Nat} {rest : List Nat} {a' : Act} {x : World} (h : LevJ w wr wd nR nO aoO capO rest a' x) :
 ∃ (gp rs : List Nat) (nG nS : Nat) (aoG aoS : Option Addr) (capG capS : Nat) (us : Nat → Value), a' = { tmps := #[.slice aoS nS capS, .int .i64 (wd : Nat), undef, undef, .slice none 0 0, .slice aoO nO capO, us 6, .slice aoG nG capG, .int .i64 (wd : Nat), .bool false, .bool false, .int .i64 (wd : Nat), .bool false, .bool false, us 14, us 15, us 16, us 17, us 18, us 19, us 20, us 21, us 22, us 23, us 24, us 25, us 26, us 27, us 28, us 29, us 30, us 31, us 32, us 33, us 34, us 35, us 36, us 37, us 38, us 39, us 40, us 41, us 42, us 43, us 44, us 45, us 46, us 47, us 48, us 49, us 50, us 51, us 52, us 53, us 54, us 55, us 56, us 57, us 58, us 59, us 60, us 61, us 62, us 63, us 64, undef, undef], defers := [] } ∧ Hid (rs.length = nS) ∧ 0 < nS ∧ nS < nR ∧ nS ≤ capS ∧ CellsAt w w.heap.size aoS nS (nic rs) ∧ Hid (∀ y ∈ rs, y < 18446744073709551616) ∧ nG ≤ 8 * (nR - nS) ∧ x.ownsRow wr.heap.size 61 1 (.slice aoG nG capG) nG (u64v gp) ∧
  Hid (grps rest = (gp ++ (grps rs).1, (grps rs).2)) ∧ Below wr.heap.size wr x := by
 obtain ⟨gp, rs, nG, nS, aoG, aoS, capG, capS, u6, u14, u15, u16, u17, u18, u19, u20, u21, u22, u23, u24, u25, u26, u27, u28, u29, u30, u31, u32, u33, u34, u35, u36, u37, u38, u39, u40, u41, u42, u43, u44, u45, u46, u47, u48, u49, u50, u51, u52, u53, u54, u55, u56, u57, u58, u59, u60, u61, u62, u63, u64, ha, hr⟩ := h
 exact ⟨gp, rs, nG, nS, aoG, aoS, capG, capS, fun i => match i with | 6 => u6 | 14 => u14 | 15 => u15 | 16 => u16 | 17 => u17 | 18 => u18 | 19 => u19 | 20 => u20 | 21 => u21 | 22 => u22 | 23 => u23 | 24 => u24 | 25 => u25 | 26 => u26 | 27 => u27 | 28 => u28 | 29 => u29 | 30 => u30 | 31 => u31 | 32 => u32 | 33 => u33 | 34 => u34 | 35 => u35 | 36 => u36 | 37 => u37 | 38 => u38 | 39 => u39 | 40 => u40 | 41 => u41 | 42 => u42 | 43 => u43 | 44 => u44 | 45 => u45 | 46 => u46 | 47 => u47 | 48 => u48 | 49 => u49 | 50 => u50 | 51 => u51 | 52 => u52 | 53 => u53 | 54 => u54 | 55 => u55 | 56 => u56 | 57 => u57 | 58 => u58 | 59 => u59 | 60 => u60 | 61 => u61 | 62 => u62 | 63 => u63 | 64 => u64 | _ => undef, ha, hr⟩
end Go.Proofs.YtebmbkbnngeabaaGreat

set_option linter.unusedSimpArgs false
namespace Go.Proofs.YtebmbkbnngeabaaGreat
open Go.RowKit
set_option linter.unusedVariables false
theorem and32 (n : Nat) (h : n < 4294967296) : bits .and .u64 ((n : Nat) : Int) 4294967295 = ((n : Nat) : Int) := by
 have e := bits_and_u64_nat n 4294967295 (by omega) (by decide)
 rw [show ((4294967295 : Nat) : Int) = 4294967295 from rfl] at e
 rw [e]
 congr 1
 have := Nat.and_two_pow_sub_one_eq_mod n 32
 rw [show (2 : Nat) ^ 32 - 1 = 4294967295 from rfl] at this
 rw [this]
 exact Nat.mod_eq_of_lt (by omega)
set_option maxHeartbeats 1000000 in
theorem mul64_one (n : Nat) (w : World) (hn : n ≤ 4000) : Calls Tryz.prog 110 #[.int .u64 1, .int .u64 (n : Nat)] w fun e w' => e = .returned (.tuple #[.int .u64 0, .int .u64 (n : Nat)]) ∧ w = w' := by
 have a1 : bits .and .u64 1 4294967295 = 1 := by decide
 have a0 : bits .and .u64 0 4294967295 = 0 := by decide
 have an := and32 n (by omega)
 have d1 : (1 : Int) / 2 ^ 32 = 0 := by decide
 have dn : ((n : Nat) : Int) / 2 ^ 32 = 0 := by omega
 have dn' : ((n : Nat) : Int) / 4294967296 = 0 := by omega
 go_enter Tryz.func110, Tryz.ntmps110
 go_wp2
 go_ret2
 exact ⟨by simp, rfl⟩
set_option maxHeartbeats 1000000 in
theorem mul_one (n : Nat) (w : World) (hn : n ≤ 4000) : Calls Tryz.prog 105 #[.int .u64 1, .int .u64 (n : Nat)] w fun e w' => e = .returned (.tuple #[.int .u64 0, .int .u64 (n : Nat)]) ∧ w = w' := by
 go_enter Tryz.func105, Tryz.ntmps105
 go_wp2_with fail
 refine (mul64_one n _ hn).mono ?_
 rintro e x ⟨rfl, rfl⟩
 go_wp2
 go_ret2
 exact ⟨rfl, rfl⟩
def repTo (x : Int) (n k : Nat) : List Value := List.replicate k (.int .i64 x) ++ List.replicate (n - k) (.int .i64 0)
theorem repTo_length (x : Int) (n k : Nat) (h : k ≤ n) : (repTo x n k).length = n := by simp [repTo]; omega
theorem repTo_splice (x : Int) (n k m : Nat) (h : k + m ≤ n) : splice (repTo x n k) k (List.replicate m (.int .i64 x)) = repTo x n (k + m) := by
 unfold splice repTo
 rw [List.take_left' (by simp), List.length_replicate, List.drop_append, List.drop_of_length_le (by simp), List.nil_append, List.length_replicate, List.drop_replicate]
 rw [← List.append_assoc, List.replicate_append_replicate]
 congr 2
 omega
theorem Tryz.sizeI : (Tryz.prog.info? 3).map (·.size) = some 1 := by kernel_rfl
theorem madeI (n : Nat) : (madeCells #[Value.int .i64 0] n).toList = List.replicate n (.int .i64 0) := by
 refine List.ext_getElem (by simp [madeCells]) fun i h1 h2 => ?_
 simp [madeCells, Nat.mod_one]
set_option maxHeartbeats 4000000 in
set_option maxRecDepth 100000 in
theorem repeat_one (g off c n : Nat) (x : Int) (w : World) (hn : 1 ≤ n) (hn2 : n ≤ 4000) (hc : w.cell? ⟨g, off, none⟩ = some (.int .i64 x)) :
 Calls Tryz.prog 96 #[.slice (some ⟨g, off, none⟩) 1 c, .int .i64 (n : Nat)] w fun e w' => ∃ v, e = .returned v ∧ w'.ownsRow w.heap.size 3 1 v n (List.replicate n (.int .i64 x)) ∧ Below w.heap.size w w' := by
 obtain ⟨i0, hi, hz0, hz1, hz2⟩ := info_parts Tryz.infoI
 have hg : g < w.heap.size := World.block_lt_of_cell? w _ hc
 have e0 : ¬ ((n : Nat) : Int) < 0 := by omega
 go_enter Tryz.func96, Tryz.ntmps96
 go_wp2_with fail
 refine (mul_one n _ hn2).mono ?_
 rintro e x1 ⟨rfl, rfl⟩
 go_wp2_with (at_make; refine wpList_make_full _ rfl _ _ 22 rfl w.heap.size 3 i0 (.int .i64 0) 1 Tryz.underlying22 hi hz0 hz1 _ _ _ _ n rfl rfl rfl rfl ?b2 ?b3 (Nat.le_refl _) ?_)
 case b2 => rw [hz2]; omega
 case b3 => unfold maxLen; omega
 intro w0 hown0 hgrow0
 have hb0 : Below w.heap.size w w0 := (Below.refl _ _).grown hgrow0 (Nat.le_refl _) (fun k h => by cases h)
 have hg0 : w0.heap[w.heap.size]? = some (.cells (List.replicate n (Value.int .i64 0)).toArray 3 (0, 0)) := by
  rcases hown0.2 with ⟨h1, -⟩ | ⟨g1, c1, cur, h1, -, h2, -, -, h3, h4⟩
  · simp at h1
  · simp only [Value.slice.injEq, Option.some.injEq, Addr.mk.injEq] at h1
    obtain ⟨⟨rfl, -⟩, -, rfl⟩ := h1
    rw [h2, Nat.mul_one] at *
    have hc : cur.toList = List.replicate n (Value.int .i64 0) := by
     have : cur.toList.take n = cur.toList := List.take_of_length_le (by rw [Array.length_toList, h3]; exact Nat.le_refl _)
     rw [← this, h4, madeI]
    rw [← hc]
 have hc0 := (hb0.cell (by exact hg)).trans hc
 have hgw : w.heap.size ≤ w.heap.size := Nat.le_refl _
 have hn1 : ([Value.int .i64 x]).length = Nat.min 1 n := by show 1 = min 1 n; omega
 clear hown0 hgrow0
 go_wp2_with (with_reducible refine wpList_copy_splice rfl (.tmp 31) (.tmp 32) 22 22 rfl 3 Tryz.underlying22 Tryz.sizeI (some ⟨w.heap.size, 0, none⟩) (some ⟨g, off, none⟩) n n 1 c rfl rfl w.heap.size 0 (List.replicate n (Value.int .i64 0)) 3 hg0 [Value.int .i64 x] hn1 ?_ ?_ ?_ w.heap.size w hb0 hgw ?_)
 · intro j v hj
   match j, hj with
   | 0, hj => simp at hj; subst hj; simpa using hc0
 · simp; omega
 · intro v hv; simp at hv; subst hv; rfl
 intro w1 hg1 hb1
 have hs0 : splice (List.replicate n (Value.int .i64 0)) 0 [Value.int .i64 x] = repTo x n 1 := by
  have h := repTo_splice x n 0 1 (by omega)
  simpa [repTo] using h
 rw [hs0] at hg1
 clear hs0 hg0 hb0 hc0 hn1
 go_wp2
 go_loopw [8] (fun i wr => ∃ k : Nat, 1 ≤ k ∧ k ≤ n ∧ i = .int .i64 k ∧ Hid (wr.heap[w.heap.size]? = some (.cells (repTo x n k).toArray 3 (0, 0))) ∧ Below w.heap.size w wr) (fun i _ => n - (intOf i).toNat)
 case atStart => exact ⟨1, Nat.le_refl _, hn, rfl, hg1, hb1⟩
 case round =>
  clear hg1 hb1
  obtain ⟨k, hk1, hkn, rfl, hg1, hwr⟩ := hrel
  by_cases hlt : k < n
  · obtain ⟨m, hm⟩ : ∃ m, m = min k (n - k) := ⟨_, rfl⟩
    have hm1 : m ≤ k ∧ k + m ≤ n ∧ 0 < m := by omega
    obtain ⟨ao', hao, hs⟩ := slI_from (some ⟨w.heap.size, 0, none⟩) n n k (by omega) (Nat.le_refl _)
    have hao' : ao' = some ⟨w.heap.size, k, none⟩ := by
     rcases hao with h | h
     · omega
     · rw [h]; simp [Addr.add_lit]
    subst hao'
    have hcm : (List.replicate m (Value.int .i64 x)).length = Nat.min k (n - k) := by rw [List.length_replicate]; exact hm
    have e1 : (k : Int) < (n : Int) := by omega
    have e2 : (0 : Int) ≤ (k : Int) := by omega
    have e3 : (k : Int) ≤ (n : Int) := by omega
    have e4 : ¬ n = k := by omega
    have hsp := Lib.hid (repTo_splice x n k m hm1.2.1)
    have hwk : IntKind.i64.wrap ((k : Int) + (m : Int)) = (k : Int) + (m : Int) := IntWalk.i64_in _ (by omega)
    have Hg1 := Lib.hid (show wr.drew.heap[w.heap.size]? = _ from hg1.out)
    have hcells : Hid (∀ (j : Nat) (v : Value), (List.replicate m (Value.int .i64 x))[j]? = some v → wr.drew.cell? ((⟨w.heap.size, 0, none⟩ : Addr).add j) = some v) := Lib.hid (by
     intro j v hj
     have hjm : j < m := by have := (List.getElem?_eq_some_iff.1 hj).1; simpa using this
     rw [Addr.add_lit, Nat.zero_add, cell_of_row wr.drew w.heap.size j _ _ _ Hg1.out]
     rw [List.getElem?_replicate, if_pos hjm] at hj
     cases hj
     rw [List.getElem?_toArray, repTo, List.getElem?_append_left (by simp; omega), List.getElem?_replicate, if_pos (by omega)])
    clear hm hao
    go_wp2
    refine wp_region_linP [(0, 3), (1, 3), (2, 3), (3, 0), (4, 3), (5, 3), (6, 0), (7, 2), (8, 3), (9, 3)] [7] (by kernel_rfl) (by kernel_rfl) (fun d _ _ _ _ h => by cases d <;> exact h) ?_
    repeat (first
     | (refine wpLinP_skip rfl rfl (fun K hK => ?_); go_simp; refine hK _ ?_; clear hK K)
     | (refine wpLinP_pure (v := ?_) rfl rfl (fun w' => ?_) (fun K hK => ?_); rotate_left; (go_simp; rfl); (go_simp; refine hK _ ?_; clear hK K))
     | (refine wpLinP_take (v := ?_) rfl rfl (fun w' hw' => ?_) (fun K hK => ?_); rotate_left; (go_simp; rfl); (go_simp; refine hK _ ?_; clear hK K)))
    refine wpLinP_hard rfl (fun K hK => ?_)
    refine step_copy_splice rfl (.tmp 41) (.tmp 44) 22 22 rfl 3 Tryz.underlying22 Tryz.sizeI (some ⟨w.heap.size, k, none⟩) (some ⟨w.heap.size, 0, none⟩) (n - k) (n - k) k n rfl rfl w.heap.size k (repTo x n k) 3 Hg1.out (List.replicate m (Value.int .i64 x)) hcm (fun _ => ⟨rfl, _, rfl, hcells.out⟩) (by rw [List.length_replicate, repTo_length _ _ _ hkn]; omega) (fun v hv => by rw [List.eq_of_mem_replicate hv]; rfl) w.heap.size w hwr.drew hgw ?_
    intro w2 hg2 hb2
    rw [hsp.out] at hg2
    rw [List.length_replicate]
    go_simp; refine hK _ _ ?_; clear hK K
    repeat (first
     | (refine wpLinP_skip rfl rfl (fun K hK => ?_); go_simp; refine hK _ ?_; clear hK K)
     | (refine wpLinP_pure (v := ?_) rfl rfl (fun w' => ?_) (fun K hK => ?_); rotate_left; (go_simp; rfl); (go_simp; refine hK _ ?_; clear hK K))
     | (refine wpLinP_take (v := ?_) rfl rfl (fun w' hw' => ?_) (fun K hK => ?_); rotate_left; (go_simp; rfl); (go_simp; refine hK _ ?_; clear hK K)))
    refine wpLinP_nil ?_
    go_wp2
    go_roundw
    case rel => exact ⟨k + m, by omega, by omega, by go_num, hg2, hb2⟩
    case measure => simp [intOf]; omega
  · obtain rfl : k = n := by omega
    have hfin : Hid (wr.ownsRow w.heap.size 3 1 (.slice (some ⟨w.heap.size, 0, none⟩) k k) k (List.replicate k (.int .i64 x))) := Lib.hid (by
     have e : repTo x k k = List.replicate k (.int .i64 x) := by simp [repTo]
     have h := hg1.out
     rw [e] at h
     exact ⟨by simp, .inr ⟨w.heap.size, k, _, rfl, hgw, h, Nat.le_refl _, by unfold maxLen; omega, by simp, by simp⟩⟩)
    clear hg1
    go_wp2
    go_ret
    exact ⟨_, rfl, hfin.out, hwr⟩
end Go.Proofs.YtebmbkbnngeabaaGreat

set_option linter.unusedSimpArgs false
namespace Go.Proofs.YtebmbkbnngeabaaGreat
open Go.RowKit
set_option linter.unusedVariables false
def natv (l : List Nat) : List Value := l.map fun x => Value.int .i64 (x : Nat)
theorem natv_length (l : List Nat) : (natv l).length = l.length := by simp [natv]
theorem natv_append (l m : List Nat) : natv (l ++ m) = natv l ++ natv m := by simp [natv]
theorem natv_rep (n x : Nat) : natv (List.replicate n x) = List.replicate n (Value.int .i64 (x : Nat)) := by simp [natv]
theorem natv_at (l : List Nat) (i : Nat) (h : i < l.length) : (natv l)[i]? = some (nic l i) := by simp [natv, nic, h]
theorem own_nat {w : World} {base : Nat} {e : TypeId} {v : Value} {n : Nat} {l : List Nat} (h : w.ownsRow base e 1 v n (natv l)) :
 ∃ ao cap, v = .slice ao n cap ∧ l.length = n ∧ n ≤ cap ∧ CellsAt w w.heap.size ao n (nic l) ∧ (ao = none → n = 0 ∧ cap = 0) := by
 have hl : l.length = n := by have := h.1; simpa [natv_length] using this
 obtain ⟨ao, cap, rfl, hc, -⟩ := own_cells h
 have h' := h
 refine ⟨ao, cap, rfl, hl, ?_, hc.congr fun i hi => ?_, fun e => ?_⟩
 · rcases h.2 with ⟨h1, h2⟩ | ⟨g, c2, cur, h1, -, -, h4, -⟩
   · omega
   · simp only [Value.slice.injEq] at h1; omega
 · rw [List.getD_eq_getElem?_getD, natv_at l i (by omega)]; rfl
 · rcases h'.2 with ⟨h1, h2⟩ | ⟨g, c2, cur, h1, _⟩
   · simp only [Value.slice.injEq] at h1; exact ⟨h2, h1.2.2⟩
   · subst e; simp at h1
theorem four_cells {w : World} {g T : Nat} {a b c d : Value} (h : w.heap[g]? = some (.cells #[a, b, c, d] T)) :
 w.cell? ⟨g, 0, none⟩ = some a ∧ w.cell? ⟨g, 1, none⟩ = some b ∧ w.cell? ⟨g, 2, none⟩ = some c ∧ w.cell? ⟨g, 3, none⟩ = some d ∧ w.frozen? ⟨g, 0, none⟩ = false ∧ w.frozen? ⟨g, 3, none⟩ = false := by
 refine ⟨?_, ?_, ?_, ?_, ?_, ?_⟩ <;> simp [World.cell?, World.frozen?, h]
theorem four_set0 {w : World} {g T : Nat} {a b c d : Value} (h : w.heap[g]? = some (.cells #[a, b, c, d] T)) (v : Value) : (w.setCell ⟨g, 0, none⟩ v).heap[g]? = some (.cells #[v, b, c, d] T) := by
 simp only [World.setCell, Array.getElem?_modify, h]; simp
theorem four_set3 {w : World} {g T : Nat} {a b c d : Value} (h : w.heap[g]? = some (.cells #[a, b, c, d] T)) (v : Value) : (w.setCell ⟨g, 3, none⟩ v).heap[g]? = some (.cells #[a, b, c, v] T) := by
 simp only [World.setCell, Array.getElem?_modify, h]; simp
def LRd (w : World) (g : Nat) (b : List Nat) (n wd : Nat) (l : List Nat) : Prop :=
 ∃ ao cap v, w.heap[g]? = some (.cells #[.slice ao b.length cap, .int .i64 (n : Nat), .int .i64 (wd : Nat), v] 106) ∧ CellsAt w g ao b.length (u8c b) ∧ (ao = none → b.length = 0) ∧ b.length ≤ cap ∧ w.ownsRow (g + 1) 3 1 v l.length (natv l)
theorem LRd.lt {w : World} {g n wd : Nat} {b l : List Nat} (h : LRd w g b n wd l) : g < w.heap.size := by
 obtain ⟨ao, cap, v, h, -⟩ := h
 exact (Array.getElem?_eq_some_iff.1 h).1
theorem LRd.below {w w' : World} {g n wd : Nat} {b l : List Nat} (h : LRd w g b n wd l) (hb : Below w.heap.size w w') : LRd w' g b n wd l := by
 have hlt := h.lt
 obtain ⟨ao, cap, v, h1, h2, h3, h4, h5⟩ := h
 exact ⟨ao, cap, v, (hb.block g hlt).trans h1, h2.below (hb.mono (Nat.le_of_lt hlt)), h3, h4, own_below h5 hb⟩
def RowPost (w : World) (g n wd : Nat) (r : List Nat × List Nat × Nat) (e : Ending) (w' : World) : Prop := e = .returned (.int .i64 (r.2.2 : Nat)) ∧ Below g w w' ∧ (r.2.2 = 0 → LRd w' g r.1 n wd r.2.1)
set_option maxHeartbeats 1000000 in
theorem lleft_any (g n wd : Nat) (b l : List Nat) (w : World) (h : LRd w g b n wd l) (hn : n ≤ 4000) (hl : l.length ≤ n) :
 Calls Tryz.prog 52 #[.pointer (some ⟨g, 0, none⟩)] w fun e w' => e = .returned (.int .i64 ((n - l.length : Nat) : Int)) ∧ ∃ m, w' = w.drewN m := by
 obtain ⟨ao, cap, v, hg, -, -, -, ho⟩ := h
 obtain ⟨al, capl, rfl, -, -, -, -⟩ := own_nat ho
 obtain ⟨c0, c1, c2, c3, -, -⟩ := four_cells hg
 obtain ⟨L, hL⟩ : ∃ L, L = l.length := ⟨_, rfl⟩
 rw [← hL] at c3 hl ⊢
 have e1 : Hid ((n : Int) - (L : Int) = ((n - L : Nat) : Int)) := Lib.hid (by omega)
 clear hg ho hL
 go_enter Tryz.func52, Tryz.ntmps52
 go_wp2
 go_quiet (fail)
 go_wp2
 go_ret
 exact ⟨by rw [← e1.out]; rfl, _, rfl⟩
theorem rdGet_all (l : List Nat) (n : Nat) (h : l.length = n) (h8 : n ≤ 8) : rdGet l 0 (n : Int) = (numB l, [], 0) := by
 subst h
 unfold rdGet
 rw [if_neg (by omega)]
 unfold rdTake
 rw [Int.toNat_natCast, if_neg (by omega)]
 simp
theorem take_cells {w : World} {B : Nat} {ao : Option Addr} {n m : Nat} {l : List Nat} (h : CellsAt w B ao n (u8c l)) (hm : m ≤ n) : CellsAt w B ao m (u8c (l.take m)) :=
 (h.take hm).congr fun i hi => (u8c_take _ _ _ hi).symm
theorem from_cells {w : World} {B : Nat} {a ao' : Option Addr} {len p : Nat} {l : List Nat} (hl : l.length = len) (h : CellsAt w B a len (u8c l)) (hp : p ≤ len) (hao : len - p = 0 ∨ ao' = a.map (·.add p)) : CellsAt w B ao' (len - p) (u8c (l.drop p)) := by
 rcases hao with h0 | rfl
 · rw [h0]; exact CellsAt.zero
 · have := drop_cells (p := p) (m := len - p) h (by omega)
   rw [List.take_of_length_le (by rw [List.length_drop]; omega)] at this
   exact this
set_option maxHeartbeats 8000000 in
set_option maxRecDepth 100000 in
theorem lrdrun_any (g n wd k : Nat) (b l : List Nat) (w : World) (h : LRd w g b n wd l) (hn : n ≤ 4000) (hl : l.length < n) (h1 : 1 ≤ wd) (h16 : wd ≤ 16) (h256 : ∀ x ∈ b, x < 256) (hb : b.length ≤ 1000000000) (hk : k < 18446744073709551616) :
 Calls Tryz.prog 77 #[.pointer (some ⟨g, 0, none⟩), .int .u64 (k : Nat)] w (RowPost w g n wd (decRun wd n b l k)) := by
 have hglt := h.lt
 have HR := Lib.hid h
 obtain ⟨ao, cap, v, hg, hc, hz, hcap, ho⟩ := h
 obtain ⟨c0, c1, c2, c3, f0, f3⟩ := four_cells hg
 have Hg := Lib.hid hg; have Ho := Lib.hid ho; have Hc := Lib.hid hc; have H256 := Lib.hid h256
 clear hg ho hc h256
 have hbw : (wd + 7) / 8 ≤ 2 ∧ 1 ≤ (wd + 7) / 8 := by omega
 have HB := fun w' => lbytes_any wd w' h16
 by_cases hk0 : k = 0
 · subst hk0
   rw [show decRun wd n b l 0 = (b, l, 10) by unfold decRun; rw [if_pos (.inl rfl)]]
   go_enter Tryz.func77, Tryz.ntmps77
   go_wp2_with fail
   refine (HB _).mono ?_
   rintro e x1 ⟨rfl, rfl⟩
   go_wp2
   go_ret
   exact ⟨rfl, Below.refl _ _, fun e => by simp at e⟩
 have bk : ((k : Int) == 0) = false := by rw [beq_eq_false_iff_ne]; omega
 by_cases hkl : n - l.length < k
 · rw [show decRun wd n b l k = (b, l, 10) by unfold decRun; rw [if_pos (.inr hkl)]]
   obtain ⟨m, hm⟩ : ∃ m, m = n - l.length := ⟨_, rfl⟩
   have hL := fun w' h => lleft_any g n wd b l w' h hn (Nat.le_of_lt hl)
   rw [← hm] at hL hkl
   have HL := Lib.hid hL
   have hm2 : m ≤ 4000 := by omega
   have ew : IntKind.u64.wrap ((m : Nat) : Int) = ((m : Nat) : Int) := IntWalk.u64_in _ (by omega)
   have dk : decide ((m : Int) < (k : Int)) = true := decide_eq_true (by omega)
   clear hL hm hk0 hl
   go_enter Tryz.func77, Tryz.ntmps77
   go_wp2_with fail
   refine (HB _).mono ?_
   rintro e x1 ⟨rfl, rfl⟩
   go_wp2_with fail
   refine (HL.out _ HR.out).mono ?_
   rintro e x2 ⟨rfl, mm, rfl⟩
   have Hx := Lib.hid (below_drewN (Below.refl g w) mm)
   go_wp2
   go_ret
   exact ⟨rfl, Hx.out, fun e => by simp at e⟩
 obtain ⟨m, hm⟩ : ∃ m, m = n - l.length := ⟨_, rfl⟩
 have hL := fun w' h => lleft_any g n wd b l w' h hn (Nat.le_of_lt hl)
 rw [← hm] at hL hkl
 have HL := Lib.hid hL
 have hm2 : m ≤ 4000 := by omega
 have hkm : k ≤ m := by omega
 have ew : IntKind.u64.wrap ((m : Nat) : Int) = ((m : Nat) : Int) := IntWalk.u64_in _ (by omega)
 have dk : decide ((m : Int) < (k : Int)) = false := decide_eq_false (by omega)
 have hdec : decRun wd n b l k = if b.length < (wd + 7) / 8 then (b, l, 8) else if numB (b.take ((wd + 7) / 8)) / 2 ^ wd ≠ 0 then (b, l, 10) else (b.drop ((wd + 7) / 8), l ++ List.replicate k (numB (b.take ((wd + 7) / 8))), 0) := by
  unfold decRun; rw [if_neg (by omega)]
 rw [hdec]
 obtain ⟨bw, hbwe⟩ : ∃ bw, bw = (wd + 7) / 8 := ⟨_, rfl⟩
 rw [← hbwe] at hbw HB ⊢
 obtain ⟨LB, hLB⟩ : ∃ LB, LB = b.length := ⟨_, rfl⟩
 rw [← hLB] at c0 hcap hb hz ⊢
 have HLB := Lib.hid hLB
 have HB := Lib.hid HB
 have hkn : k ≤ 4000 := by omega
 have hll : l.length + k ≤ n := by omega
 have Hll := Lib.hid hll
 clear hL hm hdec hbwe hLB hl hll
 by_cases hcut : LB < bw
 · rw [if_pos hcut]
   have dc : ((LB : Int) < (bw : Int)) := by omega
   go_enter Tryz.func77, Tryz.ntmps77
   go_wp2_with fail
   refine (HB.out _).mono ?_
   rintro e x1 ⟨rfl, rfl⟩
   go_wp2_with fail
   refine (HL.out _ HR.out).mono ?_
   rintro e x2 ⟨rfl, mm, rfl⟩
   have Hx := Lib.hid (below_drewN (Below.refl g w) mm)
   go_wp2
   go_ret
   exact ⟨rfl, Hx.out, fun e => by simp at e⟩
 rw [if_neg hcut]
 have dc : ¬ ((LB : Int) < (bw : Int)) := by omega
 have hbc : (bw : Int) ≤ (cap : Int) := by omega
 have hbl : bw ≤ LB := by omega
 obtain ⟨V, hV⟩ : ∃ V, V = numB (b.take bw) := ⟨_, rfl⟩
 rw [← hV]
 have htl : (b.take bw).length = bw := by rw [List.length_take, ← HLB.out]; omega
 have hVlt : V < 18446744073709551616 := by
  have h := numB_lt (b.take bw) (fun x hx => H256.out x (List.mem_of_mem_take hx))
  rw [htl, ← hV] at h
  have h2 : 256 ^ bw ≤ 256 ^ 2 := Nat.pow_le_pow_right (by decide) hbw.1
  omega
 have hcT : CellsAt w g ao bw (u8c (b.take bw)) := take_cells Hc.out (by rw [← HLB.out]; exact hbl)
 have hN := fun (w' : World) hw' => new_any ao bw cap (b.take bw) w' htl (((hcT.mono (Nat.le_of_lt hglt)).below (hw' : Below w.heap.size w w')).mono hw'.size) (fun e => by have := hz e; omega) (by omega)
 have HN := Lib.hid hN
 have hG := fun (g2 lo : Nat) (w' : World) h => get_any g2 (lo := lo) (b.take bw) 0 (bw : Int) w' h (by rw [htl]; omega) (fun x hx => H256.out x (List.mem_of_mem_take hx))
 rw [rdGet_all (b.take bw) bw htl (by omega), ← hV] at hG
 have HG := Lib.hid hG
 have hq0 : ((V : Int) / 2 ^ wd) = ((V / 2 ^ wd : Nat) : Int) := by rw [Int.natCast_ediv, Int.natCast_pow]; rfl
 have HV := Lib.hid hV
 have Htl := Lib.hid htl
 clear hN hG hV hcT htl
 by_cases hq : V / 2 ^ wd ≠ 0
 · rw [if_pos hq]
   have bq : ((V : Int) / 2 ^ wd != 0) = true := by rw [hq0, bne_iff_ne]; omega
   clear hq hq0
   go_enter Tryz.func77, Tryz.ntmps77
   go_wp2_with fail
   refine (HB.out _).mono ?_
   rintro e x1 ⟨rfl, rfl⟩
   go_wp2_with fail
   refine (HL.out _ HR.out).mono ?_
   rintro e x2 ⟨rfl, mm, rfl⟩
   go_wp2_with fail
   refine (HN.out _ (below_drewN (Below.refl _ _) mm)).mono ?_
   rintro e x1 ⟨g2, rfl, hg2, hr2, hx1⟩
   have hx1 : Below w.heap.size w x1 := (below_drewN (Below.refl _ _) mm).trans hx1
   have hg2 : w.heap.size ≤ g2 := hg2
   go_wp2_with fail
   refine (HG.out g2 _ _ hr2).mono ?_
   rintro e x2 ⟨rfl, -, hb2⟩
   have hx2 := hb2.below hx1 hg2 hx1.size
   have c2x := (hx2.cell (p := ⟨g, 2, none⟩) (by exact hglt)).trans c2
   have Hx := Lib.hid (hx2.mono (Nat.le_of_lt hglt))
   clear hr2 hb2 hx1 hx2
   go_wp2
   go_ret
   exact ⟨rfl, Hx.out, fun e => by simp at e⟩
 rw [if_neg hq]
 have hVw : V < 2 ^ wd := by
  have hq' : V / 2 ^ wd = 0 := by omega
  exact (Nat.div_eq_zero_iff.1 hq').resolve_left (by have := Nat.two_pow_pos wd; omega)
 have hV16 : V < 65536 := Nat.lt_of_lt_of_le hVw (Nat.pow_le_pow_right (by decide) h16)
 have bq : ((V : Int) / 2 ^ wd != 0) = false := by rw [hq0, bne_eq_false_iff_eq]; omega
 obtain ⟨ao', hao, hs⟩ := slice_from ao LB cap bw hbl hcap
 have hcD : CellsAt w g ao' (LB - bw) (u8c (b.drop bw)) := from_cells HLB.out.symm (by rw [HLB.out]; exact Hc.out) hbl hao
 have HcD := Lib.hid hcD
 clear hq hq0 hVw hcD hao
 go_enter Tryz.func77, Tryz.ntmps77
 go_wp2_with fail
 refine (HB.out _).mono ?_
 rintro e x1 ⟨rfl, rfl⟩
 go_wp2_with fail
 refine (HL.out _ HR.out).mono ?_
 rintro e x2 ⟨rfl, mm, rfl⟩
 go_wp2_with fail
 refine (HN.out _ (below_drewN (Below.refl _ _) mm)).mono ?_
 rintro e x1 ⟨g2, rfl, hg2, hr2, hx1⟩
 have hx1 : Below w.heap.size w x1 := (below_drewN (Below.refl _ _) mm).trans hx1
 have hg2 : w.heap.size ≤ g2 := hg2
 go_wp2_with fail
 refine (HG.out g2 _ _ hr2).mono ?_
 rintro e x2 ⟨rfl, -, hb2⟩
 have hx2 := hb2.below hx1 hg2 hx1.size
 have c2x := (hx2.cell (p := ⟨g, 2, none⟩) (by exact hglt)).trans c2
 have hgx : x2.heap[g]? = some (.cells #[.slice ao LB cap, .int .i64 (n : Nat), .int .i64 (wd : Nat), v] 106) := (hx2.block g hglt).trans (by rw [HLB.out]; exact Hg.out)
 obtain ⟨d0, d1, d2, d3, d4, d5⟩ := four_cells hgx
 have hownx := own_below Ho.out hx2
 have Hx := Lib.hid (hx2.mono (Nat.le_of_lt hglt))
 have Hgx := Lib.hid hgx; have Hownx := Lib.hid hownx
 have hx2s : g + 1 ≤ x2.heap.size := Nat.lt_of_lt_of_le hglt hx2.size
 clear hr2 hb2 hx1 hx2 hgx hownx
 go_wp2
 have hgW := four_set0 Hgx.out (.slice ao' (LB - bw) (cap - bw))
 have hbutW : But g x2 (x2.setCell ⟨g, 0, none⟩ (.slice ao' (LB - bw) (cap - bw))) := (But.refl g x2).setCell 0 _
 have hbW : Below g w (x2.setCell ⟨g, 0, none⟩ (.slice ao' (LB - bw) (cap - bw))) := Hx.out.setCell (by exact Nat.le_refl _) _
 obtain ⟨W, hW⟩ : ∃ W, W = x2.setCell ⟨g, 0, none⟩ (.slice ao' (LB - bw) (cap - bw)) := ⟨_, rfl⟩
 rw [← hW] at hgW hbutW hbW ⊢
 have hownW := own_butB Hownx.out hbutW (Nat.lt_succ_self g)
 obtain ⟨-, -, -, q3, -, -⟩ := four_cells hgW
 have hWs : g + 1 ≤ W.heap.size := Nat.le_trans hx2s hbutW.size
 have f3 : ∀ w', Grows W.drew w' → w'.cell? ⟨g, 3, none⟩ = some v := fun w' hg => (Grows.toDrew hg).cell q3
 have ek : IntKind.i64.wrap (k : Int) = (k : Int) := IntWalk.i64_in _ (by omega)
 have eV : IntKind.i64.wrap (V : Int) = (V : Int) := IntWalk.i64_in _ (by omega)
 have HgW := Lib.hid hgW; have HownW := Lib.hid hownW; have HbW := Lib.hid hbW
 clear hW hbutW hgW hownW hbW q3 d0 d1 d2 d3 d4 d5 c0 c1 c2 c3 f0 c2x
 refine wp_region_linP [(0, 3), (1, 3), (2, 3), (3, 3), (4, 0), (5, 3), (6, 3), (8, 3), (9, 3), (7, 1), (10, 1), (11, 2), (12, 3), (13, 3), (14, 2)] [11, 14] (by kernel_rfl) (by kernel_rfl) (fun d _ _ _ _ h => by cases d <;> exact h) ?_
 repeat (first
  | (refine wpLinP_skip rfl rfl (fun K hK => ?_); go_simp; refine hK _ ?_; clear hK K)
  | (refine wpLinP_pure (v := ?_) rfl rfl (fun w' => ?_) (fun K hK => ?_); rotate_left; (go_simp; rfl); (go_simp; refine hK _ ?_; clear hK K))
  | (refine wpLinP_take (v := ?_) rfl rfl (fun w' hw' => ?_) (fun K hK => ?_); rotate_left; (go_simp; rfl); (go_simp; refine hK _ ?_; clear hK K)))
 refine wpLinP_do rfl (fun K hK => ?_); go_simp; refine hK _ _ ((Grows.refl W.drew).alloc _) ?_; clear hK K
 refine wpLinP_do rfl (fun K hK => ?_); go_simp
 refine (repeat_one W.heap.size 0 1 k (V : Int) _ (by omega) (by omega) (by simp [go_sem])).mono ?_
 rintro e y ⟨vR, rfl, hoR, hbR⟩
 refine hK _ _ hbR ?_; clear hK K f3
 obtain ⟨aoR, capR, rfl, hcR, -⟩ := own_cells hoR
 have hbWy : Below W.heap.size W y := (balloc (Below.refl _ _).drew _).trans (hbR.mono (by simp))
 have hownY := own_below HownW.out hbWy
 have hnR : aoR = none → k = 0 ∧ capR = 0 := fun e => by
  obtain ⟨_, _, e2, -⟩ := hcR 0 (by omega)
  rw [e] at e2; cases e2
 have hgY : y.heap[g]? = _ := (hbWy.block g (by omega)).trans HgW.out
 have hys : g + 1 ≤ y.heap.size := Nat.le_trans hWs hbWy.size
 have HgY := Lib.hid hgY
 have HbY := Lib.hid (HbW.out.trans (hbWy.mono (by omega)))
 have hl4 : l.length + k ≤ 4000 := by have := Hll.out; omega
 clear hbR hoR hbWy hgY
 refine wpLinP_hard rfl (fun K hK => ?_)
 refine step_append_all1 sl_i rfl (.tmp 59) (.tmp 65) rfl rfl hownY rfl hcR hnR (fun i hi => by rw [List.getD_eq_getElem?_getD, List.getElem?_replicate, if_pos hi]; rfl) (by unfold maxLen; omega) (by omega) hys ?_
 intro vZ y2 hoZ hgr
 obtain ⟨aoZ, capZ, rfl, -, -⟩ := own_cells hoZ
 have hbY2 : Below (g + 1) y y2 := (Below.refl _ _).grown hgr hys (fun j hj => (hownY.lt j hj).1)
 have hoZ : y2.ownsRow (g + 1) 3 1 (.slice aoZ (l.length + k) capZ) (l ++ List.replicate k V).length (natv (l ++ List.replicate k V)) := by
  have e : (List.range k).map (fun i => (List.replicate k (Value.int .i64 (V : Nat))).getD i undef) = List.replicate k (Value.int .i64 (V : Nat)) := by
   refine List.eq_replicate_iff.2 ⟨by simp, fun x hx => ?_⟩
   obtain ⟨i, hi, rfl⟩ := List.mem_map.1 hx
   rw [List.getD_eq_getElem?_getD, List.getElem?_replicate, if_pos (List.mem_range.1 hi)]; rfl
  have h := hoZ
  rw [e, ← natv_rep, ← natv_append] at h
  rw [List.length_append, List.length_replicate]
  exact h
 have hgZ : y2.heap[g]? = _ := (hbY2.block g (Nat.lt_succ_self g)).trans HgY.out
 obtain ⟨z0, z1, z2, z3, z4, z5⟩ := four_cells hgZ
 have HoZ := Lib.hid hoZ; have HgZ := Lib.hid hgZ; have HbZ := Lib.hid (HbY.out.trans (hbY2.mono (Nat.le_succ g)))
 clear hoZ hgr hbY2 hownY hcR hgZ z0 z1 z2 z4
 go_simp; refine hK _ _ ?_; clear hK K
 repeat (first
  | (refine wpLinP_skip rfl rfl (fun K hK => ?_); go_simp; refine hK _ ?_; clear hK K)
  | (refine wpLinP_pure (v := ?_) rfl rfl (fun w' => ?_) (fun K hK => ?_); rotate_left; (go_simp; rfl); (go_simp; refine hK _ ?_; clear hK K))
  | (refine wpLinP_take (v := ?_) rfl rfl (fun w' hw' => ?_) (fun K hK => ?_); rotate_left; (go_simp; rfl); (go_simp; refine hK _ ?_; clear hK K)))
 refine wpLinP_hard rfl (fun K hK => ?_); go_simp
 refine hK _ _ ?_; clear hK K
 refine wpLinP_nil ?_
 go_wp2
 go_ret
 have hfb : Below g w (y2.setCell ⟨g, 3, none⟩ (.slice aoZ (l.length + k) capZ)) := HbZ.out.setCell (by exact Nat.le_refl _) _
 have hdl : (b.drop bw).length = LB - bw := by rw [List.length_drop, ← HLB.out]
 refine ⟨rfl, hfb, fun _ => ⟨ao', cap - bw, .slice aoZ (l.length + k) capZ, ?_, ?_, ?_, ?_, ?_⟩⟩
 · rw [hdl]; exact four_set3 HgZ.out _
 · rw [hdl]; exact HcD.out.below hfb
 · rw [hdl]
   intro e
   rcases Nat.eq_zero_or_pos (LB - bw) with h0 | h0
   · exact h0
   · obtain ⟨_, _, e2, -⟩ := HcD.out 0 h0
     rw [e] at e2; cases e2
 · rw [hdl]; omega
 · exact own_butB HoZ.out ((But.refl g y2).setCell 3 _) (Nat.lt_succ_self g)
end Go.Proofs.YtebmbkbnngeabaaGreat

set_option linter.unusedSimpArgs false
namespace Go.Proofs.YtebmbkbnngeabaaGreat
open Go.RowKit
set_option linter.unusedVariables false
def GaveLev (w : World) (r : List Nat × Nat) (e : Ending) (w' : World) : Prop := ∃ v, e = .returned (.tuple #[v, .int .i64 (r.2 : Nat)]) ∧ w'.ownsRow w.heap.size 3 1 v r.1.length (natv r.1) ∧ Below w.heap.size w w'
set_option maxHeartbeats 1000000 in
theorem ldec_arg (ao : Option Addr) (L cap : Nat) (n width : Int) (w : World) (h : n < 0 ∨ 4000 < n ∨ width < 0 ∨ 16 < width) :
 Calls Tryz.prog 25 #[.slice ao L cap, .int .i64 n, .int .i64 width] w (GaveLev w ([], 1)) := by
 have key : GaveLev w ([], 1) (.returned (.tuple #[.slice none 0 0, .int .i64 1])) w := ⟨_, rfl, World.ownsRow_nil _ _ _ _, Below.refl _ _⟩
 have Key := Lib.hid key; clear key
 by_cases h1 : n < 0
 · go_enter Tryz.func25, Tryz.ntmps25
   go_wp2
   go_ret2
   exact Key.out
 by_cases h2 : 4000 < n
 · have d1 : decide (n < 0) = false := decide_eq_false h1
   have d2 : decide (4000 < n) = true := decide_eq_true h2
   clear h
   go_enter Tryz.func25, Tryz.ntmps25
   go_wp2
   go_ret2
   exact Key.out
 by_cases h3 : width < 0
 · have d1 : decide (n < 0) = false := decide_eq_false h1
   have d2 : decide (4000 < n) = false := decide_eq_false h2
   have d3 : decide (width < 0) = true := decide_eq_true h3
   clear h
   go_enter Tryz.func25, Tryz.ntmps25
   go_wp2
   go_ret2
   exact Key.out
 · have h4 : 16 < width := by omega
   have d1 : decide (n < 0) = false := decide_eq_false h1
   have d2 : decide (4000 < n) = false := decide_eq_false h2
   have d3 : decide (width < 0) = false := decide_eq_false h3
   clear h
   go_enter Tryz.func25, Tryz.ntmps25
   go_wp2
   go_ret2
   exact Key.out
end Go.Proofs.YtebmbkbnngeabaaGreat

set_option linter.unusedSimpArgs false
namespace Go.Proofs.YtebmbkbnngeabaaGreat
open Go.RowKit
set_option linter.unusedVariables false
set_option maxHeartbeats 400000 in
theorem runpack_arg (ao : Option Addr) (L cap : Nat) (b : List Nat) (n width : Int) (w : World) (h : n < 0 ∨ 4000 < n ∨ width < 0 ∨ 64 < width) :
 Calls Tryz.prog 64 #[.slice ao L cap, .int .i64 n, .int .i64 width] w (GaveNums w 61 (unpackSpec b n width)) := by
 rw [spec_arg b n width h]
 by_cases h1 : n < 0
 · go_enter Tryz.func64, Tryz.ntmps64
   go_wp2
   go_ret2
   exact gave_no _ _ 1
 by_cases h2 : 4000 < n
 · go_enter Tryz.func64, Tryz.ntmps64
   go_wp2
   go_ret2
   exact gave_no _ _ 1
 by_cases h3 : width < 0
 · clear h
   go_enter Tryz.func64, Tryz.ntmps64
   go_wp2
   go_ret2
   exact gave_no _ _ 1
 · have h4 : 64 < width := by omega
   clear h
   go_enter Tryz.func64, Tryz.ntmps64
   go_wp2
   go_ret2
   exact gave_no _ _ 1
set_option maxHeartbeats 400000 in
theorem runpack_len (ao : Option Addr) (L cap n wd : Nat) (b : List Nat) (w : World) (hl : b.length = L) (hn : n ≤ 4000) (hw : wd ≤ 64) (hL : L ≤ 9223372036854775807) (h : L ≠ packSize n wd) :
 Calls Tryz.prog 64 #[.slice ao L cap, .int .i64 n, .int .i64 wd] w (GaveNums w 61 (unpackSpec b n wd)) := by
 obtain ⟨N, hN⟩ : ∃ N, Hid (N = packSize n wd) := ⟨_, Lib.hid rfl⟩
 have hN2 : N ≤ 800000001 := by rw [hN.out]; exact packSize_le (by omega) hw
 rcases Nat.lt_or_ge L N with hlt | hge
 · rw [spec_cut b n wd hn hw (by rw [hl, ← hN.out]; exact hlt)]
   clear h hl
   go_enter Tryz.func64, Tryz.ntmps64
   go_wp2_with (go_at_call 74; refine (rsize_n n wd N _ (by omega) hw hN).mono ?_; rintro e w' ⟨rfl, rfl⟩)
   go_ret2
   exact gave_no _ _ 8
 · have hgt : N < L := by have := hN.out; omega
   rw [spec_more b n wd hn hw (by rw [hl, ← hN.out]; exact hgt)]
   clear h hl
   go_enter Tryz.func64, Tryz.ntmps64
   go_wp2_with (go_at_call 74; refine (rsize_n n wd N _ (by omega) hw hN).mono ?_; rintro e w' ⟨rfl, rfl⟩)
   go_ret2
   exact gave_no _ _ 9
theorem unpacked_snoc (b : List Nat) (k wd : Nat) : unpacked b (k + 1) wd = unpacked b k wd ++ [numOf (fun m => bitOf b (k * wd + m)) wd] := by
 simp [unpacked, List.range_succ]
theorem div_and (v m : Nat) (hv : v < 256) : bits .and .u8 ((v : Int) / 2 ^ m) 1 = ((v.testBit m).toNat : Nat) := by
 have e : ((v : Int) / 2 ^ m) = ((v >>> m : Nat) : Int) := by rw [Nat.shiftRight_eq_div_pow]; simp
 rw [e]; exact bit_and v m hv
theorem div_and_eq (v m : Nat) (hv : v < 256) : (bits .and .u8 ((v : Int) / 2 ^ m) 1 == 1) = v.testBit m := by
 rw [div_and v m hv]; cases v.testBit m <;> rfl
set_option maxHeartbeats 2000000 in
set_option maxRecDepth 100000 in
theorem runpack_same (ao : Option Addr) (L cap n wd : Nat) (b : List Nat) (w : World) (hl : b.length = L) (hb : ∀ x ∈ b, x < 256) (hn : n ≤ 4000) (hw : wd ≤ 64) (h : L = packSize n wd)
 (hc : CellsAt w w.heap.size ao L (u8c b)) :
 Calls Tryz.prog 64 #[.slice ao L cap, .int .i64 n, .int .i64 wd] w (GaveNums w 61 (unpackSpec b n wd)) := by
 have Hl := Lib.hid hl; clear hl
 have Hb := Lib.hid hb; clear hb
 have hN : Hid (L = packSize n wd) := Lib.hid h
 have hN2 : L ≤ 800000001 := by rw [h]; exact packSize_le (by omega) hw
 have hN3 : L ≤ 40000 := by
  have := Nat.mul_le_mul hn hw
  rw [h]; unfold packSize; omega
 obtain ⟨F, hF⟩ : ∃ F, Hid (F = n * wd) := ⟨_, Lib.hid rfl⟩
 have hFL : F ≤ 8 * L := by rw [hF.out, h]; unfold packSize; omega
 have hB256 : ∀ p, p < L → b.getD p 0 < 256 := fun p hp => by
  rw [List.getD_eq_getElem?_getD, List.getElem?_eq_getElem (by rw [Hl.out]; exact hp)]
  exact Hb.out _ (List.getElem_mem _)
 have HB := Lib.hid hB256; clear hB256
 clear h
 go_enter Tryz.func64, Tryz.ntmps64
 go_wp2_with (go_at_call 74; refine (rsize_n n wd L _ (by omega) hw hN).mono ?_; rintro e w' ⟨rfl, rfl⟩)
 go_loopw [8, 9, 10] (fun v at_ i wr => ∃ k t : Nat, k ≤ n ∧ Hid (t = k * wd) ∧ i = .int .i64 k ∧ at_ = .int .i64 t ∧ wr.ownsRow w.heap.size 61 1 v k (u64v (unpacked b k wd)) ∧ Below w.heap.size w wr)
  (fun _ _ i _ => n - (intOf i).toNat)
 case atStart => exact ⟨0, 0, by omega, Lib.hid (by omega), rfl, rfl, World.ownsRow_nil _ _ _ _, Below.refl _ _⟩
 case round =>
  obtain ⟨k, t, hk, ht, rfl, rfl, hown, hnx⟩ := hrel
  by_cases hkn : k < n
  · go_wp2
    go_loop [9, 11, 12] (fun at_ v j => ∃ m t : Nat, m ≤ wd ∧ Hid (t = k * wd + m) ∧ j = .int .i64 m ∧ at_ = .int .i64 t ∧ v = .int .u64 (numOf (fun m => bitOf b (k * wd + m)) m : Nat)) (fun _ _ j => wd - (intOf j).toNat)
    case atStart => exact ⟨0, t, by omega, Lib.hid (by rw [ht.out]; omega), rfl, rfl, rfl⟩
    case round =>
     clear ht
     obtain ⟨m, t, hm, ht, rfl, rfl, rfl⟩ := hrel
     have hkw : (k + 1) * wd ≤ n * wd := Nat.mul_le_mul_right _ hkn
     rw [Nat.add_mul, ← hF.out] at hkw
     have ht2 : t ≤ 8 * L := by have := ht.out; omega
     by_cases hmw : m < wd
     · have hpl : t < 8 * L := by have := ht.out; omega
       obtain ⟨bl, off, rfl, hblt, hcell⟩ := hc (t / 8) (by omega)
       have hcw := (hnx.cell (by exact hblt)).trans hcell
       obtain ⟨x, hx⟩ : ∃ x, Hid (x = b.getD (t / 8) 0) := ⟨_, Lib.hid rfl⟩
       have hx256 : x < 256 := by rw [hx.out]; exact HB.out _ (by omega)
       rw [u8c, ← hx.out] at hcw
       obtain ⟨old, hold⟩ : ∃ old, Hid (old = numOf (fun m => bitOf b (k * wd + m)) m) := ⟨_, Lib.hid rfl⟩
       rw [← hold.out]
       clear hc hcell hkw
       go_wp2
       go_round
       case rel =>
        have hbit : x.testBit (t % 8) = bitOf b (k * wd + m) := by rw [← ht.out, hx.out]; rfl
        have hv := or64w old (x.testBit (t % 8)) m (by rw [hold.out]; exact numOf_lt _ _) (by omega)
        rw [← div_and x (t % 8) hx256] at hv
        refine ⟨m + 1, t + 1, by omega, Lib.hid (by rw [ht.out]; omega), by go_num, by go_num, ?_⟩
        rw [hv, numOf, ← hold.out, hbit]
       case measure => simp [intOf]; omega
     · go_wp2_with (at_builtin; refine wpList_append_all1 sl_u64 rfl (.tmp 67) (.tmp 69) rfl rfl (hown.alloc _) rfl (cells_alloc _ _ _ 1 (fun _ => .int .u64 (numOf (fun m => bitOf b (k * wd + m)) m : Nat)) (fun i hi => by (obtain rfl : i = 0 := (by omega)); rfl)) (fun h => by cases h) (fun _ _ => rfl) (by unfold maxLen; omega) (by omega) (by have := hnx.size; simp; omega) ?_)
       intro v' w1 hown1 hgrow1
       have hb1 : Below w.heap.size w w1 := (balloc hnx _).grown hgrow1 (by have := hnx.size; simp; omega) (fun k hk => (hown.lt k hk).1)
       have Hown : Hid (w1.ownsRow w.heap.size 61 1 v' (k + 1) (u64v (unpacked b (k + 1) wd))) := Lib.hid (by
        obtain rfl : m = wd := by omega
        rw [unpacked_snoc, ← u64v_append]
        exact hown1)
       clear hown1 hgrow1 hown hnx
       go_wp2
       go_roundw
       case rel => exact ⟨k + 1, t, by omega, Lib.hid (by rw [ht.out, Nat.add_mul]; omega), by go_num, rfl, Hown.out, hb1⟩
       case measure => simp [intOf]; omega
  · obtain rfl : k = n := by omega
    have htF : t = F := by rw [ht.out, hF.out]
    have hF2 := hF.out
    clear ht
    subst htF
    go_wp2
    go_loop [9] (fun at_ => ∃ p : Nat, t ≤ p ∧ p ≤ 8 * L ∧ at_ = .int .i64 p ∧ Hid (∀ q, t ≤ q → q < p → bitOf b q = false)) (fun at_ => 8 * L - (intOf at_).toNat)
    case atStart => exact ⟨t, Nat.le_refl _, hFL, rfl, Lib.hid (fun q h1 h2 => by omega)⟩
    case round =>
     obtain ⟨p, hp1, hp2, rfl, hcl⟩ := hrel
     by_cases hp : p < 8 * L
     · obtain ⟨bl, off, rfl, hblt, hcell⟩ := hc (p / 8) (by omega)
       have hcw := (hnx.cell (by exact hblt)).trans hcell
       obtain ⟨x, hx⟩ : ∃ x, Hid (x = b.getD (p / 8) 0) := ⟨_, Lib.hid rfl⟩
       have hx256 : x < 256 := by rw [hx.out]; exact HB.out _ (by omega)
       rw [u8c, ← hx.out] at hcw
       have hbit : x.testBit (p % 8) = bitOf b p := by rw [hx.out]; rfl
       have hte := div_and_eq x (p % 8) hx256
       rw [hbit] at hte
       have Hbit := Lib.hid hbit
       clear hbit hc hcell
       cases hb1 : bitOf b p with
       | true =>
        rw [hb1] at hte
        go_wp2
        go_ret2
        rw [spec_bad b k wd hn hw (by rw [Hl.out, hN.out]) ?_]
        · exact ⟨_, rfl, World.ownsRow_nil _ _ _ _, hnx⟩
        · cases ht : tailClear b (k * wd) with
          | false => rfl
          | true =>
           rw [tailClear_iff] at ht
           rw [ht p (by rw [← hF2]; exact hp1) (by rw [Hl.out]; exact hp)] at hb1
           cases hb1
       | false =>
        rw [hb1] at hte
        go_wp2
        go_round
        case rel => exact ⟨p + 1, by omega, by omega, by go_num, Lib.hid (fun q h1 h2 => by
         by_cases hq : q = p
         · subst hq; exact hb1
         · exact hcl.out q h1 (by omega))⟩
        case measure => simp [intOf]; omega
     · go_wp2
       go_ret2
       rw [spec_ok b k wd hn hw (by rw [Hl.out, hN.out]) (by
        rw [tailClear_iff, ← hF2, Hl.out]
        exact fun q h1 h2 => hcl.out q h1 (by omega))]
       refine ⟨_, rfl, ?_, hnx⟩
       rw [u64v_length, unpacked_length]
       exact hown
theorem runpack_any (ao : Option Addr) (L cap : Nat) (n width : Int) (b : List Nat) (w : World) (hl : b.length = L) (hb : ∀ x ∈ b, x < 256) (hL : L ≤ 9223372036854775807) (hc : CellsAt w w.heap.size ao L (u8c b)) :
 Calls Tryz.prog 64 #[.slice ao L cap, .int .i64 n, .int .i64 width] w (GaveNums w 61 (unpackSpec b n width)) := by
 by_cases h : n < 0 ∨ 4000 < n ∨ width < 0 ∨ 64 < width
 · exact runpack_arg ao L cap b n width w h
 · obtain ⟨k, rfl⟩ : ∃ k : Nat, n = k := ⟨n.toNat, by omega⟩
   obtain ⟨wd, rfl⟩ : ∃ k : Nat, width = k := ⟨width.toNat, by omega⟩
   by_cases h2 : L = packSize k wd
   · exact runpack_same ao L cap k wd b w hl hb (by omega) (by omega) h2 hc
   · exact runpack_len ao L cap k wd b w hl (by omega) (by omega) hL h2
end Go.Proofs.YtebmbkbnngeabaaGreat

set_option linter.unusedSimpArgs false
namespace Go.Proofs.YtebmbkbnngeabaaGreat
open Go.RowKit
set_option linter.unusedVariables false
def RowX (w : World) (base : Nat) (ao : Option Addr) (n cap : Nat) : Prop := ∃ l : List Nat, (∀ x ∈ l, x < 256) ∧ RowB w base ao n cap l
theorem RowX.below {w w' : World} {base : Nat} {ao : Option Addr} {n cap : Nat} (h : RowX w base ao n cap) (hb : Below w.heap.size w w') : RowX w' base ao n cap := by
 obtain ⟨l, h1, h2, h3⟩ := h
 refine ⟨l, h1, h2, h3.imp id fun x => ⟨x.1, ?_⟩⟩
 exact ⟨x.2.1, x.2.2.imp id fun ⟨g, cap, cur, h1, h2, h3, h4⟩ => ⟨g, cap, cur, h1, h2, (hb.block g (Array.getElem?_eq_some_iff.1 h3).1).trans h3, h4⟩⟩
theorem RowX.drew {w : World} {base : Nat} {ao : Option Addr} {n cap : Nat} (h : RowX w base ao n cap) : RowX w.drew base ao n cap := h.below (Below.refl _ _).drew
theorem RowX.pos {w : World} {base : Nat} {ao : Option Addr} {n cap : Nat} (h : RowX w base ao n cap) (h0 : 0 < n) :
 ∃ g, ao = some ⟨g, 0, none⟩ ∧ base ≤ g ∧ (∀ j, j < n → ∃ y : Nat, y < 256 ∧ w.cell? ⟨g, j, none⟩ = some (.int .u8 (y : Nat)) ∧ w.frozen? ⟨g, j, none⟩ = false) ∧
  (∀ j (x : Int), j < n → 0 ≤ x → x < 256 → RowX (w.setCell ⟨g, j, none⟩ (.int .u8 x)) base (some ⟨g, 0, none⟩) n cap) := by
 obtain ⟨l, h1, hl, h2⟩ := h
 rcases h2 with ⟨h2, -⟩ | ⟨-, ho⟩
 · omega
 · obtain ⟨g, rfl, hg⟩ := own_shape h0 ho
   refine ⟨g, rfl, hg, fun j hj => ⟨l.getD j 0, getD_lt h1 j, cell_u8 ho j hj, ho.frozenAt j⟩, fun j x hj hx0 hx => ⟨l.set j x.toNat, set_lt h1 (by omega), by simp [hl], .inr ⟨h0, stored_u8 ho j (by omega)⟩⟩⟩
theorem RowX.bytes {w : World} {base : Nat} {ao : Option Addr} {n cap : Nat} (h : RowX w base ao n cap) :
 ∃ l : List Nat, l.length = n ∧ (∀ x ∈ l, x < 256) ∧ CellsAt w w.heap.size ao n (u8c l) ∧ (ao = none → n = 0) ∧ n ≤ cap := by
 obtain ⟨l, h1, h2⟩ := h
 exact ⟨l, h2.1, h1, h2.cells, h2.nil0, h2.cap⟩
def BytesX (w : World) (ao : Option Addr) (n : Nat) : Prop := ∃ l : List Nat, l.length = n ∧ (∀ x ∈ l, x < 256) ∧ CellsAt w w.heap.size ao n (u8c l) ∧ (ao = none → n = 0)
theorem BytesX.below {w w' : World} {ao : Option Addr} {n : Nat} (h : BytesX w ao n) (hb : Below w.heap.size w w') : BytesX w' ao n :=
 let ⟨l, h1, h2, h3, h4⟩ := h; ⟨l, h1, h2, h3.at hb, h4⟩
theorem BytesX.take {w : World} {ao : Option Addr} {n m : Nat} (h : BytesX w ao n) (hm : m ≤ n) : BytesX w ao m :=
 let ⟨l, h1, h2, h3, h4⟩ := h
 ⟨l.take m, by rw [List.length_take]; omega, fun x hx => h2 x (List.mem_of_mem_take hx), (h3.take hm).congr (fun i hi => (u8c_take _ _ _ hi).symm), fun e => by have := h4 e; omega⟩
def RowsX (w : World) (g m top : Nat) : Prop := ∀ i, i < m → ∃ ao n cap, w.cell? ⟨g, i, none⟩ = some (.slice ao n cap) ∧ n ≤ top ∧ BytesX w ao n
theorem RowsX.below {w w' : World} {g m top : Nat} (h : RowsX w g m top) (hb : Below w.heap.size w w') : RowsX w' g m top := fun i hi =>
 let ⟨ao, n, cap, h1, h2, h3⟩ := h i hi; ⟨ao, n, cap, Grows.cell hb h1, h2, h3.below hb⟩
def NumsX (w : World) (g m : Nat) : Prop := ∀ i, i < m → ∃ k : Int, w.cell? ⟨g, i, none⟩ = some (.int .i64 k) ∧ -9223372036854775808 ≤ k ∧ k ≤ 9223372036854775807
theorem NumsX.below {w w' : World} {g m : Nat} (h : NumsX w g m) (hb : Below w.heap.size w w') : NumsX w' g m := fun i hi =>
 let ⟨k, h1, h2⟩ := h i hi; ⟨k, Grows.cell hb h1, h2⟩
theorem tdivk' (a : Int) (k : Nat) (hk : 0 < k) (h : -9223372036854775808 ≤ a ∧ a ≤ 9223372036854775807) : -9223372036854775808 ≤ a.tdiv k ∧ a.tdiv k ≤ 9223372036854775807 := by
 rcases Int.lt_or_le a 0 with hn | hn
 · have h5 : a.tdiv k ≤ 0 := by
    have h7 : (-(-a)).tdiv k = -((-a).tdiv k) := Int.neg_tdiv ..
    have h8 : 0 ≤ (-a).tdiv k := Int.tdiv_nonneg (by omega) (by omega)
    rw [Int.neg_neg] at h7
    omega
   have h6 : a ≤ a.tdiv k := by
    have h7 : (-(-a)).tdiv k = -((-a).tdiv k) := Int.neg_tdiv ..
    have h8 : (-a).tdiv k ≤ -a := Int.tdiv_le_self k (by omega)
    rw [Int.neg_neg] at h7
    omega
   omega
 · have h5 := Int.tdiv_nonneg hn (show (0 : Int) ≤ (k : Int) by omega)
   have h6 : a.tdiv k ≤ a := Int.tdiv_le_self k hn
   omega
end Go.Proofs.YtebmbkbnngeabaaGreat

set_option linter.unusedSimpArgs false
namespace Go.Proofs.YtebmbkbnngeabaaGreat
open Go.RowKit
set_option linter.unusedVariables false
def cntI (v : Int) (l : List Int) : Nat := (l.filter (· == v)).length
theorem cntI_take (v : Int) (l : List Int) (j : Nat) (h : j < l.length) : cntI v (l.take (j + 1)) = cntI v (l.take j) + if l.getD j 0 = v then 1 else 0 := by
 unfold cntI
 rw [List.take_succ_eq_append_getElem h, List.filter_append, List.length_append, List.getD_eq_getElem?_getD, List.getElem?_eq_getElem h]
 simp only [List.filter_cons, List.filter_nil, Option.getD_some]
 split <;> rename_i hh <;> simp at hh <;> simp [hh]
theorem cntI_le (v : Int) (l : List Int) : cntI v l ≤ l.length := List.length_filter_le _ _
set_option maxHeartbeats 1000000 in
set_option maxRecDepth 100000 in
theorem rcount18_any (ao : Option Addr) (n cap : Nat) (l : List Int) (v : Int) (w : World) (hl : l.length = n) (hn : n ≤ 1000000) (hc : CellsAt w w.heap.size ao n (i64c l)) :
 Calls Tryz.prog 32 #[.slice ao n cap, .int .i64 v] w fun e w' => e = .returned (.int .i64 (cntI v l : Nat)) ∧ w = w' := by
 have Hl := Lib.hid hl; have Hc := Lib.hid hc
 clear hl hc
 go_enter Tryz.func32, Tryz.ntmps32
 go_wp2
 go_loopw [5, 6] (fun c i wr => ∃ j k : Nat, j ≤ n ∧ i = .int .i64 (j : Nat) ∧ c = .int .i64 (k : Nat) ∧ k ≤ j ∧ Hid (k = cntI v (l.take j)) ∧ wr = w) (fun _ i _ => n - (intOf i).toNat)
 case atStart => exact ⟨0, 0, Nat.zero_le _, rfl, rfl, Nat.le_refl _, Lib.hid rfl, rfl⟩
 case round =>
  obtain ⟨j, k, hj, rfl, rfl, hkj, HK, hww⟩ := hrel
  have hwx := hww.symm
  subst hwx
  clear hww
  by_cases hjn : j < n
  · obtain ⟨b, off, rfl, -, c0⟩ := Hc.out j hjn
    obtain ⟨x, hx⟩ : ∃ x, x = l.getD j 0 := ⟨_, rfl⟩
    rw [i64c, ← hx] at c0
    have e1 : (j : Int) < (n : Int) := by omega
    have e2 : (0 : Int) ≤ (j : Int) := by omega
    have hnx := cntI_take v l j (by rw [Hl.out]; exact hjn)
    rw [← hx, ← HK.out] at hnx
    have Hnx := Lib.hid hnx
    clear hnx hx
    by_cases hxv : x = v
    · have HN : Hid (k + 1 = cntI v (l.take (j + 1))) := Lib.hid (by rw [Hnx.out, if_pos hxv])
      subst hxv
      go_wp2
      go_roundw
      case rel => exact ⟨j + 1, k + 1, by omega, by go_num, by go_num, by omega, HN, trivial⟩
      case measure => simp [intOf]; omega
    · have HN : Hid (k = cntI v (l.take (j + 1))) := Lib.hid (by rw [Hnx.out, if_neg hxv]; rfl)
      have f1 : (x == v) = false := by rw [beq_eq_false_iff_ne]; exact hxv
      go_wp2
      go_roundw
      case rel => exact ⟨j + 1, k, by omega, by go_num, rfl, by omega, HN, trivial⟩
      case measure => simp [intOf]; omega
  · obtain rfl : j = n := by omega
    have e1 : ¬ (j : Int) < (j : Int) := by omega
    have hk : k = cntI v l := by rw [HK.out, List.take_of_length_le (by rw [Hl.out]; exact Nat.le_refl _)]
    have Hk := Lib.hid hk
    clear hk
    go_wp2
    go_ret
    exact ⟨by rw [Hk.out]; rfl, rfl⟩
end Go.Proofs.YtebmbkbnngeabaaGreat

set_option linter.unusedSimpArgs false
namespace Go.Proofs.YtebmbkbnngeabaaGreat
open Go.RowKit
set_option linter.unusedVariables false
def u64of (n : Int) : Nat := (n % 18446744073709551616).toNat
theorem u64of_eq (n : Int) : n % 18446744073709551616 = (u64of n : Int) := by unfold u64of; omega
theorem u64of_lt (n : Int) : u64of n < 18446744073709551616 := by unfold u64of; omega
def strB (s : ByteArray) : List Nat := s.data.toList.map UInt8.toNat
theorem strB_length (s : ByteArray) : (strB s).length = s.size := by simp [strB]
theorem strB_lt (s : ByteArray) : ∀ x ∈ strB s, x < 256 := by
 intro x hx
 obtain ⟨b, -, rfl⟩ := List.mem_map.1 hx
 exact UInt8.toNat_lt b
theorem strCells_u8v (s : ByteArray) : Lib.strCells s = u8v (strB s) := by simp [Lib.strCells, u8v, strB]
def enc1 (k : Nat) (v : Vl) : List Nat := if k = 4 then lowB v.2.size 4 ++ strB v.2 else lowB (u64of v.1) (if k = 2 then 4 else 8)
def encs (k : Nat) (l : List Vl) : List Nat := (l.map (enc1 k)).flatten
def plainB (k : Nat) (l : List Vl) : List Nat := if k = 1 then packed (l.map fun v => u64of v.1) 1 else encs k l
theorem encs_snoc (k : Nat) (l : List Vl) (v : Vl) : encs k (l ++ [v]) = encs k l ++ enc1 k v := by simp [encs]
theorem enc1_length (k : Nat) (v : Vl) : (enc1 k v).length = if k = 4 then 4 + v.2.size else if k = 2 then 4 else 8 := by
 unfold enc1
 by_cases h4 : k = 4
 · rw [if_pos h4, if_pos h4, List.length_append, lowB_length, strB_length]
 · rw [if_neg h4, if_neg h4, lowB_length]
theorem enc1_le (k : Nat) (v : Vl) (h : v.2.size ≤ 100) : (enc1 k v).length ≤ 104 := by
 rw [enc1_length]; split <;> (try split) <;> omega
theorem encs_le (k : Nat) (l : List Vl) (h : ∀ v ∈ l, v.2.size ≤ 100) : (encs k l).length ≤ 104 * l.length := by
 induction l with
 | nil => simp [encs]
 | cons v l ih =>
  have h1 := enc1_le k v (h v (List.mem_cons_self ..))
  have h2 := ih (fun u hu => h u (List.mem_cons_of_mem _ hu))
  unfold encs at h2 ⊢
  simp only [List.map_cons, List.flatten_cons, List.length_append, List.length_cons]
  omega
theorem lowB_lt (v n : Nat) : ∀ x ∈ lowB v n, x < 256 := by
 induction n with
 | zero => intro x hx; simp [lowB] at hx
 | succ n ih =>
  intro x hx
  simp only [lowB, List.mem_append, List.mem_singleton] at hx
  rcases hx with h | h
  · exact ih x h
  · omega
theorem enc1_lt (k : Nat) (v : Vl) : ∀ x ∈ enc1 k v, x < 256 := by
 intro x hx
 unfold enc1 at hx
 split at hx
 · rcases List.mem_append.1 hx with h | h
   · exact lowB_lt _ _ x h
   · exact strB_lt _ x h
 · exact lowB_lt _ _ x hx
theorem encs_lt (k : Nat) (l : List Vl) : ∀ x ∈ encs k l, x < 256 := by
 intro x hx
 obtain ⟨p, hp, hxp⟩ := List.mem_flatten.1 hx
 obtain ⟨v, -, rfl⟩ := List.mem_map.1 hp
 exact enc1_lt k v x hxp
theorem take_vl (l : List Vl) (j : Nat) (hj : j < l.length) : l.take (j + 1) = l.take j ++ [l.getD j vl0] := by
 rw [List.take_succ_eq_append_getElem hj, List.getD_eq_getElem?_getD, List.getElem?_eq_getElem hj]; rfl
theorem step_append_str {ops : Array Oper} {Q : Exit → Act → World → Prop} {o : Oper} {a : Act} {w : World} {K : Act → World → Prop} {E : Prop} (hgd : o.guard = none) (s x : Operand) (ho : o.op = .call { callee := .builtin .append, args := #[s, x], argTypes := #[24, 9] })
 {base : Nat} {v : Value} {n : Nat} {l : List Nat} (hs : a.eval s = v) (hown : w.ownsRow base 5 1 v n (u8v l)) {str : ByteArray} (hx : a.eval x = .string str)
 (hb : n + str.size ≤ 140737488355328) (hbase : base ≤ w.heap.size)
 (h : ∀ v' w', w'.ownsRow base 5 1 v' (n + str.size) (u8v (l ++ strB str)) → w.grownBy w' v.ownBlock → K (a.put o.dst v') w') :
 if Region.wanted o (yielded ops a.tmps) = true then Oper.wp Tryz.prog o a w K Q else E := by
 have hw : Region.wanted o (yielded ops a.tmps) = true := by simp [Region.wanted, hgd]
 rw [if_pos hw]
 obtain ⟨i0, hi, hz0, hz1, hz2⟩ := info_parts Tryz.infoU8
 obtain ⟨v', w', hr, h2, h3, -⟩ := Lib.run_append_own_string (P := Tryz.prog) w base 24 9 o.type 5 i0 Tryz.underlying24 Tryz.underlying9 hi hz0 hz1 hz2 v n (u8v l) hown str (by unfold maxLen; omega) hb hbase
 refine Lib.wp_append_run w s x 24 9 ho v (.string str) hs hx v' w' hr (h v' w' ?_ h3)
 rw [strCells_u8v, u8v_append] at h2
 exact h2
theorem RowB.own {w : World} {base : Nat} {ao : Option Addr} {n cap : Nat} {l : List Nat} (h : RowB w base ao n cap l) (hn : 0 < n) : w.ownsRow base 5 1 (.slice ao n cap) n (u8v l) := by
 rcases h.2 with ⟨h0, -⟩ | ⟨-, ho⟩
 · omega
 · exact ho
end Go.Proofs.YtebmbkbnngeabaaGreat

set_option linter.unusedSimpArgs false
namespace Go.Proofs.YtebmbkbnngeabaaGreat
open Go.RowKit
set_option linter.unusedVariables false
set_option maxRecDepth 100000 in
set_option maxHeartbeats 400000 in
theorem sign_1 (w : World) : Calls Tryz.prog 84 #[.int .i64 1] w fun e w' => e = .returned (.int .i32 98) ∧ w = w' := by
 have i0 : ∀ w, (Instr.index 158 (.agg #[.int .i32 98, .int .i32 105, .int .i32 108, .int .i32 116]) (.int .i64 0)).run Tryz.prog w = .ok (.int .i32 98) w := fun _ => by kernel_rfl
 go_enter Tryz.func84, Tryz.ntmps84
 go_wp2
 go_ret
 exact ⟨rfl, rfl⟩
set_option maxRecDepth 100000 in
set_option maxHeartbeats 400000 in
theorem sign_2 (w : World) : Calls Tryz.prog 84 #[.int .i64 2] w fun e w' => e = .returned (.int .i32 105) ∧ w = w' := by
 have i0 : ∀ w, (Instr.index 158 (.agg #[.int .i32 98, .int .i32 105, .int .i32 108, .int .i32 116]) (.int .i64 1)).run Tryz.prog w = .ok (.int .i32 105) w := fun _ => by kernel_rfl
 go_enter Tryz.func84, Tryz.ntmps84
 go_wp2
 go_ret
 exact ⟨rfl, rfl⟩
set_option maxRecDepth 100000 in
set_option maxHeartbeats 400000 in
theorem sign_3 (w : World) : Calls Tryz.prog 84 #[.int .i64 3] w fun e w' => e = .returned (.int .i32 108) ∧ w = w' := by
 have i0 : ∀ w, (Instr.index 158 (.agg #[.int .i32 98, .int .i32 105, .int .i32 108, .int .i32 116]) (.int .i64 2)).run Tryz.prog w = .ok (.int .i32 108) w := fun _ => by kernel_rfl
 go_enter Tryz.func84, Tryz.ntmps84
 go_wp2
 go_ret
 exact ⟨rfl, rfl⟩
set_option maxRecDepth 100000 in
set_option maxHeartbeats 400000 in
theorem sign_4 (w : World) : Calls Tryz.prog 84 #[.int .i64 4] w fun e w' => e = .returned (.int .i32 116) ∧ w = w' := by
 have i0 : ∀ w, (Instr.index 158 (.agg #[.int .i32 98, .int .i32 105, .int .i32 108, .int .i32 116]) (.int .i64 3)).run Tryz.prog w = .ok (.int .i32 116) w := fun _ => by kernel_rfl
 go_enter Tryz.func84, Tryz.ntmps84
 go_wp2
 go_ret
 exact ⟨rfl, rfl⟩
set_option maxRecDepth 100000 in
set_option maxHeartbeats 400000 in
theorem wide_2 (w : World) : Calls Tryz.prog 101 #[.int .i64 2] w fun e w' => e = .returned (.int .i64 4) ∧ w = w' := by
 go_enter Tryz.func101, Tryz.ntmps101
 go_wp2_with (go_at_call 84; refine (sign_2 _).mono ?_; rintro e x1 ⟨rfl, rfl⟩)
 go_ret
 exact ⟨rfl, rfl⟩
set_option maxRecDepth 100000 in
set_option maxHeartbeats 400000 in
theorem wide_3 (w : World) : Calls Tryz.prog 101 #[.int .i64 3] w fun e w' => e = .returned (.int .i64 8) ∧ w = w' := by
 go_enter Tryz.func101, Tryz.ntmps101
 go_wp2_with (go_at_call 84; refine (sign_3 _).mono ?_; rintro e x1 ⟨rfl, rfl⟩)
 go_ret
 exact ⟨rfl, rfl⟩
set_option maxRecDepth 100000 in
set_option maxHeartbeats 400000 in
theorem wide_4 (w : World) : Calls Tryz.prog 101 #[.int .i64 4] w fun e w' => e = .returned (.int .i64 4) ∧ w = w' := by
 go_enter Tryz.func101, Tryz.ntmps101
 go_wp2_with (go_at_call 84; refine (sign_4 _).mono ?_; rintro e x1 ⟨rfl, rfl⟩)
 go_ret
 exact ⟨rfl, rfl⟩
end Go.Proofs.YtebmbkbnngeabaaGreat

set_option linter.unusedSimpArgs false
namespace Go.Proofs.YtebmbkbnngeabaaGreat
open Go.RowKit
set_option linter.unusedVariables false
def valueM (k : Nat) (l : List Nat) (e : Nat) : Vl × List Nat × Nat :=
 let g := rdGet l e (if k = 3 then 8 else 4)
 if k = 2 then ((IntKind.i32.wrap g.1, ByteArray.empty), g.2)
 else if k = 3 then ((IntKind.i64.wrap g.1, ByteArray.empty), g.2)
 else if 100 < g.1 then (vl0, rdFail g.2.1 g.2.2 5)
 else ((0, strOf (rdTake g.2.1 g.2.2 (g.1 : Nat)).1), (rdTake g.2.1 g.2.2 (g.1 : Nat)).2)
theorem res_cells {w x1 : World} {g : Nat} (hg : g < w.heap.size) (h : But g (w.alloc (.cells #[.int .i64 0, .string ByteArray.empty] 81)) x1) :
 x1.heap[w.heap.size]? = some (.cells #[.int .i64 0, .string ByteArray.empty] 81) := by
 rw [h.block w.heap.size (by simp) (by omega)]
 exact heap_alloc_new w _
theorem But.tail {g : Nat} {w x1 x2 : World} (h : But g w x1) (k : Below w.heap.size x1 x2) : But g w x2 :=
 ⟨k.os.trans h.os, k.tape.trans h.tape, k.output.trans h.output, Nat.le_trans h.size k.size, fun j hj hn => (k.block j hj).trans (h.block j hj hn)⟩
theorem rdFail_le (l : List Nat) (e c : Nat) : (rdFail l e c).1.length ≤ l.length := by
 unfold rdFail; split
 · simp only []; split <;> simp
 · simp
theorem rdTake_le (l : List Nat) (e : Nat) (n : Int) : (rdTake l e n).2.1.length ≤ l.length := by
 unfold rdTake; split
 · exact rdFail_le _ _ _
 · simp [List.length_drop]
theorem rdGet_le (l : List Nat) (e : Nat) (n : Int) : (rdGet l e n).2.1.length ≤ l.length := rdTake_le _ _ _
set_option maxRecDepth 100000 in
set_option maxHeartbeats 2000000 in
theorem value_2 (g : Nat) {lo : Nat} (l : List Nat) (e : Nat) (w : World) (h : Rd w g lo l e) (hl : l.length ≤ 140737488355328) (h256 : ∀ x ∈ l, x < 256) :
 Calls Tryz.prog 87 #[.int .i64 2, .pointer (some ⟨g, 0, none⟩)] w fun r w' => r = .returned (vV (valueM 2 l e).1) ∧ Rd w' g lo (valueM 2 l e).2.1 (valueM 2 l e).2.2 ∧ But g w w' := by
 have hlt := h.lt
 have hG := fun (w' : World) (h : Rd w' g lo l e) => get_any g l e 4 w' h (by omega) h256
 have hM : valueM 2 l e = ((IntKind.i32.wrap (rdGet l e 4).1, ByteArray.empty), (rdGet l e 4).2) := rfl
 rw [hM]
 obtain ⟨G, hGe⟩ : ∃ G, G = rdGet l e 4 := ⟨_, rfl⟩
 rw [← hGe] at hG ⊢
 clear hM hGe
 have hR : Rd (w.alloc (.cells #[.int .i64 0, .string ByteArray.empty] 81)) g lo l e := h.keep ((Below.refl _ _).alloc (Nat.le_refl _) _)
 have HG := Lib.hid (hG _ hR); clear hG
 go_enter Tryz.func87, Tryz.ntmps87
 go_wp2_with (go_at_call 101; refine (wide_2 _).mono ?_; rintro e x0 ⟨rfl, rfl⟩)
 refine HG.out.mono ?_
 rintro e x1 ⟨rfl, hr1, hb1⟩
 have hblk := res_cells hlt hb1
 obtain ⟨c0, c1, f0, f1⟩ := two_cells hblk
 go_wp2
 have hb2 := two_set1 (two_set0 hblk (.int .i64 (wrap64 (wrap32 (G.1 : Nat))))) (.string ByteArray.empty)
 obtain ⟨d0, d1, -, -⟩ := two_cells hb2
 have hE : ByteArray.empty = ({ data := #[] } : ByteArray) := rfl
 rw [hE] at d0 d1
 have hset : Below w.heap.size x1 ((x1.setCell ⟨w.heap.size, 0, none⟩ (.int .i64 (wrap64 (wrap32 (G.1 : Nat))))).setCell ⟨w.heap.size, 1, none⟩ (.string { data := #[] })) :=
  ((Below.refl _ _).setCell (by exact Nat.le_refl _) _).setCell (by exact Nat.le_refl _) _
 refine bodyPost_ret (v := .agg #[.int .i64 (wrap64 (wrap32 (G.1 : Nat))), .string { data := #[] }]) (by simp [results, Tryz.results87, go_sem, d0, d1]) rfl ⟨by rw [wrap_both]; rfl, hr1.below hset hlt, ((But.of (balloc (Below.refl _ _) _)).trans hb1).tail hset⟩
set_option maxRecDepth 100000 in
set_option maxHeartbeats 2000000 in
theorem value_3 (g : Nat) {lo : Nat} (l : List Nat) (e : Nat) (w : World) (h : Rd w g lo l e) (hl : l.length ≤ 140737488355328) (h256 : ∀ x ∈ l, x < 256) :
 Calls Tryz.prog 87 #[.int .i64 3, .pointer (some ⟨g, 0, none⟩)] w fun r w' => r = .returned (vV (valueM 3 l e).1) ∧ Rd w' g lo (valueM 3 l e).2.1 (valueM 3 l e).2.2 ∧ But g w w' := by
 have hlt := h.lt
 have hG := fun (w' : World) (h : Rd w' g lo l e) => get_any g l e 8 w' h (by omega) h256
 have hM : valueM 3 l e = ((IntKind.i64.wrap (rdGet l e 8).1, ByteArray.empty), (rdGet l e 8).2) := rfl
 rw [hM]
 obtain ⟨G, hGe⟩ : ∃ G, G = rdGet l e 8 := ⟨_, rfl⟩
 rw [← hGe] at hG ⊢
 clear hM hGe
 have hR : Rd (w.alloc (.cells #[.int .i64 0, .string ByteArray.empty] 81)) g lo l e := h.keep ((Below.refl _ _).alloc (Nat.le_refl _) _)
 have HG := Lib.hid (hG _ hR); clear hG
 go_enter Tryz.func87, Tryz.ntmps87
 go_wp2_with (go_at_call 101; refine (wide_3 _).mono ?_; rintro e x0 ⟨rfl, rfl⟩)
 refine HG.out.mono ?_
 rintro e x1 ⟨rfl, hr1, hb1⟩
 have hblk := res_cells hlt hb1
 obtain ⟨c0, c1, f0, f1⟩ := two_cells hblk
 go_wp2
 have hb2 := two_set1 (two_set0 hblk (.int .i64 (wrap64 (G.1 : Nat)))) (.string ByteArray.empty)
 obtain ⟨d0, d1, -, -⟩ := two_cells hb2
 have hE : ByteArray.empty = ({ data := #[] } : ByteArray) := rfl
 rw [hE] at d0 d1
 have hset : Below w.heap.size x1 ((x1.setCell ⟨w.heap.size, 0, none⟩ (.int .i64 (wrap64 (G.1 : Nat)))).setCell ⟨w.heap.size, 1, none⟩ (.string { data := #[] })) :=
  ((Below.refl _ _).setCell (by exact Nat.le_refl _) _).setCell (by exact Nat.le_refl _) _
 refine bodyPost_ret (v := .agg #[.int .i64 (wrap64 (G.1 : Nat)), .string { data := #[] }]) (by simp [results, Tryz.results87, go_sem, d0, d1]) rfl ⟨by rw [← IntWalk.i64_left]; rfl, hr1.below hset hlt, ((But.of (balloc (Below.refl _ _) _)).trans hb1).tail hset⟩
set_option maxRecDepth 100000 in
set_option maxHeartbeats 2000000 in
theorem value_4 (g : Nat) {lo : Nat} (l : List Nat) (e : Nat) (w : World) (h : Rd w g lo l e) (hl : l.length ≤ 140737488355328) (h256 : ∀ x ∈ l, x < 256) :
 Calls Tryz.prog 87 #[.int .i64 4, .pointer (some ⟨g, 0, none⟩)] w fun r w' => r = .returned (vV (valueM 4 l e).1) ∧ Rd w' g lo (valueM 4 l e).2.1 (valueM 4 l e).2.2 ∧ But g w w' := by
 have hlt := h.lt
 have hG := fun (w' : World) (h : Rd w' g lo l e) => get_any g l e 4 w' h (by omega) h256
 have hGl : (rdGet l e 4).2.1.length ≤ l.length := rdGet_le l e 4
 obtain ⟨G, hGe⟩ : ∃ G, Hid (G = rdGet l e 4) := ⟨_, Lib.hid rfl⟩
 rw [← hGe.out] at hG hGl
 have hR : Rd (w.alloc (.cells #[.int .i64 0, .string ByteArray.empty] 81)) g lo l e := h.keep ((Below.refl _ _).alloc (Nat.le_refl _) _)
 have HG := Lib.hid (hG _ hR); clear hG
 by_cases h100 : 100 < G.1
 · have hM : valueM 4 l e = (vl0, rdFail G.2.1 G.2.2 5) := by
    unfold valueM; simp only [show ¬ ((4 : Nat) = 2) by decide, show ¬ ((4 : Nat) = 3) by decide, if_false]
    rw [← hGe.out, if_pos h100]
   rw [hM]
   clear hM
   go_enter Tryz.func87, Tryz.ntmps87
   go_wp2_with (go_at_call 101; refine (wide_4 _).mono ?_; rintro e x0 ⟨rfl, rfl⟩)
   refine HG.out.mono ?_
   rintro e x1 ⟨rfl, hr1, hb1⟩
   go_wp2_with fail
   refine (fail_any g G.2.1 G.2.2 5 _ hr1).mono ?_
   rintro e x2 ⟨rfl, hr2, hb2⟩
   have hbb := hb1.trans hb2
   have hblk := res_cells hlt hbb
   obtain ⟨c0, c1, f0, f1⟩ := two_cells hblk
   go_wp2
   have hb2 := two_set1 (two_set0 hblk (.int .i64 0)) (.string ByteArray.empty)
   obtain ⟨d0, d1, -, -⟩ := two_cells hb2
   have hE : ByteArray.empty = ({ data := #[] } : ByteArray) := rfl
   rw [hE] at d0 d1
   have hset : Below w.heap.size x2 ((x2.setCell ⟨w.heap.size, 0, none⟩ (.int .i64 0)).setCell ⟨w.heap.size, 1, none⟩ (.string { data := #[] })) :=
    ((Below.refl _ _).setCell (by exact Nat.le_refl _) _).setCell (by exact Nat.le_refl _) _
   refine bodyPost_ret (v := .agg #[.int .i64 0, .string { data := #[] }]) (by simp [results, Tryz.results87, go_sem, d0, d1]) rfl ⟨rfl, hr2.below hset hlt, ((But.of (balloc (Below.refl _ _) _)).trans hbb).tail hset⟩
 · have hM : valueM 4 l e = ((0, strOf (rdTake G.2.1 G.2.2 (G.1 : Nat)).1), (rdTake G.2.1 G.2.2 (G.1 : Nat)).2) := by
    unfold valueM; simp only [show ¬ ((4 : Nat) = 2) by decide, show ¬ ((4 : Nat) = 3) by decide, if_false]
    rw [← hGe.out, if_neg h100]
   rw [hM]
   clear hM
   obtain ⟨t, ht⟩ : ∃ t, t = rdTake G.2.1 G.2.2 (G.1 : Nat) := ⟨_, rfl⟩
   have hT := fun (w' : World) (h : Rd w' g lo G.2.1 G.2.2) => rtake_any g G.2.1 G.2.2 (G.1 : Nat) w' h (by omega)
   rw [← ht] at hT ⊢
   clear ht
   have hw64 : wrap64 (G.1 : Nat) = (G.1 : Nat) := by unfold wrap64; omega
   have HT := Lib.hid hT; clear hT
   go_enter Tryz.func87, Tryz.ntmps87
   go_wp2_with (go_at_call 101; refine (wide_4 _).mono ?_; rintro e x0 ⟨rfl, rfl⟩)
   refine HG.out.mono ?_
   rintro e x1 ⟨rfl, hr1, hb1⟩
   go_wp2_with fail
   refine (HT.out _ hr1).mono ?_
   rintro e x2 ⟨ao2, cap2, rfl, hc2, hn2, -, hr2, hb2⟩
   have hbb := hb1.trans hb2
   have hblk := res_cells hlt hbb
   obtain ⟨c0, c1, f0, f1⟩ := two_cells hblk
   have cv := run_string_of (P := Tryz.prog) (w := x2) (cap := cap2) 24 5 9 Tryz.underlying24 Tryz.underlying5 Tryz.underlying9 rfl hc2 hn2
   go_wp2
   have hb2 := two_set1 (two_set0 hblk (.int .i64 0)) (.string (strOf t.1))
   obtain ⟨d0, d1, -, -⟩ := two_cells hb2
   have hset : Below w.heap.size x2 ((x2.setCell ⟨w.heap.size, 0, none⟩ (.int .i64 0)).setCell ⟨w.heap.size, 1, none⟩ (.string (strOf t.1))) :=
    ((Below.refl _ _).setCell (by exact Nat.le_refl _) _).setCell (by exact Nat.le_refl _) _
   refine bodyPost_ret (v := .agg #[.int .i64 0, .string (strOf t.1)]) (by simp [results, Tryz.results87, go_sem, d0, d1]) rfl ⟨rfl, hr2.below hset hlt, ((But.of (balloc (Below.refl _ _) _)).trans hbb).tail hset⟩
end Go.Proofs.YtebmbkbnngeabaaGreat

set_option linter.unusedSimpArgs false
namespace Go.Proofs.YtebmbkbnngeabaaGreat
open Go.RowKit
set_option linter.unusedVariables false
theorem FreshV.open_ {w w' : World} {E : TypeId} {v : Value} {l : List Vl} (h : FreshV w w' E v l) :
 ∃ ao n cap, v = .slice ao n cap ∧ Hid (l.length = n) ∧ n ≤ cap ∧ CellsAt w' w'.heap.size ao (n * 2) (vlc l) ∧ (ao = none → n = 0 ∧ cap = 0) := by
 obtain ⟨ao, cap, rfl, h1, h2, h3, h4, -⟩ := own_v h.1
 exact ⟨ao, _, cap, rfl, Lib.hid h1, h2, h3, h4⟩
theorem packed1_length (l : List Nat) : (packed l 1).length = (l.length + 7) / 8 := by
 simp [packed, packTo, packSize]
end Go.Proofs.YtebmbkbnngeabaaGreat

set_option linter.unusedSimpArgs false
namespace Go.Proofs.YtebmbkbnngeabaaGreat
set_option linter.unusedVariables false
theorem minI_in (c : List Int) (h0 : 0 < c.length) (h : ∀ x ∈ c, inI64 x) : inI64 (minI c) := minTo_in c _ h0 h
theorem blockB_bound (c : List Int) (h2 : c.length ≤ 32) : (blockB c).length ≤ 267 := by
 unfold blockB
 have h1 := (vputB_length (zigN (minI c))).2
 have hw := blockW_le c
 have hm : c.length * blockW c ≤ 32 * 64 := Nat.mul_le_mul h2 hw
 simp only [List.length_append, packed_length, packSize, overs, List.length_map, List.length_cons, List.length_nil]
 omega
theorem blocksB_bound (d : List Int) (k : Nat) : (blocksB (chunks d k)).length ≤ 267 * k := by
 induction k with
 | zero => simp [chunks, blocksB]
 | succ k ih =>
  rw [chunks_succ, blocksB_snoc, List.length_append]
  have := blockB_bound (chunk d k) (by rw [chunk_length']; omega)
  omega
theorem dIntsB_bound (l : List Int) : (dIntsB l).length ≤ 10 + 267 * ((l.length + 31) / 32) := by
 unfold dIntsB
 split
 · simp
 · rw [List.length_append]
   have h1 := (vputB_length (zigN (l.getD 0 0))).2
   have h2 := blocksB_bound (diffs l) (nBlocks (diffs l))
   have h3 : nBlocks (diffs l) ≤ (l.length + 31) / 32 := by unfold nBlocks; rw [diffs_length]; omega
   have h4 : 267 * nBlocks (diffs l) ≤ 267 * ((l.length + 31) / 32) := Nat.mul_le_mul_left _ h3
   omega
theorem blockB_lt (c : List Int) (h0 : 0 < c.length) (hc : ∀ x ∈ c, inI64 x) : ∀ x ∈ blockB c, x < 256 := by
 intro x hx
 unfold blockB at hx
 rcases List.mem_append.1 hx with h | h
 · rcases List.mem_append.1 h with h | h
   · exact vputB_lt _ (zigN_lt _ (minI_in c h0 hc)) x h
   · simp at h; have := blockW_le c; omega
 · exact packed_lt _ _ x h
end Go.Proofs.YtebmbkbnngeabaaGreat

set_option linter.unusedSimpArgs false
namespace Go.Proofs.YtebmbkbnngeabaaGreat
open Go.RowKit Go.Shelf
set_option linter.unusedVariables false
attribute [local go_sem] Oper.semAt_some
abbrev ChunkNo (m : Nat) := { k : Nat // 32 * k < m }
def KeepTwo (Bs Bn : Nat) (A B : World) : Prop := B.heap[Bs]? = A.heap[Bs]? ∧ B.heap[Bn]? = A.heap[Bn]?
theorem KeepTwo.refl (Bs Bn : Nat) (A : World) : KeepTwo Bs Bn A A := ⟨rfl, rfl⟩
theorem KeepTwo.trans {Bs Bn : Nat} {A B C : World} (h : KeepTwo Bs Bn A B) (k : KeepTwo Bs Bn B C) : KeepTwo Bs Bn A C := ⟨k.1.trans h.1, k.2.trans h.2⟩
end Go.Proofs.YtebmbkbnngeabaaGreat

set_option linter.unusedSimpArgs false
namespace Go.Proofs.YtebmbkbnngeabaaGreat
open Go.RowKit Go.Shelf
set_option linter.unusedVariables false
def CellsOff (w : World) (bb : Nat) (ao : Option Addr) (n : Nat) (f : Nat → Value) : Prop :=
 ∀ i, i < n → ∃ b off, ao = some ⟨b, off, none⟩ ∧ b ≠ bb ∧ w.cell? ⟨b, off + i, none⟩ = some (f i)
theorem CellsOff.kept {W W' : World} {row : Option Nat} {bb : Nat} {ao : Option Addr} {n : Nat} {f : Nat → Value} (h : CellsOff W bb ao n f) (hg : W.grownBy W' row) (hr : ∀ r, row = some r → ∃ o : Obj, W.heap[r]? = some o ∧ o.isCells = false) : CellsOff W' bb ao n f := fun i hi =>
 let ⟨b, off, e, hb, hc⟩ := h i hi; ⟨b, off, e, hb, cell_kept hc hg hr⟩
theorem CellsOff.at {W : World} {bb : Nat} {ao : Option Addr} {n : Nat} {f : Nat → Value} (h : CellsOff W bb ao n f) : CellsAt W W.heap.size ao n f := fun i hi => by
 obtain ⟨b, off, e, hb, hc⟩ := h i hi
 obtain ⟨o, ho, -⟩ := cells_of_cell hc
 exact ⟨b, off, e, (Array.getElem?_eq_some_iff.1 ho).1, hc⟩
theorem CellsOff.of {W : World} {B bb : Nat} {ao : Option Addr} {n : Nat} {f : Nat → Value} (h : CellsAt W B ao n f) (hb : ∀ a, ao = some a → a.block ≠ bb) : CellsOff W bb ao n f := fun i hi => by
 obtain ⟨b, off, e, -, hc⟩ := h i hi
 exact ⟨b, off, e, hb _ e, hc⟩
theorem CellsOff.lt {W : World} {bb : Nat} {ao : Option Addr} {n : Nat} {f : Nat → Value} (h : CellsAt W bb ao n f) : CellsOff W bb ao n f := fun i hi => by
 obtain ⟨b, off, e, hb, hc⟩ := h i hi
 exact ⟨b, off, e, Nat.ne_of_lt hb, hc⟩
theorem CellsOff.below {W W' : World} {bb : Nat} {ao : Option Addr} {n : Nat} {f : Nat → Value} (h : CellsOff W bb ao n f) (hb : Below W.heap.size W W') : CellsOff W' bb ao n f := fun i hi => by
 obtain ⟨b, off, e, hne, hc⟩ := h i hi
 obtain ⟨o, ho, -⟩ := cells_of_cell hc
 exact ⟨b, off, e, hne, (hb.cell (by exact (Array.getElem?_eq_some_iff.1 ho).1)).trans hc⟩
theorem CellsOff.set {W : World} {bb : Nat} {ao : Option Addr} {n : Nat} {f : Nat → Value} (h : CellsOff W bb ao n f) (v : Value) : CellsOff (W.setCell ⟨bb, 0, none⟩ v) bb ao n f := fun i hi => by
 obtain ⟨b, off, e, hne, hc⟩ := h i hi
 refine ⟨b, off, e, hne, ?_⟩
 rw [World.cell?_of_block ((grownBy_setCell' W bb v).block b (by obtain ⟨o, ho, -⟩ := cells_of_cell hc; exact (Array.getElem?_eq_some_iff.1 ho).1) (fun e => hne (by cases e; rfl)))]
 exact hc
theorem RowB.blk {w : World} {base : Nat} {ao : Option Addr} {n cap : Nat} {l : List Nat} (h : RowB w base ao n cap l) (bb : Nat) (hb : bb < base) : CellsOff w bb ao n (u8c l) := by
 rcases h.2 with ⟨h0, -⟩ | ⟨h0, ho⟩
 · intro i hi; omega
 · obtain ⟨ao', cap', hv, hc, hbk⟩ := own_u8 ho
   simp only [Value.slice.injEq, true_and] at hv
   obtain ⟨rfl, rfl⟩ := hv
   exact CellsOff.of hc (fun a e => by have := hbk a e; omega)
end Go.Proofs.YtebmbkbnngeabaaGreat

set_option linter.unusedSimpArgs false
namespace Go.Proofs.YtebmbkbnngeabaaGreat
open Go.RowKit
set_option linter.unusedVariables false
def DRd (w : World) (g : Nat) (b : List Nat) (l : List Int) : Prop :=
 ∃ aoB capB aoL capL, w.heap[g]? = some (.cells #[.slice aoB b.length capB, .slice aoL l.length capL] 154) ∧ CellsAt w g aoB b.length (u8c b) ∧ b.length ≤ capB ∧ w.ownsRow (g + 1) 3 1 (.slice aoL l.length capL) l.length (i64v l)
theorem DRd.lt {w : World} {g : Nat} {b : List Nat} {l : List Int} (h : DRd w g b l) : g < w.heap.size := by
 obtain ⟨_, _, _, _, h, -⟩ := h
 exact (Array.getElem?_eq_some_iff.1 h).1
theorem DRd.keep {w w' : World} {g : Nat} {b : List Nat} {l : List Int} (h : DRd w g b l) (hb : Below w.heap.size w w') : DRd w' g b l := by
 have hlt := h.lt
 obtain ⟨aoB, capB, aoL, capL, h1, h2, h3, h4⟩ := h
 exact ⟨aoB, capB, aoL, capL, (hb.block g hlt).trans h1, h2.below (hb.mono (Nat.le_of_lt hlt)), h3, own_below h4 hb⟩
theorem own_past {w : World} {B e size : Nat} {v : Value} {n : Nat} {xs : List Value} (h : w.ownsRow (B + 1) e size v n xs) : v.ownBlock = none ∨ v.ownBlock ≠ some B := by
 rcases h.2 with ⟨rfl, -⟩ | ⟨g1, c1, cur1, rfl, hb, -⟩
 · exact .inl rfl
 · right
   simp only [Value.ownBlock, ne_eq, Option.some.injEq]
   omega
theorem grown_set (w : World) (g o : Nat) (v : Value) : w.grownBy (w.setCell ⟨g, o, none⟩ v) (some g) :=
 ⟨rfl, rfl, rfl, by simp [World.setCell], fun k _ hk => Below.heap_setCell _ _ _ k (fun e => hk (by rw [e]))⟩
theorem DRd.go {w : World} {g : Nat} {b : List Nat} {l : List Int} {bb off capB capL : Nat} {aoL : Option Addr} (hg : w.heap[g]? = some (.cells #[.slice (some ⟨bb, off, none⟩) b.length capB, .slice aoL l.length capL] 154))
 (hc : CellsAt w g (some ⟨bb, off, none⟩) b.length (u8c b)) (hcap : b.length ≤ capB) (hr : w.ownsRow (g + 1) 3 1 (.slice aoL l.length capL) l.length (i64v l)) (n : Nat) (hn : n ≤ b.length) (v : Value)
 (hv : v = .slice (some ⟨bb, off + n, none⟩) (b.length - n) (capB - n) ∨ (n = capB ∧ v = .slice (some ⟨bb, off, none⟩) 0 0)) : DRd (w.setCell ⟨g, 0, none⟩ v) g (b.drop n) l := by
 have h0 := two_set0 hg v
 have hr2 := hr.kept (grown_set w g 0 v) (own_past hr)
 rcases hv with rfl | ⟨rfl, rfl⟩
 · refine ⟨some ⟨bb, off + n, none⟩, capB - n, aoL, capL, by rw [List.length_drop]; exact h0, ?_, by rw [List.length_drop]; omega, hr2⟩
   rw [List.length_drop]
   intro i hi
   obtain ⟨_, _, e, hb, hcc⟩ := hc (n + i) (by omega)
   cases e
   refine ⟨bb, off + n, rfl, hb, ?_⟩
   rw [World.cell?_of_block (Below.heap_setCell _ _ _ bb (Nat.ne_of_lt hb)), Nat.add_assoc, hcc]
   simp [List.getD_eq_getElem?_getD, List.getElem?_drop]
 · have hl : b.drop n = [] := List.drop_eq_nil_of_le (by omega)
   rw [hl]
   exact ⟨some ⟨bb, off, none⟩, 0, aoL, capL, h0, CellsAt.zero, Nat.le_refl _, hr2⟩
set_option maxHeartbeats 2000000 in
theorem dzig_any (g : Nat) (b : List Nat) (l : List Int) (w : World) (h : DRd w g b l) (h256 : ∀ x ∈ b, x < 256) (hL : b.length ≤ 1000000) :
 Calls Tryz.prog 98 #[.pointer (some ⟨g, 0, none⟩)] w fun e w' => e = .returned (.tuple #[.int .i64 (zigR b).1, .int .i64 ((zigR b).2.2 : Nat)]) ∧ DRd w' g (zigR b).2.1 l ∧ But g w w' := by
 have hR := Lib.hid h
 have hlt := h.lt
 obtain ⟨aoB, capB, aoL, capL, hg, hcB, hcapB, hrow⟩ := h
 obtain ⟨c0, c1, f0, f1⟩ := two_cells hg
 have HV := Lib.hid (vget_any aoB b.length capB b w rfl h256 (by omega) (hcB.mono (Nat.le_of_lt hlt)))
 have hle := (vgetR_n b 0 0).1
 have hpos := (vgetR_n b 0 0).2
 have hu := vgetM_lt b
 obtain ⟨u, hu0⟩ : ∃ u, u = (vgetM b).1 := ⟨_, rfl⟩
 obtain ⟨n, hn0⟩ : ∃ n, n = (vgetM b).2.1 := ⟨_, rfl⟩
 obtain ⟨er, he0⟩ : ∃ n, n = (vgetM b).2.2 := ⟨_, rfl⟩
 have hnL : n ≤ b.length := by rw [hn0]; unfold vgetM; omega
 have hpos2 : er = 0 → 0 < n := by rw [he0, hn0]; exact hpos
 rw [← hu0] at hu
 by_cases h0 : er = 0
 · obtain ⟨bb, off, rfl, hbb, -⟩ := hcB 0 (by have := hpos2 h0; omega)
   have hz : Hid (zigR b = (zagI u, b.drop n, 0)) := Lib.hid (by unfold zigR; rw [← he0, ← hu0, ← hn0, if_neg (by simp [h0])])
   rw [← hu0, ← hn0, ← he0, h0] at HV
   have hu64 : Hid (u < 18446744073709551616) := Lib.hid hu
   have Hg := Lib.hid hg; have HcB := Lib.hid hcB; have Hrow := Lib.hid hrow
   have e1 : (n : Int) ≤ (b.length : Int) := by omega
   have e2 : (0 : Int) ≤ (n : Int) := by omega
   have e3 : (b.length : Int) ≤ (capB : Int) := by omega
   clear hu0 hn0 he0 hle hu hg hcB hrow h256
   by_cases hnc : capB = n
   · subst hnc
     go_enter Tryz.func98, Tryz.ntmps98
     go_wp2_with fail
     refine HV.out.mono ?_
     rintro e x ⟨rfl, rfl⟩
     go_wp2_with fail
     refine (zag_any u _ hu64.out).mono ?_
     rintro e x ⟨rfl, rfl⟩
     go_wp2
     go_ret2
     rw [hz.out]
     exact ⟨rfl, DRd.go Hg.out HcB.out hcapB Hrow.out capB hnL _ (.inr ⟨rfl, rfl⟩), (But.refl _ _).setCell _ _⟩
   · have hnc1 : n ≠ capB := fun e => hnc e.symm
     have hnc2 : n < capB := by omega
     go_enter Tryz.func98, Tryz.ntmps98
     go_wp2_with fail
     refine HV.out.mono ?_
     rintro e x ⟨rfl, rfl⟩
     go_wp2_with fail
     refine (zag_any u _ hu64.out).mono ?_
     rintro e x ⟨rfl, rfl⟩
     go_wp2
     go_ret2
     rw [hz.out]
     exact ⟨rfl, DRd.go Hg.out HcB.out hcapB Hrow.out n hnL _ (.inl rfl), (But.refl _ _).setCell _ _⟩
 · have hz : Hid (zigR b = (0, b, er)) := Lib.hid (by unfold zigR; rw [← he0, if_pos h0])
   rw [← hu0, ← hn0, ← he0] at HV
   have hb0 : ((er : Int) == 0) = false := by rw [beq_eq_false_iff_ne]; omega
   have hb1 : (er : Int) ≠ 0 := by omega
   clear hu0 hn0 he0 hle hu hg hcB hrow h256
   go_enter Tryz.func98, Tryz.ntmps98
   go_wp2_with fail
   refine HV.out.mono ?_
   rintro e x ⟨rfl, rfl⟩
   go_wp2
   go_ret2
   rw [hz.out]
   exact ⟨rfl, hR.out, But.refl _ _⟩
end Go.Proofs.YtebmbkbnngeabaaGreat

set_option linter.unusedSimpArgs false
namespace Go.Proofs.YtebmbkbnngeabaaGreat
set_option linter.unusedVariables false
def rsA (b : List Nat) (at_ : Nat) : Nat × Nat × Nat := rvRead b at_ 0
def rsB (b : List Nat) (at_ : Nat) : Nat × Nat × Nat := rrGet b (rsA b at_).2.1 (rsA b at_).2.2 1
def rsE (b : List Nat) (at_ : Nat) : Nat := if 64 < (rsB b at_).1 then (if (rsB b at_).2.2 = 0 then 10 else (rsB b at_).2.2) else (rsB b at_).2.2
def rsC (b : List Nat) (at_ k : Nat) : List Nat × Nat × Nat := rrTake b (rsB b at_).2.1 (rsE b at_) ((packSize k (rsB b at_).1 : Nat) : Int)
theorem rrGet_err' (b : List Nat) (at_ e : Nat) (n : Int) (h : e ≠ 0) : rrGet b at_ e n = (0, at_, e) := by
 unfold rrGet rrTake
 rw [if_pos (.inl h)]; rfl
theorem rrGet_cut1 (b : List Nat) (at_ : Nat) (ha : at_ ≤ b.length) (h : (b.drop at_).length < 1) : rrGet b at_ 0 1 = (0, at_, 8) := by
 rw [List.length_drop] at h
 unfold rrGet rrTake
 rw [if_neg (show ¬ ((1 : Int) < 0 ∨ 8 < (1 : Int)) by omega), if_neg (by omega), if_pos (by omega)]; rfl
theorem rrGet_ok1 (b : List Nat) (at_ : Nat) (h : 1 ≤ (b.drop at_).length) : rrGet b at_ 0 1 = ((b.drop at_).getD 0 0, at_ + 1, 0) := by
 obtain ⟨x, t, e⟩ := List.exists_cons_of_length_pos (show 0 < (b.drop at_).length by omega)
 rw [List.length_drop] at h
 unfold rrGet rrTake
 rw [if_neg (show ¬ ((1 : Int) < 0 ∨ 8 < (1 : Int)) by omega), if_neg (by omega), if_neg (by omega), e]
 simp [numB]
theorem rsA_le (b : List Nat) (at_ : Nat) (h : at_ ≤ b.length) : (rsA b at_).2.1 ≤ b.length ∧ (rsA b at_).1 < 18446744073709551616 := by
 unfold rsA rvRead
 have h1 := vgetM_n (b.drop at_)
 have h2 := vgetM_lt (b.drop at_)
 rw [List.length_drop] at h1
 split
 · exact ⟨h, by simp⟩
 split
 · exact ⟨h, by simp⟩
 · exact ⟨by simp only []; omega, h2⟩
theorem rsB_le (b : List Nat) (at_ : Nat) (h : at_ ≤ b.length) (h256 : ∀ x ∈ b, x < 256) : (rsB b at_).2.1 ≤ b.length ∧ (rsB b at_).1 < 256 := by
 have hA := (rsA_le b at_ h).1
 unfold rsB
 by_cases he : (rsA b at_).2.2 = 0
 · rw [he]
   rcases Nat.lt_or_ge ((b.drop (rsA b at_).2.1).length) 1 with h1 | h1
   · rw [rrGet_cut1 _ _ hA h1]; exact ⟨hA, by simp⟩
   · rw [rrGet_ok1 _ _ h1]
     rw [List.length_drop] at h1
     refine ⟨by simp only []; omega, ?_⟩
     simp only [List.getD_eq_getElem?_getD, List.getElem?_drop]
     rw [List.getElem?_eq_getElem (by omega)]
     exact h256 _ (List.getElem_mem _)
 · rw [rrGet_err' _ _ _ _ he]; exact ⟨hA, by simp⟩
theorem rsC_le (b : List Nat) (at_ k : Nat) (h : at_ ≤ b.length) (h256 : ∀ x ∈ b, x < 256) : (rsC b at_ k).2.1 ≤ b.length ∧ (∀ x ∈ (rsC b at_ k).1, x < 256) ∧ (rsC b at_ k).1.length ≤ b.length := by
 have hB := (rsB_le b at_ h h256).1
 unfold rsC rrTake
 split
 · exact ⟨hB, fun x hx => by simp at hx, by simp⟩
 split
 · exact ⟨hB, fun x hx => by simp at hx, by simp⟩
 · rename_i h1 h2
   exact ⟨by simp only []; omega, fun x hx => h256 x (List.mem_of_mem_drop (List.mem_of_mem_take hx)), by simp only [List.length_take, List.length_drop]; omega⟩
theorem zigR_rs (b : List Nat) (at_ : Nat) : zigR (b.drop at_) = if (rsA b at_).2.2 ≠ 0 then (0, b.drop at_, (rsA b at_).2.2) else (zagI (rsA b at_).1, b.drop (rsA b at_).2.1, 0) := by
 unfold zigR rsA rvRead
 simp only [ne_eq, not_true_eq_false, if_false]
 by_cases h : (vgetM (b.drop at_)).2.2 = 0
 · simp [h, List.drop_drop]
 · simp [h]
theorem rs_block (b : List Nat) (at_ k : Nat) (l : List Int) (h : at_ ≤ b.length) (h256 : ∀ x ∈ b, x < 256) :
 ((rsC b at_ k).2.2 ≠ 0 → (blockR (b.drop at_) l k).2.2 = (rsC b at_ k).2.2) ∧
 ((rsC b at_ k).2.2 = 0 → (rsB b at_).1 ≤ 64 ∧
   ((unpackSpec (rsC b at_ k).1 k (rsB b at_).1).2 ≠ 0 → (blockR (b.drop at_) l k).2.2 = (unpackSpec (rsC b at_ k).1 k (rsB b at_).1).2) ∧
   ((unpackSpec (rsC b at_ k).1 k (rsB b at_).1).2 = 0 → blockR (b.drop at_) l k = (b.drop (rsC b at_ k).2.1, l ++ accs (zagI (rsA b at_).1) (lastI l) (unpackSpec (rsC b at_ k).1 k (rsB b at_).1).1, 0))) := by
 have hA := (rsA_le b at_ h).1
 have hz := zigR_rs b at_
 obtain ⟨A, hAe⟩ : ∃ A, A = rsA b at_ := ⟨_, rfl⟩
 unfold blockR
 rw [hz]
 unfold rsC rsE rsB
 rw [← hAe] at hA ⊢
 obtain ⟨v1, at1, err1⟩ := A
 simp only at hA ⊢
 by_cases he : err1 = 0
 · subst he
   simp only [ne_eq, not_true, if_false]
   unfold blockT
   rcases Nat.lt_or_ge ((b.drop at1).length) 1 with h1 | h1
   · rw [rrGet_cut1 _ _ hA h1]
     unfold rrTake
     rw [if_pos (show (b.drop at1).length = 0 by omega)]
     simp
   · rw [rrGet_ok1 _ _ h1]
     simp only
     rw [if_neg (show ¬ (b.drop at1).length = 0 by omega)]
     obtain ⟨wd, hwd⟩ : ∃ wd, wd = (b.drop at1).getD 0 0 := ⟨_, rfl⟩
     rw [← hwd]
     by_cases h64 : 64 < wd
     · simp only [if_pos h64]
       unfold rrTake
       simp
     · rw [if_neg h64, if_neg h64]
       have h1' := h1
       rw [List.length_drop] at h1
       by_cases hS : (b.drop at1).length - 1 < packSize k wd
       · rw [if_pos hS]
         rw [List.length_drop] at hS
         unfold rrTake
         rw [if_neg (by omega), if_pos (by omega)]
         simp
       · rw [if_neg hS]
         rw [List.length_drop] at hS
         have hT : rrTake b (at1 + 1) 0 ((packSize k wd : Nat) : Int) = (((b.drop at1).drop 1).take (packSize k wd), at1 + (1 + packSize k wd), 0) := by
          unfold rrTake
          by_cases h0 : packSize k wd = 0
          · rw [if_pos (.inr (by omega)), h0]; simp
          · rw [if_neg (by omega), if_neg (by omega), Int.toNat_natCast, List.drop_drop, Nat.add_assoc]
         rw [hT]
         refine ⟨fun h => absurd rfl h, fun _ => ⟨by omega, fun hu => ?_, fun hu => ?_⟩⟩
         · simp only at hu ⊢
           rw [if_pos hu]
         · simp only at hu ⊢
           rw [if_neg (fun h => h hu), List.drop_drop]
 · rw [if_pos he]
   simp only [ne_eq, he, not_false_eq_true, if_true]
   rw [rrGet_err' _ _ _ _ he]
   unfold rrTake
   simp [he]
theorem unpackSpec_no (b : List Nat) (n width : Int) (h : (unpackSpec b n width).2 ≠ 0) : (unpackSpec b n width).1 = [] := by
 unfold unpackSpec at h ⊢
 repeat' split at h
 all_goals first | (exact absurd rfl h) | skip
 · rename_i h1; rw [if_pos h1]
 · rename_i h1 h2; rw [if_neg h1, if_pos h2]
 · rename_i h1 h2 h3; rw [if_neg h1, if_neg h2, if_pos h3]
 · rename_i h1 h2 h3 h4; rw [if_neg h1, if_neg h2, if_neg h3, if_neg h4]
end Go.Proofs.YtebmbkbnngeabaaGreat

set_option linter.unusedSimpArgs false
namespace Go.Proofs.YtebmbkbnngeabaaGreat
open Go.RowKit
set_option linter.unusedVariables false
theorem bitLen_mono (a b : Nat) (h : a ≤ b) : bitLen a ≤ bitLen b := bitLen_le_of_lt a _ (Nat.lt_of_le_of_lt h (bitLen_lt b))
theorem bitLen_max (a b : Nat) : bitLen (max a b) = max (bitLen a) (bitLen b) := by
 rcases Nat.le_total a b with h | h
 · have := bitLen_mono a b h
   rw [show max a b = b by omega]; omega
 · have := bitLen_mono b a h
   rw [show max a b = a by omega]; omega
def rSoFar (l : List Int) (k : Nat) : List Nat := vputB (zigN (l.getD 0 0)) ++ blocksB (chunks (diffs l) k)
theorem rSoFar_succ (l : List Int) (k : Nat) : rSoFar l (k + 1) = rSoFar l k ++ blockB (chunk (diffs l) k) := by
 unfold rSoFar; rw [chunks_succ, blocksB_snoc, List.append_assoc]
theorem blockB_length' (c : List Int) (h : c.length ≤ 32) : (blockB c).length ≤ 300 := by
 rw [blockB_len c _ _ rfl rfl]
 have h1 := (vputB_length (zigN (minI c))).2
 have h4 := bitLen_le64 _ (maxTo_lt (minI c) c c.length)
 have h5 : c.length * bitLen (maxTo (minI c) c c.length) ≤ 32 * 64 := Nat.mul_le_mul h h4
 omega
theorem rSoFar_length (l : List Int) (k : Nat) : (rSoFar l k).length ≤ 10 + 300 * k := by
 induction k with
 | zero =>
  have h1 := (vputB_length (zigN (l.getD 0 0))).2
  simp only [rSoFar, List.length_append, chunks, blocksB, List.range_zero, List.map_nil, List.flatten_nil, List.length_nil]; omega
 | succ k ih =>
  have := blockB_length' (chunk (diffs l) k) (by rw [chunk_length']; omega)
  rw [rSoFar_succ, List.length_append]; omega
set_option maxHeartbeats 8000000 in
set_option maxRecDepth 100000 in
theorem rdInts_any (ao : Option Addr) (n cap : Nat) (l : List Int) (w : World) (hl : l.length = n) (hn : n ≤ 4000) (hc : CellsAt w w.heap.size ao n (i64c l)) (hin : ∀ x ∈ l, inI64 x) :
 Calls Tryz.prog 48 #[.slice ao n cap] w (GaveB w (dIntsB l)) := by
 have Hl := Lib.hid hl; have Hin := Lib.hid hin; have Hc := Lib.hid hc
 by_cases hn0 : n = 0
 · subst hn0
   clear hl hc hin
   go_enter Tryz.func48, Tryz.ntmps48
   go_wp2
   go_ret
   obtain rfl : l = [] := List.length_eq_zero_iff.1 Hl.out
   exact ⟨none, 0, rfl, CellsAt.zero, fun _ => rfl, ⟨rfl, .inl ⟨rfl, rfl⟩⟩, Below.refl _ _⟩
 · obtain ⟨b0, off0, rfl, hb0, c0⟩ := hc.first (by omega)
   obtain ⟨v0, hv0⟩ : ∃ x, x = l.getD 0 0 := ⟨_, rfl⟩
   rw [i64c, ← hv0] at c0
   have e1 : (n : Int) ≠ 0 := by omega
   have e2 : (0 : Int) < (n : Int) := by omega
   have hv64 : Hid (inI64 v0) := Lib.hid (by
    rw [hv0, List.getD_eq_getElem?_getD, List.getElem?_eq_getElem (by omega)]; exact hin _ (List.getElem_mem _))
   have Hv0 := Lib.hid hv0
   have hdin : Hid (∀ y ∈ diffs l, inI64 y) := Lib.hid (diffs_in l)
   clear hl hc hin hv0 hb0
   go_enter Tryz.func48, Tryz.ntmps48
   go_wp2_with fail
   refine (rzig_any v0 _ hv64.out).mono ?_
   rintro e x ⟨rfl, rfl⟩
   go_wp2_with fail
   refine (rvput_any none 0 0 [] (zigN v0) _ rfl CellsAt.zero (fun _ => rfl) (by omega) (zigN_lt _ hv64.out)).mono ?_
   intro e x hg
   obtain ⟨aoP, nP, capP, rfl, HnP, -, -, hrP, hbP⟩ := hg.opened
   have hrP2 : Hid (RowB x w.heap.size aoP nP capP (rSoFar l 0)) := Lib.hid (by
    have h : ([] ++ vputB (zigN v0)) = rSoFar l 0 := by unfold rSoFar chunks blocksB; rw [← Hv0.out]; simp
    rw [← h]; exact hrP)
   have HbP := Lib.hid hbP
   clear hg hrP hbP HnP
   go_wp2
   go_loopw [3, 4] (fun v i x => ∃ (k aT nB capB : Nat) (aoB : Option Addr), v = .slice aoB nB capB ∧ i = .int .i64 (aT : Nat) ∧ aT = 1 + 32 * k ∧ aT ≤ n + 31 ∧ Hid (RowB x w.heap.size aoB nB capB (rSoFar l k)) ∧ Hid (Below w.heap.size w x)) (fun _ i _ => n - (intOf i).toNat)
   case atStart => exact ⟨0, 1, nP, capP, aoP, rfl, rfl, rfl, by omega, hrP2, HbP⟩
   case round =>
    clear hrP2 HbP
    obtain ⟨k, aT, nB, capB, aoB, rfl, rfl, haT, haTn, hrow, hbel⟩ := hrel
    obtain ⟨y, hyy⟩ : ∃ x, x = wr := ⟨_, rfl⟩
    subst hyy
    have HaT := Lib.hid haT
    by_cases hlt : aT < n
    · have e3 : (aT : Int) < (n : Int) := by omega
      have e4 : (0 : Int) ≤ (aT : Int) := by omega
      obtain ⟨E, hE⟩ : ∃ E, E = min (aT + 32) n := ⟨_, rfl⟩
      have hmin1 := fun w' : World => run_min_int2' (P := Tryz.prog) (w := w') #[3, 3] 3 .i64 ((aT : Int) + 32) (n : Int) (E : Int) (by omega)
      obtain ⟨c, hcd⟩ : ∃ c, c = chunk (diffs l) k := ⟨_, rfl⟩
      have hcl : Hid (c.length = E - aT) := Lib.hid (by rw [hcd, chunk_length', diffs_length, Hl.out]; omega)
      have hcg : Hid (∀ j, aT + j < E → c.getD j 0 = w64 (l.getD (aT + j) 0 - l.getD (aT + j - 1) 0)) := Lib.hid (fun j hj => by
       rw [hcd, chunk_getD' _ _ _ (by omega), diffs_at _ _ (by rw [Hl.out]; omega), show 32 * k + j + 1 = aT + j by omega, show 32 * k + j = aT + j - 1 by omega])
      have hEb : Hid (E ≤ n ∧ aT < E ∧ E ≤ aT + 32) := Lib.hid (by omega)
      have Hcd := Lib.hid hcd
      obtain ⟨aP, haP⟩ : ∃ p, p = aT - 1 := ⟨_, rfl⟩
      have eaP : (aT : Int) - 1 = (aP : Int) := by omega
      have e5 : (0 : Int) ≤ (aP : Int) := by omega
      have e6 : (aP : Int) < (n : Int) := by omega
      obtain ⟨_, _, e9, hbb, ca⟩ := Hc.out aT hlt
      cases e9
      obtain ⟨_, _, e9, -, cp⟩ := Hc.out aP (by omega)
      cases e9
      obtain ⟨va, hva⟩ : ∃ x, x = l.getD aT 0 := ⟨_, rfl⟩
      obtain ⟨vp, hvp⟩ : ∃ x, x = l.getD aP 0 := ⟨_, rfl⟩
      rw [i64c, ← hva] at ca
      rw [i64c, ← hvp] at cp
      have ca' := (hbel.out.cell (by exact hbb)).trans ca
      have cp' := (hbel.out.cell (by exact hbb)).trans cp
      obtain ⟨m0, hm0⟩ : ∃ m, m = c.getD 0 0 := ⟨_, rfl⟩
      have hw0 : IntKind.i64.wrap (va - vp) = m0 := by
       rw [w64_wrap, hm0, hcg.out 0 (by omega), hva, hvp, Nat.add_zero, haP]
      have Hm0 : Hid (m0 = minTo c 0) := Lib.hid (by rw [hm0]; simp [minTo])
      clear hE hcd haP hva hvp ca cp hm0 haT
      go_wp2
      go_quiet (fail)
      go_wp2
      go_loopw [6, 7] (fun u i z => ∃ (iJ q : Nat) (mj : Int), aT ≤ iJ ∧ iJ ≤ E ∧ u = .int .i64 mj ∧ i = .int .i64 (iJ : Nat) ∧ Hid (mj = minTo c (iJ - aT)) ∧ z = y.drewN q) (fun _ i _ => E - (intOf i).toNat)
      case atStart => exact ⟨aT, nq, m0, Nat.le_refl _, by have := hEb.out; omega, rfl, rfl, Lib.hid (by rw [Nat.sub_self]; exact Hm0.out), rfl⟩
      case round =>
       obtain ⟨iJ, q, mj, hiJ1, hiJ2, rfl, rfl, hmj, rfl⟩ := hrel
       clear ca' cp' e5 e6 eaP hw0 Hm0 e3 e4
       by_cases hlt2 : iJ < E
       · have e3 : (iJ : Int) < (E : Int) := by omega
         have e4 : (0 : Int) ≤ (iJ : Int) := by omega
         have e4n : (iJ : Int) < (n : Int) := by have := hEb.out; omega
         obtain ⟨iP, hiP⟩ : ∃ p, p = iJ - 1 := ⟨_, rfl⟩
         have hiJ0 : 1 ≤ iJ := by have := HaT.out; omega
         have eiP : (iJ : Int) - 1 = (iP : Int) := by omega
         have e5 : (0 : Int) ≤ (iP : Int) := by omega
         have e6 : (iP : Int) < (n : Int) := by have := hEb.out; omega
         obtain ⟨_, _, e9, hbb2, ca⟩ := Hc.out iJ (by have := hEb.out; omega)
         cases e9
         obtain ⟨_, _, e9, -, cp⟩ := Hc.out iP (by have := hEb.out; omega)
         cases e9
         obtain ⟨ua, hua⟩ : ∃ x, x = l.getD iJ 0 := ⟨_, rfl⟩
         obtain ⟨up, hup⟩ : ∃ x, x = l.getD iP 0 := ⟨_, rfl⟩
         rw [i64c, ← hua] at ca
         rw [i64c, ← hup] at cp
         have ca' := (hbel.out.cell (by exact hbb2)).trans ca
         have cp' := (hbel.out.cell (by exact hbb2)).trans cp
         obtain ⟨d, hd⟩ : ∃ d, d = c.getD (iJ - aT) 0 := ⟨_, rfl⟩
         have hwd : IntKind.i64.wrap (ua - up) = d := by
          rw [w64_wrap, hd, hcg.out (iJ - aT) (by omega), hua, hup, show aT + (iJ - aT) = iJ by omega, hiP]
         obtain ⟨m2, hm2⟩ : ∃ m, m = min mj d := ⟨_, rfl⟩
         have hmin2 := fun w' : World => run_min_int2' (P := Tryz.prog) (w := w') #[3, 3] 3 .i64 mj d m2 hm2
         have hs : Hid (m2 = minTo c (iJ + 1 - aT)) := Lib.hid (by rw [show iJ + 1 - aT = iJ - aT + 1 by omega, minTo_succ _ _ (by rw [hcl.out]; omega), ← hmj.out, ← hd, hm2])
         clear hiP hua hup hd hm2 ca cp hbb2
         go_wp2
         go_quiet (fail)
         go_wp2
         go_roundw
         case rel => exact ⟨iJ + 1, q + nq, m2, by omega, by omega, rfl, by go_num, hs, rfl⟩
         case measure => simp [intOf]; omega
       · have e3 : ¬ (iJ : Int) < (E : Int) := by omega
         have hm : Hid (mj = minI c) := Lib.hid (by rw [hmj.out]; unfold minI; rw [hcl.out, show iJ = E by omega])
         clear hlt2 hmj hiJ1 hiJ2
         obtain ⟨y0, hy0⟩ : ∃ y0, y0 = y.drewN q := ⟨_, rfl⟩
         have HB0 : Hid (Below w.heap.size w y0) := Lib.hid (by rw [hy0]; exact below_drewN hbel.out q)
         have hrow0 : Hid (RowB y0 w.heap.size aoB nB capB (rSoFar l k)) := Lib.hid (hrow.out.below (by rw [hy0]; exact below_drewN (Below.refl _ _) q))
         rw [← hy0]
         clear hy0 hbel hrow
         have hm64 : Hid (inI64 mj) := Lib.hid (by
          rw [hm.out]
          exact minTo_in c _ (by rw [hcl.out]; have := hEb.out; omega) (fun x hx => by rw [Hcd.out] at hx; exact hdin.out x (List.mem_of_mem_drop (List.mem_of_mem_take hx))))
         obtain ⟨mU, hmU⟩ : ∃ mU : Nat, (mU : Int) = mj % 18446744073709551616 := ⟨(mj % 18446744073709551616).toNat, by omega⟩
         have emU : IntKind.u64.wrap mj = (mU : Int) := by rw [IntKind.wrap_u64]; omega
         have HmU := Lib.hid hmU
         obtain ⟨os, hos⟩ : ∃ os, os = c.map (overN mj) := ⟨_, rfl⟩
         have Hos := Lib.hid hos
         clear hmU hos
         go_wp2
         go_loopw [8, 9, 10] (fun u g i z => ∃ (iJ j wj capG : Nat) (aoG : Option Addr), aT + j ≤ iJ ∧ iJ ≤ aT + j ∧ iJ ≤ E ∧ wj ≤ 64 ∧ u = .int .i64 (wj : Nat) ∧ g = .slice aoG j capG ∧ i = .int .i64 (iJ : Nat) ∧ Hid (wj = bitLen (maxTo mj c j)) ∧ Hid (z.ownsRow y0.heap.size 61 1 (.slice aoG j capG) j (u64v (os.take j))) ∧ Hid (Below y0.heap.size y0 z)) (fun _ _ i _ => E - (intOf i).toNat)
         case atStart => exact ⟨aT, 0, 0, 0, none, Nat.le_refl _, Nat.le_refl _, by have := hEb.out; omega, by decide, rfl, rfl, rfl, Lib.hid (by simp [maxTo, bitLen_zero]), Lib.hid (World.ownsRow_nil _ _ _ _), Lib.hid (Below.refl _ _)⟩
         case round =>
          obtain ⟨iJ, j, wj, capG, aoG, hiJ1, hiJ2, hiJE, hwj, rfl, rfl, rfl, hwB, hownG, hBz⟩ := hrel
          obtain ⟨z, hzz⟩ : ∃ x, x = wr := ⟨_, rfl⟩
          subst hzz
          clear e3
          by_cases hlt2 : iJ < E
          · have e3 : (iJ : Int) < (E : Int) := by omega
            have e4 : (0 : Int) ≤ (iJ : Int) := by omega
            have e4n : (iJ : Int) < (n : Int) := by have := hEb.out; omega
            obtain ⟨iP, hiP⟩ : ∃ p, p = iJ - 1 := ⟨_, rfl⟩
            have hiJ0 : 1 ≤ iJ := by have := HaT.out; omega
            have eiP : (iJ : Int) - 1 = (iP : Int) := by omega
            have e5 : (0 : Int) ≤ (iP : Int) := by omega
            have e6 : (iP : Int) < (n : Int) := by have := hEb.out; omega
            obtain ⟨_, _, e9, hbb2, ca⟩ := Hc.out iJ (by have := hEb.out; omega)
            cases e9
            obtain ⟨_, _, e9, -, cp⟩ := Hc.out iP (by have := hEb.out; omega)
            cases e9
            obtain ⟨ua, hua⟩ : ∃ x, x = l.getD iJ 0 := ⟨_, rfl⟩
            obtain ⟨up, hup⟩ : ∃ x, x = l.getD iP 0 := ⟨_, rfl⟩
            rw [i64c, ← hua] at ca
            rw [i64c, ← hup] at cp
            have ca' := ((bmore HB0.out hBz.out).cell (by exact hbb2)).trans ca
            have cp' := ((bmore HB0.out hBz.out).cell (by exact hbb2)).trans cp
            obtain ⟨d, hd⟩ : ∃ d, d = c.getD j 0 := ⟨_, rfl⟩
            have hwd : IntKind.i64.wrap (ua - up) = d := by
             rw [w64_wrap, hd, hcg.out j (by omega), hua, hup, show aT + j = iJ by omega, hiP]
            obtain ⟨dU, hdU⟩ : ∃ dU : Nat, (dU : Int) = d % 18446744073709551616 := ⟨(d % 18446744073709551616).toNat, by omega⟩
            have edU : IntKind.u64.wrap d = (dU : Int) := by rw [IntKind.wrap_u64]; omega
            obtain ⟨o, ho⟩ : ∃ o, o = overN mj d := ⟨_, rfl⟩
            have ho64 : o < 18446744073709551616 := by rw [ho]; exact overN_lt _ _
            have eo : IntKind.u64.wrap ((dU : Int) - (mU : Int)) = (o : Int) := by
             have h1 := HmU.out
             rw [IntKind.wrap_u64, ho]; unfold overN; omega
            obtain ⟨w2, hw2⟩ : ∃ x, x = max wj (bitLen o) := ⟨_, rfl⟩
            have hb64 : bitLen o ≤ 64 := bitLen_le64 o ho64
            have hw264 : w2 ≤ 64 := by omega
            obtain ⟨bo, hbo⟩ : ∃ x, x = bitLen o := ⟨_, rfl⟩
            have hmax := fun w' : World => run_max_int2 (P := Tryz.prog) (w := w') #[3, 3] 3 .i64 (wj : Int) (bo : Int) (w2 : Int) (by rw [hw2, ← hbo]; omega)
            have hs : Hid (w2 = bitLen (maxTo mj c (j + 1))) := Lib.hid (by rw [maxTo_succ mj c j (by rw [hcl.out]; omega), bitLen_max, ← hwB.out, ← hd, ← ho, hw2])
            have htk : Hid (u64v (os.take (j + 1)) = u64v (os.take j) ++ [Value.int .u64 (o : Nat)]) := Lib.hid (by
             rw [List.take_succ_eq_append_getElem (by rw [Hos.out, List.length_map, hcl.out]; omega), ← u64v_append]
             simp only [u64v, List.map_cons, List.map_nil, Hos.out, List.getElem_map]
             rw [ho, hd, List.getD_eq_getElem?_getD, List.getElem?_eq_getElem (by rw [hcl.out]; omega)]
             rfl)
            have HWd := Lib.hid (fun w' : World => rwidth_n o w' ho64)
            rw [← hbo] at HWd
            clear hiP hua hup hd hdU ho hw2 hbo ca cp hbb2
            go_wp2
            go_quiet (fail)
            go_wp2_with fail
            refine (HWd.out _).mono ?_
            rintro e x2 ⟨rfl, rfl⟩
            have hbA := balloc (below_drewN (Below.refl z.heap.size z) nq) (.cells #[.int .u64 (o : Int)] 61)
            have hownA := own_below hownG.out hbA
            have hsA : y0.heap.size ≤ ((z.drewN nq).alloc (.cells #[.int .u64 (o : Int)] 61)).heap.size := Nat.le_trans hBz.out.size hbA.size
            have hj32 : j ≤ 32 := by have := hEb.out; omega
            go_wp2_with (at_builtin; refine wpList_append_all1 sl_u64 rfl (.tmp 83) (.tmp 85) rfl rfl hownA rfl (cells_one (z.drewN nq) 61 (.int .u64 (o : Int))) (fun h => by cases h) (fun _ _ => rfl) (by unfold maxLen; omega) (by omega) hsA ?_)
            intro v' y2 ho2 hg2
            have hb2 : Below y0.heap.size y0 y2 := (bmore hBz.out hbA).grown hg2 hsA (fun k hk => (hownA.lt k hk).1)
            rw [← htk.out] at ho2
            obtain ⟨ao3, cap3, rfl, -⟩ := own_cells ho2
            have H3 := Lib.hid ho2; have Hb2 := Lib.hid hb2
            clear ho2 hg2 hb2 hownA hsA hbA hownG
            go_wp2
            go_roundw
            case rel => exact ⟨iJ + 1, j + 1, w2, cap3, ao3, by omega, by omega, by omega, hw264, rfl, rfl, by go_num, hs, H3, Hb2⟩
            case measure => simp [intOf]; omega
          · have e3 : ¬ (iJ : Int) < (E : Int) := by omega
            have hjc : j = E - aT := by have := hEb.out; omega
            have hj32 : j ≤ 32 := by have := hEb.out; omega
            have hos : os = overs c := by rw [Hos.out, hm.out]; rfl
            have hol : Hid (os.length = j) := Lib.hid (by rw [Hos.out, List.length_map, hcl.out, hjc])
            have ho64 : Hid (∀ x ∈ os, x < 18446744073709551616) := Lib.hid (fun x hx => by
             rw [hos] at hx
             obtain ⟨d, -, rfl⟩ := List.mem_map.1 hx
             exact overN_lt _ _)
            have hW : Hid (blockW c = wj) := Lib.hid (by unfold blockW; rw [hwB.out, ← hm.out, hcl.out, hjc])
            have hpk : Hid (packedAny os wj = packed os wj) := Lib.hid (by unfold packedAny; rw [if_pos (by omega), Int.toNat_natCast])
            have hfin : Hid (rSoFar l (k + 1) = rSoFar l k ++ (vputB (zigN mj) ++ wj :: packed os wj)) := Lib.hid (by
             rw [rSoFar_succ, ← Hcd.out]; unfold blockB; rw [hW.out, ← hos, ← hm.out]; simp only [List.append_assoc, List.cons_append, List.nil_append])
            have hnB : nB ≤ 10 + 300 * k := by rw [← hrow0.out.1]; exact rSoFar_length l k
            have hk4 : k ≤ 130 := by have := HaT.out; have := hEb.out; omega
            have hownG2 : z.ownsRow y0.heap.size 61 1 (.slice aoG j capG) j (u64v os) := by have h := hownG.out; rwa [List.take_of_length_le (by rw [hol.out]; omega)] at h
            obtain ⟨_, _, hsl, hcU, -⟩ := own_u64 hownG2
            simp only [Value.slice.injEq, true_and] at hsl
            obtain ⟨rfl, rfl⟩ := hsl
            have hzn : aoG = none → j = 0 := by
             intro e; subst e
             rcases hownG2.2 with ⟨h, -⟩ | ⟨_, _, _, h, -⟩ <;> cases h; rfl
            have HcU := Lib.hid hcU
            have hrZ := hrow0.out.below hBz.out
            have wW : IntKind.u8.wrap (wj : Int) = (wj : Int) := by rw [IntKind.wrap_u8]; omega
            have HPut := Lib.hid (rvput_any aoB nB capB (rSoFar l k) (zigN mj) z hrZ.1 hrZ.cells hrZ.nil0 (by omega) (zigN_lt _ hm64.out))
            have hzlt := zigN_lt mj hm64.out
            have HBZ := Lib.hid (bmore HB0.out hBz.out)
            have HrZ1 := Lib.hid hrZ.1
            have HsZ := Lib.hid hBz.out.size
            clear hwB hownG hBz hjc hos hownG2 hcU hrZ hrow0
            go_wp2_with fail
            refine (rzig_any mj _ hm64.out).mono ?_
            rintro e x2 ⟨rfl, rfl⟩
            go_wp2_with fail
            refine HPut.out.mono ?_
            intro e x2 hg
            obtain ⟨aoV, nV, capV, rfl, HnV, -, -, hrV, hb2⟩ := hg.opened
            have hnV : nV ≤ nB + 10 := by
             have h1 := (vputB_length (zigN mj)).2
             have h2 := HnV.out
             rw [List.length_append, HrZ1.out] at h2; omega
            have HrA := Lib.hid (hrV.alloc (.cells #[.int .u8 (wj : Int)] 5)); have Hb2 := Lib.hid hb2
            clear hg hrV hb2
            go_wp2_with (at_builtin; refine wpList_append_rowB rfl (.tmp 90) (.tmp 93) rfl rfl HrA.out rfl rfl (cells_byte x2 (wj : Int) wj rfl) (fun h => by cases h) (by omega) (by have := Hb2.out.size; simp; omega) ?_)
            intro ao3 cap3 x3 hr3 hb3 hs3
            have hb23 : Below z.heap.size z x3 := (balloc Hb2.out _).trans hb3
            have Hr3 := Lib.hid hr3; have Hb23 := Lib.hid hb23
            have HPk := Lib.hid (rpack_any aoG j capG (wj : Nat) os x3 hol.out (by omega) ho64.out (HcU.out.at hb23))
            rw [hpk.out] at HPk
            clear hr3 hb3 hs3 hb23
            go_wp2_with fail
            refine HPk.out.mono ?_
            rintro e x4 ⟨v4, rfl, hf4⟩
            obtain ⟨aoK, capK, hv3, hlK, hcK, hzK⟩ := own_u8c hf4.1
            subst hv3
            have hb4 := hf4.2
            have hr4 := Hr3.out.below hb4
            obtain ⟨nK, hnK⟩ : ∃ nK, nK = (u8v (packed os wj)).length := ⟨_, rfl⟩
            rw [← hnK] at hcK hzK hlK ⊢
            have hkl : nK ≤ 64 * 32 := by
             rw [← hlK, packed_length, hol.out]; unfold packSize
             have : j * wj ≤ 32 * 64 := Nat.mul_le_mul hj32 hwj
             omega
            have HlK := Lib.hid hlK
            have Hb4 := Lib.hid (bmore Hb23.out hb4)
            clear hf4 hnK hlK hb4
            go_wp2_with (at_builtin; refine wpList_append_rowB rfl (.tmp 95) (.tmp 98) rfl rfl hr4 rfl HlK.out hcK hzK (by omega) Hb4.out.size ?_)
            intro ao5 cap5 x5 hr5 hb5 hs5
            rw [← hfin.out] at hr5
            have HB5 := Lib.hid (bmore HBZ.out (Hb4.out.trans hb5))
            have Hr5 := Lib.hid (hr5.base HBZ.out.size)
            clear hr5 hb5 hs5 hr4 hcK
            go_wp2
            exact ⟨⟨k + 1, aT + 32, _, _, ao5, rfl, by go_num, by have := HaT.out; omega, by have := hEb.out; omega, Hr5, HB5⟩, by have := hEb.out; simp [intOf]; omega⟩
    · have e3 : ¬ (aT : Int) < (n : Int) := by omega
      have hk : Hid (k = nBlocks (diffs l)) := Lib.hid (by unfold nBlocks; rw [diffs_length, Hl.out]; omega)
      clear haT
      go_wp2
      go_ret
      have h : rSoFar l k = dIntsB l := by
       unfold rSoFar dIntsB
       rw [if_neg (fun e => by have := Hl.out; rw [e] at this; exact hn0 this.symm), hk.out]
      rw [← h]
      exact GaveB.of hrow.out.1.symm hrow.out hbel.out
end Go.Proofs.YtebmbkbnngeabaaGreat

set_option linter.unusedSimpArgs false
namespace Go.Proofs.YtebmbkbnngeabaaGreat
open Go.RowKit
set_option linter.unusedVariables false
set_option maxHeartbeats 4000000 in
set_option maxRecDepth 100000 in
theorem rplainE_2 (ao : Option Addr) (len cap : Nat) (l : List Vl) (w : World) (hl : l.length = len) (hlen : len ≤ 4000) (hs : ∀ v ∈ l, v.2.size ≤ 100) (hc : CellsAt w w.heap.size ao (len * 2) (vlc l)) :
 Calls Tryz.prog 19 #[.int .i64 2, .slice ao len cap] w fun e w' => ∃ v, e = .returned v ∧ Fresh w w' 5 v (u8v (encs 2 l)) := by
 have Hl := Lib.hid hl; clear hl
 have Hs := Lib.hid hs; clear hs
 go_enter Tryz.func19, Tryz.ntmps19
 go_wp2
 go_loopw [5, 6, 7] (fun v tr i wr => ∃ j n : Nat, j ≤ len ∧ tr = .slice none 0 0 ∧ i = .int .i64 j ∧ Hid (n = (encs 2 (l.take j)).length) ∧ n ≤ 104 * j ∧ wr.ownsRow w.heap.size 5 1 v n (u8v (encs 2 (l.take j))) ∧ Below w.heap.size w wr) (fun _ _ i _ => len - (intOf i).toNat)
 case atStart => exact ⟨0, 0, Nat.zero_le _, rfl, rfl, Lib.hid rfl, Nat.zero_le _, World.ownsRow_nil _ _ _ _, Below.refl _ _⟩
 case round =>
  obtain ⟨j, n, hj, rfl, rfl, hn, hn2, hown, hwr⟩ := hrel
  by_cases hlt : j < len
  · obtain ⟨b, off, rfl, hb, c0, c1⟩ := hc.val hlt
    have c0' := (hwr.cell (by exact hb)).trans c0
    have c1' := (hwr.cell (by exact hb)).trans c1
    clear c0 c1 hc
    obtain ⟨v, hv⟩ : ∃ v, v = l.getD j vl0 := ⟨_, rfl⟩
    rw [vN, ← hv] at c0'
    rw [vS, ← hv] at c1'
    have htk : Hid (encs 2 (l.take (j + 1)) = encs 2 (l.take j) ++ lowB (u64of v.1) 4) := Lib.hid (by
     rw [take_vl l j (by rw [Hl.out]; exact hlt), encs_snoc, ← hv]; rfl)
    clear hv
    obtain ⟨aoB, capB, rfl, hlB, hcB, hnB⟩ := own_u8c hown
    have hHl := Lib.hid hlB; clear hlB
    have e1 : (j : Int) < (len : Int) := by omega
    have e2 : (0 : Int) ≤ (j : Int) := by omega
    have hw : IntKind.u64.wrap v.1 = (u64of v.1 : Nat) := by rw [IntKind.wrap_u64]; exact u64of_eq _
    have hu := u64of_lt v.1
    go_wp2_with fail
    refine (rput_n aoB n capB (encs 2 (l.take j)) 4 4 (u64of v.1) _ hHl.out hcB (fun e => (hnB e).1) (by omega) hu (.inr ⟨rfl, by decide⟩)).mono ?_
    rintro e x1 ⟨ao1, cap1, rfl, hc1, hn1, hr1, hx1⟩
    obtain ⟨L, hL⟩ : ∃ L, L = (encs 2 (l.take j) ++ lowB (u64of v.1) 4).length := ⟨_, rfl⟩
    have hL2 : Hid (L = n + 4) := Lib.hid (by rw [hL, List.length_append, lowB_length, hHl.out])
    have ho1 := own_base (hr1.own (by have := hL2.out; omega)) (base' := w.heap.size) hwr.size
    rw [← hL] at ho1 ⊢
    rw [← htk.out] at ho1
    have hwr1 : Below w.heap.size w x1 := bmore hwr hx1
    have Htk : Hid (L = (encs 2 (l.take (j + 1))).length) := Lib.hid (by rw [htk.out, ← hL])
    clear hL hc1 hn1 hr1 hx1 hcB hown hwr
    go_wp2
    go_roundw
    case rel => exact ⟨j + 1, L, by omega, rfl, by go_num, Htk, by have := hL2.out; omega, ho1, hwr1⟩
    case measure => simp [intOf]; omega
  · obtain rfl : j = len := by omega
    have hall : l.take j = l := List.take_of_length_le (by rw [Hl.out]; exact Nat.le_refl _)
    rw [hall] at hown
    have Hn : Hid (n = (encs 2 l).length) := Lib.hid (by rw [hn.out, hall])
    clear hn hall hc
    go_wp2
    go_ret
    exact ⟨_, rfl, ⟨by rw [u8v_length, ← Hn.out]; exact hown, hwr⟩⟩
set_option maxHeartbeats 4000000 in
set_option maxRecDepth 100000 in
theorem rplainE_3 (ao : Option Addr) (len cap : Nat) (l : List Vl) (w : World) (hl : l.length = len) (hlen : len ≤ 4000) (hs : ∀ v ∈ l, v.2.size ≤ 100) (hc : CellsAt w w.heap.size ao (len * 2) (vlc l)) :
 Calls Tryz.prog 19 #[.int .i64 3, .slice ao len cap] w fun e w' => ∃ v, e = .returned v ∧ Fresh w w' 5 v (u8v (encs 3 l)) := by
 have Hl := Lib.hid hl; clear hl
 have Hs := Lib.hid hs; clear hs
 go_enter Tryz.func19, Tryz.ntmps19
 go_wp2
 go_loopw [5, 6, 7] (fun v tr i wr => ∃ j n : Nat, j ≤ len ∧ tr = .slice none 0 0 ∧ i = .int .i64 j ∧ Hid (n = (encs 3 (l.take j)).length) ∧ n ≤ 104 * j ∧ wr.ownsRow w.heap.size 5 1 v n (u8v (encs 3 (l.take j))) ∧ Below w.heap.size w wr) (fun _ _ i _ => len - (intOf i).toNat)
 case atStart => exact ⟨0, 0, Nat.zero_le _, rfl, rfl, Lib.hid rfl, Nat.zero_le _, World.ownsRow_nil _ _ _ _, Below.refl _ _⟩
 case round =>
  obtain ⟨j, n, hj, rfl, rfl, hn, hn2, hown, hwr⟩ := hrel
  by_cases hlt : j < len
  · obtain ⟨b, off, rfl, hb, c0, c1⟩ := hc.val hlt
    have c0' := (hwr.cell (by exact hb)).trans c0
    have c1' := (hwr.cell (by exact hb)).trans c1
    clear c0 c1 hc
    obtain ⟨v, hv⟩ : ∃ v, v = l.getD j vl0 := ⟨_, rfl⟩
    rw [vN, ← hv] at c0'
    rw [vS, ← hv] at c1'
    have htk : Hid (encs 3 (l.take (j + 1)) = encs 3 (l.take j) ++ lowB (u64of v.1) 8) := Lib.hid (by
     rw [take_vl l j (by rw [Hl.out]; exact hlt), encs_snoc, ← hv]; rfl)
    clear hv
    obtain ⟨aoB, capB, rfl, hlB, hcB, hnB⟩ := own_u8c hown
    have hHl := Lib.hid hlB; clear hlB
    have e1 : (j : Int) < (len : Int) := by omega
    have e2 : (0 : Int) ≤ (j : Int) := by omega
    have hw : IntKind.u64.wrap v.1 = (u64of v.1 : Nat) := by rw [IntKind.wrap_u64]; exact u64of_eq _
    have hu := u64of_lt v.1
    go_wp2_with fail
    refine (rput_n aoB n capB (encs 3 (l.take j)) 8 8 (u64of v.1) _ hHl.out hcB (fun e => (hnB e).1) (by omega) hu (.inr ⟨rfl, by decide⟩)).mono ?_
    rintro e x1 ⟨ao1, cap1, rfl, hc1, hn1, hr1, hx1⟩
    obtain ⟨L, hL⟩ : ∃ L, L = (encs 3 (l.take j) ++ lowB (u64of v.1) 8).length := ⟨_, rfl⟩
    have hL2 : Hid (L = n + 8) := Lib.hid (by rw [hL, List.length_append, lowB_length, hHl.out])
    have ho1 := own_base (hr1.own (by have := hL2.out; omega)) (base' := w.heap.size) hwr.size
    rw [← hL] at ho1 ⊢
    rw [← htk.out] at ho1
    have hwr1 : Below w.heap.size w x1 := bmore hwr hx1
    have Htk : Hid (L = (encs 3 (l.take (j + 1))).length) := Lib.hid (by rw [htk.out, ← hL])
    clear hL hc1 hn1 hr1 hx1 hcB hown hwr
    go_wp2
    go_roundw
    case rel => exact ⟨j + 1, L, by omega, rfl, by go_num, Htk, by have := hL2.out; omega, ho1, hwr1⟩
    case measure => simp [intOf]; omega
  · obtain rfl : j = len := by omega
    have hall : l.take j = l := List.take_of_length_le (by rw [Hl.out]; exact Nat.le_refl _)
    rw [hall] at hown
    have Hn : Hid (n = (encs 3 l).length) := Lib.hid (by rw [hn.out, hall])
    clear hn hall hc
    go_wp2
    go_ret
    exact ⟨_, rfl, ⟨by rw [u8v_length, ← Hn.out]; exact hown, hwr⟩⟩
set_option maxHeartbeats 4000000 in
set_option maxRecDepth 100000 in
theorem rplainE_4 (ao : Option Addr) (len cap : Nat) (l : List Vl) (w : World) (hl : l.length = len) (hlen : len ≤ 4000) (hs : ∀ v ∈ l, v.2.size ≤ 100) (hc : CellsAt w w.heap.size ao (len * 2) (vlc l)) :
 Calls Tryz.prog 19 #[.int .i64 4, .slice ao len cap] w fun e w' => ∃ v, e = .returned v ∧ Fresh w w' 5 v (u8v (encs 4 l)) := by
 have Hl := Lib.hid hl; clear hl
 have Hs := Lib.hid hs; clear hs
 go_enter Tryz.func19, Tryz.ntmps19
 go_wp2
 go_loopw [5, 6, 7] (fun v tr i wr => ∃ j n : Nat, j ≤ len ∧ tr = .slice none 0 0 ∧ i = .int .i64 j ∧ Hid (n = (encs 4 (l.take j)).length) ∧ n ≤ 104 * j ∧ wr.ownsRow w.heap.size 5 1 v n (u8v (encs 4 (l.take j))) ∧ Below w.heap.size w wr) (fun _ _ i _ => len - (intOf i).toNat)
 case atStart => exact ⟨0, 0, Nat.zero_le _, rfl, rfl, Lib.hid rfl, Nat.zero_le _, World.ownsRow_nil _ _ _ _, Below.refl _ _⟩
 case round =>
  obtain ⟨j, n, hj, rfl, rfl, hn, hn2, hown, hwr⟩ := hrel
  by_cases hlt : j < len
  · obtain ⟨b, off, rfl, hb, c0, c1⟩ := hc.val hlt
    have c0' := (hwr.cell (by exact hb)).trans c0
    have c1' := (hwr.cell (by exact hb)).trans c1
    clear c0 c1 hc
    obtain ⟨v, hv⟩ : ∃ v, v = l.getD j vl0 := ⟨_, rfl⟩
    rw [vN, ← hv] at c0'
    rw [vS, ← hv] at c1'
    have hv100 : v.2.size ≤ 100 := by
     rw [hv, List.getD_eq_getElem?_getD, List.getElem?_eq_getElem (by rw [Hl.out]; exact hlt)]
     exact Hs.out _ (List.getElem_mem _)
    have htk : Hid (encs 4 (l.take (j + 1)) = (encs 4 (l.take j) ++ lowB v.2.size 4) ++ strB v.2) := Lib.hid (by
     rw [take_vl l j (by rw [Hl.out]; exact hlt), encs_snoc, ← hv, List.append_assoc]; rfl)
    clear hv
    obtain ⟨aoB, capB, rfl, hlB, hcB, hnB⟩ := own_u8c hown
    have hHl := Lib.hid hlB; clear hlB
    have e1 : (j : Int) < (len : Int) := by omega
    have e2 : (0 : Int) ≤ (j : Int) := by omega
    have hw : IntKind.u64.wrap (v.2.size : Int) = (v.2.size : Nat) := IntWalk.u64_in _ (by omega)
    go_wp2
    refine wp_region_linH [(0, 0), (1, 0), (2, 0), (3, 0), (4, 0), (5, 0), (6, 0), (7, 0), (9, 0), (10, 0), (11, 0), (12, 0), (13, 0), (8, 1), (14, 2), (15, 0)] [14] (by kernel_rfl) (by kernel_rfl) (fun d _ _ _ _ h => by cases d <;> exact h) ?_
    have hf1 : ∀ w', Grows wr.drew w' → w'.cell? ⟨b, off + j * 2 + 1, none⟩ = some (.string v.2) := fun w' hg => (Grows.toDrew hg).cell c1'
    repeat (first
     | (refine wpLinH_skip rfl rfl (fun K hK => ?_); go_simp; refine hK _ ?_; clear hK K)
     | (refine wpLinH_take (v := ?_) rfl rfl (fun w' hw' => ?_) (fun K hK => ?_); rotate_left; (go_simp; rfl); (go_simp; refine hK _ ?_; clear hK K)))
    refine wpLinH_do rfl (fun K hK => ?_); go_simp
    refine (rput_n aoB n capB (encs 4 (l.take j)) 4 4 v.2.size _ hHl.out hcB.drew (fun e => (hnB e).1) (by omega) (by omega) (.inr ⟨rfl, by decide⟩)).mono ?_
    rintro e x1 ⟨ao1, cap1, rfl, hc1, hn1, hr1, hx1⟩
    refine hK _ _ hx1 ?_; clear hK K
    obtain ⟨L, hL⟩ : ∃ L, L = (encs 4 (l.take j) ++ lowB v.2.size 4).length := ⟨_, rfl⟩
    have hL2 : L = n + 4 := by rw [hL, List.length_append, lowB_length, hHl.out]
    have ho1 := own_base (hr1.own (by omega)) (base' := w.heap.size) hwr.drew.size
    rw [← hL] at ho1 ⊢
    have hwr1 : Below w.heap.size w x1 := hwr.trans ((Grows.toDrew hx1).mono hwr.size)
    have Htk : Hid (L + v.2.size = (encs 4 (l.take (j + 1))).length) := Lib.hid (by rw [htk.out, List.length_append, ← hL, strB_length])
    clear hL hc1 hn1 hr1 hx1
    refine wpLinH_hard rfl (fun K hK => ?_)
    refine step_append_str rfl (.tmp 23) (.tmp 28) rfl rfl ho1 rfl (by omega) hwr1.size ?_
    intro v' y hown' hgrow
    rw [← htk.out] at hown'
    have hy := hwr1.grown hgrow hwr1.size (fun j hj => (ho1.lt j hj).1)
    go_simp; refine hK _ _ ?_; clear hK K
    repeat (first
     | (refine wpLinH_skip rfl rfl (fun K hK => ?_); go_simp; refine hK _ ?_; clear hK K)
     | (refine wpLinH_take (v := ?_) rfl rfl (fun w' hw' => ?_) (fun K hK => ?_); rotate_left; (go_simp; rfl); (go_simp; refine hK _ ?_; clear hK K)))
    refine wpLinH_nil ?_
    go_wp2
    go_roundw
    case rel => exact ⟨j + 1, L + v.2.size, by omega, rfl, by go_num, Htk, by omega, hown', hy⟩
    case measure => simp [intOf]; omega
  · obtain rfl : j = len := by omega
    have hall : l.take j = l := List.take_of_length_le (by rw [Hl.out]; exact Nat.le_refl _)
    rw [hall] at hown
    have Hn : Hid (n = (encs 4 l).length) := Lib.hid (by rw [hn.out, hall])
    clear hn hall hc
    go_wp2
    go_ret
    exact ⟨_, rfl, ⟨by rw [u8v_length, ← Hn.out]; exact hown, hwr⟩⟩
set_option maxHeartbeats 4000000 in
set_option maxRecDepth 100000 in
theorem rplainE_1 (ao : Option Addr) (len cap : Nat) (l : List Vl) (w : World) (hl : l.length = len) (hlen : len ≤ 4000) (hc : CellsAt w w.heap.size ao (len * 2) (vlc l)) :
 Calls Tryz.prog 19 #[.int .i64 1, .slice ao len cap] w fun e w' => ∃ v, e = .returned v ∧ Fresh w w' 5 v (u8v (packed (l.map fun v => u64of v.1) 1)) := by
 have Hl := Lib.hid hl; clear hl
 go_enter Tryz.func19, Tryz.ntmps19
 go_wp2
 go_loopw [6, 7] (fun v i wr => ∃ j : Nat, j ≤ len ∧ i = .int .i64 j ∧ wr.ownsRow w.heap.size 61 1 v j (u64v ((l.take j).map fun v => u64of v.1)) ∧ Below w.heap.size w wr) (fun _ i _ => len - (intOf i).toNat)
 case atStart => exact ⟨0, Nat.zero_le _, rfl, World.ownsRow_nil _ _ _ _, Below.refl _ _⟩
 case round =>
  obtain ⟨j, hj, rfl, hown, hwr⟩ := hrel
  by_cases hlt : j < len
  · obtain ⟨b, off, rfl, hb, c0, c1⟩ := hc.val hlt
    have c0' := (hwr.cell (by exact hb)).trans c0
    clear c0 c1 hc
    obtain ⟨v, hv⟩ : ∃ v, v = l.getD j vl0 := ⟨_, rfl⟩
    rw [vN, ← hv] at c0'
    have htk : Hid (u64v ((l.take j).map fun v => u64of v.1) ++ [.int .u64 (u64of v.1 : Nat)] = u64v ((l.take (j + 1)).map fun v => u64of v.1)) := Lib.hid (by
     rw [take_vl l j (by rw [Hl.out]; exact hlt), ← hv, List.map_append, ← u64v_append]; rfl)
    clear hv
    have e1 : (j : Int) < (len : Int) := by omega
    have e2 : (0 : Int) ≤ (j : Int) := by omega
    have hw : IntKind.u64.wrap v.1 = (u64of v.1 : Nat) := by rw [IntKind.wrap_u64]; exact u64of_eq _
    have hu := u64of_lt v.1
    go_wp2_with (at_builtin; refine wpList_append_all1 sl_u64 rfl (.tmp 32) (.tmp 39) rfl rfl (hown.alloc _) rfl (cells_one wr 61 (.int .u64 (u64of v.1 : Nat))) (fun e => by cases e) (fun _ _ => rfl) (by unfold maxLen; omega) (by omega) (by have := hwr.size; simp; omega) ?_)
    intro v' y hown' hgrow
    have hy := (balloc hwr _).grown hgrow (balloc hwr _).size (fun j hj => (hown.lt j hj).1)
    have hown' : y.ownsRow w.heap.size 61 1 v' (j + 1) (u64v ((l.take (j + 1)).map fun v => u64of v.1)) := by rw [← htk.out, List.map_take]; exact hown'
    clear hown hgrow hwr
    go_wp2
    go_roundw
    case rel => exact ⟨j + 1, by omega, by go_num, hown', hy⟩
    case measure => simp [intOf]; omega
  · obtain rfl : j = len := by omega
    have hall : l.take j = l := List.take_of_length_le (by rw [Hl.out]; exact Nat.le_refl _)
    rw [hall] at hown
    clear hall hc
    obtain ⟨aoG, capG, rfl, hcG, -⟩ := own_u64 hown
    have Hu : Hid (∀ x ∈ l.map fun v => u64of v.1, x < 18446744073709551616) := Lib.hid (by
     intro x hx
     obtain ⟨v, -, rfl⟩ := List.mem_map.1 hx
     exact u64of_lt _)
    clear hown
    go_wp2_with fail
    refine (rpack_any aoG j capG 1 _ _ (by rw [List.length_map, Hl.out]) (by omega) Hu.out hcG).mono ?_
    rw [show packedAny (l.map fun v => u64of v.1) 1 = packed (l.map fun v => u64of v.1) 1 from if_pos (by decide)]
    rintro e x1 ⟨v1, rfl, hf1⟩
    have hf := Lib.hid hf1; clear hf1
    have hwr := Lib.hid hwr
    go_wp2
    go_ret
    exact ⟨_, rfl, own_base hf.out.1 hwr.out.size, bmore hwr.out hf.out.2⟩
theorem rplainE_any (k : Nat) (ao : Option Addr) (len cap : Nat) (l : List Vl) (w : World) (hk : 1 ≤ k) (hk4 : k ≤ 4) (hl : l.length = len) (hlen : len ≤ 4000) (hs : ∀ v ∈ l, v.2.size ≤ 100) (hc : CellsAt w w.heap.size ao (len * 2) (vlc l)) :
 Calls Tryz.prog 19 #[.int .i64 k, .slice ao len cap] w fun e w' => ∃ v, e = .returned v ∧ Fresh w w' 5 v (u8v (plainB k l)) := by
 have hk' : k = 1 ∨ k = 2 ∨ k = 3 ∨ k = 4 := by omega
 rcases hk' with rfl | rfl | rfl | rfl
 · exact rplainE_1 ao len cap l w hl hlen hc
 · exact rplainE_2 ao len cap l w hl hlen hs hc
 · exact rplainE_3 ao len cap l w hl hlen hs hc
 · exact rplainE_4 ao len cap l w hl hlen hs hc
end Go.Proofs.YtebmbkbnngeabaaGreat
