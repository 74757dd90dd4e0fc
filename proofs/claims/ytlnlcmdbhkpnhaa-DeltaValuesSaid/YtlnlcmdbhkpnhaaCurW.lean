/- The walks over slices.Clone, cursor.Put, cursor.New and the Reader. -/
import Derived.Test.YtlnlcmdbhkpnhaaBunB
namespace Go.Proofs.Ytlnlcmdbhkpnhaa
open Go.RowKit
set_option linter.unusedVariables false

/-- A row of bytes of a call's own that may grow. -/
def RowB (w : World) (base : Nat) (ao : Option Addr) (n cap : Nat) (l : List Nat) : Prop :=
  l.length = n ∧ (n = 0 ∧ cap = 0 ∨ 0 < n ∧ w.ownsRow base 5 1 (.slice ao n cap) n (u8v l))
theorem RowB.cap {w : World} {base : Nat} {ao : Option Addr} {n cap : Nat} {l : List Nat} (h : RowB w base ao n cap l) : n ≤ cap := by
  rcases h.2 with ⟨h0, -⟩ | ⟨h0, ho⟩
  · omega
  · rcases ho.2 with ⟨-, h3⟩ | ⟨g, c2, cur, h3, -, -, h4, -⟩
    · omega
    · simp only [Value.slice.injEq] at h3; omega
theorem RowB.cells {w : World} {base : Nat} {ao : Option Addr} {n cap : Nat} {l : List Nat} (h : RowB w base ao n cap l) : CellsAt w w.heap.size ao n (u8c l) := by
  rcases h.2 with ⟨h0, -⟩ | ⟨h0, ho⟩
  · subst h0; exact CellsAt.zero
  · obtain ⟨ao', cap', hv, hc, -⟩ := own_u8 ho
    simp only [Value.slice.injEq, true_and] at hv
    obtain ⟨rfl, rfl⟩ := hv
    exact hc
theorem RowB.base {w : World} {base base' : Nat} {ao : Option Addr} {n cap : Nat} {l : List Nat} (h : RowB w base ao n cap l) (hb : base' ≤ base) : RowB w base' ao n cap l :=
  ⟨h.1, h.2.imp id fun x => ⟨x.1, own_base x.2 hb⟩⟩
theorem RowB.low {w : World} {base : Nat} {ao : Option Addr} {n cap : Nat} {l : List Nat} (h : RowB w base ao n cap l) (hn : 0 < n) (a : Addr) (ha : ao = some a) : base ≤ a.block := by
  rcases h.2 with ⟨h0, -⟩ | ⟨h0, ho⟩
  · omega
  · obtain ⟨ao', cap', hv, -, hb⟩ := own_u8 ho
    simp only [Value.slice.injEq, true_and] at hv
    obtain ⟨rfl, rfl⟩ := hv
    exact hb a ha
theorem RowB.nil0 {w : World} {base : Nat} {ao : Option Addr} {n cap : Nat} {l : List Nat} (h : RowB w base ao n cap l) : ao = none → n = 0 := by
  intro e
  rcases Nat.eq_zero_or_pos n with h0 | h0
  · exact h0
  · obtain ⟨b, off, e2, -⟩ := h.cells 0 h0
    rw [e] at e2; cases e2
theorem RowB.drew {w : World} {base : Nat} {ao : Option Addr} {n cap : Nat} {l : List Nat} (h : RowB w base ao n cap l) : RowB w.drew base ao n cap l := ⟨h.1, h.2.imp id fun x => ⟨x.1, x.2.drew⟩⟩
theorem RowB.alloc {w : World} {base : Nat} {ao : Option Addr} {n cap : Nat} {l : List Nat} (h : RowB w base ao n cap l) (o : Obj) : RowB (w.alloc o) base ao n cap l := ⟨h.1, h.2.imp id fun x => ⟨x.1, x.2.alloc o⟩⟩

/-- 'append(row, x...)' at a row of the call's own. -/
theorem wpList_append_rowB {ops : Array Oper} {Q : Exit → Act → World → Prop} {rest : List Oper} {o : Oper} {a : Act} {w : World} (hgd : o.guard = none) (s x : Operand) (ho : o.op = .call { callee := .builtin .append, args := #[s, x], argTypes := #[26, 26] })
    {base : Nat} {ao : Option Addr} {n cap : Nat} {l : List Nat} (hs : a.eval s = .slice ao n cap) (hrow : RowB w base ao n cap l)
    {B : Nat} {ax : Option Addr} {k c : Nat} {r : List Nat} (hx : a.eval x = .slice ax k c) (hr : r.length = k) (hc : CellsAt w B ax k (u8c r)) (hax : ax = none → k = 0 ∧ c = 0)
    (hb : n + k ≤ 140737488355328) (hbase : base ≤ w.heap.size)
    (h : ∀ ao' cap' w', RowB w' base ao' (n + k) cap' (l ++ r) → Below base w w' → w.heap.size ≤ w'.heap.size → wpList Try.prog ops Q rest (a.put o.dst (.slice ao' (n + k) cap')) w') : wpList Try.prog ops Q (o :: rest) a w := by
  obtain ⟨hl, hrow⟩ := hrow
  rcases hrow with ⟨rfl, rfl⟩ | ⟨hn, hown⟩
  · obtain rfl : l = [] := List.length_eq_zero_iff.1 hl
    refine wpList_append_clone1 sl_u8 hgd s x ho hs hx hc (fun e => (hax e).1) (fun _ _ => rfl) (by unfold maxLen; omega) (by omega) (fun ao' cap' w' r1 r2 r3 => ?_)
    have r4 := r3.row
    rw [range_u8c r k hr] at r4
    have := h ao' cap' w' ⟨by simp [hr], by rw [Nat.zero_add, List.nil_append]; exact r4.imp id fun x => ⟨x.1, own_base x.2 hbase⟩⟩ (r2.mono hbase) r2.size
    rwa [Nat.zero_add] at this
  · refine wpList_append_all1 sl_u8 hgd s x ho hs hown hx hc hax (fun _ _ => rfl) (by unfold maxLen; omega) (by omega) hbase (fun v' w' r1 r2 => ?_)
    rw [range_u8c r k hr, u8v_append] at r1
    obtain ⟨ao', cap', rfl, -, -⟩ := own_u8 r1
    exact h ao' cap' w' ⟨by simp [hl, hr], .inr ⟨by omega, r1⟩⟩ ((Below.refl _ _).grown r2 hbase (fun k hk => (hown.lt k hk).1)) r2.size

/-- The outcome of slices.Clone. -/
def GaveB (w : World) (l : List Nat) (e : Ending) (w' : World) : Prop :=
  ∃ ao cap, e = .returned (.slice ao l.length cap) ∧ CellsAt w' w'.heap.size ao l.length (u8c l) ∧ (ao = none → l.length = 0) ∧ RowB w' w.heap.size ao l.length cap l ∧ Below w.heap.size w w'

set_option maxHeartbeats 1000000 in
theorem clone_any (ao : Option Addr) (n cap : Nat) (l : List Nat) (w : World) (hl : l.length = n) (hc : CellsAt w w.heap.size ao n (u8c l)) (hn : ao = none → n = 0) (hb : n ≤ 140737488355328) :
    Calls Try.prog 30 #[.slice ao n cap] w (GaveB w l) := by
  have Hl := Lib.hid hl; clear hl
  have kn := fun (w : World) (a : Option Addr) (l c : Nat) => Lib.run_eql_slice_nil (P := Try.prog) w 26 5 a l c 0 0 Try.underlying26
  cases ao with
  | none =>
    obtain rfl : n = 0 := hn rfl
    obtain rfl : l = [] := List.length_eq_zero_iff.1 Hl.out
    go_enter Try.func30, Try.ntmps30
    go_wp2
    go_ret
    exact ⟨none, 0, rfl, CellsAt.zero, fun _ => rfl, ⟨rfl, .inl ⟨rfl, rfl⟩⟩, Below.refl _ _⟩
  | some a =>
    go_enter Try.func30, Try.ntmps30
    go_wp2_with (at_builtin; refine wpList_append_clone1 sl_u8 rfl (.tmp 5) (.tmp 6) rfl rfl rfl (hc.alloc (Nat.le_refl _) _) hn (fun _ _ => rfl) (by unfold maxLen; omega) (by omega) ?_)
    intro aoD capD x3 hcD hbD hown
    have hx3 : Below w.heap.size w x3 := (balloc (Below.refl _ _) _).trans (hbD.mono (by simp))
    have hr := Lib.hid hown.row
    have hq := Lib.hid hbD
    clear hown hbD
    go_wp2
    go_ret
    refine ⟨aoD, capD, by rw [Hl.out]; rfl, by rw [Hl.out]; exact hcD, fun e => ?_, ⟨rfl, ?_⟩, hx3⟩
    · rcases Nat.eq_zero_or_pos l.length with h0 | h0
      · exact h0
      · obtain ⟨b, off, e2, -⟩ := hcD 0 (by rw [← Hl.out]; exact h0)
        rw [e] at e2; cases e2
    · rw [Hl.out]
      have h := hr.out
      rw [range_u8c l n Hl.out] at h
      exact h.imp id fun x => ⟨x.1, own_base x.2 (by simp)⟩

set_option maxHeartbeats 1000000 in
theorem new_any (ao : Option Addr) (n cap : Nat) (l : List Nat) (w : World) (hl : l.length = n) (hc : CellsAt w w.heap.size ao n (u8c l)) (hn : ao = none → n = 0) (hb : n ≤ 140737488355328) :
    Calls Try.prog 69 #[.slice ao n cap] w fun e w' => ∃ g, e = .returned (.pointer (some ⟨g, 0, none⟩)) ∧ w.heap.size ≤ g ∧ Rd w' g w.heap.size l 0 ∧ Below w.heap.size w w' := by
  have Hl := Lib.hid hl; clear hl
  go_enter Try.func69, Try.ntmps69
  go_wp2_with (go_at_call 30; refine (clone_any _ _ _ l _ Hl.out hc hn hb).mono ?_; rintro e x1 ⟨ao1, cap1, rfl, hc1, hn1, hr1, hx1⟩)
  go_ret
  refine ⟨x1.heap.size, rfl, hx1.size, ⟨ao1, cap1, ?_, ?_, hn1, hr1.cap, fun h0 a ha => hr1.low h0 a ha⟩, balloc hx1 _⟩
  · rw [heap_alloc_new]; rfl
  · intro i hi
    obtain ⟨b, off, e, hlt, hcc⟩ := hc1 i hi
    exact ⟨b, off, e, hlt, ((balloc (Below.refl _ _) _).cell (by exact hlt)).trans hcc⟩

set_option maxHeartbeats 1000000 in
theorem fail_any (g : Nat) {lo : Nat} (l : List Nat) (e c : Nat) (w : World) (h : Rd w g lo l e) :
    Calls Try.prog 79 #[.pointer (some ⟨g, 0, none⟩), .int .i64 (c : Nat)] w fun r w' => r = .returned (.tuple #[]) ∧ Rd w' g lo (rdFail l e c).1 (rdFail l e c).2 ∧ But g w w' := by
  obtain ⟨ao, cap, hg, hc, hn, hlc, hlo⟩ := h
  have hlo := Lib.hid hlo
  obtain ⟨c0, c1, f0, f1⟩ := two_cells hg
  by_cases he : e = 0
  · subst he
    have s1 := two_set1 hg (.int .i64 (c : Nat))
    obtain ⟨d0, d1, g0, g1⟩ := two_cells s1
    by_cases hcz : c = 0
    · subst hcz
      have Hs := Lib.hid s1; clear s1
      have Hf := Lib.hid hc; clear hc
      go_enter Try.func79, Try.ntmps79
      go_wp2
      go_end0
      exact ⟨rfl, ⟨ao, cap, Hs.out, ((But.refl g w).setCell 1 _).cells (Nat.le_of_lt (Array.getElem?_eq_some_iff.1 hg).1) (Nat.le_refl _) Hf.out, hn, hlc, hlo.out⟩, (But.refl g w).setCell 1 _⟩
    · have s2 := Lib.hid (two_set0 s1 (.slice none 0 0))
      have e1 : ((c : Int) != 0) = true := by simp; omega
      clear s1
      go_enter Try.func79, Try.ntmps79
      go_wp2
      go_end0
      refine ⟨rfl, ?_, ((But.refl g w).setCell 1 _).setCell 0 _⟩
      rw [show rdFail l 0 c = ([], c) by simp [rdFail, hcz]]
      exact ⟨none, 0, s2.out, CellsAt.zero, fun _ => rfl, Nat.le_refl _, fun h => absurd h (by simp)⟩
  · have s2 := Lib.hid (two_set0 hg (.slice none 0 0))
    have e1 : ((e : Int) != 0) = true := by simp; omega
    have e2 : ((e : Int) == 0) = false := by simp; omega
    go_enter Try.func79, Try.ntmps79
    go_wp2
    go_end0
    refine ⟨rfl, ?_, (But.refl g w).setCell 0 _⟩
    rw [show rdFail l e c = ([], e) by simp [rdFail, he]]
    exact ⟨none, 0, s2.out, CellsAt.zero, fun _ => rfl, Nat.le_refl _, fun h => absurd h (by simp)⟩

/-- What End says. -/
def rdEnd (l : List Nat) (e : Nat) : Nat := if e = 0 ∧ 0 < l.length then 9 else e
set_option maxHeartbeats 1000000 in
theorem end_any (g : Nat) {lo : Nat} (l : List Nat) (e : Nat) (w : World) (h : Rd w g lo l e) :
    Calls Try.prog 71 #[.pointer (some ⟨g, 0, none⟩)] w fun r w' => r = .returned (.int .i64 (rdEnd l e : Nat)) ∧ w = w' := by
  obtain ⟨ao, cap, hg, hc, hn, hlc, hlo⟩ := h
  have hlo := Lib.hid hlo
  obtain ⟨c0, c1, f0, f1⟩ := two_cells hg
  clear hg
  by_cases he : e = 0
  · subst he
    by_cases hl : 0 < l.length
    · have e2 : (0 : Int) < (l.length : Int) := by omega
      go_enter Try.func71, Try.ntmps71
      go_wp2
      go_ret
      exact ⟨by simp [rdEnd, hl], rfl⟩
    · have e2 : l.length = 0 := by omega
      go_enter Try.func71, Try.ntmps71
      go_wp2
      go_ret
      exact ⟨by simp [rdEnd, e2], rfl⟩
  · have e2 : ((e : Int) == 0) = false := by simp; omega
    go_enter Try.func71, Try.ntmps71
    go_wp2
    go_ret
    exact ⟨by simp [rdEnd, he], rfl⟩

/-- What take gave. -/
def Took (w : World) (g lo : Nat) (t : List Nat × List Nat × Nat) (r : Ending) (w' : World) : Prop :=
  ∃ ao cap, r = .returned (.slice ao t.1.length cap) ∧ CellsAt w' g ao t.1.length (u8c t.1) ∧ (ao = none → t.1.length = 0) ∧ Rd w' g lo t.2.1 t.2.2 ∧ But g w w'

theorem CellsAt.from {w : World} {B : Nat} {a : Addr} {n m : Nat} {l : List Nat} (h : CellsAt w B (some a) n (u8c l)) (hm : m ≤ n) : CellsAt w B (some (a.add m)) (n - m) (u8c (l.drop m)) := by
  intro i hi
  obtain ⟨b, off, e, hb, hc⟩ := h (m + i) (by omega)
  cases e
  refine ⟨b, off + m, by rw [Addr.add_lit], hb, ?_⟩
  rw [u8c_drop, ← hc, Nat.add_assoc]

set_option maxHeartbeats 1000000 in
theorem take_n (g : Nat) {lo : Nat} (l : List Nat) (e m : Nat) (w : World) (h : Rd w g lo l e) (hl : l.length ≤ 9223372036854775807) :
    Calls Try.prog 82 #[.pointer (some ⟨g, 0, none⟩), .int .i64 (m : Nat)] w (Took w g lo (rdTake l e (m : Nat))) := by
  have hR := Lib.hid h
  obtain ⟨ao, cap, hg, hc, hn, hlc, hlo⟩ := h
  have hlo := Lib.hid hlo
  obtain ⟨c0, c1, f0, f1⟩ := two_cells hg
  by_cases hlt : l.length < m
  · have e1 : (l.length : Int) < (m : Int) := by omega
    have hs : rdTake l e (m : Nat) = ([], rdFail l e 8) := by unfold rdTake; rw [if_pos (by omega)]
    rw [hs]
    clear hg hs
    go_enter Try.func82, Try.ntmps82
    go_wp2_with (go_at_call 79; refine (fail_any _ l e 8 _ hR.out).mono ?_; rintro r x1 ⟨rfl, hr1, hb1⟩)
    go_ret
    exact ⟨none, 0, rfl, CellsAt.zero, fun _ => rfl, hr1, hb1⟩
  · have hs : rdTake l e (m : Nat) = (l.take m, l.drop m, e) := by unfold rdTake; rw [if_neg (by omega), Int.toNat_natCast]
    have hml : m ≤ l.length := by omega
    have e1 : ¬ ((l.length : Int) < (m : Int)) := by omega
    have e3 : (m : Int) ≤ (l.length : Int) := by omega
    rw [hs]
    have Hlen := Lib.hid (List.length_take_of_le hml)
    have Hg := Lib.hid hg
    have Hlt := Lib.hid (Array.getElem?_eq_some_iff.1 hg).1
    clear hs hlt hg
    by_cases hcm : cap = m
    · subst hcm
      have hlm : l.length = cap := by omega
      go_enter Try.func82, Try.ntmps82
      go_wp2
      go_ret
      refine ⟨ao, cap, by simp only [Hlen.out]; rfl, ?_, ?_, ⟨ao, 0, ?_, ?_, ?_, ?_, ?_⟩, (But.refl g w).setCell 0 _⟩
      · rw [Hlen.out]
        exact ((But.refl g w).setCell 0 _).cells (Nat.le_of_lt Hlt.out) (Nat.le_refl _) ((hc.take hml).congr fun i hi => (u8c_take l _ i hi).symm)
      · intro e; rw [Hlen.out, ← hlm]; exact hn e
      · have := two_set0 Hg.out (.slice ao 0 0)
        rw [List.length_drop, hlm, Nat.sub_self]; exact this
      · rw [List.length_drop, hlm, Nat.sub_self]; exact CellsAt.zero
      · intro _; rw [List.length_drop]; omega
      · rw [List.length_drop]; omega
      · intro h; rw [List.length_drop] at h; omega
    · go_enter Try.func82, Try.ntmps82
      go_wp2
      go_ret
      refine ⟨ao, cap, by simp only [Hlen.out]; rfl, ?_, ?_, ⟨ao.map (·.add m), cap - m, ?_, ?_, ?_, ?_, ?_⟩, (But.refl g w).setCell 0 _⟩
      · rw [Hlen.out]
        exact ((But.refl g w).setCell 0 _).cells (Nat.le_of_lt Hlt.out) (Nat.le_refl _) ((hc.take hml).congr fun i hi => (u8c_take l _ i hi).symm)
      · intro e; rw [Hlen.out]; have := hn e; omega
      · have := two_set0 Hg.out (.slice (ao.map (·.add m)) (l.length - m) (cap - m))
        rw [List.length_drop]; exact this
      · rw [List.length_drop]
        refine ((But.refl g w).setCell 0 _).cells (Nat.le_of_lt Hlt.out) (Nat.le_refl _) ?_
        cases ao with
        | none => have h0 := hn rfl; rw [h0, Nat.zero_sub]; exact CellsAt.zero
        | some a => exact hc.from hml
      · intro e
        rw [List.length_drop]
        cases ao with
        | none => have := hn rfl; omega
        | some a => simp at e
      · rw [List.length_drop]; omega
      · intro h a ha
        rw [List.length_drop] at h
        cases ao with
        | none => simp at ha
        | some a2 =>
          simp only [Option.map_some, Option.some.injEq] at ha
          obtain ⟨b, off, e, -, -⟩ := hc 0 (by omega)
          cases e
          rw [← ha, Addr.add_lit]
          exact hlo.out (by omega) ⟨b, off, none⟩ rfl

set_option maxHeartbeats 1000000 in
theorem take_any (g : Nat) {lo : Nat} (l : List Nat) (e : Nat) (n : Int) (w : World) (h : Rd w g lo l e) (hl : l.length ≤ 9223372036854775807) :
    Calls Try.prog 82 #[.pointer (some ⟨g, 0, none⟩), .int .i64 n] w (Took w g lo (rdTake l e n)) := by
  by_cases hn0 : 0 ≤ n
  · obtain ⟨m, rfl⟩ : ∃ m : Nat, n = m := ⟨n.toNat, by omega⟩
    exact take_n g l e m w h hl
  · have hs : rdTake l e n = ([], l, e) := by unfold rdTake; rw [if_neg (by omega), show n.toNat = 0 by omega]; rfl
    rw [hs]
    have hneg : n < 0 := by omega
    obtain ⟨ao, cap, hg, hc, hn, hlc, hlo⟩ := h
    have hlo := Lib.hid hlo
    obtain ⟨c0, c1, f0, f1⟩ := two_cells hg
    have Hg := Lib.hid hg
    have Hlt := Lib.hid (Array.getElem?_eq_some_iff.1 hg).1
    clear hs hg hn0
    by_cases hcm : cap = 0
    · subst hcm
      obtain rfl : l = [] := List.length_eq_zero_iff.1 (by omega)
      go_enter Try.func82, Try.ntmps82
      go_wp2
      go_ret
      exact ⟨ao, 0, rfl, CellsAt.zero, fun _ => rfl, ⟨ao, 0, two_set0 Hg.out _, CellsAt.zero, hn, Nat.le_refl _, hlo.out⟩, (But.refl g w).setCell 0 _⟩
    · go_enter Try.func82, Try.ntmps82
      go_wp2
      go_ret
      refine ⟨ao, cap, rfl, CellsAt.zero, fun _ => rfl, ⟨ao, cap, ?_, ((But.refl g w).setCell 0 _).cells (Nat.le_of_lt Hlt.out) (Nat.le_refl _) hc, hn, hlc, hlo.out⟩, (But.refl g w).setCell 0 _⟩
      have := two_set0 Hg.out (.slice ao l.length cap)
      exact this

set_option maxHeartbeats 1000000 in
theorem rtake_any (g : Nat) {lo : Nat} (l : List Nat) (e : Nat) (n : Int) (w : World) (h : Rd w g lo l e) (hl : l.length ≤ 140737488355328) :
    Calls Try.prog 80 #[.pointer (some ⟨g, 0, none⟩), .int .i64 n] w fun r w' =>
      ∃ ao cap, r = .returned (.slice ao (rdTake l e n).1.length cap) ∧ CellsAt w' w'.heap.size ao (rdTake l e n).1.length (u8c (rdTake l e n).1) ∧ (ao = none → (rdTake l e n).1.length = 0) ∧ RowB w' w.heap.size ao (rdTake l e n).1.length cap (rdTake l e n).1 ∧ Rd w' g lo (rdTake l e n).2.1 (rdTake l e n).2.2 ∧ But g w w' := by
  have hlt := h.lt
  have hle : (rdTake l e n).1.length ≤ l.length := by unfold rdTake; split <;> simp [List.length_take]; omega
  have hT := fun (w : World) h => take_any g (lo := lo) l e n w h (by omega)
  obtain ⟨t, ht⟩ : ∃ t, t = rdTake l e n := ⟨_, rfl⟩
  rw [← ht] at hT hle ⊢
  have hC := fun (w : World) (ao : Option Addr) (n cap : Nat) (h1 : t.1.length = n) h2 h3 h4 => clone_any ao n cap t.1 w h1 h2 h3 h4
  clear ht
  go_enter Try.func80, Try.ntmps80
  go_wp2_with (go_at_call 82; refine (hT _ h).mono ?_; rintro r x1 ⟨ao, cap, rfl, hc1, hn1, hr1, hb1⟩)
  refine (hC _ _ _ _ rfl (hc1.mono (Nat.le_of_lt hr1.lt)) hn1 (by omega)).mono ?_
  rintro r x2 ⟨ao2, cap2, rfl, hc2, hn2, hrow, hb2⟩
  have hrow := hrow.base hb1.size
  go_wp2
  go_ret
  exact ⟨ao2, cap2, rfl, hc2, hn2, hrow, hr1.keep hb2, hb1.trans (But.of hb2)⟩
end Go.Proofs.Ytlnlcmdbhkpnhaa
