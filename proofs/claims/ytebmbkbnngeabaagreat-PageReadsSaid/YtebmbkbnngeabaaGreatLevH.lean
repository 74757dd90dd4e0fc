/- Chapter 10: the walks over a row's reading and Decode. -/
import Derived.Test.YtebmbkbnngeabaaGreatLevG
import Derived.Test.YtebmbkbnngeabaaGreatBunC
set_option linter.unusedSimpArgs false
namespace Go.Proofs.YtebmbkbnngeabaaGreat
open Go.RowKit
set_option linter.unusedVariables false
theorem RowPost.trans {w w1 w' : World} {g n wd : Nat} {r : List Nat × List Nat × Nat} {e : Ending} (h : RowPost w1 g n wd r e w') (hb : Below g w w1) : RowPost w g n wd r e w' := ⟨h.1, hb.trans h.2.1, h.2.2⟩
set_option maxHeartbeats 4000000 in
set_option maxRecDepth 100000 in
theorem lrow_any (g n wd : Nat) (b l : List Nat) (w : World) (h : LRd w g b n wd l) (hn : n ≤ 4000) (hl : l.length < n) (h1 : 1 ≤ wd) (h16 : wd ≤ 16) (h256 : ∀ x ∈ b, x < 256) (hb : b.length ≤ 1000000000) :
 Calls Tryz.prog 53 #[.pointer (some ⟨g, 0, none⟩)] w (RowPost w g n wd (decRow wd n b l)) := by
 have hglt := h.lt
 have HR := Lib.hid h
 obtain ⟨ao, cap, v, hg, hc, hz, hcap, ho⟩ := h
 obtain ⟨c0, c1, c2, c3, f0, f3⟩ := four_cells hg
 have HV := Lib.hid (vget_any ao b.length cap b w rfl h256 (by omega) (hc.mono (Nat.le_of_lt hglt)))
 have H256 := Lib.hid h256
 obtain ⟨V, hV⟩ : ∃ V, V = (vgetM b).1 := ⟨_, rfl⟩
 obtain ⟨K, hK⟩ : ∃ K, K = (vgetM b).2.1 := ⟨_, rfl⟩
 obtain ⟨E, hE⟩ : ∃ E, E = (vgetM b).2.2 := ⟨_, rfl⟩
 have hVlt : V < 18446744073709551616 := by rw [hV]; exact vgetM_lt b
 have hKb : K ≤ b.length := by rw [hK]; exact vgetM_n b
 have hd : decRow wd n b l = if E ≠ 0 then (b, l, E) else if V % 2 = 0 then decRun wd n (b.drop K) l (V / 2) else decGrp wd n (b.drop K) l (V / 2) := by
  unfold decRow; rw [← hV, ← hK, ← hE]
 rw [← hV, ← hK, ← hE] at HV
 rw [hd]
 have Hg := Lib.hid hg; have Ho := Lib.hid ho; have Hc := Lib.hid hc
 clear hd hV hK hE hg ho hc h256
 by_cases hE0 : E = 0
 · subst hE0
   rw [if_neg (by decide)]
   obtain ⟨ao', hao, hs⟩ := slice_from ao b.length cap K hKb hcap
   have hcD : CellsAt w g ao' (b.length - K) (u8c (b.drop K)) := from_cells rfl Hc.out hKb hao
   have HcD := Lib.hid hcD
   have hdl : (b.drop K).length = b.length - K := List.length_drop ..
   have hbut : But g w (w.setCell ⟨g, 0, none⟩ (.slice ao' (b.length - K) (cap - K))) := (But.refl g w).setCell 0 _
   have hbW : Below g w (w.setCell ⟨g, 0, none⟩ (.slice ao' (b.length - K) (cap - K))) := (Below.refl g w).setCell (by exact Nat.le_refl _) _
   have hrd : LRd (w.setCell ⟨g, 0, none⟩ (.slice ao' (b.length - K) (cap - K))) g (b.drop K) n wd l := by
    refine ⟨ao', cap - K, v, ?_, ?_, ?_, ?_, ?_⟩
    · rw [hdl]; exact four_set0 Hg.out _
    · rw [hdl]; exact HcD.out.below hbW
    · rw [hdl]
      intro e
      rcases Nat.eq_zero_or_pos (b.length - K) with h0 | h0
      · exact h0
      · obtain ⟨_, _, e2, -⟩ := HcD.out 0 h0
        rw [e] at e2; cases e2
    · rw [hdl]; omega
    · exact own_butB Ho.out hbut (Nat.lt_succ_self g)
   have Hrd := Lib.hid hrd; have HbW := Lib.hid hbW
   have hV2 : V / 2 < 18446744073709551616 := by omega
   have eV2 : ((V : Int) / 2) = ((V / 2 : Nat) : Int) := by omega
   have Hrun := Lib.hid (lrdrun_any g n wd (V / 2) (b.drop K) l _ hrd hn hl h1 h16 (fun x hx => H256.out x (List.mem_of_mem_drop hx)) (by rw [hdl]; omega) hV2)
   have Hgrp := Lib.hid (lrdgroups_any g n wd (V / 2) (b.drop K) l _ hrd hn hl h1 h16 (fun x hx => H256.out x (List.mem_of_mem_drop hx)) (by rw [hdl]; omega) hV2)
   rw [← eV2] at Hrun Hgrp
   clear hcD hdl hrd hbut hbW hao hKb eV2
   by_cases hpar : V % 2 = 0
   · rw [if_pos hpar]
     have b1 : ((V : Int) % 2 == 0) = true := by rw [beq_iff_eq]; omega
     clear hpar
     go_enter Tryz.func53, Tryz.ntmps53
     go_wp2_with fail
     refine HV.out.mono ?_
     rintro e x1 ⟨rfl, rfl⟩
     go_wp2_with fail
     refine Hrun.out.mono ?_
     intro e x2 hp
     have hp := hp.trans HbW.out
     obtain ⟨rfl, hp2⟩ := hp
     have Hp := Lib.hid hp2
     clear hp2
     go_wp2
     go_ret
     exact ⟨rfl, Hp.out.1, Hp.out.2⟩
   · rw [if_neg hpar]
     have b1 : ((V : Int) % 2 == 0) = false := by rw [beq_eq_false_iff_ne]; omega
     clear hpar
     go_enter Tryz.func53, Tryz.ntmps53
     go_wp2_with fail
     refine HV.out.mono ?_
     rintro e x1 ⟨rfl, rfl⟩
     go_wp2_with fail
     refine Hgrp.out.mono ?_
     intro e x2 hp
     have hp := hp.trans HbW.out
     obtain ⟨rfl, hp2⟩ := hp
     have Hp := Lib.hid hp2
     clear hp2
     go_wp2
     go_ret
     exact ⟨rfl, Hp.out.1, Hp.out.2⟩
 · rw [if_pos hE0]
   have b1 : ((E : Int) != 0) = true := by rw [bne_iff_ne]; omega
   have HE0 := Lib.hid hE0
   clear hE0
   go_enter Tryz.func53, Tryz.ntmps53
   go_wp2_with fail
   refine HV.out.mono ?_
   rintro e x1 ⟨rfl, rfl⟩
   go_wp2
   go_ret
   exact ⟨rfl, Below.refl _ _, fun e => absurd e HE0.out⟩
set_option maxHeartbeats 1000000 in
theorem cloneN_any (ao : Option Addr) (n cap : Nat) (l : List Nat) (w : World) (hl : l.length = n) (hc : CellsAt w w.heap.size ao n (nic l)) (hn : ao = none → n = 0) (hb : n ≤ 1000000000) :
 Calls Tryz.prog 54 #[.slice ao n cap] w fun e w' => ∃ v, e = .returned v ∧ w'.ownsRow w.heap.size 3 1 v n (natv l) ∧ Below w.heap.size w w' := by
 have Hl := Lib.hid hl; clear hl
 have kn := fun (w : World) (a : Option Addr) (l c : Nat) => Lib.run_eql_slice_nil (P := Tryz.prog) w 22 3 a l c 0 0 Tryz.underlying22
 cases ao with
 | none =>
  obtain rfl : n = 0 := hn rfl
  obtain rfl : l = [] := List.length_eq_zero_iff.1 Hl.out
  go_enter Tryz.func54, Tryz.ntmps54
  go_wp2
  go_ret
  exact ⟨_, rfl, World.ownsRow_nil _ _ _ _, Below.refl _ _⟩
 | some a =>
  have hnm : n ≤ maxLen := by unfold maxLen; omega
  go_enter Tryz.func54, Tryz.ntmps54
  go_wp2_with (at_builtin; refine wpList_append_clone1 sl_i rfl (.tmp 5) (.tmp 6) rfl rfl rfl (hc.alloc (Nat.le_refl _) _) hn (fun _ _ => rfl) hnm (by omega) ?_)
  intro aoD capD x3 hcD hbD hown
  have hx3 : Below w.heap.size w x3 := (balloc (Below.refl _ _) _).trans (hbD.mono (by simp))
  have hfin : x3.ownsRow w.heap.size 3 1 (.slice aoD n capD) n (natv l) := by
   have e : (List.range n).map (nic l) = natv l := by
    refine List.ext_getElem (by simp [natv, Hl.out]) fun i h1 h2 => ?_
    have hi : i < l.length := by simpa [natv] using h2
    simp [natv, nic, hi]
   rcases hown with ⟨rfl, rfl, rfl, rfl⟩ | ⟨-, h⟩
   · rw [show natv l = [] by rw [List.length_eq_zero_iff.1 Hl.out]; rfl]
     exact ⟨by simp, .inr ⟨w.heap.size, 0, #[], rfl, Nat.le_refl _, heap_alloc_new w _, Nat.zero_le _, Nat.zero_le _, rfl, rfl⟩⟩
   · rw [e] at h; exact own_base h (by simp)
  have Hfin := Lib.hid hfin; have Hx3 := Lib.hid hx3
  clear hown hbD hfin hx3 hcD
  go_wp2
  go_ret
  exact ⟨_, rfl, Hfin.out, Hx3.out⟩
def lenAt (x : World) (g : Nat) : Nat := match x.cell? ⟨g, 3, none⟩ with
 | some (.slice _ m _) => m
 | _ => 0
theorem LRd.len {w : World} {g n wd : Nat} {b l : List Nat} (h : LRd w g b n wd l) : lenAt w g = l.length := by
 obtain ⟨ao, cap, v, hg, hc, hz, hcap, ho⟩ := h
 obtain ⟨c0, c1, c2, c3, f0, f3⟩ := four_cells hg
 obtain ⟨al, capl, rfl, -, -, -, -⟩ := own_nat ho
 unfold lenAt
 rw [c3]
theorem decRow_sub (w n : Nat) (b l : List Nat) : ∃ m, (decRow w n b l).1 = b.drop m := by
 have h1 : ∀ c k, ∃ m, (decRun w n c l k).1 = c.drop m := fun c k => by
  unfold decRun
  split
  · exact ⟨0, rfl⟩
  split
  · exact ⟨0, rfl⟩
  split
  · exact ⟨0, rfl⟩
  · exact ⟨_, rfl⟩
 have h2 : ∀ c k, ∃ m, (decGrp w n c l k).1 = c.drop m := fun c k => by
  unfold decGrp
  split
  · exact ⟨0, rfl⟩
  split
  · exact ⟨0, rfl⟩
  split
  · exact ⟨_, rfl⟩
  · exact ⟨0, rfl⟩
 unfold decRow
 split
 · exact ⟨0, rfl⟩
 split
 · obtain ⟨m, h⟩ := h1 (b.drop (vgetM b).2.1) ((vgetM b).1 / 2)
   exact ⟨_, by rw [h, List.drop_drop]⟩
 · obtain ⟨m, h⟩ := h2 (b.drop (vgetM b).2.1) ((vgetM b).1 / 2)
   exact ⟨_, by rw [h, List.drop_drop]⟩
theorem decRow_lt (w n : Nat) (b l : List Nat) (h : ∀ x ∈ b, x < 256) : ∀ x ∈ (decRow w n b l).1, x < 256 := by
 obtain ⟨m, e⟩ := decRow_sub w n b l
 rw [e]; exact fun x hx => h x (List.mem_of_mem_drop hx)
theorem decL_done (w n f : Nat) (b l : List Nat) (h : ¬ l.length < n) : decL w n (f + 1) b l = if 0 < b.length then ([], 9) else (l, 0) := by
 simp only [decL]; rw [if_neg h]
theorem decL_err (w n f : Nat) (b l : List Nat) (h : l.length < n) (he : (decRow w n b l).2.2 ≠ 0) : decL w n (f + 1) b l = ([], (decRow w n b l).2.2) := by
 simp only [decL]; rw [if_pos h, if_pos he]
theorem decL_go (w n : Nat) (b l : List Nat) (h : l.length < n) (he : (decRow w n b l).2.2 = 0) : decL w n (n - l.length + 1) b l = decL w n (n - (decRow w n b l).2.1.length + 1) (decRow w n b l).1 (decRow w n b l).2.1 := by
 have hg := decRow_grow w n b l he
 have : decL w n (n - l.length + 1) b l = decL w n (n - l.length) (decRow w n b l).1 (decRow w n b l).2.1 := by
  simp only [decL]; rw [if_pos h, if_neg (by omega)]
 rw [this]
 exact decL_fuel w n _ _ _ _ (by omega) (by omega)
def DInv (w x : World) (g n wd : Nat) (R : List Nat × Nat) (b l : List Nat) : Prop :=
 LRd x g b n wd l ∧ l.length ≤ n ∧ (l.length < n → 1 ≤ wd) ∧ b.length ≤ 1000000000 ∧ (∀ y ∈ b, y < 256) ∧ decL wd n (n - l.length + 1) b l = R ∧ Below w.heap.size w x
end Go.Proofs.YtebmbkbnngeabaaGreat
