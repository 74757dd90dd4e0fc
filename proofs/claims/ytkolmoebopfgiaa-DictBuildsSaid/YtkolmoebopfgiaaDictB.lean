/- Chapter 13: the walk over dict.Build. -/
import Derived.Test.YtkolmoebopfgiaaDictP
import Derived.Test.YtkolmoebopfgiaaLinH
import Derived.ScopeJumps
namespace Go.Proofs.Ytkolmoebopfgiaa
open Go.RowKit
set_option linter.unusedVariables false

/-- A slice of no elements in a block of its own. -/
theorem own_empty (w : World) (E : TypeId) (size : Nat) : (w.alloc (.cells #[] E)).ownsRow w.heap.size E size (.slice (some ⟨w.heap.size, 0, none⟩) 0 0) 0 [] :=
  ⟨by simp, .inr ⟨w.heap.size, 0, #[], rfl, Nat.le_refl _, heap_alloc_new w _, Nat.le_refl _, Nat.zero_le _, by simp, by simp⟩⟩
theorem range_vlc (l : List Vl) (n : Nat) (h : l.length = n) : (List.range (n * 2)).map (vlc l) = vcs l := by subst h; rfl
theorem range_i64c (l : List Int) (n : Nat) (hl : l.length = n) : (List.range n).map (i64c l) = i64v l := by
  refine List.ext_getElem (by simp [i64v, hl]) fun i h1 h2 => ?_
  have hi : i < l.length := by simpa [i64v] using h2
  simp [i64v, i64c, hi]
theorem Try.infoI64 : (Try.prog.info? 3).map (fun i => (i.zero, i.size, i.bytes)) = some (some (.int .i64 0), 1, 8) := by kernel_rfl
theorem sl_i64 : SlT Try.prog 26 3 1 8 (.int .i64 0) := ⟨Try.underlying26, Try.infoI64, rfl, by decide⟩

set_option maxHeartbeats 1000000 in
theorem cloneV_any (ao : Option Addr) (n cap : Nat) (l : List Vl) (w : World) (hl : l.length = n) (hc : CellsAt w w.heap.size ao (n * 2) (vlc l)) (hn : ao = none → n = 0) (hb : n ≤ 1000000000) :
    Calls Try.prog 23 #[.slice ao n cap] w fun e w' => ∃ v, e = .returned v ∧ w'.ownsRow w.heap.size 30 2 v n (vcs l) ∧ Below w.heap.size w w' := by
  have Hl := Lib.hid hl; clear hl
  have kn := fun (w : World) (a : Option Addr) (l c : Nat) => Lib.run_eql_slice_nil (P := Try.prog) w 22 30 a l c 0 0 Try.underlying22
  cases ao with
  | none =>
    obtain rfl : n = 0 := hn rfl
    obtain rfl : l = [] := List.length_eq_zero_iff.1 Hl.out
    go_enter Try.func23, Try.ntmps23
    go_wp2
    go_ret
    exact ⟨_, rfl, World.ownsRow_nil _ _ _ _, Below.refl _ _⟩
  | some a =>
    go_enter Try.func23, Try.ntmps23
    go_wp2_with (at_builtin; refine wpList_append_clone sl_v rfl (.tmp 5) (.tmp 6) rfl rfl rfl (hc.alloc (Nat.le_refl _) _) hn (fun _ _ => vlc_one _ _) (by unfold maxLen; omega) (by omega) ?_)
    intro aoD capD x3 hcD hbD hown
    have hx3 : Below w.heap.size w x3 := (balloc (Below.refl _ _) _).trans (hbD.mono (by simp))
    have hr := Lib.hid hown
    clear hown hbD hcD
    go_wp2
    go_ret
    refine ⟨_, rfl, ?_, hx3⟩
    rcases hr.out with ⟨rfl, rfl, rfl, rfl⟩ | ⟨h0, ho⟩
    · obtain rfl : l = [] := List.length_eq_zero_iff.1 Hl.out
      exact own_empty w 30 2
    · rw [range_vlc l n Hl.out] at ho
      exact own_base ho (by simp)
set_option maxHeartbeats 1000000 in
theorem cloneI_any (ao : Option Addr) (n cap : Nat) (l : List Int) (w : World) (hl : l.length = n) (hc : CellsAt w w.heap.size ao n (i64c l)) (hn : ao = none → n = 0) (hb : n ≤ 1000000000) :
    Calls Try.prog 24 #[.slice ao n cap] w fun e w' => ∃ v, e = .returned v ∧ w'.ownsRow w.heap.size 3 1 v n (i64v l) ∧ Below w.heap.size w w' := by
  have Hl := Lib.hid hl; clear hl
  have kn := fun (w : World) (a : Option Addr) (l c : Nat) => Lib.run_eql_slice_nil (P := Try.prog) w 26 3 a l c 0 0 Try.underlying26
  cases ao with
  | none =>
    obtain rfl : n = 0 := hn rfl
    obtain rfl : l = [] := List.length_eq_zero_iff.1 Hl.out
    go_enter Try.func24, Try.ntmps24
    go_wp2
    go_ret
    exact ⟨_, rfl, World.ownsRow_nil _ _ _ _, Below.refl _ _⟩
  | some a =>
    go_enter Try.func24, Try.ntmps24
    go_wp2_with (at_builtin; refine wpList_append_clone1 sl_i64 rfl (.tmp 5) (.tmp 6) rfl rfl rfl (hc.alloc (Nat.le_refl _) _) hn (fun _ _ => rfl) (by unfold maxLen; omega) (by omega) ?_)
    intro aoD capD x3 hcD hbD hown
    have hx3 : Below w.heap.size w x3 := (balloc (Below.refl _ _) _).trans (hbD.mono (by simp))
    have hr := Lib.hid hown
    clear hown hbD hcD
    go_wp2
    go_ret
    refine ⟨_, rfl, ?_, hx3⟩
    rcases hr.out with ⟨rfl, rfl, rfl, rfl⟩ | ⟨h0, ho⟩
    · obtain rfl : l = [] := List.length_eq_zero_iff.1 Hl.out
      exact own_empty w 3 1
    · rw [range_i64c l n Hl.out] at ho
      exact own_base ho (by simp)

theorem bdrewN {B : Nat} {w w1 : World} (h : Below B w w1) (n : Nat) : Below B w (w1.drewN n) := ⟨h.os, h.tape, h.output, h.size, h.block⟩
def dSign (k : Nat) : Int := if k = 4 then 116 else 110
theorem dSign_or (k : Nat) : dSign k = 116 ∨ dSign k = 110 := by unfold dSign; split <;> simp
set_option maxHeartbeats 400000 in
theorem sign_any (k : Nat) (w : World) : Calls Try.prog 22 #[.int .i64 k] w fun e w' => e = .returned (.int .i32 (dSign k)) ∧ w = w' := by
  by_cases h : k = 4
  · subst h
    go_enter Try.func22, Try.ntmps22
    go_wp2
    go_ret
    exact ⟨rfl, rfl⟩
  · have hb : ((k : Int) == 4) = false := by rw [beq_eq_false_iff_ne]; omega
    have e : dSign k = 110 := by unfold dSign; rw [if_neg h]
    rw [e]
    clear e h
    go_enter Try.func22, Try.ntmps22
    go_wp2
    go_ret
    exact ⟨rfl, rfl⟩

/-- Where the code jumps to when there is no dictionary. -/
def JNone (w : World) (a' : Act) (w' : World) : Prop := ∃ u0 u1 u2 u3 u4 u5 u6 u7 u8 u9 u10 u11 u12 u13 u14 u15 u16 u17 u18 u19 u20 u21 u22 u23 u24 u25 u26 u27 u28 u29 u30 u31 u32 u33 u34 u35 u36 u37 u38 u39 u40 u41 u42 u43 u44 u45 u46 u47 u48 u49 u50 u51 u52 u53 u54 u55 u56 u57 u58 u59 u60 u61 u62 : Value, a' = { tmps := #[u0, u1, u2, u3, u4, u5, u6, u7, u8, u9, u10, u11, u12, u13, u14, u15, u16, u17, u18, u19, u20, u21, u22, u23, u24, u25, u26, u27, u28, u29, u30, u31, u32, u33, u34, u35, u36, u37, u38, u39, u40, u41, u42, u43, u44, u45, u46, u47, u48, u49, u50, u51, u52, u53, u54, u55, u56, u57, u58, u59, u60, u61, u62], defers := [] } ∧ Below w.heap.size w w'
theorem JNone.mk {w w' : World} (hb : Below w.heap.size w w') {u0 u1 u2 u3 u4 u5 u6 u7 u8 u9 u10 u11 u12 u13 u14 u15 u16 u17 u18 u19 u20 u21 u22 u23 u24 u25 u26 u27 u28 u29 u30 u31 u32 u33 u34 u35 u36 u37 u38 u39 u40 u41 u42 u43 u44 u45 u46 u47 u48 u49 u50 u51 u52 u53 u54 u55 u56 u57 u58 u59 u60 u61 u62 : Value} : JNone w { tmps := #[u0, u1, u2, u3, u4, u5, u6, u7, u8, u9, u10, u11, u12, u13, u14, u15, u16, u17, u18, u19, u20, u21, u22, u23, u24, u25, u26, u27, u28, u29, u30, u31, u32, u33, u34, u35, u36, u37, u38, u39, u40, u41, u42, u43, u44, u45, u46, u47, u48, u49, u50, u51, u52, u53, u54, u55, u56, u57, u58, u59, u60, u61, u62], defers := [] } w' := ⟨_, _, _, _, _, _, _, _, _, _, _, _, _, _, _, _, _, _, _, _, _, _, _, _, _, _, _, _, _, _, _, _, _, _, _, _, _, _, _, _, _, _, _, _, _, _, _, _, _, _, _, _, _, _, _, _, _, _, _, _, _, _, _, rfl, hb⟩

set_option maxHeartbeats 4000000 in
set_option maxRecDepth 100000 in
theorem build_range (k : Nat) (ao : Option Addr) (len cap : Nat) (most : Int) (w : World) (hm : most < 0 ∨ 256 < most) :
    Calls Try.prog 13 #[.int .i64 k, .slice ao len cap, .int .i64 most] w fun e w' => e = .returned (.tuple #[.slice none 0 0, .slice none 0 0, .bool false]) ∧ Below w.heap.size w w' := by
  have hmm := @run_makeMap Try.prog
  go_enter Try.func13, Try.ntmps13
  go_wp2
  refine wp_scope_jumps 0 (JNone w) (fun _ _ => 0) rfl ?_ ?_
  · have hnx := balloc (Below.refl w.heap.size w) (.map #[] 0)
    rcases hm with hm | hm
    · go_wp2
      go_step3
      exact ⟨rfl, JNone.mk hnx⟩
    · have h0 : ¬ most < 0 := by omega
      go_wp2
      go_step3
      exact ⟨rfl, JNone.mk hnx⟩
  · rintro a' w' ⟨u0, u1, u2, u3, u4, u5, u6, u7, u8, u9, u10, u11, u12, u13, u14, u15, u16, u17, u18, u19, u20, u21, u22, u23, u24, u25, u26, u27, u28, u29, u30, u31, u32, u33, u34, u35, u36, u37, u38, u39, u40, u41, u42, u43, u44, u45, u46, u47, u48, u49, u50, u51, u52, u53, u54, u55, u56, u57, u58, u59, u60, u61, u62, rfl, hb⟩
    go_wp2
    simp only [Exit.jump]
    go_ret3
    exact ⟨rfl, hb⟩

def dAtsI (l : List Vl) : List Int := (dAts l).map Int.ofNat
theorem dAtsI_snoc (l : List Vl) (v : Vl) : dAtsI (l ++ [v]) = dAtsI l ++ [(dIdx v (dStep (dWords l) v) : Int)] := by simp [dAtsI, dAts_snoc]

set_option maxHeartbeats 4000000 in
set_option maxRecDepth 100000 in
theorem build_yes (k : Nat) (ao : Option Addr) (len cap : Nat) (l : List Vl) (most : Nat) (w : World) (hl : l.length = len) (hlen : len ≤ 100000) (hok : ∀ v ∈ l, okV v) (hc : CellsAt w w.heap.size ao (len * 2) (vlc l)) (hm : most ≤ 256) (hw : (dWords l).length ≤ most) :
    Calls Try.prog 13 #[.int .i64 k, .slice ao len cap, .int .i64 most] w fun e w' => ∃ v1 v2, e = .returned (.tuple #[v1, v2, .bool true]) ∧
      w'.ownsRow w.heap.size 30 2 v1 (dWords l).length (vcs (dWords l)) ∧ w'.ownsRow w.heap.size 3 1 v2 len (i64v (dAtsI l)) ∧ Below w.heap.size w w' := by
  have hmm := @run_makeMap Try.prog
  have Hl := Lib.hid hl; clear hl
  have Hok := Lib.hid hok; clear hok
  have Hw := Lib.hid hw; clear hw
  obtain ⟨sg, hsg⟩ : ∃ sg, sg = dSign k := ⟨_, rfl⟩
  have hsor : sg = 116 ∨ sg = 110 := by rw [hsg]; exact dSign_or k
  have Hsor := Lib.hid hsor; clear hsor
  have hsign := fun w => same_flip (sign_any k w)
  rw [← hsg] at hsign
  clear hsg
  have hm0 : ¬ ((most : Int) < 0) := by omega
  have hm1 : ¬ ((256 : Int) < most) := by omega
  go_enter Try.func13, Try.ntmps13
  go_wp2
  refine wp_scope_jumps 0 (fun _ _ => False) (fun _ _ => 0) rfl ?_ (fun _ _ h => h.elim)
  go_wp2
  clear hmm
  go_loopw [6, 7, 23] (fun wv av i wr => ∃ j m : Nat, j ≤ len ∧ i = .int .i64 j ∧ Hid (m = (dWords (l.take j)).length) ∧ wr.ownsRow w.heap.size 30 2 wv m (vcs (dWords (l.take j))) ∧ wr.ownsRow w.heap.size 3 1 av j (i64v (dAtsI (l.take j))) ∧
    DMap wr w.heap.size j sg (dWords (l.take j)) ∧ Below w.heap.size w wr) (fun _ _ i _ => len - (intOf i).toNat)
  case atStart => exact ⟨0, 0, Nat.zero_le _, rfl, Lib.hid rfl, World.ownsRow_nil _ _ _ _, World.ownsRow_nil _ _ _ _, DMap.made w sg, balloc (Below.refl _ _) _⟩
  case round =>
    obtain ⟨j, m, hj, rfl, hmw, how, hoa, hmap, hwr⟩ := hrel
    by_cases hlt : j < len
    · obtain ⟨b, off, rfl, hb, c0, c1⟩ := hc.val hlt
      have c0' := (hwr.cell (by exact hb)).trans c0
      have c1' := (hwr.cell (by exact hb)).trans c1
      clear c0 c1 hc
      obtain ⟨v, hv⟩ : ∃ v, v = l.getD j vl0 := ⟨_, rfl⟩
      rw [vN, ← hv] at c0'
      rw [vS, ← hv] at c1'
      have hvok : okV v := by
        rw [hv, List.getD_eq_getElem?_getD, List.getElem?_eq_getElem (by rw [Hl.out]; exact hlt)]
        exact Hok.out _ (List.getElem_mem _)
      have Hvok := Lib.hid hvok; clear hvok
      have htk : l.take (j + 1) = l.take j ++ [v] := by
        rw [List.take_succ_eq_append_getElem (by rw [Hl.out]; exact hlt), hv, List.getD_eq_getElem?_getD, List.getElem?_eq_getElem (by rw [Hl.out]; exact hlt)]; rfl
      have Htk := Lib.hid htk; clear htk hv
      have hm' : (dWords (l.take (j + 1))).length ≤ most := Nat.le_trans (dWords_take_le _ _) Hw.out
      rw [Htk.out, dWords_snoc] at hm'
      obtain ⟨ws, hws⟩ : ∃ ws, ws = dWords (l.take j) := ⟨_, rfl⟩
      have hsn : Hid (dWords (l.take (j + 1)) = dStep ws v) := Lib.hid (by rw [Htk.out, dWords_snoc, hws])
      have han : Hid (dAtsI (l.take (j + 1)) = dAtsI (l.take j) ++ [(dIdx v (dStep ws v) : Int)]) := Lib.hid (by rw [Htk.out, dAtsI_snoc, hws])
      rw [← hws] at hmw how hmap hm'
      have Hws := Lib.hid hws; clear hws
      have Hm' := Lib.hid hm'; clear hm'
      have hmap1 := hmap.alloc (.cells #[.int .i64 v.1, .string v.2] 30)
      by_cases hmem : v ∈ ws
      · have hlook := fun n => (hmap1.drewN n).look Hsor.out Hvok.out
        rw [if_pos hmem, decide_eq_true hmem] at hlook
        unfold keyV at hlook
        have hds : dStep ws v = ws := if_pos hmem
        rw [hds] at hsn han
        have Hds := Lib.hid hds; clear hds hmem
        have hmm2 : m ≤ most := by have h1 := Hm'.out; rw [Hds.out, ← hmw.out] at h1; exact h1
        obtain ⟨aoW, capW, rfl, -, -, -, -, -⟩ := own_v how
        obtain ⟨iv, hiv⟩ : ∃ iv, iv = dIdx v ws := ⟨_, rfl⟩
        rw [← hiv] at hlook han
        clear hiv
        have hcu := cells_one (wr.alloc (.cells #[.int .i64 v.1, .string v.2] 30)) 3 (.int .i64 (iv : Nat))
        rw [show (wr.alloc (.cells #[.int .i64 v.1, .string v.2] 30)).heap.size = wr.heap.size + 1 by simp] at hcu
        go_wp2
        go_quiet ((go_at_call 22; exact Calls.quiet_of_same (hsign _)))
        clear hlook hsign hmap1
        go_wp2_with (at_builtin; refine wpList_append_all1 sl_i64 rfl (.tmp 54) (.tmp 56) rfl rfl (own_drewN ((hoa.alloc _).alloc _) _) rfl (fun i hi => hcu i hi) (fun e => by cases e) (fun _ _ => rfl) ?c1 ?c2 ?c3 ?_)
        case c1 => unfold maxLen; omega
        case c2 => omega
        case c3 => exact (balloc (balloc hwr _) _).size
        intro v' y hown' hgrow
        have how' := (own_drewN ((how.alloc (.cells #[.int .i64 v.1, .string v.2] 30)).alloc (.cells #[.int .i64 (iv : Nat)] 3)) nq).kept hgrow (own_apart how hoa (by decide))
        have hmap' := (((hmap.alloc (.cells #[.int .i64 v.1, .string v.2] 30)).alloc (.cells #[.int .i64 (iv : Nat)] 3)).drewN nq).kept hgrow (hmap.apart hoa)
        have hy := (bdrewN (balloc (balloc hwr (.cells #[.int .i64 v.1, .string v.2] 30)) (.cells #[.int .i64 (iv : Nat)] 3)) nq).grown hgrow (balloc (balloc hwr _) _).size (fun j hj => (hoa.lt j hj).1)
        have hown2 : y.ownsRow w.heap.size 3 1 v' (j + 1) (i64v (dAtsI (l.take (j + 1)))) := by
          rw [han.out, ← i64v_append]; exact hown'
        have hmap2 := hmap'.mono (Nat.le_succ j)
        rw [← hsn.out] at how' hmap2
        have hmw2 : Hid (m = (dWords (l.take (j + 1))).length) := Lib.hid (by rw [hsn.out]; exact hmw.out)
        clear hown' hmap' hmw hgrow how hoa hmap hsn han hcu
        go_wp2
        go_roundw
        case rel => exact ⟨j + 1, m, by omega, by go_num, hmw2, how', hown2, hmap2, hy⟩
        case measure => simp [intOf]; omega
      · have hlook := fun n => (hmap1.drewN n).look Hsor.out Hvok.out
        rw [if_neg hmem, decide_eq_false hmem] at hlook
        unfold keyV at hlook
        have hds : dStep ws v = ws ++ [v] := if_neg hmem
        rw [hds, dIdx_new v ws hmem, ← hmw.out] at han
        rw [hds] at hsn
        have Hds := Lib.hid hds; clear hds
        have Hmem := Lib.hid hmem; clear hmem
        have hmm2 : m + 1 ≤ most := by have h1 := Hm'.out; rw [Hds.out, List.length_append, ← hmw.out] at h1; simpa using h1
        obtain ⟨aoW, capW, rfl, -, -, -, -, -⟩ := own_v how
        go_wp2
        go_quiet ((go_at_call 22; exact Calls.quiet_of_same (hsign _)))
        clear hlook
        have hput := (hmap1.drewN (nq + 1)).put Hsor.out Hvok.out Hmem.out (by unfold maxLen; omega) (by rw [← hmw.out]; omega)
        obtain ⟨w2, hrun, hmap2, hg2⟩ := hput
        rw [← hmw.out] at hrun
        unfold keyV at hrun
        have hcb : ∀ o u, ((wr.alloc (.cells #[.int .i64 v.1, .string v.2] 30)).drewN (nq + 1)).cell? ⟨wr.heap.size, o, none⟩ = some u → w2.cell? ⟨wr.heap.size, o, none⟩ = some u := fun o u h => by
          rw [← h]
          exact World.cell?_of_block (hg2.block wr.heap.size (by simp) (fun e => by have := hmap.isMap; obtain ⟨es, cl, hh⟩ := this; have := (Array.getElem?_eq_some_iff.1 hh).1; injection e with e; omega))
        have k0 := hcb 0 (.int .i64 v.1) (by simp [go_sem])
        have k1 := hcb 1 (.string v.2) (by simp [go_sem])
        clear hcb hmap1
        go_wp2
        refine wp_region_linH [(0, 0), (1, 0), (3, 0), (5, 0), (2, 1), (4, 0), (6, 2)] [6] (by kernel_rfl) (by kernel_rfl) (fun d _ _ _ _ h => by cases d <;> exact h) ?_
        have hf0 : ∀ w', Grows ((wr.alloc (.cells #[.int .i64 v.1, .string v.2] 30)).drewN nq).drew w' → w'.cell? ⟨wr.heap.size, 0, none⟩ = some (.int .i64 v.1) := fun w' hg => (Grows.toDrew hg).cell (by simp [go_sem])
        have hf1 : ∀ w', Grows ((wr.alloc (.cells #[.int .i64 v.1, .string v.2] 30)).drewN nq).drew w' → w'.cell? ⟨wr.heap.size, 1, none⟩ = some (.string v.2) := fun w' hg => (Grows.toDrew hg).cell (by simp [go_sem])
        repeat (first
          | (refine wpLinH_skip rfl rfl (fun K hK => ?_); go_simp; refine hK _ ?_; clear hK K)
          | (refine wpLinH_take (v := ?_) rfl rfl (fun w' hw' => ?_) (fun K hK => ?_); rotate_left; (have e0 := hf0 w' hw'; have e1 := hf1 w' hw'; go_simp; rfl); (go_simp; refine hK _ ?_; clear hK K)))
        refine wpLinH_do rfl (fun K hK => ?_); go_simp
        refine (hsign _).mono ?_
        rintro e x1 ⟨rfl, rfl⟩
        refine hK _ _ (Grows.refl _) ?_; clear hK K
        repeat (first
          | (refine wpLinH_skip rfl rfl (fun K hK => ?_); go_simp; refine hK _ ?_; clear hK K)
          | (refine wpLinH_take (v := ?_) rfl rfl (fun w' hw' => ?_) (fun K hK => ?_); rotate_left; (go_simp; rfl); (go_simp; refine hK _ ?_; clear hK K)))
        refine wpLinH_hard rfl (fun K hK => ?_); go_simp
        refine hK _ _ ?_; clear hK K hrun hf0 hf1 hsign
        refine wpLinH_nil ?_
        have how2 := (own_drewN (how.alloc (.cells #[.int .i64 v.1, .string v.2] 30)) (nq + 1)).kept hg2 (.inr (Ne.symm (hmap.apart how)))
        have hoa2 := (own_drewN (hoa.alloc (.cells #[.int .i64 v.1, .string v.2] 30)) (nq + 1)).kept hg2 (.inr (Ne.symm (hmap.apart hoa)))
        have hw2 : Below w.heap.size w w2 := (bdrewN (balloc hwr (.cells #[.int .i64 v.1, .string v.2] 30)) (nq + 1)).grown hg2 (balloc hwr _).size (fun j hj => by cases hj; exact Nat.le_refl _)
        clear how hoa hmap hwr hg2
        go_wp2_with (at_builtin; refine wpList_append_all sl_v rfl (.tmp 46) (.tmp 48) rfl rfl (how2.alloc _) rfl (cells_one_v w2 30 v) (fun e => by cases e) (fun _ _ => vlc_one _ _) ?c1 ?c2 ?c3 ?_)
        case c1 => unfold maxLen; omega
        case c2 => omega
        case c3 => exact (balloc hw2 _).size
        intro v3 w3 how3 hg3
        have how3' : w3.ownsRow w.heap.size 30 2 v3 (m + 1) (vcs (ws ++ [v])) := by rw [← vcs_snoc]; exact how3
        have hoa3 := (hoa2.alloc (.cells #[.int .i64 v.1, .string v.2] 30)).kept hg3 (own_apart hoa2 how2 (by decide))
        have hmap3 := (hmap2.alloc (.cells #[.int .i64 v.1, .string v.2] 30)).kept hg3 (hmap2.apart how2)
        have hw3 := (balloc hw2 (.cells #[.int .i64 v.1, .string v.2] 30)).grown hg3 (balloc hw2 _).size (fun j hj => (how2.lt j hj).1)
        obtain ⟨ao3, cap3, rfl, -, -, -, -, -⟩ := own_v how3'
        have hcu := cells_one w3 3 (.int .i64 (m : Nat))
        clear how3 hg3 how2 hoa2 hmap2 hw2 k0 k1
        go_wp2_with (at_builtin; refine wpList_append_all1 sl_i64 rfl (.tmp 54) (.tmp 56) rfl rfl (hoa3.alloc _) rfl hcu (fun e => by cases e) (fun _ _ => rfl) ?d1 ?d2 ?d3 ?_)
        case d1 => unfold maxLen; omega
        case d2 => omega
        case d3 => exact (balloc hw3 _).size
        intro v4 w4 hoa4 hg4
        have how4 := (how3'.alloc (.cells #[.int .i64 (m : Nat)] 3)).kept hg4 (own_apart how3' hoa3 (by decide))
        have hmap4 := ((hmap3.alloc (.cells #[.int .i64 (m : Nat)] 3)).kept hg4 (hmap3.apart hoa3))
        have hw4 := (balloc hw3 (.cells #[.int .i64 (m : Nat)] 3)).grown hg4 (balloc hw3 _).size (fun j hj => (hoa3.lt j hj).1)
        have hoa4' : w4.ownsRow w.heap.size 3 1 v4 (j + 1) (i64v (dAtsI (l.take (j + 1)))) := by
          rw [han.out, ← i64v_append]; exact hoa4
        rw [← hsn.out] at how4 hmap4
        have hmw4 : Hid (m + 1 = (dWords (l.take (j + 1))).length) := Lib.hid (by rw [hsn.out, List.length_append, ← hmw.out]; rfl)
        clear hoa4 hg4 how3' hoa3 hmap3 hw3 hcu hsn han hmw
        go_wp2
        go_roundw
        case rel => exact ⟨j + 1, m + 1, by omega, by go_num, hmw4, how4, hoa4', hmap4, hw4⟩
        case measure => simp [intOf]; omega
    · obtain rfl : j = len := by omega
      have hall : l.take j = l := List.take_of_length_le (by rw [Hl.out]; exact Nat.le_refl _)
      rw [hall] at hmw how hoa
      obtain ⟨aoW, capW, rfl, hlW, -, hcW, hnW, -⟩ := own_v how
      obtain ⟨aoA, capA, rfl, hcA, -⟩ := own_i64 hoa
      have hlA : (dAtsI l).length = j := by unfold dAtsI; rw [List.length_map, dAts_length]; exact Hl.out
      have hnA : aoA = none → j = 0 := fun e => by
        rcases hoa.2 with ⟨h1, h2⟩ | ⟨g, c2, cur, h1, _⟩
        · exact h2
        · subst e; simp at h1
      have hmle : m ≤ 256 := by have := hmw.out; have := Hw.out; omega
      have HlW := Lib.hid hlW; have HlA := Lib.hid hlA; have HnA := Lib.hid hnA; clear hlW hlA hnA hall hc how hoa hmap hsign
      go_wp2_with fail
      refine (cloneV_any aoW m capW (dWords l) _ HlW.out hcW (fun e => (hnW e).1) (by omega)).mono ?_
      rintro e x1 ⟨v1, rfl, ho1, hx1⟩
      have hwx1 := bmore hwr hx1
      go_wp2_with fail
      refine (cloneI_any aoA j capA (dAtsI l) _ HlA.out (hcA.at hx1) HnA.out (by omega)).mono ?_
      rintro e x2 ⟨v2, rfl, ho2, hx2⟩
      have ho1' := own_base (own_below ho1 hx2) hwr.size
      have ho2' := own_base ho2 hwx1.size
      have hend := bmore hwx1 hx2
      rw [hmw.out] at ho1'
      clear ho1 ho2
      go_wp2
      simp only [Exit.jump]
      go_ret3
      exact ⟨_, _, rfl, ho1', ho2', hend⟩

set_option maxHeartbeats 4000000 in
set_option maxRecDepth 100000 in
theorem build_over (k : Nat) (ao : Option Addr) (len cap : Nat) (l : List Vl) (most : Nat) (w : World) (hl : l.length = len) (hlen : len ≤ 100000) (hok : ∀ v ∈ l, okV v) (hc : CellsAt w w.heap.size ao (len * 2) (vlc l)) (hm : most ≤ 256) (hw : most < (dWords l).length) :
    Calls Try.prog 13 #[.int .i64 k, .slice ao len cap, .int .i64 most] w fun e w' => e = .returned (.tuple #[.slice none 0 0, .slice none 0 0, .bool false]) ∧ Below w.heap.size w w' := by
  have hmm := @run_makeMap Try.prog
  have Hl := Lib.hid hl; clear hl
  have Hok := Lib.hid hok; clear hok
  have Hw := Lib.hid hw; clear hw
  obtain ⟨sg, hsg⟩ : ∃ sg, sg = dSign k := ⟨_, rfl⟩
  have hsor : sg = 116 ∨ sg = 110 := by rw [hsg]; exact dSign_or k
  have Hsor := Lib.hid hsor; clear hsor
  have hsign := fun w => same_flip (sign_any k w)
  rw [← hsg] at hsign
  clear hsg
  have hm0 : ¬ ((most : Int) < 0) := by omega
  have hm1 : ¬ ((256 : Int) < most) := by omega
  go_enter Try.func13, Try.ntmps13
  go_wp2
  refine wp_scope_jumps 0 (JNone w) (fun _ _ => 0) rfl ?_ ?_
  rotate_left
  · rintro a' w' ⟨u0, u1, u2, u3, u4, u5, u6, u7, u8, u9, u10, u11, u12, u13, u14, u15, u16, u17, u18, u19, u20, u21, u22, u23, u24, u25, u26, u27, u28, u29, u30, u31, u32, u33, u34, u35, u36, u37, u38, u39, u40, u41, u42, u43, u44, u45, u46, u47, u48, u49, u50, u51, u52, u53, u54, u55, u56, u57, u58, u59, u60, u61, u62, rfl, hb⟩
    go_wp2
    simp only [Exit.jump]
    go_ret3
    exact ⟨rfl, hb⟩
  go_wp2
  clear hmm
  go_loopw [6, 7, 23] (fun wv av i wr => ∃ j m : Nat, j ≤ len ∧ m ≤ most ∧ i = .int .i64 j ∧ Hid (m = (dWords (l.take j)).length) ∧ wr.ownsRow w.heap.size 30 2 wv m (vcs (dWords (l.take j))) ∧ wr.ownsRow w.heap.size 3 1 av j (i64v (dAtsI (l.take j))) ∧
    DMap wr w.heap.size j sg (dWords (l.take j)) ∧ Below w.heap.size w wr) (fun _ _ i _ => len - (intOf i).toNat)
  case atStart => exact ⟨0, 0, Nat.zero_le _, Nat.zero_le _, rfl, Lib.hid rfl, World.ownsRow_nil _ _ _ _, World.ownsRow_nil _ _ _ _, DMap.made w sg, balloc (Below.refl _ _) _⟩
  case round =>
    obtain ⟨j, m, hj, hmm2, rfl, hmw, how, hoa, hmap, hwr⟩ := hrel
    by_cases hlt : j < len
    · obtain ⟨b, off, rfl, hb, c0, c1⟩ := hc.val hlt
      have c0' := (hwr.cell (by exact hb)).trans c0
      have c1' := (hwr.cell (by exact hb)).trans c1
      clear c0 c1 hc
      obtain ⟨v, hv⟩ : ∃ v, v = l.getD j vl0 := ⟨_, rfl⟩
      rw [vN, ← hv] at c0'
      rw [vS, ← hv] at c1'
      have hvok : okV v := by
        rw [hv, List.getD_eq_getElem?_getD, List.getElem?_eq_getElem (by rw [Hl.out]; exact hlt)]
        exact Hok.out _ (List.getElem_mem _)
      have Hvok := Lib.hid hvok; clear hvok
      have htk : l.take (j + 1) = l.take j ++ [v] := by
        rw [List.take_succ_eq_append_getElem (by rw [Hl.out]; exact hlt), hv, List.getD_eq_getElem?_getD, List.getElem?_eq_getElem (by rw [Hl.out]; exact hlt)]; rfl
      have Htk := Lib.hid htk; clear htk hv
      obtain ⟨ws, hws⟩ : ∃ ws, ws = dWords (l.take j) := ⟨_, rfl⟩
      have hsn : Hid (dWords (l.take (j + 1)) = dStep ws v) := Lib.hid (by rw [Htk.out, dWords_snoc, hws])
      have han : Hid (dAtsI (l.take (j + 1)) = dAtsI (l.take j) ++ [(dIdx v (dStep ws v) : Int)]) := Lib.hid (by rw [Htk.out, dAtsI_snoc, hws])
      rw [← hws] at hmw how hmap
      have Hws := Lib.hid hws; clear hws
      have hmap1 := hmap.alloc (.cells #[.int .i64 v.1, .string v.2] 30)
      by_cases hmem : v ∈ ws
      · have hlook := fun n => (hmap1.drewN n).look Hsor.out Hvok.out
        rw [if_pos hmem, decide_eq_true hmem] at hlook
        unfold keyV at hlook
        have hds : dStep ws v = ws := if_pos hmem
        rw [hds] at hsn han
        have Hds := Lib.hid hds; clear hds hmem
        obtain ⟨aoW, capW, rfl, -, -, -, -, -⟩ := own_v how
        obtain ⟨iv, hiv⟩ : ∃ iv, iv = dIdx v ws := ⟨_, rfl⟩
        rw [← hiv] at hlook han
        clear hiv
        have hcu := cells_one (wr.alloc (.cells #[.int .i64 v.1, .string v.2] 30)) 3 (.int .i64 (iv : Nat))
        rw [show (wr.alloc (.cells #[.int .i64 v.1, .string v.2] 30)).heap.size = wr.heap.size + 1 by simp] at hcu
        go_wp2
        go_quiet ((go_at_call 22; exact Calls.quiet_of_same (hsign _)))
        clear hlook hsign hmap1
        go_wp2_with (at_builtin; refine wpList_append_all1 sl_i64 rfl (.tmp 54) (.tmp 56) rfl rfl (own_drewN ((hoa.alloc _).alloc _) _) rfl (fun i hi => hcu i hi) (fun e => by cases e) (fun _ _ => rfl) ?c1 ?c2 ?c3 ?_)
        case c1 => unfold maxLen; omega
        case c2 => omega
        case c3 => exact (balloc (balloc hwr _) _).size
        intro v' y hown' hgrow
        have how' := (own_drewN ((how.alloc (.cells #[.int .i64 v.1, .string v.2] 30)).alloc (.cells #[.int .i64 (iv : Nat)] 3)) nq).kept hgrow (own_apart how hoa (by decide))
        have hmap' := (((hmap.alloc (.cells #[.int .i64 v.1, .string v.2] 30)).alloc (.cells #[.int .i64 (iv : Nat)] 3)).drewN nq).kept hgrow (hmap.apart hoa)
        have hy := (bdrewN (balloc (balloc hwr (.cells #[.int .i64 v.1, .string v.2] 30)) (.cells #[.int .i64 (iv : Nat)] 3)) nq).grown hgrow (balloc (balloc hwr _) _).size (fun j hj => (hoa.lt j hj).1)
        have hown2 : y.ownsRow w.heap.size 3 1 v' (j + 1) (i64v (dAtsI (l.take (j + 1)))) := by
          rw [han.out, ← i64v_append]; exact hown'
        have hmap2 := hmap'.mono (Nat.le_succ j)
        rw [← hsn.out] at how' hmap2
        have hmw2 : Hid (m = (dWords (l.take (j + 1))).length) := Lib.hid (by rw [hsn.out]; exact hmw.out)
        clear hown' hmap' hmw hgrow how hoa hmap hsn han hcu
        go_wp2
        go_roundw
        case rel => exact ⟨j + 1, m, by omega, hmm2, by go_num, hmw2, how', hown2, hmap2, hy⟩
        case measure => simp [intOf]; omega
      · have hlook := fun n => (hmap1.drewN n).look Hsor.out Hvok.out
        rw [if_neg hmem, decide_eq_false hmem] at hlook
        unfold keyV at hlook
        have hds : dStep ws v = ws ++ [v] := if_neg hmem
        rw [hds, dIdx_new v ws hmem, ← hmw.out] at han
        rw [hds] at hsn
        have Hds := Lib.hid hds; clear hds
        have Hmem := Lib.hid hmem; clear hmem
        obtain ⟨aoW, capW, rfl, -, -, -, -, -⟩ := own_v how
        go_wp2
        go_quiet ((go_at_call 22; exact Calls.quiet_of_same (hsign _)))
        clear hlook
        have hput := (hmap1.drewN (nq + 1)).put Hsor.out Hvok.out Hmem.out (by unfold maxLen; omega) (by rw [← hmw.out]; omega)
        obtain ⟨w2, hrun, hmap2, hg2⟩ := hput
        rw [← hmw.out] at hrun
        unfold keyV at hrun
        have hcb : ∀ o u, ((wr.alloc (.cells #[.int .i64 v.1, .string v.2] 30)).drewN (nq + 1)).cell? ⟨wr.heap.size, o, none⟩ = some u → w2.cell? ⟨wr.heap.size, o, none⟩ = some u := fun o u h => by
          rw [← h]
          exact World.cell?_of_block (hg2.block wr.heap.size (by simp) (fun e => by have := hmap.isMap; obtain ⟨es, cl, hh⟩ := this; have := (Array.getElem?_eq_some_iff.1 hh).1; injection e with e; omega))
        have k0 := hcb 0 (.int .i64 v.1) (by simp [go_sem])
        have k1 := hcb 1 (.string v.2) (by simp [go_sem])
        clear hcb hmap1
        go_wp2
        refine wp_region_linH [(0, 0), (1, 0), (3, 0), (5, 0), (2, 1), (4, 0), (6, 2)] [6] (by kernel_rfl) (by kernel_rfl) (fun d _ _ _ _ h => by cases d <;> exact h) ?_
        have hf0 : ∀ w', Grows ((wr.alloc (.cells #[.int .i64 v.1, .string v.2] 30)).drewN nq).drew w' → w'.cell? ⟨wr.heap.size, 0, none⟩ = some (.int .i64 v.1) := fun w' hg => (Grows.toDrew hg).cell (by simp [go_sem])
        have hf1 : ∀ w', Grows ((wr.alloc (.cells #[.int .i64 v.1, .string v.2] 30)).drewN nq).drew w' → w'.cell? ⟨wr.heap.size, 1, none⟩ = some (.string v.2) := fun w' hg => (Grows.toDrew hg).cell (by simp [go_sem])
        repeat (first
          | (refine wpLinH_skip rfl rfl (fun K hK => ?_); go_simp; refine hK _ ?_; clear hK K)
          | (refine wpLinH_take (v := ?_) rfl rfl (fun w' hw' => ?_) (fun K hK => ?_); rotate_left; (have e0 := hf0 w' hw'; have e1 := hf1 w' hw'; go_simp; rfl); (go_simp; refine hK _ ?_; clear hK K)))
        refine wpLinH_do rfl (fun K hK => ?_); go_simp
        refine (hsign _).mono ?_
        rintro e x1 ⟨rfl, rfl⟩
        refine hK _ _ (Grows.refl _) ?_; clear hK K
        repeat (first
          | (refine wpLinH_skip rfl rfl (fun K hK => ?_); go_simp; refine hK _ ?_; clear hK K)
          | (refine wpLinH_take (v := ?_) rfl rfl (fun w' hw' => ?_) (fun K hK => ?_); rotate_left; (go_simp; rfl); (go_simp; refine hK _ ?_; clear hK K)))
        refine wpLinH_hard rfl (fun K hK => ?_); go_simp
        refine hK _ _ ?_; clear hK K hrun hf0 hf1 hsign
        refine wpLinH_nil ?_
        have how2 := (own_drewN (how.alloc (.cells #[.int .i64 v.1, .string v.2] 30)) (nq + 1)).kept hg2 (.inr (Ne.symm (hmap.apart how)))
        have hoa2 := (own_drewN (hoa.alloc (.cells #[.int .i64 v.1, .string v.2] 30)) (nq + 1)).kept hg2 (.inr (Ne.symm (hmap.apart hoa)))
        have hw2 : Below w.heap.size w w2 := (bdrewN (balloc hwr (.cells #[.int .i64 v.1, .string v.2] 30)) (nq + 1)).grown hg2 (balloc hwr _).size (fun j hj => by cases hj; exact Nat.le_refl _)
        clear how hoa hmap hwr hg2
        go_wp2_with (at_builtin; refine wpList_append_all sl_v rfl (.tmp 46) (.tmp 48) rfl rfl (how2.alloc _) rfl (cells_one_v w2 30 v) (fun e => by cases e) (fun _ _ => vlc_one _ _) ?c1 ?c2 ?c3 ?_)
        case c1 => unfold maxLen; omega
        case c2 => omega
        case c3 => exact (balloc hw2 _).size
        intro v3 w3 how3 hg3
        have how3' : w3.ownsRow w.heap.size 30 2 v3 (m + 1) (vcs (ws ++ [v])) := by rw [← vcs_snoc]; exact how3
        have hoa3 := (hoa2.alloc (.cells #[.int .i64 v.1, .string v.2] 30)).kept hg3 (own_apart hoa2 how2 (by decide))
        have hmap3 := (hmap2.alloc (.cells #[.int .i64 v.1, .string v.2] 30)).kept hg3 (hmap2.apart how2)
        have hw3 := (balloc hw2 (.cells #[.int .i64 v.1, .string v.2] 30)).grown hg3 (balloc hw2 _).size (fun j hj => (how2.lt j hj).1)
        obtain ⟨ao3, cap3, rfl, -, -, -, -, -⟩ := own_v how3'
        have hcu := cells_one w3 3 (.int .i64 (m : Nat))
        clear how3 hg3 how2 hoa2 hmap2 hw2 k0 k1
        by_cases hmm3 : m + 1 ≤ most
        rotate_left
        · go_wp2
          go_step3
          exact ⟨rfl, JNone.mk hw3⟩
        go_wp2_with (at_builtin; refine wpList_append_all1 sl_i64 rfl (.tmp 54) (.tmp 56) rfl rfl (hoa3.alloc _) rfl hcu (fun e => by cases e) (fun _ _ => rfl) ?d1 ?d2 ?d3 ?_)
        case d1 => unfold maxLen; omega
        case d2 => omega
        case d3 => exact (balloc hw3 _).size
        intro v4 w4 hoa4 hg4
        have how4 := (how3'.alloc (.cells #[.int .i64 (m : Nat)] 3)).kept hg4 (own_apart how3' hoa3 (by decide))
        have hmap4 := ((hmap3.alloc (.cells #[.int .i64 (m : Nat)] 3)).kept hg4 (hmap3.apart hoa3))
        have hw4 := (balloc hw3 (.cells #[.int .i64 (m : Nat)] 3)).grown hg4 (balloc hw3 _).size (fun j hj => (hoa3.lt j hj).1)
        have hoa4' : w4.ownsRow w.heap.size 3 1 v4 (j + 1) (i64v (dAtsI (l.take (j + 1)))) := by
          rw [han.out, ← i64v_append]; exact hoa4
        rw [← hsn.out] at how4 hmap4
        have hmw4 : Hid (m + 1 = (dWords (l.take (j + 1))).length) := Lib.hid (by rw [hsn.out, List.length_append, ← hmw.out]; rfl)
        clear hoa4 hg4 how3' hoa3 hmap3 hw3 hcu hsn han hmw
        go_wp2
        go_roundw
        case rel => exact ⟨j + 1, m + 1, by omega, hmm3, by go_num, hmw4, how4, hoa4', hmap4, hw4⟩
        case measure => simp [intOf]; omega
    · obtain rfl : j = len := by omega
      have hall : l.take j = l := List.take_of_length_le (by rw [Hl.out]; exact Nat.le_refl _)
      exfalso
      have h1 := hmw.out
      rw [hall] at h1
      have h2 := Hw.out
      omega
end Go.Proofs.Ytkolmoebopfgiaa
