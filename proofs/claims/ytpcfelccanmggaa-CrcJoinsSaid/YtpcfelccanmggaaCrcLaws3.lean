/- Chapter 4's laws: the walk over CrcPlaces. -/
import Derived.Test.YtpcfelccanmggaaCrcLaws2
import Derived.Test.YtpcfelccanmggaaCrcP2
import Derived.Test.YtpcfelccanmggaaRely
import Derived.RegionTactic
namespace Go.Proofs.Ytpcfelccanmggaa
open Go.RowKit
set_option linter.unusedVariables false

/-- A slice of one part. -/
def SP.part (p : List Nat) : SP := ⟨fun v w => ∃ g, v = .slice (some ⟨g, 0, none⟩) 1 1 ∧ PartsAt w w.heap.size (some ⟨g, 0, none⟩) 1 [p],
  fun v w1 w2 ⟨g, h1, h2⟩ h => ⟨g, h1, (h2.below h).mono h.size⟩⟩

theorem modN' (a : Int) (b : Nat) (hb : 0 < b) : ∃ k : Nat, a % (b : Int) = k ∧ k < b :=
  ⟨(a % (b : Int)).toNat, by have := Int.emod_nonneg a (show (b : Int) ≠ 0 by omega); omega, by have := Int.emod_lt_of_pos a (show (0 : Int) < b by omega); have := Int.emod_nonneg a (show (b : Int) ≠ 0 by omega); omega⟩

set_option maxHeartbeats 2000000 in
set_option maxRecDepth 100000 in
theorem crcPlaces_walk (a0 : Option Addr) (len0 cap0 : Nat) (z0 : List Int) (a1 a2 : Int) (w : World) (w0 : IsRow .u8 w a0 len0 cap0 z0) (w1 : (Lit.int .i64 a1).wf = true) (w2 : (Lit.int .i64 a2).wf = true) :
    Calls Try.prog 8 #[.slice a0 len0 cap0, .int .i64 a1, .int .i64 a2] w fun e w' => e = .returned (.bool true) ∧ Below w.heap.size w w' := by
  obtain ⟨b, hl, hb, hc, hn, hlen⟩ := w0.u8
  obtain ⟨ha1, ha2⟩ := bounds_i64 w1
  obtain ⟨hb1, hb2⟩ := bounds_i64 w2
  have Hl := Lib.hid hl; clear hl
  have Hb := Lib.hid hb; clear hb
  by_cases h5 : len0 < 4
  · go_enter Try.func8, Try.ntmps8
    go_wp2_with (go_at_call 10; refine (known_any _).mono ?_; rintro e x1 ⟨rfl, hx1⟩)
    go_ret
    exact ⟨rfl, hx1⟩
  by_cases h300 : 200 < len0
  · go_enter Try.func8, Try.ntmps8
    go_wp2_with (go_at_call 10; refine (known_any _).mono ?_; rintro e x1 ⟨rfl, hx1⟩)
    go_ret
    exact ⟨rfl, hx1⟩
  obtain ⟨i, hi, hil⟩ := modN' a1 (len0 - 3) (by omega)
  obtain ⟨s, hs, hsl⟩ := modN' a2 3 (by omega)
  have hi' : a1 % ((len0 : Int) - 3) = i := by rw [← hi]; congr 1; omega
  have Hi := Lib.hid hi'; clear hi hi'
  have Hs : Hid (a2 % 3 = s) := Lib.hid hs; clear hs
  go_enter Try.func8, Try.ntmps8
  go_wp2_with (go_at_call 10; refine (known_any _).mono ?_; rintro e x1 ⟨rfl, hx1⟩)
  refine (within_any _ _ _ (by omega) (by omega) ha1 ha2).mono ?_; rw [Hi.out]; rintro e x2 ⟨rfl, rfl⟩
  go_wp2_with fail
  refine (within_any _ _ _ (by omega) (by omega) hb1 hb2).mono ?_; rw [Hs.out]; rintro e x2 ⟨rfl, rfl⟩
  have hc1 := hc.at hx1
  go_wp2_with (at_builtin; refine wpList_append_clone1 sl_u8 rfl (.tmp 30) (.tmp 31) rfl rfl rfl (hc1.alloc (Nat.le_refl _) _) hn (fun _ _ => rfl) (by unfold maxLen; omega) (by omega) ?_)
  intro aoC capC x3 hcC hbC hown
  obtain ⟨g, rfl, hg, hown⟩ := hown.pos (by omega)
  rw [range_u8c b len0 Hl.out] at hown
  have hx3 : Below w.heap.size w x3 := (balloc hx1 _).trans (hbC.mono (by have := hx1.size; omega))
  have hgw : w.heap.size ≤ g := Nat.le_trans (balloc hx1 _).size hg
  have hown := own_base hown (balloc hx1 _).size
  clear hcC hbC hg
  obtain ⟨k, hk⟩ : ∃ k : Nat, k = i + 1 + s := ⟨_, rfl⟩
  obtain ⟨x, hx⟩ : ∃ x, Hid (x = b.getD i 0) := ⟨_, Lib.hid rfl⟩
  obtain ⟨y, hy⟩ : ∃ y, Hid (y = b.getD k 0) := ⟨_, Lib.hid rfl⟩
  have hx8 : x < 256 := by rw [hx.out]; exact getD_lt Hb.out _
  have hy8 : y < 256 := by rw [hy.out]; exact getD_lt Hb.out _
  have c1 : x3.cell? ⟨g, i, none⟩ = some (.int .u8 (x : Nat)) := by rw [hx.out]; exact cell_u8 hown _ (by omega)
  have c2 : x3.cell? ⟨g, k, none⟩ = some (.int .u8 (y : Nat)) := by rw [hy.out]; exact cell_u8 hown _ (by omega)
  have f1 := hown.frozenAt i
  have f2 := hown.frozenAt k
  have ek : (i : Int) + 1 + s = (k : Int) := by omega
  have kl : k < len0 := by omega
  have ik : i < k := by omega
  have il : i < len0 := by omega
  have Hk := Lib.hid hk; clear hk
  have Ek := Lib.hid ek; clear ek
  go_wp2
  rw [Ek.out]
  go_region
  have hs1 := stored_u8 hown i (x := (y : Int)) rfl
  have hs2 := stored_u8 hs1 k (x := (x : Int)) rfl
  have hs3 := hs2.drew
  have hbs : Below w.heap.size w ((x3.setCell ⟨g, i, none⟩ (.int .u8 (y : Int))).setCell ⟨g, k, none⟩ (.int .u8 (x : Int))).drew := ((hx3.setCell (by exact hgw) _).setCell (by exact hgw) _).drew
  obtain ⟨cl, hcl⟩ : ∃ cl, Hid (cl = (b.set i y).set k x) := ⟨_, Lib.hid rfl⟩
  rw [← hcl.out] at hs3
  have hcll : Hid (cl.length = len0) := Lib.hid (by rw [hcl.out, List.length_set, List.length_set]; exact Hl.out)
  have hcl256 : Hid (∀ y ∈ cl, y < 256) := Lib.hid (by rw [hcl.out]; exact set_lt (set_lt Hb.out hy8) hx8)
  have hans : (((csum b : Int) == (csum cl : Int)) == ((x : Int) == (y : Int))) = true := by
    have gx : b[i]'(by rw [Hl.out]; omega) = x := by rw [hx.out, List.getD_eq_getElem?_getD, List.getElem?_eq_getElem (by rw [Hl.out]; omega)]; rfl
    have gy : b[k]'(by rw [Hl.out]; omega) = y := by rw [hy.out, List.getD_eq_getElem?_getD, List.getElem?_eq_getElem (by rw [Hl.out]; omega)]; rfl
    by_cases hxy : x = y
    · subst hxy
      have : cl = b := by rw [hcl.out]; exact swap_same b i k x _ _ gx gy
      rw [this]; simp
    · have hne := csum_swap b i k x y ik (by rw [Hl.out]; omega) (by have := Hk.out; omega) gx gy hx8 hy8 hxy
      rw [← hcl.out] at hne
      have e1 : ((csum b : Int) == (csum cl : Int)) = false := by rw [beq_eq_false_iff_ne]; omega
      have e2 : ((x : Int) == (y : Int)) = false := by rw [beq_eq_false_iff_ne]; omega
      rw [e1, e2]; rfl
  obtain ⟨ao', cap', hv, hcC, -⟩ := own_u8 hs3
  simp only [Value.slice.injEq, true_and] at hv
  obtain ⟨rfl, rfl⟩ := hv
  clear hs1 hs2 hs3 c1 c2 f1 f2 hown
  go_wp2
  obtain ⟨W, hW⟩ : ∃ W, W = ((x3.setCell ⟨g, i, none⟩ (.int .u8 (y : Int))).setCell ⟨g, k, none⟩ (.int .u8 (x : Int))).drew := ⟨_, rfl⟩
  rw [← hW] at hcC hbs ⊢
  clear hW
  have hcB := hc.at hbs
  obtain ⟨bb, off, rfl, hbb, q1⟩ := hcB i (by omega)
  obtain ⟨bb', off', e', -, q2⟩ := hcB k kl
  cases e'
  have q1' : ∀ w', Grows W.drew w' → w'.cell? ⟨bb, off + i, none⟩ = some (.int .u8 (x : Int)) := fun w' hg => by rw [(Grows.toDrew hg).cell q1, hx.out]
  have q2' : ∀ w', Grows W.drew w' → w'.cell? ⟨bb, off + k, none⟩ = some (.int .u8 (y : Int)) := fun w' hg => by rw [(Grows.toDrew hg).cell q2, hy.out]
  refine wp_region_relyF [(0, true), (3, true), (7, true), (8, true), (9, true), (10, true), (11, true), (12, true), (13, true), (14, true), (15, true)]
    [(1, some 48, []), (2, some 49, [(1, 48)]), (4, some 51, []), (5, some 52, [(4, 51)]), (6, some 53, [(2, 49), (5, 52)]), (16, some 63, [(6, 53)]), (17, some 6, [(16, 63)])]
    (fun i => match i with
      | 1 => SP.part b | 4 => SP.part cl | 2 => SP.val (.int .u32 (csum b : Nat)) | 5 => SP.val (.int .u32 (csum cl : Nat))
      | 6 => SP.val (.bool ((csum b : Int) == (csum cl : Int))) | 16 => SP.val (.bool true) | 17 => SP.val (.bool true) | _ => SP.any)
    (by kernel_rfl) (by kernel_rfl) (fun d _ _ _ _ h => by cases d <;> exact h) (fun d _ _ _ _ h => by cases d <;> exact h) ?_
  repeat (first
    | (refine wpLinK_skip rfl rfl (fun K hK => ?_); go_simp; refine hK _ ?_; clear hK K)
    | (refine wpLinK_take (v := ?_) rfl rfl (fun w' hw' => ?_) (fun K hK => ?_); rotate_left; (go_simp; rfl); (go_simp; refine hK _ ?_; clear hK K)))
  refine relyRest_mk ?_ (fun w1 hg => ?_)
  · refine relySteps_cons rfl (fun w1 hg => relyStep_nil (fun K hK => ?_)) ?_
    · go_simp
      exact hK _ _ ((Grows.refl _).alloc _) ⟨_, rfl, one_part rfl Hl.out hlen ((Grows.toDrew hg).cells hcB)⟩
    refine relySteps_cons rfl (fun w1 hg => relyStep_cons (fun v hv => relyStep_nil (fun K hK => ?_))) ?_
    · obtain ⟨g1, rfl, hp⟩ := hv
      go_simp
      refine (sum_one _ b _ Hb.out hp _).mono ?_
      rintro e x4 ⟨rfl, rfl⟩
      exact hK _ _ (Grows.refl _) rfl
    refine relySteps_cons rfl (fun w1 hg => relyStep_nil (fun K hK => ?_)) ?_
    · go_simp
      exact hK _ _ ((Grows.refl _).alloc _) ⟨_, rfl, one_part rfl hcll.out hlen ((Grows.toDrew hg).cells hcC)⟩
    refine relySteps_cons rfl (fun w1 hg => relyStep_cons (fun v hv => relyStep_nil (fun K hK => ?_))) ?_
    · obtain ⟨g1, rfl, hp⟩ := hv
      go_simp
      refine (sum_one _ cl _ hcl256.out hp _).mono ?_
      rintro e x4 ⟨rfl, rfl⟩
      exact hK _ _ (Grows.refl _) rfl
    refine relySteps_cons rfl (fun w1 hg => relyStep_cons (fun v hv => relyStep_cons (fun v2 hv2 => relyStep_nil (fun K hK => ?_)))) ?_
    · obtain rfl := SP.val_eq hv
      obtain rfl := SP.val_eq hv2
      go_simp
      exact hK _ _ (Grows.refl _) rfl
    refine relySteps_cons rfl (fun w1 hg => relyStep_cons (fun v hv => relyStep_nil (fun K hK => ?_))) ?_
    · obtain rfl := SP.val_eq hv
      go_simp
      exact hK _ _ (Grows.refl _) rfl
    refine relySteps_cons rfl (fun w1 hg => relyStep_cons (fun v hv => relyStep_nil (fun K hK => ?_))) relySteps_nil
    · obtain rfl := SP.val_eq hv
      go_simp
      exact hK _ _ (Grows.refl _) rfl
  · iterate 6 (refine relyEnd_cons (fun _ _ => ?_))
    refine relyEnd_cons (fun v hv => relyEnd_nil ?_)
    obtain rfl := SP.val_eq hv
    go_wp2
    go_ret
    exact ⟨rfl, bmore hbs (Grows.toDrew hg)⟩
end Go.Proofs.Ytpcfelccanmggaa
