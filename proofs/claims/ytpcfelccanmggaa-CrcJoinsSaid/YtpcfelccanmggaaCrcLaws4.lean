/- Chapter 4's laws: the walk over CrcNone. -/
import Derived.Test.YtpcfelccanmggaaCrcLaws3
namespace Go.Proofs.Ytpcfelccanmggaa
open Go.RowKit
set_option linter.unusedVariables false

/-- Parts as the cells of a new block. -/
theorem parts_alloc {w : World} {E : TypeId} (sl : List (Option Addr × Nat × Nat × List Nat))
    (h : ∀ s ∈ sl, s.2.2.2.length = s.2.1 ∧ s.2.1 ≤ 9223372036854775807 ∧ CellsAt w w.heap.size s.1 s.2.1 (u8c s.2.2.2)) :
    PartsAt (w.alloc (.cells (sl.map fun s => Value.slice s.1 s.2.1 s.2.2.1).toArray E)) (w.alloc (.cells (sl.map fun s => Value.slice s.1 s.2.1 s.2.2.1).toArray E)).heap.size (some ⟨w.heap.size, 0, none⟩) sl.length (sl.map (·.2.2.2)) := by
  refine ⟨by simp, fun i hi => ?_⟩
  obtain ⟨b, off, e, hb, hc⟩ := cells_alloc w (sl.map fun s => Value.slice s.1 s.2.1 s.2.2.1).toArray E sl.length (fun i => (sl.map fun s => Value.slice s.1 s.2.1 s.2.2.1).getD i undef) (fun i hi => by
    rw [List.getD_eq_getElem?_getD, List.getElem?_eq_getElem (by simpa using hi)]; simp [hi]) i hi
  obtain ⟨h1, h2, h3⟩ := h sl[i] (List.getElem_mem _)
  refine ⟨b, off, e, hb, sl[i].1, sl[i].2.1, sl[i].2.2.1, ?_, ?_, h2, ?_⟩
  · rw [hc]; show some ((sl.map fun s => Value.slice s.1 s.2.1 s.2.2.1).getD i undef) = _; rw [List.getD_eq_getElem?_getD, List.getElem?_map, List.getElem?_eq_getElem hi]; rfl
  · rw [List.getD_eq_getElem?_getD, List.getElem?_map, List.getElem?_eq_getElem hi]; exact h1
  · rw [List.getD_eq_getElem?_getD, List.getElem?_map, List.getElem?_eq_getElem hi]; exact (h3.alloc (Nat.le_refl _) _).mono (by simp)
def SP.parts (n : Nat) (ps : List (List Nat)) : SP := ⟨fun v w => ∃ g, v = .slice (some ⟨g, 0, none⟩) n n ∧ PartsAt w w.heap.size (some ⟨g, 0, none⟩) n ps,
  fun v w1 w2 ⟨g, h1, h2⟩ h => ⟨g, h1, (h2.below h).mono h.size⟩⟩
def SP.empty : SP := ⟨fun v w => ∃ g, v = .slice (some ⟨g, 0, none⟩) 0 0, fun v w1 w2 h _ => h⟩

theorem drop_slice {w : World} {B : Nat} {a : Option Addr} {n cap k : Nat} {l : List Nat} (h : CellsAt w B a n (u8c l)) (hk : k ≤ n) (hc : n ≤ cap) :
    CellsAt w B (if cap = k then a else a.map (·.add k)) (n - k) (u8c (l.drop k)) := by
  by_cases e : cap = k
  · rw [if_pos e, show n - k = 0 by omega]; exact CellsAt.zero
  · rw [if_neg e]
    intro i hi
    obtain ⟨b, off, rfl, hb, hcc⟩ := h (k + i) (by omega)
    refine ⟨b, off + k, by simp [Addr.add_lit], hb, ?_⟩
    rw [u8c_drop, ← hcc, Nat.add_assoc]

set_option maxHeartbeats 2000000 in
set_option maxRecDepth 100000 in
theorem crcNone_walk (a0 : Option Addr) (len0 cap0 : Nat) (z0 : List Int) (a1 : Int) (w : World) (w0 : IsRow .u8 w a0 len0 cap0 z0) (w1 : (Lit.int .i64 a1).wf = true) :
    Calls Try.prog 9 #[.slice a0 len0 cap0, .int .i64 a1] w fun e w' => e = .returned (.bool true) ∧ Below w.heap.size w w' := by
  have hcap : len0 ≤ cap0 := w0.open_.1
  obtain ⟨b, hl, hb, hc, hn, hlen⟩ := w0.u8
  obtain ⟨ha1, ha2⟩ := bounds_i64 w1
  have Hl := Lib.hid hl; clear hl
  have Hb := Lib.hid hb; clear hb
  by_cases h300 : 200 < len0
  · go_enter Try.func9, Try.ntmps9
    go_wp2_with (go_at_call 10; refine (known_any _).mono ?_; rintro e x1 ⟨rfl, hx1⟩)
    go_ret
    exact ⟨rfl, hx1⟩
  obtain ⟨k, hk, hkl⟩ := modN' a1 (len0 + 1) (by omega)
  have hk' : a1 % ((len0 : Int) + 1) = k := by rw [← hk]; congr 1
  have Hk := Lib.hid hk'; clear hk hk'
  have hkle : k ≤ len0 := by omega
  have hkc : k ≤ cap0 := by omega
  have hkc' : (k : Int) ≤ cap0 := by omega
  have hkl' : (k : Int) ≤ len0 := by omega
  have htk : (b.take k).length = k := by rw [List.length_take, Hl.out]; omega
  have hdk : (b.drop k).length = len0 - k := by rw [List.length_drop, Hl.out]
  have Htk := Lib.hid htk; clear htk
  have Hdk := Lib.hid hdk; clear hdk
  have hflat : [[], b.take k, [], b.drop k, []].flatten = b := by simp
  have Hflat := Lib.hid hflat; clear hflat
  have hss : (((csum b : Int)) == (csum b : Int)) = true := by simp
  go_enter Try.func9, Try.ntmps9
  go_wp2_with (go_at_call 10; refine (known_any _).mono ?_; rintro e x1 ⟨rfl, hx1⟩)
  refine (within_any _ _ _ (by omega) (by omega) ha1 ha2).mono ?_; rw [Hk.out]; rintro e x2 ⟨rfl, rfl⟩
  have hcB := hc.at hx1
  go_wp2
  have hsl : ∀ w' : World, (Instr.sliceAt 24 (.slice a0 len0 cap0) (some (.int .i64 (k : Nat))) none none).run Try.prog w' = .ok (.slice (if cap0 = k then a0 else a0.map (·.add k)) (len0 - k) (cap0 - k)) w' := by
    intro w'
    have h := run_slice_l (P := Try.prog) (w := w') 24 a0 len0 cap0 Try.underlying24 .i64 (k : Int) (by omega) (by omega)
    rw [run_sliceAt_slice (P := Try.prog) w' _ _ _ _ _ Try.underlying24, h, Int.toNat_natCast]
    have hs : (sizeOf (Try.prog.elem 24)).run Try.prog w' = .ok 1 w' := by kernel_rfl
    rw [hs]
    simp [Result.andThen, sliced]
  obtain ⟨aD, haD⟩ : ∃ aD, aD = (if cap0 = k then a0 else a0.map (·.add k)) := ⟨_, rfl⟩
  have hcD := drop_slice hcB hkle hcap
  have hcT : CellsAt x1 x1.heap.size a0 k (u8c (b.take k)) := (hcB.take hkle).congr (fun i hi => (u8c_take _ _ _ hi).symm)
  rw [← haD] at hsl hcD
  clear haD
  refine wp_region_relyF [(0, true), (1, true), (2, true), (3, true), (4, true), (5, true), (9, true)]
    [(6, some 22, []), (7, some 23, [(6, 22)]), (8, some 24, [(7, 23)]), (10, some 26, []), (11, some 27, [(10, 26)]), (12, some 28, [(8, 24), (11, 27)]), (13, some 29, [(12, 28)]), (14, some 30, [(13, 29)]), (15, some 31, [(13, 29), (14, 30)]), (16, some 32, [(13, 29), (15, 31)]), (17, some 33, [(13, 29), (16, 32)]), (18, some 4, [(17, 33)])]
    (fun i => match i with
      | 6 => SP.empty | 7 => SP.parts 5 [[], b.take k, [], b.drop k, []] | 8 => SP.val (.int .u32 (csum b : Nat)) | 10 => SP.part b | 11 => SP.val (.int .u32 (csum b : Nat))
      | 12 => SP.val (.bool true) | 13 => SP.val (.bool true) | 14 => SP.part [] | 15 => SP.val (.int .u32 0) | 16 => SP.val (.bool true) | 17 => SP.val (.bool true) | 18 => SP.val (.bool true) | _ => SP.any)
    (by kernel_rfl) (by kernel_rfl) (fun d _ _ _ _ h => by cases d <;> exact h) (fun d _ _ _ _ h => by cases d <;> exact h) ?_
  repeat (first
    | (refine wpLinK_skip rfl rfl (fun K hK => ?_); go_simp; refine hK _ ?_; clear hK K)
    | (refine wpLinK_take (v := ?_) rfl rfl (fun w' hw' => ?_) (fun K hK => ?_); rotate_left; (go_simp; rfl); (go_simp; refine hK _ ?_; clear hK K)))
  refine relyRest_mk ?_ (fun w1 hg => ?_)
  · refine relySteps_cons rfl (fun w1 hg => relyStep_nil (fun K hK => ?_)) ?_
    · go_simp
      exact hK _ _ ((Grows.refl _).alloc _) ⟨_, rfl⟩
    refine relySteps_cons rfl (fun w1 hg => relyStep_cons (fun v hv => relyStep_nil (fun K hK => ?_))) ?_
    · obtain ⟨g1, rfl⟩ := hv
      go_simp
      refine hK _ _ ((Grows.refl _).alloc _) ⟨_, rfl, parts_alloc [(none, 0, 0, []), (a0, k, cap0, b.take k), (none, 0, 0, []), (aD, len0 - k, cap0 - k, b.drop k), (some ⟨g1, 0, none⟩, 0, 0, [])] ?_⟩
      intro s hs
      simp only [List.mem_cons, List.not_mem_nil, or_false] at hs
      rcases hs with rfl | rfl | rfl | rfl | rfl
      · exact ⟨rfl, Nat.zero_le _, CellsAt.zero⟩
      · exact ⟨Htk.out, by show k ≤ _; omega, (Grows.toDrew hg).cells hcT⟩
      · exact ⟨rfl, Nat.zero_le _, CellsAt.zero⟩
      · exact ⟨Hdk.out, by show len0 - k ≤ _; omega, (Grows.toDrew hg).cells hcD⟩
      · exact ⟨rfl, Nat.zero_le _, CellsAt.zero⟩
    refine relySteps_cons rfl (fun w1 hg => relyStep_cons (fun v hv => relyStep_nil (fun K hK => ?_))) ?_
    · obtain ⟨g1, rfl, hp⟩ := hv
      go_simp
      refine (sum_n _ 5 _ _ _ (by decide) (by
        intro q hq x hx
        refine Hb.out x ?_
        rw [← Hflat.out]
        exact List.mem_flatten.2 ⟨q, hq, hx⟩) hp).mono ?_
      rw [Hflat.out]
      rintro e x4 ⟨rfl, rfl⟩
      exact hK _ _ (Grows.refl _) rfl
    refine relySteps_cons rfl (fun w1 hg => relyStep_nil (fun K hK => ?_)) ?_
    · go_simp
      exact hK _ _ ((Grows.refl _).alloc _) ⟨_, rfl, one_part rfl Hl.out hlen ((Grows.toDrew hg).cells hcB)⟩
    refine relySteps_cons rfl (fun w1 hg => relyStep_cons (fun v hv => relyStep_nil (fun K hK => ?_))) ?_
    · obtain ⟨g1, rfl, hp⟩ := hv
      go_simp
      refine (sum_one _ b _ Hb.out hp _).mono ?_
      rintro e x4 ⟨rfl, rfl⟩
      exact hK _ _ (Grows.refl _) rfl
    refine relySteps_cons rfl (fun w1 hg => relyStep_cons (fun v hv => relyStep_cons (fun v2 hv2 => relyStep_nil (fun K hK => ?_)))) ?_
    · obtain rfl := SP.val_eq hv
      obtain rfl := SP.val_eq hv2
      go_simp
      exact hK _ _ (Grows.refl _) rfl
    refine relySteps_cons rfl (fun w1 hg => relyStep_cons (fun v hv => relyStep_nil (fun K hK => ?_))) ?_
    · obtain rfl := SP.val_eq hv
      go_simp
      exact hK _ _ (Grows.refl _) rfl
    refine relySteps_cons rfl (fun w1 hg => relyStep_cons (fun v hv => relyStep_nil (fun K hK => ?_))) ?_
    · obtain rfl := SP.val_eq hv
      go_simp
      exact hK _ _ ((Grows.refl _).alloc _) ⟨_, rfl, one_part rfl rfl (by decide) CellsAt.zero⟩
    refine relySteps_cons rfl (fun w1 hg => relyStep_cons (fun v hv => relyStep_cons (fun v2 hv2 => relyStep_nil (fun K hK => ?_)))) ?_
    · obtain rfl := SP.val_eq hv
      obtain ⟨g1, rfl, hp⟩ := hv2
      go_simp
      refine (sum_one _ [] _ (by decide) hp _).mono ?_
      rw [show csum [] = 0 by decide +kernel]
      rintro e x4 ⟨rfl, rfl⟩
      exact hK _ _ (Grows.refl _) rfl
    refine relySteps_cons rfl (fun w1 hg => relyStep_cons (fun v hv => relyStep_cons (fun v2 hv2 => relyStep_nil (fun K hK => ?_)))) ?_
    · obtain rfl := SP.val_eq hv
      obtain rfl := SP.val_eq hv2
      go_simp
      exact hK _ _ (Grows.refl _) rfl
    refine relySteps_cons rfl (fun w1 hg => relyStep_cons (fun v hv => relyStep_cons (fun v2 hv2 => relyStep_nil (fun K hK => ?_)))) ?_
    · obtain rfl := SP.val_eq hv
      obtain rfl := SP.val_eq hv2
      go_simp
      exact hK _ _ (Grows.refl _) rfl
    refine relySteps_cons rfl (fun w1 hg => relyStep_cons (fun v hv => relyStep_nil (fun K hK => ?_))) relySteps_nil
    · obtain rfl := SP.val_eq hv
      go_simp
      exact hK _ _ (Grows.refl _) rfl
  · iterate 11 (refine relyEnd_cons (fun _ _ => ?_))
    refine relyEnd_cons (fun v hv => relyEnd_nil ?_)
    obtain rfl := SP.val_eq hv
    go_wp2
    go_ret
    exact ⟨rfl, bmore hx1 (Grows.toDrew hg)⟩
end Go.Proofs.Ytpcfelccanmggaa
