/- slices.Grow at nil, slices.Concat of slices of bytes. -/
import Derived.Test.YtailcciimbjpgaaSl
import Derived.Lib.AppendZeros
namespace Go.Proofs.Ytailcciimbjpgaa
open Go.RowKit
set_option linter.unusedVariables false

/-- Slices of bytes as the cells of a slice of slices: what each part is; a nil one has no room. -/
def PartsOk (w : World) (B : Nat) (ao : Option Addr) (n : Nat) (ps : List (List Nat)) : Prop :=
  ps.length = n ∧ ∀ i, i < n → ∃ b off, ao = some ⟨b, off, none⟩ ∧ b < B ∧ ∃ a m c, w.cell? ⟨b, off + i, none⟩ = some (.slice a m c) ∧ (ps.getD i []).length = m ∧ (a = none → m = 0 ∧ c = 0) ∧ CellsAt w B a m (u8c (ps.getD i []))
theorem PartsOk.below {w w' : World} {B : Nat} {ao : Option Addr} {n : Nat} {ps : List (List Nat)} (h : PartsOk w B ao n ps) (hb : Below B w w') : PartsOk w' B ao n ps :=
  ⟨h.1, fun i hi => let ⟨b, off, e, hlt, a, m, c, h1, h2, h3, h4⟩ := h.2 i hi; ⟨b, off, e, hlt, a, m, c, (hb.cell (by exact hlt)).trans h1, h2, h3, h4.below hb⟩⟩
theorem PartsOk.mono {w : World} {B B' : Nat} {ao : Option Addr} {n : Nat} {ps : List (List Nat)} (h : PartsOk w B ao n ps) (hB : B ≤ B') : PartsOk w B' ao n ps :=
  ⟨h.1, fun i hi => let ⟨b, off, e, hlt, a, m, c, h1, h2, h3, h4⟩ := h.2 i hi; ⟨b, off, e, Nat.lt_of_lt_of_le hlt hB, a, m, c, h1, h2, h3, h4.mono hB⟩⟩
/-- Parts as the cells of a new block. -/
theorem partsOk_alloc {w : World} {E : TypeId} (sl : List (Option Addr × Nat × Nat × List Nat))
    (h : ∀ s ∈ sl, s.2.2.2.length = s.2.1 ∧ (s.1 = none → s.2.1 = 0 ∧ s.2.2.1 = 0) ∧ CellsAt w w.heap.size s.1 s.2.1 (u8c s.2.2.2)) :
    PartsOk (w.alloc (.cells (sl.map fun s => Value.slice s.1 s.2.1 s.2.2.1).toArray E)) (w.alloc (.cells (sl.map fun s => Value.slice s.1 s.2.1 s.2.2.1).toArray E)).heap.size (some ⟨w.heap.size, 0, none⟩) sl.length (sl.map (·.2.2.2)) := by
  refine ⟨by simp, fun i hi => ?_⟩
  obtain ⟨b, off, e, hb, hc⟩ := cells_alloc w (sl.map fun s => Value.slice s.1 s.2.1 s.2.2.1).toArray E sl.length (fun i => (sl.map fun s => Value.slice s.1 s.2.1 s.2.2.1).getD i undef) (fun i hi => by
    show _ = some ((sl.map fun s => Value.slice s.1 s.2.1 s.2.2.1).getD i undef)
    rw [List.getD_eq_getElem?_getD, List.getElem?_eq_getElem (by simpa using hi)]; simp [hi]) i hi
  obtain ⟨h1, h2, h3⟩ := h sl[i] (List.getElem_mem _)
  refine ⟨b, off, e, hb, sl[i].1, sl[i].2.1, sl[i].2.2.1, ?_, ?_, h2, ?_⟩
  · rw [hc]; show some ((sl.map fun s => Value.slice s.1 s.2.1 s.2.2.1).getD i undef) = _; rw [List.getD_eq_getElem?_getD, List.getElem?_map, List.getElem?_eq_getElem hi]; rfl
  · rw [List.getD_eq_getElem?_getD, List.getElem?_map, List.getElem?_eq_getElem hi]; exact h1
  · rw [List.getD_eq_getElem?_getD, List.getElem?_map, List.getElem?_eq_getElem hi]; exact (h3.alloc (Nat.le_refl _) _).mono (by simp)

theorem flatten_take' (ps : List (List Nat)) (k : Nat) (hk : k < ps.length) : (ps.take (k + 1)).flatten = (ps.take k).flatten ++ ps.getD k [] := by
  rw [List.take_succ_eq_append_getElem hk, List.flatten_append, List.getD_eq_getElem?_getD, List.getElem?_eq_getElem hk]; simp
theorem flatten_take_le (ps : List (List Nat)) (k : Nat) : (ps.take k).flatten.length ≤ ps.flatten.length := by
  have e : ps.flatten = (ps.take k).flatten ++ (ps.drop k).flatten := by rw [← List.flatten_append, List.take_append_drop]
  rw [e, List.length_append]; omega

set_option maxHeartbeats 1000000 in
theorem grow_nil (n : Nat) (w : World) (hn : n ≤ 140737488355328) :
    Calls Try.prog 37 #[.slice none 0 0, .int .i64 n] w fun e w' => ∃ v, e = .returned v ∧ w'.ownsRow w.heap.size 5 1 v 0 [] ∧ Below w.heap.size w w' := by
  rcases Nat.eq_zero_or_pos n with h0 | h0
  · subst h0
    go_enter Try.func37, Try.ntmps37
    go_wp2
    go_ret
    exact ⟨_, rfl, World.ownsRow_nil _ _ _ _, Below.refl _ _⟩
  · obtain ⟨i0, hi, hz0, hz1, hz2⟩ := info_parts Try.infoU8
    have hr := fun (w' : World) => Lib.run_append_nil_zeros (P := Try.prog) w' 29 3 29 5 i0 (.int .u8 0) .i64 .i64 Try.underlying29 Try.underlying3 hi hz0 n h0 (by omega) (by omega) (by rw [hz2]; omega)
    have hge := grownCap_ge w n 0 5
    have hcm : grownCap w n 0 5 ≤ maxLen := grownCap_le_maxLen w n 0 5 (by unfold maxLen; omega)
    obtain ⟨cap, hcap⟩ : ∃ cap, cap = grownCap w n 0 5 := ⟨_, rfl⟩
    have hrw := hr w
    rw [← hcap] at hge hcm hrw
    have Hcap := Lib.hid hcap; clear hcap hr
    have Hcm := Lib.hid hcm; clear hcm
    go_enter Try.func37, Try.ntmps37
    go_wp2_with (at_builtin; refine Lib.wpList_append_run w rfl (.tmp 20) (.tmp 21) 29 3 rfl _ _ rfl rfl _ _ hrw ?_)
    clear hrw
    go_wp2
    go_ret
    refine ⟨_, rfl, ⟨by simp, .inr ⟨w.heap.size, cap, _, rfl, Nat.le_refl _, heap_alloc_new w.drew _, Nat.zero_le _, Hcm.out, ?_, rfl⟩⟩, balloc (Below.refl _ _).drew _⟩
    simp only [Array.size_append, size_zeroCells]
    show n * 1 + (cap - n) * 1 = cap * 1
    omega

set_option maxHeartbeats 2000000 in
set_option maxRecDepth 100000 in
theorem concat_any (ao : Option Addr) (n cap : Nat) (ps : List (List Nat)) (w : World) (hn : n ≤ 9223372036854775807) (hsum : ps.flatten.length ≤ 1000000000) (hp : PartsOk w w.heap.size ao n ps) :
    Calls Try.prog 21 #[.slice ao n cap] w fun e w' => ∃ v, e = .returned v ∧ Fresh w w' 5 v (u8v ps.flatten) := by
  obtain ⟨hpl, hpc⟩ := hp
  have Hpl := Lib.hid hpl; clear hpl
  have HP := Lib.hid hpc
  go_enter Try.func21, Try.ntmps21
  go_wp2
  go_loop [3, 11] (fun s i => ∃ k t : Nat, k ≤ n ∧ i = .int .i64 k ∧ s = .int .i64 t ∧ Hid (t = (ps.take k).flatten.length)) (fun _ i => n - (intOf i).toNat)
  case atStart => exact ⟨0, 0, Nat.zero_le _, rfl, rfl, Lib.hid (by simp)⟩
  case round =>
    obtain ⟨k, t, hk, rfl, rfl, ht⟩ := hrel
    by_cases hkn : k < n
    · obtain ⟨b, off, rfl, hb, a, m, c, hcell, hm, hnil, hpc⟩ := hpc k hkn
      have ht2 : t + m ≤ 1000000000 := by
        have h := flatten_take_le ps (k + 1)
        rw [flatten_take' ps k (by rw [Hpl.out]; exact hkn), List.length_append, hm, ← ht.out] at h
        omega
      have hnext : Hid (t + m = (ps.take (k + 1)).flatten.length) := Lib.hid (by rw [flatten_take' ps k (by rw [Hpl.out]; exact hkn), List.length_append, hm, ← ht.out])
      clear hm hpc
      go_wp2
      go_round
      case rel => exact ⟨k + 1, t + m, by omega, by go_num, by go_num, hnext⟩
      case measure => simp [intOf]; omega
    · obtain rfl : k = n := by omega
      have ht2 : t ≤ 1000000000 := by have := flatten_take_le ps k; rw [← ht.out] at this; omega
      have HT : Hid (t = ps.flatten.length) := Lib.hid (by rw [ht.out, List.take_of_length_le (by rw [Hpl.out]; exact Nat.le_refl _)])
      clear ht hsum hpc
      go_wp2_with (go_at_call 37; refine (grow_nil t _ (by omega)).mono ?_; rintro e x1 ⟨v1, rfl, hown1, hx1⟩)
      go_loopw [6, 27] (fun v i wr => ∃ j u : Nat, j ≤ k ∧ i = .int .i64 j ∧ Hid (u = (ps.take j).flatten.length) ∧ wr.ownsRow w.heap.size 5 1 v u (u8v (ps.take j).flatten) ∧ Below w.heap.size w wr) (fun _ i _ => k - (intOf i).toNat)
      case atStart => exact ⟨0, 0, Nat.zero_le _, rfl, Lib.hid (by simp), hown1, hx1⟩
      case round =>
        obtain ⟨j, u, hj, rfl, hu, hown, hwr⟩ := hrel
        by_cases hjk : j < k
        · obtain ⟨b, off, rfl, hb, a, m, c, hcell, hm, hnil, hcs⟩ := HP.out j hjk
          have hcell' := (hwr.cell (by exact hb)).trans hcell
          have hle : u + m ≤ 1000000000 := by
            have h := flatten_take_le ps (j + 1)
            rw [flatten_take' ps j (by rw [Hpl.out]; exact hjk), List.length_append, hm, ← hu.out, ← HT.out] at h
            omega
          have hfl : Hid (u + m = (ps.take (j + 1)).flatten.length) := Lib.hid (by rw [flatten_take' ps j (by rw [Hpl.out]; exact hjk), List.length_append, hm, ← hu.out])
          have hst : u8v (ps.take j).flatten ++ (List.range m).map (u8c (ps.getD j [])) = u8v (ps.take (j + 1)).flatten := by
            rw [range_u8c _ m hm, u8v_append, flatten_take' ps j (by rw [Hpl.out]; exact hjk)]
          have hcs' := hcs.below hwr
          obtain ⟨p, hp⟩ : ∃ p, p = ps.getD j [] := ⟨_, rfl⟩
          rw [← hp] at hcs' hst
          have Hst := Lib.hid hst; clear hst
          clear hp hm hcell hcs
          go_wp2_with (at_builtin; refine wpList_append_all1 sl_u8 rfl (.tmp 31) (.tmp 32) rfl rfl hown rfl hcs' hnil (fun _ _ => rfl) ?c1 ?c2 hwr.size ?_)
          case c1 => unfold maxLen; omega
          case c2 => omega
          intro v' y hown' hgrow
          rw [Hst.out] at hown'
          have hy := hwr.grown hgrow hwr.size (fun j hj => (hown.lt j hj).1)
          go_wp2
          go_roundw
          case rel => exact ⟨j + 1, u + m, by omega, by go_num, hfl, hown', hy⟩
          case measure => simp [intOf]; omega
        · obtain rfl : j = k := by omega
          have hall : (ps.take j).flatten = ps.flatten := by rw [List.take_of_length_le (by rw [Hpl.out]; exact Nat.le_refl _)]
          rw [hall] at hown
          have Hu : Hid (u = ps.flatten.length) := Lib.hid (by rw [hu.out, hall])
          clear hu hall
          go_wp2
          go_ret
          exact ⟨_, rfl, by rw [u8v_length, ← Hu.out]; exact hown, hwr⟩
end Go.Proofs.Ytailcciimbjpgaa
