/- Chapter 13: the law's known; DictBounds. -/
import Derived.Test.YtkolmoebopfgiaaDictB
import Derived.Test.YtkolmoebopfgiaaWithin
import Derived.Test.YtkolmoebopfgiaaLinH
namespace Go.Proofs.Ytkolmoebopfgiaa
open Go.RowKit
set_option linter.unusedVariables false

def sA : ByteArray := { data := #[97] }
def sB : ByteArray := { data := #[98] }
def knownL : List Vl := [(0, sA), (0, sB), (0, sA)]
theorem known_words : (dWords knownL).length = 2 := by decide +kernel
theorem known_ats : dAtsI knownL = [0, 1, 0] := by decide +kernel
set_option maxHeartbeats 2000000 in
set_option maxRecDepth 100000 in
theorem known_any (w : World) :
    Calls Try.prog 10 #[] w fun e w' => e = .returned (.bool true) ∧ Below w.heap.size w w' := by
  have hok : ∀ v ∈ knownL, okV v := by
    intro v hv
    simp only [knownL, List.mem_cons, List.not_mem_nil, or_false] at hv
    rcases hv with rfl | rfl | rfl <;> exact ⟨⟨by decide, by decide⟩, by decide⟩
  go_enter Try.func10, Try.ntmps10
  go_wp2_with fail
  refine (build_yes 4 _ 3 _ knownL 5 _ rfl (by decide) hok (cells_alloc w _ _ 6 (vlc knownL) (fun i hi => by match i, hi with | 0, _ => rfl | 1, _ => rfl | 2, _ => rfl | 3, _ => rfl | 4, _ => rfl | 5, _ => rfl)) (by decide) (by rw [known_words]; decide)).mono ?_
  rw [known_ats, known_words]
  rintro e w1 ⟨v1, v2, rfl, ho1, ho2, hb⟩
  obtain ⟨a1, c1, rfl, -, -, -, -, -⟩ := own_v ho1
  obtain ⟨a2, c2, rfl, hc2, -⟩ := own_i64 ho2
  obtain ⟨b, off, rfl, -, h2⟩ := hc2 2 (by decide)
  have h2' : w1.cell? ⟨b, off + 2, none⟩ = some (.int .i64 0) := h2
  have hb' : Below w.heap.size w w1 := bmore (balloc (Below.refl _ _) _) hb
  clear h2 hc2 ho1 ho2
  go_wp2
  go_ret
  exact ⟨rfl, hb'⟩


/-- Numbers by threes: each another one. -/
def threes (n : Nat) : List Vl := (List.range n).map fun i => (((i * 3 : Nat) : Int), ByteArray.empty)
theorem threes_succ (n : Nat) : threes (n + 1) = threes n ++ [(((n * 3 : Nat) : Int), ByteArray.empty)] := by simp [threes, List.range_succ]
theorem threes_length (n : Nat) : (threes n).length = n := by simp [threes]
theorem threes_not (n m : Nat) (h : n ≤ m) : ((((m * 3 : Nat) : Int), ByteArray.empty) : Vl) ∉ threes n := by
  intro hm
  obtain ⟨i, hi, e⟩ := List.mem_map.1 hm
  have h1 := List.mem_range.1 hi
  have h2 : ((i * 3 : Nat) : Int) = ((m * 3 : Nat) : Int) := congrArg Prod.fst e
  omega
theorem threes_words (n : Nat) : dWords (threes n) = threes n := by
  induction n with
  | zero => rfl
  | succ n ih =>
    rw [threes_succ, dWords_snoc, ih]
    exact if_neg (threes_not n n (Nat.le_refl _))
theorem threes_ok (n : Nat) (h : n ≤ 1000) : ∀ v ∈ threes n, okV v := by
  intro v hv
  obtain ⟨i, hi, rfl⟩ := List.mem_map.1 hv
  have := List.mem_range.1 hi
  exact ⟨⟨by simp only []; omega, by simp only []; omega⟩, Nat.zero_le _⟩

set_option maxHeartbeats 4000000 in
set_option maxRecDepth 100000 in
theorem dictBounds_walk (a0 a1 : Int) (w : World) (w0 : (Lit.int .i64 a0).wf = true) (w1 : (Lit.int .i64 a1).wf = true) :
    Calls Try.prog 4 #[.int .i64 a0, .int .i64 a1] w fun e w' => e = .returned (.bool true) ∧ Below w.heap.size w w' := by
  obtain ⟨ha1, ha2⟩ := bounds_i64 w0
  obtain ⟨hb1, hb2⟩ := bounds_i64 w1
  obtain ⟨q, hq, hq6⟩ := modN' a0 6 (by decide)
  obtain ⟨p, hp, hp99⟩ := modN' a1 99 (by decide)
  have Hq : Hid (a0 % 6 = (q : Int)) := Lib.hid hq
  have Hp : Hid (a1 % 99 = (p : Int)) := Lib.hid hp
  clear hq hp
  obtain ⟨n, hn⟩ : ∃ n : Nat, n = q + 253 := ⟨_, rfl⟩
  have hnq : (253 : Int) + (q : Int) = (n : Nat) := by omega
  have hn1 : 253 ≤ n := by omega
  have hn2 : n ≤ 258 := by omega
  clear hn
  go_enter Try.func4, Try.ntmps4
  go_wp2_with (go_at_call 10; refine (known_any _).mono ?_; rintro e x1 ⟨rfl, hx1⟩)
  refine (within_any _ _ _ (by omega) (by omega) ha1 ha2).mono ?_; rw [Hq.out]; rintro e x2 ⟨rfl, rfl⟩
  go_wp2
  clear hnq
  go_loopw [5, 6] (fun v i wr => ∃ j : Nat, j ≤ n ∧ i = .int .i64 j ∧ wr.ownsRow w.heap.size 30 2 v j (vcs (threes j)) ∧ Below w.heap.size w wr) (fun _ i _ => n - (intOf i).toNat)
  case atStart => exact ⟨0, Nat.zero_le _, rfl, World.ownsRow_nil _ _ _ _, hx1⟩
  case round =>
    obtain ⟨j, hj, rfl, hown, hwr⟩ := hrel
    by_cases hlt : j < n
    · have hst : vcs (threes j) ++ (List.range (1 * 2)).map (vlc [(((j * 3 : Nat) : Int), ByteArray.empty)]) = vcs (threes (j + 1)) := by rw [vcs_snoc, threes_succ]
      have Hst := Lib.hid hst; clear hst
      have hcv := cells_one_v wr 30 (((j * 3 : Nat) : Int), ByteArray.empty)
      go_wp2_with (at_builtin; refine wpList_append_all sl_v rfl (.tmp 26) (.tmp 30) rfl rfl (hown.alloc _) rfl hcv (fun e => by cases e) (fun _ _ => vlc_one _ _) ?c1 ?c2 ?c3 ?_)
      case c1 => unfold maxLen; omega
      case c2 => omega
      case c3 => have := hwr.size; omega
      intro v' y hown' hgrow
      have hown2 : y.ownsRow w.heap.size 30 2 v' (j + 1) (vcs (threes (j + 1))) := by rw [← Hst.out]; exact hown'
      have hy := (balloc hwr _).grown hgrow (balloc hwr _).size (fun j hj => (hown.lt j hj).1)
      clear hown' hgrow hown hcv
      go_wp2
      go_roundw
      case rel => exact ⟨j + 1, by omega, by go_num, hown2, hy⟩
      case measure => simp [intOf]; omega
    · obtain rfl : j = n := by omega
      obtain ⟨ao, cap, rfl, hl, hnc, hc, -, -⟩ := own_v hown
      have Hl := Lib.hid hl; clear hl
      have h1c : (1 : Int) ≤ cap := by omega
      have hwl : (dWords (threes j)).length = j := by rw [threes_words, threes_length]
      have Hwl := Lib.hid hwl; clear hwl hown
      by_cases h256 : j ≤ 256
      · go_wp2_with fail
        refine (build_yes 3 ao j cap (threes j) 256 _ Hl.out (by omega) (threes_ok j (by omega)) hc (by decide) (by rw [Hwl.out]; exact h256)).mono ?_
        rintro e x2 ⟨v1, v2, rfl, ho1, ho2, hb⟩
        rw [Hwl.out] at ho1
        have hx2 := bmore hwr hb
        obtain ⟨a1, c1, rfl, -, -, -, -, -⟩ := own_v ho1
        have hd1 : decide ((j : Int) ≤ 256) = true := decide_eq_true (by omega)
        clear ho1 ho2 hb hc
        have ew : IntKind.i64.wrap (257 + (p : Int)) = 257 + p := IntWalk.i64_in _ (by omega)
        have ew2 : IntKind.i64.wrap (-1 - (p : Int)) = -1 - p := IntWalk.i64_in _ (by omega)

        go_wp2
        refine wp_region_linH [(0, 0), (1, 0), (2, 0), (3, 1), (4, 0), (5, 1), (6, 0), (7, 0), (8, 0), (9, 0), (10, 0), (11, 0), (12, 0)] [] (by kernel_rfl) (by kernel_rfl) (fun d _ _ _ _ h => by cases d <;> exact h) ?_
        repeat (first
          | (refine wpLinH_skip rfl rfl (fun K hK => ?_); go_simp; refine hK _ ?_; clear hK K)
          | (refine wpLinH_take (v := ?_) rfl rfl (fun w' hw' => ?_) (fun K hK => ?_); rotate_left; (go_simp; rfl); (go_simp; refine hK _ ?_; clear hK K)))
        refine wpLinH_do rfl (fun K hK => ?_); go_simp
        refine (within_any _ _ _ (by omega) (by omega) hb1 hb2).mono ?_; rw [Hp.out]; rintro e y1 ⟨rfl, rfl⟩
        refine hK _ _ (Grows.refl _) ?_; clear hK K
        repeat (first
          | (refine wpLinH_skip rfl rfl (fun K hK => ?_); go_simp; refine hK _ ?_; clear hK K)
          | (refine wpLinH_take (v := ?_) rfl rfl (fun w' hw' => ?_) (fun K hK => ?_); rotate_left; (go_simp; rfl); (go_simp; refine hK _ ?_; clear hK K)))
        refine wpLinH_do rfl (fun K hK => ?_); go_simp
        refine (build_range 3 _ _ _ _ _ (by omega)).mono ?_
        rintro e x3 ⟨rfl, hx3⟩
        refine hK _ _ hx3 ?_; clear hK K
        repeat (first
          | (refine wpLinH_skip rfl rfl (fun K hK => ?_); go_simp; refine hK _ ?_; clear hK K)
          | (refine wpLinH_take (v := ?_) rfl rfl (fun w' hw' => ?_) (fun K hK => ?_); rotate_left; (go_simp; rfl); (go_simp; refine hK _ ?_; clear hK K)))
        refine wpLinH_nil ?_
        go_wp2
        refine wp_region_linH [(0, 0), (1, 0), (2, 0), (3, 1), (4, 0), (5, 1), (6, 0), (7, 0), (8, 0), (9, 0), (10, 0), (11, 0), (12, 0)] [] (by kernel_rfl) (by kernel_rfl) (fun d _ _ _ _ h => by cases d <;> exact h) ?_
        repeat (first
          | (refine wpLinH_skip rfl rfl (fun K hK => ?_); go_simp; refine hK _ ?_; clear hK K)
          | (refine wpLinH_take (v := ?_) rfl rfl (fun w' hw' => ?_) (fun K hK => ?_); rotate_left; (go_simp; rfl); (go_simp; refine hK _ ?_; clear hK K)))
        refine wpLinH_do rfl (fun K hK => ?_); go_simp
        refine (within_any _ _ _ (by omega) (by omega) hb1 hb2).mono ?_; rw [Hp.out]; rintro e y1 ⟨rfl, rfl⟩
        refine hK _ _ (Grows.refl _) ?_; clear hK K
        repeat (first
          | (refine wpLinH_skip rfl rfl (fun K hK => ?_); go_simp; refine hK _ ?_; clear hK K)
          | (refine wpLinH_take (v := ?_) rfl rfl (fun w' hw' => ?_) (fun K hK => ?_); rotate_left; (go_simp; rfl); (go_simp; refine hK _ ?_; clear hK K)))
        refine wpLinH_do rfl (fun K hK => ?_); go_simp
        refine (build_range 3 _ _ _ _ _ (by omega)).mono ?_
        rintro e x4 ⟨rfl, hx4⟩
        refine hK _ _ hx4 ?_; clear hK K
        repeat (first
          | (refine wpLinH_skip rfl rfl (fun K hK => ?_); go_simp; refine hK _ ?_; clear hK K)
          | (refine wpLinH_take (v := ?_) rfl rfl (fun w' hw' => ?_) (fun K hK => ?_); rotate_left; (go_simp; rfl); (go_simp; refine hK _ ?_; clear hK K)))
        refine wpLinH_nil ?_
        go_wp2
        go_ret
        exact ⟨rfl, bmore (bmore hx2 (Grows.toDrew hx3)) (Grows.toDrew hx4)⟩
      · go_wp2_with fail
        refine (build_over 3 ao j cap (threes j) 256 _ Hl.out (by omega) (threes_ok j (by omega)) hc (by decide) (by rw [Hwl.out]; omega)).mono ?_
        rintro e x2 ⟨rfl, hb⟩
        have hx2 := bmore hwr hb
        have hd1 : decide ((j : Int) ≤ 256) = false := decide_eq_false (by omega)
        clear hb hc
        have ew : IntKind.i64.wrap (257 + (p : Int)) = 257 + p := IntWalk.i64_in _ (by omega)
        have ew2 : IntKind.i64.wrap (-1 - (p : Int)) = -1 - p := IntWalk.i64_in _ (by omega)

        go_wp2
        refine wp_region_linH [(0, 0), (1, 0), (2, 0), (3, 1), (4, 0), (5, 1), (6, 0), (7, 0), (8, 0), (9, 0), (10, 0), (11, 0), (12, 0)] [] (by kernel_rfl) (by kernel_rfl) (fun d _ _ _ _ h => by cases d <;> exact h) ?_
        repeat (first
          | (refine wpLinH_skip rfl rfl (fun K hK => ?_); go_simp; refine hK _ ?_; clear hK K)
          | (refine wpLinH_take (v := ?_) rfl rfl (fun w' hw' => ?_) (fun K hK => ?_); rotate_left; (go_simp; rfl); (go_simp; refine hK _ ?_; clear hK K)))
        refine wpLinH_do rfl (fun K hK => ?_); go_simp
        refine (within_any _ _ _ (by omega) (by omega) hb1 hb2).mono ?_; rw [Hp.out]; rintro e y1 ⟨rfl, rfl⟩
        refine hK _ _ (Grows.refl _) ?_; clear hK K
        repeat (first
          | (refine wpLinH_skip rfl rfl (fun K hK => ?_); go_simp; refine hK _ ?_; clear hK K)
          | (refine wpLinH_take (v := ?_) rfl rfl (fun w' hw' => ?_) (fun K hK => ?_); rotate_left; (go_simp; rfl); (go_simp; refine hK _ ?_; clear hK K)))
        refine wpLinH_do rfl (fun K hK => ?_); go_simp
        refine (build_range 3 _ _ _ _ _ (by omega)).mono ?_
        rintro e x3 ⟨rfl, hx3⟩
        refine hK _ _ hx3 ?_; clear hK K
        repeat (first
          | (refine wpLinH_skip rfl rfl (fun K hK => ?_); go_simp; refine hK _ ?_; clear hK K)
          | (refine wpLinH_take (v := ?_) rfl rfl (fun w' hw' => ?_) (fun K hK => ?_); rotate_left; (go_simp; rfl); (go_simp; refine hK _ ?_; clear hK K)))
        refine wpLinH_nil ?_
        go_wp2
        refine wp_region_linH [(0, 0), (1, 0), (2, 0), (3, 1), (4, 0), (5, 1), (6, 0), (7, 0), (8, 0), (9, 0), (10, 0), (11, 0), (12, 0)] [] (by kernel_rfl) (by kernel_rfl) (fun d _ _ _ _ h => by cases d <;> exact h) ?_
        repeat (first
          | (refine wpLinH_skip rfl rfl (fun K hK => ?_); go_simp; refine hK _ ?_; clear hK K)
          | (refine wpLinH_take (v := ?_) rfl rfl (fun w' hw' => ?_) (fun K hK => ?_); rotate_left; (go_simp; rfl); (go_simp; refine hK _ ?_; clear hK K)))
        refine wpLinH_do rfl (fun K hK => ?_); go_simp
        refine (within_any _ _ _ (by omega) (by omega) hb1 hb2).mono ?_; rw [Hp.out]; rintro e y1 ⟨rfl, rfl⟩
        refine hK _ _ (Grows.refl _) ?_; clear hK K
        repeat (first
          | (refine wpLinH_skip rfl rfl (fun K hK => ?_); go_simp; refine hK _ ?_; clear hK K)
          | (refine wpLinH_take (v := ?_) rfl rfl (fun w' hw' => ?_) (fun K hK => ?_); rotate_left; (go_simp; rfl); (go_simp; refine hK _ ?_; clear hK K)))
        refine wpLinH_do rfl (fun K hK => ?_); go_simp
        refine (build_range 3 _ _ _ _ _ (by omega)).mono ?_
        rintro e x4 ⟨rfl, hx4⟩
        refine hK _ _ hx4 ?_; clear hK K
        repeat (first
          | (refine wpLinH_skip rfl rfl (fun K hK => ?_); go_simp; refine hK _ ?_; clear hK K)
          | (refine wpLinH_take (v := ?_) rfl rfl (fun w' hw' => ?_) (fun K hK => ?_); rotate_left; (go_simp; rfl); (go_simp; refine hK _ ?_; clear hK K)))
        refine wpLinH_nil ?_
        go_wp2
        go_ret
        exact ⟨rfl, bmore (bmore hx2 (Grows.toDrew hx3)) (Grows.toDrew hx4)⟩
end Go.Proofs.Ytkolmoebopfgiaa
