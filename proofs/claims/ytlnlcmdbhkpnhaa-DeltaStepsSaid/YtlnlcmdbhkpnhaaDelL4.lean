/- Chapter 12: the law DeltaSteps. -/
import Derived.Test.YtlnlcmdbhkpnhaaDelM
namespace Go.Proofs.Ytlnlcmdbhkpnhaa
open Go.RowKit
set_option linter.unusedVariables false

def evenRow (n f s : Nat) : List Int := (List.range n).map (fun i => ((f + i * s : Nat) : Int))
theorem evenRow_length (n f s : Nat) : (evenRow n f s).length = n := by simp [evenRow]
theorem evenRow_getD (n f s i : Nat) (h : i < n) : (evenRow n f s).getD i 0 = ((f + i * s : Nat) : Int) := by
  simp [evenRow, List.getD_eq_getElem?_getD, h]
theorem evenRow_step (n f s : Nat) : evenRow (n + 1) f s = evenRow n f s ++ [((f + n * s : Nat) : Int)] := by simp [evenRow, List.range_succ]
theorem i64v_snoc' (l : List Int) (x : Int) : i64v l ++ (List.range 1).map (fun _ => Value.int .i64 x) = i64v (l ++ [x]) := by simp [i64v]
theorem blockB_even (c : List Int) (s : Nat) (hs : s < 64) (h0 : 0 < c.length) (h : ∀ x ∈ c, x = (s : Int)) : (blockB c).length = 2 := by
  obtain ⟨x, hx⟩ := List.exists_mem_of_length_pos h0
  have hm : minI c = s := by
    have := h x hx
    subst this
    exact minI_eq _ c hx (fun y hy => by rw [h y hy]; exact Int.le_refl _)
  have hB : maxTo s c c.length = 0 := maxTo_eq s c 0 (fun x hx => by rw [h x hx]; unfold overN; simp) (.inl rfl)
  rw [blockB_len c s 0 hm hB]
  have h1 : (vputB (zigN s)).length = 1 := by rw [vput_small _ (by unfold zigN; split <;> omega)]; rfl
  rw [h1, bitLen_zero]
  omega
theorem even_len (n f s : Nat) (hn : 1 ≤ n) (hn2 : n ≤ 1000) (hf : f < 64) (hs : s < 64) : (dIntsB (evenRow n f s)).length = 1 + 2 * ((n + 30) / 32) := by
  have hl := evenRow_length n f s
  unfold dIntsB
  rw [if_neg (fun e => by rw [e] at hl; simp at hl; omega), List.length_append, evenRow_getD _ _ _ _ (by omega)]
  have h1 : (vputB (zigN ((f + 0 * s : Nat) : Int))).length = 1 := by rw [vput_small _ (by unfold zigN; split <;> omega)]; rfl
  rw [h1]
  congr 1
  rw [blocksB_len _ (fun _ => 2) _ ?_, sum_two]
  · unfold nBlocks; rw [diffs_length, hl]; omega
  · intro j hj
    have hj2 : 32 * j < n - 1 := by unfold nBlocks at hj; rw [diffs_length, hl] at hj; omega
    refine blockB_even _ s hs (by rw [chunk_length', diffs_length, hl]; omega) (fun x hx => ?_)
    obtain ⟨i, hi, rfl⟩ := mem_getD _ _ hx
    rw [chunk_length', diffs_length, hl] at hi
    rw [chunk_getD' _ _ _ (by omega), diffs_at _ _ (by rw [hl]; omega), evenRow_getD _ _ _ _ (by omega), evenRow_getD _ _ _ _ (by omega), Nat.add_mul (32 * j + i) 1 s, Nat.one_mul]
    rw [w64_id _ (by constructor <;> omega)]
    omega
theorem evenRow_in (n f s : Nat) (hn2 : n ≤ 1000) (hf : f < 64) (hs : s < 64) : ∀ x ∈ evenRow n f s, inI64 x := by
  intro x hx
  obtain ⟨i, hi, rfl⟩ := List.mem_map.1 hx
  have := List.mem_range.1 hi
  have h2 : i * s ≤ 1000 * 64 := Nat.mul_le_mul (by omega) (by omega)
  constructor <;> omega
set_option maxHeartbeats 8000000 in
set_option maxRecDepth 100000 in
theorem deltaSteps_walk (a0 a1 a2 : Int) (w : World) (w0 : (Lit.int .i64 a0).wf = true) (w1 : (Lit.int .i64 a1).wf = true) (w2 : (Lit.int .i64 a2).wf = true) :
    Calls Try.prog 7 #[.int .i64 a0, .int .i64 a1, .int .i64 a2] w fun e w' => e = .returned (.bool true) ∧ Below w.heap.size w w' := by
  obtain ⟨ha1, ha2⟩ := bounds_i64 w0
  obtain ⟨hb1, hb2⟩ := bounds_i64 w1
  obtain ⟨hd1, hd2⟩ := bounds_i64 w2
  obtain ⟨f, hf, hfl⟩ := modN' a0 64 (by decide)
  have Hf : Hid (a0 % 64 = (f : Int)) := Lib.hid hf
  obtain ⟨s, hs, hsl⟩ := modN' a1 64 (by decide)
  have Hs : Hid (a1 % 64 = (s : Int)) := Lib.hid hs
  obtain ⟨q, hq, hql⟩ := modN' a2 300 (by decide)
  have Hq : Hid (a2 % 300 = (q : Int)) := Lib.hid hq
  obtain ⟨n, hn⟩ : ∃ n, n = 1 + q := ⟨_, rfl⟩
  have en : (1 : Int) + (q : Int) = (n : Int) := by omega
  have hn3 : 1 ≤ n ∧ n ≤ 300 := by omega
  have HW : Hid (∀ w : World, Calls Try.prog 13 #[.int .i64 a0, .int .i64 64] w fun e w' => e = .returned (.int .i64 f) ∧ w = w') := Lib.hid (fun w => by have h := within_any a0 64 w (by omega) (by omega) ha1 ha2; rwa [Hf.out] at h)
  have HV : Hid (∀ w : World, Calls Try.prog 13 #[.int .i64 a1, .int .i64 64] w fun e w' => e = .returned (.int .i64 s) ∧ w = w') := Lib.hid (fun w => by have h := within_any a1 64 w (by omega) (by omega) hb1 hb2; rwa [Hs.out] at h)
  clear hf hs hq hn
  go_enter Try.func7, Try.ntmps7
  go_wp2_with (go_at_call 12; refine (known_any _).mono ?_; rintro e x1 ⟨rfl, hx1⟩)
  refine (within_any _ _ _ (by omega) (by omega) hd1 hd2).mono ?_; rw [Hq.out]; rintro e x2 ⟨rfl, rfl⟩
  have Hx1 := Lib.hid hx1
  clear hx1
  go_wp2_with fail
  refine (HW.out _).mono ?_; rintro e x2 ⟨rfl, rfl⟩
  go_wp2_with fail
  refine (HV.out _).mono ?_; rintro e x2 ⟨rfl, rfl⟩
  go_wp2
  go_loopw [7, 8] (fun u i x => ∃ (j : Nat) (ao : Option Addr) (cap : Nat), j ≤ n ∧ u = .slice ao j cap ∧ i = .int .i64 (j : Nat) ∧ Hid (x.ownsRow x1.heap.size 3 1 (.slice ao j cap) j (i64v (evenRow j f s))) ∧ Hid (Below x1.heap.size x1 x)) (fun _ i _ => n - (intOf i).toNat)
  case atStart => exact ⟨0, none, 0, Nat.zero_le _, rfl, rfl, Lib.hid (World.ownsRow_nil _ _ _ _), Lib.hid (Below.refl _ _)⟩
  case round =>
    obtain ⟨j, ao, cap, hj, rfl, rfl, hown1, Hb0⟩ := hrel
    obtain ⟨y, hyy⟩ : ∃ x, x = wr := ⟨_, rfl⟩
    subst hyy
    by_cases hjn : j < n
    · have e2 : (j : Int) < (n : Int) := by omega
      obtain ⟨p, hp⟩ : ∃ p, p = j * s := ⟨_, rfl⟩
      have hp2 : p ≤ 300 * 64 := by rw [hp]; exact Nat.mul_le_mul (by omega) (by omega)
      have ep : (j : Int) * (s : Int) = (p : Int) := by rw [hp]; simp
      obtain ⟨v, hv⟩ : ∃ v, v = f + p := ⟨_, rfl⟩
      have ev : (f : Int) + (p : Int) = (v : Int) := by omega
      have hrow : Hid (evenRow (j + 1) f s = evenRow j f s ++ [(v : Int)]) := Lib.hid (by rw [evenRow_step, ← hp, ← hv])
      have hownA := own_below hown1.out ((Below.refl _ _).alloc (Nat.le_refl _) (.cells #[.int .i64 (v : Int)] 3))
      have hsA : x1.heap.size ≤ (y.alloc (.cells #[.int .i64 (v : Int)] 3)).heap.size := Nat.le_trans Hb0.out.size (by simp)
      clear hp hv
      go_wp2_with (at_builtin; refine wpList_append_all1 sl_i64' rfl (.tmp 30) (.tmp 36) rfl rfl hownA rfl (cells_one y 3 (.int .i64 (v : Int))) (fun h => by cases h) (fun _ _ => rfl) (by unfold maxLen; omega) (by omega) hsA ?_)
      intro v' y2 ho2 hg2
      have hb2 : Below x1.heap.size x1 y2 := (Hb0.out.alloc Hb0.out.size _).grown hg2 hsA (fun k hk => (hownA.lt k hk).1)
      have ho3 : y2.ownsRow x1.heap.size 3 1 v' (j + 1) (i64v (evenRow (j + 1) f s)) := by
        rw [hrow.out, ← i64v_snoc']
        exact ho2
      obtain ⟨ao3, cap3, rfl, -⟩ := own_cells ho3
      have H3 := Lib.hid ho3; have Hb2 := Lib.hid hb2
      clear ho2 hg2 ho3 hb2 hownA hsA hown1
      go_wp2
      go_roundw
      case rel => exact ⟨j + 1, ao3, cap3, by omega, rfl, by go_num, H3, Hb2⟩
      case measure => simp [intOf]; omega
    · obtain rfl : j = n := by omega
      have hrin := evenRow_in j f s (by omega) (by omega) (by omega)
      have hrl := Lib.hid (evenRow_length j f s)
      have hlen := even_len j f s (by omega) (by omega) (by omega) (by omega)
      obtain ⟨row, hrow⟩ : ∃ r, r = evenRow j f s := ⟨_, rfl⟩
      rw [← hrow] at hown1 hrl hlen hrin
      obtain ⟨_, _, hsl, hcR, -⟩ := own_i64 hown1.out
      simp only [Value.slice.injEq, true_and] at hsl
      obtain ⟨rfl, rfl⟩ := hsl
      have HcR := Lib.hid hcR
      have hM : Hid (dReadM (dIntsB row) (j : Nat) = (row, (dIntsB row).length, 0)) := Lib.hid (by
        have h := dReadM_back row [] (by rw [hrl.out]; omega) hrin
        rwa [List.append_nil, hrl.out] at h)
      have Hy := Lib.hid (bmore Hx1.out Hb0.out)
      have HI := Lib.hid (dInts_any ao j cap row y hrl.out (by omega) hcR hrin)
      have hlt := Lib.hid (dIntsB_lt row hrin)
      obtain ⟨blk, hblk⟩ : ∃ b, b = (j + 30) / 32 := ⟨_, rfl⟩
      have eblk : ((j : Int) + 30) / 32 = (blk : Int) := by omega
      rw [← hblk] at hlen
      obtain ⟨bs, hbs⟩ : ∃ b, b = dIntsB row := ⟨_, rfl⟩
      rw [← hbs] at hM HI hlen hlt
      have Hlen := Lib.hid hlen
      have hblk2 : blk ≤ 20 := by omega
      clear hcR hown1 Hb0 hrow hbs hblk hlen hrin
      go_wp2_with fail
      refine HI.out.mono ?_
      intro e y2 hg
      obtain ⟨aoB, nB, capB, rfl, HnB, hcB, -, hrB, hbB⟩ := hg.opened
      have hnB : nB = 1 + 2 * blk := by rw [← HnB.out, Hlen.out]
      have HD := Lib.hid (dRead_any aoB nB capB bs (j : Nat) y2 HnB.out hlt.out (by omega) hrB.cap hcB)
      rw [hM.out, HnB.out] at HD
      have HcR2 := Lib.hid (HcR.out.at hbB)
      have Hy2 := Lib.hid (bmore Hy.out hbB)
      have e7 : (nB : Int) = 1 + (blk : Int) * 2 := by omega
      clear hg hcB hrB hbB hnB
      go_wp2_with fail
      refine HD.out.mono ?_
      intro e y3 hg
      obtain ⟨aoX, nX, capX, rfl, HnX, hcX, hbX⟩ := hg.opened
      obtain rfl : nX = j := by rw [← HnX.out, ← hrl.out]
      have HcR3 := HcR2.out.at hbX
      have Hy3 := Lib.hid (bmore Hy2.out hbX)
      have HE := Lib.hid (ints_eq aoX ao nX capX cap row y3 (by omega) hcX HcR3)
      clear hg hcX HcR3 hbX
      go_wp2_with fail
      refine HE.out.mono ?_
      rintro e y4 ⟨rfl, m, rfl⟩
      go_wp2
      go_ret
      exact ⟨rfl, below_drewN Hy3.out m⟩
end Go.Proofs.Ytlnlcmdbhkpnhaa
