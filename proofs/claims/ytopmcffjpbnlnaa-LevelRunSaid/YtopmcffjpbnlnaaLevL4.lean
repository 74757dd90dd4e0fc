/- Chapter 10: the laws LevelRun, LevelRuns. -/
import Derived.Test.YtopmcffjpbnlnaaLevL3
namespace Go.Proofs.Ytopmcffjpbnlnaa
open Go.RowKit
set_option linter.unusedVariables false

theorem GaveLev.err {w w' : World} {c : Nat} {e : Ending} (h : GaveLev w ([], c) e w') : ∃ ao cap, e = .returned (.tuple #[.slice ao 0 cap, .int .i64 (c : Nat)]) ∧ Below w.heap.size w w' := by
  obtain ⟨v, rfl, ho, hb⟩ := h
  obtain ⟨ao, cap, rfl, -, -⟩ := own_cells ho
  exact ⟨ao, cap, rfl, hb⟩
theorem cells_two (w : World) (x y : Nat) : CellsAt (w.alloc (.cells #[.int .u8 (x : Nat), .int .u8 (y : Nat)] 5)) (w.alloc (.cells #[.int .u8 (x : Nat), .int .u8 (y : Nat)] 5)).heap.size (some ⟨w.heap.size, 0, none⟩) 2 (u8c [x, y]) :=
  cells_alloc _ _ _ 2 (u8c [x, y]) (fun i hi => by match i, hi with | 0, _ => rfl | 1, _ => rfl)

set_option maxHeartbeats 4000000 in
set_option maxRecDepth 100000 in
theorem levelRun_walk (a0 a1 a2 : Int) (w : World) (w0 : (Lit.int .i64 a0).wf = true) (w1 : (Lit.int .i64 a1).wf = true) (w2 : (Lit.int .i64 a2).wf = true) :
    Calls Try.prog 9 #[.int .i64 a0, .int .i64 a1, .int .i64 a2] w fun e w' => e = .returned (.bool true) ∧ Below w.heap.size w w' := by
  obtain ⟨ha1, ha2⟩ := bounds_i64 w0
  obtain ⟨hb1, hb2⟩ := bounds_i64 w1
  obtain ⟨hc1, hc2⟩ := bounds_i64 w2
  obtain ⟨q, hq, hql⟩ := modN' a0 60 (by decide)
  obtain ⟨t, ht, htl⟩ := modN' a1 3 (by decide)
  obtain ⟨r, hr, hrl⟩ := modN' a2 7 (by decide)
  have Hq : Hid (a0 % 60 = (q : Int)) := Lib.hid hq
  have Ht : Hid (a1 % 3 = (t : Int)) := Lib.hid ht
  have Hr : Hid (a2 % 7 = (r : Int)) := Lib.hid hr
  obtain ⟨n, hn⟩ : ∃ n, n = 1 + q := ⟨_, rfl⟩
  obtain ⟨wd, hwd⟩ : ∃ wd, wd = 1 + r := ⟨_, rfl⟩
  have en : (1 : Int) + (q : Int) = (n : Int) := by omega
  have ew : (1 : Int) + (r : Int) = (wd : Int) := by omega
  have hn1 : 1 ≤ n ∧ n ≤ 60 := by omega
  have hw1 : 1 ≤ wd ∧ wd ≤ 7 := by omega
  obtain ⟨v5, hv5⟩ : ∃ v, v = 2 * (n + 1 + t) := ⟨_, rfl⟩
  have e5 : 2 * ((n : Int) + 1 + (t : Int)) = (v5 : Int) := by omega
  have h5 : v5 ≤ 126 := by omega
  have w5 : IntKind.u8.wrap (v5 : Int) = (v5 : Int) := by rw [IntKind.wrap_u8]; omega
  obtain ⟨v6, hv6⟩ : ∃ v, v = 2 * n := ⟨_, rfl⟩
  have e6 : 2 * (n : Int) = (v6 : Int) := by omega
  have h6 : v6 ≤ 120 := by omega
  have w6 : IntKind.u8.wrap (v6 : Int) = (v6 : Int) := by rw [IntKind.wrap_u8]; omega
  obtain ⟨P, hP⟩ : ∃ P, P = 2 ^ wd := ⟨_, rfl⟩
  have eP : (2 : Int) ^ wd = (P : Int) := by rw [hP, Int.natCast_pow]; rfl
  have hP1 : P ≤ 128 := by rw [hP]; exact Nat.pow_le_pow_right (n := 2) (by decide) hw1.2
  have wP : IntKind.u8.wrap (P : Int) = (P : Int) := by rw [IntKind.wrap_u8]; omega
  have mP : (P : Int) % 256 = (P : Int) := by omega
  obtain ⟨k1, hk1⟩ : ∃ k, k = (n + 7) / 8 := ⟨_, rfl⟩
  have ek1 : ((n : Int) + 7) / 8 = (k1 : Int) := by omega
  obtain ⟨k, hk⟩ : ∃ k, k = k1 + 1 := ⟨_, rfl⟩
  have ek : (k1 : Int) + 1 = (k : Int) := by omega
  have ek2 : (k : Int) - 1 = (k1 : Int) := by omega
  have hk10 : k ≤ 9 := by omega
  have hk18 : k1 ≤ 8 := by omega
  obtain ⟨v8, hv8⟩ : ∃ v, v = 2 * k + 1 := ⟨_, rfl⟩
  have e8 : 2 * (k : Int) + 1 = (v8 : Int) := by omega
  have w8 : IntKind.u8.wrap (v8 : Int) = (v8 : Int) := by rw [IntKind.wrap_u8]; omega
  obtain ⟨v9, hv9⟩ : ∃ v, v = 2 * k1 + 1 := ⟨_, rfl⟩
  have e9 : 2 * (k1 : Int) + 1 = (v9 : Int) := by omega
  have w9 : IntKind.u8.wrap (v9 : Int) = (v9 : Int) := by rw [IntKind.wrap_u8]; omega
  have h89 : v8 ≤ 19 ∧ v9 ≤ 17 := by omega
  obtain ⟨kw, hkw⟩ : ∃ kw, kw = k * wd := ⟨_, rfl⟩
  have ekw : (k : Int) * (wd : Int) = (kw : Int) := by rw [hkw, Int.natCast_mul]
  have hkw64 : kw ≤ 63 := by rw [hkw]; exact Nat.mul_le_mul hk10 hw1.2
  obtain ⟨kv, hkv⟩ : ∃ kv, kv = k1 * wd := ⟨_, rfl⟩
  have ekv : (k1 : Int) * (wd : Int) = (kv : Int) := by rw [hkv, Int.natCast_mul]
  have hkv64 : kv ≤ 56 := by rw [hkv]; exact Nat.mul_le_mul hk18 hw1.2
  have DA := Lib.hid (levelRun_a n wd hn1 hw1)
  have DB := Lib.hid (levelRun_b n wd t hn1 hw1 htl)
  have DC := Lib.hid (levelRun_c n wd hn1 hw1)
  have DD := Lib.hid (fun b => levelRun_d n wd k hn1 hw1 (by rw [hk, hk1]) b)
  have DE := Lib.hid (levelRun_e n wd k1 hn1 hw1 hk1)
  rw [← hv5] at DB
  rw [← hv6, ← hP] at DC
  rw [← hv8] at DD
  rw [← hv9, ← hkv] at DE
  clear hq ht hr hn hwd hv5 hv6 hP hk1 hk hv8 hv9 hkw hkv hql htl hrl
  go_enter Try.func9, Try.ntmps9
  go_wp2_with (go_at_call 10; refine (known_any _).mono ?_; rintro e x1 ⟨rfl, hx1⟩)
  refine (within_any _ _ _ (by omega) (by omega) ha1 ha2).mono ?_; rw [Hq.out]; rintro e x2 ⟨rfl, rfl⟩
  go_wp2_with fail
  refine (within_any _ _ _ (by omega) (by omega) hc1 hc2).mono ?_; rw [Hr.out]; rintro e x2 ⟨rfl, rfl⟩
  go_wp2_with fail
  refine (ldec_any _ 2 2 (n : Nat) (wd : Nat) [0, 0] _ rfl (cells_two x1 0 0) (fun h => by cases h) (Nat.le_refl _) (by decide) (by decide)).mono ?_
  rw [DA.out]
  intro e x2 hg
  obtain ⟨aoA, capA, rfl, hb⟩ := hg.err
  have hx2 := (balloc hx1 (.cells #[.int .u8 ((0 : Nat) : Int), .int .u8 ((0 : Nat) : Int)] 5)).trans (hb.mono (balloc hx1 _).size)
  clear hg hb hx1
  go_wp2_with fail
  refine (within_any _ _ _ (by omega) (by omega) hb1 hb2).mono ?_; rw [Ht.out]; rintro e x3 ⟨rfl, rfl⟩
  go_wp2_with fail
  refine (ldec_any _ 2 2 (n : Nat) (wd : Nat) [v5, 0] _ rfl (cells_two x2 v5 0) (fun h => by cases h) (Nat.le_refl _) (fun x hx => by simp at hx; omega) (by decide)).mono ?_
  rw [DB.out]
  intro e x3 hg
  obtain ⟨aoB, capB, rfl, hb⟩ := hg.err
  have hx3 := (balloc hx2 (.cells #[.int .u8 (v5 : Int), .int .u8 ((0 : Nat) : Int)] 5)).trans (hb.mono (balloc hx2 _).size)
  clear hg hb hx2
  go_wp2_with fail
  refine (ldec_any _ 2 2 (n : Nat) (wd : Nat) [v6, P] _ rfl (cells_two x3 v6 P) (fun h => by cases h) (Nat.le_refl _) (fun x hx => by simp at hx; omega) (by decide)).mono ?_
  rw [DC.out]
  intro e x4 hg
  obtain ⟨aoC, capC, rfl, hb⟩ := hg.err
  have hx4 := (balloc hx3 (.cells #[.int .u8 (v6 : Int), .int .u8 (P : Int)] 5)).trans (hb.mono (balloc hx3 _).size)
  clear hg hb hx3
  go_wp2_with (at_builtin; refine wpList_append_zeros rfl (.tmp 70) (.tmp 73) rfl rfl (own_lit x4 [v8] #[.int .u8 (v8 : Nat)] rfl (by simp) 1 rfl) (k := kw) rfl (by omega) (by simp) ?_)
  intro v2 x5 ho2 hg2
  have hx5 : Below w.heap.size w x5 := (balloc hx4 _).grown hg2 (balloc hx4 _).size (fun k hk => by simp only [Value.ownBlock, Option.some.injEq] at hk; subst hk; exact hx4.size)
  obtain ⟨ao, cap, rfl, hl, hc, hz⟩ := own_u8c ho2
  have hcp : 1 + kw ≤ cap := by
    rcases ho2.2 with ⟨hh, h0⟩ | ⟨g, c2, cur, hh, -, -, h4, -⟩
    · omega
    · simp only [Value.slice.injEq] at hh; omega
  have Hl := Lib.hid hl
  have hb : Hid (∀ x ∈ [v8] ++ List.replicate kw 0, x < 256) := Lib.hid (by
    intro x hx
    simp only [List.cons_append, List.nil_append, List.mem_cons, List.mem_replicate] at hx
    omega)
  clear hl ho2 hg2 hx4
  go_wp2_with fail
  refine (ldec_any ao (1 + kw) cap (n : Nat) (wd : Nat) _ _ Hl.out hc (fun e => (hz e).1) hcp hb.out (by omega)).mono ?_
  rw [DD.out]
  intro e x6 hg
  obtain ⟨aoD, capD, rfl, hb6⟩ := hg.err
  have hx6 := bmore hx5 hb6
  clear hg hb6 hx5 hc hz hcp hb Hl
  go_wp2_with (at_builtin; refine wpList_append_zeros rfl (.tmp 86) (.tmp 90) rfl rfl (own_lit x6 [v9] #[.int .u8 (v9 : Nat)] rfl (by simp) 1 rfl) (k := kv) rfl (by omega) (by simp) ?_)
  intro v3 x7 ho2 hg2
  have hx7 : Below w.heap.size w x7 := (balloc hx6 _).grown hg2 (balloc hx6 _).size (fun k hk => by simp only [Value.ownBlock, Option.some.injEq] at hk; subst hk; exact hx6.size)
  obtain ⟨ao3, cap3, rfl, hl, hc, hz⟩ := own_u8c ho2
  have hcp : 1 + kv ≤ cap3 := by
    rcases ho2.2 with ⟨hh, h0⟩ | ⟨g, c2, cur, hh, -, -, h4, -⟩
    · omega
    · simp only [Value.slice.injEq] at hh; omega
  have Hl := Lib.hid hl
  have hb : Hid (∀ x ∈ [v9] ++ List.replicate kv 0, x < 256) := Lib.hid (by
    intro x hx
    simp only [List.cons_append, List.nil_append, List.mem_cons, List.mem_replicate] at hx
    omega)
  clear hl ho2 hg2 hx6
  go_wp2_with fail
  refine (ldec_any ao3 (1 + kv) cap3 (n : Nat) (wd : Nat) _ _ Hl.out hc (fun e => (hz e).1) hcp hb.out (by omega)).mono ?_
  rw [DE.out]
  intro e x8 hg
  obtain ⟨aoE, nE, capE, rfl, HnE, -, -, hb8⟩ := hg.opened
  have hnE : nE = n := by rw [← HnE.out]; simp
  subst hnE
  have hx8 := bmore hx7 hb8
  clear hg hb8 hx7 hc hz hcp hb Hl HnE
  go_wp2
  go_ret
  exact ⟨by simp, hx8⟩
end Go.Proofs.Ytopmcffjpbnlnaa
