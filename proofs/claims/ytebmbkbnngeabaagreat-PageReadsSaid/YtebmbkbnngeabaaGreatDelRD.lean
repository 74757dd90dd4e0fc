/- Chapter 12: the walk over Read. -/
import Derived.Test.YtebmbkbnngeabaaGreatDelRB
import Derived.Test.YtebmbkbnngeabaaGreatBunA
set_option linter.unusedSimpArgs false
namespace Go.Proofs.YtebmbkbnngeabaaGreat
open Go.RowKit
set_option linter.unusedVariables false
theorem own_empty (w : World) (E : TypeId) (size : Nat) : (w.alloc (.cells #[] E)).ownsRow w.heap.size E size (.slice (some ⟨w.heap.size, 0, none⟩) 0 0) 0 [] :=
 ⟨by simp, .inr ⟨w.heap.size, 0, #[], rfl, Nat.le_refl _, heap_alloc_new w _, Nat.le_refl _, Nat.zero_le _, by simp, by simp⟩⟩
theorem range_i64c (l : List Int) (n : Nat) (hl : l.length = n) : (List.range n).map (i64c l) = i64v l := by
 refine List.ext_getElem (by simp [i64v, hl]) fun i h1 h2 => ?_
 have hi : i < l.length := by simpa [i64v] using h2
 simp [i64v, i64c, hi]
set_option maxHeartbeats 1000000 in
theorem cloneI_any (ao : Option Addr) (n cap : Nat) (l : List Int) (w : World) (hl : l.length = n) (hc : CellsAt w w.heap.size ao n (i64c l)) (hn : ao = none → n = 0) (hb : n ≤ 1000000000) :
 Calls Tryz.prog 54 #[.slice ao n cap] w fun e w' => ∃ v, e = .returned v ∧ w'.ownsRow w.heap.size 3 1 v n (i64v l) ∧ Below w.heap.size w w' := by
 have Hl := Lib.hid hl; clear hl
 have kn := fun (w : World) (a : Option Addr) (l c : Nat) => Lib.run_eql_slice_nil (P := Tryz.prog) w 22 3 a l c 0 0 Tryz.underlying22
 cases ao with
 | none =>
  obtain rfl : n = 0 := hn rfl
  obtain rfl : l = [] := List.length_eq_zero_iff.1 Hl.out
  go_enter Tryz.func54, Tryz.ntmps54
  go_wp2
  go_ret
  exact ⟨_, rfl, World.ownsRow_nil _ _ _ _, Below.refl _ _⟩
 | some a =>
  go_enter Tryz.func54, Tryz.ntmps54
  go_wp2_with (at_builtin; refine wpList_append_clone1 sl_i64' rfl (.tmp 5) (.tmp 6) rfl rfl rfl (hc.alloc (Nat.le_refl _) _) hn (fun _ _ => rfl) (by unfold maxLen; omega) (by omega) ?_)
  intro aoD capD x3 hcD hbD hown
  have hx3 : Below w.heap.size w x3 := (balloc (Below.refl _ _) _).trans (hbD.mono (by simp))
  have hr := Lib.hid hown
  clear hown hbD hcD
  go_wp2
  go_ret
  refine ⟨_, rfl, ?_, hx3⟩
  rcases hr.out with ⟨rfl, rfl, rfl, rfl⟩ | ⟨h0, ho⟩
  · obtain rfl : l = [] := List.length_eq_zero_iff.1 Hl.out
    exact own_empty w 3 1
  · rw [range_i64c l n Hl.out] at ho
    exact own_base ho (by simp)
def GaveRead (w : World) (r : List Int × Nat × Nat) (e : Ending) (w' : World) : Prop :=
 ∃ v, e = .returned (.tuple #[v, .int .i64 (r.2.1 : Nat), .int .i64 (r.2.2 : Nat)]) ∧ w'.ownsRow w.heap.size 3 1 v r.1.length (i64v r.1) ∧ Below w.heap.size w w'
theorem GaveRead.none {w w' : World} (k : Nat) (h : Below w.heap.size w w') : GaveRead w ([], 0, k) (.returned (.tuple #[.slice none 0 0, .int .i64 0, .int .i64 (k : Nat)])) w' := ⟨_, rfl, World.ownsRow_nil _ _ _ _, h⟩
def lenOf (x : World) (g : Nat) : Nat := match x.cell? ⟨g, 1, none⟩ with | some (.slice _ n _) => n | _ => 0
theorem DRd.lenOf {x : World} {g : Nat} {b : List Nat} {l : List Int} (h : DRd x g b l) : lenOf x g = l.length := by
 obtain ⟨_, _, _, _, hg, -⟩ := h
 unfold Go.Proofs.YtebmbkbnngeabaaGreat.lenOf
 rw [(two_cells hg).2.1]
theorem blockT_facts (least : Int) (b : List Nat) (l : List Int) (n : Nat) (h : (blockT least b l n).2.2 = 0) : (blockT least b l n).2.1.length = l.length + n := by
 unfold blockT at h ⊢
 repeat' split at h
 all_goals first | (simp at h; done) | skip
 · rename_i h4; exact absurd h h4
 · rename_i h1 h2 h3 h4
   rw [if_neg h1, if_neg h2, if_neg h3, if_neg h4]
   simp only [List.length_append, accs_length]
   rw [unpackSpec_ok_length _ _ _ (by omega)]
theorem blockR_facts (b : List Nat) (l : List Int) (n : Nat) (h : (blockR b l n).2.2 = 0) : (blockR b l n).2.1.length = l.length + n := by
 unfold blockR at h ⊢
 split at h
 · rename_i h1; exact absurd h h1
 · rename_i h1; rw [if_neg h1]; exact blockT_facts _ _ _ _ h
theorem zigR_sub (b : List Nat) : ∃ k, (zigR b).2.1 = b.drop k := by
 unfold zigR; split
 · exact ⟨0, rfl⟩
 · exact ⟨_, rfl⟩
theorem blockR_sub (b : List Nat) (l : List Int) (n : Nat) : ∃ k, (blockR b l n).1 = b.drop k := by
 obtain ⟨k, hk⟩ := zigR_sub b
 unfold blockR; split
 · exact ⟨k, hk⟩
 · unfold blockT
   repeat' split
   all_goals first | exact ⟨k, hk⟩ | (refine ⟨k + (1 + packSize n ((zigR b).2.1.getD 0 0)), ?_⟩; simp only [hk, List.drop_drop])
theorem blocksR_done (k : Nat) (b : List Nat) (l : List Int) (n : Nat) (h : ¬ l.length < n) : blocksR k b l n = (b, l, 0) := by
 cases k with
 | zero => rfl
 | succ k => unfold blocksR; rw [if_neg h]
theorem blocksR_bad (k : Nat) (b : List Nat) (l : List Int) (n : Nat) (h : l.length < n) (he : (blockR b l (min (n - l.length) 32)).2.2 ≠ 0) : blocksR (k + 1) b l n = blockR b l (min (n - l.length) 32) := by
 conv => lhs; unfold blocksR
 rw [if_pos h, if_pos he]
theorem blocksR_go (k : Nat) (b : List Nat) (l : List Int) (n : Nat) (h : l.length < n) (he : (blockR b l (min (n - l.length) 32)).2.2 = 0) :
 blocksR (k + 1) b l n = blocksR k (blockR b l (min (n - l.length) 32)).1 (blockR b l (min (n - l.length) 32)).2.1 n := by
 conv => lhs; unfold blocksR
 rw [if_pos h, if_neg (by simp [he])]
set_option maxHeartbeats 8000000 in
set_option maxRecDepth 100000 in
theorem dRead_any (ao : Option Addr) (L cap : Nat) (b : List Nat) (n : Int) (w : World) (hl : b.length = L) (h256 : ∀ x ∈ b, x < 256) (hL : L ≤ 1000000) (hcap : L ≤ cap) (hc : CellsAt w w.heap.size ao L (u8c b)) :
 Calls Tryz.prog 82 #[.slice ao L cap, .int .i64 n] w (GaveRead w (dReadM b n)) := by
 have Hl := Lib.hid hl
 obtain ⟨w1, hw1⟩ : ∃ x, x = w.alloc (.cells #[.slice ao L cap, .slice none 0 0] 154) := ⟨_, rfl⟩
 have hb1 : Below w.heap.size w w1 := by rw [hw1]; exact (Below.refl _ _).alloc (Nat.le_refl _) _
 have hg1 : w1.heap[w.heap.size]? = some (.cells #[.slice ao L cap, .slice none 0 0] 154) := by rw [hw1]; exact heap_alloc_new w _
 have hD1 : DRd w1 w.heap.size b [] := ⟨ao, cap, none, 0, by rw [hl]; exact hg1, by rw [hl]; exact hc.below hb1, by omega, World.ownsRow_nil _ _ _ _⟩
 have HD1 := Lib.hid hD1; have Hb1 := Lib.hid hb1; have Hg1 := Lib.hid hg1
 have Hw1 := Lib.hid hw1
 have HZ := Lib.hid (dzig_any w.heap.size b [] w1 hD1 h256 (by omega))
 have H256 := Lib.hid h256
 clear hl hb1 hg1 hD1 hc h256
 by_cases hneg : n < 0
 · have d1 : decide (n < 0) = true := decide_eq_true hneg
   have hM : Hid (dReadM b n = ([], 0, 1)) := Lib.hid (by unfold dReadM; rw [if_pos (.inl hneg)])
   clear hw1
   go_enter Tryz.func82, Tryz.ntmps82
   go_wp2
   refine wp_scope_fwd 0 rfl ?_
   go_wp2
   simp only [Exit.jump]
   go_ret3
   rw [hM.out]
   exact GaveRead.none 1 (by rw [← Hw1.out]; exact Hb1.out)
 by_cases hbig : 4000 < n
 · have d1 : decide (n < 0) = false := decide_eq_false hneg
   have d2 : decide (4000 < n) = true := decide_eq_true hbig
   have hM : Hid (dReadM b n = ([], 0, 1)) := Lib.hid (by unfold dReadM; rw [if_pos (.inr hbig)])
   clear hw1
   go_enter Tryz.func82, Tryz.ntmps82
   go_wp2
   refine wp_scope_fwd 0 rfl ?_
   go_wp2
   simp only [Exit.jump]
   go_ret3
   rw [hM.out]
   exact GaveRead.none 1 (by rw [← Hw1.out]; exact Hb1.out)
 have d1 : decide (n < 0) = false := decide_eq_false hneg
 have d2 : decide (4000 < n) = false := decide_eq_false hbig
 by_cases hz : n = 0
 · have hM : Hid (dReadM b n = ([], 0, 0)) := Lib.hid (by unfold dReadM; rw [if_neg (by omega), if_pos hz])
   subst hz
   clear hw1
   go_enter Tryz.func82, Tryz.ntmps82
   go_wp2
   refine wp_scope_fwd 0 rfl ?_
   go_wp2
   simp only [Exit.jump]
   go_ret3
   rw [hM.out]
   exact GaveRead.none 0 (by rw [← Hw1.out]; exact Hb1.out)
 obtain ⟨N, rfl⟩ : ∃ N : Nat, n = N := ⟨n.toNat, by omega⟩
 have hN1 : 1 ≤ N := by omega
 have hN2 : N ≤ 4000 := by omega
 obtain ⟨first, hf0⟩ : ∃ u, u = (zigR b).1 := ⟨_, rfl⟩
 obtain ⟨b1, hb10⟩ : ∃ u, u = (zigR b).2.1 := ⟨_, rfl⟩
 obtain ⟨er, her⟩ : ∃ u, u = (zigR b).2.2 := ⟨_, rfl⟩
 rw [← hf0, ← hb10, ← her] at HZ
 have hz2 : (N : Int) ≠ 0 := hz
 by_cases h0 : er = 0
 · rw [h0] at HZ
   obtain ⟨R0, hR0⟩ : ∃ R, R = blocksR N b1 [first] N := ⟨_, rfl⟩
   have HR0 := Lib.hid hR0.symm
   have hM : Hid (dReadM b N = if R0.2.2 ≠ 0 then ([], 0, R0.2.2) else (R0.2.1, b.length - R0.1.length, 0)) := Lib.hid (by unfold dReadM; rw [if_neg (by omega), if_neg hz, ← her, if_neg (by simp [h0]), ← hf0, ← hb10, Int.toNat_natCast, ← hR0])
   have hk1 : Hid (∃ k, b1 = b.drop k) := Lib.hid (by rw [hb10]; exact zigR_sub b)
   clear hf0 hb10 hR0
   go_enter Tryz.func82, Tryz.ntmps82
   go_wp2
   refine wp_scope_fwd 0 rfl ?_
   go_wp2_with fail
   rw [← hw1]
   refine HZ.out.mono ?_
   rintro e x ⟨rfl, hR, hB⟩
   have Hx := Lib.hid (But.below Hb1.out hB (Nat.le_refl _) Hb1.out.size)
   have HR := Lib.hid hR
   have hlt := hR.lt
   obtain ⟨aoB, capB, aoL, capL, hg, hcB, hcapB, hrow⟩ := hR
   simp only [List.length_nil] at hg hrow
   obtain ⟨c0, c1, f0, f1⟩ := two_cells hg
   have hrA := own_below hrow ((Below.refl x.heap.size x).alloc (Nat.le_refl _) (.cells #[.int .i64 first] 3))
   have hsA : w.heap.size + 1 ≤ (x.alloc (.cells #[.int .i64 first] 3)).heap.size := Nat.le_trans hlt (by simp)
   have Hg := Lib.hid hg; have HcB := Lib.hid hcB
   clear hw1 hB hg hcB hrow
   go_wp2_with (at_builtin; refine wpList_append_all1 sl_i64' rfl (.tmp 31) (.tmp 33) rfl rfl hrA rfl (cells_one x 3 (.int .i64 first)) (fun h => by cases h) (fun _ _ => rfl) (by unfold maxLen; omega) (by omega) hsA ?_)
   intro v' y ho hgr
   obtain ⟨aoQ, capQ, rfl, -, -⟩ := own_cells ho
   have hbX : Below x.heap.size x (x.alloc (.cells #[.int .i64 first] 3)) := (Below.refl _ _).alloc (Nat.le_refl _) _
   have hbY : Below (w.heap.size + 1) (x.alloc (.cells #[.int .i64 first] 3)) y := (Below.refl _ _).grown hgr hsA (fun k hk => (hrA.lt k hk).1)
   have hbZ : Below (w.heap.size + 1) x y := (hbX.mono hlt).trans hbY
   have hgZ := (hbZ.block w.heap.size (Nat.lt_succ_self _)).trans Hg.out
   have hoQ : y.ownsRow (w.heap.size + 1) 3 1 (.slice aoQ 1 capQ) 1 (i64v [first]) := ho
   have hcBQ := HcB.out.below (hbZ.mono (Nat.le_succ _))
   obtain ⟨z0, z1, z2, z3⟩ := two_cells hgZ
   have HD2 : Hid (DRd (y.setCell ⟨w.heap.size, 1, none⟩ (.slice aoQ 1 capQ)) w.heap.size b1 [first]) := Lib.hid ⟨aoB, capB, aoQ, capQ, two_set1 hgZ _, hcBQ.below ((Below.refl _ _).setCell (p := ⟨w.heap.size, 1, none⟩) (Nat.le_refl _) _), hcapB, hoQ.kept (grown_set y w.heap.size 1 _) (own_past hoQ)⟩
   have HB2 : Hid (Below w.heap.size w (y.setCell ⟨w.heap.size, 1, none⟩ (.slice aoQ 1 capQ))) := Lib.hid ((Hx.out.trans (hbZ.mono (Nat.le_succ _))).setCell (p := ⟨w.heap.size, 1, none⟩) (Nat.le_refl _) _)
   clear ho hgr hbX hbY hbZ hgZ hoQ hcBQ z0 z2 hrA hsA c0 c1 f0 f1
   go_wp2
   go_loopw [6] (fun i z => i = .int .i64 0 ∧ ∃ (b' : List Nat) (l' : List Int) (K : Nat), Hid (DRd z w.heap.size b' l') ∧ Hid (Below w.heap.size w z) ∧ l'.length ≤ N ∧ 1 ≤ l'.length ∧ N - l'.length ≤ K ∧ Hid (∃ k, b' = b.drop k) ∧ Hid (blocksR K b' l' N = R0)) (fun _ z => N - lenOf z w.heap.size)
   case atStart => exact ⟨rfl, b1, [first], N, HD2, HB2, hN1, Nat.le_refl _, by simp, hk1, HR0⟩
   case round =>
    obtain ⟨rfl, b', l', K, hD, hB, hlN, hl1, hK1, hk', hR'⟩ := hrel
    obtain ⟨z, hzz⟩ : ∃ z, z = wr := ⟨_, rfl⟩
    subst hzz
    clear HD2 HB2 HR Hg HcB z1 z3
    have hzlt := hD.out.lt
    obtain ⟨aoZ, capZ, aoM, capM, kg, kcB, kcapB, krow⟩ := hD.out
    obtain ⟨nl, hnl⟩ : ∃ k, k = l'.length := ⟨_, rfl⟩
    rw [← hnl] at hlN hl1 hK1 kg krow
    obtain ⟨k0, k1, h0, h1⟩ := two_cells kg
    have Hnl := Lib.hid hnl
    clear hnl
    by_cases hnN : nl < N
    · obtain ⟨m, hm⟩ : ∃ k, k = min (N - nl) 32 := ⟨_, rfl⟩
      have q1 : (nl : Int) < (N : Int) := by omega
      have q2 : decide (nl < N) = true := decide_eq_true hnN
      have q3 : min ((N : Int) - (nl : Int)) 32 = (m : Int) := by omega
      have hm1 : 1 ≤ m := by omega
      have hm2 : m ≤ 32 := by omega
      have HC := Lib.hid (dblock_any w.heap.size b' l' m z hD.out (by obtain ⟨k, rfl⟩ := hk'.out; exact fun x hx => H256.out x (List.mem_of_mem_drop hx)) (by obtain ⟨k, rfl⟩ := hk'.out; rw [List.length_drop, Hl.out]; omega) (by intro e; rw [e] at Hnl; have := Hnl.out; simp at this; omega) (by rw [← Hnl.out]; omega) hm1 hm2)
      obtain ⟨e2, he2⟩ : ∃ u, u = (blockR b' l' m).2.2 := ⟨_, rfl⟩
      obtain ⟨b2, hb2⟩ : ∃ u, u = (blockR b' l' m).1 := ⟨_, rfl⟩
      obtain ⟨l2, hl2⟩ : ∃ u, u = (blockR b' l' m).2.1 := ⟨_, rfl⟩
      rw [← he2, ← hb2, ← hl2] at HC
      have HC2 : Hid (∀ v : Int, v = (m : Int) → Calls Tryz.prog 99 #[.pointer (some ⟨w.heap.size, 0, none⟩), .int .i64 v] z fun e w' => e = .returned (.int .i64 (e2 : Nat)) ∧ DRd w' w.heap.size b2 l2 ∧ Below w.heap.size z w') := Lib.hid (fun v hv => by rw [hv]; exact HC.out)
      have Hm := Lib.hid hm; have He2 := Lib.hid he2; have Hb2 := Lib.hid hb2; have Hl2 := Lib.hid hl2
      have hbad : Hid (e2 ≠ 0 → R0.2.2 = e2) := Lib.hid (fun h => by
       obtain ⟨K', rfl⟩ : ∃ K', K = K' + 1 := ⟨K - 1, by omega⟩
       rw [← hR'.out, blocksR_bad K' b' l' N (by rw [← Hnl.out]; exact hnN) (by rw [← Hnl.out, ← hm, ← he2]; exact h), ← Hnl.out, ← hm, ← he2])
      have hgo : Hid (e2 = 0 → blocksR (K - 1) b2 l2 N = R0 ∧ l2.length = nl + m) := Lib.hid (fun h => by
       obtain ⟨K', rfl⟩ : ∃ K', K = K' + 1 := ⟨K - 1, by omega⟩
       refine ⟨?_, ?_⟩
       · rw [← hR'.out, blocksR_go K' b' l' N (by rw [← Hnl.out]; exact hnN) (by rw [← Hnl.out, ← hm, ← he2]; exact h), ← Hnl.out, ← hm, ← hb2, ← hl2]; rfl
       · rw [hl2, Hnl.out]; exact blockR_facts b' l' m (by rw [← he2]; exact h))
      have hsub2 : Hid (∃ k, b2 = b.drop k) := Lib.hid (by
       obtain ⟨k, hk⟩ := hk'.out
       obtain ⟨k2, hk2⟩ := blockR_sub b' l' m
       exact ⟨k + k2, by rw [hb2, hk2, hk, List.drop_drop]⟩)
      have hKl := Lib.hid hK1
      have hnN2 := Lib.hid hnN
      clear hm he2 hb2 hl2 krow kcB kg hK1 HC HD1 Hb1 Hg1 Hw1 HZ hnN
      go_wp2_with fail
      all_goals
       refine (HC2.out _ (by have := Hm.out; omega)).mono ?_
       rintro e x2 ⟨rfl, hR2, hB2⟩
       have HR2 := Lib.hid hR2; have HB3 := Lib.hid (hB.out.trans hB2)
       clear hR2 hB2
       by_cases he : e2 = 0
       · rw [he]
         go_wp2
         go_roundw
         case rel => exact ⟨rfl, b2, l2, K - 1, HR2, HB3, by rw [(hgo.out he).2]; have := Hm.out; omega, by rw [(hgo.out he).2]; omega, by rw [(hgo.out he).2]; have := hKl.out; omega, hsub2, Lib.hid (hgo.out he).1⟩
         case measure => rw [HR2.out.lenOf, hD.out.lenOf, (hgo.out he).2, ← Hnl.out]; have := hnN2.out; omega
       · have h1 : ((e2 : Int) == 0) = false := by rw [beq_eq_false_iff_ne]; omega
         have h2 : (e2 : Int) ≠ 0 := by omega
         have hm3 : Hid (dReadM b N = ([], 0, e2)) := Lib.hid (by rw [hM.out, hbad.out he, if_pos he])
         go_wp2
         go_step3
         refine ⟨rfl, ?_⟩
         go_wp2
         simp only [Exit.jump]
         go_ret3
         rw [hm3.out]
         exact GaveRead.none e2 HB3.out
    · have hnN2 : N = nl := by omega
      subst hnN2
      have hR1 : Hid (R0 = (b', l', 0)) := Lib.hid (by rw [← hR'.out]; exact blocksR_done K b' l' N (by rw [← Hnl.out]; exact hnN))
      have hMn : aoM = none → N = 0 := by
       intro e; subst e
       rcases krow.2 with ⟨h, -⟩ | ⟨_, _, _, h, -⟩ <;> cases h; rfl
      obtain ⟨_, _, hMe, hcM, -⟩ := own_i64 krow
      simp only [Value.slice.injEq, true_and] at hMe
      obtain ⟨rfl, rfl⟩ := hMe
      obtain ⟨bl, hbl⟩ : ∃ k, k = b'.length := ⟨_, rfl⟩
      have hblL : bl ≤ L := by obtain ⟨k, hk⟩ := hk'.out; rw [hbl, hk, List.length_drop, Hl.out]; omega
      rw [← hbl] at k0
      have Hbl := Lib.hid hbl
      have p0 : ∀ w', Grows z.drew w' → w'.cell? ⟨w.heap.size, 0, none⟩ = some (.slice aoZ bl capZ) := fun w' hg => (Grows.toDrew hg).cell k0
      have p1 : ∀ w', Grows z.drew w' → w'.cell? ⟨w.heap.size, 1, none⟩ = some (.slice aoM N capM) := fun w' hg => (Grows.toDrew hg).cell k1
      have hsub : IntKind.i64.wrap ((L : Int) - (bl : Int)) = ((L - bl : Nat) : Int) := by rw [IntWalk.i64_in _ (by omega)]; omega
      have HCL := Lib.hid (cloneI_any aoM N capM l' z.drew Hnl.out.symm hcM.drew hMn (by omega))
      clear HD1 Hb1 Hg1 Hw1 HZ hnN kg hcM hMn krow kcB hbl
      go_wp2
      refine wp_region_linH [(0, 0), (1, 0), (2, 0), (3, 0), (5, 0), (6, 0), (7, 0), (8, 0), (9, 0), (10, 0), (11, 0), (12, 0), (4, 1), (13, 0), (14, 0), (15, 0)] [] (by kernel_rfl) (by kernel_rfl) (fun d _ _ _ _ h => by cases d <;> exact h) ?_
      repeat (first
       | (refine wpLinH_skip rfl rfl (fun K hK => ?_); go_simp; refine hK _ ?_; clear hK K)
       | (refine wpLinH_take (v := ?_) rfl rfl (fun w' hw' => ?_) (fun K hK => ?_); rotate_left; (go_simp; rfl); (go_simp; refine hK _ ?_; clear hK K)))
      refine wpLinH_do rfl (fun K hK => ?_); go_simp
      refine HCL.out.mono ?_
      rintro e y1 ⟨vO, rfl, hoO, hbO⟩
      refine hK _ _ hbO ?_; clear hK K
      have hl'N : Hid (l'.length = N) := Hnl.out.symm |> Lib.hid
      have hmF : Hid (dReadM b N = (l', L - bl, 0)) := Lib.hid (by rw [hM.out, hR1.out, if_neg (by simp), ← Hbl.out, Hl.out])
      have HoO : Hid (y1.ownsRow w.heap.size 3 1 vO N (i64v l')) := Lib.hid (own_base hoO (Nat.le_trans hB.out.size (Nat.le_refl _)))
      have HbO : Hid (Below w.heap.size w y1) := Lib.hid (hB.out.trans (Below.mono ((Below.refl z.heap.size z).drew.trans hbO) hB.out.size))
      clear hoO hbO
      repeat (first
       | (refine wpLinH_skip rfl rfl (fun K hK => ?_); go_simp; refine hK _ ?_; clear hK K)
       | (refine wpLinH_take (v := ?_) rfl rfl (fun w' hw' => ?_) (fun K hK => ?_); rotate_left; (go_simp; rfl); (go_simp; refine hK _ ?_; clear hK K)))
      refine wpLinH_nil ?_
      go_wp2
      simp only [Exit.jump]
      go_ret3
      rw [hmF.out]
      exact ⟨_, rfl, by rw [hl'N.out]; exact HoO.out, HbO.out⟩
 · have hM : Hid (dReadM b N = ([], 0, er)) := Lib.hid (by unfold dReadM; rw [if_neg (by omega), if_neg hz, ← her, if_pos h0])
   have h1 : ((er : Int) == 0) = false := by rw [beq_eq_false_iff_ne]; omega
   have h2 : (er : Int) ≠ 0 := by omega
   clear hf0 hb10 her
   go_enter Tryz.func82, Tryz.ntmps82
   go_wp2
   refine wp_scope_fwd 0 rfl ?_
   go_wp2_with fail
   rw [← hw1]
   refine HZ.out.mono ?_
   rintro e x ⟨rfl, hR, hB⟩
   have Hx := Lib.hid (But.below Hb1.out hB (Nat.le_refl _) Hb1.out.size)
   clear hw1 hR hB
   go_wp2
   go_step3
   refine ⟨rfl, ?_⟩
   go_wp2
   simp only [Exit.jump]
   go_ret3
   rw [hM.out]
   exact GaveRead.none er Hx.out
end Go.Proofs.YtebmbkbnngeabaaGreat
