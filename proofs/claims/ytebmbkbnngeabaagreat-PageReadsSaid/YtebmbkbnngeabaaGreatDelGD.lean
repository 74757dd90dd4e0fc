/- Chapter 12: the walk over delta.Decode. -/
import Derived.Test.YtebmbkbnngeabaaGreatBunA
import Derived.Test.YtebmbkbnngeabaaGreatDelGT
set_option linter.unusedSimpArgs false
namespace Go.Proofs.YtebmbkbnngeabaaGreat
open Go.RowKit
set_option linter.unusedVariables false
theorem blocksR_ok_len (n : Nat) : ∀ (k : Nat) (b : List Nat) (l : List Int), l.length ≤ n → n - l.length ≤ k → (blocksR k b l n).2.2 = 0 → (blocksR k b l n).2.1.length = n
 | 0, b, l, h, hk, _ => by show l.length = n; omega
 | k + 1, b, l, h, hk, he => by
  unfold blocksR at he ⊢
  by_cases hlt : l.length < n
  · rw [if_pos hlt] at he ⊢
    by_cases hb : (blockR b l (min (n - l.length) 32)).2.2 = 0
    · rw [if_neg (by simp [hb])] at he ⊢
      have hf := blockR_facts _ _ _ hb
      exact blocksR_ok_len n k _ _ (by rw [hf]; omega) (by rw [hf]; omega) he
    · rw [if_pos hb] at he
      exact absurd he hb
  · rw [if_neg hlt]; show l.length = n; omega
theorem dReadM_ok (b : List Nat) (N : Nat) (h : (dReadM b N).2.2 = 0) : (dReadM b N).1.length = N ∧ (dReadM b N).2.1 ≤ b.length := by
 unfold dReadM at h ⊢
 by_cases h1 : (N : Int) < 0 ∨ 4000 < (N : Int)
 · rw [if_pos h1] at h; simp at h
 · rw [if_neg h1] at h ⊢
   by_cases h2 : (N : Int) = 0
   · rw [if_pos h2]; exact ⟨by simp; omega, Nat.zero_le _⟩
   · rw [if_neg h2] at h ⊢
     by_cases h3 : (zigR b).2.2 = 0
     · rw [if_neg (by simp [h3])] at h ⊢
       by_cases h4 : (blocksR (N : Int).toNat (zigR b).2.1 [(zigR b).1] (N : Int).toNat).2.2 = 0
       · rw [if_neg (fun h' => h' h4)] at h ⊢
         refine ⟨?_, Nat.sub_le _ _⟩
         have := blocksR_ok_len (N : Int).toNat (N : Int).toNat (zigR b).2.1 [(zigR b).1] (by simp; omega) (by omega) h4
         rw [Int.toNat_natCast] at this ⊢
         exact this
       · rw [if_pos h4] at h; exact absurd h h4
     · rw [if_pos h3] at h; exact absurd h h3
def nTo (l : List Int) (n j : Nat) : List Vl := ((l.take j).map fun v => (v, ByteArray.empty)) ++ List.replicate (n - j) vl0
theorem nTo_set (u : List Int) (n j : Nat) (h : j < n) (hu : u.length = n) : (nTo u n j).set j (u.getD j 0, ByteArray.empty) = nTo u n (j + 1) := by
 unfold nTo
 have hl : ((u.take j).map fun v => ((v, ByteArray.empty) : Vl)).length = j := by simp; omega
 rw [List.set_append_right _ _ (by rw [hl]; exact Nat.le_refl _), hl, Nat.sub_self, show n - j = (n - (j + 1)) + 1 by omega, List.replicate_succ, List.set_cons_zero]
 rw [List.take_succ_eq_append_getElem (by omega), List.map_append, List.getD_eq_getElem?_getD, List.getElem?_eq_getElem (by omega)]
 simp
theorem nTo_at (u : List Int) (n j : Nat) (h : j < n) (hu : u.length = n) : (nTo u n j).getD j vl0 = vl0 := by
 unfold nTo
 have hl : ((u.take j).map fun v => ((v, ByteArray.empty) : Vl)).length = j := by simp; omega
 rw [getD_app_ge _ _ _ (by rw [hl]; exact Nat.le_refl _), hl, Nat.sub_self, show n - j = (n - (j + 1)) + 1 by omega, List.replicate_succ]
 rfl
theorem badNum_take (kind : Int) (ns : List Int) (j : Nat) (h : j < ns.length) (hb : badNum kind (ns.take j) = false) (hx : kind = 2 → ¬ (ns.getD j 0 < -2147483648 ∨ 2147483647 < ns.getD j 0)) : badNum kind (ns.take (j + 1)) = false := by
 unfold badNum at hb ⊢
 by_cases hk : kind = 2
 · have hx := hx hk
   subst hk
   rw [List.getD_eq_getElem?_getD, List.getElem?_eq_getElem h] at hx
   simp only [decide_true, Bool.true_and] at hb ⊢
   rw [List.take_succ_eq_append_getElem h, List.any_append, hb]
   simpa using hx
 · simp [hk]
theorem badNum_bad (ns : List Int) (j : Nat) (h : j < ns.length) (hx : ns.getD j 0 < -2147483648 ∨ 2147483647 < ns.getD j 0) : badNum 2 ns = true := by
 unfold badNum
 rw [List.getD_eq_getElem?_getD, List.getElem?_eq_getElem h] at hx
 simp only [decide_true, Bool.true_and]
 rw [List.any_eq_true]
 exact ⟨ns[j], List.getElem_mem _, by simpa using hx⟩
theorem GaveDec.later {w x y : World} {r : List Vl × Nat} {e : Ending} (h : GaveDec x r e y) (hb : Below w.heap.size w x) : GaveDec w r e y := by
 obtain ⟨v, rfl, ho, hx⟩ := h
 exact ⟨v, rfl, own_base ho hb.size, bmore hb hx⟩
theorem GaveDec.none {w y : World} (k : Nat) (hb : Below w.heap.size w y) : GaveDec w ([], k) (.returned (.tuple #[.slice none 0 0, .int .i64 (k : Nat)])) y := ⟨_, rfl, World.ownsRow_nil _ _ _ _, hb⟩
theorem signC_in (kind : Int) (h : ¬ (kind < 1 ∨ 4 < kind ∨ kind = 1)) : (signC kind == 32) = false ∧ (signC kind == 98) = false := by
 have : kind = 2 ∨ kind = 3 ∨ kind = 4 := by omega
 rcases this with rfl | rfl | rfl <;> exact ⟨rfl, rfl⟩
set_option maxHeartbeats 8000000 in
set_option maxRecDepth 100000 in
theorem ddecode_out (kind : Int) (ao : Option Addr) (L cap : Nat) (b : List Nat) (n : Int) (w : World) (hk1 : -9223372036854775808 ≤ kind) (hk2 : kind ≤ 9223372036854775807) (hl : b.length = L) (h256 : ∀ x ∈ b, x < 256) (hL : L ≤ 1000000) (hc : CellsAt w w.heap.size ao L (u8c b)) (hz : ao = none → L = 0)
 (h : kind < 1 ∨ 4 < kind ∨ n < 0 ∨ 4000 < n ∨ kind = 1) :
 Calls Tryz.prog 57 #[.int .i64 kind, .slice ao L cap, .int .i64 n] w (GaveDec w (decodeM kind b n)) := by
 have HS := Lib.hid (dsign_any kind w hk1 hk2)
 have HD : Hid (∀ x : World, Below w.heap.size w x → Calls Tryz.prog 58 #[.int .i64 kind, .slice ao L cap, .int .i64 n] x (GaveDec w (decodeM kind b n))) := Lib.hid (fun x hx =>
  (decode_any kind ao L cap b n x hl h256 (by omega) (hc.at hx) hz).mono (fun e y hg => hg.later hx))
 have hcase : (signC kind == 32) = true ∨ ((signC kind == 32) = false ∧ (signC kind == 98) = true) ∨ ((signC kind == 32) = false ∧ (signC kind == 98) = false ∧ decide (n < 0) = true) ∨ ((signC kind == 32) = false ∧ (signC kind == 98) = false ∧ decide (n < 0) = false ∧ decide (4000 < n) = true) := by
  by_cases ho : kind < 1 ∨ 4 < kind
  · left; unfold signC; rw [if_neg (by omega), if_neg (by omega), if_neg (by omega), if_neg (by omega)]; rfl
  · by_cases h1 : kind = 1
    · right; left; subst h1; exact ⟨rfl, rfl⟩
    · obtain ⟨g1, g2⟩ := signC_in kind (by omega)
      by_cases hn : n < 0
      · right; right; left; exact ⟨g1, g2, decide_eq_true hn⟩
      · right; right; right; exact ⟨g1, g2, decide_eq_false hn, decide_eq_true (by omega)⟩
 obtain ⟨c, hcd⟩ : ∃ c, c = signC kind := ⟨_, rfl⟩
 rw [← hcd] at HS hcase
 clear hl h256 hc hz h hcd
 rcases hcase with b1 | ⟨b1, b2⟩ | ⟨b1, b2, b3⟩ | ⟨b1, b2, b3, b4⟩
 all_goals
  go_enter Tryz.func57, Tryz.ntmps57
  go_wp2_with fail
  refine HS.out.mono ?_
  rintro e x ⟨rfl, hx⟩
  have Hx := Lib.hid hx
  clear hx
  go_wp2_with fail
  refine (HD.out _ Hx.out).mono ?_
  rintro e y ⟨v, rfl, ho, hy⟩
  have Hg : Hid (GaveDec w (decodeM kind b n) (.returned (.tuple #[v, .int .i64 ((decodeM kind b n).2 : Nat)])) y) := Lib.hid ⟨v, rfl, ho, hy⟩
  clear ho hy
  go_wp2
  go_ret2
  exact Hg.out
set_option maxHeartbeats 8000000 in
set_option maxRecDepth 100000 in
theorem ddecode_4 (ao : Option Addr) (L cap : Nat) (b : List Nat) (N : Nat) (w : World) (hl : b.length = L) (h256 : ∀ x ∈ b, x < 256) (hL : L ≤ 1000000) (hcap : L ≤ cap) (hc : CellsAt w w.heap.size ao L (u8c b)) (hz : ao = none → L = 0) (hN : N ≤ 4000) :
 Calls Tryz.prog 57 #[.int .i64 4, .slice ao L cap, .int .i64 (N : Nat)] w (GaveDec w (dDecM 4 b N)) := by
 have HS : Hid (∀ w : World, Calls Tryz.prog 81 #[.int .i64 4] w fun e w' => e = .returned (.int .i32 116) ∧ Below w.heap.size w w') := Lib.hid (fun w => dsign_any 4 w (by decide) (by decide))
 obtain ⟨r, hr⟩ : ∃ r, r = dReadM b N := ⟨_, rfl⟩
 have hM : Hid (dDecM 4 b N = if r.2.2 ≠ 0 then ([], r.2.2) else dTexts (b.drop r.2.1) r.1) := Lib.hid (by unfold dDecM; rw [if_neg (by omega), ← hr, if_pos rfl])
 have hok := dReadM_ok b N
 have HR : Hid (∀ x : World, Below w.heap.size w x → Calls Tryz.prog 82 #[.slice ao L cap, .int .i64 (N : Nat)] x (GaveRead x r)) := Lib.hid (fun x hx => by rw [hr]; exact dRead_any ao L cap b N x hl h256 hL hcap (hc.at hx))
 rw [← hr] at hok
 have Hl := Lib.hid hl; have H256 := Lib.hid h256; have Hc := Lib.hid hc; have Hz := Lib.hid hz
 have b1 : decide ((N : Int) < 0) = false := decide_eq_false (by omega)
 have b2 : decide ((4000 : Int) < (N : Int)) = false := decide_eq_false (by omega)
 clear hr hl h256 hc hz
 go_enter Tryz.func57, Tryz.ntmps57
 go_wp2_with fail
 refine (HS.out _).mono ?_
 rintro e x ⟨rfl, hx⟩
 have Hx := Lib.hid hx
 clear hx
 obtain ⟨rl, used, er⟩ := r
 simp only at hM hok
 go_wp2_with fail
 refine (HR.out _ Hx.out).mono ?_
 intro e y hg
 obtain ⟨aoX, nX, capX, rfl, HnX, hcX, hbX⟩ := hg.opened
 have Hy := Lib.hid (bmore Hx.out hbX)
 have HcX := Lib.hid hcX
 simp only at HnX
 clear hg hcX hbX
 by_cases h0 : er = 0
 · subst h0
   have hok := hok rfl
   obtain rfl : nX = N := by rw [← HnX.out]; exact hok.1
   have hused : used ≤ L := by rw [← Hl.out]; exact hok.2
   have Hok := Lib.hid hok.1
   rw [if_neg (by simp)] at hM
   obtain ⟨ao2, hao2, hs2⟩ := slice_from ao L cap used hused hcap
   have Hc2 : Hid (∀ z, Below y.heap.size y z → CellsAt z z.heap.size ao2 (L - used) (u8c (b.drop used))) := Lib.hid (fun z hb => by
    rcases hao2 with h0 | rfl
    · rw [h0]; exact CellsAt.zero
    · have h := drop_cells (p := used) (m := L - used) (Hc.out.at (bmore Hy.out hb)) (by omega)
      rw [List.take_of_length_le (by rw [List.length_drop, Hl.out]; exact Nat.le_refl _)] at h
      exact h)
   have Hz2 : Hid (ao2 = none → L - used = 0) := Lib.hid (fun e => by
    rcases hao2 with h0 | h
    · exact h0
    · have : ao = none := by cases ao with | none => rfl | some a => rw [e] at h; simp at h
      have := Hz.out this; omega)
   clear hok hao2
   go_wp2_with fail
   refine (HS.out _).mono ?_
   rintro e y2 ⟨rfl, hy2⟩
   have HT := Lib.hid (dtexts_any ao2 (L - used) (cap - used) (b.drop used) aoX nX capX rl y2 (by rw [List.length_drop, Hl.out]) (fun x hx => H256.out x (List.mem_of_mem_drop hx)) (by omega) (by omega) (Hc2.out y2 hy2) Hz2.out Hok.out hN (HcX.out.at hy2))
   have Hy2 := Lib.hid (bmore Hy.out hy2)
   clear hy2
   go_wp2_with fail
   refine HT.out.mono ?_
   intro e z hg
   have hg := hg.later Hy2.out
   rw [← hM.out] at hg
   obtain ⟨v, rfl, ho, hz⟩ := hg
   have Hg : Hid (GaveDec w (dDecM 4 b nX) (.returned (.tuple #[v, .int .i64 ((dDecM 4 b nX).2 : Nat)])) z) := Lib.hid ⟨v, rfl, ho, hz⟩
   clear ho hz
   go_wp2
   go_ret2
   exact Hg.out
 · rw [if_pos h0] at hM
   have h1 : ((er : Int) == 0) = false := by rw [beq_eq_false_iff_ne]; omega
   have h2 : (er : Int) ≠ 0 := by omega
   clear h0
   go_wp2
   go_ret2
   rw [hM.out]
   exact GaveDec.none er Hy.out
set_option maxHeartbeats 8000000 in
set_option maxRecDepth 100000 in
theorem ddecode_n (kind : Nat) (c : Int) (hk : kind = 2 ∧ c = 105 ∨ kind = 3 ∧ c = 108) (ao : Option Addr) (L cap : Nat) (b : List Nat) (N : Nat) (w : World) (hl : b.length = L) (h256 : ∀ x ∈ b, x < 256) (hL : L ≤ 1000000) (hcap : L ≤ cap) (hc : CellsAt w w.heap.size ao L (u8c b)) (hN : N ≤ 4000) :
 Calls Tryz.prog 57 #[.int .i64 (kind : Nat), .slice ao L cap, .int .i64 (N : Nat)] w (GaveDec w (dDecM kind b N)) := by
 have HS : Hid (∀ w : World, Calls Tryz.prog 81 #[.int .i64 (kind : Nat)] w fun e w' => e = .returned (.int .i32 c) ∧ Below w.heap.size w w') := Lib.hid (fun w => by
  have h := dsign_any (kind : Nat) w (by omega) (by omega)
  rcases hk with ⟨rfl, rfl⟩ | ⟨rfl, rfl⟩ <;> exact h)
 obtain ⟨r, hr⟩ : ∃ r, r = dReadM b N := ⟨_, rfl⟩
 have hM : Hid (dDecM kind b N = if r.2.2 ≠ 0 then ([], r.2.2) else numsT kind (b.drop r.2.1) r.1) := Lib.hid (by unfold dDecM; rw [if_neg (by omega), ← hr, if_neg (show ¬ ((kind : Nat) : Int) = 4 by omega)])
 have hok := dReadM_ok b N
 have HR : Hid (∀ x : World, Below w.heap.size w x → Calls Tryz.prog 82 #[.slice ao L cap, .int .i64 (N : Nat)] x (GaveRead x r)) := Lib.hid (fun x hx => by rw [hr]; exact dRead_any ao L cap b N x hl h256 hL hcap (hc.at hx))
 rw [← hr] at hok
 have Hl := Lib.hid hl
 have b1 : decide ((N : Int) < 0) = false := decide_eq_false (by omega)
 have b2 : decide ((4000 : Int) < (N : Int)) = false := decide_eq_false (by omega)
 have b3 : (c == 32) = false := by rw [beq_eq_false_iff_ne]; omega
 have b4 : (c == 98) = false := by rw [beq_eq_false_iff_ne]; omega
 have b5 : (c == 116) = false := by rw [beq_eq_false_iff_ne]; omega
 obtain ⟨i0, hi, hz0, hz1, hz2⟩ := info_parts Tryz.infoV
 have Hk := Lib.hid hk
 clear hr hl h256 hc hk
 go_enter Tryz.func57, Tryz.ntmps57
 go_wp2_with fail
 refine (HS.out _).mono ?_
 rintro e x ⟨rfl, hx⟩
 have Hx := Lib.hid hx
 clear hx
 obtain ⟨rl, used, er⟩ := r
 simp only at hM hok
 go_wp2_with fail
 refine (HR.out _ Hx.out).mono ?_
 intro e y hg
 obtain ⟨aoX, nX, capX, rfl, HnX, hcX, hbX⟩ := hg.opened
 have Hy := Lib.hid (bmore Hx.out hbX)
 have HcX := Lib.hid hcX
 simp only at HnX
 clear hg hcX hbX
 by_cases h0 : er = 0
 · subst h0
   have hok := hok rfl
   obtain rfl : nX = N := by rw [← HnX.out]; exact hok.1
   have hused : used ≤ L := by rw [← Hl.out]; exact hok.2
   have Hok := Lib.hid hok.1
   rw [if_neg (by simp)] at hM
   obtain ⟨ao2, -, hs2⟩ := slice_from ao L cap used hused hcap
   obtain ⟨m, hm⟩ : ∃ m, m = L - used := ⟨_, rfl⟩
   rw [← hm] at hs2
   have Hm := Lib.hid hm
   clear hok hm
   go_wp2_with fail
   refine (HS.out _).mono ?_
   rintro e y2 ⟨rfl, hy2⟩
   have Hy2 := Lib.hid (bmore Hy.out hy2)
   have HcX2 := Lib.hid (HcX.out.at hy2)
   clear hy2
   go_wp2_with (at_make; refine wpList_make_full _ rfl _ _ 31 rfl y2.heap.size 81 i0 (.agg #[.int .i64 0, .string ByteArray.empty]) 2 Tryz.underlying31 hi hz0 hz1 _ _ _ _ nX rfl rfl rfl rfl ?b2 ?b3 (Nat.le_refl _) ?_)
   case b2 => rw [hz2]; omega
   case b3 => unfold maxLen; omega
   intro z hown0 hgrow0
   rw [madeV] at hown0
   have hbz : Below y2.heap.size y2 z := (Below.refl _ _).grown hgrow0 (Nat.le_refl _) (fun k h => by cases h)
   obtain ⟨gO, hgOe⟩ : ∃ gO, gO = y2.heap.size := ⟨_, rfl⟩
   have HcX3 : Hid (CellsAt z gO aoX nX (i64c rl)) := Lib.hid (by rw [hgOe]; exact HcX2.out.below hbz)
   have Hbz := Lib.hid (bmore Hy2.out hbz)
   have HgO : Hid (w.heap.size ≤ gO) := Lib.hid (by rw [hgOe]; exact Hy2.out.size)
   rw [← hgOe] at hown0
   have hown : Hid (z.ownsRow gO 81 2 (.slice (some ⟨gO, 0, none⟩) nX nX) nX (vcs (nTo rl nX 0))) := Lib.hid (by
    have e : nTo rl nX 0 = List.replicate nX vl0 := by simp [nTo]
    rw [e]; exact hown0)
   rw [← hgOe]
   clear hown0 hgrow0 hbz hgOe
   go_wp2
   go_loopw [62] (fun i z => ∃ j : Nat, j ≤ nX ∧ i = .int .i64 (j : Nat) ∧ Hid (badNum kind (rl.take j) = false) ∧ Hid (z.ownsRow gO 81 2 (.slice (some ⟨gO, 0, none⟩) nX nX) nX (vcs (nTo rl nX j))) ∧ Hid (CellsAt z gO aoX nX (i64c rl)) ∧ Hid (Below w.heap.size w z)) (fun i _ => nX - (intOf i).toNat)
   case atStart => exact ⟨0, Nat.zero_le _, rfl, Lib.hid (by simp [badNum]), hown, HcX3, Hbz⟩
   case round =>
    clear hown HcX3 Hbz
    obtain ⟨j, hj, rfl, hgood, hown, HcX3, Hbz⟩ := hrel
    obtain ⟨z, hzz⟩ : ∃ z, z = wr := ⟨_, rfl⟩
    subst hzz
    by_cases hjn : j < nX
    · obtain ⟨bb, off, rfl, hbb, cx⟩ := HcX3.out j hjn
      obtain ⟨x1, hx⟩ : ∃ x, x = rl.getD j 0 := ⟨_, rfl⟩
      rw [i64c, ← hx] at cx
      have e1 : (j : Int) < (nX : Int) := by omega
      have e2 : (0 : Int) ≤ (j : Int) := by omega
      have Hxv := Lib.hid hx
      clear hx
      have hgz : gO < z.heap.size := by
       rcases hown.out.2 with ⟨h, -⟩ | ⟨g, _, _, h, -, hg, -⟩
       · cases h
       · simp only [Value.slice.injEq, Option.some.injEq, Addr.mk.injEq] at h
         obtain ⟨⟨rfl, -⟩, -⟩ := h
         exact (Array.getElem?_eq_some_iff.1 hg).1
      go_wp2_with fail
      refine (HS.out _).mono ?_
      rintro e z2 ⟨rfl, hz2'⟩
      have hown2 := own_below hown.out hz2'
      obtain ⟨d0, d1⟩ := cell_v hown2 j hjn
      have f0 := hown2.frozenAt (j * 2)
      have hst := stored_vN hown2 j hjn x1 ByteArray.empty (by rw [nTo_at rl nX j hjn Hok.out]; rfl)
      rw [Hxv.out, nTo_set rl nX j hjn Hok.out, ← Hxv.out] at hst
      have Hst := Lib.hid hst
      have hbst := (Below.refl gO z2).setCell (p := ⟨gO, j * 2, none⟩) (Nat.le_refl _) (.int .i64 x1)
      have HcX4 := Lib.hid ((HcX3.out.below (hz2'.mono (Nat.le_of_lt hgz))).below hbst)
      have Hbz4 := Lib.hid ((bmore Hbz.out hz2').setCell (p := ⟨gO, j * 2, none⟩) HgO.out (.int .i64 x1))
      have Hbz2 := Lib.hid (bmore Hbz.out hz2')
      clear hst hbst hown2 hz2' hgz
      have hcase : (kind = 2 ∧ c = 105 ∧ x1 < -2147483648) ∨ (kind = 2 ∧ c = 105 ∧ ¬ x1 < -2147483648 ∧ 2147483647 < x1) ∨ (kind = 2 ∧ c = 105 ∧ ¬ x1 < -2147483648 ∧ ¬ 2147483647 < x1) ∨ (kind = 3 ∧ c = 108) := by
       have := Hk.out
       omega
      rcases hcase with ⟨g1, g2, g3⟩ | ⟨g1, g2, g3, g4⟩ | ⟨g1, g2, g3, g4⟩ | ⟨g1, g2⟩
      · have q1 : (c == 105) = true := by rw [beq_iff_eq]; exact g2
        have q2 : decide (x1 < -2147483648) = true := decide_eq_true g3
        have hR : Hid (dDecM kind b nX = ([], 14)) := Lib.hid (by
         rw [hM.out, g1]; unfold numsT
         rw [if_pos (show badNum ((2 : Nat) : Int) rl = true from badNum_bad rl j (by rw [Hok.out]; exact hjn) (.inl (by rw [← Hxv.out]; exact g3)))])
        clear g1 g2
        go_wp2
        go_ret2
        rw [hR.out]
        exact GaveDec.none 14 Hbz2.out
      · have q1 : (c == 105) = true := by rw [beq_iff_eq]; exact g2
        have q2 : decide (x1 < -2147483648) = false := decide_eq_false g3
        have q3 : decide (2147483647 < x1) = true := decide_eq_true g4
        have hR : Hid (dDecM kind b nX = ([], 14)) := Lib.hid (by
         rw [hM.out, g1]; unfold numsT
         rw [if_pos (show badNum ((2 : Nat) : Int) rl = true from badNum_bad rl j (by rw [Hok.out]; exact hjn) (.inr (by rw [← Hxv.out]; exact g4)))])
        clear g1 g2
        go_wp2
        go_ret2
        rw [hR.out]
        exact GaveDec.none 14 Hbz2.out
      · have q1 : (c == 105) = true := by rw [beq_iff_eq]; exact g2
        have q2 : decide (x1 < -2147483648) = false := decide_eq_false g3
        have q3 : decide (2147483647 < x1) = false := decide_eq_false g4
        have hg2 : Hid (badNum kind (rl.take (j + 1)) = false) := Lib.hid (badNum_take kind rl j (by rw [Hok.out]; exact hjn) hgood.out (fun _ => by rw [← Hxv.out]; omega))
        clear g1 g2
        go_wp2
        go_roundw
        case rel => exact ⟨j + 1, by omega, by go_num, hg2, Hst, HcX4, Hbz4⟩
        case measure => simp [intOf]; omega
      · have q1 : (c == 105) = false := by rw [beq_eq_false_iff_ne]; omega
        have hg2 : Hid (badNum kind (rl.take (j + 1)) = false) := Lib.hid (badNum_take kind rl j (by rw [Hok.out]; exact hjn) hgood.out (fun h => by omega))
        clear g1 g2
        go_wp2
        go_roundw
        case rel => exact ⟨j + 1, by omega, by go_num, hg2, Hst, HcX4, Hbz4⟩
        case measure => simp [intOf]; omega
    · obtain rfl : j = nX := by omega
      have e1 : ¬ (j : Int) < (j : Int) := by omega
      have hgd : badNum kind rl = false := by have h := hgood.out; rwa [List.take_of_length_le (by rw [Hok.out]; exact Nat.le_refl _)] at h
      have hbl : (b.drop used).length = m := by rw [List.length_drop, Hl.out, Hm.out]
      by_cases hm0 : m = 0
      · have hR : Hid (dDecM kind b j = (rl.map fun v => (v, ByteArray.empty), 0)) := Lib.hid (by
         rw [hM.out]; unfold numsT
         rw [if_neg (by rw [hgd]; decide), if_neg (by rw [hbl, hm0]; simp)])
        have ho : Hid (z.ownsRow w.heap.size 81 2 (.slice (some ⟨gO, 0, none⟩) j j) (rl.map fun v => ((v, ByteArray.empty) : Vl)).length (vcs (rl.map fun v => (v, ByteArray.empty)))) := Lib.hid (by
         have h := hown.out
         have e : nTo rl j j = rl.map fun v => (v, ByteArray.empty) := by unfold nTo; rw [Nat.sub_self, List.take_of_length_le (by rw [Hok.out]; exact Nat.le_refl _)]; simp
         rw [e] at h
         rw [List.length_map, Hok.out]; exact own_base h HgO.out)
        subst hm0
        clear hgd hbl
        go_wp2
        go_ret2
        rw [hR.out]
        exact ⟨_, rfl, ho.out, Hbz.out⟩
      · have e5 : (0 : Int) < (m : Int) := by omega
        have e5b : decide (0 < m) = true := decide_eq_true (by omega)
        have hR : Hid (dDecM kind b j = ([], 9)) := Lib.hid (by
         rw [hM.out]; unfold numsT
         rw [if_neg (by rw [hgd]; decide), if_pos (by rw [hbl]; exact hm0)])
        clear hgd hbl
        go_wp2
        go_ret2
        rw [hR.out]
        exact GaveDec.none 9 Hbz.out
 · rw [if_pos h0] at hM
   have h1 : ((er : Int) == 0) = false := by rw [beq_eq_false_iff_ne]; omega
   have h2 : (er : Int) ≠ 0 := by omega
   clear h0
   go_wp2
   go_ret2
   rw [hM.out]
   exact GaveDec.none er Hy.out
theorem ddecode_any (kind : Int) (ao : Option Addr) (L cap : Nat) (b : List Nat) (n : Int) (w : World) (hk1 : -9223372036854775808 ≤ kind) (hk2 : kind ≤ 9223372036854775807) (hl : b.length = L) (h256 : ∀ x ∈ b, x < 256) (hL : L ≤ 1000000) (hcap : L ≤ cap) (hc : CellsAt w w.heap.size ao L (u8c b)) (hz : ao = none → L = 0) :
 Calls Tryz.prog 57 #[.int .i64 kind, .slice ao L cap, .int .i64 n] w (GaveDec w (dDecM kind b n)) := by
 by_cases h : kind < 1 ∨ 4 < kind ∨ n < 0 ∨ 4000 < n ∨ kind = 1
 · rw [show dDecM kind b n = decodeM kind b n by unfold dDecM; rw [if_pos h]]
   exact ddecode_out kind ao L cap b n w hk1 hk2 hl h256 hL hc hz h
 · obtain ⟨N, rfl⟩ : ∃ N : Nat, n = N := ⟨n.toNat, by omega⟩
   have hk : kind = 4 ∨ kind = 2 ∨ kind = 3 := by omega
   rcases hk with rfl | rfl | rfl
   · exact ddecode_4 ao L cap b N w hl h256 hL hcap hc hz (by omega)
   · exact ddecode_n 2 105 (.inl ⟨rfl, rfl⟩) ao L cap b N w hl h256 hL hcap hc (by omega)
   · exact ddecode_n 3 108 (.inr ⟨rfl, rfl⟩) ao L cap b N w hl h256 hL hcap hc (by omega)
end Go.Proofs.YtebmbkbnngeabaaGreat
