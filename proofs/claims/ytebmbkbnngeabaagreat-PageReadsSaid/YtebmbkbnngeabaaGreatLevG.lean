/- Chapter 10: the walk over the reader of levels: groups. -/
import Derived.Test.YtebmbkbnngeabaaGreatBunC
set_option linter.unusedSimpArgs false
namespace Go.Proofs.YtebmbkbnngeabaaGreat
open Go.RowKit
set_option linter.unusedVariables false
theorem unpacked_at (b : List Nat) (n wd i : Nat) (h : i < n) : (unpacked b n wd).getD i 0 = numOf (fun k => bitOf b (i * wd + k)) wd := by
 unfold unpacked
 rw [List.getD_eq_getElem?_getD, List.getElem?_map, List.getElem?_range h]; rfl
theorem unpacked_group (b : List Nat) (k wd G : Nat) (hG : G < k) (hb : k * wd ≤ b.length) (j : Nat) (hj : j < 8) :
 (unpacked ((b.drop (G * wd)).take wd) 8 wd).getD j 0 = (unpacked (b.take (k * wd)) (8 * k) wd).getD (8 * G + j) 0 := by
 rw [unpacked_at _ _ _ _ hj, unpacked_at _ _ _ _ (by omega)]
 refine numOf_congr fun m hm => ?_
 have e1 : (8 * G + j) * wd + m = 8 * (G * wd) + (j * wd + m) := by
  rw [Nat.add_mul, Nat.mul_assoc, Nat.add_assoc]
 have hp : j * wd + m < 8 * wd := by
  have : (j + 1) * wd ≤ 8 * wd := Nat.mul_le_mul_right _ hj
  rw [Nat.add_mul] at this; omega
 have hGw : G * wd + wd ≤ k * wd := by
  have : (G + 1) * wd ≤ k * wd := Nat.mul_le_mul_right _ hG
  rw [Nat.add_mul] at this; omega
 unfold bitOf
 rw [e1, show (8 * (G * wd) + (j * wd + m)) / 8 = G * wd + (j * wd + m) / 8 by omega, show (8 * (G * wd) + (j * wd + m)) % 8 = (j * wd + m) % 8 by omega]
 congr 1
 simp only [List.getD_eq_getElem?_getD]
 rw [List.getElem?_take_of_lt (by omega), List.getElem?_drop, List.getElem?_take_of_lt (by omega)]
theorem unpackSpec_group (b : List Nat) (wd : Nat) (hw : wd ≤ 16) (hl : b.length = wd) : unpackSpec b 8 wd = (unpacked b 8 wd, 0) := by
 have hs : packSize 8 wd = wd := by unfold packSize; omega
 unfold unpackSpec
 rw [if_neg (by omega), show ((8 : Int)).toNat = 8 from rfl, Int.toNat_natCast, hs, if_neg (by omega), if_neg (by omega), if_pos]
 rw [tailClear_iff]
 intro p h1 h2
 omega
theorem own_ne {w : World} {base n gU : Nat} {v : Value} {xs : List Value} {cu : Array Value} {fr : Nat × Nat} (h : w.ownsRow base 3 1 v n xs) (hu : w.heap[gU]? = some (.cells cu 61 fr)) : v.ownBlock ≠ some gU := by
 rcases h.2 with ⟨rfl, -⟩ | ⟨g, cap, cur, rfl, -, hg, -⟩
 · simp [Value.ownBlock]
 · simp only [Value.ownBlock]
   intro e
   cases e
   rw [hg] at hu
   simp at hu
theorem own_butU {w w' : World} {base g gU n cap : Nat} {e : TypeId} {xs : List Value} (h : w.ownsRow base e 1 (.slice (some ⟨gU, 0, none⟩) n cap) n xs) (hb : But g w w') (hg : gU ≠ g) : w'.ownsRow base e 1 (.slice (some ⟨gU, 0, none⟩) n cap) n xs := by
 refine ⟨h.1, h.2.imp id fun ⟨b, cap, cur, h1, h2, h3, h4⟩ => ⟨b, cap, cur, h1, h2, ?_, h4⟩⟩
 simp only [Value.slice.injEq, Option.some.injEq, Addr.mk.injEq] at h1
 obtain ⟨⟨rfl, -⟩, -, -⟩ := h1
 exact (hb.block gU (Array.getElem?_eq_some_iff.1 h3).1 hg).trans h3
theorem take_min_succ (U : List Nat) (c left : Nat) (hc : c < U.length) (h : c < left) : U.take (min (c + 1) left) = U.take (min c left) ++ [U.getD c 0] := by
 rw [Nat.min_eq_left (by omega), Nat.min_eq_left (by omega), List.take_succ_eq_append_getElem hc, List.getD_eq_getElem?_getD, List.getElem?_eq_getElem hc]; rfl
theorem take_min_same (U : List Nat) (c left : Nat) (h : left ≤ c) : U.take (min (c + 1) left) = U.take (min c left) := by
 rw [Nat.min_eq_right (by omega), Nat.min_eq_right h]
theorem all_zero (U : List Nat) (left : Nat) (h : ∀ i, left ≤ i → i < U.length → U.getD i 0 = 0) : (U.drop left).all (· == 0) = true := by
 rw [List.all_eq_true]
 intro x hx
 obtain ⟨i, hi, rfl⟩ := List.mem_iff_getElem.1 hx
 rw [List.length_drop] at hi
 have := h (left + i) (by omega) (by omega)
 rw [List.getD_eq_getElem?_getD, List.getElem?_eq_getElem (by omega)] at this
 rw [List.getElem_drop, beq_iff_eq]; exact this
theorem not_all_zero (U : List Nat) (left c : Nat) (h1 : left ≤ c) (h2 : c < U.length) (h : U.getD c 0 ≠ 0) : (U.drop left).all (· == 0) = false := by
 rw [List.all_eq_false]
 refine ⟨U.getD c 0, ?_, by rw [beq_iff_eq]; exact h⟩
 rw [List.getD_eq_getElem?_getD, List.getElem?_eq_getElem h2]
 refine List.mem_iff_getElem.2 ⟨c - left, by rw [List.length_drop]; omega, ?_⟩
 rw [List.getElem_drop]
 simp only [Option.getD_some]
 congr 1; omega
def GInv (w x : World) (g n wd left : Nat) (b l U : List Nat) (c : Nat) : Prop := LRd x g b n wd (l ++ U.take (min c left)) ∧ (∀ i, left ≤ i → i < c → U.getD i 0 = 0) ∧ Below g w x
theorem GInv.keep {w x x' : World} {g n wd left c : Nat} {b l U : List Nat} (h : GInv w x g n wd left b l U c) (hb : Below x.heap.size x x') : GInv w x' g n wd left b l U c :=
 ⟨h.1.below hb, h.2.1, h.2.2.trans (hb.mono (Nat.le_of_lt h.1.lt))⟩
theorem GInv.skip {w x : World} {g n wd left c : Nat} {b l U : List Nat} (h : GInv w x g n wd left b l U c) (hl : left ≤ c) (h0 : U.getD c 0 = 0) : GInv w x g n wd left b l U (c + 1) := by
 refine ⟨by rw [take_min_same U c left hl]; exact h.1, fun i h1 h2 => ?_, h.2.2⟩
 by_cases hi : i = c
 · subst hi; exact h0
 · exact h.2.1 i h1 (by omega)
theorem GInv.add {w x : World} {g n wd left c : Nat} {b l U : List Nat} (hl : c < left) (hc : c < U.length) (h : LRd x g b n wd (l ++ U.take (min c left) ++ [U.getD c 0])) (hb : Below g w x) : GInv w x g n wd left b l U (c + 1) := by
 refine ⟨by rw [take_min_succ U c left hc hl, ← List.append_assoc]; exact h, fun i h1 h2 => by omega, hb⟩
set_option maxHeartbeats 16000000 in
set_option maxRecDepth 100000 in
theorem lrdgroups_any (g n wd k : Nat) (b l : List Nat) (w : World) (h : LRd w g b n wd l) (hn : n ≤ 4000) (hl : l.length < n) (h1 : 1 ≤ wd) (h16 : wd ≤ 16) (h256 : ∀ x ∈ b, x < 256) (hb : b.length ≤ 1000000000) (hk : k < 18446744073709551616) :
 Calls Tryz.prog 78 #[.pointer (some ⟨g, 0, none⟩), .int .u64 (k : Nat)] w (RowPost w g n wd (decGrp wd n b l k)) := by
 have hglt := h.lt
 have HR := Lib.hid h
 obtain ⟨ao, cap, v, hg, hc, hz, hcap, ho⟩ := h
 obtain ⟨c0, c1, c2, c3, f0, f3⟩ := four_cells hg
 have Hg := Lib.hid hg; have Ho := Lib.hid ho; have Hc := Lib.hid hc; have H256 := Lib.hid h256
 clear hg ho hc h256
 have ewn : IntKind.u64.wrap ((n : Nat) : Int) = ((n : Nat) : Int) := IntWalk.u64_in _ (by omega)
 by_cases hk0 : k = 0
 · subst hk0
   rw [show decGrp wd n b l 0 = (b, l, 10) by unfold decGrp; rw [if_pos (.inl rfl)]]
   go_enter Tryz.func78, Tryz.ntmps78
   go_wp2
   go_ret
   exact ⟨rfl, Below.refl _ _, fun e => by simp at e⟩
 have bk : ((k : Int) == 0) = false := by rw [beq_eq_false_iff_ne]; omega
 by_cases hkn : n < k
 · rw [show decGrp wd n b l k = (b, l, 10) by unfold decGrp; rw [if_pos (.inr (.inl hkn))]]
   have dk : decide ((n : Int) < (k : Int)) = true := decide_eq_true (by omega)
   have dk2 : decide (n < k) = true := decide_eq_true hkn
   clear hkn
   go_enter Tryz.func78, Tryz.ntmps78
   go_wp2
   go_ret
   exact ⟨rfl, Below.refl _ _, fun e => by simp at e⟩
 have dk : decide ((n : Int) < (k : Int)) = false := decide_eq_false (by omega)
 have dk2 : decide (n < k) = false := decide_eq_false hkn
 have hk4 : k ≤ 4000 := by omega
 have hk1 : 1 ≤ k := by omega
 obtain ⟨left, hm⟩ : ∃ m, m = n - l.length := ⟨_, rfl⟩
 have hL := fun w' h => lleft_any g n wd b l w' h hn (Nat.le_of_lt hl)
 rw [← hm] at hL
 have HL := Lib.hid hL
 have hm2 : left ≤ 4000 := by omega
 have ek : IntKind.i64.wrap (k : Int) = (k : Int) := IntWalk.i64_in _ (by omega)
 clear hL
 by_cases hlf : left ≤ 8 * (k - 1)
 · rw [show decGrp wd n b l k = (b, l, 10) by unfold decGrp; rw [if_pos (.inr (.inr (by omega)))]]
   have d2 : decide ((left : Int) ≤ 8 * ((k : Int) - 1)) = true := decide_eq_true (by omega)
   clear hlf hm hkn hk0 hl
   go_enter Tryz.func78, Tryz.ntmps78
   go_wp2_with fail
   refine (HL.out _ HR.out).mono ?_
   rintro e x2 ⟨rfl, mm, rfl⟩
   have Hx := Lib.hid (below_drewN (Below.refl g w) mm)
   go_wp2
   go_ret
   exact ⟨rfl, Hx.out, fun e => by simp at e⟩
 have d2 : decide ((left : Int) ≤ 8 * ((k : Int) - 1)) = false := decide_eq_false (by omega)
 have hdec : decGrp wd n b l k = if b.length < k * wd then (b, l, 8)
  else if ((unpacked (b.take (k * wd)) (8 * k) wd).drop left).all (· == 0) then (b.drop (k * wd), l ++ (unpacked (b.take (k * wd)) (8 * k) wd).take left, 0) else (b, l, 10) := by
  unfold decGrp; rw [if_neg (by omega), ← hm]
 rw [hdec]
 obtain ⟨kw, hkw⟩ : ∃ kw, kw = k * wd := ⟨_, rfl⟩
 have hkw64 : kw ≤ 64000 := by rw [hkw]; exact Nat.mul_le_mul hk4 h16
 have ekw : (k : Int) * (wd : Int) = (kw : Int) := by rw [hkw, Int.natCast_mul]
 rw [← hkw]
 have Hkw := Lib.hid hkw
 obtain ⟨LB, hLB⟩ : ∃ LB, LB = b.length := ⟨_, rfl⟩
 rw [← hLB] at c0 hcap hb hz ⊢
 have HLB := Lib.hid hLB
 have Hll : Hid (l.length + left = n) := Lib.hid (by omega)
 have hleft0 : 0 < left := by omega
 clear hdec hkw hLB hk0 hkn
 by_cases hcut : LB < kw
 · rw [if_pos hcut]
   have dc : ((LB : Int) < (kw : Int)) := by omega
   clear hm hl hlf
   go_enter Tryz.func78, Tryz.ntmps78
   go_wp2_with fail
   refine (HL.out _ HR.out).mono ?_
   rintro e x2 ⟨rfl, mm, rfl⟩
   have Hx := Lib.hid (below_drewN (Below.refl g w) mm)
   go_wp2
   go_ret
   exact ⟨rfl, Hx.out, fun e => by simp at e⟩
 rw [if_neg hcut]
 have dc : ¬ ((LB : Int) < (kw : Int)) := by omega
 have dcn : decide (LB < kw) = false := decide_eq_false hcut
 have hbl : kw ≤ LB := by omega
 obtain ⟨U, hU⟩ : ∃ U, U = unpacked (b.take kw) (8 * k) wd := ⟨_, rfl⟩
 rw [← hU]
 obtain ⟨R, hR⟩ : ∃ R, R = (if (U.drop left).all (· == 0) then (b.drop kw, l ++ U.take left, 0) else (b, l, 10) : List Nat × List Nat × Nat) := ⟨_, rfl⟩
 rw [← hR]
 have HRR := Lib.hid hR
 clear hR
 have hUl : Hid (U.length = 8 * k) := Lib.hid (by rw [hU, unpacked_length])
 have hU64 : Hid (∀ x ∈ U, x < 18446744073709551616) := Lib.hid (by rw [hU]; exact unpacked_lt _ _ _ (by omega))
 have HU := Lib.hid hU
 have hst : GInv w w g n wd left b l U 0 := ⟨by simpa using HR.out, fun i _ h => by omega, Below.refl _ _⟩
 have HST := Lib.hid hst
 obtain ⟨i0, hi, hz0, hz1, hz2⟩ := info_parts Tryz.infoI
 clear hU hm hl hlf hcut hst
 go_enter Tryz.func78, Tryz.ntmps78
 go_wp2_with fail
 refine (HL.out _ HR.out).mono ?_
 rintro e x2 ⟨rfl, mm, rfl⟩
 have HST1 := Lib.hid (HST.out.keep (below_drewN (Below.refl _ _) mm))
 go_wp2
 go_loopw [47] (fun i x => ∃ G : Nat, G ≤ k ∧ i = .int .i64 G ∧ Hid (GInv w x g n wd left b l U (8 * G))) (fun i _ => k - (intOf i).toNat)
 case atStart => exact ⟨0, Nat.zero_le _, rfl, HST1⟩
 case round =>
  clear c0 c1 c2 c3 f0 f3 HST HST1
  obtain ⟨G, hG, rfl, hinv⟩ := hrel
  obtain ⟨x, hxx⟩ : ∃ x, x = wr := ⟨_, rfl⟩
  subst hxx
  by_cases hlt : G < k
  · have e1 : (G : Int) < (k : Int) := by omega
    obtain ⟨aoX, capX, vX, hgX, hcX, hzX, hcapX, hoX⟩ := hinv.out.1
    rw [← HLB.out] at hgX hcX hzX hcapX
    obtain ⟨c0, c1, c2, c3, f0, f3⟩ := four_cells hgX
    have hgltX := hinv.out.1.lt
    obtain ⟨p, hp⟩ : ∃ p, p = G * wd := ⟨_, rfl⟩
    have hpw : p + wd ≤ kw := by
     have : (G + 1) * wd ≤ k * wd := Nat.mul_le_mul_right _ hlt
     rw [Nat.add_mul, ← hp, ← Hkw.out] at this; omega
    have ep : (G : Int) * (wd : Int) = (p : Int) := by rw [hp, Int.natCast_mul]
    have ep2 : ((G : Int) + 1) * (wd : Int) = (p : Int) + (wd : Int) := by rw [hp, Int.natCast_mul, Int.add_mul]; omega
    have hp64 : p ≤ 64000 := by omega
    have eG1 : IntKind.i64.wrap ((G : Int) + 1) = (G : Int) + 1 := IntWalk.i64_in _ (by omega)
    have ewp : IntKind.i64.wrap (p : Int) = (p : Int) := IntWalk.i64_in _ (by omega)
    have ewp2 : IntKind.i64.wrap ((p : Int) + (wd : Int)) = (p : Int) + (wd : Int) := IntWalk.i64_in _ (by omega)
    obtain ⟨ao', hao, hs⟩ := slice_lh aoX LB capX p wd (by omega)
    have hgl : Hid (((b.drop p).take wd).length = wd) := Lib.hid (by rw [List.length_take, List.length_drop, ← HLB.out]; omega)
    have hcD : CellsAt x g ao' wd (u8c ((b.drop p).take wd)) := by
     rcases hao with h0 | rfl
     · omega
     · exact drop_cells (p := p) (m := wd) hcX (by omega)
    have hspec := unpackSpec_group ((b.drop p).take wd) wd h16 hgl.out
    have hUn := fun (w' : World) hw' => unpack_any ao' wd (capX - p) 8 (wd : Nat) ((b.drop p).take wd) w' hgl.out (fun x hx => H256.out x (List.mem_of_mem_drop (List.mem_of_mem_take hx))) (by omega) (((hcD.mono (Nat.le_of_lt hgltX)).below (hw' : Below x.heap.size x w')).mono hw'.size)
    rw [hspec] at hUn
    have HUn := Lib.hid hUn
    have F0 : ∀ w', Grows x.drew w' → w'.cell? ⟨g, 0, none⟩ = some (.slice aoX LB capX) := fun w' hg => (Grows.toDrew hg).cell c0
    have F2 : ∀ w', Grows x.drew w' → w'.cell? ⟨g, 2, none⟩ = some (.int .i64 (wd : Nat)) := fun w' hg => (Grows.toDrew hg).cell c2
    obtain ⟨gl, hgle⟩ : ∃ gl, gl = unpacked ((b.drop p).take wd) 8 wd := ⟨_, rfl⟩
    have hgU : Hid (∀ j, j < 8 → gl.getD j 0 = U.getD (8 * G + j) 0) := Lib.hid (fun j hj => by
     rw [hgle, HU.out, hp]
     have := unpacked_group b k wd G hlt (by rw [← Hkw.out, ← HLB.out]; exact hbl) j hj
     rw [this, ← Hkw.out])
    have hgle2 : Hid (gl.length = 8) := Lib.hid (by rw [hgle, unpacked_length])
    rw [← hgle] at HUn
    clear hp hao hcD hspec hUn hgle hgX hcX hoX
    go_wp2
    refine wp_region_linH [(0, 0), (1, 0), (2, 0), (3, 0), (4, 0), (5, 0), (6, 0), (7, 0), (8, 0), (9, 0), (10, 0), (11, 0), (12, 0), (13, 0), (14, 0), (15, 0), (16, 0), (17, 0), (18, 0), (19, 0), (20, 0), (21, 0), (22, 1), (23, 0), (24, 0), (25, 0), (26, 0), (27, 0)] [] (by kernel_rfl) (by kernel_rfl) (fun d _ _ _ _ h => by cases d <;> exact h) ?_
    repeat (first
     | (refine wpLinH_skip rfl rfl (fun K hK => ?_); go_simp; refine hK _ ?_; clear hK K)
     | (refine wpLinH_take (v := ?_) rfl rfl (fun w' hw' => ?_) (fun K hK => ?_); rotate_left; (go_simp; rfl); (go_simp; refine hK _ ?_; clear hK K)))
    refine wpLinH_do rfl (fun K hK => ?_); go_simp
    refine (HUn.out _ (Below.refl _ _).drew).mono ?_
    rintro e y ⟨vU, rfl, hfU⟩
    have hxy := hfU.2
    obtain ⟨hoU0, -⟩ := hfU
    rw [u64v_length, hgle2.out] at hoU0
    obtain ⟨aoU, capU, rfl, -, -⟩ := own_u64 hoU0
    obtain ⟨gU, rfl, hgUl⟩ := own_shape (by decide) hoU0
    have hgUg : g < gU := Nat.lt_of_lt_of_le hgltX hgUl
    have hoU : y.ownsRow 0 61 1 (.slice (some ⟨gU, 0, none⟩) 8 capU) 8 (u64v gl) := own_base hoU0 (Nat.zero_le _)
    refine hK _ _ hxy ?_; clear hK K F0 F2
    repeat (first
     | (refine wpLinH_skip rfl rfl (fun K hK => ?_); go_simp; refine hK _ ?_; clear hK K)
     | (refine wpLinH_take (v := ?_) rfl rfl (fun w' hw' => ?_) (fun K hK => ?_); rotate_left; (go_simp; rfl); (go_simp; refine hK _ ?_; clear hK K)))
    refine wpLinH_nil ?_
    have hinvY := Lib.hid (hinv.out.keep (Grows.toDrew hxy))
    have HoU := Lib.hid hoU
    clear hinv hoU hoU0 hxy hgUl c0 c1 c2 c3 f0 f3 hs ep ep2 ewp ewp2 hgltX
    go_wp2
    go_loopw [81] (fun i z => ∃ j : Nat, j ≤ 8 ∧ i = .int .i64 j ∧ Hid (GInv w z g n wd left b l U (8 * G + j)) ∧ Hid (z.ownsRow 0 61 1 (.slice (some ⟨gU, 0, none⟩) 8 capU) 8 (u64v gl))) (fun i _ => 8 - (intOf i).toNat)
    case atStart => exact ⟨0, Nat.zero_le _, rfl, hinvY, HoU⟩
    case round =>
     clear hinvY HoU
     obtain ⟨j, hj, rfl, hinv, hoZ⟩ := hrel
     obtain ⟨z, hzz⟩ : ∃ z, z = wr := ⟨_, rfl⟩
     subst hzz
     by_cases hj8 : j < 8
     · have e2 : (j : Int) < 8 := by omega
       have e3 : (0 : Int) ≤ (j : Int) := by omega
       have hcell := cell_u64 hoZ.out j hj8
       obtain ⟨y0, hy0⟩ : ∃ y0, y0 = gl.getD j 0 := ⟨_, rfl⟩
       rw [u64c, ← hy0] at hcell
       have hyU : y0 = U.getD (8 * G + j) 0 := hy0.trans (hgU.out j hj8)
       have hcU : 8 * G + j < U.length := by rw [hUl.out]; omega
       have hy64 : y0 < 18446744073709551616 := by
        rw [hyU, List.getD_eq_getElem?_getD, List.getElem?_eq_getElem hcU]; exact hU64.out _ (List.getElem_mem _)
       have HyU := Lib.hid hyU; have HcU := Lib.hid hcU
       obtain ⟨m, hme⟩ : ∃ m, m = n - (l ++ U.take (min (8 * G + j) left)).length := ⟨_, rfl⟩
       have hm3 : m = left - (8 * G + j) := by
        have h2 := Hll.out
        have h3 := hUl.out
        rw [hme, List.length_append, List.length_take]; omega
       have hLL := fun (w' : World) h => lleft_any g n wd b (l ++ U.take (min (8 * G + j) left)) w' h hn (by
        have h2 := Hll.out
        rw [List.length_append, List.length_take]; omega)
       rw [← hme] at hLL
       have HLL := Lib.hid hLL
       clear hy0 hyU hcU hme hLL
       by_cases hfull : left ≤ 8 * G + j
       · obtain rfl : m = 0 := by omega
         by_cases hyz : y0 = 0
         · subst hyz
           have hnext := Lib.hid (hinv.out.skip hfull HyU.out.symm)
           clear hfull hm3
           go_wp2_with fail
           refine (HLL.out _ hinv.out.1).mono ?_
           rintro e z1 ⟨rfl, m1, rfl⟩
           go_wp2_with fail
           refine (HLL.out _ (hinv.out.keep (below_drewN (Below.refl _ _) m1)).1).mono ?_
           rintro e z2 ⟨rfl, m2, rfl⟩
           have hn2 := Lib.hid (hnext.out.keep (below_drewN (below_drewN (Below.refl _ _) m1) m2))
           have ho2 := Lib.hid (own_drewN (own_drewN hoZ.out m1) m2)
           generalize (z.drewN m1).drewN m2 = Z at hn2 ho2 ⊢
           go_wp2
           go_roundw
           case rel => exact ⟨j + 1, by omega, by go_num, hn2, ho2⟩
           case measure => simp [intOf]; omega
         · have by0 : ((y0 : Int) != 0) = true := by rw [bne_iff_ne]; omega
           have hna := not_all_zero U left (8 * G + j) hfull HcU.out (by rw [← HyU.out]; exact hyz)
           have Hna := Lib.hid hna
           clear hfull hm3 hyz hna
           go_wp2_with fail
           refine (HLL.out _ hinv.out.1).mono ?_
           rintro e z1 ⟨rfl, m1, rfl⟩
           have hfin := Lib.hid (hinv.out.keep (below_drewN (Below.refl _ _) m1)).2.2
           go_wp2
           go_ret
           rw [HRR.out, if_neg (by rw [Hna.out]; decide)]
           exact ⟨rfl, hfin.out, fun e => by simp at e⟩
       · have hm0 : 0 < m := by omega
         have bm : ((m : Int) == 0) = false := by rw [beq_eq_false_iff_ne]; omega
         have bm2 : (0 : Int) < (m : Int) := by omega
         have hcl : 8 * G + j < left := by omega
         have ey : IntKind.i64.wrap (y0 : Int) = (y0 : Int) := IntWalk.i64_in _ (by
          have h3 : y0 < 65536 := by
           rw [HyU.out, HU.out, unpacked_at _ _ _ _ (by omega)]
           exact Nat.lt_of_lt_of_le (numOf_lt _ _) (Nat.pow_le_pow_right (by decide) h16)
          omega)
         have hm4 : m ≤ 4000 := by omega
         clear hfull hm3 hm0
         go_wp2_with fail
         refine (HLL.out _ hinv.out.1).mono ?_
         rintro e z1 ⟨rfl, m1, rfl⟩
         go_wp2_with fail
         refine (HLL.out _ (hinv.out.keep (below_drewN (Below.refl _ _) m1)).1).mono ?_
         rintro e z2 ⟨rfl, m2, rfl⟩
         have hn2 := hinv.out.keep (below_drewN (below_drewN (Below.refl _ _) m1) m2)
         have ho2 := own_drewN (own_drewN hoZ.out m1) m2
         generalize (z.drewN m1).drewN m2 = Z at hn2 ho2 ⊢
         obtain ⟨⟨aoR, capR, vR, hgR, hcR, hzR, hcapR, hoR⟩, hzer, hbelZ⟩ := hn2
         obtain ⟨q0, q1, q2, q3, q4, q5⟩ := four_cells hgR
         have hZs : g + 1 ≤ Z.heap.size := (Array.getElem?_eq_some_iff.1 hgR).1
         have hlen : (l ++ U.take (min (8 * G + j) left)).length ≤ 8000 := by
          have h2 := Hll.out
          rw [List.length_append, List.length_take]; omega
         obtain ⟨Lc, hLc⟩ : ∃ Lc, Lc = l ++ U.take (min (8 * G + j) left) := ⟨_, rfl⟩
         rw [← hLc] at hlen hoR
         have HgR := Lib.hid hgR; have HcR := Lib.hid hcR; have HzR := Lib.hid hzR; have Hzer := Lib.hid hzer; have HbZ := Lib.hid hbelZ; have Ho2 := Lib.hid ho2; have HLc := Lib.hid hLc
         clear hgR hcR hzR hzer hbelZ ho2 hLc hinv hoZ hcell
         have hbA := (Below.refl Z.heap.size Z).alloc (Nat.le_refl _) (.cells #[.int .i64 (y0 : Int)] 3)
         have hoA := own_below hoR hbA
         have hsA : g + 1 ≤ (Z.alloc (.cells #[.int .i64 (y0 : Int)] 3)).heap.size := Nat.le_trans hZs hbA.size
         have hgA := (hbA.block g hZs).trans HgR.out
         have hoUA := own_below Ho2.out hbA
         have HgA := Lib.hid hgA; have HoUA := Lib.hid hoUA; have HbA := Lib.hid hbA
         clear hgA hoUA hbA hoR
         go_wp2_with (at_builtin; refine wpList_append_all1 sl_i rfl (.tmp 99) (.tmp 102) rfl rfl hoA rfl (cells_one Z 3 (.int .i64 (y0 : Int))) (fun h => by cases h) (fun _ _ => rfl) (by unfold maxLen; omega) (by omega) hsA ?_)
         intro vZ Z2 hoN hgr
         obtain ⟨aoN, capN, rfl, -, -⟩ := own_cells hoN
         have hbN : Below (g + 1) (Z.alloc (.cells #[.int .i64 (y0 : Int)] 3)) Z2 := (Below.refl _ _).grown hgr hsA (fun j hj => (hoA.lt j hj).1)
         have hgN : Z2.heap[g]? = _ := (hbN.block g (Nat.lt_succ_self g)).trans HgA.out
         obtain ⟨z0, z1, z2, z3, z4, z5⟩ := four_cells hgN
         have hoN2 : Z2.ownsRow (g + 1) 3 1 (.slice aoN (Lc.length + 1) capN) (Lc ++ [y0]).length (natv (Lc ++ [y0])) := by
          rw [List.length_append, natv_append]; exact hoN
         have hoUN : Z2.ownsRow 0 61 1 (.slice (some ⟨gU, 0, none⟩) 8 capU) 8 (u64v gl) := by
          have h := HoUA.out
          rcases h.2 with ⟨hh, -⟩ | ⟨g5, cap5, cur5, hh, q1, q2, q3⟩
          · simp at hh
          · simp only [Value.slice.injEq, Option.some.injEq, Addr.mk.injEq] at hh
            obtain ⟨⟨rfl, -⟩, -, rfl⟩ := hh
            have hne := own_ne hoA q2
            refine ⟨h.1, .inr ⟨gU, capU, cur5, rfl, q1, ?_, q3⟩⟩
            rw [hgr.block gU (Array.getElem?_eq_some_iff.1 q2).1 (fun e => hne e.symm), q2]
         have HgN := Lib.hid hgN; have HoN2 := Lib.hid hoN2; have HoUN := Lib.hid hoUN; have HbN := Lib.hid hbN
         clear hgr hoN hoA hgN hoN2 hoUN hbN z0 z1 z2 z4 q0 q1 q2 q3 q4 q5
         go_wp2
         go_roundw
         case rel =>
          have hbut : But g Z2 (Z2.setCell ⟨g, 3, none⟩ (.slice aoN (Lc.length + 1) capN)) := (But.refl g Z2).setCell 3 _
          have hbelow : Below g w (Z2.setCell ⟨g, 3, none⟩ (.slice aoN (Lc.length + 1) capN)) := ((HbZ.out.trans (HbA.out.mono (by omega))).trans (HbN.out.mono (Nat.le_succ g))).setCell (by exact Nat.le_refl _) _
          refine ⟨j + 1, by omega, by go_num, Lib.hid (GInv.add (c := 8 * G + j) hcl HcU.out ⟨aoR, capR, .slice aoN (Lc.length + 1) capN, ?_, ?_, HzR.out, hcapR, ?_⟩ hbelow), Lib.hid (own_butU HoUN.out hbut (by omega))⟩
          · exact four_set3 HgN.out _
          · exact HcR.out.below ((((Below.refl g Z).trans (HbA.out.mono (by omega))).trans (HbN.out.mono (Nat.le_succ g))).setCell (by exact Nat.le_refl _) _)
          · show (Z2.setCell ⟨g, 3, none⟩ (.slice aoN (Lc.length + 1) capN)).ownsRow (g + 1) 3 1 (.slice aoN (Lc.length + 1) capN) (l ++ U.take (min (8 * G + j) left) ++ [U.getD (8 * G + j) 0]).length (natv (l ++ U.take (min (8 * G + j) left) ++ [U.getD (8 * G + j) 0]))
            rw [← HyU.out, ← HLc.out]
            exact own_butB HoN2.out hbut (Nat.lt_succ_self g)
         case measure => simp [intOf]; omega
     · obtain rfl : j = 8 := by omega
       go_wp2
       go_roundw
       case rel => first | exact ⟨G + 1, by omega, by go_num, hinv⟩ | ((repeat apply Exists.intro); refine ⟨?_, rfl⟩; exact ⟨G + 1, by omega, by go_num, hinv⟩)
       case measure => simp [intOf]; omega
  · obtain rfl : G = k := by omega
    have e1 : ¬ (G : Int) < (G : Int) := by omega
    have hall := all_zero U left (fun i h1 h2 => hinv.out.2.1 i h1 (by rw [← hUl.out]; exact h2))
    have Hall := Lib.hid hall
    have htk : Hid (U.take (min (8 * G) left) = U.take left) := Lib.hid (by
     rcases Nat.le_total left (8 * G) with h | h
     · rw [Nat.min_eq_right h]
     · rw [Nat.min_eq_left h, List.take_of_length_le (l := U) (i := 8 * G) (by rw [hUl.out]; exact Nat.le_refl _), List.take_of_length_le (by rw [hUl.out]; exact h)])
    obtain ⟨⟨aoX, capX, vX, hgX, hcX, hzX, hcapX, hoX⟩, -, hbX⟩ := hinv.out
    rw [← HLB.out] at hgX hcX hzX hcapX
    rw [htk.out] at hoX
    obtain ⟨c0, c1, c2, c3, f0, f3⟩ := four_cells hgX
    obtain ⟨ao', hao, hs⟩ := slice_from aoX LB capX kw hbl hcapX
    have hcD : CellsAt x g ao' (LB - kw) (u8c (b.drop kw)) := from_cells HLB.out.symm (by rw [HLB.out]; exact HLB.out ▸ hcX) hbl hao
    have HcD := Lib.hid hcD; have HgX := Lib.hid hgX; have HoX := Lib.hid hoX; have HbX := Lib.hid hbX
    clear hall hinv hcD hgX hcX hoX hbX hao
    go_wp2
    go_ret
    rw [HRR.out, if_pos Hall.out]
    have hbut : But g x (x.setCell ⟨g, 0, none⟩ (.slice ao' (LB - kw) (capX - kw))) := (But.refl g x).setCell 0 _
    have hfb : Below g w (x.setCell ⟨g, 0, none⟩ (.slice ao' (LB - kw) (capX - kw))) := HbX.out.setCell (by exact Nat.le_refl _) _
    have hdl : (b.drop kw).length = LB - kw := by rw [List.length_drop, ← HLB.out]
    refine ⟨rfl, hfb, fun _ => ⟨ao', capX - kw, vX, ?_, ?_, ?_, ?_, ?_⟩⟩
    · rw [hdl]; exact four_set0 HgX.out _
    · rw [hdl]; exact HcD.out.below ((Below.refl g x).setCell (by exact Nat.le_refl _) _)
    · rw [hdl]
      intro e
      rcases Nat.eq_zero_or_pos (LB - kw) with h0 | h0
      · exact h0
      · obtain ⟨_, _, e2, -⟩ := HcD.out 0 h0
        rw [e] at e2; cases e2
    · rw [hdl]; omega
    · exact own_butB HoX.out hbut (Nat.lt_succ_self g)
end Go.Proofs.YtebmbkbnngeabaaGreat
