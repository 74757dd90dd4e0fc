/- Chapter 5's law package: the walk over Make. -/
import Derived.Test.YtebmbkbnngeabaaGreatBunC
import Derived.Test.YtebmbkbnngeabaaGreatBunB
import Derived.Deep.CutBlock
set_option linter.unusedSimpArgs false
namespace Go.Proofs.YtebmbkbnngeabaaGreat
open Go.RowKit
set_option linter.unusedVariables false
def GaveS (w : World) (e : Ending) (w' : World) : Prop :=
 ∃ ao n cap F P dep anc, e = .returned (.slice ao n cap) ∧ Hid (F.length = n) ∧ Hid (FinS F P dep anc) ∧ CellsAt w' w'.heap.size ao (n * 4) (wc fdV F) ∧ Below w.heap.size w w'
set_option maxHeartbeats 8000000 in
set_option maxRecDepth 100000 in
theorem make5_any (a0 : Option Addr) (len0 cap0 : Nat) (ns : List Int) (w : World) (hl : ns.length = len0) (hlen : len0 ≤ 9223372036854775807) (hin : ∀ x ∈ ns, -9223372036854775808 ≤ x ∧ x ≤ 9223372036854775807) (hc : CellsAt w w.heap.size a0 len0 (i64c ns)) :
 Calls Tryz.prog 12 #[.slice a0 len0 cap0] w (GaveS w) := by
 have Hl := Lib.hid hl; have Hin := Lib.hid hin; have Hc := Lib.hid hc
 obtain ⟨N, hN⟩ : ∃ N, N = min len0 12 := ⟨_, rfl⟩
 have HN := Lib.hid hN
 have hN12 : N ≤ 12 := by omega
 clear hl hin hc hN
 have HS0 := Lib.hid (own_litG w #[.string ⟨#[109]⟩, .int .i64 0, .int .i64 0, .int .i64 0] 83 4 1 rfl (by decide))
 have hO0 := own_litG (w.alloc (.cells #[.string ⟨#[109]⟩, .int .i64 0, .int .i64 0, .int .i64 0] 83)) #[.int .i64 0] 3 1 1 rfl (by decide)
 have hO1 := own_base hO0 (balloc (Below.refl w.heap.size w) _).size
 rw [show (w.alloc (.cells #[.string ⟨#[109]⟩, .int .i64 0, .int .i64 0, .int .i64 0] 83)).heap.size = w.heap.size + 1 from by simp] at hO1
 have HO0 := Lib.hid hO1
 clear hO0 hO1
 obtain ⟨w1, hw1⟩ : ∃ x, x = (w.alloc (.cells #[.string ⟨#[109]⟩, .int .i64 0, .int .i64 0, .int .i64 0] 83)).alloc (.cells #[.int .i64 0] 3) := ⟨_, rfl⟩
 have Hb1 : Hid (Below w.heap.size w w1) := Lib.hid (by rw [hw1]; exact balloc (balloc (Below.refl _ _) _) _)
 go_enter Tryz.func12, Tryz.ntmps12
 go_wp2
 rw [← hw1]
 go_loopw [3, 4, 5] (fun s o i x => ∃ (j m gS capS gO capO : Nat) (F : List Fd) (P dep : Nat → Nat) (anc : Nat → Nat → Nat), j ≤ N ∧ s = .slice (some ⟨gS, 0, none⟩) (j + 1) capS ∧ o = .slice (some ⟨gO, 0, none⟩) m capO ∧ i = .int .i64 (j : Nat) ∧ Hid (F.length = j + 1) ∧ Hid (MkS F P dep anc m) ∧
  Hid (x.ownsRow w.heap.size 83 4 (.slice (some ⟨gS, 0, none⟩) (j + 1) capS) (j + 1) (wcs fdV F)) ∧ Hid (x.ownsRow w.heap.size 3 1 (.slice (some ⟨gO, 0, none⟩) m capO) m (i64v (openL anc (j + 1) m))) ∧ Hid (Below w.heap.size w x)) (fun _ _ i _ => N - (intOf i).toNat)
 case atStart =>
  refine ⟨0, 1, _, _, _, _, _, _, _, _, Nat.zero_le _, rfl, rfl, rfl, Lib.hid rfl, Lib.hid (MkS.start ⟨#[109]⟩), ?_, ?_, Hb1⟩
  · rw [hw1]; exact Lib.hid (HS0.out.alloc _)
  · rw [hw1]; exact HO0
 case round =>
  clear HS0 HO0 hw1 Hb1
  obtain ⟨j, m, gS, capS, gO, capO, F, P, dep, anc, hj, rfl, rfl, rfl, HF, HM, HS, HO, HB⟩ := hrel
  obtain ⟨x, hxx⟩ : ∃ x, x = wr := ⟨_, rfl⟩
  subst hxx
  by_cases hjn : j < N
  · have hjl : j < len0 := by have := HN.out; omega
    have e1 : (j : Int) < (len0 : Int) := by omega
    have e2 : (j : Int) < 12 := by omega
    have e3 : (0 : Int) ≤ (j : Int) := by omega
    obtain ⟨b, off, rfl, hb, hcj⟩ := Hc.out j hjl
    have hcj := (HB.out.cell (by exact hb)).trans hcj
    obtain ⟨p, hp⟩ : ∃ p, p = ns.getD j 0 := ⟨_, rfl⟩
    rw [i64c, ← hp] at hcj
    have hpin : -9223372036854775808 ≤ p ∧ p ≤ 9223372036854775807 := by
     rw [hp, List.getD_eq_getElem?_getD, List.getElem?_eq_getElem (by rw [Hl.out]; exact hjl)]
     exact Hin.out _ (List.getElem_mem _)
    obtain ⟨hp1, hp2⟩ := hpin
    have Hp64 := Lib.hid (tdivk' p 64 (by decide) ⟨hp1, hp2⟩)
    have Hp8 := Lib.hid (tdivk' p 8 (by decide) ⟨hp1, hp2⟩)
    obtain ⟨q, hq, hq3⟩ := modN' (p.tdiv 64) 3 (by decide)
    have Hq : Hid (p.tdiv 64 % 3 = (q : Int)) := Lib.hid hq
    clear hq hp
    go_upto_block 2 with (go_at_call 36; refine (within5_any (p.tdiv 64) 3 _ (by omega) (by omega) Hp64.out.1 Hp64.out.2).mono ?_; rw [Hq.out]; rintro e x4 ⟨rfl, rfl⟩)
    go_cut [4] (fun o wx => ∃ mm : Nat, o = .slice (some ⟨gO, 0, none⟩) mm capO ∧ Hid (MkS F P dep anc mm) ∧ Hid (x.ownsRow w.heap.size 3 1 (.slice (some ⟨gO, 0, none⟩) mm capO) mm (i64v (openL anc (j + 1) mm))) ∧ wx = x)
    case first =>
     go_wp2
     go_loopw [4, 6] (fun o kv wx => ∃ mm kk : Nat, o = .slice (some ⟨gO, 0, none⟩) mm capO ∧ kv = .int .i64 (kk : Nat) ∧ kk < 3 ∧ Hid (MkS F P dep anc mm) ∧ Hid (x.ownsRow w.heap.size 3 1 (.slice (some ⟨gO, 0, none⟩) mm capO) mm (i64v (openL anc (j + 1) mm))) ∧ wx = x) (fun _ kv _ => (intOf kv).toNat)
     case atStart => exact ⟨m, q, rfl, rfl, hq3, HM, HO, rfl⟩
     case round =>
      clear HM HO hq3 Hq
      obtain ⟨mm, kk, rfl, rfl, hk3, HM, HO, hwx⟩ := hrel
      have hxw := hwx.symm
      subst hxw
      clear hwx
      obtain ⟨t1, t2, t3⟩ := HM.out.top_lt
      obtain ⟨m1, m5⟩ : 1 ≤ mm ∧ mm ≤ 5 := ⟨HM.out.m1, HM.out.m5⟩
      obtain ⟨u, rfl⟩ : ∃ u, mm = u + 1 := ⟨mm - 1, by omega⟩
      by_cases hk0 : kk = 0
      · subst hk0
        have Hq1 := Lib.hid m5
        clear t1 t2 t3 m1 m5 hk3
        go_wp2
        go_meet
        exact ⟨u + 1, rfl, HM, HO, rfl⟩
      · obtain ⟨k2, rfl⟩ : ∃ k2, kk = k2 + 1 := ⟨kk - 1, by omega⟩
        have f1 : (0 : Int) < ((k2 + 1 : Nat) : Int) := by omega
        by_cases hu : u = 0
        · subst hu
          go_wp2
          go_meet
          exact ⟨0 + 1, rfl, HM, HO, rfl⟩
        · obtain ⟨T, hT⟩ : ∃ T, T = topS F anc (u + 1) := ⟨_, rfl⟩
          have hTu : T = anc j u := by rw [hT]; unfold topS; rw [HF.out]; rfl
          have cO : x.cell? ⟨gO, u, none⟩ = some (.int .i64 (T : Nat)) := by
           rw [own_ci HO.out u (by omega), openL_at _ _ _ _ (by omega), hTu]; rfl
          have hTj : T < j + 1 := by rw [hT, ← HF.out]; exact t1
          obtain ⟨K, hK⟩ : ∃ K, K = (fAt F T).kids := ⟨_, rfl⟩
          have cK : x.cell? ⟨gS, T * 4 + 3, none⟩ = some (.int .i64 (K : Nat)) := by
           rw [own_cw fdV_length HS.out fd0 HF.out T 3 hTj (by decide), hK]; rfl
          have f2 : (1 : Int) < ((u + 1 : Nat) : Int) := by omega
          have f3 : (0 : Int) ≤ (T : Int) := by omega
          have f4 : (T : Int) < ((j + 1 : Nat) : Int) := by omega
          have f5 : (u : Int) ≤ (capO : Int) := by have := own_capG HO.out; omega
          have f6 : (0 : Int) < (u : Int) := by omega
          have HK := Lib.hid hK; have HT := Lib.hid hT; have Hu := Lib.hid hu
          clear hT hTu hTj hK t1 t2 t3 m1 hu hk0
          by_cases hK0 : K = 0
          · have f7 : ((K : Int) == 0) = true := by rw [beq_iff_eq]; omega
            have f8 : ¬ (0 : Int) < (K : Int) := by omega
            clear hK0
            go_wp2
            go_meet
            exact ⟨u + 1, rfl, HM, HO, rfl⟩
          · have f8 : (0 : Int) < (K : Int) := by omega
            have HM2 : Hid (MkS F P dep anc u) := Lib.hid (by
             have := HM.out.pop (by have := Hu.out; omega) (by rw [← HT.out, ← HK.out]; omega)
             exact this)
            have HO2 : Hid (x.ownsRow w.heap.size 3 1 (.slice (some ⟨gO, 0, none⟩) u capO) u (i64v (openL anc (j + 1) u))) := Lib.hid (by
             have h := own_front HO.out (k := u) (by omega)
             rw [show (i64v (openL anc (j + 1) (u + 1))).take u = i64v (openL anc (j + 1) u) by
              have := openL_take anc (j + 1) (u + 1)
              rw [Nat.add_sub_cancel] at this
              rw [← this]; simp only [i64v, List.map_take]] at h
             exact h)
            clear hK0 HM HO
            go_wp2
            go_roundw
            case rel => exact ⟨u, k2, rfl, by go_num, by omega, HM2, HO2, trivial⟩
            case measure => simp [intOf]
    case rest =>
     clear HM HO hq3 Hq
     obtain ⟨mm, rfl, HM, HO, hwx⟩ := hcut
     have hxw := hwx.symm
     subst hxw
     clear hwx
     obtain ⟨r3, hr, hr3⟩ := modN' (p.tdiv 8) 3 (by decide)
     have Hr : Hid (p.tdiv 8 % 3 = (r3 : Int)) := Lib.hid hr
     obtain ⟨k8, hk, hk8⟩ := modN' p 8 (by decide)
     have Hk8 : Hid (p % 8 = (k8 : Int)) := Lib.hid hk
     obtain ⟨k5, hk5⟩ : ∃ k5, k5 = k8 % 5 := ⟨_, rfl⟩
     have hm5 : (k8 : Int).tmod 5 = (k5 : Int) := by rw [Int.tmod_eq_emod_of_nonneg (by omega)]; omega
     have hk54 : k5 ≤ 4 := by omega
     have hw97 : IntKind.u8.wrap (97 + (j : Int)) = ((97 + j : Nat) : Int) := by simp [IntKind.wrap, IntKind.bits, IntKind.signed]; omega
     have hc8 : ∀ w', Grows x.drew w' → w'.cell? ⟨b, off + j, none⟩ = some (.int .i64 p) := fun w' hg => (Grows.cell (Grows.toDrew hg) hcj)
     have hw0 : IntKind.i64.wrap (97 + (j : Int)) = 97 + (j : Int) := IntWalk.i64_in _ (by omega)
     have hd8 : IntKind.i64.wrap (p.tdiv 8) = p.tdiv 8 := IntWalk.i64_in _ (by have := Hp8.out; omega)
     clear hr hk hk5
     go_upto_region 11 with fail
     go_cut [7] (fun fv wx => ∃ gf : Nat, fv = .pointer (some ⟨gf, 0, none⟩) ∧ x.heap.size ≤ gf ∧ gf < wx.heap.size ∧ wx.cell? ⟨gf, 0, none⟩ = some (.string (strOf [97 + j])) ∧ wx.cell? ⟨gf, 1, none⟩ = some (.int .i64 (r3 : Nat)) ∧ wx.cell? ⟨gf, 2, none⟩ = some (.int .i64 (k5 : Nat)) ∧ wx.cell? ⟨gf, 3, none⟩ = some (.int .i64 0) ∧ wx.frozen? ⟨gf, 2, none⟩ = false ∧ Hid (Below x.heap.size x wx))
     case first =>
      refine wp_region_linR Grows ⟨Grows.refl, Grows.trans⟩ (.take 0 (.take 1 (.take 2 (.take 5 (.take 6 (.take 7 (.take 8 (.take 9 (.take 10 (.take 11 (.take 12 (.take 13 (.take 14 (.take 15 (.take 16 (.two 3 (.take 4 (.take 17 (.one 18 (.one 19 (.done))))) 18 (.one 3 (.take 4 (.take 17 (.one 19 (.done))))))))))))))))))))) [19] (by kernel_rfl) (by kernel_rfl) (fun d _ _ _ _ h => by cases d <;> exact h) ?_
      iterate 8 (first
       | (refine wpLinR_skip rfl rfl (fun K hK => ?_); go_simp; refine hK _ ?_; clear hK K)
       | (refine wpLinR_take (v := ?_) rfl rfl (fun w' hw' => ?_) (fun K hK => ?_); rotate_left; (go_simp; rfl); (go_simp; refine hK _ ?_; clear hK K)))
      refine wpLinR_take (v := .int .i64 (r3 : Nat)) rfl rfl (fun w' hw' => ?_) (fun K hK => ?_)
      · go_simp
        refine (within5_any (p.tdiv 8) 3 _ (by omega) (by omega) Hp8.out.1 Hp8.out.2).mono ?_
        rw [Hr.out]; rintro e x4 ⟨rfl, rfl⟩
        exact ⟨rfl, rfl⟩
      go_simp; refine hK _ ?_; clear hK K
      iterate 4 (first
       | (refine wpLinR_take (v := ?_) rfl rfl (fun w' hw' => ?_) (fun K hK => ?_); rotate_left; (go_simp; rfl); (go_simp; refine hK _ ?_; clear hK K)))
      refine wpLinR_take (v := .int .i64 (k8 : Nat)) rfl rfl (fun w' hw' => ?_) (fun K hK => ?_)
      · go_simp
        refine (within5_any p 8 _ (by omega) (by omega) hp1 hp2).mono ?_
        rw [Hk8.out]; rintro e x4 ⟨rfl, rfl⟩
        exact ⟨rfl, rfl⟩
      go_simp; refine hK _ ?_; clear hK K
      refine wpLinR_take (v := .int .i64 (k5 : Nat)) rfl rfl (fun w' hw' => ?_) (fun K hK => ?_)
      · go_simp
      go_simp; refine hK _ ?_; clear hK K
      refine wpLinR_two rfl rfl (fun K hK => ?_) (fun K hK => ?_)
      · go_simp
        refine hK _ _ (.inr ((Grows.refl _).alloc _)) ?_; clear hK K
        have hcv : ∀ w', Grows (x.drew.alloc (.cells #[.int .u8 (97 + (j : Int))] 5)) w' → (convert 24 9 (.slice (some ⟨x.heap.size, 0, none⟩) 1 1)).run Tryz.prog w' = .ok (.string (strOf [97 + j])) w' :=
         conv_grown (cap := 1) (l := [97 + j]) rfl (cells_byte x.drew (97 + (j : Int)) (97 + j) rfl) (fun h => by cases h)
        refine wpLinR_take (v := .string (strOf [97 + j])) rfl rfl (fun w' hw' => ?_) (fun K hK => ?_)
        · go_simp
          rw [hcv w' hw']
          exact ⟨rfl, rfl⟩
        go_simp; refine hK _ ?_; clear hK K hcv
        refine wpLinR_take (v := ?_) rfl rfl (fun w' hw' => ?_) (fun K hK => ?_)
        rotate_left
        · go_simp; rfl
        go_simp; refine hK _ ?_; clear hK K
        refine wpLinR_one rfl (fun K hK => ?_)
        go_simp
        refine hK _ _ (.inr ((Grows.refl _).alloc _)) ?_; clear hK K
        refine wpLinR_one rfl (fun K hK => ?_)
        go_simp
        refine hK _ _ (.inl (by decide)) ?_; clear hK K
        refine wpLinR_nil ?_
        go_wp2
        go_meet
        exact ⟨_, rfl, by simp, by simp, by simp [go_sem], by simp [go_sem], by simp [go_sem], by simp [go_sem], by simp [go_sem], Lib.hid (Below.drew (balloc (balloc (Below.refl _ _) _) _))⟩
      · go_simp
        refine hK _ _ (.inr ((Grows.refl _).alloc _)) ?_; clear hK K
        refine wpLinR_one rfl (fun K hK => ?_)
        go_simp
        refine hK _ _ (.inr ((Grows.refl _).alloc _)) ?_; clear hK K
        have hcv : ∀ w', Grows ((x.drew.alloc (.cells #[.string ByteArray.empty, .int .i64 0, .int .i64 0, .int .i64 0] 83)).alloc (.cells #[.int .u8 (97 + (j : Int))] 5)) w' → (convert 24 9 (.slice (some ⟨x.heap.size + 1, 0, none⟩) 1 1)).run Tryz.prog w' = .ok (.string (strOf [97 + j])) w' := by
         have h := conv_grown (cap := 1) (l := [97 + j]) rfl (cells_byte (x.drew.alloc (.cells #[.string ByteArray.empty, .int .i64 0, .int .i64 0, .int .i64 0] 83)) (97 + (j : Int)) (97 + j) rfl) (fun h => by cases h)
         rw [show (x.drew.alloc (.cells #[.string ByteArray.empty, .int .i64 0, .int .i64 0, .int .i64 0] 83)).heap.size = x.heap.size + 1 from by simp] at h
         exact h
        refine wpLinR_take (v := .string (strOf [97 + j])) rfl rfl (fun w' hw' => ?_) (fun K hK => ?_)
        · go_simp
          rw [hcv w' hw']
          exact ⟨rfl, rfl⟩
        go_simp; refine hK _ ?_; clear hK K hcv
        refine wpLinR_take (v := ?_) rfl rfl (fun w' hw' => ?_) (fun K hK => ?_)
        rotate_left
        · go_simp; rfl
        go_simp; refine hK _ ?_; clear hK K
        refine wpLinR_one rfl (fun K hK => ?_)
        go_simp
        refine hK _ _ (.inl (by decide)) ?_; clear hK K
        refine wpLinR_nil ?_
        go_wp2
        go_meet
        exact ⟨_, rfl, by simp, by simp; omega, by simp [go_sem], by simp [go_sem], by simp [go_sem], by simp [go_sem], by simp [go_sem], Lib.hid (Below.drew (balloc (balloc (Below.refl _ _) _) _))⟩
     case rest =>
      clear hcj hc8 hp1 hp2 Hp64 Hp8 Hr Hk8 hm5 hw97 hw0 hd8 hk8
      obtain ⟨gf, rfl, hgx, hgw, c0, c1, c2, c3, hfr, HBx⟩ := hcut
      have HS2 := Lib.hid (own_below HS.out HBx.out)
      have HO2 := Lib.hid (own_below HO.out HBx.out)
      have HB2 := Lib.hid (HB.out.trans (HBx.out.mono HB.out.size))
      have hgS := (HS.out.lt gS rfl).2
      have hgO := (HO.out.lt gO rfl).2
      have hwx : w.heap.size ≤ x.heap.size := HB.out.size
      clear HS HO HB HBx
      obtain ⟨xr, hxr⟩ : ∃ y, y = wc := ⟨_, rfl⟩
      subst hxr
      go_upto_region 11 with fail
      go_cut [79] (fun v wy => v = .bool (decide (4 < mm ∧ k5 = 0)) ∧ wy = xr)
      case first =>
       by_cases hm4 : 4 < mm
       · have f1 : (4 : Int) < (mm : Int) := by omega
         by_cases hk0 : k5 = 0
         · subst hk0
           go_wp2
           go_meet
           exact ⟨by rw [decide_eq_true (show 4 < mm ∧ True from ⟨hm4, trivial⟩)], rfl⟩
         · have f2 : ((k5 : Int) == 0) = false := by rw [beq_eq_false_iff_ne]; omega
           have f3 : decide ((k5 : Int) = 0) = false := decide_eq_false (by omega)
           have f4 : ¬ (k5 : Int) = 0 := by omega
           go_wp2
           go_meet
           exact ⟨by rw [decide_eq_false (show ¬ (4 < mm ∧ k5 = 0) from fun h => hk0 h.2)], rfl⟩
       · have f1 : ¬ (4 : Int) < (mm : Int) := by omega
         go_wp2
         go_meet
         exact ⟨by rw [decide_eq_false (show ¬ (4 < mm ∧ k5 = 0) from fun h => hm4 h.1)], rfl⟩
      case rest =>
      obtain ⟨rfl, hwx2⟩ := hcut
      have hxw2 := hwx2.symm
      subst hxw2
      clear hwx2
      go_upto_if 79 with fail
      go_cut [7] (fun fv wy => ∃ kd : Nat, kd ≤ 4 ∧ (kd = 0 → mm ≤ 4) ∧ fv = .pointer (some ⟨gf, 0, none⟩) ∧ gf < wy.heap.size ∧ wy.cell? ⟨gf, 0, none⟩ = some (.string (strOf [97 + j])) ∧ wy.cell? ⟨gf, 1, none⟩ = some (.int .i64 (r3 : Nat)) ∧ wy.cell? ⟨gf, 2, none⟩ = some (.int .i64 (kd : Nat)) ∧ wy.cell? ⟨gf, 3, none⟩ = some (.int .i64 0) ∧
       Hid (wy.ownsRow w.heap.size 83 4 (.slice (some ⟨gS, 0, none⟩) (j + 1) capS) (j + 1) (wcs fdV F)) ∧ Hid (wy.ownsRow w.heap.size 3 1 (.slice (some ⟨gO, 0, none⟩) mm capO) mm (i64v (openL anc (j + 1) mm))) ∧ Hid (Below w.heap.size w wy))
      case first =>
       by_cases hb : 4 < mm ∧ k5 = 0
       · rw [decide_eq_true hb]
         obtain ⟨hm4, rfl⟩ := hb
         go_wp2
         go_meet
         have hne1 : some gS ≠ some gf := by simp; omega
         have hne2 : some gO ≠ some gf := by simp; omega
         refine ⟨2, by decide, fun h => by omega, rfl, by simpa using hgw, ?_, ?_, ?_, ?_, ?_, ?_, ?_⟩
         · exact cell_set_ne (by simp) c0
         · exact cell_set_ne (by simp) c1
         · exact cell_set_eq c2
         · exact cell_set_ne (by simp) c3
         · exact Lib.hid (ownsRow_setCell_other HS2.out (by simpa [Value.ownBlock] using hne1) _)
         · exact Lib.hid (ownsRow_setCell_other HO2.out (by simpa [Value.ownBlock] using hne2) _)
         · exact Lib.hid (HB2.out.setCell (by show _ ≤ gf; omega) _)
       · rw [decide_eq_false hb]
         go_wp2
         go_meet
         exact ⟨k5, hk54, fun h => by omega, rfl, hgw, c0, c1, c2, c3, HS2, HO2, HB2⟩
      case rest =>
       clear c0 c1 c2 c3 hfr HS2 HO2 HB2 hgw
       obtain ⟨kd, hkd4, hkdm, rfl, hgw, c0, c1, c2, c3, HS, HO, HB⟩ := hcut
       obtain ⟨y, hyy⟩ : ∃ y, y = wc := ⟨_, rfl⟩
       subst hyy
       obtain ⟨u, rfl⟩ : ∃ u, mm = u + 1 := ⟨mm - 1, by have := HM.out.m1; omega⟩
       obtain ⟨t1, t2, t3⟩ := HM.out.top_lt
       have hm5 := HM.out.m5
       obtain ⟨T, hT⟩ : ∃ T, T = topS F anc (u + 1) := ⟨_, rfl⟩
       have hTu : T = anc j u := by rw [hT]; unfold topS; rw [HF.out]; rfl
       have cO : y.cell? ⟨gO, u, none⟩ = some (.int .i64 (T : Nat)) := by
        rw [own_ci HO.out u (by omega), openL_at _ _ _ _ (by omega), hTu]; rfl
       have hTj : T < j + 1 := by rw [hT, ← HF.out]; exact t1
       obtain ⟨K, hK⟩ : ∃ K, K = (fAt F T).kids := ⟨_, rfl⟩
       have cK : y.cell? ⟨gS, T * 4 + 3, none⟩ = some (.int .i64 (K : Nat)) := by
        rw [own_cw fdV_length HS.out fd0 HF.out T 3 hTj (by decide), hK]; rfl
       have hfS := HS.out.frozenAt (T * 4 + 3)
       have f3 : (0 : Int) ≤ (T : Int) := by omega
       have f4 : (T : Int) < ((j + 1 : Nat) : Int) := by omega
       have hKs : K ≤ 14 := by
        rw [hK, HM.out.kids T (by rw [HF.out]; exact hTj)]
        split
        · have := cntTo_le P T F.length; rw [HF.out] at this ⊢; omega
        · omega
       have hset := own_wset fdV_length HS.out fd0 HF.out T 3 hTj (by decide) (.int .i64 ((K : Int) + 1)) { fAt F T with kids := K + 1 } (by rw [hK]; rfl)
       have HS1 := Lib.hid hset.1
       have HO1 := Lib.hid (ownsRow_setCell_other HO.out (a := ⟨gS, T * 4 + 3, none⟩) (by simp [Value.ownBlock]; rintro rfl; have h1 := own_type HO.out rfl; have h2 := own_type HS.out rfl; obtain ⟨_, h1⟩ := h1; obtain ⟨_, h2⟩ := h2; rw [h1] at h2; simp at h2) (.int .i64 ((K : Int) + 1)))
       have d0 : (y.setCell ⟨gS, T * 4 + 3, none⟩ (.int .i64 ((K : Int) + 1))).cell? ⟨gf, 0, none⟩ = some (.string (strOf [97 + j])) := by rw [World.cell?_setCell_far _ _ _ _ (by show gS ≠ gf; omega)]; exact c0
       have d1 : (y.setCell ⟨gS, T * 4 + 3, none⟩ (.int .i64 ((K : Int) + 1))).cell? ⟨gf, 1, none⟩ = some (.int .i64 (r3 : Nat)) := by rw [World.cell?_setCell_far _ _ _ _ (by show gS ≠ gf; omega)]; exact c1
       have d2 : (y.setCell ⟨gS, T * 4 + 3, none⟩ (.int .i64 ((K : Int) + 1))).cell? ⟨gf, 2, none⟩ = some (.int .i64 (kd : Nat)) := by rw [World.cell?_setCell_far _ _ _ _ (by show gS ≠ gf; omega)]; exact c2
       have d3 : (y.setCell ⟨gS, T * 4 + 3, none⟩ (.int .i64 ((K : Int) + 1))).cell? ⟨gf, 3, none⟩ = some (.int .i64 0) := by rw [World.cell?_setCell_far _ _ _ _ (by show gS ≠ gf; omega)]; exact c3
       have HB1 := Lib.hid (HB.out.setCell (p := ⟨gS, T * 4 + 3, none⟩) (HS.out.lt gS rfl).1 (.int .i64 ((K : Int) + 1)))
       have hgw1 : gf < (y.setCell ⟨gS, T * 4 + 3, none⟩ (.int .i64 ((K : Int) + 1))).heap.size := by simpa using hgw
       obtain ⟨y1, hy1⟩ : ∃ z, z = y.setCell ⟨gS, T * 4 + 3, none⟩ (.int .i64 ((K : Int) + 1)) := ⟨_, rfl⟩
       rw [← hy1] at HS1 HO1 d0 d1 d2 d3 HB1 hgw1
       have HK := Lib.hid hK; have HT := Lib.hid hT
       have hFset : Hid (F.set T { fAt F T with kids := K + 1 } ++ [⟨strOf [97 + j], r3, kd, 0⟩] = addF F (topS F anc (u + 1)) ⟨strOf [97 + j], r3, kd, 0⟩) := Lib.hid (by
        unfold addF; rw [← HT.out, ← HK.out])
       clear hset hT hTu hTj hK t1 t2 t3 hgw c0 c1 c2 c3 HS HO HB
       go_upto_region 14 with fail
       rw [← hy1]
       clear hy1 cO cK hfS
       have hb1 : w.heap.size ≤ (y1.alloc (.cells #[.string (strOf [97 + j]), .int .i64 (r3 : Nat), .int .i64 (kd : Nat), .int .i64 0] 83)).heap.size := Nat.le_trans HB1.out.size (by simp)
       go_wp2_with (at_builtin; refine wpList_append_all sl_fd rfl (.tmp 94) (.tmp 96) rfl rfl (HS1.out.alloc (.cells #[.string (strOf [97 + j]), .int .i64 (r3 : Nat), .int .i64 (kd : Nat), .int .i64 0] 83)) rfl (cells_lit y1 83 fdV 4 fdV_length ⟨strOf [97 + j], r3, kd, 0⟩ #[.string (strOf [97 + j]), .int .i64 (r3 : Nat), .int .i64 (kd : Nat), .int .i64 0] rfl) (fun h => by cases h) (wc_one fdV [⟨strOf [97 + j], r3, kd, 0⟩] 4 1 fdV_length rfl (fun x _ v hv => fdV_one x v hv)) (by unfold maxLen; omega) (by omega) hb1 ?_)
       intro v' y2 ho2 hg2
       have ho2 : y2.ownsRow w.heap.size 83 4 v' (j + 1 + 1) (wcs fdV (F.set T { fAt F T with kids := K + 1 }) ++ (List.range (1 * 4)).map (wc fdV [⟨strOf [97 + j], r3, kd, 0⟩])) := ho2
       rw [wcs_snoc fdV 4 fdV_length, hFset.out] at ho2
       obtain ⟨gS2, capS2, rfl, hgS2, hcS2⟩ := own_shapeG (by omega) ho2
       have HO2 := Lib.hid ((HO1.out.alloc (.cells #[.string (strOf [97 + j]), .int .i64 (r3 : Nat), .int .i64 (kd : Nat), .int .i64 0] 83)).kept hg2 (own_apartT HO1.out HS1.out (by decide)))
       have hz1 := balloc (Below.refl y1.heap.size y1) (.cells #[.string (strOf [97 + j]), .int .i64 (r3 : Nat), .int .i64 (kd : Nat), .int .i64 0] 83)
       have e2 : y2.cell? ⟨gf, 2, none⟩ = some (.int .i64 (kd : Nat)) := hg2.cell ((hz1.cell (p := ⟨gf, 2, none⟩) hgw1).trans d2) (by simp only [Value.ownBlock, ne_eq, Option.some.injEq]; omega)
       clear hz1
       have HB3 := Lib.hid ((HB1.out.alloc HB1.out.size (.cells #[.string (strOf [97 + j]), .int .i64 (r3 : Nat), .int .i64 (kd : Nat), .int .i64 0] 83)).grown hg2 hb1 (fun k hk => (HS1.out.lt k hk).1))
       have HS3 := Lib.hid ho2
       obtain ⟨P', dep', anc', hM', hL'⟩ := HM.out.add ⟨strOf [97 + j], r3, kd, 0⟩ rfl hkd4 (by show r3 ≤ 2; omega) hkdm
       have hFl : Hid ((addF F (topS F anc (u + 1)) ⟨strOf [97 + j], r3, kd, 0⟩).length = j + 1 + 1) := Lib.hid (by rw [addF_length, HF.out])
       rw [HF.out] at hL'
       have HM3 := Lib.hid hM'; have HL3 := Lib.hid hL'
       obtain ⟨F', hF'⟩ : ∃ F', F' = addF F (topS F anc (u + 1)) ⟨strOf [97 + j], r3, kd, 0⟩ := ⟨_, rfl⟩
       rw [← hF'] at HM3 hFl HS3
       clear ho2 hg2 d0 d1 d2 d3 hM' hL' hF' HS1 HO1 HB1 hgw1 hFset HM HF HK HT
       by_cases hkd : kd = 0
       · subst hkd
         simp only [if_pos] at HM3 HL3
         have f7 : (((j + 1 + 1 : Nat) : Int) - 1) = ((j + 1 : Nat) : Int) := by omega
         have hownA := own_below HO2.out ((Below.refl _ _).alloc (Nat.le_refl _) (.cells #[.int .i64 ((j : Int) + 1)] 3))
         have hsA : w.heap.size ≤ (y2.alloc (.cells #[.int .i64 ((j : Int) + 1)] 3)).heap.size := Nat.le_trans HB3.out.size (by simp)
         go_wp2_with (at_builtin; refine wpList_append_all1 sl_i64' rfl (.tmp 101) (.tmp 105) rfl rfl hownA rfl (cells_one y2 3 (.int .i64 ((j : Int) + 1))) (fun h => by cases h) (fun _ _ => rfl) (by unfold maxLen; omega) (by omega) hsA ?_)
         intro v' y3 ho3 hg3
         obtain ⟨gO3, capO3, rfl, hgO3, hcO3⟩ := own_shapeG (by omega) ho3
         have HO4 : Hid (y3.ownsRow w.heap.size 3 1 (.slice (some ⟨gO3, 0, none⟩) (u + 1 + 1) capO3) (u + 1 + 1) (i64v (openL anc' (j + 1 + 1) (u + 1 + 1)))) := Lib.hid (by
          rw [HL3.out, ← i64v_append]
          exact ho3)
         have HS4 := Lib.hid ((HS3.out.alloc (.cells #[.int .i64 ((j : Int) + 1)] 3)).kept hg3 (own_apartT HS3.out HO2.out (by decide)))
         have HB4 := Lib.hid ((HB3.out.alloc HB3.out.size (.cells #[.int .i64 ((j : Int) + 1)] 3)).grown hg3 hsA (fun k hk => (hownA.lt k hk).1))
         clear ho3 hg3 hownA hsA HS3 HO2 HB3 HL3 e2
         go_wp2
         go_roundw
         case rel => exact ⟨j + 1, u + 1 + 1, gS2, capS2, gO3, capO3, F', P', dep', anc', by omega, rfl, rfl, by go_num, hFl, HM3, HS4, HO4, HB4⟩
         case measure => simp [intOf]; omega
       · have f7 : ((kd : Int) == 0) = false := by rw [beq_eq_false_iff_ne]; omega
         have f8 : decide ((kd : Int) = 0) = false := decide_eq_false (by omega)
         have f9 : ¬ (kd : Int) = 0 := by omega
         simp only [if_neg hkd] at HM3 HL3
         have HO3 : Hid (y2.ownsRow w.heap.size 3 1 (.slice (some ⟨gO, 0, none⟩) (u + 1) capO) (u + 1) (i64v (openL anc' (j + 1 + 1) (u + 1)))) := Lib.hid (by rw [HL3.out]; exact HO2.out)
         go_wp2
         go_roundw
         case rel => exact ⟨j + 1, u + 1, gS2, capS2, gO, capO, F', P', dep', anc', by omega, rfl, rfl, by go_num, hFl, HM3, HS3, HO3, HB3⟩
         case measure => simp [intOf]; omega
  · obtain rfl : j = N := by omega
    have hcase : ¬ (j : Int) < (len0 : Int) ∨ ((j : Int) < (len0 : Int) ∧ ¬ (j : Int) < 12) := by have := HN.out; omega
    obtain ⟨u, rfl⟩ : ∃ u, m = u + 1 := ⟨m - 1, by have := HM.out.m1; omega⟩
    obtain ⟨t1, t2, t3⟩ := HM.out.top_lt
    have hm5 := HM.out.m5
    obtain ⟨T, hT⟩ : ∃ T, T = topS F anc (u + 1) := ⟨_, rfl⟩
    have hTu : T = anc j u := by rw [hT]; unfold topS; rw [HF.out]; rfl
    have cO : x.cell? ⟨gO, u, none⟩ = some (.int .i64 (T : Nat)) := by
     rw [own_ci HO.out u (by omega), openL_at _ _ _ _ (by omega), hTu]; rfl
    have hTj : T < j + 1 := by rw [hT, ← HF.out]; exact t1
    obtain ⟨K, hK⟩ : ∃ K, K = (fAt F T).kids := ⟨_, rfl⟩
    have cK : x.cell? ⟨gS, T * 4 + 3, none⟩ = some (.int .i64 (K : Nat)) := by
     rw [own_cw fdV_length HS.out fd0 HF.out T 3 hTj (by decide), hK]; rfl
    have hfS := HS.out.frozenAt (T * 4 + 3)
    have f3 : (0 : Int) ≤ (T : Int) := by omega
    have f4 : (T : Int) < ((j + 1 : Nat) : Int) := by omega
    have HK := Lib.hid hK; have HT := Lib.hid hT
    clear hT hTu hK t1 t2 t3
    by_cases hK0 : K = 0
    · subst hK0
      have hset := own_wset fdV_length HS.out fd0 HF.out T 3 hTj (by decide) (.int .i64 1) { fAt F T with kids := 0 + 1 } (by rfl)
      have HS1 := Lib.hid hset.1
      have HB1 := Lib.hid (HB.out.setCell (p := ⟨gS, T * 4 + 3, none⟩) (HS.out.lt gS rfl).1 (.int .i64 1))
      obtain ⟨y1, hy1⟩ : ∃ z, z = x.setCell ⟨gS, T * 4 + 3, none⟩ (.int .i64 1) := ⟨_, rfl⟩
      rw [← hy1] at HS1 HB1
      obtain ⟨P', dep', anc', hM', hL'⟩ := HM.out.add ⟨⟨#[122]⟩, 0, 4, 0⟩ rfl (by decide) (by decide) (fun h => by cases h)
      have hFl : Hid ((addF F (topS F anc (u + 1)) ⟨⟨#[122]⟩, 0, 4, 0⟩).length = j + 1 + 1) := Lib.hid (by rw [addF_length, HF.out])
      have hfin : Hid (FinS (addF F (topS F anc (u + 1)) ⟨⟨#[122]⟩, 0, 4, 0⟩) P' dep' anc') := Lib.hid (by
       refine hM'.fin ?_ (by rw [hFl.out]; omega)
       have hpos := HM.out.pos
       have ht := HM.out.top_lt.1
       have e : topS (addF F (topS F anc (u + 1)) ⟨⟨#[122]⟩, 0, 4, 0⟩) anc' (u + 1) = topS F anc (u + 1) := by
        have h1 : (openL anc' (F.length + 1) (u + 1)).getD u 0 = (openL anc F.length (u + 1)).getD u 0 := by
         have h2 := hL'
         simp only [show ¬ ((4 : Nat) = 0) by decide, if_false] at h2
         rw [h2]
        rw [openL_at _ _ _ _ (by omega), openL_at _ _ _ _ (by omega)] at h1
        unfold topS
        rw [addF_length]
        exact_mod_cast h1
       rw [show (if (Fd.kind ⟨⟨#[122]⟩, 0, 4, 0⟩) = 0 then u + 1 + 1 else u + 1) = u + 1 from rfl, e, fAt_add _ _ _ ht _ (by omega), if_neg (by omega), if_pos rfl]
       exact Nat.succ_pos _)
      have hFset : Hid (F.set T { fAt F T with kids := 0 + 1 } ++ [⟨⟨#[122]⟩, 0, 4, 0⟩] = addF F (topS F anc (u + 1)) ⟨⟨#[122]⟩, 0, 4, 0⟩) := Lib.hid (by
       unfold addF; rw [← HT.out, ← HK.out])
      have hb1 : w.heap.size ≤ (y1.alloc (.cells #[.string ⟨#[122]⟩, .int .i64 0, .int .i64 4, .int .i64 0] 83)).heap.size := Nat.le_trans HB1.out.size (by simp)
      clear hset hM' hL'
      rcases hcase with e1 | ⟨e1, e2⟩
      all_goals
       go_upto_region 19 with fail
       rw [← hy1]
       clear hy1
       go_wp2_with (at_builtin; refine wpList_append_all sl_fd rfl (.tmp 131) (.tmp 133) rfl rfl (HS1.out.alloc (.cells #[.string ⟨#[122]⟩, .int .i64 0, .int .i64 4, .int .i64 0] 83)) rfl (cells_lit y1 83 fdV 4 fdV_length ⟨⟨#[122]⟩, 0, 4, 0⟩ #[.string ⟨#[122]⟩, .int .i64 0, .int .i64 4, .int .i64 0] rfl) (fun h => by cases h) (wc_one fdV [⟨⟨#[122]⟩, 0, 4, 0⟩] 4 1 fdV_length rfl (fun x _ v hv => fdV_one x v hv)) (by unfold maxLen; omega) (by omega) hb1 ?_)
       intro v' y2 ho2 hg2
       have ho2 : y2.ownsRow w.heap.size 83 4 v' (j + 1 + 1) (wcs fdV (F.set T { fAt F T with kids := 0 + 1 }) ++ (List.range (1 * 4)).map (wc fdV [⟨⟨#[122]⟩, 0, 4, 0⟩])) := ho2
       rw [wcs_snoc fdV 4 fdV_length, hFset.out] at ho2
       obtain ⟨ao2, cap2, rfl, -, -, hc2, -, -⟩ := own_wide fdV_length (by decide) ho2
       have HB3 := Lib.hid ((HB1.out.alloc HB1.out.size (.cells #[.string ⟨#[122]⟩, .int .i64 0, .int .i64 4, .int .i64 0] 83)).grown hg2 hb1 (fun k hk => (HS1.out.lt k hk).1))
       have Hc2 := Lib.hid hc2
       clear ho2 hg2 hc2
       go_wp2
       go_ret
       exact ⟨_, _, _, _, P', dep', anc', rfl, hFl, hfin, Hc2.out, HB3.out⟩
    · have f7 : ((K : Int) == 0) = false := by rw [beq_eq_false_iff_ne]; omega
      have f8 : ¬ (K : Int) = 0 := by omega
      have hfin : Hid (FinS F P dep anc) := Lib.hid (HM.out.fin (by rw [← HT.out, ← HK.out]; omega) (by rw [HF.out]; omega))
      obtain ⟨_, _, hv, -, -, hcS, -, -⟩ := own_wide fdV_length (by decide) HS.out
      simp only [Value.slice.injEq, true_and] at hv
      obtain ⟨rfl, rfl⟩ := hv
      have HcS := Lib.hid hcS
      clear hcS HS HO hfS
      rcases hcase with e1 | ⟨e1, e2⟩
      all_goals
       go_wp2
       go_ret
       exact ⟨_, _, _, F, P, dep, anc, rfl, HF, hfin, HcS.out, HB.out⟩
end Go.Proofs.YtebmbkbnngeabaaGreat
