/- Chapter 10: the walk over level.Decode. -/
import Derived.Test.YtebmbkbnngeabaaGreatLevH
set_option linter.unusedSimpArgs false
namespace Go.Proofs.YtebmbkbnngeabaaGreat
open Go.RowKit
set_option linter.unusedVariables false
theorem levDec_in (b : List Nat) (n wd : Nat) (hn : n ≤ 4000) (h16 : wd ≤ 16) : levDec b n wd = decL wd n (n + 1) b (if wd = 0 then List.replicate n 0 else []) := by
 unfold levDec
 rw [if_neg (by omega), Int.toNat_natCast, Int.toNat_natCast]
 congr 1
 by_cases h : wd = 0
 · rw [if_pos h, if_pos (by omega)]
 · rw [if_neg h, if_neg (by omega)]
set_option maxHeartbeats 8000000 in
set_option maxRecDepth 100000 in
theorem ldec_in (ao : Option Addr) (L cap n wd : Nat) (b : List Nat) (w : World) (hl : b.length = L) (hc : CellsAt w w.heap.size ao L (u8c b)) (hz : ao = none → L = 0) (hcap : L ≤ cap) (h256 : ∀ x ∈ b, x < 256) (hb : L ≤ 1000000000) (hn : n ≤ 4000) (h16 : wd ≤ 16) :
 Calls Tryz.prog 25 #[.slice ao L cap, .int .i64 (n : Nat), .int .i64 (wd : Nat)] w (GaveLev w (levDec b n wd)) := by
 subst hl
 have hR := levDec_in b n wd hn h16
 obtain ⟨R, hRe⟩ : ∃ R, R = levDec b n wd := ⟨_, rfl⟩
 rw [← hRe] at hR ⊢
 have d1 : decide ((n : Int) < 0) = false := decide_eq_false (by omega)
 have d2 : decide ((4000 : Int) < (n : Int)) = false := decide_eq_false (by omega)
 have d3 : decide ((wd : Int) < 0) = false := decide_eq_false (by omega)
 have d4 : decide ((16 : Int) < (wd : Int)) = false := decide_eq_false (by omega)
 obtain ⟨i0, hi, hz0, hz1, hz2⟩ := info_parts Tryz.infoI
 have hgl : (w.alloc (.cells #[.slice ao b.length cap, .int .i64 (n : Nat), .int .i64 (wd : Nat), .slice none 0 0] 106)).heap[w.heap.size]? = some (.cells #[.slice ao b.length cap, .int .i64 (n : Nat), .int .i64 (wd : Nat), .slice none 0 0] 106) := heap_alloc_new _ _
 have hal := (Below.refl w.heap.size w).alloc (Nat.le_refl _) (.cells #[.slice ao b.length cap, .int .i64 (n : Nat), .int .i64 (wd : Nat), .slice none 0 0] 106)
 have Hgl := Lib.hid hgl; have Hal := Lib.hid hal; have Hc := Lib.hid hc; have H256 := Lib.hid h256
 clear hRe hgl hal hc h256
 by_cases hw0 : wd = 0
 · subst hw0
   rw [if_pos rfl] at hR
   have HR := Lib.hid hR
   clear hR
   obtain ⟨W1, hW1⟩ : ∃ W1, W1 = w.alloc (.cells #[.slice ao b.length cap, .int .i64 (n : Nat), .int .i64 ((0 : Nat) : Int), .slice none 0 0] 106) := ⟨_, rfl⟩
   have hs1 : w.heap.size + 1 ≤ W1.heap.size := by rw [hW1]; simp
   have HW1 := Lib.hid hW1
   clear hW1
   go_enter Tryz.func25, Tryz.ntmps25
   go_wp2_with (at_make; refine wpList_make_full _ rfl _ _ 22 rfl (w.heap.size + 1) 3 i0 (.int .i64 0) 1 Tryz.underlying22 hi hz0 hz1 _ _ _ _ n rfl rfl rfl rfl ?b2 ?b3 (by simp) ?_)
   case b2 => rw [hz2]; omega
   case b3 => unfold maxLen; omega
   intro w0 hown0 hgrow0
   have hbW : Below W1.heap.size W1 w0 := by
    rw [HW1.out]
    exact (Below.refl _ _).grown hgrow0 (Nat.le_refl _) (fun k h => by cases h)
   have hg0 := (hbW.block w.heap.size hs1).trans ((congrArg (fun x : World => x.heap[w.heap.size]?) HW1.out).trans Hgl.out)
   obtain ⟨z0, z1, z2, z3, z4, z5⟩ := four_cells hg0
   have hb0 : Below w.heap.size w w0 := by
    have h := hbW
    rw [HW1.out] at h
    exact Hal.out.trans (h.mono (by simp))
   have hown1 : w0.ownsRow (w.heap.size + 1) 3 1 (.slice (some ⟨w.heap.size + 1, 0, none⟩) n n) n (natv (List.replicate n 0)) := by
    rw [show natv (List.replicate n 0) = List.replicate n (Value.int .i64 0) from natv_rep n 0, ← madeI]; exact hown0
   have HST : Hid (DInv w (w0.setCell ⟨w.heap.size, 3, none⟩ (.slice (some ⟨w.heap.size + 1, 0, none⟩) n n)) w.heap.size n 0 R b (List.replicate n 0)) := by
    have hbut : But w.heap.size w0 (w0.setCell ⟨w.heap.size, 3, none⟩ (.slice (some ⟨w.heap.size + 1, 0, none⟩) n n)) := (But.refl _ _).setCell 3 _
    have hbel : Below w.heap.size w (w0.setCell ⟨w.heap.size, 3, none⟩ (.slice (some ⟨w.heap.size + 1, 0, none⟩) n n)) := hb0.setCell (by exact Nat.le_refl _) _
    refine Lib.hid ⟨⟨ao, cap, _, four_set3 hg0 _, Hc.out.below hbel, hz, hcap, ?_⟩, by simp, fun h => by simp at h, hb, H256.out, ?_, hbel⟩
    · rw [List.length_replicate]
      exact own_butB hown1 hbut (Nat.lt_succ_self _)
    · rw [List.length_replicate, HR.out, Nat.sub_self]
      exact decL_fuel 0 n _ _ _ _ (by simp) (by simp)
   clear hown0 hown1 hgrow0 hbW hb0 hg0
   go_wp2
   go_loopw [9] (fun v x => ∃ b2 l2 : List Nat, Hid (DInv w x w.heap.size n 0 R b2 l2)) (fun _ x => n - lenAt x w.heap.size)
   case atStart => exact ⟨_, _, HST⟩
   case round =>
    clear HST
    obtain ⟨b2, l2, hinv⟩ := hrel
    obtain ⟨x, hxx⟩ : ∃ x, x = wr := ⟨_, rfl⟩
    subst hxx
    obtain ⟨m, hm⟩ : ∃ m, m = n - l2.length := ⟨_, rfl⟩
    have hLL := fun (x : World) h => lleft_any w.heap.size n 0 b2 l2 x h hn hinv.out.2.1
    rw [← hm] at hLL
    have HLL := Lib.hid hLL
    have hrd := hinv.out.1
    have Hrd := Lib.hid hrd
    have Hm := Lib.hid hm
    clear hLL hrd
    by_cases hlt : l2.length < n
    · have e1 : (0 : Int) < (m : Int) := by omega
      have hrow := fun (x : World) h => lrow_any w.heap.size n 0 b2 l2 x h hn hlt (hinv.out.2.2.1 hlt) h16 hinv.out.2.2.2.2.1 hinv.out.2.2.2.1
      obtain ⟨r, hr⟩ : ∃ r, r = decRow 0 n b2 l2 := ⟨_, rfl⟩
      rw [← hr] at hrow
      have Hr := Lib.hid hr; have Hrow := Lib.hid hrow; have Hlt := Lib.hid hlt
      clear hr hrow hm hlt
      go_wp2_with fail
      refine (HLL.out _ Hrd.out).mono ?_
      rintro e x1 ⟨rfl, m1, rfl⟩
      go_wp2_with fail
      refine (Hrow.out _ (Hrd.out.below (below_drewN (Below.refl _ _) m1))).mono ?_
      rintro e x2 ⟨rfl, hb2, hnext⟩
      have hx2 := (below_drewN hinv.out.2.2.2.2.2.2 m1).trans hb2
      have Hx2 := Lib.hid hx2; have Hnext := Lib.hid hnext
      clear hb2 hx2 hnext
      by_cases hE : r.2.2 = 0
      · have hgr := decRow_grow 0 n b2 l2 (by rw [← Hr.out]; exact hE)
        rw [← Hr.out] at hgr
        have hgo := decL_go 0 n b2 l2 Hlt.out (by rw [← Hr.out]; exact hE)
        rw [hinv.out.2.2.2.2.2.1, ← Hr.out] at hgo
        have hlt2 := decRow_lt 0 n b2 l2 hinv.out.2.2.2.2.1
        rw [← Hr.out] at hlt2
        have hnew : Hid (DInv w x2 w.heap.size n 0 R r.1 r.2.1) := Lib.hid ⟨Hnext.out hE, hgr.2.1, fun _ => hinv.out.2.2.1 Hlt.out, Nat.le_trans hgr.2.2 hinv.out.2.2.2.1, hlt2, hgo.symm, Hx2.out⟩
        have hlen : Hid (n - lenAt x2 w.heap.size < n - lenAt x w.heap.size) := Lib.hid (by
         rw [hnew.out.1.len, Hrd.out.len]
         have := Hlt.out
         omega)
        clear hgr hgo hlt2
        go_wp2
        go_roundw
        case rel => exact ⟨_, _, hnew⟩
        case measure => exact hlen.out
      · have b1 : ((r.2.2 : Int) != 0) = true := by rw [bne_iff_ne]; omega
        have her := decL_err 0 n (n - l2.length) b2 l2 Hlt.out (by rw [← Hr.out]; exact hE)
        rw [hinv.out.2.2.2.2.2.1, ← Hr.out] at her
        have Her := Lib.hid her
        clear her hE
        go_wp2
        go_ret2
        rw [Her.out]
        exact ⟨_, rfl, World.ownsRow_nil _ _ _ _, Hx2.out⟩
    · have hm0 : m = 0 := by omega
      have hdn := decL_done 0 n (n - l2.length) b2 l2 hlt
      rw [hinv.out.2.2.2.2.2.1] at hdn
      have hl2 : Hid (l2.length ≤ 4000) := Lib.hid (by have := hinv.out.2.1; omega)
      subst hm0
      obtain ⟨aoX, capX, vX, hgX, hcX, hzX, hcapX, hoX⟩ := Hrd.out
      obtain ⟨c0, c1, c2, c3, f0, f3⟩ := four_cells hgX
      obtain ⟨al, capl, rfl, -, -, hcl, hnl⟩ := own_nat hoX
      have Hcl := Lib.hid hcl
      have Hdn := Lib.hid hdn
      have Hinv := Lib.hid hinv.out.2.2.2.2.2.2
      clear hdn hm hgX hcX hoX hcl
      by_cases hb0 : 0 < b2.length
      · have e1 : (0 : Int) < (b2.length : Int) := by omega
        have Hb0 := Lib.hid hb0
        clear hb0
        go_wp2_with fail
        refine (HLL.out _ Hrd.out).mono ?_
        rintro e x1 ⟨rfl, m1, rfl⟩
        have Hx1 := Lib.hid (below_drewN Hinv.out m1)
        go_wp2
        go_ret2
        rw [Hdn.out, if_pos Hb0.out]
        exact ⟨_, rfl, World.ownsRow_nil _ _ _ _, Hx1.out⟩
      · have e1 : ¬ (0 : Int) < (b2.length : Int) := by omega
        have Hb0 := Lib.hid hb0
        clear hb0
        go_wp2_with fail
        refine (HLL.out _ Hrd.out).mono ?_
        rintro e x1 ⟨rfl, m1, rfl⟩
        go_wp2_with fail
        refine (cloneN_any al l2.length capl l2 _ rfl (Hcl.out.at (below_drewN (Below.refl _ _) m1)) (fun e => (hnl e).1) (by have := hl2.out; omega)).mono ?_
        rintro e x2 ⟨vF, rfl, hoF, hbF⟩
        have hx2 : Below w.heap.size w x2 := bmore (below_drewN Hinv.out m1) hbF
        have hoF2 := own_base hoF (show w.heap.size ≤ (x.drewN m1).heap.size from Hinv.out.size)
        have Hx2 := Lib.hid hx2; have HoF := Lib.hid hoF2
        clear hoF hbF hx2 hoF2
        go_wp2
        go_ret2
        rw [Hdn.out, if_neg Hb0.out]
        exact ⟨_, rfl, HoF.out, Hx2.out⟩
 · have b0 : ((wd : Int) == 0) = false := by rw [beq_eq_false_iff_ne]; omega
   rw [if_neg hw0] at hR
   have HST : Hid (DInv w (w.alloc (.cells #[.slice ao b.length cap, .int .i64 (n : Nat), .int .i64 (wd : Nat), .slice none 0 0] 106)) w.heap.size n wd R b []) := by
    refine Lib.hid ⟨⟨ao, cap, _, Hgl.out, Hc.out.below Hal.out, hz, hcap, World.ownsRow_nil _ _ _ _⟩, by simp, fun _ => by omega, hb, H256.out, ?_, Hal.out⟩
    rw [List.length_nil, Nat.sub_zero, hR]
   clear hR hw0
   go_enter Tryz.func25, Tryz.ntmps25
   go_wp2
   go_loopw [9] (fun v x => ∃ b2 l2 : List Nat, Hid (DInv w x w.heap.size n wd R b2 l2)) (fun _ x => n - lenAt x w.heap.size)
   case atStart => exact ⟨_, _, HST⟩
   case round =>
    clear HST
    obtain ⟨b2, l2, hinv⟩ := hrel
    obtain ⟨x, hxx⟩ : ∃ x, x = wr := ⟨_, rfl⟩
    subst hxx
    obtain ⟨m, hm⟩ : ∃ m, m = n - l2.length := ⟨_, rfl⟩
    have hLL := fun (x : World) h => lleft_any w.heap.size n wd b2 l2 x h hn hinv.out.2.1
    rw [← hm] at hLL
    have HLL := Lib.hid hLL
    have hrd := hinv.out.1
    have Hrd := Lib.hid hrd
    have Hm := Lib.hid hm
    clear hLL hrd
    by_cases hlt : l2.length < n
    · have e1 : (0 : Int) < (m : Int) := by omega
      have hrow := fun (x : World) h => lrow_any w.heap.size n wd b2 l2 x h hn hlt (hinv.out.2.2.1 hlt) h16 hinv.out.2.2.2.2.1 hinv.out.2.2.2.1
      obtain ⟨r, hr⟩ : ∃ r, r = decRow wd n b2 l2 := ⟨_, rfl⟩
      rw [← hr] at hrow
      have Hr := Lib.hid hr; have Hrow := Lib.hid hrow; have Hlt := Lib.hid hlt
      clear hr hrow hm hlt
      go_wp2_with fail
      refine (HLL.out _ Hrd.out).mono ?_
      rintro e x1 ⟨rfl, m1, rfl⟩
      go_wp2_with fail
      refine (Hrow.out _ (Hrd.out.below (below_drewN (Below.refl _ _) m1))).mono ?_
      rintro e x2 ⟨rfl, hb2, hnext⟩
      have hx2 := (below_drewN hinv.out.2.2.2.2.2.2 m1).trans hb2
      have Hx2 := Lib.hid hx2; have Hnext := Lib.hid hnext
      clear hb2 hx2 hnext
      by_cases hE : r.2.2 = 0
      · have hgr := decRow_grow wd n b2 l2 (by rw [← Hr.out]; exact hE)
        rw [← Hr.out] at hgr
        have hgo := decL_go wd n b2 l2 Hlt.out (by rw [← Hr.out]; exact hE)
        rw [hinv.out.2.2.2.2.2.1, ← Hr.out] at hgo
        have hlt2 := decRow_lt wd n b2 l2 hinv.out.2.2.2.2.1
        rw [← Hr.out] at hlt2
        have hnew : Hid (DInv w x2 w.heap.size n wd R r.1 r.2.1) := Lib.hid ⟨Hnext.out hE, hgr.2.1, fun _ => hinv.out.2.2.1 Hlt.out, Nat.le_trans hgr.2.2 hinv.out.2.2.2.1, hlt2, hgo.symm, Hx2.out⟩
        have hlen : Hid (n - lenAt x2 w.heap.size < n - lenAt x w.heap.size) := Lib.hid (by
         rw [hnew.out.1.len, Hrd.out.len]
         have := Hlt.out
         omega)
        clear hgr hgo hlt2
        go_wp2
        go_roundw
        case rel => exact ⟨_, _, hnew⟩
        case measure => exact hlen.out
      · have b1 : ((r.2.2 : Int) != 0) = true := by rw [bne_iff_ne]; omega
        have her := decL_err wd n (n - l2.length) b2 l2 Hlt.out (by rw [← Hr.out]; exact hE)
        rw [hinv.out.2.2.2.2.2.1, ← Hr.out] at her
        have Her := Lib.hid her
        clear her hE
        go_wp2
        go_ret2
        rw [Her.out]
        exact ⟨_, rfl, World.ownsRow_nil _ _ _ _, Hx2.out⟩
    · have hm0 : m = 0 := by omega
      have hdn := decL_done wd n (n - l2.length) b2 l2 hlt
      rw [hinv.out.2.2.2.2.2.1] at hdn
      have hl2 : Hid (l2.length ≤ 4000) := Lib.hid (by have := hinv.out.2.1; omega)
      subst hm0
      obtain ⟨aoX, capX, vX, hgX, hcX, hzX, hcapX, hoX⟩ := Hrd.out
      obtain ⟨c0, c1, c2, c3, f0, f3⟩ := four_cells hgX
      obtain ⟨al, capl, rfl, -, -, hcl, hnl⟩ := own_nat hoX
      have Hcl := Lib.hid hcl
      have Hdn := Lib.hid hdn
      have Hinv := Lib.hid hinv.out.2.2.2.2.2.2
      clear hdn hm hgX hcX hoX hcl
      by_cases hb0 : 0 < b2.length
      · have e1 : (0 : Int) < (b2.length : Int) := by omega
        have Hb0 := Lib.hid hb0
        clear hb0
        go_wp2_with fail
        refine (HLL.out _ Hrd.out).mono ?_
        rintro e x1 ⟨rfl, m1, rfl⟩
        have Hx1 := Lib.hid (below_drewN Hinv.out m1)
        go_wp2
        go_ret2
        rw [Hdn.out, if_pos Hb0.out]
        exact ⟨_, rfl, World.ownsRow_nil _ _ _ _, Hx1.out⟩
      · have e1 : ¬ (0 : Int) < (b2.length : Int) := by omega
        have Hb0 := Lib.hid hb0
        clear hb0
        go_wp2_with fail
        refine (HLL.out _ Hrd.out).mono ?_
        rintro e x1 ⟨rfl, m1, rfl⟩
        go_wp2_with fail
        refine (cloneN_any al l2.length capl l2 _ rfl (Hcl.out.at (below_drewN (Below.refl _ _) m1)) (fun e => (hnl e).1) (by have := hl2.out; omega)).mono ?_
        rintro e x2 ⟨vF, rfl, hoF, hbF⟩
        have hx2 : Below w.heap.size w x2 := bmore (below_drewN Hinv.out m1) hbF
        have hoF2 := own_base hoF (show w.heap.size ≤ (x.drewN m1).heap.size from Hinv.out.size)
        have Hx2 := Lib.hid hx2; have HoF := Lib.hid hoF2
        clear hoF hbF hx2 hoF2
        go_wp2
        go_ret2
        rw [Hdn.out, if_neg Hb0.out]
        exact ⟨_, rfl, HoF.out, Hx2.out⟩
theorem ldec_any (ao : Option Addr) (L cap : Nat) (n width : Int) (b : List Nat) (w : World) (hl : b.length = L) (hc : CellsAt w w.heap.size ao L (u8c b)) (hz : ao = none → L = 0) (hcap : L ≤ cap) (h256 : ∀ x ∈ b, x < 256) (hb : L ≤ 1000000000) :
 Calls Tryz.prog 25 #[.slice ao L cap, .int .i64 n, .int .i64 width] w (GaveLev w (levDec b n width)) := by
 by_cases h : n < 0 ∨ 4000 < n ∨ width < 0 ∨ 16 < width
 · rw [show levDec b n width = ([], 1) by unfold levDec; rw [if_pos h]]
   exact ldec_arg ao L cap n width w h
 · obtain ⟨k, rfl⟩ : ∃ k : Nat, n = k := ⟨n.toNat, by omega⟩
   obtain ⟨wd, rfl⟩ : ∃ k : Nat, width = k := ⟨width.toNat, by omega⟩
   exact ldec_in ao L cap k wd b w hl hc hz hcap h256 hb (by omega) (by omega)
end Go.Proofs.YtebmbkbnngeabaaGreat
