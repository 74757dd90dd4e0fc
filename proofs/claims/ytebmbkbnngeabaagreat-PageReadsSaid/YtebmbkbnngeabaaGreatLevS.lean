/- Chapter 10: the walk over the document's Decode. -/
import Derived.Test.YtebmbkbnngeabaaGreatLevI
import Derived.Test.YtebmbkbnngeabaaGreatBunC
set_option linter.unusedSimpArgs false
namespace Go.Proofs.YtebmbkbnngeabaaGreat
open Go.RowKit
set_option linter.unusedVariables false
set_option maxHeartbeats 1000000 in
set_option maxRecDepth 100000 in
theorem rldec_arg (ao : Option Addr) (L cap : Nat) (n width : Int) (w : World) (h : n < 0 ∨ 4000 < n ∨ width < 0 ∨ 16 < width) :
 Calls Tryz.prog 30 #[.slice ao L cap, .int .i64 n, .int .i64 width] w (GaveLev w ([], 1)) := by
 have key : GaveLev w ([], 1) (.returned (.tuple #[.slice none 0 0, .int .i64 1])) w := ⟨_, rfl, World.ownsRow_nil _ _ _ _, Below.refl _ _⟩
 have Key := Lib.hid key; clear key
 by_cases h1 : n < 0
 · go_enter Tryz.func30, Tryz.ntmps30
   go_wp2
   go_ret2
   exact Key.out
 by_cases h2 : 4000 < n
 · have d1 : decide (n < 0) = false := decide_eq_false h1
   have d2 : decide (4000 < n) = true := decide_eq_true h2
   clear h
   go_enter Tryz.func30, Tryz.ntmps30
   go_wp2
   go_ret2
   exact Key.out
 by_cases h3 : width < 0
 · have d1 : decide (n < 0) = false := decide_eq_false h1
   have d2 : decide (4000 < n) = false := decide_eq_false h2
   have d3 : decide (width < 0) = true := decide_eq_true h3
   clear h
   go_enter Tryz.func30, Tryz.ntmps30
   go_wp2
   go_ret2
   exact Key.out
 · have h4 : 16 < width := by omega
   have d1 : decide (n < 0) = false := decide_eq_false h1
   have d2 : decide (4000 < n) = false := decide_eq_false h2
   have d3 : decide (width < 0) = false := decide_eq_false h3
   clear h
   go_enter Tryz.func30, Tryz.ntmps30
   go_wp2
   go_ret2
   exact Key.out
def RS (w x : World) (g : Nat) (b : List Nat) (at_ err : Nat) (v : Value) (l : List Nat) : Prop := w.heap.size ≤ g ∧ RRd x g w.heap.size b at_ err ∧ x.ownsRow (g + 1) 3 1 v l.length (natv l) ∧ Below w.heap.size w x
section
variable {w x x' : World} {g : Nat} {b : List Nat} {at_ err : Nat} {v : Value} {l : List Nat}
theorem RS.keep (h : RS w x g b at_ err v l) (hb : Below x.heap.size x x') : RS w x' g b at_ err v l := ⟨h.1, h.2.1.keep hb, own_below h.2.2.1 hb, bmore h.2.2.2 hb⟩
theorem RS.step {at2 err2 : Nat} (h : RS w x g b at_ err v l) (hr : RRd x' g w.heap.size b at2 err2) (hb : But g x x') : RS w x' g b at2 err2 v l :=
 ⟨h.1, hr, own_butB h.2.2.1 hb (Nat.lt_succ_self g), hb.below h.2.2.2 h.1 h.2.2.2.size⟩
theorem RS.app {ao : Option Addr} {cap y M : Nat} {v' : Value} (hM : M = l.length) (h : RS w x g b at_ err (.slice ao M cap) l)
 (ho : x'.ownsRow (g + 1) 3 1 v' (M + 1) (natv l ++ (List.range 1).map (fun _ => Value.int .i64 (y : Nat))))
 (hg : (x.alloc (.cells #[.int .i64 (y : Nat)] 3)).grownBy x' (Value.slice ao M cap).ownBlock) :
 ∃ ao' cap', v' = .slice ao' (M + 1) cap' ∧ RS w x' g b at_ err (.slice ao' (M + 1) cap') (l ++ [y]) := by
 subst hM
 obtain ⟨ao', cap', rfl, -, -⟩ := own_cells ho
 have hA := own_below h.2.2.1 ((Below.refl _ _).alloc (Nat.le_refl _) (.cells #[.int .i64 (y : Nat)] 3))
 have hs : g + 1 ≤ (x.alloc (.cells #[.int .i64 (y : Nat)] 3)).heap.size := Nat.le_trans h.2.1.lt (by simp)
 have hb : Below (g + 1) x x' := ((Below.refl _ _).alloc h.2.1.lt _).grown hg hs (fun k hk => (hA.lt k hk).1)
 refine ⟨ao', cap', rfl, h.1, h.2.1.below hb (Nat.lt_succ_self g), ?_, h.2.2.2.trans (hb.mono (by have := h.1; omega))⟩
 rw [List.length_append, natv_append]
 exact ho
end
theorem RRd.cells3 {x : World} {g lo : Nat} {b : List Nat} {at_ err : Nat} (h : RRd x g lo b at_ err) : ∃ ao cap, x.cell? ⟨g, 0, none⟩ = some (.slice ao b.length cap) ∧ x.cell? ⟨g, 1, none⟩ = some (.int .i64 (at_ : Nat)) ∧ x.cell? ⟨g, 2, none⟩ = some (.int .i64 (err : Nat)) := by
 obtain ⟨ao, cap, hg, -⟩ := h
 obtain ⟨c0, c1, c2, -, -⟩ := three_cells hg
 exact ⟨ao, cap, c0, c1, c2⟩
def EJ (U : List Nat) (left e j : Nat) : Prop := e = 0 ∧ (∀ i, left ≤ i → i < j → U.getD i 0 = 0) ∨ e = 10 ∧ ∃ i, left ≤ i ∧ i < j ∧ U.getD i 0 ≠ 0
theorem rrGet_err (b : List Nat) (at_ e : Nat) (n : Int) (h : e ≠ 0) : rrGet b at_ e n = (0, at_, e) := by
 unfold rrGet rrTake
 rw [if_pos (.inl h)]; rfl
theorem rrGet_cut (b : List Nat) (at_ n : Nat) (h1 : 1 ≤ n) (h8 : n ≤ 8) (ha : at_ ≤ b.length) (h : (b.drop at_).length < n) : rrGet b at_ 0 (n : Nat) = (0, at_, 8) := by
 rw [List.length_drop] at h
 unfold rrGet rrTake
 rw [if_neg (show ¬ ((n : Int) < 0 ∨ 8 < (n : Int)) by omega), if_neg (by omega), if_pos (by omega)]; rfl
theorem rrGet_ok (b : List Nat) (at_ n : Nat) (h1 : 1 ≤ n) (h8 : n ≤ 8) (h : n ≤ (b.drop at_).length) : rrGet b at_ 0 (n : Nat) = (numB ((b.drop at_).take n), at_ + n, 0) := by
 rw [List.length_drop] at h
 unfold rrGet rrTake
 rw [if_neg (show ¬ ((n : Int) < 0 ∨ 8 < (n : Int)) by omega), if_neg (by omega), if_neg (by omega), Int.toNat_natCast]
theorem rrTake_cut (b : List Nat) (at_ n : Nat) (h1 : 1 ≤ n) (ha : at_ ≤ b.length) (h : (b.drop at_).length < n) : rrTake b at_ 0 (n : Nat) = ([], at_, 8) := by
 rw [List.length_drop] at h
 unfold rrTake
 rw [if_neg (by omega), if_pos (by omega)]
theorem rrTake_ok (b : List Nat) (at_ n : Nat) (h1 : 1 ≤ n) (h : n ≤ (b.drop at_).length) : rrTake b at_ 0 (n : Nat) = ((b.drop at_).take n, at_ + n, 0) := by
 rw [List.length_drop] at h
 unfold rrTake
 rw [if_neg (by omega), if_neg (by omega), Int.toNat_natCast]
theorem unpackSpec_groups (c : List Nat) (k wd : Nat) (hw : wd ≤ 16) (hk : 8 * k ≤ 4000) (hl : c.length = k * wd) : unpackSpec c ((8 * k : Nat) : Int) wd = (unpacked c (8 * k) wd, 0) := by
 have hs : packSize (8 * k) wd = k * wd := by unfold packSize; rw [Nat.mul_assoc]; omega
 unfold unpackSpec
 rw [if_neg (by omega), Int.toNat_natCast, Int.toNat_natCast, hs, if_neg (by omega), if_neg (by omega), if_pos]
 rw [tailClear_iff]
 intro p h1 h2
 rw [hl] at h2
 rw [Nat.mul_assoc] at h1
 omega
theorem dec_fail {wd n e : Nat} {c l : List Nat} {R : List Nat × Nat} (hl : l.length < n) (hr : (decRow wd n c l).2.2 = e) (he : e ≠ 0) (hR : decL wd n (n - l.length + 1) c l = R) : R = ([], e) := by
 rw [← hR, decL_err wd n _ c l hl (by rw [hr]; exact he), hr]
theorem dec_next {wd n : Nat} {c l c2 l2 : List Nat} {R : List Nat × Nat} (hl : l.length < n) (hr : decRow wd n c l = (c2, l2, 0)) (hR : decL wd n (n - l.length + 1) c l = R) :
 decL wd n (n - l2.length + 1) c2 l2 = R ∧ l.length < l2.length ∧ l2.length ≤ n := by
 have h0 : (decRow wd n c l).2.2 = 0 := by rw [hr]
 have h1 := decL_go wd n c l hl h0
 have h2 := decRow_grow wd n c l h0
 rw [hr] at h1 h2
 exact ⟨by rw [← h1]; exact hR, h2.1, h2.2.1⟩
theorem and1 (V : Nat) (h : V < 18446744073709551616) : bits .and .u64 (V : Int) 1 = ((V % 2 : Nat) : Int) := by
 have e := bits_and_u64_nat V 1 h (by decide)
 rw [show ((1 : Nat) : Int) = 1 from rfl] at e
 rw [e, Nat.and_one_is_mod]
def errAt (x : World) (g : Nat) : Int := match x.cell? ⟨g, 2, none⟩ with
 | some (.int _ e) => e
 | _ => 0
def lenV (v : Value) : Nat := match v with
 | .slice _ m _ => m
 | _ => 0
def rmu (v : Value) (x : World) (g n : Nat) : Nat := if errAt x g = 0 then n - lenV v + 1 else 0
theorem RS.err {w x : World} {g : Nat} {b : List Nat} {at_ err : Nat} {v : Value} {l : List Nat} (h : RS w x g b at_ err v l) : errAt x g = (err : Nat) := by
 obtain ⟨-, ⟨ao, cap, hg, -⟩, -⟩ := h
 obtain ⟨-, -, c2, -, -⟩ := three_cells hg
 unfold errAt; rw [c2]
theorem rmu_zero {w x : World} {g : Nat} {b : List Nat} {at_ : Nat} {ao : Option Addr} {m c n : Nat} {l : List Nat} (h : RS w x g b at_ 0 (.slice ao m c) l) : rmu (.slice ao m c) x g n = n - m + 1 := by
 have h2 : errAt x g = 0 := h.err
 unfold rmu; rw [if_pos h2]; rfl
theorem rmu_err {w x : World} {g : Nat} {b : List Nat} {at_ err : Nat} {v : Value} {n : Nat} {l : List Nat} (h : RS w x g b at_ err v l) (he : err ≠ 0) : rmu v x g n = 0 := by
 unfold rmu; rw [if_neg (by rw [h.err]; omega)]
def DS (w x : World) (g n wd : Nat) (b : List Nat) (R : List Nat × Nat) (v : Value) (l : List Nat) (at_ err : Nat) : Prop :=
 RS w x g b at_ err v l ∧ at_ ≤ b.length ∧ l.length ≤ n ∧ (l.length < n → 1 ≤ wd) ∧ (err = 0 → decL wd n (n - l.length + 1) (b.drop at_) l = R) ∧ (err ≠ 0 → R = ([], err))
set_option maxHeartbeats 16000000 in
set_option maxRecDepth 100000 in
theorem rldec_in (ao : Option Addr) (L cap n wd : Nat) (b : List Nat) (w : World) (hl : b.length = L) (hc : CellsAt w w.heap.size ao L (u8c b)) (hz : ao = none → L = 0) (h256 : ∀ x ∈ b, x < 256) (hb : L ≤ 1000000) (hn : n ≤ 4000) (h16 : wd ≤ 16) :
 Calls Tryz.prog 30 #[.slice ao L cap, .int .i64 (n : Nat), .int .i64 (wd : Nat)] w (GaveLev w (levDec b n wd)) := by
 subst hl
 have hR := levDec_in b n wd hn h16
 obtain ⟨R, hRe⟩ : ∃ R, R = levDec b n wd := ⟨_, rfl⟩
 rw [← hRe] at hR ⊢
 have d1 : decide ((n : Int) < 0) = false := decide_eq_false (by omega)
 have d2 : decide ((4000 : Int) < (n : Int)) = false := decide_eq_false (by omega)
 have d3 : decide ((wd : Int) < 0) = false := decide_eq_false (by omega)
 have d4 : decide ((16 : Int) < (wd : Int)) = false := decide_eq_false (by omega)
 have Hc := Lib.hid hc; have H256 := Lib.hid h256
 have HR0 := Lib.hid hR
 clear hRe hc h256 hR
 by_cases hw0 : wd = 0
 · subst hw0
   go_enter Tryz.func30, Tryz.ntmps30
   go_wp2_with fail
   refine (rnew_any ao b.length cap b _ rfl Hc.out hz (by omega)).mono ?_
   rintro e x1 ⟨g, rfl, hg, hr1, hx1⟩
   have h0 : Hid (RS w x1 g b 0 0 (.slice none 0 0) []) := Lib.hid ⟨hg, hr1, World.ownsRow_nil _ _ _ _, hx1⟩
   clear hg hr1 hx1
   go_wp2
   go_loopw [9] (fun v x => ∃ (k : Nat) (ao9 : Option Addr) (cap9 : Nat), v = .slice ao9 k cap9 ∧ k ≤ n ∧ Hid (RS w x g b 0 0 (.slice ao9 k cap9) (List.replicate k 0))) (fun v _ => n - lenV v)
   case atStart => exact ⟨0, none, 0, rfl, Nat.zero_le _, h0⟩
   case round =>
    clear h0
    obtain ⟨k, ao9, cap9, rfl, hk, hS⟩ := hrel
    obtain ⟨x, hxx⟩ : ∃ x, x = wr := ⟨_, rfl⟩
    subst hxx
    by_cases hkn : k < n
    · have dk : decide ((k : Int) < (n : Int)) = true := decide_eq_true (by omega)
      have dk2 : decide (k < n) = true := decide_eq_true hkn
      have hown := hS.out.2.2.1
      rw [List.length_replicate] at hown
      have hownA := own_below hown ((Below.refl _ _).alloc (Nat.le_refl _) (.cells #[.int .i64 ((0 : Nat) : Int)] 3))
      have hsA : g + 1 ≤ (x.alloc (.cells #[.int .i64 ((0 : Nat) : Int)] 3)).heap.size := Nat.le_trans hS.out.2.1.lt (by simp)
      clear hown
      go_wp2_with (at_builtin; refine wpList_append_all1 sl_i rfl (.tmp 44) (.tmp 45) rfl rfl hownA rfl (cells_one x 3 (.int .i64 ((0 : Nat) : Int))) (fun h => by cases h) (fun _ _ => rfl) (by unfold maxLen; omega) (by omega) hsA ?_)
      intro v' x2 ho2 hg2
      obtain ⟨ao', cap', rfl, hS2⟩ := RS.app (y := 0) (List.length_replicate ..).symm hS.out ho2 hg2
      rw [← List.replicate_succ'] at hS2
      have HS2 := Lib.hid hS2
      clear hS2 ho2 hg2 hownA hsA hS
      go_wp2
      go_roundw
      case rel => exact ⟨k + 1, ao', cap', rfl, hkn, HS2⟩
      case measure => simp [lenV]; omega
    · obtain rfl : n = k := by omega
      have dk : decide ((n : Int) < (n : Int)) = false := decide_eq_false (by omega)
      have hD : Hid (DS w x g n 0 b R (.slice ao9 n cap9) (List.replicate n 0) 0 0) := Lib.hid ⟨hS.out, Nat.zero_le _, by simp, fun h => by simp at h, fun _ => by
       rw [HR0.out, List.length_replicate, Nat.sub_self, List.drop_zero]
       exact decL_fuel 0 n _ _ _ _ (by simp) (by simp), fun h => absurd rfl h⟩
      have hll : Hid (n = (List.replicate n 0).length) := Lib.hid (List.length_replicate ..).symm
      obtain ⟨l0, hl0⟩ : ∃ l0, l0 = List.replicate n 0 := ⟨_, rfl⟩
      rw [← hl0] at hD hll
      clear hS hl0
      go_wp2
      go_loopw [9] (fun v x => ∃ (l2 : List Nat) (at_ err L9 : Nat) (ao9 : Option Addr) (cap9 : Nat), v = .slice ao9 L9 cap9 ∧ Hid (L9 = l2.length) ∧ L9 ≤ n ∧ Hid (DS w x g n 0 b R (.slice ao9 L9 cap9) l2 at_ err)) (fun v x => rmu v x g n)
      case atStart => exact ⟨l0, 0, 0, n, ao9, cap9, rfl, hll, Nat.le_refl _, hD⟩
      case round =>
       clear hD hll
       obtain ⟨l2, at_, err, L9, ao9, cap9, rfl, HL, hLn, hDD⟩ := hrel
       obtain ⟨x, hxx⟩ : ∃ x, x = wr := ⟨_, rfl⟩
       subst hxx
       obtain ⟨hS, hat, -, hwd, hDL, hDE⟩ := hDD.out
       have HS := Lib.hid hS; have hDE := Lib.hid hDE; have hwd := Lib.hid hwd
       obtain ⟨-, ⟨aoR, capR, hgR, -⟩, -⟩ := hS
       obtain ⟨c0, c1, c2, f1, f2⟩ := three_cells hgR
       clear hDD hgR
       by_cases hLlt : L9 < n
       · have dL : decide ((L9 : Int) < (n : Int)) = true := decide_eq_true (by omega)
         have dL2 : decide (L9 < n) = true := decide_eq_true hLlt
         by_cases he : err = 0
         · subst he
           replace hDL := Lib.hid (hDL rfl)
           exact absurd (hwd.out (by rw [← HL.out]; exact hLlt)) (by decide)
         · have b1 : ((err : Int) == 0) = false := by rw [beq_eq_false_iff_ne]; omega
           have b2 : ((err : Int) != 0) = true := by rw [bne_iff_ne]; omega
           have HeT := Lib.hid he
           have HRT := Lib.hid (hDE.out he)
           have HT := HS
           clear he hDL
           have hrrE := rend_any g b at_ err x HT.out.2.1
           rw [show rrEnd b at_ err = err by unfold rrEnd; rw [if_neg (fun h => HeT.out h.1)]] at hrrE
           have HrrE := Lib.hid hrrE
           clear hrrE
           go_wp2_with fail
           refine HrrE.out.mono ?_
           rintro e xe ⟨rfl, me, rfl⟩
           have Hbe := Lib.hid (below_drewN HT.out.2.2.2 me)
           go_wp2
           go_ret2
           rw [HRT.out]
           exact ⟨_, rfl, World.ownsRow_nil _ _ _ _, Hbe.out⟩
       · have dL : decide ((L9 : Int) < (n : Int)) = false := decide_eq_false (by omega)
         have dL2 : decide (L9 < n) = false := decide_eq_false hLlt
         by_cases he : err = 0
         · subst he
           replace hDL := Lib.hid (hDL rfl)
           have hrr0 := rend_any g b at_ 0 x HS.out.2.1
           have HrrE := Lib.hid hrr0
           clear hrr0
           have hdn := decL_done 0 n (n - l2.length) (b.drop at_) l2 (by have := HL.out; omega)
           rw [hDL.out] at hdn
           have Hdn := Lib.hid hdn
           clear hdn
           by_cases hend : at_ < b.length
           · have hee : Hid (rrEnd b at_ 0 = 9) := Lib.hid (by unfold rrEnd; rw [if_pos ⟨rfl, hend⟩])
             rw [hee.out] at HrrE
             have HR9 : Hid (R = ([], 9)) := Lib.hid (by rw [Hdn.out, if_pos (by rw [List.length_drop]; omega)])
             clear hend
             go_wp2_with fail
             refine HrrE.out.mono ?_
             rintro e xe ⟨rfl, me, rfl⟩
             have Hbe := Lib.hid (below_drewN HS.out.2.2.2 me)
             go_wp2
             go_ret2
             rw [HR9.out]
             exact ⟨_, rfl, World.ownsRow_nil _ _ _ _, Hbe.out⟩
           · have hee : Hid (rrEnd b at_ 0 = 0) := Lib.hid (by unfold rrEnd; rw [if_neg (fun h => hend h.2)])
             rw [hee.out] at HrrE
             have HR9 : Hid (R = (l2, 0)) := Lib.hid (by rw [Hdn.out, if_neg (by rw [List.length_drop]; omega)])
             have ho : x.ownsRow w.heap.size 3 1 (.slice ao9 L9 cap9) l2.length (natv l2) := own_base HS.out.2.2.1 (by have := HS.out.1; omega)
             have Ho := Lib.hid ho
             clear hend ho
             go_wp2_with fail
             refine HrrE.out.mono ?_
             rintro e xe ⟨rfl, me, rfl⟩
             have Hbe := Lib.hid (below_drewN HS.out.2.2.2 me)
             have Hoe := Lib.hid (own_drewN Ho.out me)
             go_wp2
             go_ret2
             rw [HR9.out]
             exact ⟨_, rfl, Hoe.out, Hbe.out⟩
         · have b2 : ((err : Int) != 0) = true := by rw [bne_iff_ne]; omega
           have HeT := Lib.hid he
           have HRT := Lib.hid (hDE.out he)
           have HT := HS
           clear he hDL
           have hrrE := rend_any g b at_ err x HT.out.2.1
           rw [show rrEnd b at_ err = err by unfold rrEnd; rw [if_neg (fun h => HeT.out h.1)]] at hrrE
           have HrrE := Lib.hid hrrE
           clear hrrE
           go_wp2_with fail
           refine HrrE.out.mono ?_
           rintro e xe ⟨rfl, me, rfl⟩
           have Hbe := Lib.hid (below_drewN HT.out.2.2.2 me)
           go_wp2
           go_ret2
           rw [HRT.out]
           exact ⟨_, rfl, World.ownsRow_nil _ _ _ _, Hbe.out⟩
 · have b0 : ((wd : Int) == 0) = false := by rw [beq_eq_false_iff_ne]; omega
   go_enter Tryz.func30, Tryz.ntmps30
   go_wp2_with fail
   refine (rnew_any ao b.length cap b _ rfl Hc.out hz (by omega)).mono ?_
   rintro e x1 ⟨g, rfl, hg, hr1, hx1⟩
   have h0 : Hid (RS w x1 g b 0 0 (.slice none 0 0) []) := Lib.hid ⟨hg, hr1, World.ownsRow_nil _ _ _ _, hx1⟩
   clear hg hr1 hx1
   go_wp2
   go_loopw [9] (fun v x => v = .slice none 0 0 ∧ Hid (RS w x g b 0 0 (.slice none 0 0) [])) (fun _ _ => 0)
   case atStart => exact ⟨rfl, h0⟩
   case round =>
    clear h0
    obtain ⟨rfl, hS⟩ := hrel
    obtain ⟨x, hxx⟩ : ∃ x, x = wr := ⟨_, rfl⟩
    subst hxx
    have hD : Hid (DS w x g n wd b R (.slice none 0 0) [] 0 0) := Lib.hid ⟨hS.out, Nat.zero_le _, by simp, fun _ => by omega, fun _ => by
     have h := HR0.out
     rw [if_neg hw0] at h
     rw [List.length_nil, Nat.sub_zero, List.drop_zero]; exact h.symm, fun h => absurd rfl h⟩
    clear hS hw0
    go_wp2
    go_loopw [9] (fun v x => ∃ (l2 : List Nat) (at_ err L9 : Nat) (ao9 : Option Addr) (cap9 : Nat), v = .slice ao9 L9 cap9 ∧ Hid (L9 = l2.length) ∧ L9 ≤ n ∧ Hid (DS w x g n wd b R (.slice ao9 L9 cap9) l2 at_ err)) (fun v x => rmu v x g n)
    case atStart => exact ⟨[], 0, 0, 0, none, 0, rfl, Lib.hid rfl, Nat.zero_le _, hD⟩
    case round =>
     clear hD
     obtain ⟨l2, at_, err, L9, ao9, cap9, rfl, HL, hLn, hDD⟩ := hrel
     obtain ⟨x, hxx⟩ : ∃ x, x = wr := ⟨_, rfl⟩
     subst hxx
     obtain ⟨hS, hat, -, hwd, hDL, hDE⟩ := hDD.out
     have HS := Lib.hid hS; have hDE := Lib.hid hDE; have hwd := Lib.hid hwd
     obtain ⟨-, ⟨aoR, capR, hgR, -⟩, -⟩ := hS
     obtain ⟨c0, c1, c2, f1, f2⟩ := three_cells hgR
     clear hDD hgR
     by_cases hLlt : L9 < n
     · have dL : decide ((L9 : Int) < (n : Int)) = true := decide_eq_true (by omega)
       have dL2 : decide (L9 < n) = true := decide_eq_true hLlt
       by_cases he : err = 0
       · subst he
         replace hDL := Lib.hid (hDL rfl)
         have h1wd : 1 ≤ wd := hwd.out (by rw [← HL.out]; exact hLlt)
         have hl2 : Hid (l2.length < n) := Lib.hid (by rw [← HL.out]; exact hLlt)
         obtain ⟨c, hcc⟩ : ∃ c, c = b.drop at_ := ⟨_, rfl⟩
         obtain ⟨V, hV⟩ : ∃ V, V = (vgetM c).1 := ⟨_, rfl⟩
         obtain ⟨K, hK⟩ : ∃ K, K = (vgetM c).2.1 := ⟨_, rfl⟩
         obtain ⟨E, hE⟩ : ∃ E, E = (vgetM c).2.2 := ⟨_, rfl⟩
         have hKc : at_ + K ≤ b.length := by
          have h := vgetM_n c
          rw [← hK, hcc, List.length_drop] at h; omega
         have hV64 : V < 18446744073709551616 := by rw [hV]; exact vgetM_lt c
         have hread := rvread_any g (lo := w.heap.size) b at_ 0 x HS.out.2.1 hb hat H256.out
         have hrv : rvRead b at_ 0 = if E ≠ 0 then (0, at_, E) else (V, at_ + K, 0) := by
          unfold rvRead; rw [if_neg (by decide), ← hcc, ← hE, ← hV, ← hK]
         have hdr : decRow wd n c l2 = if E ≠ 0 then (c, l2, E) else if V % 2 = 0 then decRun wd n (c.drop K) l2 (V / 2) else decGrp wd n (c.drop K) l2 (V / 2) := by
          unfold decRow; rw [← hV, ← hK, ← hE]
         rw [← hcc] at hDL
         rw [hrv] at hread
         have Hcc := Lib.hid hcc
         clear hcc hV hK hE hrv
         by_cases hE0 : E ≠ 0
         · rw [if_pos hE0] at hread hdr
           have HRT : Hid (R = ([], E)) := Lib.hid (dec_fail hl2.out (by rw [hdr]) hE0 hDL.out)
           have b2 : ((E : Int) != 0) = true := by rw [bne_iff_ne]; omega
           have HeT := Lib.hid hE0
           have Hread := Lib.hid hread
           clear hread hdr hE0
           go_wp2_with fail
           refine Hread.out.mono ?_
           rintro e x1 ⟨rfl, hr1, hb1⟩
           have HT := Lib.hid (HS.out.step hr1 hb1)
           obtain ⟨aoR1, capR1, hgR1, -⟩ := hr1
           obtain ⟨q0, q1, q2, -, -⟩ := three_cells hgR1
           clear hgR1 hb1
           have hrrE := rend_any g b at_ E x1 HT.out.2.1
           rw [show rrEnd b at_ E = E by unfold rrEnd; rw [if_neg (fun h => HeT.out h.1)]] at hrrE
           have HrrE := Lib.hid hrrE
           clear hrrE
           go_wp2_with fail
           refine HrrE.out.mono ?_
           rintro e xe ⟨rfl, me, rfl⟩
           have Hbe := Lib.hid (below_drewN HT.out.2.2.2 me)
           go_wp2
           go_ret2
           rw [HRT.out]
           exact ⟨_, rfl, World.ownsRow_nil _ _ _ _, Hbe.out⟩
         rw [if_neg hE0] at hread hdr
         have Hread := Lib.hid hread; have Hdr := Lib.hid hdr
         obtain ⟨left, hleft⟩ : ∃ m, m = n - L9 := ⟨_, rfl⟩
         have hlf : Hid (left = n - l2.length) := Lib.hid (by rw [hleft, HL.out])
         have hlf1 : 1 ≤ left := by omega
         have hlf4 : left ≤ 4000 := by omega
         have eL : (n : Int) - (L9 : Int) = (left : Int) := by omega
         have ewl : IntKind.u64.wrap (left : Int) = (left : Int) := IntWalk.u64_in _ (by omega)
         have hLleft : L9 + left = n := by omega
         obtain ⟨k, hk⟩ : ∃ k, k = V / 2 := ⟨_, rfl⟩
         have ek : (V : Int) / 2 = (k : Int) := by omega
         have hk64 : k < 18446744073709551616 := by omega
         have ha1 := and1 V hV64
         obtain ⟨at1, hat1⟩ : ∃ a, a = at_ + K := ⟨_, rfl⟩
         rw [← hat1] at Hread hKc
         rw [← hk] at Hdr
         have hd1 : Hid (c.drop K = b.drop at1) := Lib.hid (by rw [Hcc.out, List.drop_drop, hat1])
         rw [hd1.out] at Hdr
         clear hread hdr hE0 hleft hat1 hk hV64
         by_cases hpar : V % 2 = 0
         · rw [if_pos hpar] at Hdr
           rw [hpar] at ha1
           have ha2 : bits .and .u64 (V : Int) 1 = 0 := ha1
           clear ha1 hpar
           obtain ⟨bw, hbw⟩ : ∃ bw, bw = (wd + 7) / 8 := ⟨_, rfl⟩
           have hbw2 : 1 ≤ bw ∧ bw ≤ 2 := by omega
           have ebw : ((wd : Int) + 7) / 8 = (bw : Int) := by omega
           have Hbw := Lib.hid hbw
           obtain ⟨P, hP⟩ : ∃ P, P = 2 ^ wd := ⟨_, rfl⟩
           have hP1 : 1 ≤ P ∧ P ≤ 65536 := by
            rw [hP]; exact ⟨Nat.two_pow_pos wd, Nat.pow_le_pow_right (by decide) h16⟩
           have eP : (2 : Int) ^ wd = (P : Int) := by rw [hP, Int.natCast_pow]; rfl
           have eP1 : IntKind.u64.wrap (P : Int) = (P : Int) := IntWalk.u64_in _ (by omega)
           have eP2 : IntKind.u64.wrap ((P : Int) - 1) = (P : Int) - 1 := IntWalk.u64_in _ (by omega)
           have eP3 : (P : Int) % 18446744073709551616 = (P : Int) := by omega
           have HP := Lib.hid hP
           clear hbw hP
           by_cases hbad : k = 0 ∨ left < k
           · have hrow : decRow wd n c l2 = (b.drop at1, l2, 10) := by rw [Hdr.out]; unfold decRun; rw [if_pos (by rw [← hlf.out]; exact hbad)]
             have HRT : Hid (R = ([], 10)) := Lib.hid (dec_fail hl2.out (by rw [hrow]) (by decide) hDL.out)
             have hrr0 := rrGet_err b at1 10 (bw : Int) (by decide)
             have hget := fun (y : World) h => rrget_any g (lo := w.heap.size) b at1 10 (bw : Int) y h hb hKc H256.out
             rw [hrr0] at hget
             have Hget := Lib.hid hget
             have dP : ¬ ((P : Int) - 1 < 0) := by omega
             have dP2 : ¬ ((P : Int) - 1 < ((0 : Nat) : Int)) := by omega
             clear hrow hrr0 hget
             by_cases hk0 : k = 0
             · subst hk0
               clear hbad
               go_wp2_with fail
               refine Hread.out.mono ?_
               rintro e x1 ⟨rfl, hr1, hb1⟩
               have HS1 := HS.out.step hr1 hb1
               have hfl := rfail_any g (lo := w.heap.size) b at1 0 10 x1 hr1
               rw [if_pos rfl] at hfl
               have Hfl := Lib.hid hfl
               obtain ⟨aoQ, capQ, q0, q1, q2⟩ := (hr1).cells3
               clear hfl
               go_wp2_with fail
               refine Hfl.out.mono ?_
               rintro e x2 ⟨rfl, hr2, hb2⟩
               have HS2 := HS1.step hr2 hb2
               clear q0 q1 q2
               go_wp2_with fail
               refine (Hget.out _ hr2).mono ?_
               rintro e x3 ⟨rfl, hr3, hb3⟩
               have HS3 := Lib.hid (HS2.step hr3 hb3)
               obtain ⟨aoQ, capQ, q0, q1, q2⟩ := (hr3).cells3
               clear hr1 hb1 HS1 hr2 hb2 HS2 hr3 hb3
               go_wp2
               go_loopw [9, 14] (fun v i y => v = .slice ao9 L9 cap9 ∧ i = .int .u64 0 ∧ Hid (RS w y g b at1 10 (.slice ao9 L9 cap9) l2)) (fun _ _ _ => 0)
               case atStart => exact ⟨rfl, rfl, HS3⟩
               case round =>
                clear HS3 q0 q1 q2
                obtain ⟨rfl, rfl, HS2⟩ := hrel
                obtain ⟨y, hyy⟩ : ∃ x, x = wr := ⟨_, rfl⟩
                subst hyy
                obtain ⟨aoQ, capQ, q0, q1, q2⟩ := (HS2.out.2.1).cells3
                go_wp2
                go_roundw
                case rel =>
                 have hD2 : Hid (DS w y g n wd b R (.slice ao9 L9 cap9) l2 (at1) 10) := Lib.hid ⟨HS2.out, by omega, by rw [← HL.out]; exact hLn, fun _ => h1wd, fun h => by simp at h, fun _ => HRT.out⟩
                 first | exact ⟨l2, _, _, L9, ao9, cap9, rfl, HL, hLn, hD2⟩ | ((repeat apply Exists.intro); refine ⟨?_, rfl⟩; exact ⟨l2, _, _, L9, ao9, cap9, rfl, HL, hLn, hD2⟩)
                case measure => rw [rmu_err HS2.out (by decide), rmu_zero HS.out]; omega
             · have bk : ((k : Int) == 0) = false := by rw [beq_eq_false_iff_ne]; omega
               have dk : decide ((left : Int) < (k : Int)) = true := decide_eq_true (by omega)
               have dk2 : decide (left < k) = true := decide_eq_true (by omega)
               have dk3 : (0 : Int) < (k : Int) := by omega
               have dk4 : decide ((0 : Int) < (k : Int)) = true := decide_eq_true dk3
               have dk5 : decide (0 < k) = true := decide_eq_true (by omega)
               clear hbad hk0
               go_wp2_with fail
               refine Hread.out.mono ?_
               rintro e x1 ⟨rfl, hr1, hb1⟩
               have HS1 := HS.out.step hr1 hb1
               have hfl := rfail_any g (lo := w.heap.size) b at1 0 10 x1 hr1
               rw [if_pos rfl] at hfl
               have Hfl := Lib.hid hfl
               obtain ⟨aoQ, capQ, q0, q1, q2⟩ := (hr1).cells3
               clear hfl
               go_wp2_with fail
               refine Hfl.out.mono ?_
               rintro e x2 ⟨rfl, hr2, hb2⟩
               have HS2 := HS1.step hr2 hb2
               clear q0 q1 q2
               go_wp2_with fail
               refine (Hget.out _ hr2).mono ?_
               rintro e x3 ⟨rfl, hr3, hb3⟩
               have HS3 := Lib.hid (HS2.step hr3 hb3)
               obtain ⟨aoQ, capQ, q0, q1, q2⟩ := (hr3).cells3
               clear hr1 hb1 HS1 hr2 hb2 HS2 hr3 hb3
               go_wp2
               go_loopw [9, 14] (fun v i y => v = .slice ao9 L9 cap9 ∧ i = .int .u64 0 ∧ Hid (RS w y g b at1 10 (.slice ao9 L9 cap9) l2)) (fun _ _ _ => 0)
               case atStart => exact ⟨rfl, rfl, HS3⟩
               case round =>
                clear HS3 q0 q1 q2
                obtain ⟨rfl, rfl, HS2⟩ := hrel
                obtain ⟨y, hyy⟩ : ∃ x, x = wr := ⟨_, rfl⟩
                subst hyy
                obtain ⟨aoQ, capQ, q0, q1, q2⟩ := (HS2.out.2.1).cells3
                go_wp2
                go_roundw
                case rel =>
                 have hD2 : Hid (DS w y g n wd b R (.slice ao9 L9 cap9) l2 (at1) 10) := Lib.hid ⟨HS2.out, by omega, by rw [← HL.out]; exact hLn, fun _ => h1wd, fun h => by simp at h, fun _ => HRT.out⟩
                 first | exact ⟨l2, _, _, L9, ao9, cap9, rfl, HL, hLn, hD2⟩ | ((repeat apply Exists.intro); refine ⟨?_, rfl⟩; exact ⟨l2, _, _, L9, ao9, cap9, rfl, HL, hLn, hD2⟩)
                case measure => rw [rmu_err HS2.out (by decide), rmu_zero HS.out]; omega
           have hk1 : 1 ≤ k ∧ k ≤ left := by omega
           have bk : ((k : Int) == 0) = false := by rw [beq_eq_false_iff_ne]; omega
           have dk : decide ((left : Int) < (k : Int)) = false := decide_eq_false (by omega)
           have dk2 : decide (left < k) = false := decide_eq_false (by omega)
           have dk3 : (0 : Int) < (k : Int) := by omega
           have dk4 : decide ((0 : Int) < (k : Int)) = true := decide_eq_true dk3
           have dk5 : decide (0 < k) = true := decide_eq_true (by omega)
           have Hdr2 : Hid (decRow wd n c l2 = if (b.drop at1).length < bw then (b.drop at1, l2, 8) else if numB ((b.drop at1).take bw) / P ≠ 0 then (b.drop at1, l2, 10) else ((b.drop at1).drop bw, l2 ++ List.replicate k (numB ((b.drop at1).take bw)), 0)) := Lib.hid (by
            rw [Hdr.out]; unfold decRun; rw [if_neg (by rw [← hlf.out]; omega), ← Hbw.out, ← HP.out])
           clear hbad
           by_cases hcut : (b.drop at1).length < bw
           · have hrow : decRow wd n c l2 = (b.drop at1, l2, 8) := by rw [Hdr2.out, if_pos hcut]
             have HRT : Hid (R = ([], 8)) := Lib.hid (dec_fail hl2.out (by rw [hrow]) (by decide) hDL.out)
             have hget := fun (y : World) h => rrget_any g (lo := w.heap.size) b at1 0 (bw : Int) y h hb hKc H256.out
             rw [rrGet_cut b at1 bw hbw2.1 (by omega) hKc hcut] at hget
             have Hget := Lib.hid hget
             have dP : ¬ ((P : Int) - 1 < 0) := by omega
             have dP2 : ¬ ((P : Int) - 1 < ((0 : Nat) : Int)) := by omega
             clear hrow hget hcut
             go_wp2_with fail
             refine Hread.out.mono ?_
             rintro e x1 ⟨rfl, hr1, hb1⟩
             have HS1 := HS.out.step hr1 hb1
             obtain ⟨aoQ, capQ, q0, q1, q2⟩ := (hr1).cells3
             go_wp2_with fail
             refine (Hget.out _ hr1).mono ?_
             rintro e x2 ⟨rfl, hr2, hb2⟩
             have HS2 := HS1.step hr2 hb2
             clear q0 q1 q2
             obtain ⟨aoQ, capQ, q0, q1, q2⟩ := (hr2).cells3
             have HS2 := Lib.hid HS2
             clear hr1 hb1 HS1 hr2 hb2
             go_wp2
             go_loopw [9, 14] (fun v i y => v = .slice ao9 L9 cap9 ∧ i = .int .u64 0 ∧ Hid (RS w y g b at1 8 (.slice ao9 L9 cap9) l2)) (fun _ _ _ => 0)
             case atStart => exact ⟨rfl, rfl, HS2⟩
             case round =>
              clear HS2 q0 q1 q2
              obtain ⟨rfl, rfl, HS2⟩ := hrel
              obtain ⟨y, hyy⟩ : ∃ x, x = wr := ⟨_, rfl⟩
              subst hyy
              obtain ⟨aoQ, capQ, q0, q1, q2⟩ := (HS2.out.2.1).cells3
              go_wp2
              go_roundw
              case rel =>
               have hD2 : Hid (DS w y g n wd b R (.slice ao9 L9 cap9) l2 (at1) 8) := Lib.hid ⟨HS2.out, by omega, by rw [← HL.out]; exact hLn, fun _ => h1wd, fun h => by simp at h, fun _ => HRT.out⟩
               first | exact ⟨l2, _, _, L9, ao9, cap9, rfl, HL, hLn, hD2⟩ | ((repeat apply Exists.intro); refine ⟨?_, rfl⟩; exact ⟨l2, _, _, L9, ao9, cap9, rfl, HL, hLn, hD2⟩)
              case measure => rw [rmu_err HS2.out (by decide), rmu_zero HS.out]; omega
           have hget := fun (y : World) h => rrget_any g (lo := w.heap.size) b at1 0 (bw : Int) y h hb hKc H256.out
           rw [rrGet_ok b at1 bw hbw2.1 (by omega) (by omega)] at hget
           obtain ⟨X, hX⟩ : ∃ X, X = numB ((b.drop at1).take bw) := ⟨_, rfl⟩
           rw [← hX] at hget
           rw [if_neg hcut, ← hX] at Hdr2
           have hat2 : at1 + bw ≤ b.length := by rw [List.length_drop] at hcut; omega
           have hX64 : X < 65536 := by
            have h := numB_lt ((b.drop at1).take bw) (fun y hy => H256.out y (List.mem_of_mem_drop (List.mem_of_mem_take hy)))
            rw [List.length_take, Nat.min_eq_left (by omega), ← hX] at h
            exact Nat.lt_of_lt_of_le h (Nat.pow_le_pow_right (by decide) hbw2.2)
           have Hget := Lib.hid hget
           clear hcut hget hX
           by_cases hgr : P ≤ X
           · have hrow : decRow wd n c l2 = (b.drop at1, l2, 10) := by rw [Hdr2.out, if_pos (by have := Nat.div_pos hgr hP1.1; omega)]
             have HRT : Hid (R = ([], 10)) := Lib.hid (dec_fail hl2.out (by rw [hrow]) (by decide) hDL.out)
             have dX : (P : Int) - 1 < (X : Int) := by omega
             clear hrow hgr
             go_wp2_with fail
             refine Hread.out.mono ?_
             rintro e x1 ⟨rfl, hr1, hb1⟩
             have HS1 := HS.out.step hr1 hb1
             obtain ⟨aoQ, capQ, q0, q1, q2⟩ := (hr1).cells3
             go_wp2_with fail
             refine (Hget.out _ hr1).mono ?_
             rintro e x2 ⟨rfl, hr2, hb2⟩
             have HS2 := HS1.step hr2 hb2
             clear q0 q1 q2
             have hfl := rfail_any g (lo := w.heap.size) b (at1 + bw) 0 10 x2 hr2
             rw [if_pos rfl] at hfl
             have Hfl := Lib.hid hfl
             clear hfl hr1 hb1 HS1
             go_wp2_with fail
             refine Hfl.out.mono ?_
             rintro e x3 ⟨rfl, hr3, hb3⟩
             have HS3 := Lib.hid (HS2.step hr3 hb3)
             obtain ⟨aoQ, capQ, q0, q1, q2⟩ := (hr3).cells3
             clear hr2 hb2 HS2 hr3 hb3
             go_wp2
             go_loopw [9, 14] (fun v i y => v = .slice ao9 L9 cap9 ∧ i = .int .u64 0 ∧ Hid (RS w y g b (at1 + bw) 10 (.slice ao9 L9 cap9) l2)) (fun _ _ _ => 0)
             case atStart => exact ⟨rfl, rfl, HS3⟩
             case round =>
              clear HS3 q0 q1 q2
              obtain ⟨rfl, rfl, HS2⟩ := hrel
              obtain ⟨y, hyy⟩ : ∃ x, x = wr := ⟨_, rfl⟩
              subst hyy
              obtain ⟨aoQ, capQ, q0, q1, q2⟩ := (HS2.out.2.1).cells3
              go_wp2
              go_roundw
              case rel =>
               have hD2 : Hid (DS w y g n wd b R (.slice ao9 L9 cap9) l2 (at1 + bw) 10) := Lib.hid ⟨HS2.out, by omega, by rw [← HL.out]; exact hLn, fun _ => h1wd, fun h => by simp at h, fun _ => HRT.out⟩
               first | exact ⟨l2, _, _, L9, ao9, cap9, rfl, HL, hLn, hD2⟩ | ((repeat apply Exists.intro); refine ⟨?_, rfl⟩; exact ⟨l2, _, _, L9, ao9, cap9, rfl, HL, hLn, hD2⟩)
              case measure => rw [rmu_err HS2.out (by decide), rmu_zero HS.out]; omega
           have hrow : decRow wd n c l2 = (b.drop (at1 + bw), l2 ++ List.replicate k X, 0) := by
            rw [Hdr2.out, if_neg (by rw [Nat.div_eq_of_lt (by omega)]; simp), List.drop_drop]
           have hnx := dec_next hl2.out hrow hDL.out
           have Hnx := Lib.hid hnx
           have dX : ¬ ((P : Int) - 1 < (X : Int)) := by omega
           have eX : IntKind.i64.wrap (X : Int) = (X : Int) := IntWalk.i64_in _ (by omega)
           clear hrow hnx hgr
           go_wp2_with fail
           refine Hread.out.mono ?_
           rintro e x1 ⟨rfl, hr1, hb1⟩
           have HS1 := HS.out.step hr1 hb1
           obtain ⟨aoQ, capQ, q0, q1, q2⟩ := (hr1).cells3
           go_wp2_with fail
           refine (Hget.out _ hr1).mono ?_
           rintro e x2 ⟨rfl, hr2, hb2⟩
           have HS2 := Lib.hid (HS1.step hr2 hb2)
           clear q0 q1 q2 hr1 hb1 HS1 hr2 hb2
           go_wp2
           go_loopw [9, 14] (fun v i y => ∃ (j M : Nat) (aoJ : Option Addr) (capJ : Nat), j ≤ k ∧ v = .slice aoJ M capJ ∧ Hid (M = L9 + j) ∧ i = .int .u64 (j : Nat) ∧ Hid (RS w y g b (at1 + bw) 0 (.slice aoJ M capJ) (l2 ++ List.replicate j X))) (fun _ i _ => k - (intOf i).toNat)
           case atStart => exact ⟨0, L9, ao9, cap9, Nat.zero_le _, rfl, Lib.hid rfl, rfl, by simpa using HS2⟩
           case round =>
            clear HS2
            obtain ⟨j, M, aoJ, capJ, hj, rfl, hM, rfl, hSJ⟩ := hrel
            obtain ⟨y, hyy⟩ : ∃ x, x = wr := ⟨_, rfl⟩
            subst hyy
            obtain ⟨aoQ, capQ, q0, q1, q2⟩ := (hSJ.out.2.1).cells3
            have HM : Hid (M = (l2 ++ List.replicate j X).length) := Lib.hid (by rw [List.length_append, List.length_replicate, hM.out, HL.out])
            have hM4 : M ≤ 4000 := by have := hM.out; omega
            by_cases hjk : j < k
            · have dj : decide ((j : Int) < (k : Int)) = true := decide_eq_true (by omega)
              have dj2 : decide (j < k) = true := decide_eq_true hjk
              have hown := hSJ.out.2.2.1
              rw [← HM.out] at hown
              have hownA := own_below hown ((Below.refl _ _).alloc (Nat.le_refl _) (.cells #[.int .i64 (X : Nat)] 3))
              have hsA : g + 1 ≤ (y.alloc (.cells #[.int .i64 (X : Nat)] 3)).heap.size := Nat.le_trans hSJ.out.2.1.lt (by simp)
              clear hown
              go_wp2_with (at_builtin; refine wpList_append_all1 sl_i rfl (.tmp 109) (.tmp 112) rfl rfl hownA rfl (cells_one y 3 (.int .i64 (X : Nat))) (fun h => by cases h) (fun _ _ => rfl) (by unfold maxLen; omega) (by omega) hsA ?_)
              intro v' x3 ho3 hg3
              obtain ⟨ao', cap', rfl, hS3⟩ := RS.app HM.out hSJ.out ho3 hg3
              rw [List.append_assoc, ← List.replicate_succ'] at hS3
              have HS3 := Lib.hid hS3
              clear hS3 ho3 hg3 hownA hsA hSJ q0 q1 q2
              go_wp2
              go_roundw
              case rel => exact ⟨j + 1, M + 1, ao', cap', hjk, rfl, Lib.hid (by rw [hM.out]; rfl), by go_num, HS3⟩
              case measure => simp [intOf]; omega
            · obtain rfl : j = k := by omega
              have dj : decide ((j : Int) < (j : Int)) = false := decide_eq_false (by omega)
              go_wp2
              go_roundw
              case rel =>
               have hD2 : Hid (DS w y g n wd b R (.slice aoJ M capJ) (l2 ++ List.replicate j X) (at1 + bw) 0) := Lib.hid ⟨hSJ.out, hat2, Hnx.out.2.2, fun _ => h1wd, fun _ => Hnx.out.1, fun h => absurd rfl h⟩
               have hMn : M ≤ n := by have := hM.out; omega
               first | exact ⟨_, _, _, M, aoJ, capJ, rfl, HM, hMn, hD2⟩ | ((repeat apply Exists.intro); refine ⟨?_, rfl⟩; exact ⟨_, _, _, M, aoJ, capJ, rfl, HM, hMn, hD2⟩)
              case measure =>
               rw [rmu_zero hSJ.out, rmu_zero HS.out]; have := hM.out; omega
         have hpar1 : V % 2 = 1 := by omega
         rw [if_neg hpar] at Hdr
         rw [hpar1] at ha1
         have ha2 : bits .and .u64 (V : Int) 1 = 1 := ha1
         clear ha1 hpar hpar1
         by_cases hbad : k = 0 ∨ n < k ∨ left ≤ 8 * (k - 1)
         · have hrow : decRow wd n c l2 = (b.drop at1, l2, 10) := by rw [Hdr.out]; unfold decGrp; rw [if_pos (by rw [← hlf.out]; exact hbad)]
           have HRT : Hid (R = ([], 10)) := Lib.hid (dec_fail hl2.out (by rw [hrow]) (by decide) hDL.out)
           have HeT : Hid (10 ≠ 0) := Lib.hid (by decide)
           clear hrow
           by_cases hk0 : k = 0
           · subst hk0
             clear hbad
             go_wp2_with fail
             refine Hread.out.mono ?_
             rintro e x1 ⟨rfl, hr1, hb1⟩
             have HS1 := HS.out.step hr1 hb1
             have hfl := rfail_any g (lo := w.heap.size) b at1 0 10 x1 hr1
             rw [if_pos rfl] at hfl
             have Hfl := Lib.hid hfl
             obtain ⟨aoQ, capQ, q0, q1, q2⟩ := (hr1).cells3
             clear hfl
             go_wp2_with fail
             refine Hfl.out.mono ?_
             rintro e x2 ⟨rfl, hr2, hb2⟩
             have HT := Lib.hid (HS1.step hr2 hb2)
             clear q0 q1 q2 hr1 hb1 HS1 hr2 hb2
             have hrrE := rend_any g b at1 10 x2 HT.out.2.1
             rw [show rrEnd b at1 10 = 10 by unfold rrEnd; rw [if_neg (fun h => HeT.out h.1)]] at hrrE
             have HrrE := Lib.hid hrrE
             clear hrrE
             go_wp2_with fail
             refine HrrE.out.mono ?_
             rintro e xe ⟨rfl, me, rfl⟩
             have Hbe := Lib.hid (below_drewN HT.out.2.2.2 me)
             go_wp2
             go_ret2
             rw [HRT.out]
             exact ⟨_, rfl, World.ownsRow_nil _ _ _ _, Hbe.out⟩
           have bk : ((k : Int) == 0) = false := by rw [beq_eq_false_iff_ne]; omega
           by_cases hk4 : 4000 < k
           · have dk : decide ((4000 : Int) < (k : Int)) = true := decide_eq_true (by omega)
             have dk2 : decide (4000 < k) = true := decide_eq_true hk4
             clear hbad hk0 hk4
             go_wp2_with fail
             refine Hread.out.mono ?_
             rintro e x1 ⟨rfl, hr1, hb1⟩
             have HS1 := HS.out.step hr1 hb1
             have hfl := rfail_any g (lo := w.heap.size) b at1 0 10 x1 hr1
             rw [if_pos rfl] at hfl
             have Hfl := Lib.hid hfl
             obtain ⟨aoQ, capQ, q0, q1, q2⟩ := (hr1).cells3
             clear hfl
             go_wp2_with fail
             refine Hfl.out.mono ?_
             rintro e x2 ⟨rfl, hr2, hb2⟩
             have HT := Lib.hid (HS1.step hr2 hb2)
             clear q0 q1 q2 hr1 hb1 HS1 hr2 hb2
             have hrrE := rend_any g b at1 10 x2 HT.out.2.1
             rw [show rrEnd b at1 10 = 10 by unfold rrEnd; rw [if_neg (fun h => HeT.out h.1)]] at hrrE
             have HrrE := Lib.hid hrrE
             clear hrrE
             go_wp2_with fail
             refine HrrE.out.mono ?_
             rintro e xe ⟨rfl, me, rfl⟩
             have Hbe := Lib.hid (below_drewN HT.out.2.2.2 me)
             go_wp2
             go_ret2
             rw [HRT.out]
             exact ⟨_, rfl, World.ownsRow_nil _ _ _ _, Hbe.out⟩
           have dk : decide ((4000 : Int) < (k : Int)) = false := decide_eq_false (by omega)
           have dk2 : decide (4000 < k) = false := decide_eq_false hk4
           have ekm : IntKind.u64.wrap ((k : Int) - 1) = (k : Int) - 1 := IntWalk.u64_in _ (by omega)
           have ekm8 : IntKind.u64.wrap (8 * ((k : Int) - 1)) = 8 * ((k : Int) - 1) := IntWalk.u64_in _ (by omega)
           have d8 : decide ((left : Int) ≤ 8 * ((k : Int) - 1)) = true := decide_eq_true (by omega)
           clear hbad hk0 hk4
           go_wp2_with fail
           refine Hread.out.mono ?_
           rintro e x1 ⟨rfl, hr1, hb1⟩
           have HS1 := HS.out.step hr1 hb1
           have hfl := rfail_any g (lo := w.heap.size) b at1 0 10 x1 hr1
           rw [if_pos rfl] at hfl
           have Hfl := Lib.hid hfl
           obtain ⟨aoQ, capQ, q0, q1, q2⟩ := (hr1).cells3
           clear hfl
           go_wp2_with fail
           refine Hfl.out.mono ?_
           rintro e x2 ⟨rfl, hr2, hb2⟩
           have HT := Lib.hid (HS1.step hr2 hb2)
           clear q0 q1 q2 hr1 hb1 HS1 hr2 hb2
           have hrrE := rend_any g b at1 10 x2 HT.out.2.1
           rw [show rrEnd b at1 10 = 10 by unfold rrEnd; rw [if_neg (fun h => HeT.out h.1)]] at hrrE
           have HrrE := Lib.hid hrrE
           clear hrrE
           go_wp2_with fail
           refine HrrE.out.mono ?_
           rintro e xe ⟨rfl, me, rfl⟩
           have Hbe := Lib.hid (below_drewN HT.out.2.2.2 me)
           go_wp2
           go_ret2
           rw [HRT.out]
           exact ⟨_, rfl, World.ownsRow_nil _ _ _ _, Hbe.out⟩
         have hk1 : 1 ≤ k ∧ k ≤ 4000 ∧ 8 * (k - 1) < left := by omega
         have bk : ((k : Int) == 0) = false := by rw [beq_eq_false_iff_ne]; omega
         have dk : decide ((4000 : Int) < (k : Int)) = false := decide_eq_false (by omega)
         have dk2 : decide (4000 < k) = false := decide_eq_false (by omega)
         have ekm : IntKind.u64.wrap ((k : Int) - 1) = (k : Int) - 1 := IntWalk.u64_in _ (by omega)
         have ekm8 : IntKind.u64.wrap (8 * ((k : Int) - 1)) = 8 * ((k : Int) - 1) := IntWalk.u64_in _ (by omega)
         have d8 : decide ((left : Int) ≤ 8 * ((k : Int) - 1)) = false := decide_eq_false (by omega)
         have eki : IntKind.i64.wrap (k : Int) = (k : Int) := IntWalk.i64_in _ (by omega)
         obtain ⟨kw, hkw⟩ : ∃ kw, kw = k * wd := ⟨_, rfl⟩
         have hkw64 : kw ≤ 64000 := by rw [hkw]; exact Nat.mul_le_mul hk1.2.1 h16
         have hkw1 : 1 ≤ kw := by rw [hkw]; exact Nat.mul_le_mul hk1.1 h1wd
         have ekw : (k : Int) * (wd : Int) = (kw : Int) := by rw [hkw, Int.natCast_mul]
         have Hdr2 : Hid (decRow wd n c l2 = if (b.drop at1).length < kw then (b.drop at1, l2, 8) else if ((unpacked ((b.drop at1).take kw) (8 * k) wd).drop left).all (· == 0) then ((b.drop at1).drop kw, l2 ++ (unpacked ((b.drop at1).take kw) (8 * k) wd).take left, 0) else (b.drop at1, l2, 10)) := Lib.hid (by
          rw [Hdr.out]; unfold decGrp; rw [if_neg (by rw [← hlf.out]; omega), ← hkw, ← hlf.out])
         have Hkw := Lib.hid hkw
         clear hbad hkw
         by_cases hcut : (b.drop at1).length < kw
         · have hrow : decRow wd n c l2 = (b.drop at1, l2, 8) := by rw [Hdr2.out, if_pos hcut]
           have HRT : Hid (R = ([], 8)) := Lib.hid (dec_fail hl2.out (by rw [hrow]) (by decide) hDL.out)
           have HeT : Hid (8 ≠ 0) := Lib.hid (by decide)
           have htk := fun (y : World) h => rrtake_any g (lo := w.heap.size) b at1 0 (kw : Int) y h hb hKc
           rw [rrTake_cut b at1 kw hkw1 hKc hcut] at htk
           have Htk := Lib.hid htk
           clear hrow htk hcut
           go_wp2_with fail
           refine Hread.out.mono ?_
           rintro e x1 ⟨rfl, hr1, hb1⟩
           have HS1 := HS.out.step hr1 hb1
           obtain ⟨aoQ, capQ, q0, q1, q2⟩ := (hr1).cells3
           go_wp2_with fail
           refine (Htk.out _ hr1).mono ?_
           rintro e x2 ⟨aoT, capT, rfl, -, -, hr2, hb2⟩
           have HT := Lib.hid (HS1.step hr2 hb2)
           clear q0 q1 q2
           obtain ⟨aoQ, capQ, q0, q1, q2⟩ := (hr2).cells3
           clear hr1 hb1 HS1 hr2 hb2
           have hrrE := rend_any g b at1 8 x2 HT.out.2.1
           rw [show rrEnd b at1 8 = 8 by unfold rrEnd; rw [if_neg (fun h => HeT.out h.1)]] at hrrE
           have HrrE := Lib.hid hrrE
           clear hrrE
           go_wp2_with fail
           refine HrrE.out.mono ?_
           rintro e xe ⟨rfl, me, rfl⟩
           have Hbe := Lib.hid (below_drewN HT.out.2.2.2 me)
           go_wp2
           go_ret2
           rw [HRT.out]
           exact ⟨_, rfl, World.ownsRow_nil _ _ _ _, Hbe.out⟩
         have hat2 : at1 + kw ≤ b.length := by rw [List.length_drop] at hcut; omega
         have hxl : Hid (((b.drop at1).take kw).length = kw) := Lib.hid (by rw [List.length_take]; omega)
         have htk := fun (y : World) h => rrtake_any g (lo := w.heap.size) b at1 0 (kw : Int) y h hb hKc
         rw [rrTake_ok b at1 kw hkw1 (by omega)] at htk
         obtain ⟨xx, hxx2⟩ : ∃ xx, xx = (b.drop at1).take kw := ⟨_, rfl⟩
         rw [← hxx2] at htk hxl
         rw [if_neg hcut, ← hxx2] at Hdr2
         have Htk := Lib.hid htk
         obtain ⟨U, hU⟩ : ∃ U, U = unpacked xx (8 * k) wd := ⟨_, rfl⟩
         have hk500 : 8 * k ≤ 4000 := by omega
         have hsp := unpackSpec_groups xx k wd h16 hk500 (by rw [hxl.out, Hkw.out])
         have hUl : Hid (U.length = 8 * k) := Lib.hid (by rw [hU, unpacked_length])
         have hU16 : Hid (∀ i, U.getD i 0 < 65536) := Lib.hid (fun i => by
          by_cases h : i < 8 * k
          · rw [hU, unpacked_at _ _ _ _ h]
            exact Nat.lt_of_lt_of_le (numOf_lt _ _) (Nat.pow_le_pow_right (by decide) h16)
          · rw [List.getD_eq_getElem?_getD, List.getElem?_eq_none (by rw [hUl.out]; omega)]; decide)
         rw [← hU] at hsp
         rw [← hU] at Hdr2
         have hun := fun (ao2 : Option Addr) (cap2 : Nat) (y : World) h => runpack_any ao2 kw cap2 ((8 * k : Nat) : Int) (wd : Nat) xx y hxl.out (fun z hz => H256.out z (by rw [hxx2] at hz; exact List.mem_of_mem_drop (List.mem_of_mem_take hz))) (by omega) h
         rw [hsp] at hun
         rw [show ((8 * k : Nat) : Int) = 8 * (k : Int) by omega] at hun
         have Hun := Lib.hid hun
         clear hcut htk hxx2 hU hsp hun
         go_wp2_with fail
         refine Hread.out.mono ?_
         rintro e x1 ⟨rfl, hr1, hb1⟩
         have HS1 := HS.out.step hr1 hb1
         obtain ⟨aoQ, capQ, q0, q1, q2⟩ := (hr1).cells3
         go_wp2_with fail
         refine (Htk.out _ hr1).mono ?_
         rintro e x2 ⟨aoT, capT, rfl, hcT, -, hr2, hb2⟩
         rw [hxl.out] at hcT
         have HS2 := HS1.step hr2 hb2
         clear q0 q1 q2
         obtain ⟨aoQ, capQ, q0, q1, q2⟩ := (hr2).cells3
         have HcT := Lib.hid hcT
         clear hr1 hb1 HS1 hcT
         simp only [hxl.out]
         go_wp2_with fail
         refine (Hun.out aoT capT _ HcT.out).mono ?_
         rintro e x3 ⟨vU, rfl, hfU⟩
         have HS3 := Lib.hid (HS2.keep hfU.2)
         obtain ⟨hoU0, -⟩ := hfU
         rw [u64v_length, hUl.out] at hoU0
         obtain ⟨aoU, capU, rfl, -, -⟩ := own_u64 hoU0
         obtain ⟨gU, rfl, hgUl⟩ := own_shape (by omega) hoU0
         have HoU := Lib.hid (own_base hoU0 (Nat.zero_le _))
         obtain ⟨m8, hm8⟩ : ∃ m8, m8 = 8 * k := ⟨_, rfl⟩
         rw [← hm8] at HoU hUl
         have hgUg : g < gU := Nat.lt_of_lt_of_le HS2.2.1.lt hgUl
         have hm84 : m8 ≤ 4000 := by omega
         have Hm8 := Lib.hid hm8
         simp only [← hm8]
         clear hoU0 hgUl HS2 hr2 hb2 q0 q1 q2 hm8
         go_wp2
         go_loopw [9, 18] (fun v i y => ∃ (j e M : Nat) (aoJ : Option Addr) (capJ : Nat), j ≤ m8 ∧ v = .slice aoJ M capJ ∧ Hid (M = L9 + min j left) ∧ i = .int .i64 (j : Nat) ∧ Hid (RS w y g b (at1 + kw) e (.slice aoJ M capJ) (l2 ++ U.take (min j left))) ∧ Hid (EJ U left e j) ∧ Hid (y.ownsRow 0 61 1 (.slice (some ⟨gU, 0, none⟩) m8 capU) m8 (u64v U))) (fun _ i _ => m8 - (intOf i).toNat)
         case atStart => exact ⟨0, 0, L9, ao9, cap9, Nat.zero_le _, rfl, Lib.hid (by simp), rfl, by simpa using HS3, Lib.hid (.inl ⟨rfl, fun i _ h => by omega⟩), HoU⟩
         case round =>
          clear HS3 HoU
          obtain ⟨j, e, M, aoJ, capJ, hj, rfl, hM, rfl, hSJ, hej, hoU⟩ := hrel
          obtain ⟨y, hyy⟩ : ∃ x, x = wr := ⟨_, rfl⟩
          subst hyy
          have HM : Hid (M = (l2 ++ U.take (min j left)).length) := Lib.hid (by rw [List.length_append, List.length_take, hUl.out, hM.out, HL.out]; omega)
          have hM4 : M ≤ 4000 := by have := hM.out; omega
          by_cases hjm : j < m8
          · have e2 : (j : Int) < (m8 : Int) := by omega
            have e3 : (0 : Int) ≤ (j : Int) := by omega
            have ewj : IntKind.u64.wrap (j : Int) = (j : Int) := IntWalk.u64_in _ (by omega)
            have hcell := cell_u64 hoU.out j hjm
            obtain ⟨Y, hY⟩ : ∃ Y, Y = U.getD j 0 := ⟨_, rfl⟩
            rw [u64c, ← hY] at hcell
            have hY16 : Y < 65536 := by rw [hY]; exact hU16.out j
            have HY := Lib.hid hY
            clear hY
            by_cases hjl : j < left
            · have dj : (j : Int) < (left : Int) := by omega
              have eY : IntKind.i64.wrap (Y : Int) = (Y : Int) := IntWalk.i64_in _ (by omega)
              have hown := hSJ.out.2.2.1
              rw [← HM.out] at hown
              have hbA := (Below.refl y.heap.size y).alloc (Nat.le_refl _) (.cells #[.int .i64 (Y : Nat)] 3)
              have hownA := own_below hown hbA
              have hsA : g + 1 ≤ (y.alloc (.cells #[.int .i64 (Y : Nat)] 3)).heap.size := Nat.le_trans hSJ.out.2.1.lt (by simp)
              have HoUA := Lib.hid (own_below hoU.out hbA)
              clear hown hbA
              go_wp2_with (at_builtin; refine wpList_append_all1 sl_i rfl (.tmp 159) (.tmp 165) rfl rfl hownA rfl (cells_one y 3 (.int .i64 (Y : Nat))) (fun h => by cases h) (fun _ _ => rfl) (by unfold maxLen; omega) (by omega) hsA ?_)
              intro v' x3 ho3 hg3
              have hoUN : x3.ownsRow 0 61 1 (.slice (some ⟨gU, 0, none⟩) m8 capU) m8 (u64v U) := by
               have h := HoUA.out
               rcases h.2 with ⟨hh, -⟩ | ⟨g5, cap5, cur5, hh, q1, q2, q3⟩
               · simp at hh
               · simp only [Value.slice.injEq, Option.some.injEq, Addr.mk.injEq] at hh
                 obtain ⟨⟨rfl, -⟩, -, rfl⟩ := hh
                 have hne := own_ne hownA q2
                 refine ⟨h.1, .inr ⟨gU, capU, cur5, rfl, q1, ?_, q3⟩⟩
                 rw [hg3.block gU (Array.getElem?_eq_some_iff.1 q2).1 (fun e => hne e.symm), q2]
              obtain ⟨ao', cap', rfl, hS3⟩ := RS.app HM.out hSJ.out ho3 hg3
              rw [List.append_assoc, HY.out, ← take_min_succ U j left (by rw [hUl.out]; exact hjm) hjl] at hS3
              have HS3 := Lib.hid hS3; have HoUN := Lib.hid hoUN
              have hej2 : Hid (EJ U left e (j + 1)) := Lib.hid (hej.out.imp (fun h => ⟨h.1, fun i h1 h2 => by omega⟩) (fun ⟨h1, i, h2, h3, h4⟩ => ⟨h1, i, h2, by omega, h4⟩))
              clear hS3 ho3 hg3 hownA hsA hSJ hoUN hej
              go_wp2
              go_roundw
              case rel => exact ⟨j + 1, e, M + 1, ao', cap', hjm, rfl, Lib.hid (by have := hM.out; omega), by go_num, HS3, hej2, HoUN⟩
              case measure => simp [intOf]; omega
            · have dj : ¬ (j : Int) < (left : Int) := by omega
              have htks := take_min_same U j left (by omega)
              rw [← htks] at hSJ
              have hM2 : Hid (M = L9 + min (j + 1) left) := Lib.hid (by have := hM.out; omega)
              by_cases hYz : Y = 0
              · subst hYz
                have hej2 : Hid (EJ U left e (j + 1)) := Lib.hid (hej.out.imp (fun h => ⟨h.1, fun i h1 h2 => by
                 by_cases hi : i = j
                 · subst hi; exact HY.out.symm
                 · exact h.2 i h1 (by omega)⟩) (fun ⟨h1, i, h2, h3, h4⟩ => ⟨h1, i, h2, by omega, h4⟩))
                clear htks hej hjl
                go_wp2
                go_roundw
                case rel => exact ⟨j + 1, e, M, aoJ, capJ, hjm, rfl, hM2, by go_num, hSJ, hej2, hoU⟩
                case measure => simp [intOf]; omega
              · have bY : ((Y : Int) != 0) = true := by rw [bne_iff_ne]; omega
                have hej2 : Hid (EJ U left 10 (j + 1)) := Lib.hid (.inr ⟨rfl, j, by omega, by omega, by rw [← HY.out]; exact hYz⟩)
                have hfl := rfail_any g (lo := w.heap.size) b (at1 + kw) e 10 y hSJ.out.2.1
                rw [show (if e = 0 then 10 else e) = 10 by rcases hej.out with h | h <;> rw [h.1] <;> rfl] at hfl
                have Hfl := Lib.hid hfl
                clear htks hej hjl hYz hfl
                go_wp2_with fail
                refine Hfl.out.mono ?_
                rintro r x3 ⟨rfl, hr3, hb3⟩
                have HS3 := Lib.hid (hSJ.out.step hr3 hb3)
                have HoU3 := Lib.hid (own_butU hoU.out hb3 (by omega))
                clear hr3 hb3 hoU hSJ
                go_wp2
                go_roundw
                case rel => exact ⟨j + 1, 10, M, aoJ, capJ, hjm, rfl, hM2, by go_num, HS3, hej2, HoU3⟩
                case measure => simp [intOf]; omega
          · obtain rfl : j = m8 := by omega
            have e2 : ¬ (j : Int) < (j : Int) := by omega
            have htk2 : U.take (min j left) = U.take left := by
             rcases Nat.le_total left j with h | h
             · rw [Nat.min_eq_right h]
             · rw [Nat.min_eq_left h, List.take_of_length_le (l := U) (i := j) (by rw [hUl.out]; exact Nat.le_refl _), List.take_of_length_le (by rw [hUl.out]; exact h)]
            rw [htk2] at hSJ HM
            have hMn : M ≤ n := by have := hM.out; omega
            rcases hej.out with ⟨he0, hzz⟩ | ⟨he1, i, hi1, hi2, hi3⟩
            · subst he0
              have hall := all_zero U left (fun i h1 h2 => hzz i h1 (by rw [← hUl.out]; exact h2))
              have hrow : decRow wd n c l2 = (b.drop (at1 + kw), l2 ++ U.take left, 0) := by rw [Hdr2.out, if_pos hall, List.drop_drop]
              have hnx := dec_next hl2.out hrow hDL.out
              have hD2 : Hid (DS w y g n wd b R (.slice aoJ M capJ) (l2 ++ U.take left) (at1 + kw) 0) := Lib.hid ⟨hSJ.out, hat2, hnx.2.2, fun _ => h1wd, fun _ => hnx.1, fun h => absurd rfl h⟩
              have hMlt : L9 < M := by
               have h := hnx.2.1
               rw [← HM.out, ← HL.out] at h; exact h
              clear hall hrow hnx hej hzz htk2
              go_wp2
              go_roundw
              case rel => first | exact ⟨_, _, _, M, aoJ, capJ, rfl, HM, hMn, hD2⟩ | ((repeat apply Exists.intro); refine ⟨?_, rfl⟩; exact ⟨_, _, _, M, aoJ, capJ, rfl, HM, hMn, hD2⟩)
              case measure => rw [rmu_zero hSJ.out, rmu_zero HS.out]; omega
            · subst he1
              have hnz := not_all_zero U left i hi1 (by rw [hUl.out]; exact hi2) hi3
              have hrow : decRow wd n c l2 = (b.drop at1, l2, 10) := by rw [Hdr2.out, if_neg (by rw [hnz]; decide)]
              have HRT := dec_fail hl2.out (by rw [hrow]) (show (10 : Nat) ≠ 0 by decide) hDL.out
              have hD2 : Hid (DS w y g n wd b R (.slice aoJ M capJ) (l2 ++ U.take left) (at1 + kw) 10) := Lib.hid ⟨hSJ.out, hat2, by rw [← HM.out]; exact hMn, fun _ => h1wd, fun h => by simp at h, fun _ => HRT⟩
              clear hnz hrow HRT hej htk2
              go_wp2
              go_roundw
              case rel => first | exact ⟨_, _, _, M, aoJ, capJ, rfl, HM, hMn, hD2⟩ | ((repeat apply Exists.intro); refine ⟨?_, rfl⟩; exact ⟨_, _, _, M, aoJ, capJ, rfl, HM, hMn, hD2⟩)
              case measure => rw [rmu_err hSJ.out (by decide), rmu_zero HS.out]; omega
       · have b1 : ((err : Int) == 0) = false := by rw [beq_eq_false_iff_ne]; omega
         have b2 : ((err : Int) != 0) = true := by rw [bne_iff_ne]; omega
         have HeT := Lib.hid he
         have HRT := Lib.hid (hDE.out he)
         have HT := HS
         clear he hDL
         have hrrE := rend_any g b at_ err x HT.out.2.1
         rw [show rrEnd b at_ err = err by unfold rrEnd; rw [if_neg (fun h => HeT.out h.1)]] at hrrE
         have HrrE := Lib.hid hrrE
         clear hrrE
         go_wp2_with fail
         refine HrrE.out.mono ?_
         rintro e xe ⟨rfl, me, rfl⟩
         have Hbe := Lib.hid (below_drewN HT.out.2.2.2 me)
         go_wp2
         go_ret2
         rw [HRT.out]
         exact ⟨_, rfl, World.ownsRow_nil _ _ _ _, Hbe.out⟩
     · have dL : decide ((L9 : Int) < (n : Int)) = false := decide_eq_false (by omega)
       have dL2 : decide (L9 < n) = false := decide_eq_false hLlt
       by_cases he : err = 0
       · subst he
         replace hDL := Lib.hid (hDL rfl)
         have hrr0 := rend_any g b at_ 0 x HS.out.2.1
         have HrrE := Lib.hid hrr0
         clear hrr0
         have hdn := decL_done wd n (n - l2.length) (b.drop at_) l2 (by have := HL.out; omega)
         rw [hDL.out] at hdn
         have Hdn := Lib.hid hdn
         clear hdn
         by_cases hend : at_ < b.length
         · have hee : Hid (rrEnd b at_ 0 = 9) := Lib.hid (by unfold rrEnd; rw [if_pos ⟨rfl, hend⟩])
           rw [hee.out] at HrrE
           have HR9 : Hid (R = ([], 9)) := Lib.hid (by rw [Hdn.out, if_pos (by rw [List.length_drop]; omega)])
           clear hend
           go_wp2_with fail
           refine HrrE.out.mono ?_
           rintro e xe ⟨rfl, me, rfl⟩
           have Hbe := Lib.hid (below_drewN HS.out.2.2.2 me)
           go_wp2
           go_ret2
           rw [HR9.out]
           exact ⟨_, rfl, World.ownsRow_nil _ _ _ _, Hbe.out⟩
         · have hee : Hid (rrEnd b at_ 0 = 0) := Lib.hid (by unfold rrEnd; rw [if_neg (fun h => hend h.2)])
           rw [hee.out] at HrrE
           have HR9 : Hid (R = (l2, 0)) := Lib.hid (by rw [Hdn.out, if_neg (by rw [List.length_drop]; omega)])
           have ho : x.ownsRow w.heap.size 3 1 (.slice ao9 L9 cap9) l2.length (natv l2) := own_base HS.out.2.2.1 (by have := HS.out.1; omega)
           have Ho := Lib.hid ho
           clear hend ho
           go_wp2_with fail
           refine HrrE.out.mono ?_
           rintro e xe ⟨rfl, me, rfl⟩
           have Hbe := Lib.hid (below_drewN HS.out.2.2.2 me)
           have Hoe := Lib.hid (own_drewN Ho.out me)
           go_wp2
           go_ret2
           rw [HR9.out]
           exact ⟨_, rfl, Hoe.out, Hbe.out⟩
       · have b2 : ((err : Int) != 0) = true := by rw [bne_iff_ne]; omega
         have HeT := Lib.hid he
         have HRT := Lib.hid (hDE.out he)
         have HT := HS
         clear he hDL
         have hrrE := rend_any g b at_ err x HT.out.2.1
         rw [show rrEnd b at_ err = err by unfold rrEnd; rw [if_neg (fun h => HeT.out h.1)]] at hrrE
         have HrrE := Lib.hid hrrE
         clear hrrE
         go_wp2_with fail
         refine HrrE.out.mono ?_
         rintro e xe ⟨rfl, me, rfl⟩
         have Hbe := Lib.hid (below_drewN HT.out.2.2.2 me)
         go_wp2
         go_ret2
         rw [HRT.out]
         exact ⟨_, rfl, World.ownsRow_nil _ _ _ _, Hbe.out⟩
theorem rldec_any (ao : Option Addr) (L cap : Nat) (n width : Int) (b : List Nat) (w : World) (hl : b.length = L) (hc : CellsAt w w.heap.size ao L (u8c b)) (hz : ao = none → L = 0) (h256 : ∀ x ∈ b, x < 256) (hb : L ≤ 1000000) :
 Calls Tryz.prog 30 #[.slice ao L cap, .int .i64 n, .int .i64 width] w (GaveLev w (levDec b n width)) := by
 by_cases h : n < 0 ∨ 4000 < n ∨ width < 0 ∨ 16 < width
 · rw [show levDec b n width = ([], 1) by unfold levDec; rw [if_pos h]]
   exact rldec_arg ao L cap n width w h
 · obtain ⟨k, rfl⟩ : ∃ k : Nat, n = k := ⟨n.toNat, by omega⟩
   obtain ⟨wd, rfl⟩ : ∃ k : Nat, width = k := ⟨width.toNat, by omega⟩
   exact rldec_in ao L cap k wd b w hl hc hz h256 hb (by omega) (by omega)
end Go.Proofs.YtebmbkbnngeabaaGreat
