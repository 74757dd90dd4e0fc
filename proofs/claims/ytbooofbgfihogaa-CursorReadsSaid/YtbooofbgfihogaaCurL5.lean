/- Chapter 1: the law CursorReads. -/
import Derived.Test.YtbooofbgfihogaaCurRef
import Derived.Test.YtbooofbgfihogaaCurL4
import Derived.Deep.CutBlock
import Derived.Deep.RegionWith
namespace Go.Proofs.Ytbooofbgfihogaa
open Go.RowKit
set_option linter.unusedVariables false

/-- The two readers stand alike. -/
def Rel (b l : List Nat) (at_ err : Nat) : Prop := at_ ≤ b.length ∧ (err = 0 → l = b.drop at_) ∧ (err ≠ 0 → l = [])
theorem rel_take {b l : List Nat} {at_ err : Nat} (h : Rel b l at_ err) (n : Int) :
    (rdTake l err n).1 = (rrTake b at_ err n).1 ∧ (rdTake l err n).2.2 = (rrTake b at_ err n).2.2 ∧ Rel b (rdTake l err n).2.1 (rrTake b at_ err n).2.1 (rrTake b at_ err n).2.2 := by
  obtain ⟨h1, h2, h3⟩ := h
  by_cases he : err = 0
  · obtain rfl := h2 he
    subst he
    by_cases hn : n ≤ 0
    · have e1 : rdTake (b.drop at_) 0 n = ([], b.drop at_, 0) := by unfold rdTake; rw [if_neg (by omega), show n.toNat = 0 by omega]; rfl
      have e2 : rrTake b at_ 0 n = ([], at_, 0) := by unfold rrTake; rw [if_pos (.inr hn)]
      rw [e1, e2]
      exact ⟨rfl, rfl, h1, fun _ => rfl, fun h => absurd rfl h⟩
    · by_cases hlt : (b.length : Int) - at_ < n
      · have e1 : rdTake (b.drop at_) 0 n = ([], [], 8) := by unfold rdTake; rw [if_pos (by rw [List.length_drop]; omega)]; rfl
        have e2 : rrTake b at_ 0 n = ([], at_, 8) := by unfold rrTake; rw [if_neg (by omega), if_pos hlt]
        rw [e1, e2]
        exact ⟨rfl, rfl, h1, fun h => by simp at h, fun _ => rfl⟩
      · have e1 : rdTake (b.drop at_) 0 n = ((b.drop at_).take n.toNat, b.drop (at_ + n.toNat), 0) := by unfold rdTake; rw [if_neg (by rw [List.length_drop]; omega), List.drop_drop]
        have e2 : rrTake b at_ 0 n = ((b.drop at_).take n.toNat, at_ + n.toNat, 0) := by unfold rrTake; rw [if_neg (by omega), if_neg hlt]
        rw [e1, e2]
        exact ⟨rfl, rfl, by show at_ + n.toNat ≤ b.length; omega, fun _ => rfl, fun h => absurd rfl h⟩
  · obtain rfl := h3 he
    have e2 : rrTake b at_ err n = ([], at_, err) := by unfold rrTake; rw [if_pos (.inl he)]
    have e1 : rdTake [] err n = ([], [], err) := by
      unfold rdTake
      split
      · unfold rdFail; rw [if_neg he]
      · simp
    rw [e1, e2]
    exact ⟨rfl, rfl, h1, fun h => absurd h he, fun _ => rfl⟩
theorem rdTake_neg (l : List Nat) (e : Nat) (n : Int) (h : n < 0) : rdTake l e n = rdTake l e 0 := by
  unfold rdTake; rw [show n.toNat = 0 by omega]; rfl
theorem rel_get {b l : List Nat} {at_ err : Nat} (h : Rel b l at_ err) (n : Int) :
    (rdGet l err n).1 = (rrGet b at_ err n).1 ∧ (rdGet l err n).2.2 = (rrGet b at_ err n).2.2 ∧ Rel b (rdGet l err n).2.1 (rrGet b at_ err n).2.1 (rrGet b at_ err n).2.2 := by
  obtain ⟨m, hm⟩ : ∃ m : Int, m = if n < 0 ∨ 8 < n then 0 else n := ⟨_, rfl⟩
  have h1 : rdGet l err n = (numB (rdTake l err m).1, (rdTake l err m).2) := by
    unfold rdGet
    by_cases h8 : 8 < n
    · rw [if_pos h8, show m = 0 by rw [hm, if_pos (.inr h8)]]
    · rw [if_neg h8]
      by_cases h0 : n < 0
      · rw [rdTake_neg l err n h0, show m = 0 by rw [hm, if_pos (.inl h0)]]
      · rw [show m = n by rw [hm, if_neg (by omega)]]
  have h2 : rrGet b at_ err n = (numB (rrTake b at_ err m).1, (rrTake b at_ err m).2) := by unfold rrGet; rw [← hm]
  obtain ⟨r1, r2, r3⟩ := rel_take h m
  rw [h1, h2]
  exact ⟨by rw [r1], r2, r3⟩
theorem rel_fail {b l : List Nat} {at_ err : Nat} (h : Rel b l at_ err) (c : Nat) :
    (rdFail l err c).2 = (if err = 0 then c else err) ∧ Rel b (rdFail l err c).1 at_ (if err = 0 then c else err) := by
  obtain ⟨h1, h2, h3⟩ := h
  unfold rdFail
  by_cases he : err = 0
  · rw [if_pos he, if_pos he]
    refine ⟨rfl, h1, fun hc => ?_, fun hc => ?_⟩
    · show (if c = 0 then l else []) = _
      rw [if_pos hc]; exact h2 he
    · show (if c = 0 then l else []) = _
      rw [if_neg hc]
  · rw [if_neg he, if_neg he]
    exact ⟨rfl, h1, fun h => absurd h he, fun _ => rfl⟩
theorem rel_left {b l : List Nat} {at_ err : Nat} (h : Rel b l at_ err) : rrLeft b at_ err = ((l.length : Nat) : Int) := by
  obtain ⟨h1, h2, h3⟩ := h
  unfold rrLeft
  by_cases he : err = 0
  · rw [if_pos he, h2 he, List.length_drop]; omega
  · rw [if_neg he, h3 he]; rfl
theorem rel_end {b l : List Nat} {at_ err : Nat} (h : Rel b l at_ err) : rrEnd b at_ err = rdEnd l err := by
  obtain ⟨h1, h2, h3⟩ := h
  unfold rrEnd rdEnd
  by_cases he : err = 0
  · rw [h2 he, List.length_drop]
    by_cases hb : at_ < b.length
    · rw [if_pos ⟨he, hb⟩, if_pos ⟨he, by omega⟩]
    · rw [if_neg (fun h => hb h.2), if_neg (fun h => by have := h.2; omega)]
  · rw [if_neg (fun h => he h.1), if_neg (fun h => he h.1)]
/-- Both readers, in one world. -/
def Both (w : World) (g lo g2 lo2 : Nat) (b : List Nat) : Prop := ∃ l at_ err, Rd w g lo l err ∧ RRd w g2 lo2 b at_ err ∧ Rel b l at_ err
theorem rel_len {b l : List Nat} {at_ err : Nat} (h : Rel b l at_ err) : l.length ≤ b.length := by
  by_cases he : err = 0
  · rw [h.2.1 he, List.length_drop]; omega
  · rw [h.2.2 he]; simp
theorem rel_lt {b l : List Nat} {at_ err : Nat} (h : Rel b l at_ err) (h256 : ∀ x ∈ b, x < 256) : ∀ x ∈ l, x < 256 := by
  by_cases he : err = 0
  · rw [h.2.1 he]; exact fun x hx => h256 x (List.mem_of_mem_drop hx)
  · rw [h.2.2 he]; simp

theorem tdivk (a : Int) (k : Nat) (hk : 0 < k) (h : -9223372036854775808 ≤ a ∧ a ≤ 9223372036854775807) : -9223372036854775808 ≤ a.tdiv k ∧ a.tdiv k ≤ 9223372036854775807 := by
  rcases Int.lt_or_le a 0 with hn | hn
  · have h5 : a.tdiv k ≤ 0 := by
      have h7 : (-(-a)).tdiv k = -((-a).tdiv k) := Int.neg_tdiv ..
      have h8 : 0 ≤ (-a).tdiv k := Int.tdiv_nonneg (by omega) (by omega)
      rw [Int.neg_neg] at h7
      omega
    have h6 : a ≤ a.tdiv k := by
      have h7 : (-(-a)).tdiv k = -((-a).tdiv k) := Int.neg_tdiv ..
      have h8 : (-a).tdiv k ≤ -a := Int.tdiv_le_self k (by omega)
      rw [Int.neg_neg] at h7
      omega
    omega
  · have h5 := Int.tdiv_nonneg hn (show (0 : Int) ≤ (k : Int) by omega)
    have h6 : a.tdiv k ≤ a := Int.tdiv_le_self k hn
    omega

theorem row_but {y1 y2 : World} {g2 base : Nat} {ao : Option Addr} {cap : Nat} {T : List Nat} (hc : CellsAt y1 y1.heap.size ao T.length (u8c T)) (hr : RowB y1 base ao T.length cap T) (hg : g2 < base) (hb : But g2 y1 y2) :
    CellsAt y2 y2.heap.size ao T.length (u8c T) := by
  intro i hi
  obtain ⟨b, off, rfl, hlt, hcc⟩ := hc i hi
  have := hr.low (by omega) _ rfl
  simp only at this
  exact ⟨b, off, rfl, Nat.lt_of_lt_of_le hlt hb.size, (hb.cell (show b < y1.heap.size from hlt) (show b ≠ g2 by omega)).trans hcc⟩
theorem takeB (g2 : Nat) {lo2 : Nat} (b : List Nat) (at_ err : Nat) (n : Int) (y1 : World) (h : RRd y1 g2 lo2 b at_ err) (hl : b.length ≤ 1000000) (ha : at_ ≤ b.length) :
    Calls Try.prog 20 #[.pointer (some ⟨g2, 0, none⟩), .int .i64 n] y1 fun r y2 => ∃ ao cap, r = .returned (.slice ao (rrTake b at_ err n).1.length cap) ∧
      (convert 22 9 (.slice ao (rrTake b at_ err n).1.length cap)).run Try.prog y2 = .ok (.string (strOf (rrTake b at_ err n).1)) y2 ∧ RRd y2 g2 lo2 b (rrTake b at_ err n).2.1 (rrTake b at_ err n).2.2 ∧ But g2 y1 y2 := by
  refine (rrtake_any g2 b at_ err n y1 h hl ha).mono ?_
  rintro r y2 ⟨ao, cap, rfl, hc, hn, hs, hb⟩
  exact ⟨ao, cap, rfl, run_string_of (P := Try.prog) 22 5 9 Try.underlying22 Try.underlying5 Try.underlying9 rfl hc hn, hs, hb⟩
theorem takeA (g lo g2 lo2 : Nat) (b l : List Nat) (at_ err : Nat) (n : Int) (w : World) (h : Rd w g lo l err) (hs : RRd w g2 lo2 b at_ err) (hq : Rel b l at_ err) (hl : b.length ≤ 1000000) (hgl : g < lo2) (hgg : g < g2) :
    Calls Try.prog 12 #[.pointer (some ⟨g, 0, none⟩), .int .i64 n] w fun r y1 => ∃ ao cap, r = .returned (.slice ao (rrTake b at_ err n).1.length cap) ∧
      (convert 22 9 (.slice ao (rrTake b at_ err n).1.length cap)).run Try.prog y1 = .ok (.string (strOf (rrTake b at_ err n).1)) y1 ∧
      (∀ y2, But g2 y1 y2 → (convert 22 9 (.slice ao (rrTake b at_ err n).1.length cap)).run Try.prog y2 = .ok (.string (strOf (rrTake b at_ err n).1)) y2) ∧
      Rd y1 g lo (rdTake l err n).2.1 (rrTake b at_ err n).2.2 ∧ RRd y1 g2 lo2 b at_ err ∧ But g w y1 := by
  obtain ⟨p1, p2, -⟩ := rel_take hq n
  refine (rtake_any g (lo := lo) l err n w h (by have := rel_len hq; omega)).mono ?_
  rw [p1, p2]
  rintro r y1 ⟨ao, cap, rfl, hc, hn, hrow, hr, hb⟩
  refine ⟨ao, cap, rfl, run_string_of (P := Try.prog) 22 5 9 Try.underlying22 Try.underlying5 Try.underlying9 rfl hc hn, fun y2 hy => ?_, hr, hs.but hb (.inr ⟨hgl, hgg⟩), hb⟩
  exact run_string_of (P := Try.prog) 22 5 9 Try.underlying22 Try.underlying5 Try.underlying9 rfl (row_but hc hrow hs.lt hy) hn

set_option maxHeartbeats 4000000 in
set_option maxRecDepth 100000 in
theorem cursorReads_walk (a0 : Option Addr) (len0 cap0 : Nat) (z0 : List Int) (a1 : Option Addr) (len1 cap1 : Nat) (z1 : List Int) (a2 : Option Addr) (len2 cap2 : Nat) (z2 : List Int) (a3 : Option Addr) (len3 cap3 : Nat) (z3 : List Int)
    (w : World) (w0 : IsRow .u8 w a0 len0 cap0 z0) (w1 : IsRow .i64 w a1 len1 cap1 z1) (w2 : IsRow .i64 w a2 len2 cap2 z2) (w3 : IsRow .i64 w a3 len3 cap3 z3) :
    Calls Try.prog 7 #[.slice a0 len0 cap0, .slice a1 len1 cap1, .slice a2 len2 cap2, .slice a3 len3 cap3] w fun e w' => e = .returned (.bool true) ∧ Below w.heap.size w w' := by
  obtain ⟨b, hl, hb, hc, hn, hlen⟩ := w0.u8
  obtain ⟨os, hol, hob, hoc, hon, holen⟩ := w1.i64
  obtain ⟨rs, hrl, hrb, hrc, hrn, hrlen⟩ := w2.i64
  obtain ⟨fs, hfl, hfb, hfc, hfn, hflen⟩ := w3.i64
  by_cases h7 : 200 < len0
  · go_enter Try.func7, Try.ntmps7
    go_wp2_with (go_at_call 9; refine (known_any _).mono ?_; rintro e x1 ⟨rfl, hx1⟩)
    go_ret
    exact ⟨rfl, hx1⟩
  have Hl := Lib.hid hl; clear hl
  have Hb := Lib.hid hb; clear hb
  have Hol := Lib.hid hol; clear hol
  have Hob := Lib.hid hob; clear hob
  have Hrl := Lib.hid hrl; clear hrl
  have Hrb := Lib.hid hrb; clear hrb
  have Hfl := Lib.hid hfl; clear hfl
  have Hfb := Lib.hid hfb; clear hfb
  go_enter Try.func7, Try.ntmps7
  go_wp2_with
    first
      | (go_at_call 9; refine (known_any _).mono ?_; rintro e x1 ⟨rfl, hx1⟩)
      | (at_builtin; refine wpList_append_clone1 sl_u8 rfl (.tmp 18) (.tmp 19) rfl rfl rfl ((hc.at hx1).alloc (Nat.le_refl _) _) hn (fun _ _ => rfl) (by unfold maxLen; omega) (by omega) ?_)
  intro aoA capA xA hcA hbA hclA
  have hxA : Below w.heap.size w xA := (balloc hx1 _).trans (hbA.mono (by have := hx1.size; simp; omega))
  have hnA : aoA = none → len0 = 0 := fun e => by
    rcases Nat.eq_zero_or_pos len0 with h | h
    · exact h
    · obtain ⟨_, _, e2, -⟩ := hcA 0 h
      rw [e] at e2; cases e2
  have HxA := Lib.hid hxA
  clear hclA hbA hxA
  go_wp2_with fail
  refine (new_any _ _ _ b _ Hl.out hcA hnA (by omega)).mono ?_
  rintro e x2 ⟨g, rfl, hg, hr2, hx2⟩
  have hgw : w.heap.size ≤ g := Nat.le_trans HxA.out.size hg
  obtain ⟨lo, hlo⟩ : ∃ lo, lo = xA.heap.size := ⟨_, rfl⟩
  rw [← hlo] at hr2
  have hx2 := bmore HxA.out hx2
  clear hg hlo hcA hnA
  go_wp2_with fail
  refine (rnew_any _ _ _ b _ Hl.out (hc.at hx2) hn (by omega)).mono ?_
  rintro e x3 ⟨g2, rfl, hg2, hs3, hx3⟩
  have hr3 := hr2.keep hx3
  have hgl : g < x2.heap.size := hr2.lt
  have hgg : g < g2 := Nat.lt_of_lt_of_le hgl hg2
  have hgw2 : w.heap.size ≤ g2 := Nat.le_trans hx2.size hg2
  obtain ⟨lo2, hlo2⟩ : ∃ lo, lo = x2.heap.size := ⟨_, rfl⟩
  rw [← hlo2] at hs3 hgl
  have hx3 := bmore hx2 hx3
  have hB : Both x3 g lo g2 lo2 b := ⟨b, 0, 0, hr3, hs3, Nat.zero_le _, fun _ => rfl, fun h => absurd rfl h⟩
  clear hr3 hr2 hs3 hg2 hlo2 hx2
  go_wp2
  go_loopw [11] (fun i wr => ∃ k : Nat, k ≤ 40 ∧ i = .int .i64 k ∧ Both wr g lo g2 lo2 b ∧ Below w.heap.size w wr) (fun i _ => 40 - (intOf i).toNat)
  case atStart => exact ⟨0, by omega, rfl, hB, hx3⟩
  case round =>
    obtain ⟨k, hk, rfl, hBr, hwr⟩ := hrel
    by_cases h1 : k < len1
    · by_cases h40 : k < 40
      · obtain ⟨bo, oo, rfl, hbo, hco⟩ := hoc k h1
        have hco' := (hwr.cell (by exact hbo)).trans hco
        obtain ⟨ov, hov⟩ : ∃ av, av = os.getD k 0 := ⟨_, rfl⟩
        have hov64 : -9223372036854775808 ≤ ov ∧ ov ≤ 9223372036854775807 := by
          rw [hov, List.getD_eq_getElem?_getD, List.getElem?_eq_getElem (by rw [Hol.out]; exact h1)]
          exact Hob.out _ (List.getElem_mem _)
        rw [i64c, ← hov] at hco'
        obtain ⟨n12, hn12, hn12l⟩ := modN (ov.tdiv 4) 12 (by decide)
        obtain ⟨c4, hc4, hc4l⟩ := modN ov 4 (by decide)
        have Hn12 := Lib.hid hn12
        have Hc4 := Lib.hid hc4
        have e1 : (k : Int) < (len1 : Int) := by omega
        have e2 : (k : Int) < 40 := by omega
        have e3 : (0 : Int) ≤ (k : Int) := by omega
        clear hn12 hc4 hov hco hoc
        have ht1 := (tdivk ov 4 (by decide) hov64).1
        have ht2 := (tdivk ov 4 (by decide) hov64).2
        go_upto_region 10 with fail
        refine (within_any (ov.tdiv 4) 12 _ (by omega) (by omega) ht1 ht2).mono ?_; rw [show ov.tdiv 4 % 12 = n12 from Hn12.out]; rintro e x4 ⟨rfl, rfl⟩
        go_upto_region 10 with fail
        go_cut [52] (fun v wx => ∃ t : Bool, v = .bool t ∧ (t = true → k < len2) ∧ wx = wr)
        case first =>
          by_cases h2 : k < len2
          · obtain ⟨br, or_, rfl, hbr, hcr⟩ := hrc k h2
            have hcr' := (hwr.cell (by exact hbr)).trans hcr
            obtain ⟨rv, hrv⟩ : ∃ av, av = rs.getD k 0 := ⟨_, rfl⟩
            have hrv64 : -9223372036854775808 ≤ rv ∧ rv ≤ 9223372036854775807 := by
              rw [hrv, List.getD_eq_getElem?_getD, List.getElem?_eq_getElem (by rw [Hrl.out]; exact h2)]
              exact Hrb.out _ (List.getElem_mem _)
            rw [i64c, ← hrv] at hcr'
            obtain ⟨r9, hr9, hr9l⟩ := modN rv 9 (by decide)
            have Hr9 := Lib.hid hr9
            have e5 : (k : Int) < (len2 : Int) := by omega
            clear hr9 hrv hcr hrc
            go_wp2_with fail
            refine (within_any rv 9 _ (by omega) (by omega) hrv64.1 hrv64.2).mono ?_; rw [show rv % 9 = r9 from Hr9.out]; rintro e x4 ⟨rfl, rfl⟩
            go_wp2
            go_meet
            exact ⟨_, rfl, fun _ => h2, rfl⟩
          · have e5 : ¬ ((k : Int) < (len2 : Int)) := by omega
            go_wp2
            go_meet
            exact ⟨false, rfl, (fun h => by cases h), rfl⟩
        case rest =>
          obtain ⟨t, rfl, ht, rfl⟩ := hcut
          go_upto_if 52 with fail
          go_cut [12] (fun v wx => ∃ n : Int, v = .int .i64 n ∧ -9223372036854775808 ≤ n ∧ n ≤ 9223372036854775807 ∧ wx = wc)
          case first =>
            cases t
            · go_wp2
              go_meet
              exact ⟨(n12 : Int) - 1, rfl, by omega, by omega, rfl⟩
            · have h2 := ht rfl
              obtain ⟨br, or_, rfl, hbr, hcr⟩ := hrc k h2
              have hcr' := (hwr.cell (by exact hbr)).trans hcr
              obtain ⟨rv, hrv⟩ : ∃ av, av = rs.getD k 0 := ⟨_, rfl⟩
              have hrv64 : -9223372036854775808 ≤ rv ∧ rv ≤ 9223372036854775807 := by
                rw [hrv, List.getD_eq_getElem?_getD, List.getElem?_eq_getElem (by rw [Hrl.out]; exact h2)]
                exact Hrb.out _ (List.getElem_mem _)
              rw [i64c, ← hrv] at hcr'
              have e5 : (k : Int) < (len2 : Int) := by omega
              clear hrv hcr hrc
              go_wp2
              go_meet
              exact ⟨rv, rfl, hrv64.1, hrv64.2, rfl⟩
          case rest =>
            obtain ⟨n, rfl, hn1, hn2, rfl⟩ := hcut
            obtain ⟨l, at_, err, hr0, hs0, hq0⟩ := hBr
            have HR0 := Lib.hid hr0
            have HS0 := Lib.hid hs0
            have HQ0 := Lib.hid hq0
            clear hr0 hs0 hq0
            have hcc : c4 = 0 ∨ c4 = 1 ∨ c4 = 2 ∨ c4 = 3 := by omega
            rcases hcc with rfl | rfl | rfl | rfl
            · go_wp2_with fail
              refine (within_any ov 4 _ (by omega) (by omega) hov64.1 hov64.2).mono ?_; rw [show ov % 4 = (0 : Nat) from Hc4.out]; rintro e x4 ⟨rfl, rfl⟩
              go_wp2_with fail
              refine (get_any _ _ _ n _ HR0.out (by have := rel_len HQ0.out; rw [Hl.out] at this; omega) (rel_lt HQ0.out Hb.out)).mono ?_
              rintro e y1 ⟨rfl, hr1, hb1⟩
              have hy1 := hb1.below hwr hgw hwr.size
              have hs1 := HS0.out.but hb1 (.inr ⟨hgl, hgg⟩)
              obtain ⟨p1, p2, p3⟩ := rel_get HQ0.out n
              rw [p1]
              rw [p2] at hr1
              have HR1 := Lib.hid hr1
              have HS1 := Lib.hid hs1
              have HX1 := Lib.hid hy1
              have P3 := Lib.hid p3
              clear p1 p2 p3 hr1 hs1 hy1 hb1
              go_wp2_with fail
              refine (rrget_any _ _ _ _ n _ HS1.out (by rw [Hl.out]; omega) HQ0.out.1 Hb.out).mono ?_
              rintro e y2 ⟨rfl, hs2, hb2⟩
              have HX := Lib.hid (hb2.below HX1.out hgw2 HX1.out.size)
              have HR := Lib.hid (HR1.out.but hb2 (.inl hgg))
              have HS := Lib.hid hs2
              have HQ := P3
              clear hs2 hb2
              go_wp2_with fail
              refine (left_any _ _ _ _ HR.out).mono ?_
              rintro e v1 ⟨rfl, rfl⟩
              go_wp2_with fail
              refine (rleft_any _ _ _ _ _ HS.out (by rw [Hl.out]; omega) HQ.out.1).mono ?_
              rw [rel_left HQ.out]
              rintro e v2 ⟨rfl, m1, rfl⟩
              go_wp2_with fail
              refine (end_any _ _ _ _ (HR.out.keep (below_drewN (Below.refl _ _) m1))).mono ?_
              rintro e v3 ⟨rfl, rfl⟩
              go_wp2_with fail
              refine (rend_any _ _ _ _ _ (HS.out.keep (below_drewN (Below.refl _ _) m1))).mono ?_
              rw [rel_end HQ.out]
              rintro e v4 ⟨rfl, m2, rfl⟩
              have HF := Lib.hid (show Both (y2.drewN (m1 + m2)) g lo g2 lo2 b from ⟨_, _, _, HR.out.keep (below_drewN (Below.refl _ _) (m1 + m2)), HS.out.keep (below_drewN (Below.refl _ _) (m1 + m2)), HQ.out⟩)
              have HG := Lib.hid (below_drewN HX.out (m1 + m2))
              go_wp2
              go_roundw
              case rel => exact ⟨k + 1, by omega, by go_num, HF.out, HG.out⟩
              case measure => simp [intOf]; omega
            · go_wp2_with fail
              refine (within_any ov 4 _ (by omega) (by omega) hov64.1 hov64.2).mono ?_; rw [show ov % 4 = (1 : Nat) from Hc4.out]; rintro e x4 ⟨rfl, rfl⟩
              go_wp2_with fail
              refine (get_any _ _ _ n _ HR0.out (by have := rel_len HQ0.out; rw [Hl.out] at this; omega) (rel_lt HQ0.out Hb.out)).mono ?_
              rintro e y1 ⟨rfl, hr1, hb1⟩
              have hy1 := hb1.below hwr hgw hwr.size
              have hs1 := HS0.out.but hb1 (.inr ⟨hgl, hgg⟩)
              obtain ⟨p1, p2, p3⟩ := rel_get HQ0.out n
              rw [p1]
              rw [p2] at hr1
              have HR1 := Lib.hid hr1
              have HS1 := Lib.hid hs1
              have HX1 := Lib.hid hy1
              have P3 := Lib.hid p3
              clear p1 p2 p3 hr1 hs1 hy1 hb1
              go_wp2_with fail
              refine (rrget_any _ _ _ _ n _ HS1.out (by rw [Hl.out]; omega) HQ0.out.1 Hb.out).mono ?_
              rintro e y2 ⟨rfl, hs2, hb2⟩
              have HX := Lib.hid (hb2.below HX1.out hgw2 HX1.out.size)
              have HR := Lib.hid (HR1.out.but hb2 (.inl hgg))
              have HS := Lib.hid hs2
              have HQ := P3
              clear hs2 hb2
              go_wp2_with fail
              refine (left_any _ _ _ _ HR.out).mono ?_
              rintro e v1 ⟨rfl, rfl⟩
              go_wp2_with fail
              refine (rleft_any _ _ _ _ _ HS.out (by rw [Hl.out]; omega) HQ.out.1).mono ?_
              rw [rel_left HQ.out]
              rintro e v2 ⟨rfl, m1, rfl⟩
              go_wp2_with fail
              refine (end_any _ _ _ _ (HR.out.keep (below_drewN (Below.refl _ _) m1))).mono ?_
              rintro e v3 ⟨rfl, rfl⟩
              go_wp2_with fail
              refine (rend_any _ _ _ _ _ (HS.out.keep (below_drewN (Below.refl _ _) m1))).mono ?_
              rw [rel_end HQ.out]
              rintro e v4 ⟨rfl, m2, rfl⟩
              have HF := Lib.hid (show Both (y2.drewN (m1 + m2)) g lo g2 lo2 b from ⟨_, _, _, HR.out.keep (below_drewN (Below.refl _ _) (m1 + m2)), HS.out.keep (below_drewN (Below.refl _ _) (m1 + m2)), HQ.out⟩)
              have HG := Lib.hid (below_drewN HX.out (m1 + m2))
              go_wp2
              go_roundw
              case rel => exact ⟨k + 1, by omega, by go_num, HF.out, HG.out⟩
              case measure => simp [intOf]; omega
            · go_upto_region 18 with (go_at_call 11; refine (within_any ov 4 _ (by omega) (by omega) hov64.1 hov64.2).mono ?_; rw [show ov % 4 = (2 : Nat) from Hc4.out]; rintro e x4 ⟨rfl, rfl⟩)
              obtain ⟨p1, p2, p3⟩ := rel_take HQ0.out n
              obtain ⟨T, hT⟩ : ∃ T, T = (rrTake b at_ err n).1 := ⟨_, rfl⟩
              obtain ⟨l9, hl9⟩ : ∃ l9, l9 = (rdTake l err n).2.1 := ⟨_, rfl⟩
              obtain ⟨at9, hat9⟩ : ∃ l9, l9 = (rrTake b at_ err n).2.1 := ⟨_, rfl⟩
              obtain ⟨er9, her9⟩ : ∃ l9, l9 = (rrTake b at_ err n).2.2 := ⟨_, rfl⟩
              have hA := takeA g lo g2 lo2 b l at_ err n wc.drew (HR0.out.keep (Below.refl wc.heap.size wc).drew) (HS0.out.keep (Below.refl wc.heap.size wc).drew) HQ0.out (by rw [Hl.out]; omega) (by omega) hgg
              have hB := fun y1 h => takeB g2 (lo2 := lo2) b at_ err n y1 h (by rw [Hl.out]; omega) HQ0.out.1
              rw [← hT, ← hl9, ← her9] at hA
              rw [← hT, ← hat9, ← her9] at hB
              rw [← hl9, ← hat9, ← her9] at p3
              have P3 := Lib.hid p3
              have hwd := hwr.drew
              have HA := Lib.hid hA
              have HB := Lib.hid hB
              have HWD := Lib.hid hwd
              clear p1 p2 p3 hT hl9 hat9 her9 hA hB hwd
              go_region_with (first
                | (go_at_call 12
                   refine HA.out.mono ?_
                   rintro e y1 ⟨ao1, cap1, rfl, q1, hq, hr1, hs1, hb1⟩
                   have HQ1 := Lib.hid hq
                   have HR1 := Lib.hid hr1
                   have HS1 := Lib.hid hs1
                   have HX1 := Lib.hid (hb1.below HWD.out hgw HWD.out.size)
                   clear hq hr1 hs1 hb1)
                | (go_at_call 20
                   refine (HB.out _ HS1.out).mono ?_
                   rintro e y2 ⟨ao2, cap2, rfl, q2, hs2, hb2⟩
                   have q3 := HQ1.out _ hb2
                   have HX := Lib.hid (hb2.below HX1.out hgw2 HX1.out.size)
                   have HR := Lib.hid (HR1.out.but hb2 (.inl hgg))
                   have HS := Lib.hid hs2
                   have HQ := P3
                   clear hs2 hb2))
              all_goals
                go_wp2_with fail
                refine (left_any _ _ _ _ HR.out).mono ?_
                rintro e v1 ⟨rfl, rfl⟩
                go_wp2_with fail
                refine (rleft_any _ _ _ _ _ HS.out (by rw [Hl.out]; omega) HQ.out.1).mono ?_
                rw [rel_left HQ.out]
                rintro e v2 ⟨rfl, m1, rfl⟩
                go_wp2_with fail
                refine (end_any _ _ _ _ (HR.out.keep (below_drewN (Below.refl _ _) m1))).mono ?_
                rintro e v3 ⟨rfl, rfl⟩
                go_wp2_with fail
                refine (rend_any _ _ _ _ _ (HS.out.keep (below_drewN (Below.refl _ _) m1))).mono ?_
                rw [rel_end HQ.out]
                rintro e v4 ⟨rfl, m2, rfl⟩
                have HF := Lib.hid (show Both (y2.drewN (m1 + m2)) g lo g2 lo2 b from ⟨_, _, _, HR.out.keep (below_drewN (Below.refl _ _) (m1 + m2)), HS.out.keep (below_drewN (Below.refl _ _) (m1 + m2)), HQ.out⟩)
                have HG := Lib.hid (below_drewN HX.out (m1 + m2))
                go_wp2
                go_roundw
                case rel => exact ⟨k + 1, by omega, by go_num, HF.out, HG.out⟩
                case measure => simp [intOf]; omega
            · by_cases h3 : k < len3
              · obtain ⟨br, or_, rfl, hbr, hcr⟩ := hfc k h3
                have hcr' := (hwr.cell (by exact hbr)).trans hcr
                obtain ⟨rv, hrv⟩ : ∃ av, av = fs.getD k 0 := ⟨_, rfl⟩
                have hrv64 : -9223372036854775808 ≤ rv ∧ rv ≤ 9223372036854775807 := by
                  rw [hrv, List.getD_eq_getElem?_getD, List.getElem?_eq_getElem (by rw [Hfl.out]; exact h3)]
                  exact Hfb.out _ (List.getElem_mem _)
                rw [i64c, ← hrv] at hcr'
                obtain ⟨r6, hr6, hr6l⟩ := modN rv 6 (by decide)
                obtain ⟨c16, hc16, hc16l⟩ := modN (rv.tdiv 6) 16 (by decide)
                have Hr6 := Lib.hid hr6
                have Hc16 := Lib.hid hc16
                have hu1 := (tdivk rv 6 (by decide) hrv64).1
                have hu2 := (tdivk rv 6 (by decide) hrv64).2
                have e5 : (k : Int) < (len3 : Int) := by omega
                have hfcell : ∀ y : World, Below w.heap.size w y → y.cell? ⟨br, or_ + k, none⟩ = some (.int .i64 rv) := fun y hy => by
                  have := (hy.cell (by exact hbr)).trans hcr
                  rwa [i64c, ← hrv] at this
                have Hfcell := Lib.hid hfcell
                clear hr6 hc16 hrv hcr hfc hfcell
                by_cases hz : r6 = 0
                · subst hz
                  go_wp2_with fail
                  refine (within_any ov 4 _ (by omega) (by omega) hov64.1 hov64.2).mono ?_; rw [show ov % 4 = (3 : Nat) from Hc4.out]; rintro e x4 ⟨rfl, rfl⟩
                  go_wp2_with fail
                  refine (within_any rv 6 _ (by omega) (by omega) hrv64.1 hrv64.2).mono ?_; rw [show rv % 6 = (0 : Nat) from Hr6.out]; rintro e x5 ⟨rfl, rfl⟩
                  go_wp2_with fail
                  refine (within_any (rv.tdiv 6) 16 _ (by omega) (by omega) hu1 hu2).mono ?_; rw [show rv.tdiv 6 % 16 = c16 from Hc16.out]; rintro e x6 ⟨rfl, rfl⟩
                  go_wp2_with fail
                  refine (fail_any _ _ _ c16 _ HR0.out).mono ?_
                  rintro e y1 ⟨rfl, hr1, hb1⟩
                  have hy1 := hb1.below hwr hgw hwr.size
                  have hs1 := HS0.out.but hb1 (.inr ⟨hgl, hgg⟩)
                  obtain ⟨p2, p3⟩ := rel_fail HQ0.out c16
                  obtain ⟨er, her⟩ : ∃ er, er = if err = 0 then c16 else err := ⟨_, rfl⟩
                  rw [← her] at p2 p3
                  have Her := Lib.hid her
                  clear her
                  rw [p2] at hr1
                  have hcy := Hfcell.out y1 hy1
                  have HR1 := Lib.hid hr1
                  have HS1 := Lib.hid hs1
                  have HX1 := Lib.hid hy1
                  have P3 := Lib.hid p3
                  clear p2 p3 hr1 hs1 hy1 hb1
                  go_wp2_with fail
                  refine (within_any (rv.tdiv 6) 16 _ (by omega) (by omega) hu1 hu2).mono ?_; rw [show rv.tdiv 6 % 16 = c16 from Hc16.out]; rintro e x6 ⟨rfl, rfl⟩
                  go_wp2_with fail
                  refine (rfail_any _ _ _ _ c16 _ HS1.out).mono ?_
                  rintro e y2 ⟨rfl, hs2, hb2⟩
                  rw [← Her.out] at hs2
                  have HX := Lib.hid (hb2.below HX1.out hgw2 HX1.out.size)
                  have HR := Lib.hid (HR1.out.but hb2 (.inl hgg))
                  have HS := Lib.hid hs2
                  have HQ := P3
                  clear hs2 hb2
                  go_wp2_with fail
                  refine (left_any _ _ _ _ HR.out).mono ?_
                  rintro e v1 ⟨rfl, rfl⟩
                  go_wp2_with fail
                  refine (rleft_any _ _ _ _ _ HS.out (by rw [Hl.out]; omega) HQ.out.1).mono ?_
                  rw [rel_left HQ.out]
                  rintro e v2 ⟨rfl, m1, rfl⟩
                  go_wp2_with fail
                  refine (end_any _ _ _ _ (HR.out.keep (below_drewN (Below.refl _ _) m1))).mono ?_
                  rintro e v3 ⟨rfl, rfl⟩
                  go_wp2_with fail
                  refine (rend_any _ _ _ _ _ (HS.out.keep (below_drewN (Below.refl _ _) m1))).mono ?_
                  rw [rel_end HQ.out]
                  rintro e v4 ⟨rfl, m2, rfl⟩
                  have HF := Lib.hid (show Both (y2.drewN (m1 + m2)) g lo g2 lo2 b from ⟨_, _, _, HR.out.keep (below_drewN (Below.refl _ _) (m1 + m2)), HS.out.keep (below_drewN (Below.refl _ _) (m1 + m2)), HQ.out⟩)
                  have HG := Lib.hid (below_drewN HX.out (m1 + m2))
                  go_wp2
                  go_roundw
                  case rel => exact ⟨k + 1, by omega, by go_num, HF.out, HG.out⟩
                  case measure => simp [intOf]; omega
                · have e6 : ((r6 : Int) == 0) = false := by simp; omega
                  go_wp2_with fail
                  refine (within_any ov 4 _ (by omega) (by omega) hov64.1 hov64.2).mono ?_; rw [show ov % 4 = (3 : Nat) from Hc4.out]; rintro e x4 ⟨rfl, rfl⟩
                  go_wp2_with fail
                  refine (within_any rv 6 _ (by omega) (by omega) hrv64.1 hrv64.2).mono ?_; rw [show rv % 6 = r6 from Hr6.out]; rintro e x5 ⟨rfl, rfl⟩
                  have HX := Lib.hid hwr
                  have HR := HR0
                  have HS := HS0
                  have HQ := HQ0
                  go_wp2_with fail
                  refine (left_any _ _ _ _ HR.out).mono ?_
                  rintro e v1 ⟨rfl, rfl⟩
                  go_wp2_with fail
                  refine (rleft_any _ _ _ _ _ HS.out (by rw [Hl.out]; omega) HQ.out.1).mono ?_
                  rw [rel_left HQ.out]
                  rintro e v2 ⟨rfl, m1, rfl⟩
                  go_wp2_with fail
                  refine (end_any _ _ _ _ (HR.out.keep (below_drewN (Below.refl _ _) m1))).mono ?_
                  rintro e v3 ⟨rfl, rfl⟩
                  go_wp2_with fail
                  refine (rend_any _ _ _ _ _ (HS.out.keep (below_drewN (Below.refl _ _) m1))).mono ?_
                  rw [rel_end HQ.out]
                  rintro e v4 ⟨rfl, m2, rfl⟩
                  have HF := Lib.hid (show Both (wc.drewN (m1 + m2)) g lo g2 lo2 b from ⟨_, _, _, HR.out.keep (below_drewN (Below.refl _ _) (m1 + m2)), HS.out.keep (below_drewN (Below.refl _ _) (m1 + m2)), HQ.out⟩)
                  have HG := Lib.hid (below_drewN HX.out (m1 + m2))
                  go_wp2
                  go_roundw
                  case rel => exact ⟨k + 1, by omega, by go_num, HF.out, HG.out⟩
                  case measure => simp [intOf]; omega
              · have e5 : ¬ ((k : Int) < (len3 : Int)) := by omega
                go_wp2_with fail
                refine (within_any ov 4 _ (by omega) (by omega) hov64.1 hov64.2).mono ?_; rw [show ov % 4 = (3 : Nat) from Hc4.out]; rintro e x4 ⟨rfl, rfl⟩
                have HX := Lib.hid hwr
                have HR := HR0
                have HS := HS0
                have HQ := HQ0
                go_wp2_with fail
                refine (left_any _ _ _ _ HR.out).mono ?_
                rintro e v1 ⟨rfl, rfl⟩
                go_wp2_with fail
                refine (rleft_any _ _ _ _ _ HS.out (by rw [Hl.out]; omega) HQ.out.1).mono ?_
                rw [rel_left HQ.out]
                rintro e v2 ⟨rfl, m1, rfl⟩
                go_wp2_with fail
                refine (end_any _ _ _ _ (HR.out.keep (below_drewN (Below.refl _ _) m1))).mono ?_
                rintro e v3 ⟨rfl, rfl⟩
                go_wp2_with fail
                refine (rend_any _ _ _ _ _ (HS.out.keep (below_drewN (Below.refl _ _) m1))).mono ?_
                rw [rel_end HQ.out]
                rintro e v4 ⟨rfl, m2, rfl⟩
                have HF := Lib.hid (show Both (wc.drewN (m1 + m2)) g lo g2 lo2 b from ⟨_, _, _, HR.out.keep (below_drewN (Below.refl _ _) (m1 + m2)), HS.out.keep (below_drewN (Below.refl _ _) (m1 + m2)), HQ.out⟩)
                have HG := Lib.hid (below_drewN HX.out (m1 + m2))
                go_wp2
                go_roundw
                case rel => exact ⟨k + 1, by omega, by go_num, HF.out, HG.out⟩
                case measure => simp [intOf]; omega
      · have e1 : (k : Int) < (len1 : Int) := by omega
        have e2 : ¬ ((k : Int) < 40) := by omega
        go_wp2
        go_ret
        exact ⟨rfl, hwr⟩
    · have e1 : ¬ ((k : Int) < (len1 : Int)) := by omega
      go_wp2
      go_ret
      exact ⟨rfl, hwr⟩
end Go.Proofs.Ytbooofbgfihogaa
