/- Chapter 2's law BitsUnpack: the walk. -/
import Derived.Test.YtkmgbcpleopdgaaBitsLaws
import Derived.Test.YtkmgbcpleopdgaaLin
import Derived.Deep.CutBlock
import Derived.Deep.DeepCutAuto
namespace Go.Proofs.Ytkmgbcpleopdgaa
open Go.RowKit
set_option linter.unusedVariables false

set_option maxHeartbeats 1000000 in
set_option maxRecDepth 100000 in
theorem numbers_same (ao bo : Option Addr) (n ca cb : Nat) (l : List Nat) (w : World) (hn : n ≤ 9223372036854775807) (ha : CellsAt w w.heap.size ao n (u64c l)) (hb : CellsAt w w.heap.size bo n (u64c l)) :
    Calls Try.prog 18 #[.slice ao n ca, .slice bo n cb] w fun e w' => e = .returned (.bool true) ∧ Below w.heap.size w w' := by
  go_enter Try.func18, Try.ntmps18
  go_wp2
  go_loopw [5] (fun i wr => ∃ k : Nat, k ≤ n ∧ i = .int .i64 k ∧ Below w.heap.size w wr) (fun i _ => n - (intOf i).toNat)
  case atStart => exact ⟨0, Nat.zero_le _, rfl, Below.refl _ _⟩
  case round =>
    obtain ⟨k, hk, rfl, hwr⟩ := hrel
    by_cases hkn : k < n
    · obtain ⟨b1, o1, rfl, hb1, hc1⟩ := ha k hkn
      obtain ⟨b2, o2, rfl, hb2, hc2⟩ := hb k hkn
      have hc1' := (hwr.cell (by exact hb1)).trans hc1
      have hc2' := (hwr.cell (by exact hb2)).trans hc2
      have e1 : (k : Int) < (n : Int) := by omega
      have e2 : (0 : Int) ≤ (k : Int) := by omega
      clear ha hb hc1 hc2
      go_wp2
      go_quiet (fail)
      go_wp2
      go_roundw
      case rel => exact ⟨k + 1, by omega, by go_num, below_drewN hwr _⟩
      case measure => simp [intOf]; omega
    · go_wp2
      go_ret
      exact ⟨rfl, hwr⟩

/-- Bytes that may be anything: a slice of n bytes below block B. -/
def Bytes (w : World) (B : Nat) (ao : Option Addr) (n : Nat) : Prop := ∃ l : List Nat, l.length = n ∧ (∀ x ∈ l, x < 256) ∧ CellsAt w B ao n (u8c l) ∧ (ao = none → n = 0)
theorem Bytes.below {w w' : World} {B : Nat} {ao : Option Addr} {n : Nat} (h : Bytes w B ao n) (hb : Below B w w') : Bytes w' B ao n := let ⟨l, h1, h2, h3, h4⟩ := h; ⟨l, h1, h2, h3.below hb, h4⟩
theorem Bytes.at {w w' : World} {ao : Option Addr} {n : Nat} (h : Bytes w w.heap.size ao n) (hb : Below w.heap.size w w') : Bytes w' w'.heap.size ao n := let ⟨l, h1, h2, h3, h4⟩ := h; ⟨l, h1, h2, h3.at hb, h4⟩
theorem Bytes.mono {w : World} {B B' : Nat} {ao : Option Addr} {n : Nat} (h : Bytes w B ao n) (hB : B ≤ B') : Bytes w B' ao n := let ⟨l, h1, h2, h3, h4⟩ := h; ⟨l, h1, h2, h3.mono hB, h4⟩

/-- The copy that the law turns: of no bytes, or an owned row of bytes. -/
def DState (w : World) (base : Nat) (E : TypeId) (ao : Option Addr) (n cap : Nat) : Prop :=
  n = 0 ∨ ∃ (g : Nat) (l : List Nat), ao = some ⟨g, 0, none⟩ ∧ base ≤ g ∧ l.length = n ∧ (∀ x ∈ l, x < 256) ∧ w.ownsRow base E 1 (.slice (some ⟨g, 0, none⟩) n cap) n (u8v l)
theorem DState.bytes {w : World} {base E : Nat} {ao : Option Addr} {n cap m : Nat} (h : DState w base E ao n cap) (hm : m ≤ n) : Bytes w w.heap.size ao m := by
  rcases h with rfl | ⟨g, l, rfl, hg, hl, h256, ho⟩
  · obtain rfl : m = 0 := by omega
    exact ⟨[], rfl, fun x hx => absurd hx (by simp), CellsAt.zero, fun _ => rfl⟩
  · obtain ⟨ao', cap', hv, hc, -⟩ := own_u8 ho
    simp only [Value.slice.injEq, true_and] at hv
    obtain ⟨rfl, rfl⟩ := hv
    refine ⟨l.take m, by rw [List.length_take]; omega, fun x hx => h256 x (List.mem_of_mem_take hx), (hc.take hm).congr fun i hi => ?_, fun e => by cases e⟩
    simp [u8c, List.getD_eq_getElem?_getD, List.getElem?_take, hi]
theorem tdiv3 {a : Int} (h : -9223372036854775808 ≤ a ∧ a ≤ 9223372036854775807) : -9223372036854775808 ≤ a.tdiv 3 ∧ a.tdiv 3 ≤ 9223372036854775807 := by
  have h := Int.natAbs_tdiv a 3
  have h2 : a.natAbs.div 3 ≤ a.natAbs := Nat.div_le_self a.natAbs 3
  have h3 : (a.tdiv 3).natAbs ≤ a.natAbs := by rw [h]; exact h2
  clear h h2
  rcases Int.lt_or_le a 0 with hn | hn
  · have h5 : a.tdiv 3 ≤ 0 := by
      have h7 : (-(-a)).tdiv 3 = -((-a).tdiv 3) := Int.neg_tdiv ..
      have h8 : 0 ≤ (-a).tdiv 3 := Int.tdiv_nonneg (by omega) (by omega)
      rw [Int.neg_neg] at h7
      omega
    omega
  · have := Int.tdiv_nonneg hn (show (0 : Int) ≤ 3 by decide)
    omega
theorem spec_len2 (b : List Nat) (n width : Int) : (unpackSpec b n width).1.length ≤ 4000 := by
  unfold unpackSpec
  split
  · simp
  split
  · simp
  split
  · simp
  split
  · simp only [unpacked, List.length_map, List.length_range]; omega
  · simp
theorem range_u8c (l : List Nat) (n : Nat) (hl : l.length = n) : (List.range n).map (u8c l) = u8v l := by
  refine List.ext_getElem (by simp [u8v, hl]) fun i h1 h2 => ?_
  have hi : i < l.length := by simpa [u8v] using h2
  simp [u8v, u8c, hi]
theorem set_lt {l : List Nat} {j y : Nat} (h : ∀ x ∈ l, x < 256) (hy : y < 256) : ∀ x ∈ l.set j y, x < 256 := by
  intro x hx
  rcases List.mem_or_eq_of_mem_set hx with h1 | rfl
  · exact h x h1
  · exact hy
theorem getD_lt {l : List Nat} (h : ∀ x ∈ l, x < 256) (j : Nat) : l.getD j 0 < 256 := by
  rw [List.getD_eq_getElem?_getD]
  rcases Nat.lt_or_ge j l.length with hj | hj
  · rw [List.getElem?_eq_getElem hj]; exact h _ (List.getElem_mem _)
  · rw [List.getElem?_eq_none hj]; decide

set_option maxHeartbeats 4000000 in
set_option maxRecDepth 100000 in
theorem bitsUnpack_walk (a0 : Option Addr) (len0 cap0 : Nat) (z0 : List Int) (a1 a2 : Int) (a3 : Option Addr) (len3 cap3 : Nat) (z3 : List Int) (a4 : Option Addr) (len4 cap4 : Nat) (z4 : List Int) (a5 : Int) (a6 : Option Addr) (len6 cap6 : Nat) (z6 : List Int)
    (w : World) (w0 : IsRow .u64 w a0 len0 cap0 z0) (w1 : (Lit.int .i64 a1).wf = true) (w2 : (Lit.int .i64 a2).wf = true) (w3 : IsRow .i64 w a3 len3 cap3 z3) (w4 : IsRow .u8 w a4 len4 cap4 z4) (w5 : (Lit.int .i64 a5).wf = true) (w6 : IsRow .u8 w a6 len6 cap6 z6) :
    Calls Try.prog 7 #[.slice a0 len0 cap0, .int .i64 a1, .int .i64 a2, .slice a3 len3 cap3, .slice a4 len4 cap4, .int .i64 a5, .slice a6 len6 cap6] w fun e w' => e = .returned (.bool true) ∧ Below w.heap.size w w' := by
  obtain ⟨l, hl, hb, hc, hn, hlen⟩ := w0.u64
  obtain ⟨ha1, ha2⟩ := bounds_i64 w1
  obtain ⟨r, hr, hr256, hrc, hrn, hrlen⟩ := w6.u8
  obtain ⟨at_, hat, hat64, hatc, hatn, hatlen⟩ := w3.i64
  obtain ⟨by_, hby, hby256, hbyc, hbyn, hbylen⟩ := w4.u8
  obtain ⟨hc51, hc52⟩ := bounds_i64 w5
  have m1 : 0 ≤ a1 % 65 := Int.emod_nonneg _ (by omega)
  have m2 : a1 % 65 < 65 := Int.emod_lt_of_pos _ (by omega)
  obtain ⟨wd, hwd⟩ : ∃ n : Nat, a1 % 65 = n := ⟨(a1 % 65).toNat, by omega⟩
  have hwd3 : wd ≤ 64 := by omega
  have Hwd := Lib.hid hwd; clear hwd m1 m2
  have Hl := Lib.hid hl; clear hl
  have Hb := Lib.hid hb; clear hb
  have Hr := Lib.hid hr; clear hr
  have Hr256 := Lib.hid hr256; clear hr256
  have Hat := Lib.hid hat; clear hat
  have Hat64 := Lib.hid hat64; clear hat64
  have Hby := Lib.hid hby; clear hby
  have Hby256 := Lib.hid hby256; clear hby256
  by_cases h60 : 60 < len0
  · go_enter Try.func7, Try.ntmps7
    go_wp2_with (go_at_call 11; refine (known_any _).mono ?_; rintro e x1 ⟨rfl, hx1⟩)
    go_ret
    exact ⟨rfl, hx1⟩
  by_cases h200 : 200 < len6
  · go_enter Try.func7, Try.ntmps7
    go_wp2_with (go_at_call 11; refine (known_any _).mono ?_; rintro e x1 ⟨rfl, hx1⟩)
    go_ret
    exact ⟨rfl, hx1⟩
  go_enter Try.func7, Try.ntmps7
  go_wp2_with (go_at_call 11; refine (known_any _).mono ?_; rintro e x1 ⟨rfl, hx1⟩)
  refine (within_any _ _ _ (by omega) (by omega) ha1 ha2).mono ?_; rw [Hwd.out]; rintro e x2 ⟨rfl, rfl⟩
  go_wp2_with fail
  refine (rpack_any _ _ _ _ l _ Hl.out (by omega) Hb.out (hc.at hx1)).mono ?_
  rintro e x2 ⟨v, rfl, hf⟩
  have hx2 := bmore hx1 hf.2
  rw [show packedAny l (wd : Int) = packed l wd by unfold packedAny; rw [if_pos (by omega)]; simp] at hf
  obtain ⟨aoP, N, capP, rfl, HnP, hcP, hnP, -⟩ := hf.u8
  have hN : N ≤ 500 := by
    have h := HnP.out
    rw [packed_length, Hl.out] at h
    have := Nat.mul_le_mul (show len0 ≤ 60 by omega) hwd3
    unfold packSize at h; omega
  have hP : Bytes x2 x2.heap.size aoP N := ⟨_, HnP.out.symm, packed_lt _ _, hcP, hnP⟩
  clear hf
  go_wp2_with (at_builtin; refine wpList_append_clone1 sl_u8 rfl (.tmp 44) (.tmp 45) rfl rfl rfl (hcP.alloc (Nat.le_refl _) _) hnP (fun _ _ => rfl) (by unfold maxLen; omega) (by omega) ?_)
  intro aoD capD x3 hcD hbD hown
  have hx3 : Below x2.heap.size x2 x3 := (balloc (Below.refl _ _) _).trans (hbD.mono (by simp))
  have hD : DState x3 x2.heap.size 5 aoD N capD := by
    rcases Nat.eq_zero_or_pos N with h0 | h0
    · exact .inl h0
    · obtain ⟨g, rfl, hg, ho⟩ := hown.pos h0
      rw [range_u8c _ N HnP.out.symm] at ho
      exact .inr ⟨g, packed l wd, rfl, Nat.le_trans (by simp) hg, HnP.out.symm, packed_lt _ _, own_base ho (by simp)⟩
  have hcapD : N ≤ capD := by
    rcases hown.row with ⟨h0, -⟩ | ⟨h0, ho⟩
    · omega
    · rcases ho.2 with ⟨-, h3⟩ | ⟨g, c2, cur, h3, -, -, h4, -⟩
      · omega
      · simp only [Value.slice.injEq] at h3; omega
  have hPc := Lib.hid (show (packed l wd).length = N ∧ CellsAt x2 x2.heap.size aoP N (u8c (packed l wd)) ∧ (aoP = none → N = 0) from ⟨HnP.out.symm, hcP, hnP⟩)
  have hrn0 : a6 = none → len6 = 0 ∧ cap6 = 0 := w6.open_.2.2.1
  clear hcD hbD hown hcP
  go_upto_block 0 with fail
  go_cut [18] (fun i wx => ∃ j : Int, i = .int .i64 j ∧ DState wx x2.heap.size 5 aoD N capD ∧ Below x2.heap.size x2 wx)
  case first =>
    go_wp2_with fail
    go_loopw [18] (fun i wr => ∃ k : Nat, k ≤ 3 ∧ i = .int .i64 k ∧ DState wr x2.heap.size 5 aoD N capD ∧ Below x2.heap.size x2 wr) (fun i _ => 3 - (intOf i).toNat)
    case atStart => exact ⟨0, by omega, rfl, hD, hx3⟩
    case round =>
      obtain ⟨k, hk, rfl, hDr, hwr⟩ := hrel
      by_cases c1 : k < len3
      · by_cases c2 : k < len4
        · by_cases c3 : k < 3
          · by_cases c4 : 0 < N
            · obtain ⟨g, dl, rfl, hg, hdl, hd256, hown⟩ : ∃ (g : Nat) (dl : List Nat), aoD = some ⟨g, 0, none⟩ ∧ x2.heap.size ≤ g ∧ dl.length = N ∧ (∀ x ∈ dl, x < 256) ∧ wr.ownsRow x2.heap.size 5 1 (.slice (some ⟨g, 0, none⟩) N capD) N (u8v dl) := by
                rcases hDr with h | h
                · omega
                · exact h
              have hx3w : Below w.heap.size w wr := bmore hx2 hwr
              obtain ⟨b3, o3, rfl, hb3, hc3⟩ := hatc k c1
              obtain ⟨b4, o4, rfl, hb4, hc4⟩ := hbyc k c2
              have hc3' := (hx3w.cell (by exact hb3)).trans hc3
              have hc4' := (hx3w.cell (by exact hb4)).trans hc4
              obtain ⟨av, hav⟩ : ∃ av, av = at_.getD k 0 := ⟨_, rfl⟩
              obtain ⟨bv, hbv⟩ : ∃ bv, bv = by_.getD k 0 := ⟨_, rfl⟩
              have hav64 : -9223372036854775808 ≤ av ∧ av ≤ 9223372036854775807 := by
                rw [hav, List.getD_eq_getElem?_getD, List.getElem?_eq_getElem (by rw [Hat.out]; exact c1)]
                exact Hat64.out _ (List.getElem_mem _)
              have hbv256 : bv < 256 := by rw [hbv]; exact getD_lt Hby256.out _
              rw [i64c, ← hav] at hc3'
              rw [u8c, ← hbv] at hc4'
              have k1 : 0 ≤ av % (N : Int) := Int.emod_nonneg _ (by omega)
              have k2 : av % (N : Int) < (N : Int) := Int.emod_lt_of_pos _ (by omega)
              obtain ⟨kk, hkk⟩ : ∃ kk : Nat, av % (N : Int) = kk := ⟨_, (Int.toNat_of_nonneg k1).symm⟩
              have hkN : kk < N := by omega
              have hwi : ∀ w, Calls Try.prog 12 #[.int .i64 av, .int .i64 N] w fun e w' => e = .returned (.int .i64 (kk : Nat)) ∧ w' = w := fun w => by
                have := same_flip (within_any av N w (by omega) (by omega) hav64.1 hav64.2)
                rwa [hkk] at this
              have Hwi := Lib.hid hwi
              obtain ⟨old, hold⟩ : ∃ old, Hid (old = dl.getD kk 0) := ⟨_, Lib.hid rfl⟩
              have hold8 : old < 256 := by rw [hold.out]; exact getD_lt hd256 _
              have hcell : wr.cell? ⟨g, kk, none⟩ = some (.int .u8 (old : Nat)) := by rw [hold.out]; exact cell_u8 hown _ hkN
              have hfr := hown.frozenAt kk
              have e1 : (k : Int) < (len3 : Int) := by omega
              have e2 : (k : Int) < (len4 : Int) := by omega
              have e3 : (0 : Int) ≤ (k : Int) := by omega
              have e4 : (kk : Int) < (N : Int) := by omega
              have e5 : (0 : Int) ≤ (kk : Int) := by omega
              clear hwi hkk k1 k2 hav hbv hc3 hc4 hatc hbyc
              go_wp2
              go_still_tail 16, (by kernel_rfl)
              still_call (Hwi.out _)
              repeat still_step
              refine wpStill_nil ?_
              change wpList _ _ _ _ _ wr.drew
              go_wp2
              go_roundw
              case rel =>
                refine ⟨k + 1, by omega, by go_num, .inr ⟨g, dl.set kk ((old + bv) % 256), rfl, hg, by rw [List.length_set]; exact hdl, set_lt hd256 (by omega), ?_⟩, (hwr.setCell (by exact hg) _).drew⟩
                exact (stored_u8 hown kk (x := ((old : Int) + bv) % 256) (by omega)).drew
              case measure => simp [intOf]; omega
            · go_wp2
              go_meet
              exact ⟨_, rfl, hDr, hwr⟩
          · go_wp2
            go_meet
            exact ⟨_, rfl, hDr, hwr⟩
        · go_wp2
          go_meet
          exact ⟨_, rfl, hDr, hwr⟩
      · go_wp2
        go_meet
        exact ⟨_, rfl, hDr, hwr⟩
  case rest =>
    obtain ⟨j, rfl, hDr, hwr⟩ := hcut
    have hDN := hDr.bytes (Nat.le_refl N)
    go_upto_if 86 with fail
    go_cut [17] (fun d wx => ∃ N' : Nat, N' ≤ N ∧ d = .slice aoD N' capD ∧ wx = wc)
    case first =>
      have hq1 := (tdiv3 ⟨hc51, hc52⟩).1
      have hq2 := (tdiv3 ⟨hc51, hc52⟩).2
      have k1 : 0 ≤ (a5.tdiv 3) % ((N : Int) + 1) := Int.emod_nonneg _ (by omega)
      have k2 : (a5.tdiv 3) % ((N : Int) + 1) < (N : Int) + 1 := Int.emod_lt_of_pos _ (by omega)
      obtain ⟨N', hN'⟩ : ∃ N' : Nat, (a5.tdiv 3) % ((N : Int) + 1) = N' := ⟨_, (Int.toNat_of_nonneg k1).symm⟩
      have hNN : N' ≤ N := by omega
      have HN' := Lib.hid hN'; clear hN' k1 k2
      cases hb : (a5.tmod 3 == 1)
      · go_wp2
        go_meet
        exact ⟨N, Nat.le_refl _, rfl, rfl⟩
      · go_wp2_with fail
        refine (within_any _ _ _ (by omega) (by omega) hq1 hq2).mono ?_; rw [HN'.out]; rintro e x5 ⟨rfl, rfl⟩
        go_wp2
        go_meet
        exact ⟨N', hNN, rfl, rfl⟩
    case rest =>
      obtain ⟨N', hNN, rfl, rfl⟩ := hcut
      go_wp2_with (at_builtin; refine wpList_append_clone1 sl_u8 rfl (.tmp 97) (.tmp 98) rfl rfl rfl ((hPc.out.2.1.at hwr).alloc (Nat.le_refl _) _) (hPc.out.2.2) (fun _ _ => rfl) (by unfold maxLen; omega) (by omega) ?_)
      intro ao5 cap5 w5 hc5 hbz hcl5
      have hb5 : Below wc.heap.size wc w5 := (balloc (Below.refl _ _) _).trans (hbz.mono (by simp))
      have hcl5r := Lib.hid hcl5.row
      have hs5 := Lib.hid hbz.size
      clear hcl5 hc5
      go_wp2_with (at_builtin; refine wpList_append_rows1 sl_u8 rfl (.tmp 99) (.tmp 100) rfl rfl hcl5r.out rfl (hrc.at (bmore hx2 (bmore hwr hb5))) hrn0 (fun _ _ => rfl) (by unfold maxLen; omega) (by omega) hs5.out ?_)
      intro ao7 cap7 w7 hc7 hb7 hs7
      have hb7 : Below wc.heap.size wc w7 := (hb5.trans (hb7.mono (by omega)))
      obtain ⟨rw7, hrw7, hrw256⟩ : ∃ l7 : List Nat, l7.length = N + len6 ∧ ((∀ x ∈ l7, x < 256) ∧ ∀ i, i < N + len6 → (if i < N then u8c (packed l wd) i else u8c r (i - N)) = u8c l7 i) := by
        refine ⟨packed l wd ++ r, by rw [List.length_append, hPc.out.1, Hr.out], fun x hx => ?_, fun i hi => ?_⟩
        · rcases List.mem_append.1 hx with h | h
          · exact packed_lt _ _ _ h
          · exact Hr256.out x h
        · split
          · rename_i h
            simp only [u8c, List.getD_eq_getElem?_getD]
            rw [List.getElem?_append_left (by rw [hPc.out.1]; exact h)]
          · rename_i h
            simp only [u8c, List.getD_eq_getElem?_getD]
            rw [List.getElem?_append_right (by rw [hPc.out.1]; omega), hPc.out.1]
      have hB7 : Bytes w7 w7.heap.size ao7 (N + len6) := by
        refine ⟨rw7, hrw7, hrw256.1, hc7.congr hrw256.2, fun e => ?_⟩
        subst e
        rcases Nat.eq_zero_or_pos (N + len6) with h | h
        · exact h
        · obtain ⟨b, off, e, -⟩ := hc7 0 h
          cases e
      have hBP : Bytes w7 w7.heap.size aoP N := (hP.at hwr).at hb7
      have hBD : Bytes w7 w7.heap.size aoD N' := (hDr.bytes hNN).at hb7
      have hBR : Bytes w7 w7.heap.size a6 len6 := Bytes.at ⟨r, Hr.out, Hr256.out, hrc, hrn⟩ (bmore hx2 (bmore hwr hb7))
      have hrows : ∃ R : Nat → Value, (R 0 = .slice aoP N capP ∧ R 1 = .slice aoD N' capD ∧ R 2 = .slice ao7 (N + len6) cap7 ∧ R 3 = .slice a6 len6 cap6) ∧ ∀ i, i < 4 → ∃ a m c, R i = .slice a m c ∧ m ≤ 700 ∧ Bytes w7 w7.heap.size a m := by
        refine ⟨fun i => if i = 0 then .slice aoP N capP else if i = 1 then .slice aoD N' capD else if i = 2 then .slice ao7 (N + len6) cap7 else .slice a6 len6 cap6, ⟨rfl, rfl, rfl, rfl⟩, fun i hi => ?_⟩
        match i, hi with
        | 0, _ => exact ⟨_, _, _, rfl, by omega, hBP⟩
        | 1, _ => exact ⟨_, _, _, rfl, by omega, hBD⟩
        | 2, _ => exact ⟨_, _, _, rfl, by omega, hB7⟩
        | 3, _ => exact ⟨_, _, _, rfl, by omega, hBR⟩
      obtain ⟨R, hR, hrows⟩ := hrows
      have hcells := cells_alloc w7 #[.slice aoP N capP, .slice aoD N' capD, .slice ao7 (N + len6) cap7, .slice a6 len6 cap6] 25 4 R (fun i hi => by match i, hi with | 0, _ => exact congrArg some hR.1.symm | 1, _ => exact congrArg some hR.2.1.symm | 2, _ => exact congrArg some hR.2.2.1.symm | 3, _ => exact congrArg some hR.2.2.2.symm)
      have hrows' : ∀ i, i < 4 → ∃ a m c, R i = .slice a m c ∧ m ≤ 700 ∧ Bytes (w7.alloc (.cells #[.slice aoP N capP, .slice aoD N' capD, .slice ao7 (N + len6) cap7, .slice a6 len6 cap6] 25)) (w7.alloc (.cells #[.slice aoP N capP, .slice aoD N' capD, .slice ao7 (N + len6) cap7, .slice a6 len6 cap6] 25)).heap.size a m := fun i hi => by
        obtain ⟨a, m, c, h1, h2, h3⟩ := hrows i hi
        exact ⟨a, m, c, h1, h2, h3.at (balloc (Below.refl _ _) _)⟩
      have hx8 : Below w.heap.size w (w7.alloc (.cells #[.slice aoP N capP, .slice aoD N' capD, .slice ao7 (N + len6) cap7, .slice a6 len6 cap6] 25)) := balloc (bmore hx2 (bmore hwr hb7)) _
      obtain ⟨w8, hw8⟩ : ∃ w8, w8 = w7.alloc (.cells #[.slice aoP N capP, .slice aoD N' capD, .slice ao7 (N + len6) cap7, .slice a6 len6 cap6] 25) := ⟨_, rfl⟩
      rw [← hw8] at hcells hrows' hx8
      clear hrows hBP hBD hB7
      go_wp2
      rw [← hw8]
      clear hw8 hb7 hc7 hrw7 hrw256
      go_loopw [20] (fun i wr => ∃ k : Nat, k ≤ 4 ∧ i = .int .i64 k ∧ Below w8.heap.size w8 wr) (fun i _ => 4 - (intOf i).toNat)
      case atStart => exact ⟨0, by omega, rfl, Below.refl _ _⟩
      case round =>
        obtain ⟨k, hk, rfl, hwk⟩ := hrel
        by_cases hk4 : k < 4
        · obtain ⟨a, m, c, hRk, hm, hBk⟩ := hrows' k hk4
          obtain ⟨b, off, hbe, hb, hck⟩ := hcells k hk4
          simp only [Option.some.injEq, Addr.mk.injEq] at hbe
          obtain ⟨rfl, rfl, -⟩ := hbe
          rw [Nat.zero_add, hRk] at hck
          have hck1 := (hwk.cell (by exact hb)).trans hck
          have hck' : (wr.alloc (.cells #[] 5)).cell? ⟨w7.heap.size, k, none⟩ = some (.slice a m c) := ((balloc hwk (.cells #[] 5)).cell (by exact hb)).trans hck
          obtain ⟨bl, hbl, hbl256, hbc, hbn⟩ := hBk.at hwk
          have Hbl := Lib.hid hbl; clear hbl
          have Hbl256 := Lib.hid hbl256; clear hbl256
          have Hbc := Lib.hid hbc; clear hbc
          have e1 : (k : Int) < 4 := by omega
          have e2 : (0 : Int) ≤ (k : Int) := by omega
          clear hcells hrows'
          go_wp2_with (at_builtin; refine wpList_append_clone1 sl_u8 rfl (.tmp 109) (.tmp 113) rfl rfl rfl (Hbc.out.alloc (Nat.le_refl _) _) hbn (fun _ _ => rfl) (by unfold maxLen; omega) (by omega) ?_)
          intro aoC capC xc hcC hbC hclC
          have hbC := Lib.hid ((balloc (Below.refl _ _) _).trans (hbC.mono (Nat.le_succ _)) : Below wr.heap.size wr xc)
          clear hclC
          go_wp2_with fail
          refine (unpack_any _ _ _ _ _ bl _ Hbl.out Hbl256.out (by omega) hcC).mono ?_
          rintro e y1 ⟨v1, rfl, hf1⟩
          have hy1 := Lib.hid (bmore hbC.out hf1.2)
          have hck2 := Lib.hid ((bmore hwk hy1.out).cell (by exact hb) |>.trans hck)
          obtain ⟨sp, hsp⟩ : ∃ sp, sp = unpackSpec bl (len0 : Nat) (wd : Nat) := ⟨_, rfl⟩
          rw [← hsp] at hf1 ⊢
          obtain ⟨aoX, nX, capX, rfl, HnX, hcX, -, -⟩ := hf1.u64
          obtain ⟨er, her⟩ : ∃ er, er = sp.2 := ⟨_, rfl⟩
          rw [← her]
          clear hf1 hcC
          have hck3 := hck2.out
          go_wp2_with fail
          refine (runpack_any _ _ _ _ _ bl _ Hbl.out Hbl256.out (by omega) (Hbc.out.at hy1.out)).mono ?_
          rintro e y2 ⟨v2, rfl, hf2⟩
          have hy2 := Lib.hid (bmore hy1.out hf2.2)
          rw [← hsp] at hf2 ⊢
          obtain ⟨aoY, nY, capY, rfl, HnY, hcY, -, -⟩ := hf2.u64
          obtain rfl : nY = nX := HnY.out.trans HnX.out.symm
          rw [← her]
          have hcX2 := hcX.at hf2.2
          have hnX : nY ≤ 9223372036854775807 := by have := HnY.out; rw [hsp] at this; have := spec_len2 bl len0 wd; omega
          clear hf2
          go_wp2_with fail
          refine (numbers_same _ _ _ _ _ sp.1 _ hnX hcX2 hcY).mono ?_
          rintro e y3 ⟨rfl, hy3⟩
          have hy3 := bmore hy2.out hy3
          go_wp2
          go_roundw
          case rel => exact ⟨k + 1, by omega, by go_num, bmore hwk hy3⟩
          case measure => simp [intOf]; omega
        · obtain rfl : k = 4 := by omega
          have hxr : Below w.heap.size w wr := bmore hx8 hwk
          clear hcells hrows' hwk hx8 hBR hPc hP hDr hD hc hatc hbyc
          go_wp2_with fail
          refine (unpack_any _ _ _ _ _ r _ Hr.out Hr256.out hrlen (hrc.at hxr)).mono ?_
          rintro e y1 ⟨v1, rfl, hf1⟩
          have hy1 := Lib.hid (bmore hxr hf1.2)
          obtain ⟨sp, hsp⟩ : ∃ sp, sp = unpackSpec r a2 a1 := ⟨_, rfl⟩
          rw [← hsp] at hf1 ⊢
          obtain ⟨aoX, nX, capX, rfl, HnX, hcX, -, -⟩ := hf1.u64
          obtain ⟨er, her⟩ : ∃ er, er = sp.2 := ⟨_, rfl⟩
          rw [← her]
          clear hf1
          go_wp2_with fail
          refine (runpack_any _ _ _ _ _ r _ Hr.out Hr256.out hrlen (hrc.at hy1.out)).mono ?_
          rintro e y2 ⟨v2, rfl, hf2⟩
          have hy2 := Lib.hid (bmore hy1.out hf2.2)
          rw [← hsp] at hf2 ⊢
          obtain ⟨aoY, nY, capY, rfl, HnY, hcY, -, -⟩ := hf2.u64
          obtain rfl : nY = nX := HnY.out.trans HnX.out.symm
          rw [← her]
          have hcX2 := hcX.at hf2.2
          have hnX : nY ≤ 9223372036854775807 := by have := HnY.out; rw [hsp] at this; have := spec_len2 r a2 a1; omega
          clear hf2
          go_wp2_with fail
          refine (numbers_same _ _ _ _ _ sp.1 _ hnX hcX2 hcY).mono ?_
          rintro e y3 ⟨rfl, hy3⟩
          have hy3 := bmore hy2.out hy3
          go_wp2
          go_ret
          exact ⟨rfl, hy3⟩
end Go.Proofs.Ytkmgbcpleopdgaa
