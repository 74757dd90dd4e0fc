/- Chapter 10: the law's Levels and ints; LevelBack. -/
import Derived.Test.YtopmcffjpbnlnaaLevI
import Derived.Test.YtopmcffjpbnlnaaLevF
import Derived.Test.YtopmcffjpbnlnaaRow
import Derived.Test.YtopmcffjpbnlnaaReads
namespace Go.Proofs.Ytopmcffjpbnlnaa
open Go.RowKit
set_option linter.unusedVariables false

theorem lowB_lt' (v n : Nat) : ∀ x ∈ lowB v n, x < 256 := by
  induction n with
  | zero => intro x hx; simp [lowB] at hx
  | succ n ih =>
    intro x hx
    rw [lowB] at hx
    rcases List.mem_append.1 hx with h | h
    · exact ih x h
    · simp at h; omega
theorem levB_lt (w : Nat) (m : Nat) : ∀ l : List Nat, l.length ≤ m → l.length ≤ 1000000 → ∀ x ∈ levB w l, x < 256 := by
  induction m with
  | zero => intro l hm _ x hx; rw [List.length_eq_zero_iff.1 (Nat.le_zero.1 hm)] at hx; simp [levB_nil] at hx
  | succ m ih =>
    intro l hm hl x hx
    by_cases h0 : l = []
    · subst h0; simp [levB_nil] at hx
    have hpos : 0 < l.length := List.length_pos_iff.2 h0
    cases hr : isRun l with
    | true =>
      have hs := sameN_pos l h0
      have hs2 := sameN_le l
      rw [levB_run w l h0 hr] at hx
      rcases List.mem_append.1 hx with hx | hx
      · rcases List.mem_append.1 hx with hx | hx
        · exact vputB_lt _ (by omega) x hx
        · exact lowB_lt' _ _ x hx
      · exact ih (l.drop (sameN l)) (by rw [List.length_drop]; omega) (by rw [List.length_drop]; omega) x hx
    | false =>
      obtain ⟨G, g1, g2, g3, g4, g5⟩ := grps_is l.length l (Nat.le_refl _) h0
      have hsh := grps_shorter l h0
      rw [levB_grp w l h0 hr] at hx
      rcases List.mem_append.1 hx with hx | hx
      · rcases List.mem_append.1 hx with hx | hx
        · exact vputB_lt _ (by rw [g1]; omega) x hx
        · exact packed_lt _ _ x hx
      · exact ih (grps l).2 (by omega) (by omega) x hx
theorem levAny_lt (l : List Nat) (w : Int) (hl : l.length ≤ 1000000) : ∀ x ∈ levAny l w, x < 256 := by
  unfold levAny
  split
  · simp
  · exact levB_lt _ _ l (Nat.le_refl _) hl
theorem levAny_le (l : List Nat) (w : Nat) (hw : w ≤ 16) : (levAny l w).length ≤ 26 * l.length := by
  unfold levAny
  split
  · simp
  · rw [Int.toNat_natCast]; exact levB_le w hw _ l (Nat.le_refl _)

/-- A call gave levels. -/
def GaveN (w : World) (l : List Nat) (e : Ending) (w' : World) : Prop := ∃ v, e = .returned v ∧ w'.ownsRow w.heap.size 3 1 v l.length (natv l) ∧ Below w.heap.size w w'
theorem GaveN.opened {w w' : World} {l : List Nat} {e : Ending} (h : GaveN w l e w') :
    ∃ ao n cap, e = .returned (.slice ao n cap) ∧ Hid (l.length = n) ∧ n ≤ cap ∧ CellsAt w' w'.heap.size ao n (nic l) ∧ (ao = none → n = 0 ∧ cap = 0) ∧ w'.ownsRow w.heap.size 3 1 (.slice ao n cap) n (natv l) ∧ Below w.heap.size w w' := by
  obtain ⟨v, rfl, ho, hb⟩ := h
  obtain ⟨ao, cap, rfl, h1, h2, h3, h4⟩ := own_nat ho
  exact ⟨ao, _, cap, rfl, Lib.hid rfl, h2, h3, h4, ho, hb⟩
theorem GaveLev.opened {w w' : World} {r : List Nat × Nat} {e : Ending} (h : GaveLev w r e w') :
    ∃ ao n cap, e = .returned (.tuple #[.slice ao n cap, .int .i64 (r.2 : Nat)]) ∧ Hid (r.1.length = n) ∧ n ≤ cap ∧ CellsAt w' w'.heap.size ao n (nic r.1) ∧ Below w.heap.size w w' := by
  obtain ⟨v, rfl, ho, hb⟩ := h
  obtain ⟨ao, cap, rfl, h1, h2, h3, h4⟩ := own_nat ho
  exact ⟨ao, _, cap, rfl, Lib.hid rfl, h2, h3, hb⟩

theorem two_pow (wd : Nat) (h : wd ≤ 16) : ∃ P : Nat, (2 : Int) ^ wd = (P : Int) ∧ 1 ≤ P ∧ P ≤ 65536 ∧ Hid (P = 2 ^ wd) := by
  refine ⟨2 ^ wd, by rw [Int.natCast_pow]; rfl, Nat.two_pow_pos wd, Nat.pow_le_pow_right (by decide) h, Lib.hid rfl⟩

set_option maxHeartbeats 4000000 in
set_option maxRecDepth 100000 in
theorem levels_any (ao : Option Addr) (len cap wd : Nat) (os : List Int) (w : World) (hol : os.length = len) (hob : ∀ x ∈ os, -9223372036854775808 ≤ x ∧ x ≤ 9223372036854775807) (hoc : CellsAt w w.heap.size ao len (i64c os)) (holen : len ≤ 9223372036854775807) (h16 : wd ≤ 16) :
    Calls Try.prog 12 #[.slice ao len cap, .int .i64 (wd : Nat)] w fun e w' => ∃ l : List Nat, l.length ≤ 300 ∧ (∀ x ∈ l, x < 2 ^ wd) ∧ GaveN w l e w' := by
  have Hol := Lib.hid hol; have Hob := Lib.hid hob; have Hoc := Lib.hid hoc
  obtain ⟨P, eP, hP1, hP2, HP⟩ := two_pow wd h16
  have eP1 : IntKind.i64.wrap (P : Int) = (P : Int) := IntWalk.i64_in _ (by omega)
  clear hol hob hoc
  go_enter Try.func12, Try.ntmps12
  go_wp2
  go_loopw [5, 6] (fun v i x => ∃ (j L : Nat) (l : List Nat) (aoL : Option Addr) (capL : Nat), v = .slice aoL L capL ∧ i = .int .i64 (j : Nat) ∧ j ≤ len ∧ L ≤ 300 ∧ Hid (L = l.length) ∧ Hid (∀ y ∈ l, y < P) ∧ Hid (x.ownsRow w.heap.size 3 1 (.slice aoL L capL) L (natv l)) ∧ Hid (Below w.heap.size w x)) (fun _ i _ => len - (intOf i).toNat)
  case atStart => exact ⟨0, 0, [], none, 0, rfl, rfl, Nat.zero_le _, by omega, Lib.hid rfl, Lib.hid (fun y h => by simp at h), Lib.hid (World.ownsRow_nil _ _ _ _), Lib.hid (Below.refl _ _)⟩
  case round =>
    obtain ⟨j, L, l, aoL, capL, rfl, rfl, hj, hL, hLl, hlt, hown, hbel⟩ := hrel
    obtain ⟨x, hxx⟩ : ∃ x, x = wr := ⟨_, rfl⟩
    subst hxx
    by_cases hjn : j < len ∧ j < 40
    · have d1 : decide ((j : Int) < (len : Int)) = true := decide_eq_true (by omega)
      have d1' : decide (j < len) = true := decide_eq_true hjn.1
      have d2 : decide ((j : Int) < 40) = true := decide_eq_true (by omega)
      obtain ⟨b, off, rfl, hbl, hcc⟩ := Hoc.out j hjn.1
      obtain ⟨z, hz⟩ : ∃ z, z = os.getD j 0 := ⟨_, rfl⟩
      have hz64 : -9223372036854775808 ≤ z ∧ z ≤ 9223372036854775807 := by
        rw [hz, List.getD_eq_getElem?_getD, List.getElem?_eq_getElem (by rw [Hol.out]; exact hjn.1)]
        exact Hob.out _ (List.getElem_mem _)
      rw [i64c, ← hz] at hcc
      have ht := tdivk' z 16 (by decide) hz64
      rw [show ((16 : Nat) : Int) = 16 from rfl] at ht
      obtain ⟨t, hte⟩ : ∃ t, t = z.tdiv 16 := ⟨_, rfl⟩
      rw [← hte] at ht
      have ht0 : z.tdiv 16 = t := hte.symm
      have ht1 := ht.1; have ht2 := ht.2
      have hwt : IntKind.i64.wrap t = t := IntWalk.i64_in _ (by omega)
      obtain ⟨m12, hm12, hm12l⟩ := modN' t 12 (by decide)
      have Hm12 : Hid (t % 12 = (m12 : Int)) := Lib.hid hm12
      obtain ⟨Y, hY, hYl⟩ := modN' z P (by omega)
      have HY : Hid (z % (P : Int) = (Y : Int)) := Lib.hid hY
      have hz1 := hz64.1; have hz2 := hz64.2
      have Hcc := Lib.hid hcc; have Hbl := Lib.hid hbl
      have ej0 : (0 : Int) ≤ (j : Int) := by omega
      have ejl : (j : Int) < (len : Int) := by omega
      clear hz hcc hte hm12 hY hz64 hbl ht
      go_wp2
      go_loopw [5, 7] (fun v q y => ∃ (k L2 : Nat) (l2 : List Nat) (aoJ : Option Addr) (capJ : Nat), v = .slice aoJ L2 capJ ∧ q = .int .i64 (k : Nat) ∧ k ≤ 1 + m12 ∧ L2 ≤ 300 ∧ Hid (L2 = l2.length) ∧ Hid (∀ y ∈ l2, y < P) ∧ Hid (y.ownsRow w.heap.size 3 1 (.slice aoJ L2 capJ) L2 (natv l2)) ∧ Hid (Below w.heap.size w y)) (fun _ q _ => 1 + m12 - (intOf q).toNat)
      case atStart => exact ⟨0, L, l, aoL, capL, rfl, rfl, by omega, hL, hLl, hlt, hown, hbel⟩
      case round =>
        clear hLl hlt hown hbel
        obtain ⟨k, L2, l2, aoJ, capJ, rfl, rfl, hk, hL2, hLl, hlt, hown, hbel⟩ := hrel
        obtain ⟨y, hyy⟩ : ∃ x, x = wr := ⟨_, rfl⟩
        subst hyy
        have hcc := (hbel.out.cell (by exact Hbl.out)).trans Hcc.out
        by_cases hkn : k < 1 + m12 ∧ L2 < 300
        · have d3 : decide ((k : Int) < 1 + (m12 : Int)) = true := decide_eq_true (by omega)
          have d4 : decide ((L2 : Int) < 300) = true := decide_eq_true (by omega)
          have hsA : w.heap.size ≤ (y.alloc (.cells #[.int .i64 (Y : Int)] 3)).heap.size := Nat.le_trans hbel.out.size (by simp)
          have hownA := own_below hown.out ((Below.refl _ _).alloc (Nat.le_refl _) (.cells #[.int .i64 (Y : Int)] 3))
          go_wp2_with fail
          refine (within_any t 12 _ (by omega) (by omega) ht1 ht2).mono ?_; rw [Hm12.out]; rintro e x2 ⟨rfl, rfl⟩
          go_wp2_with fail
          refine (within_any z (P : Int) _ (by omega) (by omega) hz1 hz2).mono ?_; rw [HY.out]; rintro e x2 ⟨rfl, rfl⟩
          go_wp2_with (at_builtin; refine wpList_append_all1 sl_i rfl (.tmp 34) (.tmp 43) rfl rfl hownA rfl (cells_one y 3 (.int .i64 (Y : Int))) (fun h => by cases h) (fun _ _ => rfl) (by unfold maxLen; omega) (by omega) hsA ?_)
          intro v2 y2 hown2 hgrow2
          have hy2 : Below w.heap.size w y2 := (hbel.out.alloc hbel.out.size _).grown hgrow2 hsA (fun k hk => (hownA.lt k hk).1)
          have hown3 : y2.ownsRow w.heap.size 3 1 v2 (L2 + 1) (natv (l2 ++ [Y])) := by
            rw [natv_append]; exact hown2
          obtain ⟨ao3, cap3, rfl, -, -⟩ := own_cells hown3
          have H3 := Lib.hid hown3; have Hy2 := Lib.hid hy2
          have hlt3 : Hid (∀ u ∈ l2 ++ [Y], u < P) := Lib.hid (fun u hu => by
            rcases List.mem_append.1 hu with h | h
            · exact hlt.out u h
            · simp at h; omega)
          clear hown2 hgrow2 hown3 hy2 hownA hsA hown hbel
          go_wp2
          go_roundw
          case rel => exact ⟨k + 1, L2 + 1, l2 ++ [Y], ao3, cap3, rfl, by go_num, by omega, by omega, Lib.hid (by rw [List.length_append, hLl.out]; rfl), hlt3, H3, Hy2⟩
          case measure => simp [intOf]; omega
        · by_cases hk1 : k < 1 + m12
          · have d3 : decide ((k : Int) < 1 + (m12 : Int)) = true := decide_eq_true (by omega)
            have d4 : decide ((L2 : Int) < 300) = false := decide_eq_false (by omega)
            go_wp2_with fail
            refine (within_any t 12 _ (by omega) (by omega) ht1 ht2).mono ?_; rw [Hm12.out]; rintro e x2 ⟨rfl, rfl⟩
            go_wp2
            go_roundw
            case rel => first | exact ⟨j + 1, L2, l2, aoJ, capJ, rfl, by go_num, by omega, hL2, hLl, hlt, hown, hbel⟩ | ((repeat apply Exists.intro); refine ⟨?_, rfl⟩; exact ⟨j + 1, L2, l2, aoJ, capJ, rfl, by go_num, by omega, hL2, hLl, hlt, hown, hbel⟩)
            case measure => simp [intOf]; omega
          · have d3 : decide ((k : Int) < 1 + (m12 : Int)) = false := decide_eq_false (by omega)
            go_wp2_with fail
            refine (within_any t 12 _ (by omega) (by omega) ht1 ht2).mono ?_; rw [Hm12.out]; rintro e x2 ⟨rfl, rfl⟩
            go_wp2
            go_roundw
            case rel => first | exact ⟨j + 1, L2, l2, aoJ, capJ, rfl, by go_num, by omega, hL2, hLl, hlt, hown, hbel⟩ | ((repeat apply Exists.intro); refine ⟨?_, rfl⟩; exact ⟨j + 1, L2, l2, aoJ, capJ, rfl, by go_num, by omega, hL2, hLl, hlt, hown, hbel⟩)
            case measure => simp [intOf]; omega
    · have hfin : Hid (GaveN w l (.returned (.slice aoL L capL)) x) := Lib.hid ⟨_, rfl, by rw [← hLl.out]; exact hown.out, hbel.out⟩
      have hlen : Hid (l.length ≤ 300) := Lib.hid (by rw [← hLl.out]; exact hL)
      clear hown hbel
      by_cases hj1 : j < len
      · have d1 : decide ((j : Int) < (len : Int)) = true := decide_eq_true (by omega)
        have d1' : decide (j < len) = true := decide_eq_true hj1
        have d2 : decide ((j : Int) < 40) = false := decide_eq_false (by omega)
        go_wp2
        go_ret
        exact ⟨l, hlen.out, by rw [← HP.out]; exact hlt.out, hfin.out⟩
      · have d1 : decide ((j : Int) < (len : Int)) = false := decide_eq_false (by omega)
        have d1' : decide (j < len) = false := decide_eq_false hj1
        go_wp2
        go_ret
        exact ⟨l, hlen.out, by rw [← HP.out]; exact hlt.out, hfin.out⟩

set_option maxHeartbeats 1000000 in
set_option maxRecDepth 100000 in
/-- ints of two rows that are the same. -/
theorem ints_same (ao1 ao2 : Option Addr) (n cap1 cap2 : Nat) (l : List Nat) (w : World) (hn : n ≤ 100000) (h1 : CellsAt w w.heap.size ao1 n (nic l)) (h2 : CellsAt w w.heap.size ao2 n (nic l)) :
    Calls Try.prog 16 #[.slice ao1 n cap1, .slice ao2 n cap2] w fun e w' => e = .returned (.bool true) ∧ ∃ m, w' = w.drewN m := by
  have H1 := Lib.hid h1; have H2 := Lib.hid h2
  clear h1 h2
  go_enter Try.func16, Try.ntmps16
  go_wp2
  go_loopw [5] (fun i wr => ∃ k m : Nat, k ≤ n ∧ i = .int .i64 (k : Nat) ∧ wr = w.drewN m) (fun i _ => n - (intOf i).toNat)
  case atStart => exact ⟨0, 0, Nat.zero_le _, rfl, rfl⟩
  case round =>
    obtain ⟨k, m, hk, rfl, rfl⟩ := hrel
    by_cases hkn : k < n
    · obtain ⟨b1, o1, rfl, -, c1⟩ := H1.out k hkn
      obtain ⟨b2, o2, rfl, -, c2⟩ := H2.out k hkn
      obtain ⟨x, hx⟩ : ∃ x, x = l.getD k 0 := ⟨_, rfl⟩
      rw [nic, ← hx] at c1 c2
      have e1 : (k : Int) < (n : Int) := by omega
      have e2 : (0 : Int) ≤ (k : Int) := by omega
      clear hx
      go_wp2
      go_quiet (fail)
      go_wp2
      go_roundw
      case rel => exact ⟨k + 1, m + nq, by omega, by go_num, rfl⟩
      case measure => simp [intOf]; omega
    · obtain rfl : k = n := by omega
      go_wp2
      go_ret
      exact ⟨rfl, m, rfl⟩

/-- Bytes as a text, in whatever world has grown out of this one. -/
theorem conv_grown {w : World} {ao : Option Addr} {n cap : Nat} {l : List Nat} (hl : l.length = n) (hc : CellsAt w w.heap.size ao n (u8c l)) (hn : ao = none → n = 0) :
    ∀ w', Grows w w' → (convert 26 9 (.slice ao n cap)).run Try.prog w' = .ok (.string (strOf l)) w' := fun w' h =>
  run_string_of (P := Try.prog) 26 5 9 Try.underlying26 Try.underlying5 Try.underlying9 hl (h.cells hc) hn
theorem lt64_of {l : List Nat} {wd : Nat} (h16 : wd ≤ 16) (h : ∀ x ∈ l, x < 2 ^ wd) : ∀ x ∈ l, x < 18446744073709551616 := fun x hx =>
  Nat.lt_of_lt_of_le (h x hx) (Nat.le_trans (Nat.pow_le_pow_right (by decide) h16) (by decide))

set_option maxHeartbeats 4000000 in
set_option maxRecDepth 100000 in
theorem levelBack_walk (a0 : Option Addr) (len0 cap0 : Nat) (z0 : List Int) (a1 : Int) (w : World) (w0 : IsRow .i64 w a0 len0 cap0 z0) (w1 : (Lit.int .i64 a1).wf = true) :
    Calls Try.prog 4 #[.slice a0 len0 cap0, .int .i64 a1] w fun e w' => e = .returned (.bool true) ∧ Below w.heap.size w w' := by
  obtain ⟨ha1, ha2⟩ := bounds_i64 w1
  obtain ⟨os, hol, hob, hoc, -, holen⟩ := w0.i64
  have Hol := Lib.hid hol; have Hob := Lib.hid hob
  clear hol hob w0
  obtain ⟨wd, hq, hq4⟩ := modN' a1 17 (by decide)
  have Hq : Hid (a1 % 17 = (wd : Int)) := Lib.hid hq
  have h16 : wd ≤ 16 := by omega
  clear hq hq4
  go_enter Try.func4, Try.ntmps4
  go_wp2_with (go_at_call 10; refine (known_any _).mono ?_; rintro e x1 ⟨rfl, hx1⟩)
  refine (within_any _ _ _ (by omega) (by omega) ha1 ha2).mono ?_; rw [Hq.out]; rintro e x2 ⟨rfl, rfl⟩
  go_wp2_with fail
  refine (levels_any a0 len0 cap0 wd os _ Hol.out Hob.out (hoc.at hx1) holen h16).mono ?_
  rintro e x2 ⟨l, hl300, hlt, hg⟩
  obtain ⟨aoL, n, capL, rfl, Hn, hncap, hcL, hzL, -, hx2⟩ := hg.opened
  have hx2 := bmore hx1 hx2
  have hn300 : n ≤ 300 := by rw [← Hn.out]; exact hl300
  have Hlt := Lib.hid hlt
  clear hg hl300 hlt hx1
  have hE := fun w' h => levE_any aoL n capL (wd : Nat) l w' Hn.out (by omega) hncap h (lt64_of h16 Hlt.out)
  have hRE := fun w' h => rlevE_any aoL n capL wd l w' Hn.out (by omega) h (lt64_of h16 Hlt.out) h16
  have hback := levDec_back l wd h16 (by rw [Hn.out]; omega) Hlt.out
  have h256 := levAny_lt l wd (by rw [Hn.out]; omega)
  have hle := levAny_le l wd h16
  rw [Hn.out] at hback hle
  obtain ⟨B, hB⟩ : ∃ B, B = levAny l wd := ⟨_, rfl⟩
  rw [← hB] at hE hRE hback h256 hle
  have HE := Lib.hid hE; have HRE := Lib.hid hRE; have HD := Lib.hid hback; have H256 := Lib.hid h256; have Hle := Lib.hid hle
  clear hE hRE hback h256 hle hB
  go_wp2_with fail
  refine (HE.out _ hcL).mono ?_
  intro e x3 hg
  obtain ⟨aoE, nE, capE, rfl, HnE, hcE, hzE, hrE, hx3⟩ := hg.opened
  have hcL3 := hcL.at hx3
  have hx3 := bmore hx2 hx3
  have hnE : nE ≤ 7800 := by have := Hle.out; rw [HnE.out] at this; omega
  have hcapE := hrE.cap
  clear hg hcL hrE
  go_wp2_with fail
  refine (ldec_any aoE nE capE (n : Nat) (wd : Nat) B _ HnE.out hcE hzE hcapE H256.out (by omega)).mono ?_
  rw [HD.out]
  intro e x4 hg
  obtain ⟨aoX, nX, capX, rfl, HnX, -, hcX, hx4⟩ := hg.opened
  have hnX : nX = n := by rw [← HnX.out, ← Hn.out]
  subst hnX
  have hcL4 := hcL3.at hx4
  have hcE4 := hcE.at hx4
  have hx4 := bmore hx3 hx4
  have hxd := hx4.drew
  have hcv := conv_grown (cap := capE) HnE.out hcE4.drew hzE
  clear hcL3 hcE hg HnX
  go_wp2
  refine wp_region_linH [(0, 0), (1, 0), (2, 0), (3, 0), (4, 1), (5, 0), (6, 0), (7, 0), (8, 0), (9, 0), (10, 0), (11, 0), (12, 0), (13, 0), (14, 1), (15, 0), (16, 0)] [] (by kernel_rfl) (by kernel_rfl) (fun d _ _ _ _ h => by cases d <;> exact h) ?_
  repeat (first
    | (refine wpLinH_skip rfl rfl (fun K hK => ?_); go_simp; refine hK _ ?_; clear hK K)
    | (refine wpLinH_take (v := ?_) rfl rfl (fun w' hw' => ?_) (fun K hK => ?_); rotate_left; (go_simp; rfl); (go_simp; refine hK _ ?_; clear hK K)))
  refine wpLinH_do rfl (fun K hK => ?_); go_simp
  refine (HRE.out _ hcL4.drew).mono ?_
  intro e x5 hg
  obtain ⟨ao5, n5, cap5, rfl, Hn5, hc5, hz5, -, hx5⟩ := hg.opened
  refine hK _ _ hx5 ?_; clear hK K hcv
  have hcv5 := conv_grown (cap := cap5) Hn5.out hc5 hz5
  have hcL5 := hcL4.drew.at hx5
  have hcX5 := hcX.drew.at hx5
  have hx5 := bmore hxd hx5
  clear hg hcL4 hcE4 hcX hc5
  repeat (first
    | (refine wpLinH_skip rfl rfl (fun K hK => ?_); go_simp; refine hK _ ?_; clear hK K)
    | (refine wpLinH_take (v := ?_) rfl rfl (fun w' hw' => ?_) (fun K hK => ?_); rotate_left; (go_simp; rfl); (go_simp; refine hK _ ?_; clear hK K)))
  refine wpLinH_do rfl (fun K hK => ?_); go_simp
  refine (ints_same aoX aoL nX capX capL l x5 (by omega) hcX5 hcL5).mono ?_
  rintro e x6 ⟨rfl, m, rfl⟩
  refine hK _ _ (below_drewN (Below.refl _ _) m) ?_; clear hK K hcv5
  repeat (first
    | (refine wpLinH_skip rfl rfl (fun K hK => ?_); go_simp; refine hK _ ?_; clear hK K)
    | (refine wpLinH_take (v := ?_) rfl rfl (fun w' hw' => ?_) (fun K hK => ?_); rotate_left; (go_simp; rfl); (go_simp; refine hK _ ?_; clear hK K)))
  refine wpLinH_nil ?_
  go_wp2
  go_ret
  exact ⟨rfl, below_drewN hx5 m⟩
end Go.Proofs.Ytopmcffjpbnlnaa
