/- Chapter 10: the laws LevelNone, LevelRun. -/
import Derived.Test.YtopmcffjpbnlnaaLevL2
import Derived.Test.YtopmcffjpbnlnaaZeros
namespace Go.Proofs.Ytopmcffjpbnlnaa
open Go.RowKit
set_option linter.unusedVariables false

/-- 'make' where a guard has said yes. -/
theorem wpList_make_g {P : Program} (w : World) {ops : Array Oper} {rest : List Oper} {o : Oper} {a : Act} {Q : Exit → Act → World → Prop}
    (hg : Region.wanted o (yielded ops a.tmps) = true) (l c : Operand) (t : TypeId) (hop : o.op = Op.makeSlice t l c)
    (base : Nat) (e : TypeId) (i : TypeInfo) (z : Value) (size : Nat) (h1 : P.underlying t = some (.slice e)) (h2 : P.info? e = some i) (h3 : i.zero = some z) (h4 : i.size = size)
    (kl kc : IntKind) (n : Nat) (hl : a.eval l = .int kl (n : Nat)) (hc : a.eval c = .int kc (n : Nat)) (b2 : i.bytes * n ≤ 281474976710656) (b3 : n ≤ maxLen) (b4 : base ≤ w.heap.size)
    (hK : ∀ w', w'.ownsRow base e size (.slice (some ⟨w.heap.size, 0, none⟩) n n) n (madeCells z.cells (n * size)).toList → w.grownBy w' none → wpList P ops Q rest (a.put o.dst (.slice (some ⟨w.heap.size, 0, none⟩) n n)) w') :
    wpList P ops Q (o :: rest) a w := by
  refine Go.BigFrame.wpList_want hg fun K hK' => ?_
  obtain ⟨w', hrun, r1, r2⟩ := run_make_full (P := P) w base t e i z size h1 h2 h3 h4 kl kc n b2 b3 b4
  unfold Oper.wp
  simp [execOp, hop, hl, hc, hrun, Result.andThen]
  exact hK' _ _ (hK w' r1 r2)
theorem natv_zeros (n : Nat) : (madeCells #[Value.int .i64 0] n).toList = natv (List.replicate n 0) := by
  rw [show natv (List.replicate n 0) = List.replicate n (Value.int .i64 0) from natv_rep n 0, madeI]

theorem levDec_zero (n : Nat) (hn : n ≤ 4000) (b : List Nat) : levDec b n (0 : Nat) = if 0 < b.length then ([], 9) else (List.replicate n 0, 0) := by
  rw [levDec_in b n 0 hn (by decide), if_pos rfl]
  simp only [decL]
  rw [if_neg (by simp)]

set_option maxHeartbeats 4000000 in
set_option maxRecDepth 100000 in
theorem levelNone_walk (a0 : Int) (a1 : Option Addr) (len1 cap1 : Nat) (z1 : List Int) (w : World) (w0 : (Lit.int .i64 a0).wf = true) (w1 : IsRow .u8 w a1 len1 cap1 z1) :
    Calls Try.prog 7 #[.int .i64 a0, .slice a1 len1 cap1] w fun e w' => e = .returned (.bool true) ∧ Below w.heap.size w w' := by
  obtain ⟨ha1, ha2⟩ := bounds_i64 w0
  have hz6 : a1 = none → len1 = 0 ∧ cap1 = 0 := by have := w1.open_; exact this.2.2.1
  obtain ⟨M, hMl, hMb, hMc, hMn, hlen6⟩ := w1.u8
  have HMl := Lib.hid hMl; have HMb := Lib.hid hMb; have HMc := Lib.hid hMc; have Hz6 := Lib.hid hz6
  clear hMl hMb hMc hMn hz6 w1
  by_cases c0 : 20 < len1
  · go_enter Try.func7, Try.ntmps7
    go_wp2_with (go_at_call 10; refine (known_any _).mono ?_; rintro e x1 ⟨rfl, hx1⟩)
    go_ret
    exact ⟨rfl, hx1⟩
  have b1 : decide ((20 : Int) < (len1 : Int)) = false := decide_eq_false (by omega)
  obtain ⟨n, hq, hq4⟩ := modN' a0 4001 (by decide)
  have Hq : Hid (a0 % 4001 = (n : Int)) := Lib.hid hq
  have hn : n ≤ 4000 := by omega
  have hd0 := levDec_zero n hn []
  rw [if_neg (by simp)] at hd0
  have hd1 := levDec_zero n hn (1 :: M)
  rw [if_pos (by simp)] at hd1
  have HD0 := Lib.hid hd0; have HD1 := Lib.hid hd1
  obtain ⟨i0, hi, hz0, hz1, hz2⟩ := info_parts Try.infoI
  clear hq hq4 hd0 hd1
  go_enter Try.func7, Try.ntmps7
  go_wp2_with (go_at_call 10; refine (known_any _).mono ?_; rintro e x1 ⟨rfl, hx1⟩)
  refine (within_any _ _ _ (by omega) (by omega) ha1 ha2).mono ?_; rw [Hq.out]; rintro e x2 ⟨rfl, rfl⟩
  go_wp2_with fail
  refine (ldec_any none 0 0 (n : Nat) (0 : Nat) [] _ rfl CellsAt.zero (fun _ => rfl) (Nat.le_refl _) (fun x h => by simp at h) (by omega)).mono ?_
  rw [HD0.out]
  intro e x2 hg
  obtain ⟨aoX, nX, capX, rfl, HnX, -, hcX, hx2⟩ := hg.opened
  have hnX : nX = n := by rw [← HnX.out]; simp
  subst hnX
  have hx2 := bmore hx1 hx2
  have hrow : RowB (x2.alloc (.cells #[.int .u8 1] 5)) x2.heap.size (some ⟨x2.heap.size, 0, none⟩) 1 1 [1] := ⟨rfl, .inr ⟨by decide, own_lit x2 [1] _ rfl (by decide) 1 rfl⟩⟩
  have hMc2 := (HMc.out.at hx2).alloc (Nat.le_refl _) (.cells #[.int .u8 1] 5)
  have Hrow := Lib.hid hrow; have HMc2 := Lib.hid hMc2
  clear hg HnX hx1 hrow hMc2
  go_wp2_with (at_builtin; refine wpList_append_rowB rfl (.tmp 23) (.tmp 24) rfl rfl Hrow.out rfl HMl.out HMc2.out Hz6.out (by omega) (by simp) ?_)
  intro ao3 cap3 x3 hr3 hb3 hs3
  have hb23 : Below x2.heap.size x2 x3 := (balloc (Below.refl _ _) _).trans hb3
  have hx3 := bmore hx2 hb23
  have hcX3 := hcX.at hb23
  clear hb3 hs3 hb23 hcX
  go_wp2_with fail
  refine (ldec_any ao3 (1 + len1) cap3 (nX : Nat) (0 : Nat) (1 :: M) _ (by rw [List.length_cons, HMl.out, Nat.add_comm]) hr3.cells hr3.nil0 hr3.cap (fun x h => by
    rcases List.mem_cons.1 h with h | h
    · omega
    · exact HMb.out x h) (by omega)).mono ?_
  rw [HD1.out]
  intro e x4 hg
  obtain ⟨aoY, nY, capY, rfl, HnY, -, hcY, hx4⟩ := hg.opened
  have hnY : nY = 0 := by rw [← HnY.out]; rfl
  subst hnY
  have hcX4 := hcX3.at hx4
  have hx4 := bmore hx3 hx4
  have bn : ((nX : Int) != (nX : Int)) = false := by rw [bne_eq_false_iff_eq]
  clear hg HnY hcX3 hr3 hcY
  go_wp2_with (at_make; refine wpList_make_g _ rfl _ _ 22 rfl w.heap.size 3 i0 (.int .i64 0) 1 Try.underlying22 hi hz0 hz1 _ _ nX rfl rfl (by rw [hz2]; omega) (by unfold maxLen; omega) (by have := hx4.size; exact this) ?_)
  intro w0 hown0 hgrow0
  have hb0 : Below x4.heap.size x4 w0 := (Below.refl _ _).grown hgrow0 (Nat.le_refl _) (fun k h => by cases h)
  have hown1 : w0.ownsRow w.heap.size 3 1 (.slice (some ⟨x4.heap.size, 0, none⟩) nX nX) nX (natv (List.replicate nX 0)) := by
    rw [← natv_zeros]
    exact hown0
  obtain ⟨aoM, capM, hsl, -, -, hcM, -⟩ := own_nat hown1
  simp only [Value.slice.injEq, true_and] at hsl
  obtain ⟨rfl, rfl⟩ := hsl
  have hcX5 := hcX4.at hb0
  have hx5 := bmore hx4 hb0
  have hE := levE_any (some ⟨x4.heap.size, 0, none⟩) nX nX 0 (List.replicate nX 0) w0 (List.length_replicate ..) (by omega) (Nat.le_refl _) hcM (fun x h => by rw [List.eq_of_mem_replicate h]; decide)
  rw [show levAny (List.replicate nX 0) 0 = [] from rfl] at hE
  have HE := Lib.hid hE
  clear hown0 hgrow0 hown1 hcM hcX4 hb0 hE
  go_wp2_with fail
  refine HE.out.mono ?_
  intro e x6 hg
  obtain ⟨ao6, n6, cap6, rfl, Hn6, -, -, -, hx6⟩ := hg.opened
  have hn6 : n6 = 0 := by rw [← Hn6.out]; rfl
  subst hn6
  have HcX6 := Lib.hid (hcX5.at hx6)
  have Hx6 := Lib.hid (bmore hx5 hx6)
  clear hg Hn6 hcX5 hx6
  go_wp2
  go_loopw [9] (fun i x => ∃ k : Nat, k ≤ nX ∧ i = .int .i64 (k : Nat) ∧ x = x6) (fun i _ => nX - (intOf i).toNat)
  case atStart => exact ⟨0, Nat.zero_le _, rfl, rfl⟩
  case round =>
    obtain ⟨k, hk, rfl, rfl⟩ := hrel
    by_cases hkn : k < nX
    · obtain ⟨b, off, rfl, -, hcc⟩ := HcX6.out k hkn
      have h0 : nic (List.replicate nX 0) k = .int .i64 0 := by
        unfold nic
        rw [List.getD_eq_getElem?_getD, List.getElem?_replicate, if_pos hkn]; rfl
      rw [h0] at hcc
      have e1 : (k : Int) < (nX : Int) := by omega
      have e2 : (0 : Int) ≤ (k : Int) := by omega
      clear h0
      go_wp2
      go_roundw
      case rel => exact ⟨k + 1, by omega, by go_num, by first | trivial | rfl⟩
      case measure => simp [intOf]; omega
    · obtain rfl : k = nX := by omega
      go_wp2
      go_ret
      exact ⟨rfl, Hx6.out⟩

theorem vgetM_one (x : Nat) (t : List Nat) (h : x < 128) : vgetM (x :: t) = (x, 1, 0) := by
  unfold vgetM vgetR
  rw [if_neg (by omega), if_pos h, if_neg (by omega)]
  simp
/-- A run's row that is bad. -/
theorem levDec_bad (b : List Nat) (n wd e : Nat) (hn : 1 ≤ n ∧ n ≤ 4000) (h1 : 1 ≤ wd) (h16 : wd ≤ 16) (h : (decRow wd n b []).2.2 = e) (he : e ≠ 0) : levDec b n wd = ([], e) := by
  rw [levDec_in b n wd hn.2 h16, if_neg (by omega)]
  exact (dec_fail' hn.1 h he)
where
  dec_fail' {n wd e : Nat} {b : List Nat} (hn : 1 ≤ n) (h : (decRow wd n b []).2.2 = e) (he : e ≠ 0) : decL wd n (n + 1) b [] = ([], e) := by
    rw [decL_err wd n n b [] (by simp; omega) (by rw [h]; exact he), h]
theorem lr_run (b : List Nat) (v n wd : Nat) (hv : v < 128) (he : v % 2 = 0) : decRow wd n (v :: b) [] = decRun wd n b [] (v / 2) := by
  unfold decRow
  rw [vgetM_one v b hv, if_neg (by simp), if_pos he]
  rfl
theorem lr_grp (b : List Nat) (v n wd : Nat) (hv : v < 128) (he : v % 2 = 1) : decRow wd n (v :: b) [] = decGrp wd n b [] (v / 2) := by
  unfold decRow
  rw [vgetM_one v b hv, if_neg (by simp), if_neg (by show ¬ v % 2 = 0; omega)]
  rfl
theorem unpacked_zeros (m n wd : Nat) : unpacked (List.replicate m 0) n wd = List.replicate n 0 := by
  have hb : ∀ p, bitOf (List.replicate m 0) p = false := fun p => by
    unfold bitOf
    rw [List.getD_eq_getElem?_getD, List.getElem?_replicate]
    split <;> simp
  have hz : ∀ (f : Nat → Bool) (k : Nat), (∀ i, f i = false) → numOf f k = 0 := fun f k hf => by
    induction k with
    | zero => rfl
    | succ k ih => rw [numOf, ih, hf]; simp
  refine List.ext_getElem (by simp [unpacked_length]) fun i h1 h2 => ?_
  simp only [unpacked, List.getElem_map, List.getElem_range, List.getElem_replicate]
  exact hz _ _ (fun k => hb _)
theorem levelRun_a (n wd : Nat) (hn : 1 ≤ n ∧ n ≤ 60) (hw : 1 ≤ wd ∧ wd ≤ 7) : levDec [0, 0] n wd = ([], 10) := by
  refine levDec_bad _ n wd 10 (by omega) hw.1 (by omega) ?_ (by decide)
  rw [lr_run [0] 0 n wd (by decide) (by decide)]
  unfold decRun
  rw [if_pos (.inl (by decide))]
theorem levelRun_b (n wd t : Nat) (hn : 1 ≤ n ∧ n ≤ 60) (hw : 1 ≤ wd ∧ wd ≤ 7) (ht : t < 3) : levDec [2 * (n + 1 + t), 0] n wd = ([], 10) := by
  refine levDec_bad _ n wd 10 (by omega) hw.1 (by omega) ?_ (by decide)
  rw [lr_run [0] _ n wd (by omega) (by omega)]
  unfold decRun
  rw [if_pos (.inr (by simp; omega))]
theorem levelRun_c (n wd : Nat) (hn : 1 ≤ n ∧ n ≤ 60) (hw : 1 ≤ wd ∧ wd ≤ 7) : levDec [2 * n, 2 ^ wd] n wd = ([], 10) := by
  refine levDec_bad _ n wd 10 (by omega) hw.1 (by omega) ?_ (by decide)
  rw [lr_run [2 ^ wd] _ n wd (by omega) (by omega)]
  unfold decRun
  have h7 : (wd + 7) / 8 = 1 := by omega
  rw [h7, if_neg (by simp; omega), if_neg (by simp), if_pos]
  simp [numB, Nat.div_self (Nat.two_pow_pos wd)]
theorem levelRun_d (n wd k : Nat) (hn : 1 ≤ n ∧ n ≤ 60) (hw : 1 ≤ wd ∧ wd ≤ 7) (hk : k = (n + 7) / 8 + 1) (b : List Nat) : levDec ((2 * k + 1) :: b) n wd = ([], 10) := by
  refine levDec_bad _ n wd 10 (by omega) hw.1 (by omega) ?_ (by decide)
  rw [lr_grp b _ n wd (by omega) (by omega)]
  unfold decGrp
  rw [if_pos (.inr (.inr (by simp; omega)))]
theorem levelRun_e (n wd k : Nat) (hn : 1 ≤ n ∧ n ≤ 60) (hw : 1 ≤ wd ∧ wd ≤ 7) (hk : k = (n + 7) / 8) : levDec ((2 * k + 1) :: List.replicate (k * wd) 0) n wd = (List.replicate n 0, 0) := by
  rw [levDec_in _ n wd (by omega) (by omega), if_neg (by omega)]
  have hrow : decRow wd n ((2 * k + 1) :: List.replicate (k * wd) 0) [] = ([], List.replicate n 0, 0) := by
    rw [lr_grp _ _ n wd (by omega) (by omega), show (2 * k + 1) / 2 = k by omega]
    unfold decGrp
    have ht : (List.replicate (k * wd) 0).take (k * wd) = List.replicate (k * wd) 0 := List.take_of_length_le (by simp)
    rw [if_neg (by simp; omega), if_neg (by simp), ht, unpacked_zeros, if_pos (by simp)]
    simp
    omega
  have h := dec_next' (R := (List.replicate n 0, 0)) hrow (by omega)
  exact h
where
  dec_next' {wd n : Nat} {b : List Nat} {R : List Nat × Nat} (h : decRow wd n b [] = ([], List.replicate n 0, 0)) (hn : 0 < n) : decL wd n (n + 1) b [] = (List.replicate n 0, 0) := by
    have h2 := decL_go wd n b [] (by simpa using hn) (by rw [h])
    rw [h] at h2
    simp only [List.length_nil, Nat.sub_zero, List.length_replicate, Nat.sub_self] at h2
    rw [h2, decL_done wd n 0 _ _ (by simp)]
    simp
end Go.Proofs.Ytopmcffjpbnlnaa
