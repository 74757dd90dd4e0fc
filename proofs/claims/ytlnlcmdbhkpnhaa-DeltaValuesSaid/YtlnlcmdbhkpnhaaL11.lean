/- The law package 11's helpers that other chapters' laws use too: within, Good, All, Same. -/
import Derived.Test.YtlnlcmdbhkpnhaaBunA
import Derived.Test.YtlnlcmdbhkpnhaaBunB
namespace Go.Proofs.Ytlnlcmdbhkpnhaa
open Go.RowKit
set_option linter.unusedVariables false

theorem Try.infoV : (Try.prog.info? 32).map (fun i => (i.zero, i.size, i.bytes)) = some (some (.agg #[.int .i64 0, .string ByteArray.empty]), 2, 24) := by kernel_rfl
theorem sl_v : SlT Try.prog 29 32 2 24 (.agg #[.int .i64 0, .string ByteArray.empty]) := ⟨Try.underlying29, Try.infoV, rfl, by decide⟩

set_option maxRecDepth 100000 in
set_option maxHeartbeats 400000 in
theorem within11_any (a b : Int) (w : World) (hb : 0 < b) (hb2 : b ≤ 100000) (ha : -9223372036854775808 ≤ a) (ha2 : a ≤ 9223372036854775807):
    Calls Try.prog 57 #[.int .i64 a, .int .i64 b] w fun e w' => e = .returned (.int .i64 (a % b)) ∧ w = w' := by
  by_cases h0 : 0 ≤ a
  · have h1 : a.tmod b = a % b := Int.tmod_eq_emod_of_nonneg h0
    have h2 : 0 ≤ a % b := Int.emod_nonneg _ (by omega)
    go_enter Try.func57, Try.ntmps57
    go_wp2
    go_ret
    exact ⟨rfl, rfl⟩
  · by_cases hd : a % b = 0
    · have h1 : a.tmod b = 0 := Int.tmod_eq_zero_of_dvd (Int.dvd_of_emod_eq_zero hd)
      have Hd := Lib.hid hd; clear hd
      go_enter Try.func57, Try.ntmps57
      go_wp2
      go_ret
      rw [Hd.out]; exact ⟨rfl, rfl⟩
    · have h1 : a.tmod b = a % b - b := by
        rw [Int.tmod_eq_emod]
        rw [if_neg (by rintro (h | h); exact h0 h; exact hd (Int.emod_eq_zero_of_dvd h))]
        omega
      have h2 : a % b < b := Int.emod_lt_of_pos _ hb
      have h3 : 0 ≤ a % b := Int.emod_nonneg _ (by omega)
      go_enter Try.func57, Try.ntmps57
      go_wp2
      go_ret
      exact ⟨rfl, rfl⟩

theorem wrap_both (n : Int) : wrap64 (wrap32 n) = IntKind.i32.wrap n := by
  rw [IntKind.wrap_i32]; unfold wrap64 wrap32; omega
/-- A value of a kind, of a raw one. -/
def goodV (k : Nat) (v : Vl) : Vl :=
  if k = 1 then (v.1 % 2, ByteArray.empty) else if k = 2 then (IntKind.i32.wrap v.1, ByteArray.empty) else if k = 3 then (v.1, ByteArray.empty) else (0, v.2.extract 0 (min v.2.size 100))
def allV (k : Nat) (l : List Vl) : List Vl := (l.take 60).map (goodV k)

set_option maxRecDepth 100000 in
set_option maxHeartbeats 1000000 in
theorem good_any (k : Nat) (v : Vl) (w : World) (hk : 1 ≤ k) (hk4 : k ≤ 4) (hv : okV v) :
    Calls Try.prog 31 #[.int .i64 k, vV v] w fun e w' => e = .returned (vV (goodV k v)) ∧ Below w.heap.size w w' := by
  obtain ⟨n, s⟩ := v
  obtain ⟨⟨hn1, hn2⟩, hs⟩ := hv
  simp only at hn1 hn2 hs
  have hk' : k = 1 ∨ k = 2 ∨ k = 3 ∨ k = 4 := by omega
  rcases hk' with rfl | rfl | rfl | rfl
  · go_enter Try.func31, Try.ntmps31
    go_wp2_with (go_at_call 57; refine (within11_any _ _ _ (by omega) (by omega) hn1 hn2).mono ?_; rintro e x1 ⟨rfl, rfl⟩)
    exact bodyPost_ret (v := .agg #[.int .i64 (n % 2), .string ByteArray.empty]) (by simp [results, Try.results31, go_sem]; rfl) rfl ⟨rfl, balloc (balloc (Below.refl _ _) _) _⟩
  · go_enter Try.func31, Try.ntmps31
    go_wp2
    exact bodyPost_ret (v := .agg #[.int .i64 (IntKind.i32.wrap n), .string ByteArray.empty]) (by simp [results, Try.results31, go_sem]; exact ⟨wrap_both n, rfl⟩) rfl ⟨rfl, balloc (balloc (Below.refl _ _) _) _⟩
  · go_enter Try.func31, Try.ntmps31
    go_wp2
    exact bodyPost_ret (v := .agg #[.int .i64 n, .string ByteArray.empty]) (by simp [results, Try.results31, go_sem]; rfl) rfl ⟨rfl, balloc (balloc (Below.refl _ _) _) _⟩
  · by_cases h : 100 < s.size
    · have e : s.extract 0 (min s.size 100) = s.extract 0 100 := by rw [Nat.min_eq_right (by omega)]
      have E := Lib.hid e; clear e
      go_enter Try.func31, Try.ntmps31
      go_wp2
      exact bodyPost_ret (v := .agg #[.int .i64 0, .string (s.extract 0 100)]) (by simp [results, Try.results31, go_sem]) rfl ⟨by unfold goodV; simp only []; rw [E.out]; rfl, balloc (balloc (Below.refl _ _) _) _⟩
    · have e : s.extract 0 (min s.size 100) = s := by
        rw [Nat.min_eq_left (by omega)]
        apply ByteArray.ext
        rw [ByteArray.data_extract]
        exact Array.extract_size
      have E := Lib.hid e; clear e
      go_enter Try.func31, Try.ntmps31
      go_wp2
      exact bodyPost_ret (v := .agg #[.int .i64 0, .string s]) (by simp [results, Try.results31, go_sem]) rfl ⟨by unfold goodV; simp only []; rw [E.out]; rfl, balloc (balloc (Below.refl _ _) _) _⟩

theorem goodV_ok (k : Nat) (v : Vl) (hv : okV v) : okV (goodV k v) := by
  obtain ⟨n, s⟩ := v
  obtain ⟨⟨hn1, hn2⟩, hs⟩ := hv
  simp only at hn1 hn2 hs
  unfold goodV
  split
  · exact ⟨by simp only []; omega, Nat.zero_le _⟩
  split
  · have h := IntKind.wrap_i32 n
    exact ⟨by simp only []; rw [h]; omega, Nat.zero_le _⟩
  split
  · exact ⟨⟨hn1, hn2⟩, Nat.zero_le _⟩
  · refine ⟨⟨by simp only []; omega, by simp only []; omega⟩, ?_⟩
    simp only [ByteArray.size_extract]
    omega
theorem allV_take (k : Nat) (l : List Vl) (j : Nat) (hj : j < l.length) (h60 : j < 60) : allV k (l.take (j + 1)) = allV k (l.take j) ++ [goodV k (l.getD j vl0)] := by
  unfold allV
  rw [List.take_take, List.take_take, Nat.min_eq_right (by omega), Nat.min_eq_right (by omega), List.take_succ_eq_append_getElem hj, List.map_append, List.getD_eq_getElem?_getD, List.getElem?_eq_getElem hj]
  rfl
theorem allV_length (k : Nat) (l : List Vl) : (allV k l).length = min 60 l.length := by simp [allV]
theorem allV_ok (k : Nat) (l : List Vl) (h : ∀ v ∈ l, okV v) : ∀ v ∈ allV k l, okV v := by
  intro v hv
  obtain ⟨u, hu, rfl⟩ := List.mem_map.1 hv
  exact goodV_ok k u (h u (List.mem_of_mem_take hu))

set_option maxHeartbeats 2000000 in
set_option maxRecDepth 100000 in
theorem all_any (k : Nat) (ao : Option Addr) (len cap : Nat) (l : List Vl) (w : World) (hk : 1 ≤ k) (hk4 : k ≤ 4) (h : IsVals w ao len cap l) :
    Calls Try.prog 15 #[.int .i64 k, .slice ao len cap] w (GaveV w 32 (allV k l)) := by
  obtain ⟨hl, hlc, hcap, hn, hc, hok⟩ := h
  have Hl := Lib.hid hl; clear hl
  have Hok := Lib.hid hok; clear hok
  go_enter Try.func15, Try.ntmps15
  go_wp2
  go_loopw [5, 6] (fun v i wr => ∃ j : Nat, j ≤ len ∧ j ≤ 60 ∧ i = .int .i64 j ∧ wr.ownsRow w.heap.size 32 2 v j (vcs (allV k (l.take j))) ∧ Below w.heap.size w wr) (fun _ i _ => len - (intOf i).toNat)
  case atStart => exact ⟨0, Nat.zero_le _, Nat.zero_le _, rfl, World.ownsRow_nil _ _ _ _, Below.refl _ _⟩
  case round =>
    obtain ⟨j, hj, hj60, rfl, hown, hwr⟩ := hrel
    by_cases hlt : j < len ∧ j < 60
    · obtain ⟨h1, h2⟩ := hlt
      obtain ⟨b, off, rfl, hb, c0, c1⟩ := hc.val h1
      have c0' := (hwr.cell (by exact hb)).trans c0
      have c1' := (hwr.cell (by exact hb)).trans c1
      clear c0 c1 hc
      obtain ⟨v, hv⟩ : ∃ v, v = l.getD j vl0 := ⟨_, rfl⟩
      rw [vN, ← hv] at c0'
      rw [vS, ← hv] at c1'
      have hvok : okV v := by
        rw [hv, List.getD_eq_getElem?_getD, List.getElem?_eq_getElem (by rw [Hl.out]; exact h1)]
        exact Hok.out _ (List.getElem_mem _)
      have hst : vcs (allV k (l.take j)) ++ [vlc [goodV k v] 0, vlc [goodV k v] 1] = vcs (allV k (l.take (j + 1))) := by
        refine (vcs_snoc _ _).trans ?_
        rw [ allV_take k l j (by rw [Hl.out]; exact h1) h2, hv]
      have Hst := Lib.hid hst; clear hst hv
      go_wp2_with (first
        | (go_at_call 31; refine (good_any k v _ hk hk4 hvok).mono ?_; rintro e x1 ⟨rfl, hx1⟩)
        | (at_builtin; refine wpList_append_all sl_v rfl (.tmp 17) (.tmp 24) rfl rfl ((own_below hown hx1).alloc _) rfl (cells_one_v x1 32 (goodV k v)) (fun e => by cases e) (fun _ _ => vlc_one _ _) ?c1 ?c2 ?c3 ?_))
      case c1 => unfold maxLen; omega
      case c2 => omega
      case c3 => exact (balloc (bmore hwr hx1) _).size
      intro v' y hown' hgrow
      rw [Hst.out] at hown'
      have hy := (balloc (bmore hwr hx1) _).grown hgrow (balloc (bmore hwr hx1) _).size (fun j hj => (hown.lt j hj).1)
      go_wp2
      go_roundw
      case rel => exact ⟨j + 1, by omega, by omega, by go_num, hown', hy⟩
      case measure => simp [intOf]; omega
    · have hall : allV k (l.take j) = allV k l := by
        unfold allV
        rw [List.take_take]
        congr 1
        by_cases h60 : j = 60
        · rw [h60]; simp
        · have : l.length ≤ j := by rw [Hl.out]; omega
          rw [Nat.min_eq_right (by omega), List.take_of_length_le this, List.take_of_length_le (by omega)]
      have hlen : (allV k l).length = j := by rw [allV_length, Hl.out]; omega
      rw [hall] at hown
      have Hlen := Lib.hid hlen; clear hlen hall
      by_cases hlt1 : j < len
      · have : j = 60 := by omega
        subst this
        go_wp2
        go_ret
        exact ⟨_, rfl, by rw [Hlen.out]; exact hown, hwr⟩
      · go_wp2
        go_ret
        exact ⟨_, rfl, by rw [Hlen.out]; exact hown, hwr⟩

theorem Try.guardV : Try.prog.eqGuardType Try.prog.depth 32 = false := by kernel_rfl
theorem Try.heldV : Try.prog.stoodInHeld 32 = false := by kernel_rfl
theorem str_beq (a b : ByteArray) : (a.toList == b.toList) = decide (a = b) := by
  rw [← beq_toListBytes]
  by_cases h : a = b
  · subst h
    rw [decide_eq_true rfl, beq_toListBytes]
    simp
  · rw [decide_eq_false h, beq_toListBytes, beq_eq_false_iff_ne]
    intro e
    apply h
    rw [ByteArray.toList_eq, ByteArray.toList_eq] at e
    exact ByteArray.ext (Array.ext' e)
/-- Two values alike. -/
theorem equal_v (w : World) (x y : Vl) : (Op.equalIn 10000 32 (.agg #[.int .i64 x.1, .string x.2]) (.agg #[.int .i64 y.1, .string y.2])).run Try.prog w = .ok (decide (x = y)) w := by
  have hf : Try.prog.underlying 32 = some (.struct (Try.prog.fieldsOf 32)) := by
    unfold Program.fieldsOf; rw [Try.underlying32]
  rw [run_equalIn_agg w 9999 32 _ _ hf Try.heldV]
  simp only [Program.fieldsOf, Try.underlying32]
  obtain ⟨a, s⟩ := x
  obtain ⟨b, t⟩ := y
  have hd : decide (((a, s) : Vl) = (b, t)) = ((a == b) && decide (s = t)) := by
    rw [Bool.eq_iff_iff]; simp
  rw [hd, ← str_beq]
  simp [Op.eqFields, go_sem, Try.underlying3, Try.underlying9]
  by_cases h1 : a = b
  · by_cases h2 : s.toList = t.toList
    · simp [h1, h2]
    · simp [h1, h2]
  · simp [h1]
set_option maxHeartbeats 2000000 in
set_option maxRecDepth 100000 in
theorem same_any (a1 : Option Addr) (n1 c1 : Nat) (l1 : List Vl) (a2 : Option Addr) (n2 c2 : Nat) (l2 : List Vl) (w : World) (h1 : l1.length = n1) (h2 : l2.length = n2) (m1 : n1 ≤ 9223372036854775807) (m2 : n2 ≤ 9223372036854775807)
    (hc1 : CellsAt w w.heap.size a1 (n1 * 2) (vlc l1)) (hc2 : CellsAt w w.heap.size a2 (n2 * 2) (vlc l2)) :
    Calls Try.prog 24 #[.slice a1 n1 c1, .slice a2 n2 c2] w fun e w' => e = .returned (.bool (decide (l1 = l2))) ∧ ∃ m, w' = w.drewN m := by
  have H1 := Lib.hid h1; clear h1
  have H2 := Lib.hid h2; clear h2
  by_cases hn : n1 = n2
  · subst hn
    go_enter Try.func24, Try.ntmps24
    go_wp2
    go_loopw [5] (fun i wr => ∃ j m : Nat, j ≤ n1 ∧ i = .int .i64 j ∧ Hid (l1.take j = l2.take j) ∧ wr = w.drewN m) (fun i _ => n1 - (intOf i).toNat)
    case atStart => exact ⟨0, 0, Nat.zero_le _, rfl, Lib.hid rfl, rfl⟩
    case round =>
      obtain ⟨j, m, hj, rfl, hpre, rfl⟩ := hrel
      by_cases hlt : j < n1
      · obtain ⟨b, off, rfl, hb, c0, c1⟩ := hc1.val hlt
        obtain ⟨b', off', rfl, hb', c0', c1'⟩ := hc2.val hlt
        obtain ⟨x, hx⟩ : ∃ x, x = l1.getD j vl0 := ⟨_, rfl⟩
        obtain ⟨y, hy⟩ : ∃ y, y = l2.getD j vl0 := ⟨_, rfl⟩
        rw [vN, ← hx] at c0
        rw [vS, ← hx] at c1
        rw [vN, ← hy] at c0'
        rw [vS, ← hy] at c1'
        have heq := fun w' => equal_v w' x y
        have hg := Try.guardV
        have Hx := Lib.hid hx; have Hy := Lib.hid hy; clear hx hy
        clear hc1 hc2
        have e1 : l1.take (j + 1) = l1.take j ++ [x] := by
          rw [List.take_succ_eq_append_getElem (by rw [H1.out]; exact hlt), Hx.out, List.getD_eq_getElem?_getD, List.getElem?_eq_getElem (by rw [H1.out]; exact hlt)]; rfl
        have e2 : l2.take (j + 1) = l2.take j ++ [y] := by
          rw [List.take_succ_eq_append_getElem (by rw [H2.out]; exact hlt), Hy.out, List.getD_eq_getElem?_getD, List.getElem?_eq_getElem (by rw [H2.out]; exact hlt)]; rfl
        have E1 := Lib.hid e1; have E2 := Lib.hid e2; clear e1 e2
        by_cases hxy : x = y
        · have Hxy : Hid (x = y) := Lib.hid hxy
          have hd : decide (x = y) = true := decide_eq_true hxy
          clear hxy
          go_wp2
          go_quiet (fail)
          go_wp2
          go_roundw
          case rel => exact ⟨j + 1, m + nq, by omega, by go_num, Lib.hid (by rw [E1.out, E2.out, hpre.out, Hxy.out]), rfl⟩
          case measure => simp [intOf]; omega
        · have hne : l1 ≠ l2 := fun e => by
            apply hxy
            rw [Hx.out, Hy.out, e]
          have hr : decide (l1 = l2) = false := decide_eq_false hne
          have hd : decide (x = y) = false := decide_eq_false hxy
          have Hr := Lib.hid hr
          clear hxy hne hr
          go_wp2
          go_quiet (fail)
          go_wp2
          go_ret
          exact ⟨by rw [Hr.out]; rfl, m + nq, by simp⟩
      · have he : l1 = l2 := by
          have h := hpre.out
          rw [List.take_of_length_le (by rw [H1.out]; omega), List.take_of_length_le (by rw [H2.out]; omega)] at h
          exact h
        have hr : decide (l1 = l2) = true := decide_eq_true he
        have Hr := Lib.hid hr
        clear hr he
        go_wp2
        go_ret
        exact ⟨by rw [Hr.out]; rfl, m, rfl⟩
  · have hr : decide (l1 = l2) = false := decide_eq_false (fun e => hn (by rw [← H1.out, ← H2.out, e]))
    have Hr := Lib.hid hr
    have hb : ((n1 : Int) != (n2 : Int)) = true := by rw [bne_iff_ne]; omega
    clear hr
    go_enter Try.func24, Try.ntmps24
    go_wp2
    go_ret
    exact ⟨by rw [Hr.out]; rfl, 0, rfl⟩
end Go.Proofs.Ytlnlcmdbhkpnhaa
