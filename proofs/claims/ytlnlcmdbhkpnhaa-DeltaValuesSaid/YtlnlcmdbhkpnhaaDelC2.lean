/- Chapter 12: the walk over Ints. -/
import Derived.Test.YtlnlcmdbhkpnhaaDelC
import Derived.Test.YtlnlcmdbhkpnhaaDelI
namespace Go.Proofs.Ytlnlcmdbhkpnhaa
open Go.RowKit Go.Shelf
set_option linter.unusedVariables false
attribute [local go_sem] Oper.semAt_some

set_option maxHeartbeats 1000000 in
theorem chunk_any (ao : Option Addr) (m cap : Nat) (w : World) :
    Calls Try.prog 27 #[.slice ao m cap, .int .i64 32] w fun e w' => e = .returned (.func (.func 53) #[] #[.pointer (some ⟨w.heap.size, 0, none⟩), .pointer (some ⟨w.heap.size + 1, 0, none⟩)]) ∧ w' = (w.alloc (.cells #[.slice ao m cap] 25)).alloc (.cells #[.int .i64 32] 3) := by
  go_enter Try.func27, Try.ntmps27
  go_wp2
  go_ret
  exact ⟨rfl, rfl⟩

theorem chunk_stops (n : Nat) (hn : 1 ≤ n) (Bs Bn : Nat) (ao : Option Addr) (bd off m cap : Nat) (ho : 0 < m → ao = some ⟨bd, off, none⟩) (hcap : m ≤ cap) (hm : m ≤ 100000) (w : World)
    (hBs : Boxed w Bs 25 (.slice ao m cap)) (hBn : Boxed w Bn 3 (.int .i64 32)) :
    SeqStopsK Fence.wide n Try.prog 53 #[.pointer (some ⟨Bs, 0, none⟩), .pointer (some ⟨Bn, 0, none⟩)] (fun x : ChunkNo m => #[chunkV bd off m x]) (KeepTwo Bs Bn) (fun ys => nos ys = List.range ((m + 31) / 32)) (fun _ => True) ((m + 31) / 32) w :=
  fun l J Jx W hW hJ hJx hY h0 =>
    chunk1_in n hn l Bs Bn ao bd off m cap ho hcap hm J Jx (fun s W' h => hJ s W' _ none h ⟨rfl, rfl, rfl, Nat.le_refl _, fun _ _ _ => rfl⟩ (fun r e => by cases e)) hY W ((hW.block _ hBs.lt).trans hBs) ((hW.block _ hBn.lt).trans hBn) h0

/-- Cells that lie in no block bb. -/
def CellsOff (w : World) (bb : Nat) (ao : Option Addr) (n : Nat) (f : Nat → Value) : Prop :=
  ∀ i, i < n → ∃ b off, ao = some ⟨b, off, none⟩ ∧ b ≠ bb ∧ w.cell? ⟨b, off + i, none⟩ = some (f i)
theorem CellsOff.kept {W W' : World} {row : Option Nat} {bb : Nat} {ao : Option Addr} {n : Nat} {f : Nat → Value} (h : CellsOff W bb ao n f) (hg : W.grownBy W' row) (hr : ∀ r, row = some r → ∃ o : Obj, W.heap[r]? = some o ∧ o.isCells = false) : CellsOff W' bb ao n f := fun i hi =>
  let ⟨b, off, e, hb, hc⟩ := h i hi; ⟨b, off, e, hb, cell_kept hc hg hr⟩
theorem CellsOff.at {W : World} {bb : Nat} {ao : Option Addr} {n : Nat} {f : Nat → Value} (h : CellsOff W bb ao n f) : CellsAt W W.heap.size ao n f := fun i hi => by
  obtain ⟨b, off, e, hb, hc⟩ := h i hi
  obtain ⟨o, ho, -⟩ := cells_of_cell hc
  exact ⟨b, off, e, (Array.getElem?_eq_some_iff.1 ho).1, hc⟩
theorem CellsOff.of {W : World} {B bb : Nat} {ao : Option Addr} {n : Nat} {f : Nat → Value} (h : CellsAt W B ao n f) (hb : ∀ a, ao = some a → a.block ≠ bb) : CellsOff W bb ao n f := fun i hi => by
  obtain ⟨b, off, e, -, hc⟩ := h i hi
  exact ⟨b, off, e, hb _ e, hc⟩
theorem CellsOff.lt {W : World} {bb : Nat} {ao : Option Addr} {n : Nat} {f : Nat → Value} (h : CellsAt W bb ao n f) : CellsOff W bb ao n f := fun i hi => by
  obtain ⟨b, off, e, hb, hc⟩ := h i hi
  exact ⟨b, off, e, Nat.ne_of_lt hb, hc⟩
theorem CellsOff.below {W W' : World} {bb : Nat} {ao : Option Addr} {n : Nat} {f : Nat → Value} (h : CellsOff W bb ao n f) (hb : Below W.heap.size W W') : CellsOff W' bb ao n f := fun i hi => by
  obtain ⟨b, off, e, hne, hc⟩ := h i hi
  obtain ⟨o, ho, -⟩ := cells_of_cell hc
  exact ⟨b, off, e, hne, (hb.cell (by exact (Array.getElem?_eq_some_iff.1 ho).1)).trans hc⟩
theorem CellsOff.set {W : World} {bb : Nat} {ao : Option Addr} {n : Nat} {f : Nat → Value} (h : CellsOff W bb ao n f) (v : Value) : CellsOff (W.setCell ⟨bb, 0, none⟩ v) bb ao n f := fun i hi => by
  obtain ⟨b, off, e, hne, hc⟩ := h i hi
  refine ⟨b, off, e, hne, ?_⟩
  rw [World.cell?_of_block ((grownBy_setCell' W bb v).block b (by obtain ⟨o, ho, -⟩ := cells_of_cell hc; exact (Array.getElem?_eq_some_iff.1 ho).1) (fun e => hne (by cases e; rfl)))]
  exact hc
theorem own_i64x {w : World} {base : Nat} {e : TypeId} {v : Value} {n : Nat} {l : List Int} (h : w.ownsRow base e 1 v n (i64v l)) :
    ∃ ao bd cap, v = .slice ao n cap ∧ l.length = n ∧ CellsAt w w.heap.size ao n (i64c l) ∧ (∀ a, ao = some a → base ≤ a.block) ∧ n ≤ cap ∧ (0 < n → ao = some ⟨bd, 0, none⟩) := by
  have hl : l.length = n := by have := h.1; simpa [i64v_length] using this
  obtain ⟨ao, cap, rfl, hc, hb⟩ := own_i64 h
  rcases h.2 with ⟨h1, h2⟩ | ⟨g, c2, cur, h1, -, -, h4, -⟩
  · exact ⟨ao, 0, cap, rfl, hl, hc, hb, by omega, fun h => by omega⟩
  · simp only [Value.slice.injEq, true_and] at h1
    obtain ⟨rfl, rfl⟩ := h1
    exact ⟨_, g, _, rfl, hl, hc, hb, by omega, fun _ => rfl⟩
theorem RowB.putObj {w : World} {base : Nat} {ao : Option Addr} {n cap : Nat} {l : List Nat} (h : RowB w base ao n cap l) {k : Nat} {o : Obj} (o' : Obj) (hl : w.heap[k]? = some o) (ho : o.isCells = false) : RowB (w.putObj k o') base ao n cap l :=
  ⟨h.1, h.2.imp id fun x => ⟨x.1, ownsRow_putObj x.2 o' hl ho⟩⟩
theorem RowB.blk {w : World} {base : Nat} {ao : Option Addr} {n cap : Nat} {l : List Nat} (h : RowB w base ao n cap l) (bb : Nat) (hb : bb < base) : CellsOff w bb ao n (u8c l) := by
  rcases h.2 with ⟨h0, -⟩ | ⟨h0, ho⟩
  · intro i hi; omega
  · obtain ⟨ao', cap', hv, hc, hbk⟩ := own_u8 ho
    simp only [Value.slice.injEq, true_and] at hv
    obtain ⟨rfl, rfl⟩ := hv
    exact CellsOff.of hc (fun a e => by have := hbk a e; omega)
theorem chunk_length (d : List Int) (k : Nat) : (chunk d k).length = min 32 (d.length - 32 * k) := by simp [chunk]
theorem chunk_in (d : List Int) (k : Nat) (h : ∀ x ∈ d, inI64 x) : ∀ x ∈ chunk d k, inI64 x := fun x hx => h x (List.mem_of_mem_drop (List.mem_of_mem_take hx))
theorem chunk_getD (d : List Int) (k i : Nat) (hi : i < 32) : (chunk d k).getD i 0 = d.getD (32 * k + i) 0 := by
  simp only [chunk, List.getD_eq_getElem?_getD]
  rw [List.getElem?_take_of_lt hi, List.getElem?_drop]
theorem blockB_length (c : List Int) (h : c.length ≤ 32) : (blockB c).length ≤ 300 := by
  unfold blockB
  have h1 := (vputB_length (zigN (minI c))).2
  have h2 := packed_length (overs c) (blockW c)
  have h3 : (overs c).length = c.length := by simp [overs]
  have h4 := blockW_le c
  have h5 : c.length * blockW c ≤ 32 * 64 := Nat.mul_le_mul h h4
  simp only [List.length_append, h2, h3, packSize, List.length_singleton]
  omega
theorem blocksB_length (cs : List (List Int)) (h : ∀ c ∈ cs, c.length ≤ 32) : (blocksB cs).length ≤ 300 * cs.length := by
  induction cs with
  | nil => simp [blocksB]
  | cons c t ih =>
    have h1 := blockB_length c (h c (List.mem_cons_self ..))
    have h2 := ih (fun x hx => h x (List.mem_cons_of_mem _ hx))
    unfold blocksB at *
    simp only [List.map_cons, List.flatten_cons, List.length_append, List.length_cons]
    omega
/-- The bytes when some chunks have come. -/
def soFar (v0 : Int) (d : List Int) {m : Nat} (pre : List (ChunkNo m)) : List Nat := vputB (zigN v0) ++ blocksB ((nos pre).map (chunk d))
theorem soFar_snoc (v0 : Int) (d : List Int) {m : Nat} (pre : List (ChunkNo m)) (x : ChunkNo m) : soFar v0 d (pre ++ [x]) = soFar v0 d pre ++ blockB (chunk d x.1) := by
  unfold soFar; rw [nos_snoc, List.map_append, List.map_singleton, blocksB_snoc, List.append_assoc]
theorem soFar_length (v0 : Int) (d : List Int) {m : Nat} (pre : List (ChunkNo m)) : (soFar v0 d pre).length ≤ 10 + 300 * pre.length := by
  unfold soFar
  have h1 := (vputB_length (zigN v0)).2
  have h2 := blocksB_length ((nos pre).map (chunk d)) (fun c hc => by obtain ⟨k, -, rfl⟩ := List.mem_map.1 hc; rw [chunk_length]; omega)
  rw [List.length_map, nos_length] at h2
  rw [List.length_append]; omega
theorem inI64_getD (l : List Int) (k : Nat) (h : ∀ x ∈ l, inI64 x) : inI64 (l.getD k 0) := by
  rw [List.getD_eq_getElem?_getD]
  by_cases hk : k < l.length
  · rw [List.getElem?_eq_getElem hk]; exact h _ (List.getElem_mem hk)
  · rw [List.getElem?_eq_none (by omega)]; exact ⟨by decide, by decide⟩
set_option maxRecDepth 100000 in
set_option maxHeartbeats 4000000 in
theorem dInts_any (ao : Option Addr) (n cap : Nat) (l : List Int) (w : World) (hl : l.length = n) (hn : n ≤ 4000) (hc : CellsAt w w.heap.size ao n (i64c l)) (hin : ∀ x ∈ l, inI64 x) :
    Calls Try.prog 14 #[.slice ao n cap] w (GaveB w (dIntsB l)) := by
  have Hl := Lib.hid hl; have Hin := Lib.hid hin; have Hc := Lib.hid hc
  refine (callsIn_wide (n := 3)).1 ?_
  refine callsIn_of_wp_marks Try.func14 rfl trivial ?_ rfl
  simp only [Try.ntmps14, List.size_toArray, List.length_cons, List.length_nil, Nat.reduceAdd, Nat.reduceSub, Array.replicate_succ, Array.replicate_zero, List.push_toArray, List.append_toArray, List.nil_append, List.cons_append]
  by_cases hn0 : n = 0
  · subst hn0
    clear hl hc hin
    gi_wp2
    refine ⟨_, results_tmp rfl _ _ _, ?_⟩
    obtain rfl : l = [] := List.length_eq_zero_iff.1 Hl.out
    exact ⟨none, 0, rfl, CellsAt.zero, fun _ => rfl, ⟨rfl, .inl ⟨rfl, rfl⟩⟩, Below.refl _ _⟩
  · obtain ⟨b0, off0, rfl, hb0, c0⟩ := hc.first (by omega)
    obtain ⟨v0, hv0⟩ : ∃ x, x = l.getD 0 0 := ⟨_, rfl⟩
    rw [i64c, ← hv0] at c0
    have e1 : (0 : Int) < (n : Int) := by omega
    have e2 : (n : Int) ≠ 0 := by omega
    have Hv0 := Lib.hid hv0
    clear hl hc hin hv0
    gi_wp2_with fail
    refine ⟨trivial, (callsIn_wide.2 (zig_any v0 _ (by rw [Hv0.out]; exact inI64_getD l 0 Hin.out))).mono ?_⟩
    rintro e x ⟨rfl, rfl⟩
    gi_wp2_with fail
    refine ⟨trivial, (callsIn_wide.2 (vput_any none 0 0 [] (zigN v0) _ rfl CellsAt.zero (fun _ => rfl) (by omega) (zigN_lt _ (by rw [Hv0.out]; exact inI64_getD l 0 Hin.out)))).mono ?_⟩
    intro e x hg
    obtain ⟨aoP, nP, capP, rfl, HnP, hcP, hzP, -, hbP⟩ := hg.opened
    have hcd := (Hc.out.at hbP)
    have Hcd := Lib.hid hcd; have HcP := Lib.hid hcP; have HzP := Lib.hid hzP; have HbP := Lib.hid hbP
    clear hg hcP hzP hbP hcd
    have Hdf := Lib.hid (diffs_any (some ⟨b0, off0, none⟩) n cap l (x.alloc (.cells #[.slice aoP nP capP] 26)) Hl.out (by omega) (Hcd.out.at ((Below.refl _ _).alloc (Nat.le_refl _) _)))
    have hnew := Boxed.new x 26 (.slice aoP nP capP)
    gi_wp2_with fail
    refine ⟨trivial, (callsIn_wide.2 Hdf.out).mono ?_⟩
    rintro e x2 ⟨v2, rfl, hv2, hb2⟩
    have hbx : Boxed x2 x.heap.size 26 (.slice aoP nP capP) := (hb2.block _ hnew.lt).trans hnew
    obtain ⟨aoD, bd, capD, rfl, hdl, hcD, hbD, hcapD, hoD⟩ := own_i64x hv2
    obtain ⟨m, hm⟩ : ∃ m, m = n - 1 := ⟨_, rfl⟩
    rw [← hm] at hdl hcD hcapD hoD ⊢
    have hbx2 : Below x.heap.size x x2 := ((Below.refl _ x).alloc (Nat.le_refl _) _).trans (hb2.mono (by simp))
    have hB2 : Below w.heap.size w x2 := HbP.out.trans (hbx2.mono HbP.out.size)
    have hsx2 := hb2.size
    have hcP2 : CellsOff x2 x.heap.size aoP nP (u8c (soFar v0 (diffs l) ([] : List (ChunkNo m)))) := CellsOff.lt (by
      have h := HcP.out.below hbx2
      unfold soFar nos; rw [List.map_nil, List.map_nil]; unfold blocksB; rw [List.map_nil, List.flatten_nil, List.append_nil]; exact h)
    have hcD2 : CellsOff x2 x.heap.size aoD m (i64c (diffs l)) := CellsOff.of hcD (fun a e => by have := hbD a e; simp at this; omega)
    have hpl : (soFar v0 (diffs l) ([] : List (ChunkNo m))).length = nP := by
      unfold soFar nos blocksB; simpa using HnP.out
    have hs2 : x.heap.size < x2.heap.size := Boxed.lt hbx
    have hszw : w.heap.size ≤ x.heap.size := HbP.out.size
    have HhD := Lib.hid hdl; have HoD := Lib.hid hoD; have HcapD := Lib.hid hcapD
    have HB2 := Lib.hid hB2; have HcP2 := Lib.hid hcP2; have HcD2 := Lib.hid hcD2; have Hpl := Lib.hid hpl; have Hbx := Lib.hid hbx
    have Hm := Lib.hid hm
    have hinD : Hid (∀ y ∈ diffs l, inI64 y) := Lib.hid (diffs_in l)
    clear hv2 hb2 hcD hbD hdl hoD hcapD hB2 hcP2 hcD2 hpl hbx hbx2 hm hsx2 hnew
    gi_wp2_with fail
    refine ⟨trivial, (callsIn_wide.2 (chunk_any _ _ _ _)).mono ?_⟩
    rintro e x3 ⟨rfl, rfl⟩
    gi_wp2_with fail
    have bS := (Boxed.new x2 25 (.slice aoD m capD)).alloc (.cells #[.int .i64 32] 3)
    have bN := Boxed.new (x2.alloc (.cells #[.slice aoD m capD] 25)) 3 (.int .i64 32)
    rw [World.size_alloc] at bN
    have hB4 : Below w.heap.size w ((x2.alloc (.cells #[.slice aoD m capD] 25)).alloc (.cells #[.int .i64 32] 3)) := (HB2.out.alloc (by omega) _).alloc (by simp; omega) _
    have hne : x2.heap.size ≠ x.heap.size ∧ x2.heap.size + 1 ≠ x.heap.size := by omega
    refine wpIn_rangeFunc_ownG rfl (by omega) (gf := 53) (lb := #[.pointer (some ⟨x2.heap.size, 0, none⟩), .pointer (some ⟨x2.heap.size + 1, 0, none⟩)]) rfl trivial (enters_of Try.func53 (by kernel_rfl) rfl)
      (chunk_stops 2 (by omega) x2.heap.size (x2.heap.size + 1) aoD bd 0 m capD HoD.out HcapD.out (by have := Hm.out; omega) _ bS bN) (fun h k => h.trans k)
      (fun W l' o o' hl' _ _ _ => ⟨World.putObj_heap_other (by simp at hl'; omega), World.putObj_heap_other (by simp at hl'; omega)⟩) (Below.refl _ _) (fun _ => rfl)
      (fun pre W => ((∃ aoB nB capB, Boxed W x.heap.size 26 (.slice aoB nB capB) ∧ (soFar v0 (diffs l) pre).length = nB ∧ (aoB = none → nB = 0) ∧ CellsOff W x.heap.size aoB nB (u8c (soFar v0 (diffs l) pre))) ∧ CellsOff W x.heap.size aoD m (i64c (diffs l)) ∧ x2.heap.size + 2 ≤ W.heap.size) ∧ Below w.heap.size w W)
      (fun _ _ _ => False)
      (OwnFrom.and (Own.from (fun s A B row hs hg hr => by
        obtain ⟨⟨aoB, nB, capB, h1, h2, h3, h4⟩, h5, h6⟩ := hs
        exact ⟨⟨aoB, nB, capB, (grownBy_keeps_cells hg hr h1 rfl).trans h1, h2, h3, h4.kept hg hr⟩, h5.kept hg hr, Nat.le_trans h6 hg.size⟩) _) (ownFrom_below (Nat.le_refl _) (by simp; omega)))
      (fun _ _ _ _ _ hs _ _ => hs)
      ⟨⟨⟨aoP, nP, capP, (Hbx.out.alloc _).alloc _, Hpl.out, HzP.out, (HcP2.out.kept (World.grownBy_alloc _ _ none) (fun r e => by cases e)).kept (World.grownBy_alloc _ _ none) (fun r e => by cases e)⟩, (HcD2.out.kept (World.grownBy_alloc _ _ none) (fun r e => by cases e)).kept (World.grownBy_alloc _ _ none) (fun r e => by cases e), by simp⟩, hB4⟩
      (fun k => { tmps := #[.slice (some ⟨b0, off0, none⟩) n cap, undef, .slice none 0 0, .pointer (some ⟨x.heap.size, 0, none⟩), chunkV bd 0 m k, .slice (some ⟨b0, off0, none⟩) n cap, .int .i64 n, .bool false, .slice (some ⟨b0, off0, none⟩) n cap, .pointer (some ⟨b0, off0, none⟩), .int .i64 v0, .int .u64 (zigN v0 : Nat), .slice aoP nP capP, .slice (some ⟨b0, off0, none⟩) n cap, .slice aoD m capD,
        .func (.func 53) #[] #[.pointer (some ⟨x2.heap.size, 0, none⟩), .pointer (some ⟨x2.heap.size + 1, 0, none⟩)], chunkV bd 0 m k, undef, undef, undef, undef, undef], defers := [] }) ?assign ?body ?done ?stop
    case assign =>
      intro l' k W K hK
      gi_wp2
      exact hK
    case body =>
      clear bS bN hB4
      rintro l' pre k W ⟨⟨⟨aoB, nB, capB, hbox, hnB, hzB, hcB⟩, hcD, hsW⟩, hB⟩ hlt
      obtain ⟨kk, hkk⟩ := k
      obtain ⟨g, hg⟩ : ∃ g, g = min 32 (m - 32 * kk) := ⟨_, rfl⟩
      have ev : chunkV bd 0 m ⟨kk, hkk⟩ = .slice (some ⟨bd, 32 * kk, none⟩) g g := by unfold chunkV; dsimp only; rw [← hg, Nat.zero_add]
      rw [ev]
      have hcc : CellsAt W W.heap.size (some ⟨bd, 32 * kk, none⟩) g (i64c (chunk (diffs l) kk)) := fun i hi => by
        obtain ⟨b, off, e, hb, hc⟩ := hcD.at (32 * kk + i) (by omega)
        rw [HoD.out (by omega)] at e
        cases e
        refine ⟨bd, 32 * kk, rfl, hb, ?_⟩
        rw [i64c, chunk_getD _ _ _ (by omega)]
        rw [Nat.zero_add] at hc
        exact hc
      have hsl := soFar_length v0 (diffs l) pre
      have hwr := written_any aoB nB capB (soFar v0 (diffs l) pre) (some ⟨bd, 32 * kk, none⟩) g g (chunk (diffs l) kk) W hnB hcB.at hzB (by have := Hm.out; omega) (by rw [chunk_length, HhD.out]; exact hg.symm) (by omega) (by omega) hcc (chunk_in _ _ hinD.out)
      have hc0 := hbox.cell
      have Hw := Lib.hid hwr; have Hbox := Lib.hid hbox; have HcD := Lib.hid hcD; have HB := Lib.hid hB
      clear ev hg hcc hwr hcB hcD hB hnB hzB
      gi_wp2_with fail
      refine ⟨trivial, (CallsIn.inRound l' (callsIn_wide.2 Hw.out)).mono ?_⟩
      intro e W2 hg
      obtain ⟨ao3, n3, cap3, rfl, Hn3, -, hz3, hr3, hb3⟩ := hg.opened
      have hbox3 : Boxed W2 x.heap.size 26 (.slice aoB nB capB) := (hb3.block _ Hbox.out.lt).trans Hbox.out
      have hc3 := hbox3.cell
      have hf3 := hbox3.frozen
      have Hr3 := Lib.hid hr3; have Hb3 := Lib.hid hb3; have Hbox3 := Lib.hid hbox3; have Hz3 := Lib.hid hz3
      clear hg hr3 hb3 hbox3 hz3 Hw
      gi_wp2
      have hk1 : KeepsOthers W W2 := ⟨Hb3.out.size, fun k o hk _ => (Hb3.out.block k (Array.getElem?_eq_some_iff.1 hk).1).trans hk⟩
      have hcells := Hr3.out.blk x.heap.size Hbox.out.lt
      have hko : ∀ j, j ≠ x.heap.size → j < x2.heap.size + 2 → (W2.setCell ⟨x.heap.size, 0, none⟩ (.slice ao3 n3 cap3)).heap[j]? = W.heap[j]? := fun j hj hlt2 => by
        have hjW : j < W.heap.size := by omega
        rw [(grownBy_setCell' W2 x.heap.size (.slice ao3 n3 cap3)).block j (Nat.lt_of_lt_of_le hjW Hb3.out.size) (fun e => hj (by cases e; rfl))]
        exact Hb3.out.block j hjW
      refine ⟨((hk1.from _).trans ((KeepsOthers.setCell _ _ _).from _)), ⟨hko _ (by omega) (by omega), hko _ (by omega) (by omega)⟩, ⟨⟨ao3, n3, cap3, Hbox3.out.set _, ?_, Hz3.out, ?_⟩, (HcD.out.below Hb3.out).set _, Nat.le_trans hsW (Nat.le_trans Hb3.out.size (grownBy_setCell' W2 x.heap.size (.slice ao3 n3 cap3)).size)⟩, (HB.out.trans (Hb3.out.mono HB.out.size)).setCell (p := ⟨x.heap.size, 0, none⟩) hszw _⟩
      · rw [soFar_snoc]; exact Hn3.out
      · rw [soFar_snoc]; exact hcells.set _
    case done =>
      clear bS bN hB4
      rintro D ys W hD hys ⟨⟨⟨aoB, nB, capB, hbox, hnB, hzB, hcB⟩, -, hsW⟩, hB⟩ hK
      have hc0 := hbox.cell
      have hsl := soFar_length v0 (diffs l) ys
      have hyl : ys.length = (m + 31) / 32 := by rw [← nos_length, hys, List.length_range]
      have hbytes : soFar v0 (diffs l) ys = dIntsB l := by
        unfold soFar dIntsB
        rw [if_neg (fun e => by have := Hl.out; rw [e] at this; exact hn0 this.symm), hys, ← Hv0.out]
        unfold chunks nBlocks
        rw [HhD.out]
      have hDlt : D < W.heap.size := (Array.getElem?_eq_some_iff.1 hK).1
      have Hcl := Lib.hid (clone_any aoB nB capB (soFar v0 (diffs l) ys) W hnB hcB.at hzB (by have := Hm.out; omega))
      rw [hbytes] at Hcl
      have Hbox := Lib.hid hbox; have HB := Lib.hid hB; have HK := Lib.hid hK
      clear hbytes hnB hzB hcB hB hys hyl hK
      gi_wp2_with fail
      refine ⟨trivial, (callsIn_wide.2 Hcl.out).mono ?_⟩
      intro e W2 hg
      obtain ⟨ao3, n3, cap3, rfl, Hn3, -, -, hr3, hb3⟩ := hg.opened
      have Hr3 := Lib.hid hr3; have Hb3 := Lib.hid hb3
      have hK2 : W2.heap[D]? = some (.deferred (some [])) := (Hb3.out.block D hDlt).trans HK.out
      clear hg hr3 hb3 Hcl
      gi_wp2
      refine ⟨by simp, .inl ⟨_, _, rfl, run_takeDeferred hK2, ?_⟩⟩
      refine ⟨_, results_tmp rfl _ _ _, ?_⟩
      refine GaveB.of Hn3.out.symm ((Hr3.out.putObj _ hK2 rfl).base HB.out.size) ?_
      have h1 : Below w.heap.size w W2 := HB.out.trans (Hb3.out.mono HB.out.size)
      exact h1.trans (belowK_b (w := w) (Nat.le_refl _) W2 D _ _ (by simp at hD; omega) hK2 rfl rfl)
    case stop =>
      rintro D c pre W _ _ h _
      exact h.elim
end Go.Proofs.Ytlnlcmdbhkpnhaa
