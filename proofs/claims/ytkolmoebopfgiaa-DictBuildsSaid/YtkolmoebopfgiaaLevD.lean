/- Chapter 10: the walks over the reader of levels: left, run. -/
import Derived.Test.YtkolmoebopfgiaaLevR
import Derived.Test.YtkolmoebopfgiaaVarR
namespace Go.Proofs.Ytkolmoebopfgiaa
open Go.RowKit
set_option linter.unusedVariables false

/-- Levels as they lie. -/
def natv (l : List Nat) : List Value := l.map fun x => Value.int .i64 (x : Nat)
theorem natv_length (l : List Nat) : (natv l).length = l.length := by simp [natv]
theorem natv_append (l m : List Nat) : natv (l ++ m) = natv l ++ natv m := by simp [natv]
theorem natv_rep (n x : Nat) : natv (List.replicate n x) = List.replicate n (Value.int .i64 (x : Nat)) := by simp [natv]
theorem natv_at (l : List Nat) (i : Nat) (h : i < l.length) : (natv l)[i]? = some (nic l i) := by simp [natv, nic, h]
theorem own_nat {w : World} {base : Nat} {e : TypeId} {v : Value} {n : Nat} {l : List Nat} (h : w.ownsRow base e 1 v n (natv l)) :
    ∃ ao cap, v = .slice ao n cap ∧ l.length = n ∧ n ≤ cap ∧ CellsAt w w.heap.size ao n (nic l) ∧ (ao = none → n = 0 ∧ cap = 0) := by
  have hl : l.length = n := by have := h.1; simpa [natv_length] using this
  obtain ⟨ao, cap, rfl, hc, -⟩ := own_cells h
  have h' := h
  refine ⟨ao, cap, rfl, hl, ?_, hc.congr fun i hi => ?_, fun e => ?_⟩
  · rcases h.2 with ⟨h1, h2⟩ | ⟨g, c2, cur, h1, -, -, h4, -⟩
    · omega
    · simp only [Value.slice.injEq] at h1; omega
  · rw [List.getD_eq_getElem?_getD, natv_at l i (by omega)]; rfl
  · rcases h'.2 with ⟨h1, h2⟩ | ⟨g, c2, cur, h1, _⟩
    · simp only [Value.slice.injEq] at h1; exact ⟨h2, h1.2.2⟩
    · subst e; simp at h1
theorem own_butB {w w' : World} {base g : Nat} {e : TypeId} {size : Nat} {v : Value} {n : Nat} {xs : List Value} (h : w.ownsRow base e size v n xs) (hb : But g w w') (hg : g < base) : w'.ownsRow base e size v n xs :=
  ⟨h.1, h.2.imp id fun ⟨b, cap, cur, h1, h2, h3, h4⟩ => ⟨b, cap, cur, h1, h2, (hb.block b (Array.getElem?_eq_some_iff.1 h3).1 (by omega)).trans h3, h4⟩⟩
/-- A block of four cells. -/
theorem four_cells {w : World} {g T : Nat} {a b c d : Value} (h : w.heap[g]? = some (.cells #[a, b, c, d] T)) :
    w.cell? ⟨g, 0, none⟩ = some a ∧ w.cell? ⟨g, 1, none⟩ = some b ∧ w.cell? ⟨g, 2, none⟩ = some c ∧ w.cell? ⟨g, 3, none⟩ = some d ∧ w.frozen? ⟨g, 0, none⟩ = false ∧ w.frozen? ⟨g, 3, none⟩ = false := by
  refine ⟨?_, ?_, ?_, ?_, ?_, ?_⟩ <;> simp [World.cell?, World.frozen?, h]
theorem four_set0 {w : World} {g T : Nat} {a b c d : Value} (h : w.heap[g]? = some (.cells #[a, b, c, d] T)) (v : Value) : (w.setCell ⟨g, 0, none⟩ v).heap[g]? = some (.cells #[v, b, c, d] T) := by
  simp only [World.setCell, Array.getElem?_modify, h]; simp
theorem four_set3 {w : World} {g T : Nat} {a b c d : Value} (h : w.heap[g]? = some (.cells #[a, b, c, d] T)) (v : Value) : (w.setCell ⟨g, 3, none⟩ v).heap[g]? = some (.cells #[a, b, c, v] T) := by
  simp only [World.setCell, Array.getElem?_modify, h]; simp

/-- The reader of levels: the bytes that are left, how many levels are wanted, how wide, those so far. -/
def LRd (w : World) (g : Nat) (b : List Nat) (n wd : Nat) (l : List Nat) : Prop :=
  ∃ ao cap v, w.heap[g]? = some (.cells #[.slice ao b.length cap, .int .i64 (n : Nat), .int .i64 (wd : Nat), v] 64) ∧ CellsAt w g ao b.length (u8c b) ∧ (ao = none → b.length = 0) ∧ b.length ≤ cap ∧ w.ownsRow (g + 1) 3 1 v l.length (natv l)
theorem LRd.lt {w : World} {g n wd : Nat} {b l : List Nat} (h : LRd w g b n wd l) : g < w.heap.size := by
  obtain ⟨ao, cap, v, h, -⟩ := h
  exact (Array.getElem?_eq_some_iff.1 h).1
theorem LRd.below {w w' : World} {g n wd : Nat} {b l : List Nat} (h : LRd w g b n wd l) (hb : Below w.heap.size w w') : LRd w' g b n wd l := by
  have hlt := h.lt
  obtain ⟨ao, cap, v, h1, h2, h3, h4, h5⟩ := h
  exact ⟨ao, cap, v, (hb.block g hlt).trans h1, h2.below (hb.mono (Nat.le_of_lt hlt)), h3, h4, own_below h5 hb⟩
/-- What a row's reading gave. -/
def RowPost (w : World) (g n wd : Nat) (r : List Nat × List Nat × Nat) (e : Ending) (w' : World) : Prop := e = .returned (.int .i64 (r.2.2 : Nat)) ∧ Below g w w' ∧ (r.2.2 = 0 → LRd w' g r.1 n wd r.2.1)

set_option maxHeartbeats 1000000 in
theorem lleft_any (g n wd : Nat) (b l : List Nat) (w : World) (h : LRd w g b n wd l) (hn : n ≤ 4000) (hl : l.length ≤ n) :
    Calls Try.prog 33 #[.pointer (some ⟨g, 0, none⟩)] w fun e w' => e = .returned (.int .i64 ((n - l.length : Nat) : Int)) ∧ ∃ m, w' = w.drewN m := by
  obtain ⟨ao, cap, v, hg, -, -, -, ho⟩ := h
  obtain ⟨al, capl, rfl, -, -, -, -⟩ := own_nat ho
  obtain ⟨c0, c1, c2, c3, -, -⟩ := four_cells hg
  obtain ⟨L, hL⟩ : ∃ L, L = l.length := ⟨_, rfl⟩
  rw [← hL] at c3 hl ⊢
  have e1 : Hid ((n : Int) - (L : Int) = ((n - L : Nat) : Int)) := Lib.hid (by omega)
  clear hg ho hL
  go_enter Try.func33, Try.ntmps33
  go_wp2
  go_quiet (fail)
  go_wp2
  go_ret
  exact ⟨by rw [← e1.out]; rfl, _, rfl⟩

theorem rdGet_all (l : List Nat) (n : Nat) (h : l.length = n) (h8 : n ≤ 8) : rdGet l 0 (n : Int) = (numB l, [], 0) := by
  subst h
  unfold rdGet
  rw [if_neg (by omega)]
  unfold rdTake
  rw [Int.toNat_natCast, if_neg (by omega)]
  simp
theorem take_cells {w : World} {B : Nat} {ao : Option Addr} {n m : Nat} {l : List Nat} (h : CellsAt w B ao n (u8c l)) (hm : m ≤ n) : CellsAt w B ao m (u8c (l.take m)) :=
  (h.take hm).congr fun i hi => (u8c_take _ _ _ hi).symm
theorem from_cells {w : World} {B : Nat} {a ao' : Option Addr} {len p : Nat} {l : List Nat} (hl : l.length = len) (h : CellsAt w B a len (u8c l)) (hp : p ≤ len) (hao : len - p = 0 ∨ ao' = a.map (·.add p)) : CellsAt w B ao' (len - p) (u8c (l.drop p)) := by
  rcases hao with h0 | rfl
  · rw [h0]; exact CellsAt.zero
  · have := drop_cells (p := p) (m := len - p) h (by omega)
    rw [List.take_of_length_le (by rw [List.length_drop]; omega)] at this
    exact this

set_option maxHeartbeats 8000000 in
set_option maxRecDepth 100000 in
theorem lrdrun_any (g n wd k : Nat) (b l : List Nat) (w : World) (h : LRd w g b n wd l) (hn : n ≤ 4000) (hl : l.length < n) (h1 : 1 ≤ wd) (h16 : wd ≤ 16) (h256 : ∀ x ∈ b, x < 256) (hb : b.length ≤ 1000000000) (hk : k < 18446744073709551616) :
    Calls Try.prog 58 #[.pointer (some ⟨g, 0, none⟩), .int .u64 (k : Nat)] w (RowPost w g n wd (decRun wd n b l k)) := by
  have hglt := h.lt
  have HR := Lib.hid h
  obtain ⟨ao, cap, v, hg, hc, hz, hcap, ho⟩ := h
  obtain ⟨c0, c1, c2, c3, f0, f3⟩ := four_cells hg
  have Hg := Lib.hid hg; have Ho := Lib.hid ho; have Hc := Lib.hid hc; have H256 := Lib.hid h256
  clear hg ho hc h256
  have hbw : (wd + 7) / 8 ≤ 2 ∧ 1 ≤ (wd + 7) / 8 := by omega
  have HB := fun w' => lbytes_any wd w' h16
  by_cases hk0 : k = 0
  · subst hk0
    rw [show decRun wd n b l 0 = (b, l, 10) by unfold decRun; rw [if_pos (.inl rfl)]]
    go_enter Try.func58, Try.ntmps58
    go_wp2_with fail
    refine (HB _).mono ?_
    rintro e x1 ⟨rfl, rfl⟩
    go_wp2
    go_ret
    exact ⟨rfl, Below.refl _ _, fun e => by simp at e⟩
  have bk : ((k : Int) == 0) = false := by rw [beq_eq_false_iff_ne]; omega
  by_cases hkl : n - l.length < k
  · rw [show decRun wd n b l k = (b, l, 10) by unfold decRun; rw [if_pos (.inr hkl)]]
    obtain ⟨m, hm⟩ : ∃ m, m = n - l.length := ⟨_, rfl⟩
    have hL := fun w' h => lleft_any g n wd b l w' h hn (Nat.le_of_lt hl)
    rw [← hm] at hL hkl
    have HL := Lib.hid hL
    have hm2 : m ≤ 4000 := by omega
    have ew : IntKind.u64.wrap ((m : Nat) : Int) = ((m : Nat) : Int) := IntWalk.u64_in _ (by omega)
    have dk : decide ((m : Int) < (k : Int)) = true := decide_eq_true (by omega)
    clear hL hm hk0 hl
    go_enter Try.func58, Try.ntmps58
    go_wp2_with fail
    refine (HB _).mono ?_
    rintro e x1 ⟨rfl, rfl⟩
    go_wp2_with fail
    refine (HL.out _ HR.out).mono ?_
    rintro e x2 ⟨rfl, mm, rfl⟩
    have Hx := Lib.hid (below_drewN (Below.refl g w) mm)
    go_wp2
    go_ret
    exact ⟨rfl, Hx.out, fun e => by simp at e⟩
  obtain ⟨m, hm⟩ : ∃ m, m = n - l.length := ⟨_, rfl⟩
  have hL := fun w' h => lleft_any g n wd b l w' h hn (Nat.le_of_lt hl)
  rw [← hm] at hL hkl
  have HL := Lib.hid hL
  have hm2 : m ≤ 4000 := by omega
  have hkm : k ≤ m := by omega
  have ew : IntKind.u64.wrap ((m : Nat) : Int) = ((m : Nat) : Int) := IntWalk.u64_in _ (by omega)
  have dk : decide ((m : Int) < (k : Int)) = false := decide_eq_false (by omega)
  have hdec : decRun wd n b l k = if b.length < (wd + 7) / 8 then (b, l, 8) else if numB (b.take ((wd + 7) / 8)) / 2 ^ wd ≠ 0 then (b, l, 10) else (b.drop ((wd + 7) / 8), l ++ List.replicate k (numB (b.take ((wd + 7) / 8))), 0) := by
    unfold decRun; rw [if_neg (by omega)]
  rw [hdec]
  obtain ⟨bw, hbwe⟩ : ∃ bw, bw = (wd + 7) / 8 := ⟨_, rfl⟩
  rw [← hbwe] at hbw HB ⊢
  obtain ⟨LB, hLB⟩ : ∃ LB, LB = b.length := ⟨_, rfl⟩
  rw [← hLB] at c0 hcap hb hz ⊢
  have HLB := Lib.hid hLB
  have HB := Lib.hid HB
  have hkn : k ≤ 4000 := by omega
  have hll : l.length + k ≤ n := by omega
  have Hll := Lib.hid hll
  clear hL hm hdec hbwe hLB hl hll
  by_cases hcut : LB < bw
  · rw [if_pos hcut]
    have dc : ((LB : Int) < (bw : Int)) := by omega
    go_enter Try.func58, Try.ntmps58
    go_wp2_with fail
    refine (HB.out _).mono ?_
    rintro e x1 ⟨rfl, rfl⟩
    go_wp2_with fail
    refine (HL.out _ HR.out).mono ?_
    rintro e x2 ⟨rfl, mm, rfl⟩
    have Hx := Lib.hid (below_drewN (Below.refl g w) mm)
    go_wp2
    go_ret
    exact ⟨rfl, Hx.out, fun e => by simp at e⟩
  rw [if_neg hcut]
  have dc : ¬ ((LB : Int) < (bw : Int)) := by omega
  have hbc : (bw : Int) ≤ (cap : Int) := by omega
  have hbl : bw ≤ LB := by omega
  obtain ⟨V, hV⟩ : ∃ V, V = numB (b.take bw) := ⟨_, rfl⟩
  rw [← hV]
  have htl : (b.take bw).length = bw := by rw [List.length_take, ← HLB.out]; omega
  have hVlt : V < 18446744073709551616 := by
    have h := numB_lt (b.take bw) (fun x hx => H256.out x (List.mem_of_mem_take hx))
    rw [htl, ← hV] at h
    have h2 : 256 ^ bw ≤ 256 ^ 2 := Nat.pow_le_pow_right (by decide) hbw.1
    omega
  have hcT : CellsAt w g ao bw (u8c (b.take bw)) := take_cells Hc.out (by rw [← HLB.out]; exact hbl)
  have hN := fun (w' : World) hw' => new_any ao bw cap (b.take bw) w' htl (((hcT.mono (Nat.le_of_lt hglt)).below (hw' : Below w.heap.size w w')).mono hw'.size) (fun e => by have := hz e; omega) (by omega)
  have HN := Lib.hid hN
  have hG := fun (g2 lo : Nat) (w' : World) h => get_any g2 (lo := lo) (b.take bw) 0 (bw : Int) w' h (by rw [htl]; omega) (fun x hx => H256.out x (List.mem_of_mem_take hx))
  rw [rdGet_all (b.take bw) bw htl (by omega), ← hV] at hG
  have HG := Lib.hid hG
  have hq0 : ((V : Int) / 2 ^ wd) = ((V / 2 ^ wd : Nat) : Int) := by rw [Int.natCast_ediv, Int.natCast_pow]; rfl
  have HV := Lib.hid hV
  have Htl := Lib.hid htl
  clear hN hG hV hcT htl
  by_cases hq : V / 2 ^ wd ≠ 0
  · rw [if_pos hq]
    have bq : ((V : Int) / 2 ^ wd != 0) = true := by rw [hq0, bne_iff_ne]; omega
    clear hq hq0
    go_enter Try.func58, Try.ntmps58
    go_wp2_with fail
    refine (HB.out _).mono ?_
    rintro e x1 ⟨rfl, rfl⟩
    go_wp2_with fail
    refine (HL.out _ HR.out).mono ?_
    rintro e x2 ⟨rfl, mm, rfl⟩
    go_wp2_with fail
    refine (HN.out _ (below_drewN (Below.refl _ _) mm)).mono ?_
    rintro e x1 ⟨g2, rfl, hg2, hr2, hx1⟩
    have hx1 : Below w.heap.size w x1 := (below_drewN (Below.refl _ _) mm).trans hx1
    have hg2 : w.heap.size ≤ g2 := hg2
    go_wp2_with fail
    refine (HG.out g2 _ _ hr2).mono ?_
    rintro e x2 ⟨rfl, -, hb2⟩
    have hx2 := hb2.below hx1 hg2 hx1.size
    have c2x := (hx2.cell (p := ⟨g, 2, none⟩) (by exact hglt)).trans c2
    have Hx := Lib.hid (hx2.mono (Nat.le_of_lt hglt))
    clear hr2 hb2 hx1 hx2
    go_wp2
    go_ret
    exact ⟨rfl, Hx.out, fun e => by simp at e⟩
  rw [if_neg hq]
  have hVw : V < 2 ^ wd := by
    have hq' : V / 2 ^ wd = 0 := by omega
    exact (Nat.div_eq_zero_iff.1 hq').resolve_left (by have := Nat.two_pow_pos wd; omega)
  have hV16 : V < 65536 := Nat.lt_of_lt_of_le hVw (Nat.pow_le_pow_right (by decide) h16)
  have bq : ((V : Int) / 2 ^ wd != 0) = false := by rw [hq0, bne_eq_false_iff_eq]; omega
  obtain ⟨ao', hao, hs⟩ := slice_from ao LB cap bw hbl hcap
  have hcD : CellsAt w g ao' (LB - bw) (u8c (b.drop bw)) := from_cells HLB.out.symm (by rw [HLB.out]; exact Hc.out) hbl hao
  have HcD := Lib.hid hcD
  clear hq hq0 hVw hcD hao
  go_enter Try.func58, Try.ntmps58
  go_wp2_with fail
  refine (HB.out _).mono ?_
  rintro e x1 ⟨rfl, rfl⟩
  go_wp2_with fail
  refine (HL.out _ HR.out).mono ?_
  rintro e x2 ⟨rfl, mm, rfl⟩
  go_wp2_with fail
  refine (HN.out _ (below_drewN (Below.refl _ _) mm)).mono ?_
  rintro e x1 ⟨g2, rfl, hg2, hr2, hx1⟩
  have hx1 : Below w.heap.size w x1 := (below_drewN (Below.refl _ _) mm).trans hx1
  have hg2 : w.heap.size ≤ g2 := hg2
  go_wp2_with fail
  refine (HG.out g2 _ _ hr2).mono ?_
  rintro e x2 ⟨rfl, -, hb2⟩
  have hx2 := hb2.below hx1 hg2 hx1.size
  have c2x := (hx2.cell (p := ⟨g, 2, none⟩) (by exact hglt)).trans c2
  have hgx : x2.heap[g]? = some (.cells #[.slice ao LB cap, .int .i64 (n : Nat), .int .i64 (wd : Nat), v] 64) := (hx2.block g hglt).trans (by rw [HLB.out]; exact Hg.out)
  obtain ⟨d0, d1, d2, d3, d4, d5⟩ := four_cells hgx
  have hownx := own_below Ho.out hx2
  have Hx := Lib.hid (hx2.mono (Nat.le_of_lt hglt))
  have Hgx := Lib.hid hgx; have Hownx := Lib.hid hownx
  have hx2s : g + 1 ≤ x2.heap.size := Nat.lt_of_lt_of_le hglt hx2.size
  clear hr2 hb2 hx1 hx2 hgx hownx
  go_wp2
  have hgW := four_set0 Hgx.out (.slice ao' (LB - bw) (cap - bw))
  have hbutW : But g x2 (x2.setCell ⟨g, 0, none⟩ (.slice ao' (LB - bw) (cap - bw))) := (But.refl g x2).setCell 0 _
  have hbW : Below g w (x2.setCell ⟨g, 0, none⟩ (.slice ao' (LB - bw) (cap - bw))) := Hx.out.setCell (by exact Nat.le_refl _) _
  obtain ⟨W, hW⟩ : ∃ W, W = x2.setCell ⟨g, 0, none⟩ (.slice ao' (LB - bw) (cap - bw)) := ⟨_, rfl⟩
  rw [← hW] at hgW hbutW hbW ⊢
  have hownW := own_butB Hownx.out hbutW (Nat.lt_succ_self g)
  obtain ⟨-, -, -, q3, -, -⟩ := four_cells hgW
  have hWs : g + 1 ≤ W.heap.size := Nat.le_trans hx2s hbutW.size
  have f3 : ∀ w', Grows W.drew w' → w'.cell? ⟨g, 3, none⟩ = some v := fun w' hg => (Grows.toDrew hg).cell q3
  have ek : IntKind.i64.wrap (k : Int) = (k : Int) := IntWalk.i64_in _ (by omega)
  have eV : IntKind.i64.wrap (V : Int) = (V : Int) := IntWalk.i64_in _ (by omega)
  have HgW := Lib.hid hgW; have HownW := Lib.hid hownW; have HbW := Lib.hid hbW
  clear hW hbutW hgW hownW hbW q3 d0 d1 d2 d3 d4 d5 c0 c1 c2 c3 f0 c2x
  refine wp_region_linP [(0, 3), (1, 3), (2, 3), (3, 3), (4, 0), (5, 3), (6, 3), (8, 3), (9, 3), (7, 1), (10, 1), (11, 2), (12, 3), (13, 3), (14, 2)] [11, 14] (by kernel_rfl) (by kernel_rfl) (fun d _ _ _ _ h => by cases d <;> exact h) ?_
  repeat (first
    | (refine wpLinP_skip rfl rfl (fun K hK => ?_); go_simp; refine hK _ ?_; clear hK K)
    | (refine wpLinP_pure (v := ?_) rfl rfl (fun w' => ?_) (fun K hK => ?_); rotate_left; (go_simp; rfl); (go_simp; refine hK _ ?_; clear hK K))
    | (refine wpLinP_take (v := ?_) rfl rfl (fun w' hw' => ?_) (fun K hK => ?_); rotate_left; (go_simp; rfl); (go_simp; refine hK _ ?_; clear hK K)))
  refine wpLinP_do rfl (fun K hK => ?_); go_simp; refine hK _ _ ((Grows.refl W.drew).alloc _) ?_; clear hK K
  refine wpLinP_do rfl (fun K hK => ?_); go_simp
  refine (repeat_one W.heap.size 0 1 k (V : Int) _ (by omega) (by omega) (by simp [go_sem])).mono ?_
  rintro e y ⟨vR, rfl, hoR, hbR⟩
  refine hK _ _ hbR ?_; clear hK K f3
  obtain ⟨aoR, capR, rfl, hcR, -⟩ := own_cells hoR
  have hbWy : Below W.heap.size W y := (balloc (Below.refl _ _).drew _).trans (hbR.mono (by simp))
  have hownY := own_below HownW.out hbWy
  have hnR : aoR = none → k = 0 ∧ capR = 0 := fun e => by
    obtain ⟨_, _, e2, -⟩ := hcR 0 (by omega)
    rw [e] at e2; cases e2
  have hgY : y.heap[g]? = _ := (hbWy.block g (by omega)).trans HgW.out
  have hys : g + 1 ≤ y.heap.size := Nat.le_trans hWs hbWy.size
  have HgY := Lib.hid hgY
  have HbY := Lib.hid (HbW.out.trans (hbWy.mono (by omega)))
  have hl4 : l.length + k ≤ 4000 := by have := Hll.out; omega
  clear hbR hoR hbWy hgY
  refine wpLinP_hard rfl (fun K hK => ?_)
  refine step_append_all1 sl_i rfl (.tmp 59) (.tmp 65) rfl rfl hownY rfl hcR hnR (fun i hi => by rw [List.getD_eq_getElem?_getD, List.getElem?_replicate, if_pos hi]; rfl) (by unfold maxLen; omega) (by omega) hys ?_
  intro vZ y2 hoZ hgr
  obtain ⟨aoZ, capZ, rfl, -, -⟩ := own_cells hoZ
  have hbY2 : Below (g + 1) y y2 := (Below.refl _ _).grown hgr hys (fun j hj => (hownY.lt j hj).1)
  have hoZ : y2.ownsRow (g + 1) 3 1 (.slice aoZ (l.length + k) capZ) (l ++ List.replicate k V).length (natv (l ++ List.replicate k V)) := by
    have e : (List.range k).map (fun i => (List.replicate k (Value.int .i64 (V : Nat))).getD i undef) = List.replicate k (Value.int .i64 (V : Nat)) := by
      refine List.eq_replicate_iff.2 ⟨by simp, fun x hx => ?_⟩
      obtain ⟨i, hi, rfl⟩ := List.mem_map.1 hx
      rw [List.getD_eq_getElem?_getD, List.getElem?_replicate, if_pos (List.mem_range.1 hi)]; rfl
    have h := hoZ
    rw [e, ← natv_rep, ← natv_append] at h
    rw [List.length_append, List.length_replicate]
    exact h
  have hgZ : y2.heap[g]? = _ := (hbY2.block g (Nat.lt_succ_self g)).trans HgY.out
  obtain ⟨z0, z1, z2, z3, z4, z5⟩ := four_cells hgZ
  have HoZ := Lib.hid hoZ; have HgZ := Lib.hid hgZ; have HbZ := Lib.hid (HbY.out.trans (hbY2.mono (Nat.le_succ g)))
  clear hoZ hgr hbY2 hownY hcR hgZ z0 z1 z2 z4
  go_simp; refine hK _ _ ?_; clear hK K
  repeat (first
    | (refine wpLinP_skip rfl rfl (fun K hK => ?_); go_simp; refine hK _ ?_; clear hK K)
    | (refine wpLinP_pure (v := ?_) rfl rfl (fun w' => ?_) (fun K hK => ?_); rotate_left; (go_simp; rfl); (go_simp; refine hK _ ?_; clear hK K))
    | (refine wpLinP_take (v := ?_) rfl rfl (fun w' hw' => ?_) (fun K hK => ?_); rotate_left; (go_simp; rfl); (go_simp; refine hK _ ?_; clear hK K)))
  refine wpLinP_hard rfl (fun K hK => ?_); go_simp
  refine hK _ _ ?_; clear hK K
  refine wpLinP_nil ?_
  go_wp2
  go_ret
  have hfb : Below g w (y2.setCell ⟨g, 3, none⟩ (.slice aoZ (l.length + k) capZ)) := HbZ.out.setCell (by exact Nat.le_refl _) _
  have hdl : (b.drop bw).length = LB - bw := by rw [List.length_drop, ← HLB.out]
  refine ⟨rfl, hfb, fun _ => ⟨ao', cap - bw, .slice aoZ (l.length + k) capZ, ?_, ?_, ?_, ?_, ?_⟩⟩
  · rw [hdl]; exact four_set3 HgZ.out _
  · rw [hdl]; exact HcD.out.below hfb
  · rw [hdl]
    intro e
    rcases Nat.eq_zero_or_pos (LB - bw) with h0 | h0
    · exact h0
    · obtain ⟨_, _, e2, -⟩ := HcD.out 0 h0
      rw [e] at e2; cases e2
  · rw [hdl]; omega
  · exact own_butB HoZ.out ((But.refl g y2).setCell 3 _) (Nat.lt_succ_self g)
end Go.Proofs.Ytkolmoebopfgiaa
