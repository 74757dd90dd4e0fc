/- Chapter 5's document: the walk over Leaves. -/
import Derived.Test.YtebmbkbnngeabaaGreatPgW
set_option linter.unusedSimpArgs false
namespace Go.Proofs.YtebmbkbnngeabaaGreat
open Go.RowKit
set_option linter.unusedVariables false
structure Lf where
 field : Nat
 r : Nat
 d : Nat
 kind : Nat
def lf0 : Lf := ⟨0, 0, 0, 0⟩
def lfV (l : Lf) : List Value := [.int .i64 (l.field : Nat), .int .i64 (l.r : Nat), .int .i64 (l.d : Nat), .int .i64 (l.kind : Nat)]
theorem lfV_length (l : Lf) : (lfV l).length = 4 := rfl
theorem lfV_one (f : Lf) : ∀ v ∈ lfV f, v.oneCell' = true := by
 intro v hv
 simp only [lfV, List.mem_cons, List.not_mem_nil, or_false] at hv
 rcases hv with rfl | rfl | rfl | rfl <;> rfl
def nLf (F : List Fd) : Nat → Nat
 | 0 => 0
 | i + 1 => nLf F i + if (fAt F i).kind = 0 then 0 else 1
theorem nLf_le (F : List Fd) : ∀ i, nLf F i ≤ i
 | 0 => Nat.le_refl _
 | i + 1 => by have := nLf_le F i; simp only [nLf]; split <;> omega
def LfOk (l : Lf) : Prop := l.r ≤ 6 ∧ l.d ≤ 6 ∧ 1 ≤ l.kind ∧ l.kind ≤ 4
def GaveLf (F : List Fd) (n : Nat) (w : World) (e : Ending) (w' : World) : Prop := ∃ ao' cap' L, e = .returned (.slice ao' (nLf F n) cap') ∧ Hid (L.length = nLf F n) ∧ Hid (∀ l ∈ L, LfOk l) ∧ CellsAt w' w'.heap.size ao' (nLf F n * 4) (wc lfV L) ∧ (∀ a, ao' = some a → w.heap.size ≤ a.block) ∧ Below w.heap.size w w'
set_option maxHeartbeats 8000000 in
set_option maxRecDepth 100000 in
theorem leaves5_any (F : List Fd) (P dep : Nat → Nat) (anc : Nat → Nat → Nat) (hS : FinS F P dep anc) (ao : Option Addr) (n cap : Nat) (w : World) (hl : F.length = n) (hc : CellsAt w w.heap.size ao (n * 4) (wc fdV F)) :
 Calls Tryz.prog 15 #[.slice ao n cap] w (GaveLf F n w) := by
 have HPa := Lib.hid (parents5_any F P dep anc hS ao n cap w hl hc)
 have Hl := Lib.hid hl; have HS := Lib.hid hS; have Hc := Lib.hid hc
 have hn14 : n ≤ 14 := by rw [← hl]; exact hS.small
 clear hl hS hc
 go_enter Tryz.func15, Tryz.ntmps15
 go_wp2_with fail
 refine HPa.out.mono ?_
 rintro e x0 ⟨aoP, capP, rfl, hcP, -, hb0⟩
 have HcP := Lib.hid hcP; have Hb0 := Lib.hid hb0
 have Hc1 := Lib.hid (Hc.out.at hb0)
 clear hcP hb0
 go_wp2
 go_loopw [4, 5] (fun lv iv x => ∃ (i : Nat) (aoL : Option Addr) (cL : Nat) (L : List Lf), i ≤ n ∧ lv = .slice aoL (nLf F i) cL ∧ iv = .int .i64 (i : Nat) ∧ Hid (∀ l ∈ L, LfOk l) ∧
  Hid (x.ownsRow x0.heap.size 30 4 (.slice aoL (nLf F i) cL) (nLf F i) (wcs lfV L)) ∧ Hid (Below x0.heap.size x0 x)) (fun _ iv _ => n - (intOf iv).toNat)
 case atStart => exact ⟨0, none, 0, [], Nat.zero_le _, rfl, rfl, Lib.hid (fun l h => by cases h), Lib.hid (World.ownsRow_nil _ _ _ _), Lib.hid (Below.refl _ _)⟩
 case round =>
  obtain ⟨i, aoL, cL, L, hi, rfl, rfl, HL, HO, HB⟩ := hrel
  obtain ⟨x, hxx⟩ : ∃ x, x = wr := ⟨_, rfl⟩
  subst hxx
  by_cases hin : i < n
  · have e1 : (i : Int) < (n : Int) := by omega
    have f2 : (0 : Int) ≤ (i : Int) := by omega
    have hiF : i < F.length := by rw [Hl.out]; exact hin
    obtain ⟨b, off, rfl, hb, -, -, k2, -⟩ := Hc1.out.fd Hl.out hin
    obtain ⟨kd, hkd⟩ : ∃ kd, kd = (fAt F i).kind := ⟨_, rfl⟩
    rw [← hkd] at k2
    have k2' := (HB.out.cell (by exact hb)).trans k2
    obtain ⟨nl, hnl⟩ : ∃ nl, nl = nLf F i := ⟨_, rfl⟩
    have hnl14 : nl ≤ 14 := by have := nLf_le F i; omega
    have hnx : Hid (nLf F (i + 1) = nl + if kd = 0 then 0 else 1) := Lib.hid (by rw [hnl, hkd]; rfl)
    have hkd4 : kd ≤ 4 := by rw [hkd]; exact (HS.out.kinds i hiF).1
    rw [← hnl] at HO
    rw [← hnl]
    clear hnl k2 hkd
    by_cases hk0 : kd = 0
    · subst hk0
      have hnx1 : Hid (nLf F (i + 1) = nl) := Lib.hid (by rw [hnx.out, if_pos rfl]; rfl)
      clear hnx
      go_wp2
      go_roundw
      case rel => exact ⟨i + 1, aoL, cL, L, by omega, by rw [hnx1.out], by go_num, HL, by rw [hnx1.out]; exact HO, HB⟩
      case measure => simp [intOf]; omega
    · have f3 : ((kd : Int) == 0) = false := by rw [beq_eq_false_iff_ne]; omega
      have f4 : ¬ (kd : Int) = 0 := by omega
      have hnx1 : Hid (nLf F (i + 1) = nl + 1) := Lib.hid (by rw [hnx.out, if_neg hk0])
      have Hk1 : Hid (1 ≤ kd) := Lib.hid (by omega)
      clear hnx hk0
      go_upto_block 2 with fail
      have hgx : x.heap.size < (x.alloc (.cells #[.int .i64 (i : Nat), .int .i64 0, .int .i64 0, .int .i64 (kd : Nat)] 30)).heap.size := by simp
      obtain ⟨gx, hgxe⟩ : ∃ gx, gx = x.heap.size := ⟨_, rfl⟩
      obtain ⟨y, hy⟩ : ∃ y, y = x.alloc (.cells #[.int .i64 (i : Nat), .int .i64 0, .int .i64 0, .int .i64 (kd : Nat)] 30) := ⟨_, rfl⟩
      rw [← hy, ← hgxe]
      have hyb : Below x.heap.size x y := by rw [hy]; exact (Below.refl _ _).alloc (Nat.le_refl _) _
      have hx0 : x0.heap.size ≤ x.heap.size := HB.out.size
      have c0 : y.cell? ⟨gx, 0, none⟩ = some (.int .i64 (i : Nat)) := by rw [hy, hgxe]; simp [go_sem]
      have c1 : y.cell? ⟨gx, 1, none⟩ = some (.int .i64 ((0 : Nat) : Int)) := by rw [hy, hgxe]; simp [go_sem]
      have c2 : y.cell? ⟨gx, 2, none⟩ = some (.int .i64 ((0 : Nat) : Int)) := by rw [hy, hgxe]; simp [go_sem]
      have c3 : y.cell? ⟨gx, 3, none⟩ = some (.int .i64 (kd : Nat)) := by rw [hy, hgxe]; simp [go_sem]
      have d1 : y.frozen? ⟨gx, 1, none⟩ = false := by rw [hy, hgxe]; simp [go_sem]
      have d2 : y.frozen? ⟨gx, 2, none⟩ = false := by rw [hy, hgxe]; simp [go_sem]
      have HOy := Lib.hid (own_below HO.out hyb)
      have HBy := Lib.hid (HB.out.trans (hyb.mono hx0))
      have hgy : gx < y.heap.size := by rw [hy, hgxe]; exact hgx
      have hog : ∀ k, (Value.slice aoL nl cL).ownBlock = some k → k < gx := fun k hk => by rw [hgxe]; exact (HO.out.lt k hk).2
      have hg0 : x0.heap.size ≤ gx := by rw [hgxe]; exact hx0
      have hd5 : dep i ≤ 5 := HS.out.deep i hiF
      clear hy hgxe hgx hyb HO HB k2' hx0
      go_cut [6] (fun pv wy => ∃ r d : Nat, r ≤ 6 ∧ d ≤ 6 ∧ pv = .pointer (some ⟨gx, 0, none⟩) ∧ gx < wy.heap.size ∧ wy.cell? ⟨gx, 0, none⟩ = some (.int .i64 (i : Nat)) ∧ wy.cell? ⟨gx, 1, none⟩ = some (.int .i64 (r : Nat)) ∧ wy.cell? ⟨gx, 2, none⟩ = some (.int .i64 (d : Nat)) ∧ wy.cell? ⟨gx, 3, none⟩ = some (.int .i64 (kd : Nat)) ∧
       Hid (wy.ownsRow x0.heap.size 30 4 (.slice aoL nl cL) nl (wcs lfV L)) ∧ Hid (Below x0.heap.size x0 wy))
      case first =>
       go_wp2
       go_loopw [7] (fun kv wy => ∃ t r d : Nat, t ≤ dep i + 1 ∧ r + t ≤ dep i + 1 ∧ d + t ≤ dep i + 1 ∧ kv = .int .i64 (if t = 0 then -1 else (anc i (t - 1) : Int)) ∧ gx < wy.heap.size ∧ wy.cell? ⟨gx, 0, none⟩ = some (.int .i64 (i : Nat)) ∧ wy.cell? ⟨gx, 1, none⟩ = some (.int .i64 (r : Nat)) ∧ wy.cell? ⟨gx, 2, none⟩ = some (.int .i64 (d : Nat)) ∧ wy.cell? ⟨gx, 3, none⟩ = some (.int .i64 (kd : Nat)) ∧
        wy.frozen? ⟨gx, 1, none⟩ = false ∧ wy.frozen? ⟨gx, 2, none⟩ = false ∧ Hid (wy.ownsRow x0.heap.size 30 4 (.slice aoL nl cL) nl (wcs lfV L)) ∧ Hid (Below x0.heap.size x0 wy)) (fun kv _ => (intOf kv + 1).toNat)
       case atStart => exact ⟨dep i + 1, 0, 0, Nat.le_refl _, by omega, by omega, by rw [if_neg (Nat.succ_ne_zero _), Nat.add_sub_cancel, HS.out.self i hiF], hgy, c0, c1, c2, c3, d1, d2, HOy, HBy⟩
       case round =>
        clear c0 c1 c2 c3 d1 d2 HOy HBy hgy
        obtain ⟨t, r, d, ht, hr, hd, rfl, hgy, c0, c1, c2, c3, d1, d2, HOy, HBy⟩ := hrel
        obtain ⟨y2, hyy⟩ : ∃ z, z = wr := ⟨_, rfl⟩
        subst hyy
        by_cases ht0 : t = 0
        · subst ht0
          rw [if_pos rfl]
          go_wp2
          go_meet
          exact ⟨r, d, by omega, by omega, rfl, hgy, c0, c1, c2, c3, HOy, HBy⟩
        · obtain ⟨u, rfl⟩ : ∃ u, t = u + 1 := ⟨t - 1, by omega⟩
          obtain ⟨q, hq⟩ : ∃ q, q = anc i u := ⟨_, rfl⟩
          obtain ⟨a1, a2, -⟩ := HS.out.toSch.anc_facts (i + 1) i (by omega) hiF u (by omega)
          rw [← hq] at a1 a2
          have hqn : q < n := by omega
          rw [if_neg (Nat.succ_ne_zero _), Nat.add_sub_cancel, ← hq]
          obtain ⟨_, _, hbe, -, -, j1, -, -⟩ := Hc1.out.fd Hl.out hqn
          cases hbe
          have j1 := (HBy.out.cell (by exact hb)).trans j1
          obtain ⟨rp, hrp⟩ : ∃ rp, rp = (fAt F q).rep := ⟨_, rfl⟩
          have hrp2 : rp ≤ 2 := by rw [hrp]; exact (HS.out.kinds q (by rw [Hl.out]; exact hqn)).2
          rw [← hrp] at j1
          obtain ⟨bp, op, rfl, hbp, jp⟩ := HcP.out q hqn
          have jp := (HBy.out.cell (by exact hbp)).trans jp
          obtain ⟨kn, hkn⟩ : ∃ kn : Int, kn = if u = 0 then -1 else (anc i (u - 1) : Int) := ⟨_, rfl⟩
          have hkq : (parL P n).getD q 0 = kn := by
           rw [parL_at _ _ _ hqn, hkn]
           by_cases hu : u = 0
           · subst hu
             rw [if_pos rfl, if_pos (HS.out.toSch.dep_zero q (by rw [Hl.out]; exact hqn) a2)]
           · obtain ⟨u', rfl⟩ : ∃ u', u = u' + 1 := ⟨u - 1, by omega⟩
             obtain ⟨z1, z2⟩ := HS.out.toSch.anc_up i u' hiF (by omega)
             rw [← hq] at z1 z2
             rw [if_neg (by omega), if_neg (by omega), z2, Nat.add_sub_cancel]
          rw [i64c, hkq] at jp
          have hknb : -1 ≤ kn ∧ kn < (q : Int) := by
           rw [hkn]
           split
           · omega
           · rename_i hu
             obtain ⟨u', rfl⟩ : ∃ u', u = u' + 1 := ⟨u - 1, by omega⟩
             obtain ⟨z1, z2⟩ := HS.out.toSch.anc_up i u' hiF (by omega)
             rw [← hq] at z1 z2
             have := (HS.out.par q z1 (by rw [Hl.out]; exact hqn)).1
             rw [Nat.add_sub_cancel, ← z2]; omega
          have f5 : (0 : Int) ≤ (q : Int) := by omega
          have f6 : (q : Int) < (n : Int) := by omega
          have Hkn := Lib.hid hkn; have Hknb := Lib.hid hknb
          have hr6 : r ≤ 6 := by omega
          have hd6 : d ≤ 6 := by omega
          clear hkn hkq hq hrp a1 a2 hknb ht0
          have hne : ∀ (y : World), y.ownsRow x0.heap.size 30 4 (.slice aoL nl cL) nl (wcs lfV L) → ∀ j, ∀ v : Value, (y.setCell ⟨gx, j, none⟩ v).ownsRow x0.heap.size 30 4 (.slice aoL nl cL) nl (wcs lfV L) := fun y hy j v => ownsRow_setCell_other hy (by intro e; have := hog _ e; simp at this) v
          have hrp3 : rp = 0 ∨ rp = 1 ∨ rp = 2 := by omega
          rcases hrp3 with rfl | rfl | rfl
          · go_wp2
            go_roundw
            case rel => exact ⟨u, r, d, by omega, by omega, by omega, by rw [Hkn.out], hgy, c0, c1, c2, c3, d1, d2, HOy, HBy⟩
            case measure => have := Hknb.out; simp [intOf]; omega
          · go_wp2
            go_roundw
            case rel => exact ⟨u, r, d + 1, by omega, by omega, by omega, by rw [Hkn.out], by simpa using hgy, cell_set_ne (by simp) c0, cell_set_ne (by simp) c1, cell_set_eq c2, cell_set_ne (by simp) c3, by simpa using d1, by simpa using d2, Lib.hid (hne _ HOy.out _ _), Lib.hid (HBy.out.setCell (by exact hg0) _)⟩
            case measure => have := Hknb.out; simp [intOf]; omega
          · go_wp2
            go_roundw
            case rel => exact ⟨u, r + 1, d + 1, by omega, by omega, by omega, by rw [Hkn.out], by simpa using hgy, cell_set_ne (by simp) (cell_set_ne (by simp) c0), cell_set_ne (by simp) (cell_set_eq c1), cell_set_eq (cell_set_ne (by simp) c2), cell_set_ne (by simp) (cell_set_ne (by simp) c3), by simpa using d1, by simpa using d2, Lib.hid (hne _ (hne _ HOy.out _ _) _ _), Lib.hid ((HBy.out.setCell (by exact hg0) _).setCell (by exact hg0) _)⟩
            case measure => have := Hknb.out; simp [intOf]; omega
      case rest =>
       clear c0 c1 c2 c3 d1 d2 HOy HBy hgy
       obtain ⟨r, d, hr, hd, rfl, hgy, c0, c1, c2, c3, HOy, HBy⟩ := hcut
       obtain ⟨y2, hyy⟩ : ∃ z, z = wc := ⟨_, rfl⟩
       subst hyy
       have hb1 : x0.heap.size ≤ (y2.alloc (.cells #[.int .i64 (i : Nat), .int .i64 (r : Nat), .int .i64 (d : Nat), .int .i64 (kd : Nat)] 30)).heap.size := Nat.le_trans HBy.out.size (by simp)
       go_wp2_with (at_builtin; refine wpList_append_all sl_lf rfl (.tmp 56) (.tmp 58) rfl rfl (HOy.out.alloc (.cells #[.int .i64 (i : Nat), .int .i64 (r : Nat), .int .i64 (d : Nat), .int .i64 (kd : Nat)] 30)) rfl (cells_lit y2 30 lfV 4 lfV_length ⟨i, r, d, kd⟩ #[.int .i64 (i : Nat), .int .i64 (r : Nat), .int .i64 (d : Nat), .int .i64 (kd : Nat)] rfl) (fun h => by cases h) (wc_one lfV [⟨i, r, d, kd⟩] 4 1 lfV_length rfl (fun x _ v hv => lfV_one x v hv)) (by unfold maxLen; omega) (by omega) hb1 ?_)
       intro v' y3 ho3 hg3
       have ho3 : y3.ownsRow x0.heap.size 30 4 v' (nl + 1) (wcs lfV L ++ (List.range (1 * 4)).map (wc lfV [⟨i, r, d, kd⟩])) := ho3
       rw [wcs_snoc lfV 4 lfV_length] at ho3
       obtain ⟨g3, cap3, rfl, -, -⟩ := own_shapeG (Nat.succ_pos _) ho3
       have HB3 := Lib.hid ((HBy.out.alloc HBy.out.size (.cells #[.int .i64 (i : Nat), .int .i64 (r : Nat), .int .i64 (d : Nat), .int .i64 (kd : Nat)] 30)).grown hg3 hb1 (fun k hk => (HOy.out.lt k hk).1))
       have HO3 := Lib.hid ho3
       have HL3 : Hid (∀ l ∈ L ++ [⟨i, r, d, kd⟩], LfOk l) := Lib.hid (fun l hl => by
        rcases List.mem_append.1 hl with h | h
        · exact HL.out l h
        · rw [List.mem_singleton.1 h]; exact ⟨hr, hd, Hk1.out, hkd4⟩)
       clear ho3 hg3 c0 c1 c2 c3 HOy HBy hb1
       go_wp2
       go_roundw
       case rel => exact ⟨i + 1, _, _, _, by omega, by rw [hnx1.out], by go_num, HL3, by rw [hnx1.out]; exact HO3, HB3⟩
       case measure => simp [intOf]; omega
  · obtain rfl : i = n := by omega
    have e1 : ¬ (i : Int) < (i : Int) := by omega
    obtain ⟨_, _, hv, hLl, -, hcL, -, hlow⟩ := own_wide lfV_length (by decide) HO.out
    simp only [Value.slice.injEq, true_and] at hv
    obtain ⟨rfl, rfl⟩ := hv
    have HcL := Lib.hid hcL
    have Hlow : Hid (∀ a, aoL = some a → w.heap.size ≤ a.block) := Lib.hid (fun a ha => Nat.le_trans Hb0.out.size (hlow a ha).1)
    have HLl := Lib.hid hLl
    have HBw := Lib.hid (bmore Hb0.out HB.out)
    clear hcL hLl HO HB hlow
    go_wp2
    go_ret
    exact ⟨_, _, L, rfl, HLl, HL, HcL.out, Hlow.out, HBw.out⟩
end Go.Proofs.YtebmbkbnngeabaaGreat
