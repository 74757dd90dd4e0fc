/- Chapter 8's law package: the walks over Make and Many. -/
import Derived.Test.YtebmbkbnngeabaaGreatPgU
set_option linter.unusedSimpArgs false
namespace Go.Proofs.YtebmbkbnngeabaaGreat
open Go.RowKit
set_option linter.unusedVariables false
def GaveTr (F : List Fd) (P : Nat → Nat) (n : Nat) (w : World) (e : Ending) (w' : World) : Prop :=
 ∃ (t : Tr), e = .returned (.agg #[.int .i64 t.1, .string t.2.1, t.2.2]) ∧ Hid (TreeAt F P n w' (fun b => w.heap.size ≤ b) n 0 t) ∧ Hid (Below w.heap.size w w')
set_option maxHeartbeats 8000000 in
set_option maxRecDepth 100000 in
theorem makeT_any (F : List Fd) (P dep : Nat → Nat) (anc : Nat → Nat → Nat) (hS : FinS F P dep anc) (aoS : Option Addr) (n capS : Nat) (aoN : Option Addr) (lN capN : Nat) (ns : List Int) (w : World) (hl : F.length = n) (hc : CellsAt w w.heap.size aoS (n * 4) (wc fdV F))
 (hns : ns.length = lN) (hlN : lN ≤ 9223372036854775807) (hin : ∀ x ∈ ns, -9223372036854775808 ≤ x ∧ x ≤ 9223372036854775807) (hcN : CellsAt w w.heap.size aoN lN (i64c ns)) :
 Calls Tryz.prog 37 #[.slice aoS n capS, .slice aoN lN capN] w (GaveTr F P n w) := by
 have hb0 := balloc (Below.refl w.heap.size w) (.cells #[.int .i64 0, .string ⟨#[]⟩, .slice none 0 0] 86)
 have HP := Lib.hid (parents5_any F P dep anc hS aoS n capS _ hl (hc.at hb0))
 have hn : 0 < n := by rw [← hl]; exact hS.pos
 obtain ⟨w1, hw1⟩ : ∃ x, x = w.alloc (.cells #[.int .i64 0, .string ⟨#[]⟩, .slice none 0 0] 86) := ⟨_, rfl⟩
 have hr1 : w1.heap[w.heap.size]? = some (.cells #[.int .i64 0, .string ⟨#[]⟩, .slice none 0 0] 86) := by rw [hw1]; exact heap_alloc_new w _
 have hG : w.heap.size < w1.heap.size := by rw [hw1]; simp
 rw [← hw1] at hb0 HP
 have Hc := Lib.hid hc; have HcN := Lib.hid hcN; have HS := Lib.hid hS; have Hl := Lib.hid hl; have Hns := Lib.hid hns; have Hin := Lib.hid hin
 have Hr1 := Lib.hid hr1; have Hb0 := Lib.hid hb0
 clear hc hcN hS hl hns hin hr1 hb0
 go_enter Tryz.func37, Tryz.ntmps37
 go_wp2_with fail
 rw [← hw1]
 clear hw1
 refine HP.out.mono ?_
 rintro e x ⟨aoP, capP, rfl, hcP, -, hbP⟩
 have hmk : Mk ⟨F, P, n, aoS, capS, aoP, capP, ns, aoN, lN, capN⟩ (x.alloc (.cells #[.slice aoS n capS, .slice aoP n capP, .slice aoN lN capN, .int .i64 ((0 : Nat) : Int)] 128)) x.heap.size 0 :=
  ⟨heap_alloc_new x _, Nat.zero_le _, ((Hc.out.at (Hb0.out.trans (hbP.mono Hb0.out.size))).alloc (Nat.le_refl _) _), hcP.alloc (Nat.le_refl _) _, ((HcN.out.at (Hb0.out.trans (hbP.mono Hb0.out.size))).alloc (Nat.le_refl _) _)⟩
 have HV := Lib.hid (value8_any ⟨F, P, n, aoS, capS, aoP, capP, ns, aoN, lN, capN⟩ dep anc ⟨HS.out, Hl.out, Hns.out, hlN, Hin.out⟩ x.heap.size n 0 0 _ (by simp) hn hmk)
 have hwx : w1.heap.size ≤ x.heap.size := hbP.size
 have HbP := Lib.hid (Hb0.out.trans (hbP.mono Hb0.out.size))
 have Hrx := Lib.hid ((hbP.block _ hG).trans Hr1.out)
 clear hmk hcP hbP
 go_wp2_with fail
 refine HV.out.mono ?_
 rintro e y ⟨t, a, rfl, HT, HM, HB⟩
 have hxa : Below x.heap.size x (x.alloc (.cells #[.slice aoS n capS, .slice aoP n capP, .slice aoN lN capN, .int .i64 ((0 : Nat) : Int)] 128)) := balloc (Below.refl _ _) _
 have hxy : Below x.heap.size x y := But.below hxa HB.out (Nat.le_refl _) hxa.size
 have hry := (hxy.block _ (Nat.lt_of_lt_of_le hG hwx)).trans Hrx.out
 obtain ⟨r0, r1, r2, q0, q1, q2⟩ := three_cellsT hry
 obtain ⟨t1, t2, t3⟩ := t
 obtain ⟨d0, d1, d2, -, -, -⟩ := three_cellsT (three_setT hry (.int .i64 t1) (.string t2) t3)
 have hbut : But w.heap.size y (((y.setCell ⟨w.heap.size, 0, none⟩ (.int .i64 t1)).setCell ⟨w.heap.size, 1, none⟩ (.string t2)).setCell ⟨w.heap.size, 2, none⟩ t3) := (((But.refl _ _).setCell 0 _).setCell 1 _).setCell 2 _
 have HT2 := Lib.hid (TreeAt.mono (S' := fun b => w.heap.size ≤ b) (fun b _ h => by have := hxa.size; omega) n 0 _ (TreeAt.keep (KeepS.ofBut hbut (fun h => by have := hxa.size; have h2 : (x.alloc (.cells #[.slice aoS n capS, .slice aoP n capP, .slice aoN lN capN, .int .i64 ((0 : Nat) : Int)] 128)).heap.size ≤ w.heap.size := h; omega)) n 0 (t1, t2, t3) HT.out))
 have HBf := Lib.hid (((((HbP.out.trans (hxy.mono (Nat.le_trans Hb0.out.size hwx))).setCell (p := ⟨w.heap.size, 0, none⟩) (Nat.le_refl _) (.int .i64 t1)).setCell (p := ⟨w.heap.size, 1, none⟩) (Nat.le_refl _) (.string t2)).setCell (p := ⟨w.heap.size, 2, none⟩) (Nat.le_refl _) t3))
 obtain ⟨ao3, m3, c3, h3⟩ := TreeAt.slice n 0 (t1, t2, t3) HT.out
 simp only at h3
 subst h3
 clear HT HM HB hxa hxy hbut
 go_wp2
 exact bodyPost_ret (v := .agg #[.int .i64 t1, .string t2, .slice ao3 m3 c3]) (by simp [results, Tryz.results37, go_sem, d0, d1, d2]) rfl ⟨(t1, t2, .slice ao3 m3 c3), rfl, HT2, HBf⟩
def RowsAt (w : World) (ao : Option Addr) (len : Nat) : Prop := ∀ i, i < len → ∃ b off a m c, ∃ ns : List Int, ao = some ⟨b, off, none⟩ ∧ b < w.heap.size ∧ w.cell? ⟨b, off + i, none⟩ = some (.slice a m c) ∧ ns.length = m ∧ m ≤ 9223372036854775807 ∧
 (∀ x ∈ ns, -9223372036854775808 ≤ x ∧ x ≤ 9223372036854775807) ∧ CellsAt w w.heap.size a m (i64c ns)
def GaveM (F : List Fd) (P : Nat → Nat) (n lenR : Nat) (w : World) (e : Ending) (w' : World) : Prop :=
 ∃ (ao : Option Addr) (cap : Nat), e = .returned (.slice ao (min lenR 16) cap) ∧ Hid (ListAt w' (fun b => w.heap.size ≤ b) (fun t => TreeAt F P n w' (fun b => w.heap.size ≤ b) n 0 t) ao (min lenR 16)) ∧ Hid (Below w.heap.size w w')
def SetM (w : World) (lv : Value) (b : Nat) : Prop := w.heap.size ≤ b ∧ lv.ownBlock ≠ some b
set_option maxHeartbeats 8000000 in
set_option maxRecDepth 100000 in
theorem many8_any (F : List Fd) (P dep : Nat → Nat) (anc : Nat → Nat → Nat) (hS : FinS F P dep anc) (aoS : Option Addr) (n capS : Nat) (aoR : Option Addr) (lenR capR : Nat) (w : World) (hl : F.length = n) (hc : CellsAt w w.heap.size aoS (n * 4) (wc fdV F))
 (hR : RowsAt w aoR lenR) (hlenR : lenR ≤ 9223372036854775807) :
 Calls Tryz.prog 13 #[.slice aoS n capS, .slice aoR lenR capR] w (GaveM F P n lenR w) := by
 have Hc := Lib.hid hc; have HR := Lib.hid hR; have HS := Lib.hid hS; have Hl := Lib.hid hl
 obtain ⟨N, hN⟩ : ∃ N, N = min lenR 16 := ⟨_, rfl⟩
 have HN := Lib.hid hN
 have hN16 : N ≤ 16 := by omega
 clear hc hR hS hl hN
 go_enter Tryz.func13, Tryz.ntmps13
 go_wp2
 go_loopw [5, 6] (fun lv jv wy => ∃ (j : Nat) (aoL : Option Addr) (capL : Nat) (ts : List Tr), j ≤ N ∧ lv = .slice aoL j capL ∧ jv = .int .i64 (j : Nat) ∧ Hid (wy.ownsRow w.heap.size 86 3 (.slice aoL j capL) j (wcs trV ts)) ∧
  Hid (∀ t ∈ ts, TreeAt F P n wy (SetM w (.slice aoL j capL)) n 0 t) ∧ Hid (Below w.heap.size w wy)) (fun _ jv _ => N - (intOf jv).toNat)
 case atStart => exact ⟨0, none, 0, [], Nat.zero_le _, rfl, rfl, Lib.hid (World.ownsRow_nil _ _ _ _), Lib.hid (fun t h => by cases h), Lib.hid (Below.refl _ _)⟩
 case round =>
  obtain ⟨j, aoL, capL, ts, hj, rfl, rfl, HO, HTs, HB⟩ := hrel
  obtain ⟨y, hyy⟩ : ∃ y, y = wr := ⟨_, rfl⟩
  subst hyy
  by_cases hjN : j < N
  · have hjR : j < lenR := by have := HN.out; omega
    have e1 : (j : Int) < (lenR : Int) := by omega
    have e2 : (j : Int) < 16 := by omega
    have e3 : (0 : Int) ≤ (j : Int) := by omega
    obtain ⟨b, off, a, m, c, ns, rfl, hb, cR, hns, hm, hin, hcN⟩ := HR.out j hjR
    have cR := (HB.out.cell (by exact hb)).trans cR
    have hwy := HB.out.size
    have hlo := fun b (h : (Value.slice aoL j capL).ownBlock = some b) => (HO.out.lt b h).2
    have HM := Lib.hid (makeT_any F P dep anc HS.out aoS n capS a m c ns y Hl.out (Hc.out.at HB.out) hns hm hin (hcN.at HB.out))
    clear hns hin hcN
    go_wp2_with fail
    refine HM.out.mono ?_
    rintro e x2 ⟨t, rfl, HTt, HB2⟩
    have HO2 := Lib.hid (own_below HO.out HB2.out)
    obtain ⟨aot, mt, ct, hts⟩ := TreeAt.slice n 0 t HTt.out
    have HTs2 : Hid (∀ t' ∈ ts ++ [t], TreeAt F P n x2 (SetM w (.slice aoL j capL)) n 0 t') := Lib.hid (by
     intro t' ht'
     rcases List.mem_append.1 ht' with h | h
     · exact TreeAt.keep (KeepS.of HB2.out) n 0 t' (HTs.out t' h)
     · rw [List.mem_singleton.1 h]
       exact TreeAt.mono (fun b _ hb => ⟨by omega, fun e => by have := hlo b e; omega⟩) n 0 t HTt.out)
    have hBx : w.heap.size ≤ x2.heap.size := Nat.le_trans hwy HB2.out.size
    have HB3 := Lib.hid (bmore HB.out HB2.out)
    obtain ⟨tn, tS, tK⟩ := t
    simp only at hts
    subst hts
    have hone := wc_one trV [(tn, tS, Value.slice aot mt ct)] 3 1 trV_length rfl (fun x hx v hv => by rw [List.mem_singleton.1 hx] at hv; exact trV_one rfl v hv)
    have hcl := cells_lit x2 86 trV 3 trV_length (tn, tS, .slice aot mt ct) #[.int .i64 tn, .string tS, .slice aot mt ct] rfl
    have hOA := HO2.out.alloc (.cells #[.int .i64 tn, .string tS, .slice aot mt ct] 86)
    have hb1 : w.heap.size ≤ (x2.alloc (.cells #[.int .i64 tn, .string tS, .slice aot mt ct] 86)).heap.size := Nat.le_trans hBx (by simp)
    clear HTt HB2 HTs HM hlo HB HO cR
    go_wp2_with (at_builtin; refine wpList_append_apart sl_tr rfl (.tmp 17) (.tmp 24) rfl rfl hOA rfl hcl (fun h => by cases h) hone (by unfold maxLen; omega) (by omega) hb1 ?_)
    intro v' y3 ho3 hg3 hs3
    have ho3 : y3.ownsRow w.heap.size 86 3 v' (j + 1) (wcs trV ts ++ (List.range (1 * 3)).map (wc trV [(tn, tS, .slice aot mt ct)])) := ho3
    rw [wcs_snoc trV 3 trV_length] at ho3
    obtain ⟨g3, cap3, rfl, -, -⟩ := own_shapeG (Nat.succ_pos _) ho3
    have HB4 := Lib.hid ((HB3.out.alloc hBx (.cells #[.int .i64 tn, .string tS, .slice aot mt ct] 86)).grown hg3 hb1 (fun k hk => (HO2.out.lt k hk).1))
    have HTs3 : Hid (∀ t ∈ ts ++ [(tn, tS, .slice aot mt ct)], TreeAt F P n y3 (SetM w (.slice (some ⟨g3, 0, none⟩) (j + 1) cap3)) n 0 t) := Lib.hid (fun t ht => by
     have h1 := TreeAt.keep (KeepS.of (balloc (Below.refl x2.heap.size x2) (.cells #[.int .i64 tn, .string tS, .slice aot mt ct] 86))) n 0 t (HTs2.out t ht)
     have h2 := TreeAt.mono (S' := fun b => SetM w (.slice aoL j capL) b ∧ b < (x2.alloc (.cells #[.int .i64 tn, .string tS, .slice aot mt ct] 86)).heap.size) (fun b hb h => ⟨h, hb⟩) n 0 t h1
     have h3 := TreeAt.keep (KeepS.grown hg3 (fun b hb e => hb.1.2 e.symm)) n 0 t h2
     refine TreeAt.mono (fun b _ h => ⟨h.1.1, fun e => ?_⟩) n 0 t h3
     rcases hs3 with hs3 | hs3
     · rw [hs3] at e; exact h.1.2 e
     · have := hs3 b e; omega)
    have HO3 := Lib.hid ho3
    clear ho3 hg3 hs3 HTs2 HO2 hb1 hOA hcl hone
    go_wp2
    go_roundw
    case rel => exact ⟨j + 1, _, _, _, by omega, rfl, by go_num, HO3, HTs3, HB4⟩
    case measure => simp [intOf]; omega
  · obtain rfl : j = N := by omega
    have hcase : ¬ (j : Int) < (lenR : Int) ∨ ((j : Int) < (lenR : Int) ∧ ¬ (j : Int) < 16) := by have := HN.out; omega
    have hL : Hid (ListAt y (fun b => w.heap.size ≤ b) (fun t => TreeAt F P n y (fun b => w.heap.size ≤ b) n 0 t) aoL j) := Lib.hid (list_of_own HO.out (fun b _ _ h => h) (fun t ht => TreeAt.mono (fun b _ h => h.1) n 0 t (HTs.out t ht)))
    have HN2 := Lib.hid HN.out.symm
    clear HO HTs
    rcases hcase with e1 | ⟨e1, e2⟩
    all_goals
     go_wp2
     go_ret
     exact ⟨aoL, capL, by rw [HN2.out]; rfl, by rw [HN2.out]; exact hL, HB⟩
end Go.Proofs.YtebmbkbnngeabaaGreat
