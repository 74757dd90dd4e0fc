/- Chapter 14's document: the walk over begin. -/
import Derived.Test.YtebmbkbnngeabaaGreatPgF
set_option linter.unusedSimpArgs false
namespace Go.Proofs.YtebmbkbnngeabaaGreat
open Go.RowKit
set_option linter.unusedVariables false
theorem OwnRs.keptBy {w w' : World} {base g : Nat} {rs : List RowD} (h : OwnRs w base rs) (hg : w.grownBy w' (some g)) (hlt : g < base) : OwnRs w' base rs :=
 ⟨fun r hr => World.ownsRow.kept (h.1 r hr) hg (by
  right; intro e
  have := ((h.1 r hr).lt g e).1
  omega), h.2⟩
theorem colRows_nil (m : Nat) : ∀ r ∈ colRows (List.replicate m cd0), ∃ e s, r = ⟨e, s, .slice none 0 0, 0, []⟩ := by
 intro r hr
 obtain ⟨l, hl, hrl⟩ := List.mem_flatten.1 hr
 obtain ⟨c, hc, rfl⟩ := List.mem_map.1 hl
 rw [(List.mem_replicate.1 hc).2] at hrl
 simp only [List.mem_cons, List.not_mem_nil, or_false] at hrl
 rcases hrl with rfl | rfl | rfl
 · exact ⟨_, _, rfl⟩
 · exact ⟨_, _, rfl⟩
 · exact ⟨_, _, rfl⟩
theorem OwnRs.nils {w : World} {base : Nat} {rs : List RowD} (h : OwnRs w base rs) (m : Nat) : OwnRs w base (rs ++ colRows (List.replicate m cd0)) := by
 refine ⟨fun r hr => ?_, List.pairwise_append.2 ⟨h.2, ?_, fun a ha b hb => ?_⟩⟩
 · rcases List.mem_append.1 hr with hr | hr
   · exact h.1 r hr
   · obtain ⟨e, s, rfl⟩ := colRows_nil m r hr
     exact World.ownsRow_nil _ _ _ _
 · refine List.Pairwise.imp_of_mem (R := fun _ _ => True) (fun {a b} ha _ _ => ?_) (List.pairwise_of_forall (fun _ _ => trivial))
   obtain ⟨e, s, rfl⟩ := colRows_nil m a ha
   exact .inl rfl
 · obtain ⟨e, s, rfl⟩ := colRows_nil m b hb
   exact apart_nil _
theorem five_frz {w : World} {g T : Nat} {a b c d e : Value} (h : w.heap[g]? = some (.cells #[a, b, c, d, e] T)) (j : Nat) : w.frozen? ⟨g, j, none⟩ = false := by simp [World.frozen?, h]
structure BeSt (F : List Fd) (n : Nat) (aoS : Option Addr) (capS : Nat) (aoP : Option Addr) (capP g iL iR q : Nat) (w y : World) (aoL : Option Addr) (capL : Nat) (aoR : Option Addr) (capR : Nat) (RR : List Nat) (aoC : Option Addr) (capC : Nat) : Prop where
 blk : y.heap[g]? = some (.cells #[.slice aoS n capS, .slice aoP n capP, .slice aoL iL capL, .slice aoR iR capR, .slice aoC q capC] 93)
 rows : OwnRs y (g + 1) [⟨3, 1, .slice aoL iL capL, iL, i64v (leafL F iL)⟩, ⟨3, 1, .slice aoR iR capR, iR, natv RR⟩, ⟨33, 3, .slice aoC q capC, q, wcs cdV (List.replicate q cd0)⟩]
 lR : RR.length = iR
 bR : ∀ x ∈ RR, x ≤ 100
 b : Below w.heap.size w y
 gw : w.heap.size ≤ g
section
variable {F : List Fd} {n : Nat} {aoS : Option Addr} {capS : Nat} {aoP : Option Addr} {capP g iL iR q : Nat} {w y : World} {aoL : Option Addr} {capL : Nat} {aoR : Option Addr} {capR : Nat} {RR : List Nat} {aoC : Option Addr} {capC : Nat}
theorem BeSt.lt (h : BeSt F n aoS capS aoP capP g iL iR q w y aoL capL aoR capR RR aoC capC) : g < y.heap.size := (Array.getElem?_eq_some_iff.1 h.blk).1
theorem BeSt.keep {y' : World} (h : BeSt F n aoS capS aoP capP g iL iR q w y aoL capL aoR capR RR aoC capC) (hb : Below y.heap.size y y') : BeSt F n aoS capS aoP capP g iL iR q w y' aoL capL aoR capR RR aoC capC :=
 ⟨(hb.block g h.lt).trans h.blk, h.rows.below hb, h.lR, h.bR, bmore h.b hb, h.gw⟩
theorem BeSt.oL (h : BeSt F n aoS capS aoP capP g iL iR q w y aoL capL aoR capR RR aoC capC) : y.ownsRow (g + 1) 3 1 (.slice aoL iL capL) iL (i64v (leafL F iL)) := h.rows.1 ⟨3, 1, .slice aoL iL capL, iL, i64v (leafL F iL)⟩ (by simp)
theorem BeSt.oR (h : BeSt F n aoS capS aoP capP g iL iR q w y aoL capL aoR capR RR aoC capC) : y.ownsRow (g + 1) 3 1 (.slice aoR iR capR) iR (natv RR) := h.rows.1 ⟨3, 1, .slice aoR iR capR, iR, natv RR⟩ (by simp)
theorem BeSt.oC (h : BeSt F n aoS capS aoP capP g iL iR q w y aoL capL aoR capR RR aoC capC) : y.ownsRow (g + 1) 33 3 (.slice aoC q capC) q (wcs cdV (List.replicate q cd0)) := h.rows.1 ⟨33, 3, .slice aoC q capC, q, wcs cdV (List.replicate q cd0)⟩ (by simp)
theorem BeSt.low {y' : World} {row : Option Nat} {e : TypeId} {s k : Nat} {v : Value} {xs : List Value} (h : BeSt F n aoS capS aoP capP g iL iR q w y aoL capL aoR capR RR aoC capC) (ho : y.ownsRow (g + 1) e s v k xs) (hg : y.grownBy y' v.ownBlock) :
 y'.heap[g]? = y.heap[g]? ∧ Below w.heap.size w y' :=
 ⟨hg.block g h.lt (fun e => by have := (ho.lt g e.symm).1; omega), h.b.grown hg h.b.size (fun k hk => by have := (ho.lt k hk).1; have := h.gw; omega)⟩
theorem BeSt.appL {y' : World} {v' : Value} {a' : Option Addr} {c' : Nat} (h : BeSt F n aoS capS aoP capP g iL iR q w y aoL capL aoR capR RR aoC capC) (ho : y'.ownsRow (g + 1) 3 1 (.slice a' (iL + 1) c') (iL + 1) (i64v (leafL F (iL + 1)))) (hg : y.grownBy y' (Value.slice aoL iL capL).ownBlock) (hs : SameOrNew y (.slice aoL iL capL) (.slice a' (iL + 1) c')) :
 BeSt F n aoS capS aoP capP g (iL + 1) iR q w (y'.setCell ⟨g, 2, none⟩ (.slice a' (iL + 1) c')) a' c' aoR capR RR aoC capC := by
 obtain ⟨h1, h2⟩ := h.low (row := none) h.oL hg
 have hb := h1.trans h.blk
 have hr := OwnRs.put (A := []) h.rows ⟨3, 1, .slice a' (iL + 1) c', iL + 1, i64v (leafL F (iL + 1))⟩ hg ho hs
 exact ⟨by simp only [World.setCell, Array.getElem?_modify, hb]; simp, hr.keptBy (setCell_grown y' g 2 _) (Nat.lt_succ_self g), h.lR, h.bR, h2.setCell (p := ⟨g, 2, none⟩) h.gw _, h.gw⟩
theorem BeSt.appR {y' : World} {v' : Value} {a' : Option Addr} {c' r : Nat} (h : BeSt F n aoS capS aoP capP g iL iR q w y aoL capL aoR capR RR aoC capC) (ho : y'.ownsRow (g + 1) 3 1 (.slice a' (iR + 1) c') (iR + 1) (natv (RR ++ [r]))) (hg : y.grownBy y' (Value.slice aoR iR capR).ownBlock) (hs : SameOrNew y (.slice aoR iR capR) (.slice a' (iR + 1) c')) (hr : r ≤ 100) :
 BeSt F n aoS capS aoP capP g iL (iR + 1) q w (y'.setCell ⟨g, 3, none⟩ (.slice a' (iR + 1) c')) aoL capL a' c' (RR ++ [r]) aoC capC := by
 obtain ⟨h1, h2⟩ := h.low (row := none) h.oR hg
 have hb := h1.trans h.blk
 have hrr := OwnRs.put (A := [⟨3, 1, .slice aoL iL capL, iL, i64v (leafL F iL)⟩]) h.rows ⟨3, 1, .slice a' (iR + 1) c', iR + 1, natv (RR ++ [r])⟩ hg ho hs
 exact ⟨by simp only [World.setCell, Array.getElem?_modify, hb]; simp, hrr.keptBy (setCell_grown y' g 3 _) (Nat.lt_succ_self g), by simp [h.lR], fun x hx => by
  rcases List.mem_append.1 hx with hx | hx
  · exact h.bR x hx
  · rw [List.mem_singleton.1 hx]; exact hr, h2.setCell (p := ⟨g, 3, none⟩) h.gw _, h.gw⟩
theorem BeSt.appC {y' : World} {v' : Value} {a' : Option Addr} {c' : Nat} (h : BeSt F n aoS capS aoP capP g iL iR q w y aoL capL aoR capR RR aoC capC) (ho : y'.ownsRow (g + 1) 33 3 (.slice a' (q + 1) c') (q + 1) (wcs cdV (List.replicate (q + 1) cd0))) (hg : y.grownBy y' (Value.slice aoC q capC).ownBlock) (hs : SameOrNew y (.slice aoC q capC) (.slice a' (q + 1) c')) :
 BeSt F n aoS capS aoP capP g iL iR (q + 1) w (y'.setCell ⟨g, 4, none⟩ (.slice a' (q + 1) c')) aoL capL aoR capR RR a' c' := by
 obtain ⟨h1, h2⟩ := h.low (row := none) h.oC hg
 have hb := h1.trans h.blk
 have hrr := OwnRs.put (A := [⟨3, 1, .slice aoL iL capL, iL, i64v (leafL F iL)⟩, ⟨3, 1, .slice aoR iR capR, iR, natv RR⟩]) h.rows ⟨33, 3, .slice a' (q + 1) c', q + 1, wcs cdV (List.replicate (q + 1) cd0)⟩ hg ho hs
 exact ⟨by simp only [World.setCell, Array.getElem?_modify, hb]; simp, hrr.keptBy (setCell_grown y' g 4 _) (Nat.lt_succ_self g), h.lR, h.bR, h2.setCell (p := ⟨g, 4, none⟩) h.gw _, h.gw⟩
end
theorem cellsBack {x y : World} {g n : Nat} {ao : Option Addr} {f : Nat → Value} (hb : Below g x y) (hg : g = x.heap.size) (hc : CellsAt x x.heap.size ao n f) : CellsAt y g ao n f := by
 subst hg
 exact hc.below hb
def GaveBe (F : List Fd) (P dep : Nat → Nat) (anc : Nat → Nat → Nat) (n : Nat) (w : World) (e : Ending) (w' : World) : Prop :=
 ∃ (C : WkC) (g : Nat), e = .returned (.pointer (some ⟨g, 0, none⟩)) ∧ C.F = F ∧ C.P = P ∧ C.n = n ∧ Hid (WkOk C dep anc) ∧ Hid (Wk C w' g (List.replicate C.m cd0)) ∧ w.heap.size ≤ g ∧ Hid (Below w.heap.size w w')
set_option maxHeartbeats 8000000 in
set_option maxRecDepth 100000 in
theorem begin14_any (F : List Fd) (P dep : Nat → Nat) (anc : Nat → Nat → Nat) (hS : FinS F P dep anc) (aoS : Option Addr) (n capS : Nat) (w : World) (hl : F.length = n) (hc : CellsAt w w.heap.size aoS (n * 4) (wc fdV F)) :
 Calls Tryz.prog 39 #[.slice aoS n capS] w (GaveBe F P dep anc n w) := by
 have HPa := Lib.hid (parents5_any F P dep anc hS aoS n capS w hl hc)
 have Hl := Lib.hid hl; have HS := Lib.hid hS; have Hc := Lib.hid hc
 have hn14 : n ≤ 14 := by rw [← hl]; exact hS.small
 clear hl hS hc
 go_enter Tryz.func39, Tryz.ntmps39
 go_wp2_with fail
 refine HPa.out.mono ?_
 rintro e x0 ⟨aoP, capP, rfl, hcP, -, hb0⟩
 have HcP := Lib.hid hcP; have Hb0 := Lib.hid hb0
 have Hc1 := Lib.hid (Hc.out.at hb0)
 clear hcP hb0
 go_upto_region 2 with fail
 obtain ⟨g, hg⟩ : ∃ g, g = x0.heap.size := ⟨_, rfl⟩
 obtain ⟨y0, hy0⟩ : ∃ y, y = x0.alloc (.cells #[.slice aoS n capS, .slice aoP n capP, .slice none 0 0, .slice none 0 0, .slice none 0 0] 93) := ⟨_, rfl⟩
 have hby : Below x0.heap.size x0 y0 := by rw [hy0]; exact balloc (Below.refl _ _) _
 have hS0 : BeSt F n aoS capS aoP capP g 0 0 0 w y0 none 0 none 0 [] none 0 :=
  ⟨by rw [hg, hy0]; exact heap_alloc_new x0 _, ⟨fun r hr => by
   simp only [List.mem_cons, List.not_mem_nil, or_false] at hr
   rcases hr with rfl | rfl | rfl <;> exact World.ownsRow_nil _ _ _ _, by simp [Apart, Value.ownBlock]⟩, rfl, fun x h => absurd h List.not_mem_nil, Hb0.out.trans (hby.mono Hb0.out.size), by rw [hg]; exact Hb0.out.size⟩
 rw [← hy0, ← hg]
 have Hg := Lib.hid hg; have HS0 := Lib.hid hS0; have Hby := Lib.hid hby
 clear hy0 hg hS0 hby
 go_wp2
 go_loopw [4, 5] (fun nv iv y => ∃ (i : Nat) (aoL : Option Addr) (capL : Nat) (aoR : Option Addr) (capR : Nat) (RR : List Nat) (aoC : Option Addr) (capC : Nat), i ≤ n ∧ nv = .int .i64 (nLf F i : Nat) ∧ iv = .int .i64 (i : Nat) ∧
  Hid (BeSt F n aoS capS aoP capP g i i (nLf F i) w y aoL capL aoR capR RR aoC capC) ∧ Hid (Below g x0 y)) (fun _ iv _ => n - (intOf iv).toNat)
 case atStart => exact ⟨0, none, 0, none, 0, [], none, 0, Nat.zero_le _, rfl, rfl, HS0, by rw [Hg.out]; exact Hby⟩
 case round =>
  clear HS0 Hby
  obtain ⟨i, aoL, capL, aoR, capR, RR, aoC, capC, hi, rfl, rfl, HB, HBx⟩ := hrel
  obtain ⟨y, hyy⟩ : ∃ y, y = wr := ⟨_, rfl⟩
  subst hyy
  obtain ⟨nl, hnl⟩ : ∃ nl, nl = nLf F i := ⟨_, rfl⟩
  have hnl14 : nl ≤ 14 := by have := nLf_le F i; omega
  rw [← hnl] at HB ⊢
  have Hnl := Lib.hid hnl
  clear hnl
  by_cases hin : i < n
  · have e1 : (i : Int) < (n : Int) := by omega
    have f2 : (0 : Int) ≤ (i : Int) := by omega
    have hiF : i < F.length := by rw [Hl.out]; exact hin
    have hd5 : dep i ≤ 5 := HS.out.deep i hiF
    obtain ⟨k0, k1, k2, k3, k4⟩ := five_cells HB.out.blk
    go_upto_block 2 with fail
    go_cut [6] (fun rv wy => ∃ r : Nat, r ≤ 6 ∧ rv = .int .i64 (r : Nat) ∧ wy = y)
    case first =>
     go_wp2
     go_loopw [6, 7] (fun rv kv wy => ∃ t r : Nat, t ≤ dep i + 1 ∧ r + t ≤ dep i + 1 ∧ rv = .int .i64 (r : Nat) ∧ kv = .int .i64 (if t = 0 then -1 else (anc i (t - 1) : Int)) ∧ wy = y) (fun _ kv _ => (intOf kv + 1).toNat)
     case atStart => exact ⟨dep i + 1, 0, Nat.le_refl _, by omega, rfl, by rw [if_neg (Nat.succ_ne_zero _), Nat.add_sub_cancel, HS.out.self i hiF], rfl⟩
     case round =>
      obtain ⟨t, r, ht, hr, rfl, rfl, hwy⟩ := hrel
      have hyw := hwy.symm
      subst hyw
      clear hwy
      by_cases ht0 : t = 0
      · subst ht0
        rw [if_pos rfl]
        go_wp2
        go_meet
        exact ⟨r, by omega, rfl, rfl⟩
      · obtain ⟨u, rfl⟩ : ∃ u, t = u + 1 := ⟨t - 1, by omega⟩
        obtain ⟨q, hq⟩ : ∃ q, q = anc i u := ⟨_, rfl⟩
        obtain ⟨a1, a2, -⟩ := HS.out.toSch.anc_facts (i + 1) i (by omega) hiF u (by omega)
        rw [← hq] at a1 a2
        have hqn : q < n := by omega
        rw [if_neg (Nat.succ_ne_zero _), Nat.add_sub_cancel, ← hq]
        obtain ⟨b, off, rfl, hb, -, j1, -, -⟩ := Hc1.out.fd Hl.out hqn
        have j1 := (HBx.out.cell (by exact (show b < g by rw [Hg.out]; exact hb))).trans j1
        obtain ⟨rp, hrp⟩ : ∃ rp, rp = (fAt F q).rep := ⟨_, rfl⟩
        have hrp2 : rp ≤ 2 := by rw [hrp]; exact (HS.out.kinds q (by rw [Hl.out]; exact hqn)).2
        rw [← hrp] at j1
        obtain ⟨bp, op, rfl, hbp, jp⟩ := HcP.out q hqn
        have jp := (HBx.out.cell (by exact (show bp < g by rw [Hg.out]; exact hbp))).trans jp
        obtain ⟨kn, hkn⟩ : ∃ kn : Int, kn = if u = 0 then -1 else (anc i (u - 1) : Int) := ⟨_, rfl⟩
        have hkq : (parL P n).getD q 0 = kn := by
         rw [parL_at _ _ _ hqn, hkn]
         by_cases hu : u = 0
         · subst hu
           rw [if_pos rfl, if_pos (HS.out.toSch.dep_zero q (by rw [Hl.out]; exact hqn) a2)]
         · obtain ⟨u', rfl⟩ : ∃ u', u = u' + 1 := ⟨u - 1, by omega⟩
           obtain ⟨z1, z2⟩ := HS.out.toSch.anc_up i u' hiF (by omega)
           rw [← hq] at z1 z2
           rw [if_neg (by omega), if_neg (by omega), z2, Nat.add_sub_cancel]
        rw [i64c, hkq] at jp
        have hknb : -1 ≤ kn ∧ kn < (q : Int) := by
         rw [hkn]
         split
         · omega
         · rename_i hu
           obtain ⟨u', rfl⟩ : ∃ u', u = u' + 1 := ⟨u - 1, by omega⟩
           obtain ⟨z1, z2⟩ := HS.out.toSch.anc_up i u' hiF (by omega)
           rw [← hq] at z1 z2
           have := (HS.out.par q z1 (by rw [Hl.out]; exact hqn)).1
           rw [Nat.add_sub_cancel, ← z2]; omega
        have f5 : (0 : Int) ≤ (q : Int) := by omega
        have f6 : (q : Int) < (n : Int) := by omega
        have Hkn := Lib.hid hkn; have Hknb := Lib.hid hknb
        clear hkn hkq hq hrp a1 a2 hknb ht0 k0 k2 k3 k4
        by_cases hr2 : rp = 2
        · subst hr2
          go_wp2
          go_roundw
          case rel => exact ⟨u, r + 1, by omega, by omega, by go_num, by rw [Hkn.out], trivial⟩
          case measure => have := Hknb.out; simp [intOf]; omega
        · have f7 : ((rp : Int) == 2) = false := by rw [beq_eq_false_iff_ne]; omega
          have f8 : ¬ (rp : Int) = 2 := by omega
          clear hr2
          go_wp2
          go_roundw
          case rel => exact ⟨u, r, by omega, by omega, rfl, by rw [Hkn.out], trivial⟩
          case measure => have := Hknb.out; simp [intOf]; omega
    case rest =>
     obtain ⟨r, hr6, rfl, hwy⟩ := hcut
     have hyw := hwy.symm
     subst hyw
     clear hwy k0 k1 k2 k4
     obtain ⟨b, off, rfl, hb, -, -, j2, -⟩ := Hc1.out.fd Hl.out hin
     have j2 := (HBx.out.cell (by exact (show b < g by rw [Hg.out]; exact hb))).trans j2
     obtain ⟨kd, hkd⟩ : ∃ kd, kd = (fAt F i).kind := ⟨_, rfl⟩
     rw [← hkd] at j2
     have hkd4 : kd ≤ 4 := by rw [hkd]; exact (HS.out.kinds i hiF).1
     have hnx : Hid (nLf F (i + 1) = nl + if kd = 0 then 0 else 1) := Lib.hid (by rw [Hnl.out, hkd]; rfl)
     have hlx : Hid (leafL F (i + 1) = leafL F i ++ [if kd = 0 then -1 else (nl : Int)]) := Lib.hid (by rw [leafL_succ, leafN, ← hkd, Hnl.out])
     clear hkd
     have hgw := HB.out.gw
     have hgy := HB.out.lt
     obtain ⟨ya, hya⟩ : ∃ z, z = y.alloc (.cells #[.int .i64 (r : Nat)] 3) := ⟨_, rfl⟩
     have hba : Below y.heap.size y ya := by rw [hya]; exact balloc (Below.refl _ _) _
     have hcr := cells_one y 3 (.int .i64 (r : Nat))
     rw [← hya] at hcr
     have hA := HB.out.keep hba
     have hbx1 : Below g x0 ya := HBx.out.trans (hba.mono (Nat.le_of_lt hgy))
     have hgya : g + 1 ≤ ya.heap.size := Nat.le_trans hgy hba.size
     go_wp2_with (at_builtin; rw [← hya]; refine wpList_append_apart sl_i64' rfl (.tmp 41) (.tmp 43) rfl rfl hA.oR rfl hcr (fun h => by cases h) (fun _ _ => rfl) (by unfold maxLen; omega) (by omega) hgya ?_)
     intro v1 y1 ho1 hg1 hs1
     rw [← hya] at hg1 hs1
     have ho1 : y1.ownsRow (g + 1) 3 1 v1 (i + 1) (natv (RR ++ [r])) := by rw [natv_append]; exact ho1
     obtain ⟨gR, cR, rfl, -, -⟩ := own_shapeG (Nat.succ_pos _) ho1
     have hblk1 := (hA.low (row := none) hA.oR hg1).1.trans hA.blk
     obtain ⟨-, -, -, p3, -⟩ := five_cells hblk1
     have pf3 := five_frz hblk1 3
     have HB1 := Lib.hid (hA.appR (v' := .slice (some ⟨gR, 0, none⟩) (i + 1) cR) ho1 hg1 hs1 (by omega))
     have hbx2 : Below g x0 (y1.setCell ⟨g, 3, none⟩ (.slice (some ⟨gR, 0, none⟩) (i + 1) cR)) := (hbx1.grown hg1 (Nat.le_of_lt hgya) (fun k hk => by have := (hA.oR.lt k hk).1; omega)).setCell (p := ⟨g, 3, none⟩) (Nat.le_refl g) _
     obtain ⟨z, hz⟩ : ∃ z, z = y1.setCell ⟨g, 3, none⟩ (.slice (some ⟨gR, 0, none⟩) (i + 1) cR) := ⟨_, rfl⟩
     have Hz := Lib.hid hz
     rw [← hz] at HB1 hbx2
     have HBx1 := Lib.hid hbx2
     have hgz := HB1.out.lt
     have j2z := (hbx2.cell (by exact (show b < g by rw [Hg.out]; exact hb))).trans (show x0.cell? ⟨b, off + i * 4 + 2, none⟩ = some (.int .i64 (kd : Nat)) by rw [← j2]; exact (HBx.out.cell (by exact (show b < g by rw [Hg.out]; exact hb))).symm)
     clear ho1 hg1 hs1 hA hblk1 hcr hba hya hbx1 hbx2 HB HBx j2 hz
     go_upto_region 13 with fail
     rw [← Hz.out]
     clear p3 pf3 k3 Hz
     obtain ⟨-, -, p2, -, p4⟩ := five_cells HB1.out.blk
     by_cases hk0 : kd = 0
     · subst hk0
       have hnx1 : Hid (nLf F (i + 1) = nl) := Lib.hid (by rw [hnx.out, if_pos rfl]; rfl)
       have hlx0 : Hid (leafL F (i + 1) = leafL F i ++ [-1]) := Lib.hid (by rw [hlx.out]; simp)
       obtain ⟨za, hza⟩ : ∃ q, q = z.alloc (.cells #[.int .i64 (-1)] 3) := ⟨_, rfl⟩
       have hba : Below z.heap.size z za := by rw [hza]; exact balloc (Below.refl _ _) _
       have hcr := cells_one z 3 (.int .i64 (-1))
       rw [← hza] at hcr
       have hA := HB1.out.keep hba
       have hbx1 : Below g x0 za := HBx1.out.trans (hba.mono (Nat.le_of_lt hgz))
       have hgya : g + 1 ≤ za.heap.size := Nat.le_trans hgz hba.size
       go_wp2_with (at_builtin; rw [← hza]; refine wpList_append_apart sl_i64' rfl (.tmp 57) (.tmp 58) rfl rfl hA.oL rfl hcr (fun h => by cases h) (fun _ _ => rfl) (by unfold maxLen; omega) (by omega) hgya ?_)
       intro v2 y2 ho2 hg2 hs2
       rw [← hza] at hg2 hs2
       have ho2 : y2.ownsRow (g + 1) 3 1 v2 (i + 1) (i64v (leafL F (i + 1))) := by rw [hlx0.out, ← i64v_append]; exact ho2
       obtain ⟨gL, cL, rfl, -, -⟩ := own_shapeG (Nat.succ_pos _) ho2
       have hblk1 := (hA.low (row := none) hA.oL hg2).1.trans hA.blk
       obtain ⟨-, -, p3, -, -⟩ := five_cells hblk1
       have pf3 := five_frz hblk1 2
       have HB2 := Lib.hid (hA.appL (v' := .slice (some ⟨gL, 0, none⟩) (i + 1) cL) ho2 hg2 hs2)
       have HBx2 := Lib.hid ((hbx1.grown hg2 (Nat.le_of_lt hgya) (fun k hk => by have := (hA.oL.lt k hk).1; omega)).setCell (p := ⟨g, 2, none⟩) (Nat.le_refl g) (.slice (some ⟨gL, 0, none⟩) (i + 1) cL))
       clear ho2 hg2 hs2 hA hblk1 hcr hba hza hbx1 HB1 HBx1 p2 p4 j2z
       go_wp2
       go_roundw
       case rel => exact ⟨i + 1, _, _, _, _, _, _, _, by omega, by rw [hnx1.out], by go_num, by rw [hnx1.out]; exact HB2, HBx2⟩
       case measure => simp [intOf]; omega
     · have f3 : ((kd : Int) == 0) = false := by rw [beq_eq_false_iff_ne]; omega
       have f4 : ¬ (kd : Int) = 0 := by omega
       have hnx1 : Hid (nLf F (i + 1) = nl + 1) := Lib.hid (by rw [hnx.out, if_neg hk0])
       have hlx1 : Hid (leafL F (i + 1) = leafL F i ++ [(nl : Int)]) := Lib.hid (by rw [hlx.out, if_neg hk0])
       obtain ⟨za, hza⟩ : ∃ q, q = z.alloc (.cells #[.int .i64 (nl : Nat)] 3) := ⟨_, rfl⟩
       have hba : Below z.heap.size z za := by rw [hza]; exact balloc (Below.refl _ _) _
       have hcr := cells_one z 3 (.int .i64 (nl : Nat))
       rw [← hza] at hcr
       have hA := HB1.out.keep hba
       have hbx1 : Below g x0 za := HBx1.out.trans (hba.mono (Nat.le_of_lt hgz))
       have hgya : g + 1 ≤ za.heap.size := Nat.le_trans hgz hba.size
       clear hk0
       go_wp2_with (at_builtin; rw [← hza]; refine wpList_append_apart sl_i64' rfl (.tmp 66) (.tmp 68) rfl rfl hA.oL rfl hcr (fun h => by cases h) (fun _ _ => rfl) (by unfold maxLen; omega) (by omega) hgya ?_)
       intro v2 y2 ho2 hg2 hs2
       rw [← hza] at hg2 hs2
       have ho2 : y2.ownsRow (g + 1) 3 1 v2 (i + 1) (i64v (leafL F (i + 1))) := by rw [hlx1.out, ← i64v_append]; exact ho2
       obtain ⟨gL, cL, rfl, -, -⟩ := own_shapeG (Nat.succ_pos _) ho2
       have hblk1 := (hA.low (row := none) hA.oL hg2).1.trans hA.blk
       obtain ⟨-, -, p3, -, -⟩ := five_cells hblk1
       have pf3 := five_frz hblk1 2
       have hB2 := hA.appL (v' := .slice (some ⟨gL, 0, none⟩) (i + 1) cL) ho2 hg2 hs2
       have hbx2 := (hbx1.grown hg2 (Nat.le_of_lt hgya) (fun k hk => by have := (hA.oL.lt k hk).1; omega)).setCell (p := ⟨g, 2, none⟩) (Nat.le_refl g) (.slice (some ⟨gL, 0, none⟩) (i + 1) cL)
       obtain ⟨z2, hz2⟩ : ∃ q, q = y2.setCell ⟨g, 2, none⟩ (.slice (some ⟨gL, 0, none⟩) (i + 1) cL) := ⟨_, rfl⟩
       rw [← hz2] at hB2 hbx2
       have Hz2 := Lib.hid hz2; have HB2 := Lib.hid hB2; have HBx2 := Lib.hid hbx2
       have hgz2 := hB2.lt
       clear ho2 hg2 hs2 hA hblk1 hcr hba hza hbx1 HB1 HBx1 p2 p4 j2z hz2 hB2 hbx2
       go_upto_region 16 with fail
       rw [← Hz2.out]
       clear p3 pf3 Hz2
       obtain ⟨-, -, -, -, p4⟩ := five_cells HB2.out.blk
       obtain ⟨zb, hzb⟩ : ∃ q, q = z2.alloc (.cells #[.slice none 0 0, .slice none 0 0, .slice none 0 0] 33) := ⟨_, rfl⟩
       have hba : Below z2.heap.size z2 zb := by rw [hzb]; exact balloc (Below.refl _ _) _
       have hcr := cells_lit z2 33 cdV 3 cdV_length cd0 #[.slice none 0 0, .slice none 0 0, .slice none 0 0] rfl
       rw [← hzb] at hcr
       have hA := HB2.out.keep hba
       have hbx1 : Below g x0 zb := HBx2.out.trans (hba.mono (Nat.le_of_lt hgz2))
       have hgya : g + 1 ≤ zb.heap.size := Nat.le_trans hgz2 hba.size
       go_wp2_with (at_builtin; rw [← hzb]; refine wpList_append_apart sl_co rfl (.tmp 76) (.tmp 78) rfl rfl hA.oC rfl hcr (fun h => by cases h) (wc_one cdV [cd0] 3 1 cdV_length rfl (fun x _ v hv => cdV_one x v hv)) (by unfold maxLen; omega) (by omega) hgya ?_)
       intro v3 y3 ho3 hg3 hs3
       rw [← hzb] at hg3 hs3
       have ho3 : y3.ownsRow (g + 1) 33 3 v3 (nl + 1) (wcs cdV (List.replicate (nl + 1) cd0)) := by
        rw [List.replicate_succ', ← wcs_snoc cdV 3 cdV_length]; exact ho3
       obtain ⟨gC, cC, rfl, -, -⟩ := own_shapeG (Nat.succ_pos _) ho3
       have hblk1 := (hA.low (row := none) hA.oC hg3).1.trans hA.blk
       obtain ⟨-, -, -, -, p3⟩ := five_cells hblk1
       have pf3 := five_frz hblk1 4
       have HB3 := Lib.hid (hA.appC (v' := .slice (some ⟨gC, 0, none⟩) (nl + 1) cC) ho3 hg3 hs3)
       have HBx3 := Lib.hid ((hbx1.grown hg3 (Nat.le_of_lt hgya) (fun k hk => by have := (hA.oC.lt k hk).1; omega)).setCell (p := ⟨g, 4, none⟩) (Nat.le_refl g) (.slice (some ⟨gC, 0, none⟩) (nl + 1) cC))
       clear ho3 hg3 hs3 hA hblk1 hcr hba hzb hbx1 HB2 HBx2 p4
       go_wp2
       go_roundw
       case rel => exact ⟨i + 1, _, _, _, _, _, _, _, by omega, by rw [hnx1.out]; go_num, by go_num, by rw [hnx1.out]; exact HB3, HBx3⟩
       case measure => simp [intOf]; omega
  · obtain rfl : i = n := by omega
    have e1 : ¬ (i : Int) < (i : Int) := by omega
    have HW : Hid (Wk ⟨F, P, i, aoS, capS, aoP, capP, aoL, capL, aoR, capR, RR, aoC, capC, nl⟩ y g (List.replicate nl cd0)) := Lib.hid
     ⟨HB.out.blk, by
      have h := (Hc1.out).at (show Below x0.heap.size x0 y by rw [← Hg.out]; exact HBx.out)
      exact cellsBack HBx.out Hg.out Hc1.out, cellsBack HBx.out Hg.out HcP.out, HB.out.rows.nils nl, fun c hc => by rw [(List.mem_replicate.1 hc).2]; exact okCd0, by simp⟩
    have HO : Hid (WkOk ⟨F, P, i, aoS, capS, aoP, capP, aoL, capL, aoR, capR, RR, aoC, capC, nl⟩ dep anc) := Lib.hid ⟨HS.out, Hl.out, Hnl.out, HB.out.lR, HB.out.bR⟩
    have HBw := Lib.hid HB.out.b
    have hgw := HB.out.gw
    clear HB HBx
    go_wp2
    go_ret
    exact ⟨_, g, rfl, rfl, rfl, rfl, HO, HW, hgw, HBw⟩
end Go.Proofs.YtebmbkbnngeabaaGreat
