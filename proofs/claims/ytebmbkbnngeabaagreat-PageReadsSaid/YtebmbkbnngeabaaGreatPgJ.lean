/- Chapter 18: the walk over page.fits. -/
import Derived.Test.YtebmbkbnngeabaaGreatPgI
set_option linter.unusedSimpArgs false
namespace Go.Proofs.YtebmbkbnngeabaaGreat
open Go.RowKit
set_option linter.unusedVariables false
theorem signP_blank (enc : Int) : signP enc = 32 ↔ ¬ (0 ≤ enc ∧ enc ≤ 2) := by
 unfold signP
 constructor
 · intro h
   split at h
   · simp at h
   · split at h
     · simp at h
     · split at h
       · simp at h
       · omega
 · intro h
   rw [if_neg (by omega), if_neg (by omega), if_neg (by omega)]
def szOf (p : Pg) (n : Nat) : Nat → Int
 | 0 => n
 | 1 => n - p.rl
 | 2 => n - p.rl - p.dl
 | _ => n - p.rl - p.dl - p.vl
def xOf (p : Pg) : Nat → Int
 | 0 => p.rl
 | 1 => p.dl
 | _ => p.vl
set_option maxHeartbeats 4000000 in
set_option maxRecDepth 100000 in
theorem pfits_any (p : Pg) (n : Nat) (w : World) (hp : OkPg p) (hn : n ≤ 1000000) : Calls Tryz.prog 23 #[pgV p, .int .i64 (n : Nat)] w (SaysB (decide (pgOk p n)) w) := by
 obtain ⟨rows, cells, enc, rl, dl, vl, crc⟩ := p
 obtain ⟨hrows, hcells, henc, hrl, hdl, hvl, -⟩ := hp
 simp only [in64] at hrows hcells henc hrl hdl hvl
 obtain ⟨w1, hw1⟩ : ∃ x, x = w.alloc (.cells #[.int .i64 rows, .int .i64 cells, .int .i64 enc, .int .i64 rl, .int .i64 dl, .int .i64 vl, .int .u32 (crc : Nat)] 27) := ⟨_, rfl⟩
 have hb1 : Below w.heap.size w w1 := by rw [hw1]; exact balloc (Below.refl _ _) _
 have hblk : w1.heap[w.heap.size]? = some (.cells #[.int .i64 rows, .int .i64 cells, .int .i64 enc, .int .i64 rl, .int .i64 dl, .int .i64 vl, .int .u32 (crc : Nat)] 27) := by rw [hw1]; exact heap_alloc_new w _
 obtain ⟨c0, c1, c2, c3, c4, c5, -⟩ := seven_cells hblk
 have HB := Lib.hid hb1
 have Hsg := Lib.hid (psign_any enc w1)
 have Hbl := Lib.hid (signP_blank enc)
 clear hb1 hblk
 unfold pgV
 simp only
 by_cases h1 : 1 ≤ rows
 · by_cases h2 : rows ≤ 64
   · by_cases h3 : rows ≤ cells
     · by_cases h4 : cells ≤ 4000
       · by_cases h5 : 0 ≤ enc ∧ enc ≤ 2
         · obtain ⟨sg, hsg⟩ : ∃ sg, sg = signP enc := ⟨_, rfl⟩
           have f5 : ¬ sg = 32 := by rw [hsg]; exact fun h => (Hbl.out.1 h) h5
           have f6 : (sg == 32) = false := by rw [beq_eq_false_iff_ne]; exact f5
           rw [← hsg] at Hsg
           have H5 := Lib.hid h5
           clear hsg h5
           have Hne : Hid (∀ q : Prop, (q → partsOk ⟨rows, cells, enc, rl, dl, vl, crc⟩ n → False) → q → decide (pgOk ⟨rows, cells, enc, rl, dl, vl, crc⟩ n) = false) := Lib.hid (fun q hq hq2 => decide_eq_false fun h => hq hq2 h.2.2.2.2.2.2)
           go_enter Tryz.func23, Tryz.ntmps23
           go_upto_region 1 with fail
           rw [← hw1]
           clear hw1
           go_wp2_with fail
           refine Hsg.out.mono ?_
           rintro e x ⟨rfl, rfl⟩
           obtain ⟨gl, hgl⟩ : ∃ gl, gl = w1.heap.size := ⟨_, rfl⟩
           have Hgl := Lib.hid hgl
           clear hgl
           have HD : Hid (∀ b : Bool, (b = true ↔ partsOk ⟨rows, cells, enc, rl, dl, vl, crc⟩ n) → decide (pgOk ⟨rows, cells, enc, rl, dl, vl, crc⟩ n) = b) := Lib.hid (fun b hb => by
            cases b with
            | true => exact decide_eq_true ⟨h1, h2, h3, h4, H5.out.1, H5.out.2, hb.1 rfl⟩
            | false => exact decide_eq_false fun h => by have := hb.2 h.2.2.2.2.2.2; cases this)
           go_wp2
           obtain ⟨y, hy⟩ : ∃ y, y = w1.alloc (.cells #[.int .i64 rl, .int .i64 dl, .int .i64 vl] 3) := ⟨_, rfl⟩
           have hyb : y.heap[w1.heap.size]? = some (.cells #[.int .i64 rl, .int .i64 dl, .int .i64 vl] 3) := by rw [hy]; exact heap_alloc_new w1 _
           have Hcl : Hid (∀ k, k < 3 → y.cell? ⟨w1.heap.size, k, none⟩ = some (.int .i64 (xOf ⟨rows, cells, enc, rl, dl, vl, crc⟩ k))) := Lib.hid (fun k hk => by
            match k, hk with
            | 0, _ => simp [World.cell?, hyb, xOf]
            | 1, _ => simp [World.cell?, hyb, xOf]
            | 2, _ => simp [World.cell?, hyb, xOf])
           have HBy : Hid (Below w.heap.size w y) := Lib.hid (by rw [hy]; exact balloc HB.out _)
           have Hx : Hid (∀ k, in64 (xOf ⟨rows, cells, enc, rl, dl, vl, crc⟩ k)) := Lib.hid (fun k => by
            unfold xOf; split
            · exact hrl
            · exact hdl
            · exact hvl)
           rw [← hy]
           clear hy hyb
           go_loopw [1, 41] (fun sv iv wy => ∃ (k : Nat) (sz : Int), k ≤ 3 ∧ iv = .int .i64 (k : Nat) ∧ sv = .int .i64 sz ∧ 0 ≤ sz ∧ sz ≤ (n : Int) ∧ Hid (sz = szOf ⟨rows, cells, enc, rl, dl, vl, crc⟩ n k) ∧ Hid ((0 < k → 0 ≤ rl ∧ rl ≤ n) ∧ (1 < k → 0 ≤ dl ∧ dl ≤ n - rl) ∧ (2 < k → 0 ≤ vl ∧ vl ≤ n - rl - dl)) ∧ wy = y) (fun _ iv _ => 3 - (intOf iv).toNat)
           case atStart => exact ⟨0, n, by omega, rfl, rfl, by omega, Int.le_refl _, Lib.hid rfl, Lib.hid ⟨fun h => by omega, fun h => by omega, fun h => by omega⟩, rfl⟩
           case round =>
            obtain ⟨k, sz, hk, rfl, rfl, hs0, hsn, Hsz, HK, hwy⟩ := hrel
            have hyw := hwy.symm
            subst hyw
            clear hwy
            by_cases hk3 : k < 3
            · have c0 := Hcl.out k hk3
              obtain ⟨hx1, hx2⟩ := Hx.out k
              obtain ⟨x, hx⟩ : ∃ x, x = xOf ⟨rows, cells, enc, rl, dl, vl, crc⟩ k := ⟨_, rfl⟩
              rw [← hx] at c0 hx1 hx2
              have e1 : (k : Int) < 3 := by omega
              have e2 : (0 : Int) ≤ (k : Int) := by omega
              have HxE := Lib.hid hx
              clear hx
              by_cases hbad : x < 0 ∨ sz < x
              · have HF : Hid (decide (pgOk ⟨rows, cells, enc, rl, dl, vl, crc⟩ n) = false) := Lib.hid (HD.out false ⟨fun h => absurd h Bool.false_ne_true, fun h => by
                 exfalso
                 have e1 := Hsz.out; have e2 := HxE.out
                 obtain ⟨q1, q2, q3, q4, q5⟩ := h
                 simp only at q1 q2 q3 q4 q5
                 have hk012 : k = 0 ∨ k = 1 ∨ k = 2 := by omega
                 rcases hk012 with rfl | rfl | rfl
                 · simp only [szOf, xOf] at e1 e2; omega
                 · simp only [szOf, xOf] at e1 e2; omega
                 · simp only [szOf, xOf] at e1 e2; omega⟩)
                by_cases hx0 : x < 0
                · clear hbad c1 c2 c3 c4 c5
                  go_wp2
                  go_ret
                  exact ⟨by rw [HF.out]; rfl, HBy.out⟩
                · have hx3 : sz < x := by omega
                  clear hbad
                  go_wp2
                  go_ret
                  exact ⟨by rw [HF.out]; rfl, HBy.out⟩
              · have hx0 : ¬ x < 0 := fun h => hbad (.inl h)
                have hx3 : ¬ sz < x := fun h => hbad (.inr h)
                clear hbad
                have Hsz2 : Hid (sz - x = szOf ⟨rows, cells, enc, rl, dl, vl, crc⟩ n (k + 1)) := Lib.hid (by
                 rw [Hsz.out, HxE.out]
                 have hk012 : k = 0 ∨ k = 1 ∨ k = 2 := by omega
                 rcases hk012 with rfl | rfl | rfl <;> rfl)
                have HK2 : Hid ((0 < k + 1 → 0 ≤ rl ∧ rl ≤ n) ∧ (1 < k + 1 → 0 ≤ dl ∧ dl ≤ n - rl) ∧ (2 < k + 1 → 0 ≤ vl ∧ vl ≤ n - rl - dl)) := Lib.hid (by
                 have e1 := Hsz.out; have e2 := HxE.out
                 obtain ⟨q1, q2, q3⟩ := HK.out
                 have hk012 : k = 0 ∨ k = 1 ∨ k = 2 := by omega
                 rcases hk012 with rfl | rfl | rfl
                 · simp only [szOf, xOf] at e1 e2; exact ⟨fun _ => by omega, fun h => by omega, fun h => by omega⟩
                 · simp only [szOf, xOf] at e1 e2; exact ⟨fun _ => q1 (by omega), fun h => by omega, fun h => by omega⟩
                 · simp only [szOf, xOf] at e1 e2; exact ⟨fun _ => q1 (by omega), fun h => q2 (by omega), fun h => by omega⟩)
                go_wp2
                go_roundw
                case rel => exact ⟨k + 1, sz - x, by omega, by go_num, by go_num, by omega, by omega, Hsz2, HK2, trivial⟩
                case measure => simp [intOf]; omega
            · obtain rfl : k = 3 := by omega
              by_cases hz : sz = 0
              · have HF : Hid (decide (pgOk ⟨rows, cells, enc, rl, dl, vl, crc⟩ n) = true) := Lib.hid (HD.out true ⟨fun _ => by
                 have e1 := Hsz.out
                 obtain ⟨q1, q2, q3⟩ := HK.out
                 simp only [szOf] at e1
                 exact ⟨(q1 (by decide)).1, (q1 (by decide)).2, (q2 (by decide)).1, (q2 (by decide)).2, by show vl = n - rl - dl; omega⟩, fun _ => rfl⟩)
                subst hz
                go_wp2
                go_ret
                exact ⟨by rw [HF.out]; rfl, HBy.out⟩
              · have HF : Hid (decide (pgOk ⟨rows, cells, enc, rl, dl, vl, crc⟩ n) = false) := Lib.hid (HD.out false ⟨fun h => absurd h Bool.false_ne_true, fun h => by
                 exfalso
                 have e1 := Hsz.out
                 obtain ⟨q1, q2, q3, q4, q5⟩ := h
                 simp only [szOf] at e1 q5
                 omega⟩)
                have f7 : (sz == 0) = false := by rw [beq_eq_false_iff_ne]; exact hz
                go_wp2
                go_ret
                exact ⟨by rw [HF.out]; rfl, HBy.out⟩
         · have HD : Hid (decide (pgOk ⟨rows, cells, enc, rl, dl, vl, crc⟩ n) = false) := Lib.hid (decide_eq_false fun h => h5 ⟨h.2.2.2.2.1, h.2.2.2.2.2.1⟩)
           rw [HD.out]
           have hsg : signP enc = 32 := Hbl.out.2 h5
           rw [hsg] at Hsg
           clear h5 hsg
           go_enter Tryz.func23, Tryz.ntmps23
           go_upto_region 1 with fail
           rw [← hw1]
           clear hw1
           go_wp2_with fail
           refine Hsg.out.mono ?_
           rintro e x ⟨rfl, rfl⟩
           go_wp2
           go_ret
           exact ⟨rfl, HB.out⟩
       · have HD : Hid (decide (pgOk ⟨rows, cells, enc, rl, dl, vl, crc⟩ n) = false) := Lib.hid (decide_eq_false fun h => h4 h.2.2.2.1)
         rw [HD.out]
         go_enter Tryz.func23, Tryz.ntmps23
         go_upto_region 1 with fail
         rw [← hw1]
         clear hw1
         go_wp2
         go_ret
         exact ⟨rfl, HB.out⟩
     · have HD : Hid (decide (pgOk ⟨rows, cells, enc, rl, dl, vl, crc⟩ n) = false) := Lib.hid (decide_eq_false fun h => h3 h.2.2.1)
       rw [HD.out]
       go_enter Tryz.func23, Tryz.ntmps23
       go_upto_region 1 with fail
       rw [← hw1]
       clear hw1
       go_wp2
       go_ret
       exact ⟨rfl, HB.out⟩
   · have HD : Hid (decide (pgOk ⟨rows, cells, enc, rl, dl, vl, crc⟩ n) = false) := Lib.hid (decide_eq_false fun h => h2 h.2.1)
     rw [HD.out]
     go_enter Tryz.func23, Tryz.ntmps23
     go_upto_region 1 with fail
     rw [← hw1]
     clear hw1
     go_wp2
     go_ret
     exact ⟨rfl, HB.out⟩
 · have HD : Hid (decide (pgOk ⟨rows, cells, enc, rl, dl, vl, crc⟩ n) = false) := Lib.hid (decide_eq_false fun h => h1 h.1)
   rw [HD.out]
   go_enter Tryz.func23, Tryz.ntmps23
   go_upto_region 1 with fail
   rw [← hw1]
   clear hw1
   go_wp2
   go_ret
   exact ⟨rfl, HB.out⟩
end Go.Proofs.YtebmbkbnngeabaaGreat
