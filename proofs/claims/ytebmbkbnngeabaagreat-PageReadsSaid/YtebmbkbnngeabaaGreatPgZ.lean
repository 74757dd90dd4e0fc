/- Chapter 14's document: the walk over Same at columns that are alike. -/
import Derived.Test.YtebmbkbnngeabaaGreatPgR
import Derived.Test.YtebmbkbnngeabaaGreatDictR
set_option linter.unusedSimpArgs false
namespace Go.Proofs.YtebmbkbnngeabaaGreat
open Go.RowKit
set_option linter.unusedVariables false
structure ColV where
 aoR : Option Addr
 nR : Nat
 cR : Nat
 aoD : Option Addr
 nD : Nat
 cD : Nat
 aoV : Option Addr
 nV : Nat
 cV : Nat
def ColV.v (c : ColV) : Value := .agg #[.slice c.aoR c.nR c.cR, .slice c.aoD c.nD c.cD, .slice c.aoV c.nV c.cV]
structure ColAt (w : World) (c : ColV) (R D : List Int) (V : List Vl) : Prop where
 lR : R.length = c.nR
 lD : D.length = c.nD
 lV : V.length = c.nV
 r : CellsAt w w.heap.size c.aoR c.nR (i64c R)
 d : CellsAt w w.heap.size c.aoD c.nD (i64c D)
 v : CellsAt w w.heap.size c.aoV (c.nV * 2) (vlc V)
theorem ColAt.at {w w' : World} {c : ColV} {R D : List Int} {V : List Vl} (h : ColAt w c R D V) (hb : Below w.heap.size w w') : ColAt w' c R D V := ⟨h.lR, h.lD, h.lV, h.r.at hb, h.d.at hb, h.v.at hb⟩
def SaysTrue (w : World) (e : Ending) (w' : World) : Prop := e = .returned (.bool true) ∧ Below w.heap.size w w'
set_option maxHeartbeats 4000000 in
set_option maxRecDepth 100000 in
theorem same14_any (a b : ColV) (R D : List Int) (V : List Vl) (w : World) (ha : ColAt w a R D V) (hb : ColAt w b R D V) (hsz : a.nR ≤ 9223372036854775807 ∧ a.nD ≤ 9223372036854775807 ∧ a.nV ≤ 9223372036854775807) :
 Calls Tryz.prog 11 #[a.v, b.v] w (SaysTrue w) := by
 obtain ⟨aoR, nR, cR, aoD, nD, cD, aoV, nV, cV⟩ := a
 obtain ⟨boR, mR, dR, boD, mD, dD, boV, mV, dV⟩ := b
 obtain ⟨l1, l2, l3, x1, x2, x3⟩ := ha
 obtain ⟨k1, k2, k3, y1, y2, y3⟩ := hb
 simp only at l1 l2 l3 k1 k2 k3 x1 x2 x3 y1 y2 y3 hsz
 obtain rfl : mR = nR := by omega
 obtain rfl : mD = nD := by omega
 obtain rfl : mV = nV := by omega
 obtain ⟨s1, s2, s3⟩ := hsz
 obtain ⟨W, hW⟩ : ∃ W, W = (w.alloc (.cells #[.slice aoR mR cR, .slice aoD mD cD, .slice aoV mV cV] 33)).alloc (.cells #[.slice boR mR dR, .slice boD mD dD, .slice boV mV dV] 33) := ⟨_, rfl⟩
 have hb0 : Below w.heap.size w W := by rw [hW]; exact balloc (balloc (Below.refl _ _) _) _
 have h1 : W.heap[w.heap.size]? = some (.cells #[.slice aoR mR cR, .slice aoD mD cD, .slice aoV mV cV] 33) := by
  rw [hW, heap_alloc_old _ _ (by simp)]; exact heap_alloc_new w _
 have h2 : W.heap[w.heap.size + 1]? = some (.cells #[.slice boR mR dR, .slice boD mD dD, .slice boV mV dV] 33) := by
  have := heap_alloc_new (w.alloc (.cells #[.slice aoR mR cR, .slice aoD mD cD, .slice aoV mV cV] 33)) (.cells #[.slice boR mR dR, .slice boD mD dD, .slice boV mV dV] 33)
  rw [hW]; simpa using this
 obtain ⟨u0, u1, u2, -⟩ := three_cellsT h1
 obtain ⟨v0, v1, v2, -⟩ := three_cellsT h2
 have X1 := Lib.hid (x1.at hb0); have X2 := Lib.hid (x2.at hb0); have X3 := Lib.hid (x3.at hb0)
 have Y1 := Lib.hid (y1.at hb0); have Y2 := Lib.hid (y2.at hb0); have Y3 := Lib.hid (y3.at hb0)
 have Hb0 := Lib.hid hb0
 have hgd := Tryz.guardV
 clear l1 l2 l3 k1 k2 k3 x1 x2 x3 y1 y2 y3 h1 h2 hb0
 unfold ColV.v
 go_enter Tryz.func11, Tryz.ntmps11
 go_upto_region 1 with fail
 rw [← hW]
 clear hW
 go_wp2
 go_loopw [5] (fun i wr => ∃ k m : Nat, k ≤ mR ∧ i = .int .i64 (k : Nat) ∧ wr = W.drewN m) (fun i _ => mR - (intOf i).toNat)
 case atStart => exact ⟨0, 0, Nat.zero_le _, rfl, rfl⟩
 case round =>
  obtain ⟨k, m, hk, rfl, rfl⟩ := hrel
  by_cases hkn : k < mR
  · obtain ⟨b1, o1, rfl, -, c1⟩ := X1.out k hkn
    obtain ⟨b2, o2, rfl, -, c2⟩ := Y1.out k hkn
    obtain ⟨x, hx⟩ : ∃ x, x = R.getD k 0 := ⟨_, rfl⟩
    rw [i64c, ← hx] at c1 c2
    have e1 : (k : Int) < (mR : Int) := by omega
    have e2 : (0 : Int) ≤ (k : Int) := by omega
    clear hx
    go_wp2
    go_quiet (fail)
    go_wp2
    go_roundw
    case rel => exact ⟨k + 1, m + nq, by omega, by go_num, rfl⟩
    case measure => simp [intOf]; omega
  · obtain rfl : k = mR := by omega
    have e0 : ¬ (k : Int) < (k : Int) := by omega
    go_wp2
    go_loopw [6] (fun i wr => ∃ k m : Nat, k ≤ mD ∧ i = .int .i64 (k : Nat) ∧ wr = W.drewN m) (fun i _ => mD - (intOf i).toNat)
    case atStart => exact ⟨0, m, Nat.zero_le _, rfl, rfl⟩
    case round =>
     obtain ⟨k2, m2, hk2, rfl, rfl⟩ := hrel
     by_cases hkn2 : k2 < mD
     · obtain ⟨b1, o1, rfl, -, c1⟩ := X2.out k2 hkn2
       obtain ⟨b2, o2, rfl, -, c2⟩ := Y2.out k2 hkn2
       obtain ⟨x, hx⟩ : ∃ x, x = D.getD k2 0 := ⟨_, rfl⟩
       rw [i64c, ← hx] at c1 c2
       have e1 : (k2 : Int) < (mD : Int) := by omega
       have e2 : (0 : Int) ≤ (k2 : Int) := by omega
       clear hx
       go_wp2
       go_quiet (fail)
       go_wp2
       go_roundw
       case rel => exact ⟨k2 + 1, m2 + nq, by omega, by go_num, rfl⟩
       case measure => simp [intOf]; omega
     · obtain rfl : k2 = mD := by omega
       have e3 : ¬ (k2 : Int) < (k2 : Int) := by omega
       go_wp2
       go_loopw [7] (fun i wr => ∃ k m : Nat, k ≤ mV ∧ i = .int .i64 (k : Nat) ∧ wr = W.drewN m) (fun i _ => mV - (intOf i).toNat)
       case atStart => exact ⟨0, m2, Nat.zero_le _, rfl, rfl⟩
       case round =>
        obtain ⟨k3, m3, hk3, rfl, rfl⟩ := hrel
        by_cases hkn3 : k3 < mV
        · obtain ⟨b1, o1, rfl, -, c1, d1⟩ := X3.out.val hkn3
          obtain ⟨b2, o2, rfl, -, c2, d2⟩ := Y3.out.val hkn3
          obtain ⟨x, hx⟩ : ∃ x, x = V.getD k3 vl0 := ⟨_, rfl⟩
          rw [vN, ← hx] at c1 c2
          rw [vS, ← hx] at d1 d2
          have heq := fun w' => equal_v w' x x
          have hd : decide (x = x) = true := decide_eq_true rfl
          have e1 : (k3 : Int) < (mV : Int) := by omega
          have e2 : (0 : Int) ≤ (k3 : Int) := by omega
          clear hx
          go_wp2
          go_quiet (fail)
          go_wp2
          go_roundw
          case rel => exact ⟨k3 + 1, m3 + nq, by omega, by go_num, rfl⟩
          case measure => simp [intOf]; omega
        · obtain rfl : k3 = mV := by omega
          have e4 : ¬ (k3 : Int) < (k3 : Int) := by omega
          go_wp2
          go_ret
          exact ⟨rfl, below_drewN Hb0.out m3⟩
end Go.Proofs.YtebmbkbnngeabaaGreat
