/- Chapter 12: slices.Chunk as an iterator. -/
import Derived.RangeFuncNested
import Derived.RangeFuncBound
import Derived.RangeFuncCalls
import Derived.RangeFuncLeaves
import Derived.RangeFuncBox
import Derived.Shelf.Abstract
import Derived.Shelf.RegionOpen
import Derived.WalkKit
import Derived.OwnWalkIn
import Derived.TacticsInMore
import Derived.LoopNIn
import Derived.LoopIn
import Derived.Test.YtlnlcmdbhkpnhaaDelW
namespace Go.Proofs.Ytlnlcmdbhkpnhaa
open Go.RowKit Go.Shelf
set_option linter.unusedVariables false
attribute [local go_sem] Oper.semAt_some

/-- The k-th chunk's place. -/
abbrev ChunkNo (m : Nat) := { k : Nat // 32 * k < m }
/-- What a round keeps: the two boxes. -/
def KeepTwo (Bs Bn : Nat) (A B : World) : Prop := B.heap[Bs]? = A.heap[Bs]? ∧ B.heap[Bn]? = A.heap[Bn]?
theorem KeepTwo.refl (Bs Bn : Nat) (A : World) : KeepTwo Bs Bn A A := ⟨rfl, rfl⟩
theorem KeepTwo.trans {Bs Bn : Nat} {A B C : World} (h : KeepTwo Bs Bn A B) (k : KeepTwo Bs Bn B C) : KeepTwo Bs Bn A C := ⟨k.1.trans h.1, k.2.trans h.2⟩
def nos {m : Nat} (l : List (ChunkNo m)) : List Nat := l.map (·.1)
theorem nos_snoc {m : Nat} (l : List (ChunkNo m)) (x : ChunkNo m) : nos (l ++ [x]) = nos l ++ [x.1] := by simp [nos]
theorem nos_length {m : Nat} (l : List (ChunkNo m)) : (nos l).length = l.length := by simp [nos]
def chunkV (bd off m : Nat) (x : ChunkNo m) : Value := .slice (some ⟨bd, off + 32 * x.1, none⟩) (min 32 (m - 32 * x.1)) (min 32 (m - 32 * x.1))

set_option maxRecDepth 100000 in
set_option maxHeartbeats 2000000 in
theorem chunk1_in (n : Nat) (hn : 1 ≤ n) (l Bs Bn : Nat) (ao : Option Addr) (bd off m cap : Nat) (ho : 0 < m → ao = some ⟨bd, off, none⟩) (hcap : m ≤ cap) (hm : m ≤ 100000) (J Jx : List (ChunkNo m) → World → Prop)
    (hJd : ∀ s W, J s W → J s W.drew)
    (hY : ∀ pre x W, J pre W → pre.length < (m + 31) / 32 → YieldAt Fence.wide (n - 1) Try.prog l #[chunkV bd off m x] W fun e W' =>
      (e = .returned (.bool true) ∧ J (pre ++ [x]) W' ∧ KeepTwo Bs Bn W W') ∨ (e = .returned (.bool false) ∧ Jx (pre ++ [x]) W'))
    (W : World) (hBs : Boxed W Bs 25 (.slice ao m cap)) (hBn : Boxed W Bn 3 (.int .i64 32)) (h0 : J [] W) :
    CallsIn Fence.wide n Try.prog 53 #[.func (.yield l) #[] #[], .pointer (some ⟨Bs, 0, none⟩), .pointer (some ⟨Bn, 0, none⟩)] W fun e W' => (∃ v, e = .returned v) ∧
      ((∃ ys : List (ChunkNo m), nos ys = List.range ((m + 31) / 32) ∧ J ys W') ∨ (∃ pre : List (ChunkNo m), True ∧ Jx pre W')) := by
  refine callsIn_of_wp Try.func53 rfl trivial ?_ rfl
  simp only [Try.ntmps53, List.size_toArray, List.length_cons, List.length_nil, Nat.reduceAdd, Nat.reduceSub, Array.replicate_succ, Array.replicate_zero, List.push_toArray, List.append_toArray, List.nil_append, List.cons_append]
  have Ho := Lib.hid ho; have HY := Lib.hid hY; have HJd := Lib.hid hJd
  clear ho hY hJd
  gi_wp2
  gi_loopw [4] (fun i wr => ∃ (k : Nat) (pre : List (ChunkNo m)), 32 * k ≤ m + 31 ∧ i = .int .i64 ((32 * k : Nat) : Int) ∧ Hid (nos pre = List.range k) ∧ Hid (J pre wr) ∧ Hid (KeepTwo Bs Bn W wr))
    (fun i _ => m - (intOf i).toNat)
  case atStart => exact ⟨0, [], by omega, rfl, Lib.hid rfl, Lib.hid h0, Lib.hid (KeepTwo.refl _ _ _)⟩
  case round =>
    clear h0
    obtain ⟨k, pre, hk, rfl, hpre, hJs, hkp⟩ := hrel
    have hB1 : Boxed wr Bs 25 (.slice ao m cap) := hkp.out.1.trans hBs
    have hB2 : Boxed wr Bn 3 (.int .i64 32) := hkp.out.2.trans hBn
    have c1 := hB1.cell
    have c2 := hB2.cell
    have hpl : pre.length = k := by have := congrArg List.length hpre.out; rw [nos_length, List.length_range] at this; exact this
    obtain ⟨i, hi⟩ : ∃ i, i = 32 * k := ⟨_, rfl⟩
    rw [← hi]
    have Hi := Lib.hid hi
    by_cases hlt : i < m
    · obtain rfl := Ho.out (by omega)
      obtain ⟨g, hg⟩ : ∃ g, g = min 32 (m - i) := ⟨_, rfl⟩
      have hif : (if ((m - i : Nat) : Int) < 32 then ((m - i : Nat) : Int) else 32) = (g : Int) := by split <;> omega
      have e1 : (i : Int) < (m : Int) := by omega
      have e2 : (0 : Int) ≤ (i : Int) := by omega
      have e3 : (i : Int) ≤ (m : Int) := by omega
      have e4 : (m : Int) ≤ (cap : Int) := by omega
      have e5 : (i : Int) + (g : Int) ≤ (cap : Int) := by omega
      have e6 : (i : Int) ≤ (i : Int) + (g : Int) := by omega
      have hgi : Hid (i + g ≤ m ∧ 32 * k < m) := Lib.hid (by omega)
      have hY1 := HY.out pre ⟨k, hgi.out.2⟩ wr.drew (HJd.out _ _ hJs.out) (by omega)
      have ev : chunkV bd off m ⟨k, hgi.out.2⟩ = .slice (some ⟨bd, off + i, none⟩) g g := by unfold chunkV; dsimp only; rw [← hi, ← hg]
      rw [ev] at hY1
      obtain ⟨fn, tmps, assign, body, hy, hR⟩ := hY1
      clear hi hg ev
      gi_wp2
      gi_region
      gi_wp2
      refine hR.mono ?_
      rintro e W3 (⟨rfl, hJ3, hk3⟩ | ⟨rfl, hJx3⟩)
      · have hB3 : Boxed W3 Bn 3 (.int .i64 32) := hk3.2.trans hB2
        have c3 := hB3.cell
        have HJ3 := Lib.hid hJ3; have Hk3 := Lib.hid hk3
        clear hJ3 hk3 hy hR
        gi_wp2
        go_roundw
        case rel => exact ⟨k + 1, pre ++ [⟨k, hgi.out.2⟩], by (have := hgi.out; omega), by rw [Hi.out]; go_num, Lib.hid (by rw [nos_snoc, hpre.out, List.range_succ]), HJ3, Lib.hid (hkp.out.trans Hk3.out)⟩
        case measure => simp [intOf]; omega
      · gi_wp2
        refine bodyPost_ret (results_none rfl _ _ _) rfl ?_
        exact ⟨⟨_, rfl⟩, .inr ⟨_, trivial, hJx3⟩⟩
    · have e1 : ¬ (i : Int) < (m : Int) := by omega
      have hgi : Hid (m ≤ i) := Lib.hid (by omega)
      clear hi
      gi_wp2
      go_end0
      refine ⟨⟨_, rfl⟩, .inl ⟨pre, ?_, hJs.out⟩⟩
      rw [hpre.out, show k = (m + 31) / 32 by have := hgi.out; have := Hi.out; omega]
end Go.Proofs.Ytlnlcmdbhkpnhaa
