/-
  Proved: CrcSumsUptoSaid: for every input of bulk at most 1048576 the law CrcSums returns true, and its argument reads behind the call as it read before.
  Conditions: none beyond the row's own.
-/
import Derived.Test.YtpcfelccanmggaaRows
import Derived.Test.YtpcfelccanmggaaCrcLaws6
import Derived.WalkKit
import Derived.ProofKit
import Derived.OpenShut
import Derived.JoinedCond
import Derived.ChangeOld
import Derived.Below
import Derived.Deep.Matrix
namespace Go.Proofs.Ytpcfelccanmggaa.crcSums
open Go.ChangeShapes Go.WideShapes Go.ChangeAt Go.RowKit Go.Deep
set_option linter.unusedVariables false

theorem own : ownKnob Try.prog.godebug = none := by kernel_rfl
theorem laidOut : laidOutB Try.prog = true := by kernel_rfl

theorem one_le {H : Type} (d : DataW H) : 1 ≤ Rows.uptoBulk d := by
  cases d with
  | lit l => cases l <;> simp [Rows.uptoBulk]
  | nil => simp [Rows.uptoBulk]
  | ptr d => simp [Rows.uptoBulk]
  | slice elems spare => simp [Rows.uptoBulk]
  | agg parts => simp [Rows.uptoBulk]
  | iface t d => simp [Rows.uptoBulk]
  | map entries => simp [Rows.uptoBulk]
  | held h => simp [Rows.uptoBulk]
theorem length_le {H : Type} (l : List (DataW H)) : l.length ≤ Rows.uptoBulkAll l := by
  induction l with
  | nil => simp [Rows.uptoBulkAll]
  | cons x r ih => have := one_le x; simp only [Rows.uptoBulkAll, List.length_cons]; omega
theorem row_le {H : Type} (k : IntKind) (A : Option Addr) (L : Nat) (zs : List Int) (hA : A = none → zs = []) : (zs.take L).length ≤ Rows.uptoBulk (intRow (H := H) k A L zs) := by
  cases A with
  | none => rw [hA rfl]; simp
  | some a =>
    have h1 := length_le (H := H) (lits k (zs.take L))
    simp only [intRow, Rows.uptoBulk]
    simp only [lits, List.length_map] at h1 ⊢
    omega
theorem rows_le {H : Type} (k : IntKind) (A : Nat → Option Addr) (L : Nat → Nat) (Z : Nat → List Int) : ∀ l : List Nat, (∀ r ∈ l, A r = none → Z r = []) →
    (l.map fun r => ((Z r).take (L r)).map Int.toNat).flatten.length ≤ Rows.uptoBulkAll (l.map fun r => intRow (H := H) k (A r) (L r) (Z r))
  | [], _ => by simp
  | r :: l, h => by
    have ih := rows_le (H := H) k A L Z l (fun q hq => h q (List.mem_cons_of_mem _ hq))
    have h1 := row_le (H := H) k (A r) (L r) (Z r) (h r (List.mem_cons_self ..))
    simp only [List.map_cons, List.flatten_cons, List.length_append, Rows.uptoBulkAll, List.length_map]
    omega

set_option maxRecDepth 100000 in
theorem contract (H : Type) (enc : TypeId × Value → H) (W : World) (base : Nat) (args : Array Value) (ds gs : List (DataW H)) (before : List MemPlace)
    (hval0 : ∀ (j : Nat) t v, Try.f3.params[j]? = some t → args[j]? = some v → Value.okWide Try.prog W .any base t v)
    (hW : DataW.Whole enc Try.prog Try.f3.params.toList Rows.crcSumsSpec.vars false W args.toList ds gs before) (hk : Rows.uptoSmall H (ds ++ gs) = true) :
    Calls Try.prog 3 args W fun e W' => ∃ v, e = .returned v ∧ Rows.crcSumsSpec.post enc Try.prog Try.f3 false true false false W args v W' := by
  have hval : ∀ (j : Nat) t v, Try.f3.params[j]? = some t → args[j]? = some v → Value.okWide Try.prog W .any base t v := hval0
  have hW' := hW
  obtain ⟨p, q, hA0, hV, rfl, hfz, hnd⟩ := hW
  have hA : DataW.TrodAll enc Try.prog W 0 (fun _ => true) true Try.f3.params.toList args.toList ds p := hA0
  rw [Try.params3] at hA hval
  obtain ⟨v0, vs0, d0, ds0, p0, q0, hargs, rfl, rfl, h0, r0⟩ := trodAll_cons hA
  obtain ⟨rfl, rfl, rfl⟩ := trodAll_nil r0
  obtain rfl : args = #[v0] := by cases args; simp_all
  obtain ⟨rfl, rfl⟩ := trodVars_none hV
  obtain ⟨a0, len0, cap0, rfl⟩ := okWide_slice Try.underlying22 (hval 0 22 v0 rfl rfl)
  have k0 := h0
  have lt0 : ∀ x ∈ p0, x.block < W.heap.size := by obtain ⟨m, hm⟩ := k0; exact DataW.trod_lt m _ _ _ hm
  simp only [List.append_nil] at hk
  obtain ⟨ps, w0, w1, w2, w3, w4⟩ : ∃ ps : List (List Nat), len0 ≤ 9223372036854775807 ∧ (∀ p ∈ ps, ∀ x ∈ p, x < 256) ∧ PartsAt W W.heap.size a0 len0 ps ∧ PartsNil W a0 len0 ∧ ps.flatten.length ≤ 1048576 := by
    obtain ⟨fuel, hf⟩ := h0
    rcases open_int_rows Try.underlying22 Try.underlying24 Try.underlying5 (by kernel_rfl) (by kernel_rfl) hf with ⟨hcs, _⟩ | ⟨a, len, cap, A, L, C, Z, hcs, _, hl, hm, hx, hr⟩
    · simp [Value.cells] at hcs
      obtain ⟨rfl, rfl, rfl⟩ := hcs
      exact ⟨[], by decide, fun p hp => absurd hp List.not_mem_nil, PartsAt.zero _ _ _, fun i b off m c hi => absurd hi (Nat.not_lt_zero i), by simp⟩
    · simp [Value.cells] at hcs
      obtain ⟨rfl, rfl, rfl⟩ := hcs
      unfold maxLen at hm
      have hzA : ∀ r, r < cap0 → A r = none → Z r = [] := fun r hrc e => by
        obtain ⟨-, -, -, hz, -, hn, -⟩ := hr r hrc
        exact List.length_eq_zero_iff.1 (by rw [hz]; exact hn e)
      have hspot : ∀ {x : Addr} {v : Value}, W.cell? x = some v → x.spot = none := fun h => cell_spot h
      refine ⟨(List.range len0).map fun r => ((Z r).take (L r)).map Int.toNat, by omega, ?_, ⟨by simp, fun i hi => ?_⟩, ?_, ?_⟩
      · intro p hp x hx
        obtain ⟨r, hr', rfl⟩ := List.mem_map.1 hp
        obtain ⟨n, hn, rfl⟩ := List.mem_map.1 hx
        obtain ⟨-, -, -, -, hwf, -⟩ := hr r (by have := List.mem_range.1 hr'; omega)
        have := bounds_u8 (hwf n (List.mem_of_mem_take hn))
        omega
      · obtain ⟨hcell, hLC, hC, hZ, hwf, hn, hc⟩ := hr i (by omega)
        unfold maxLen at hC
        have h0c := (hr 0 (by omega)).1
        have hs : a.spot = none := hspot (by simpa [Addr.add] using h0c)
        obtain ⟨b, off, spot⟩ := a
        simp only at hs
        subst hs
        rw [Addr.add_lit] at hcell
        have hg : (((List.range len0).map fun r => ((Z r).take (L r)).map Int.toNat).getD i []) = ((Z i).take (L i)).map Int.toNat := by
          rw [List.getD_eq_getElem?_getD, List.getElem?_map, List.getElem?_range hi]; rfl
        rw [hg]
        refine ⟨b, off, rfl, World.block_lt_of_cell? W _ hcell, A i, L i, C i, hcell, by rw [List.length_map, List.length_take]; omega, by omega, fun j hj => ?_⟩
        cases hAi : A i with
        | none => have := hn hAi; omega
        | some a' =>
          obtain ⟨-, hcc⟩ := hc a' hAi
          have h0' := hcc 0 (by omega)
          have hs' : a'.spot = none := hspot (by simpa [Addr.add] using h0')
          obtain ⟨b', off', spot'⟩ := a'
          simp only at hs'
          subst hs'
          have hj' := hcc j (by omega)
          rw [Addr.add_lit] at hj'
          refine ⟨b', off', rfl, World.block_lt_of_cell? W _ hj', ?_⟩
          rw [hj', u8c, toNats_getD _ (fun n hn' => (bounds_u8 (hwf n (List.mem_of_mem_take hn'))).1)]
          simp [List.getD_eq_getElem?_getD, List.getElem?_take, hj]
      · intro i b off m c hi ha hcell
        cases ha
        obtain ⟨hcell2, hLC, hC, hZ, hwf, hn, hc⟩ := hr i (by omega)
        rw [Addr.add_lit, hcell] at hcell2
        simp only [Option.some.injEq, Value.slice.injEq] at hcell2
        obtain ⟨e1, rfl, rfl⟩ := hcell2
        have := hn e1.symm
        omega
      · have hb : Rows.uptoBulkAll [d0] ≤ 1048576 := of_decide_eq_true hk
        have hd : d0 = .slice ((List.range len0).map fun r => intRow .u8 (A r) (L r) (Z r)) ((List.range (cap0 - len0)).map fun j => intRow .u8 (A (len0 + j)) (L (len0 + j)) (Z (len0 + j))) := by
          have := congrArg Prod.fst hx
          exact this
        have h1 := rows_le (H := H) .u8 A L Z (List.range len0) (fun r hr' => hzA r (by have := List.mem_range.1 hr'; omega))
        rw [hd] at hb
        simp only [Rows.uptoBulkAll, Rows.uptoBulk] at hb
        omega
  clear hA0 hval0
  refine (crcSums_walk a0 len0 cap0 ps W w0 w1 w2 w3 w4).mono fun e W' ⟨he, bel⟩ => ?_
  subst he
  exact ⟨_, rfl, _, _, _, [], _, [], hW', trodAll_mk1 (shut_bool Try.underlying4 _), (trodAll_cons_mk (Below.trod laidOut (by kernel_rfl) (of_decide_eq_true (by kernel_rfl)) k0 bel lt0) trodAll_mk0), rfl, bel.frame _, fun h => by cases h⟩

set_option maxRecDepth 100000 in
theorem lifted (os : Os) (started : os.Started) (H : Type) (enc : TypeId × Value → H) (F : Stop.Interp) :
    ReturnsInHanded {} Try.checked os 3 .any ((Rows.OpenSpec.upto Rows.crcSumsSpec).pre6 enc Try.prog Try.f3 Rows.crcSumsUptoRow.domain false) (((Rows.OpenSpec.upto Rows.crcSumsSpec).at F).post enc Try.prog Try.f3 false true false false) := by
  refine returnsInHanded_of_cond (C := Try.checked) (s := Rows.OpenSpec.upto Rows.crcSumsSpec) (k := Rows.uptoSmall) rfl own started (by kernel_rfl) Try.func3
    (OpenSpec.witness (enc := enc) (C := Try.checked) (s := Rows.OpenSpec.upto Rows.crcSumsSpec) (k := Rows.uptoSmall) rfl false ⟨#[], #[.slice none 0 0], []⟩ 8 (by kernel_rfl) (by kernel_rfl) (by kernel_rfl)
      (x := ([.nil], [], [])) (by kernel_rfl) rfl (by kernel_rfl)) ?_
  intro W base args ds gs before hval hW _ hk _
  exact contract H enc W base args ds gs before hval hW hk

theorem proved : Rows.CrcSumsUptoSaid :=
  OpenClaim.holds_of_cond 3 Try.f3 rfl rfl rfl rfl rfl rfl rfl ⟨rfl, rfl, rfl, rfl, rfl⟩ rfl rfl rfl rfl rfl (by kernel_rfl) Try.func3 (by kernel_rfl)
    (of_decide_eq_true (by kernel_rfl)) (by unfold Func.isWrapper; first | (rw [if_pos (by decide +kernel)]; kernel_rfl) | (rw [if_neg (by decide +kernel)]; exact ⟨rfl, rfl⟩))
    (fun os started H enc _ F => lifted os started H enc F)
#print axioms proved
end Go.Proofs.Ytpcfelccanmggaa.crcSums
