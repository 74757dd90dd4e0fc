/-
  No cell of these rows narrows 'for every input' (looked for: loops, veiled, ifaces, maps, wideKeys, modest, calm, conditions, laid).
  DERIVED. THE GIVEN ROWS OF THIS SEAT. 7 by the template 'for every input the law returns true; each argument reads behind the call as it read before'; 0 by the template 'total and deterministic' (their statements: YtailcciimbjpgaaTotals.lean).
  GIVEN WITH THE SEED: the statements are not yours to turn. If you find one false, say at which input.
  Laid BY PROGRAM, IN A SANDBOX (cutbox-rows.mjs): the forced cells as the released guide's own fill.sh prints them over the translation b79d35613438bb1c… (all of the seat's roots in one cut). By AI agents, Wed Nov 11 2026. No macro, syntax, notation, axiom, sorry.
-/
import Derived.Test.YtailcciimbjpgaaChecked
import GoSem.Claim
import GoSem.ClaimJoined
import GoSem.ClaimMapViews
import Derived.JoinedTies
import Derived.KernelRfl
namespace Go.Proofs.Ytailcciimbjpgaa
/- THE CELL 'sum', in the pinned program and in every row, IS THE sha256 OF THE DUMP (.gsa) THAT YtailcciimbjpgaaProg.lean LOADS. Nothing in Lean hashes anything: it is a label: what it is worth is what the hold of that sum in a sandbox is worth. -/
noncomputable def Try.pinned : Pinned := { name := "ytailcciimbjpgaa", sum := "b79d35613438bb1c1ac0f19fc3e1de707da9961b617daf1737bc887f8231e656", checked := Try.checked }
namespace Rows
def none {H : Type} : Left H := { results := [], args := [] }

/-- 'shredderlaw11.PlainSizes': WHATEVER THE INPUT: true; the input reads as it did. -/
def plainSizesSpec : ChangeSpec := { name := "plainSizes", fn := fun _ => fun
  | [d1, d2] => { results := [.lit (.bool true)], args := [d1, d2] }
  | _ => none }
def plainSizesRow : OpenClaim := { program := "ytailcciimbjpgaa", sum := "b79d35613438bb1c1ac0f19fc3e1de707da9961b617daf1737bc887f8231e656", func := "shredder/shredderlaw11.PlainSizes", spec := "plainSizes", apart := false }
def PlainSizesSaid : Prop := plainSizesRow.holds Try.pinned (OpenSpec.ofChange plainSizesSpec)

/-- ITS FALSE NEIGHBOUR: 'it returns false'. Refute it at one input. -/
def plainSizesWrong : ChangeSpec := { name := "plainSizes", fn := fun _ => fun
  | [d1, d2] => { results := [.lit (.bool false)], args := [d1, d2] }
  | _ => none }
def PlainSizesWrongFalsely : Prop := plainSizesRow.holds Try.pinned (OpenSpec.ofChange plainSizesWrong)

/-- 'shredderlaw11.PlainRows': WHATEVER THE INPUT: true; the input reads as it did. -/
def plainRowsSpec : ChangeSpec := { name := "plainRows", fn := fun _ => fun
  | [d1, d2, d3] => { results := [.lit (.bool true)], args := [d1, d2, d3] }
  | _ => none }
def plainRowsRow : OpenClaim := { program := "ytailcciimbjpgaa", sum := "b79d35613438bb1c1ac0f19fc3e1de707da9961b617daf1737bc887f8231e656", func := "shredder/shredderlaw11.PlainRows", spec := "plainRows", apart := false }
def PlainRowsSaid : Prop := plainRowsRow.holds Try.pinned (OpenSpec.ofChange plainRowsSpec)

/-- ITS FALSE NEIGHBOUR: 'it returns false'. Refute it at one input. -/
def plainRowsWrong : ChangeSpec := { name := "plainRows", fn := fun _ => fun
  | [d1, d2, d3] => { results := [.lit (.bool false)], args := [d1, d2, d3] }
  | _ => none }
def PlainRowsWrongFalsely : Prop := plainRowsRow.holds Try.pinned (OpenSpec.ofChange plainRowsWrong)

/-- 'shredderlaw11.PlainBack': WHATEVER THE INPUT: true; the input reads as it did. -/
def plainBackSpec : ChangeSpec := { name := "plainBack", fn := fun _ => fun
  | [d1, d2] => { results := [.lit (.bool true)], args := [d1, d2] }
  | _ => none }
def plainBackRow : OpenClaim := { program := "ytailcciimbjpgaa", sum := "b79d35613438bb1c1ac0f19fc3e1de707da9961b617daf1737bc887f8231e656", func := "shredder/shredderlaw11.PlainBack", spec := "plainBack", unfollowed := true, recurses := true, apart := false }
def PlainBackSaid : Prop := plainBackRow.holds Try.pinned (OpenSpec.ofChange plainBackSpec)

/-- ITS FALSE NEIGHBOUR: 'it returns false'. Refute it at one input. -/
def plainBackWrong : ChangeSpec := { name := "plainBack", fn := fun _ => fun
  | [d1, d2] => { results := [.lit (.bool false)], args := [d1, d2] }
  | _ => none }
def PlainBackWrongFalsely : Prop := plainBackRow.holds Try.pinned (OpenSpec.ofChange plainBackWrong)

/-- 'shredderlaw11.PlainReads': WHATEVER THE INPUT: true; the input reads as it did. -/
def plainReadsSpec : ChangeSpec := { name := "plainReads", fn := fun _ => fun
  | [d1, d2, d3, d4, d5, d6, d7] => { results := [.lit (.bool true)], args := [d1, d2, d3, d4, d5, d6, d7] }
  | _ => none }
def plainReadsRow : OpenClaim := { program := "ytailcciimbjpgaa", sum := "b79d35613438bb1c1ac0f19fc3e1de707da9961b617daf1737bc887f8231e656", func := "shredder/shredderlaw11.PlainReads", spec := "plainReads", unfollowed := true, recurses := true, apart := false }
def PlainReadsSaid : Prop := plainReadsRow.holds Try.pinned (OpenSpec.ofChange plainReadsSpec)

/-- ITS FALSE NEIGHBOUR: 'it returns false'. Refute it at one input. -/
def plainReadsWrong : ChangeSpec := { name := "plainReads", fn := fun _ => fun
  | [d1, d2, d3, d4, d5, d6, d7] => { results := [.lit (.bool false)], args := [d1, d2, d3, d4, d5, d6, d7] }
  | _ => none }
def PlainReadsWrongFalsely : Prop := plainReadsRow.holds Try.pinned (OpenSpec.ofChange plainReadsWrong)

/-- 'shredderlaw11.PlainCuts': WHATEVER THE INPUT: true; the input reads as it did. -/
def plainCutsSpec : ChangeSpec := { name := "plainCuts", fn := fun _ => fun
  | [d1, d2, d3, d4] => { results := [.lit (.bool true)], args := [d1, d2, d3, d4] }
  | _ => none }
def plainCutsRow : OpenClaim := { program := "ytailcciimbjpgaa", sum := "b79d35613438bb1c1ac0f19fc3e1de707da9961b617daf1737bc887f8231e656", func := "shredder/shredderlaw11.PlainCuts", spec := "plainCuts", unfollowed := true, recurses := true, apart := false }
def PlainCutsSaid : Prop := plainCutsRow.holds Try.pinned (OpenSpec.ofChange plainCutsSpec)

/-- ITS FALSE NEIGHBOUR: 'it returns false'. Refute it at one input. -/
def plainCutsWrong : ChangeSpec := { name := "plainCuts", fn := fun _ => fun
  | [d1, d2, d3, d4] => { results := [.lit (.bool false)], args := [d1, d2, d3, d4] }
  | _ => none }
def PlainCutsWrongFalsely : Prop := plainCutsRow.holds Try.pinned (OpenSpec.ofChange plainCutsWrong)

/-- 'shredderlaw11.PlainLong': WHATEVER THE INPUT: true; the input reads as it did. -/
def plainLongSpec : ChangeSpec := { name := "plainLong", fn := fun _ => fun
  | [d] => { results := [.lit (.bool true)], args := [d] }
  | _ => none }
def plainLongRow : OpenClaim := { program := "ytailcciimbjpgaa", sum := "b79d35613438bb1c1ac0f19fc3e1de707da9961b617daf1737bc887f8231e656", func := "shredder/shredderlaw11.PlainLong", spec := "plainLong", unfollowed := true, recurses := true, apart := false }
def PlainLongSaid : Prop := plainLongRow.holds Try.pinned (OpenSpec.ofChange plainLongSpec)

/-- ITS FALSE NEIGHBOUR: 'it returns false'. Refute it at one input. -/
def plainLongWrong : ChangeSpec := { name := "plainLong", fn := fun _ => fun
  | [d] => { results := [.lit (.bool false)], args := [d] }
  | _ => none }
def PlainLongWrongFalsely : Prop := plainLongRow.holds Try.pinned (OpenSpec.ofChange plainLongWrong)

/-- 'shredderlaw11.PlainInts': WHATEVER THE INPUT: true; the input reads as it did. -/
def plainIntsSpec : ChangeSpec := { name := "plainInts", fn := fun _ => fun
  | [d] => { results := [.lit (.bool true)], args := [d] }
  | _ => none }
def plainIntsRow : OpenClaim := { program := "ytailcciimbjpgaa", sum := "b79d35613438bb1c1ac0f19fc3e1de707da9961b617daf1737bc887f8231e656", func := "shredder/shredderlaw11.PlainInts", spec := "plainInts", unfollowed := true, recurses := true, apart := false }
def PlainIntsSaid : Prop := plainIntsRow.holds Try.pinned (OpenSpec.ofChange plainIntsSpec)

/-- ITS FALSE NEIGHBOUR: 'it returns false'. Refute it at one input. -/
def plainIntsWrong : ChangeSpec := { name := "plainInts", fn := fun _ => fun
  | [d] => { results := [.lit (.bool false)], args := [d] }
  | _ => none }
def PlainIntsWrongFalsely : Prop := plainIntsRow.holds Try.pinned (OpenSpec.ofChange plainIntsWrong)

/- THE SECOND FORM. 'bulk': how many values and letters a reading holds, each counted each time it is reached (what is shared counts as often as it is met; a slice's spare places count too). A statement '..UptoSaid' is the law's where the arguments, and the package variables that the reading takes, are together of bulk at most 1048576: NARROWER than '..Said'. Prove '..Said' where nothing that the law and all that it calls make is longer than what came in: it says more and counts as full. Else prove '..UptoSaid'. A law counts once. -/
mutual
def uptoBulk {H : Type} : DataW H → Nat
  | .lit (.string bytes) => bytes.length + 1
  | .lit _ => 1
  | .nil => 1
  | .ptr d => uptoBulk d + 1
  | .slice elems spare => uptoBulkAll elems + uptoBulkAll spare + 1
  | .agg parts => uptoBulkAll parts + 1
  | .iface _ d => uptoBulk d + 1
  | .map entries => uptoBulkEntries entries + 1
  | .held _ => 1
def uptoBulkAll {H : Type} : List (DataW H) → Nat
  | [] => 0
  | d :: r => uptoBulk d + uptoBulkAll r
def uptoBulkEntries {H : Type} : List (Lit × DataW H) → Nat
  | [] => 0
  | x :: r => uptoBulkEntry x + uptoBulkEntries r
def uptoBulkEntry {H : Type} : Lit × DataW H → Nat
  | (.string bytes, d) => bytes.length + uptoBulk d + 1
  | (_, d) => uptoBulk d + 1
 end
def uptoSmall : (H : Type) → List (DataW H) → Bool := fun _ ds => decide (uptoBulkAll ds ≤ 1048576)
def OpenSpec.upto (s : _root_.Go.ChangeSpec) : _root_.Go.OpenSpec := { _root_.Go.OpenSpec.ofChange s with cond := some uptoSmall }

/-- 'shredderlaw11.PlainSizes', WHERE WHAT IT READS IS OF BULK AT MOST 1048576: true; the input reads as it did. -/
def plainSizesUptoRow : OpenClaim := { program := "ytailcciimbjpgaa", sum := "b79d35613438bb1c1ac0f19fc3e1de707da9961b617daf1737bc887f8231e656", func := "shredder/shredderlaw11.PlainSizes", spec := "plainSizes", apart := false, narrowed := true }
def PlainSizesUptoSaid : Prop := plainSizesUptoRow.holds Try.pinned (OpenSpec.upto plainSizesSpec)

/-- 'shredderlaw11.PlainRows', WHERE WHAT IT READS IS OF BULK AT MOST 1048576: true; the input reads as it did. -/
def plainRowsUptoRow : OpenClaim := { program := "ytailcciimbjpgaa", sum := "b79d35613438bb1c1ac0f19fc3e1de707da9961b617daf1737bc887f8231e656", func := "shredder/shredderlaw11.PlainRows", spec := "plainRows", apart := false, narrowed := true }
def PlainRowsUptoSaid : Prop := plainRowsUptoRow.holds Try.pinned (OpenSpec.upto plainRowsSpec)

/-- 'shredderlaw11.PlainBack', WHERE WHAT IT READS IS OF BULK AT MOST 1048576: true; the input reads as it did. -/
def plainBackUptoRow : OpenClaim := { program := "ytailcciimbjpgaa", sum := "b79d35613438bb1c1ac0f19fc3e1de707da9961b617daf1737bc887f8231e656", func := "shredder/shredderlaw11.PlainBack", spec := "plainBack", unfollowed := true, recurses := true, apart := false, narrowed := true }
def PlainBackUptoSaid : Prop := plainBackUptoRow.holds Try.pinned (OpenSpec.upto plainBackSpec)

/-- 'shredderlaw11.PlainReads', WHERE WHAT IT READS IS OF BULK AT MOST 1048576: true; the input reads as it did. -/
def plainReadsUptoRow : OpenClaim := { program := "ytailcciimbjpgaa", sum := "b79d35613438bb1c1ac0f19fc3e1de707da9961b617daf1737bc887f8231e656", func := "shredder/shredderlaw11.PlainReads", spec := "plainReads", unfollowed := true, recurses := true, apart := false, narrowed := true }
def PlainReadsUptoSaid : Prop := plainReadsUptoRow.holds Try.pinned (OpenSpec.upto plainReadsSpec)

/-- 'shredderlaw11.PlainCuts', WHERE WHAT IT READS IS OF BULK AT MOST 1048576: true; the input reads as it did. -/
def plainCutsUptoRow : OpenClaim := { program := "ytailcciimbjpgaa", sum := "b79d35613438bb1c1ac0f19fc3e1de707da9961b617daf1737bc887f8231e656", func := "shredder/shredderlaw11.PlainCuts", spec := "plainCuts", unfollowed := true, recurses := true, apart := false, narrowed := true }
def PlainCutsUptoSaid : Prop := plainCutsUptoRow.holds Try.pinned (OpenSpec.upto plainCutsSpec)

/-- 'shredderlaw11.PlainLong', WHERE WHAT IT READS IS OF BULK AT MOST 1048576: true; the input reads as it did. -/
def plainLongUptoRow : OpenClaim := { program := "ytailcciimbjpgaa", sum := "b79d35613438bb1c1ac0f19fc3e1de707da9961b617daf1737bc887f8231e656", func := "shredder/shredderlaw11.PlainLong", spec := "plainLong", unfollowed := true, recurses := true, apart := false, narrowed := true }
def PlainLongUptoSaid : Prop := plainLongUptoRow.holds Try.pinned (OpenSpec.upto plainLongSpec)

/-- 'shredderlaw11.PlainInts', WHERE WHAT IT READS IS OF BULK AT MOST 1048576: true; the input reads as it did. -/
def plainIntsUptoRow : OpenClaim := { program := "ytailcciimbjpgaa", sum := "b79d35613438bb1c1ac0f19fc3e1de707da9961b617daf1737bc887f8231e656", func := "shredder/shredderlaw11.PlainInts", spec := "plainInts", unfollowed := true, recurses := true, apart := false, narrowed := true }
def PlainIntsUptoSaid : Prop := plainIntsUptoRow.holds Try.pinned (OpenSpec.upto plainIntsSpec)

end Rows
end Go.Proofs.Ytailcciimbjpgaa
