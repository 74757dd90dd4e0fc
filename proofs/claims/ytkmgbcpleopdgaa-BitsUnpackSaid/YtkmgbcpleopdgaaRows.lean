/-
  No cell of these rows narrows 'for every input' (looked for: loops, veiled, ifaces, maps, wideKeys, modest, calm, conditions, laid).
  DERIVED. THE GIVEN ROWS OF THIS SEAT. 8 by the template 'for every input the law returns true; each argument reads behind the call as it read before'; 0 by the template 'total and deterministic' (their statements: YtkmgbcpleopdgaaTotals.lean).
  GIVEN WITH THE SEED: the statements are not yours to turn. If you find one false, say at which input.
  Laid BY PROGRAM, IN A SANDBOX (cutbox-rows.mjs): the forced cells as the released guide's own fill.sh prints them over the translation aa29992f382a99a7… (all of the seat's roots in one cut). By AI agents, Wed Nov 11 2026. No macro, syntax, notation, axiom, sorry.
-/
import Derived.Test.YtkmgbcpleopdgaaChecked
import GoSem.Claim
import GoSem.ClaimJoined
import GoSem.ClaimMapViews
import Derived.JoinedTies
import Derived.KernelRfl
namespace Go.Proofs.Ytkmgbcpleopdgaa
/- THE CELL 'sum', in the pinned program and in every row, IS THE sha256 OF THE DUMP (.gsa) THAT YtkmgbcpleopdgaaProg.lean LOADS. Nothing in Lean hashes anything: it is a label: what it is worth is what the hold of that sum in a sandbox is worth. -/
noncomputable def Try.pinned : Pinned := { name := "ytkmgbcpleopdgaa", sum := "aa29992f382a99a777d5a2eb25627259ae54ef1e36434e91ebf4eb8d6bd7d35e", checked := Try.checked }
namespace Rows
def none {H : Type} : Left H := { results := [], args := [] }

/-- 'shredderlaw2.BitsPack': WHATEVER THE INPUT: true; the input reads as it did. -/
def bitsPackSpec : ChangeSpec := { name := "bitsPack", fn := fun _ => fun
  | [d1, d2] => { results := [.lit (.bool true)], args := [d1, d2] }
  | _ => none }
def bitsPackRow : OpenClaim := { program := "ytkmgbcpleopdgaa", sum := "aa29992f382a99a777d5a2eb25627259ae54ef1e36434e91ebf4eb8d6bd7d35e", func := "shredder/shredderlaw2.BitsPack", spec := "bitsPack", apart := false }
def BitsPackSaid : Prop := bitsPackRow.holds Try.pinned (OpenSpec.ofChange bitsPackSpec)

/-- ITS FALSE NEIGHBOUR: 'it returns false'. Refute it at one input. -/
def bitsPackWrong : ChangeSpec := { name := "bitsPack", fn := fun _ => fun
  | [d1, d2] => { results := [.lit (.bool false)], args := [d1, d2] }
  | _ => none }
def BitsPackWrongFalsely : Prop := bitsPackRow.holds Try.pinned (OpenSpec.ofChange bitsPackWrong)

/-- 'shredderlaw2.BitsSizes': WHATEVER THE INPUT: true; the input reads as it did. -/
def bitsSizesSpec : ChangeSpec := { name := "bitsSizes", fn := fun _ => fun
  | [d1, d2] => { results := [.lit (.bool true)], args := [d1, d2] }
  | _ => none }
def bitsSizesRow : OpenClaim := { program := "ytkmgbcpleopdgaa", sum := "aa29992f382a99a777d5a2eb25627259ae54ef1e36434e91ebf4eb8d6bd7d35e", func := "shredder/shredderlaw2.BitsSizes", spec := "bitsSizes", apart := false }
def BitsSizesSaid : Prop := bitsSizesRow.holds Try.pinned (OpenSpec.ofChange bitsSizesSpec)

/-- ITS FALSE NEIGHBOUR: 'it returns false'. Refute it at one input. -/
def bitsSizesWrong : ChangeSpec := { name := "bitsSizes", fn := fun _ => fun
  | [d1, d2] => { results := [.lit (.bool false)], args := [d1, d2] }
  | _ => none }
def BitsSizesWrongFalsely : Prop := bitsSizesRow.holds Try.pinned (OpenSpec.ofChange bitsSizesWrong)

/-- 'shredderlaw2.BitsPlaces': WHATEVER THE INPUT: true; the input reads as it did. -/
def bitsPlacesSpec : ChangeSpec := { name := "bitsPlaces", fn := fun _ => fun
  | [d1, d2] => { results := [.lit (.bool true)], args := [d1, d2] }
  | _ => none }
def bitsPlacesRow : OpenClaim := { program := "ytkmgbcpleopdgaa", sum := "aa29992f382a99a777d5a2eb25627259ae54ef1e36434e91ebf4eb8d6bd7d35e", func := "shredder/shredderlaw2.BitsPlaces", spec := "bitsPlaces", apart := false }
def BitsPlacesSaid : Prop := bitsPlacesRow.holds Try.pinned (OpenSpec.ofChange bitsPlacesSpec)

/-- ITS FALSE NEIGHBOUR: 'it returns false'. Refute it at one input. -/
def bitsPlacesWrong : ChangeSpec := { name := "bitsPlaces", fn := fun _ => fun
  | [d1, d2] => { results := [.lit (.bool false)], args := [d1, d2] }
  | _ => none }
def BitsPlacesWrongFalsely : Prop := bitsPlacesRow.holds Try.pinned (OpenSpec.ofChange bitsPlacesWrong)

/-- 'shredderlaw2.BitsWidth': WHATEVER THE INPUT: true; the input reads as it did. -/
def bitsWidthSpec : ChangeSpec := { name := "bitsWidth", fn := fun _ => fun
  | [d1, d2] => { results := [.lit (.bool true)], args := [d1, d2] }
  | _ => none }
def bitsWidthRow : OpenClaim := { program := "ytkmgbcpleopdgaa", sum := "aa29992f382a99a777d5a2eb25627259ae54ef1e36434e91ebf4eb8d6bd7d35e", func := "shredder/shredderlaw2.BitsWidth", spec := "bitsWidth", apart := false }
def BitsWidthSaid : Prop := bitsWidthRow.holds Try.pinned (OpenSpec.ofChange bitsWidthSpec)

/-- ITS FALSE NEIGHBOUR: 'it returns false'. Refute it at one input. -/
def bitsWidthWrong : ChangeSpec := { name := "bitsWidth", fn := fun _ => fun
  | [d1, d2] => { results := [.lit (.bool false)], args := [d1, d2] }
  | _ => none }
def BitsWidthWrongFalsely : Prop := bitsWidthRow.holds Try.pinned (OpenSpec.ofChange bitsWidthWrong)

/-- 'shredderlaw2.BitsUnpack': WHATEVER THE INPUT: true; the input reads as it did. -/
def bitsUnpackSpec : ChangeSpec := { name := "bitsUnpack", fn := fun _ => fun
  | [d1, d2, d3, d4, d5, d6, d7] => { results := [.lit (.bool true)], args := [d1, d2, d3, d4, d5, d6, d7] }
  | _ => none }
def bitsUnpackRow : OpenClaim := { program := "ytkmgbcpleopdgaa", sum := "aa29992f382a99a777d5a2eb25627259ae54ef1e36434e91ebf4eb8d6bd7d35e", func := "shredder/shredderlaw2.BitsUnpack", spec := "bitsUnpack", apart := false }
def BitsUnpackSaid : Prop := bitsUnpackRow.holds Try.pinned (OpenSpec.ofChange bitsUnpackSpec)

/-- ITS FALSE NEIGHBOUR: 'it returns false'. Refute it at one input. -/
def bitsUnpackWrong : ChangeSpec := { name := "bitsUnpack", fn := fun _ => fun
  | [d1, d2, d3, d4, d5, d6, d7] => { results := [.lit (.bool false)], args := [d1, d2, d3, d4, d5, d6, d7] }
  | _ => none }
def BitsUnpackWrongFalsely : Prop := bitsUnpackRow.holds Try.pinned (OpenSpec.ofChange bitsUnpackWrong)

/-- 'shredderlaw2.BitsBack': WHATEVER THE INPUT: true; the input reads as it did. -/
def bitsBackSpec : ChangeSpec := { name := "bitsBack", fn := fun _ => fun
  | [d1, d2] => { results := [.lit (.bool true)], args := [d1, d2] }
  | _ => none }
def bitsBackRow : OpenClaim := { program := "ytkmgbcpleopdgaa", sum := "aa29992f382a99a777d5a2eb25627259ae54ef1e36434e91ebf4eb8d6bd7d35e", func := "shredder/shredderlaw2.BitsBack", spec := "bitsBack", apart := false }
def BitsBackSaid : Prop := bitsBackRow.holds Try.pinned (OpenSpec.ofChange bitsBackSpec)

/-- ITS FALSE NEIGHBOUR: 'it returns false'. Refute it at one input. -/
def bitsBackWrong : ChangeSpec := { name := "bitsBack", fn := fun _ => fun
  | [d1, d2] => { results := [.lit (.bool false)], args := [d1, d2] }
  | _ => none }
def BitsBackWrongFalsely : Prop := bitsBackRow.holds Try.pinned (OpenSpec.ofChange bitsBackWrong)

/-- 'shredderlaw2.BitsArgs': WHATEVER THE INPUT: true; the input reads as it did. -/
def bitsArgsSpec : ChangeSpec := { name := "bitsArgs", fn := fun _ => fun
  | [d1, d2, d3] => { results := [.lit (.bool true)], args := [d1, d2, d3] }
  | _ => none }
def bitsArgsRow : OpenClaim := { program := "ytkmgbcpleopdgaa", sum := "aa29992f382a99a777d5a2eb25627259ae54ef1e36434e91ebf4eb8d6bd7d35e", func := "shredder/shredderlaw2.BitsArgs", spec := "bitsArgs", apart := false }
def BitsArgsSaid : Prop := bitsArgsRow.holds Try.pinned (OpenSpec.ofChange bitsArgsSpec)

/-- ITS FALSE NEIGHBOUR: 'it returns false'. Refute it at one input. -/
def bitsArgsWrong : ChangeSpec := { name := "bitsArgs", fn := fun _ => fun
  | [d1, d2, d3] => { results := [.lit (.bool false)], args := [d1, d2, d3] }
  | _ => none }
def BitsArgsWrongFalsely : Prop := bitsArgsRow.holds Try.pinned (OpenSpec.ofChange bitsArgsWrong)

/-- 'shredderlaw2.BitsBytes': WHATEVER THE INPUT: true; the input reads as it did. -/
def bitsBytesSpec : ChangeSpec := { name := "bitsBytes", fn := fun _ => fun
  | [d] => { results := [.lit (.bool true)], args := [d] }
  | _ => none }
def bitsBytesRow : OpenClaim := { program := "ytkmgbcpleopdgaa", sum := "aa29992f382a99a777d5a2eb25627259ae54ef1e36434e91ebf4eb8d6bd7d35e", func := "shredder/shredderlaw2.BitsBytes", spec := "bitsBytes", apart := false }
def BitsBytesSaid : Prop := bitsBytesRow.holds Try.pinned (OpenSpec.ofChange bitsBytesSpec)

/-- ITS FALSE NEIGHBOUR: 'it returns false'. Refute it at one input. -/
def bitsBytesWrong : ChangeSpec := { name := "bitsBytes", fn := fun _ => fun
  | [d] => { results := [.lit (.bool false)], args := [d] }
  | _ => none }
def BitsBytesWrongFalsely : Prop := bitsBytesRow.holds Try.pinned (OpenSpec.ofChange bitsBytesWrong)

/- THE SECOND FORM. 'bulk': how many values and letters a reading holds, each counted each time it is reached (what is shared counts as often as it is met; a slice's spare places count too). A statement '..UptoSaid' is the law's where the arguments, and the package variables that the reading takes, are together of bulk at most 1048576: NARROWER than '..Said'. Prove '..Said' where nothing that the law and all that it calls make is longer than what came in: it says more and counts as full. Else prove '..UptoSaid'. A law counts once. -/
mutual
def uptoBulk {H : Type} : DataW H → Nat
  | .lit (.string bytes) => bytes.length + 1
  | .lit _ => 1
  | .nil => 1
  | .ptr d => uptoBulk d + 1
  | .slice elems spare => uptoBulkAll elems + uptoBulkAll spare + 1
  | .agg parts => uptoBulkAll parts + 1
  | .iface _ d => uptoBulk d + 1
  | .map entries => uptoBulkEntries entries + 1
  | .held _ => 1
def uptoBulkAll {H : Type} : List (DataW H) → Nat
  | [] => 0
  | d :: r => uptoBulk d + uptoBulkAll r
def uptoBulkEntries {H : Type} : List (Lit × DataW H) → Nat
  | [] => 0
  | x :: r => uptoBulkEntry x + uptoBulkEntries r
def uptoBulkEntry {H : Type} : Lit × DataW H → Nat
  | (.string bytes, d) => bytes.length + uptoBulk d + 1
  | (_, d) => uptoBulk d + 1
 end
def uptoSmall : (H : Type) → List (DataW H) → Bool := fun _ ds => decide (uptoBulkAll ds ≤ 1048576)
def OpenSpec.upto (s : _root_.Go.ChangeSpec) : _root_.Go.OpenSpec := { _root_.Go.OpenSpec.ofChange s with cond := some uptoSmall }

/-- 'shredderlaw2.BitsPack', WHERE WHAT IT READS IS OF BULK AT MOST 1048576: true; the input reads as it did. -/
def bitsPackUptoRow : OpenClaim := { program := "ytkmgbcpleopdgaa", sum := "aa29992f382a99a777d5a2eb25627259ae54ef1e36434e91ebf4eb8d6bd7d35e", func := "shredder/shredderlaw2.BitsPack", spec := "bitsPack", apart := false, narrowed := true }
def BitsPackUptoSaid : Prop := bitsPackUptoRow.holds Try.pinned (OpenSpec.upto bitsPackSpec)

/-- 'shredderlaw2.BitsSizes', WHERE WHAT IT READS IS OF BULK AT MOST 1048576: true; the input reads as it did. -/
def bitsSizesUptoRow : OpenClaim := { program := "ytkmgbcpleopdgaa", sum := "aa29992f382a99a777d5a2eb25627259ae54ef1e36434e91ebf4eb8d6bd7d35e", func := "shredder/shredderlaw2.BitsSizes", spec := "bitsSizes", apart := false, narrowed := true }
def BitsSizesUptoSaid : Prop := bitsSizesUptoRow.holds Try.pinned (OpenSpec.upto bitsSizesSpec)

/-- 'shredderlaw2.BitsPlaces', WHERE WHAT IT READS IS OF BULK AT MOST 1048576: true; the input reads as it did. -/
def bitsPlacesUptoRow : OpenClaim := { program := "ytkmgbcpleopdgaa", sum := "aa29992f382a99a777d5a2eb25627259ae54ef1e36434e91ebf4eb8d6bd7d35e", func := "shredder/shredderlaw2.BitsPlaces", spec := "bitsPlaces", apart := false, narrowed := true }
def BitsPlacesUptoSaid : Prop := bitsPlacesUptoRow.holds Try.pinned (OpenSpec.upto bitsPlacesSpec)

/-- 'shredderlaw2.BitsWidth', WHERE WHAT IT READS IS OF BULK AT MOST 1048576: true; the input reads as it did. -/
def bitsWidthUptoRow : OpenClaim := { program := "ytkmgbcpleopdgaa", sum := "aa29992f382a99a777d5a2eb25627259ae54ef1e36434e91ebf4eb8d6bd7d35e", func := "shredder/shredderlaw2.BitsWidth", spec := "bitsWidth", apart := false, narrowed := true }
def BitsWidthUptoSaid : Prop := bitsWidthUptoRow.holds Try.pinned (OpenSpec.upto bitsWidthSpec)

/-- 'shredderlaw2.BitsUnpack', WHERE WHAT IT READS IS OF BULK AT MOST 1048576: true; the input reads as it did. -/
def bitsUnpackUptoRow : OpenClaim := { program := "ytkmgbcpleopdgaa", sum := "aa29992f382a99a777d5a2eb25627259ae54ef1e36434e91ebf4eb8d6bd7d35e", func := "shredder/shredderlaw2.BitsUnpack", spec := "bitsUnpack", apart := false, narrowed := true }
def BitsUnpackUptoSaid : Prop := bitsUnpackUptoRow.holds Try.pinned (OpenSpec.upto bitsUnpackSpec)

/-- 'shredderlaw2.BitsBack', WHERE WHAT IT READS IS OF BULK AT MOST 1048576: true; the input reads as it did. -/
def bitsBackUptoRow : OpenClaim := { program := "ytkmgbcpleopdgaa", sum := "aa29992f382a99a777d5a2eb25627259ae54ef1e36434e91ebf4eb8d6bd7d35e", func := "shredder/shredderlaw2.BitsBack", spec := "bitsBack", apart := false, narrowed := true }
def BitsBackUptoSaid : Prop := bitsBackUptoRow.holds Try.pinned (OpenSpec.upto bitsBackSpec)

/-- 'shredderlaw2.BitsArgs', WHERE WHAT IT READS IS OF BULK AT MOST 1048576: true; the input reads as it did. -/
def bitsArgsUptoRow : OpenClaim := { program := "ytkmgbcpleopdgaa", sum := "aa29992f382a99a777d5a2eb25627259ae54ef1e36434e91ebf4eb8d6bd7d35e", func := "shredder/shredderlaw2.BitsArgs", spec := "bitsArgs", apart := false, narrowed := true }
def BitsArgsUptoSaid : Prop := bitsArgsUptoRow.holds Try.pinned (OpenSpec.upto bitsArgsSpec)

/-- 'shredderlaw2.BitsBytes', WHERE WHAT IT READS IS OF BULK AT MOST 1048576: true; the input reads as it did. -/
def bitsBytesUptoRow : OpenClaim := { program := "ytkmgbcpleopdgaa", sum := "aa29992f382a99a777d5a2eb25627259ae54ef1e36434e91ebf4eb8d6bd7d35e", func := "shredder/shredderlaw2.BitsBytes", spec := "bitsBytes", apart := false, narrowed := true }
def BitsBytesUptoSaid : Prop := bitsBytesUptoRow.holds Try.pinned (OpenSpec.upto bitsBytesSpec)

end Rows
end Go.Proofs.Ytkmgbcpleopdgaa
