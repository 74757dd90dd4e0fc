/-
  No cell of these rows narrows 'for every input' (looked for: loops, veiled, ifaces, maps, wideKeys, modest, calm, conditions, laid).
  DERIVED. THE GIVEN ROWS OF THIS SEAT. 6 by the template 'for every input the law returns true; each argument reads behind the call as it read before'; 0 by the template 'total and deterministic' (their statements: YtbooofbgfihogaaTotals.lean).
  GIVEN WITH THE SEED: the statements are not yours to turn. If you find one false, say at which input.
  Laid BY PROGRAM, IN A SANDBOX (cutbox-rows.mjs): the forced cells as the released guide's own fill.sh prints them over the translation b622b0697c02bf12… (all of the seat's roots in one cut). By AI agents, Wed Nov 11 2026. No macro, syntax, notation, axiom, sorry.
-/
import Derived.Test.YtbooofbgfihogaaChecked
import GoSem.Claim
import GoSem.ClaimJoined
import GoSem.ClaimMapViews
import Derived.JoinedTies
import Derived.KernelRfl
namespace Go.Proofs.Ytbooofbgfihogaa
/- THE CELL 'sum', in the pinned program and in every row, IS THE sha256 OF THE DUMP (.gsa) THAT YtbooofbgfihogaaProg.lean LOADS. Nothing in Lean hashes anything: it is a label: what it is worth is what the hold of that sum in a sandbox is worth. -/
noncomputable def Try.pinned : Pinned := { name := "ytbooofbgfihogaa", sum := "b622b0697c02bf12de08981775cfbcb5b91d452c187e2bea1fa26c7aa72ca364", checked := Try.checked }
namespace Rows
def none {H : Type} : Left H := { results := [], args := [] }

/-- 'shredderlaw1.CursorTakes': WHATEVER THE INPUT: true; the input reads as it did. -/
def cursorTakesSpec : ChangeSpec := { name := "cursorTakes", fn := fun _ => fun
  | [d1, d2] => { results := [.lit (.bool true)], args := [d1, d2] }
  | _ => none }
def cursorTakesRow : OpenClaim := { program := "ytbooofbgfihogaa", sum := "b622b0697c02bf12de08981775cfbcb5b91d452c187e2bea1fa26c7aa72ca364", func := "shredder/shredderlaw1.CursorTakes", spec := "cursorTakes", apart := false }
def CursorTakesSaid : Prop := cursorTakesRow.holds Try.pinned (OpenSpec.ofChange cursorTakesSpec)

/-- ITS FALSE NEIGHBOUR: 'it returns false'. Refute it at one input. -/
def cursorTakesWrong : ChangeSpec := { name := "cursorTakes", fn := fun _ => fun
  | [d1, d2] => { results := [.lit (.bool false)], args := [d1, d2] }
  | _ => none }
def CursorTakesWrongFalsely : Prop := cursorTakesRow.holds Try.pinned (OpenSpec.ofChange cursorTakesWrong)

/-- 'shredderlaw1.CursorTwo': WHATEVER THE INPUT: true; the input reads as it did. -/
def cursorTwoSpec : ChangeSpec := { name := "cursorTwo", fn := fun _ => fun
  | [d1, d2] => { results := [.lit (.bool true)], args := [d1, d2] }
  | _ => none }
def cursorTwoRow : OpenClaim := { program := "ytbooofbgfihogaa", sum := "b622b0697c02bf12de08981775cfbcb5b91d452c187e2bea1fa26c7aa72ca364", func := "shredder/shredderlaw1.CursorTwo", spec := "cursorTwo", apart := false }
def CursorTwoSaid : Prop := cursorTwoRow.holds Try.pinned (OpenSpec.ofChange cursorTwoSpec)

/-- ITS FALSE NEIGHBOUR: 'it returns false'. Refute it at one input. -/
def cursorTwoWrong : ChangeSpec := { name := "cursorTwo", fn := fun _ => fun
  | [d1, d2] => { results := [.lit (.bool false)], args := [d1, d2] }
  | _ => none }
def CursorTwoWrongFalsely : Prop := cursorTwoRow.holds Try.pinned (OpenSpec.ofChange cursorTwoWrong)

/-- 'shredderlaw1.CursorBack': WHATEVER THE INPUT: true; the input reads as it did. -/
def cursorBackSpec : ChangeSpec := { name := "cursorBack", fn := fun _ => fun
  | [d1, d2] => { results := [.lit (.bool true)], args := [d1, d2] }
  | _ => none }
def cursorBackRow : OpenClaim := { program := "ytbooofbgfihogaa", sum := "b622b0697c02bf12de08981775cfbcb5b91d452c187e2bea1fa26c7aa72ca364", func := "shredder/shredderlaw1.CursorBack", spec := "cursorBack", unfollowed := true, recurses := true, apart := false }
def CursorBackSaid : Prop := cursorBackRow.holds Try.pinned (OpenSpec.ofChange cursorBackSpec)

/-- ITS FALSE NEIGHBOUR: 'it returns false'. Refute it at one input. -/
def cursorBackWrong : ChangeSpec := { name := "cursorBack", fn := fun _ => fun
  | [d1, d2] => { results := [.lit (.bool false)], args := [d1, d2] }
  | _ => none }
def CursorBackWrongFalsely : Prop := cursorBackRow.holds Try.pinned (OpenSpec.ofChange cursorBackWrong)

/-- 'shredderlaw1.CursorFails': WHATEVER THE INPUT: true; the input reads as it did. -/
def cursorFailsSpec : ChangeSpec := { name := "cursorFails", fn := fun _ => fun
  | [d1, d2, d3] => { results := [.lit (.bool true)], args := [d1, d2, d3] }
  | _ => none }
def cursorFailsRow : OpenClaim := { program := "ytbooofbgfihogaa", sum := "b622b0697c02bf12de08981775cfbcb5b91d452c187e2bea1fa26c7aa72ca364", func := "shredder/shredderlaw1.CursorFails", spec := "cursorFails", unfollowed := true, recurses := true, apart := false }
def CursorFailsSaid : Prop := cursorFailsRow.holds Try.pinned (OpenSpec.ofChange cursorFailsSpec)

/-- ITS FALSE NEIGHBOUR: 'it returns false'. Refute it at one input. -/
def cursorFailsWrong : ChangeSpec := { name := "cursorFails", fn := fun _ => fun
  | [d1, d2, d3] => { results := [.lit (.bool false)], args := [d1, d2, d3] }
  | _ => none }
def CursorFailsWrongFalsely : Prop := cursorFailsRow.holds Try.pinned (OpenSpec.ofChange cursorFailsWrong)

/-- 'shredderlaw1.CursorReads': WHATEVER THE INPUT: true; the input reads as it did. -/
def cursorReadsSpec : ChangeSpec := { name := "cursorReads", fn := fun _ => fun
  | [d1, d2, d3, d4] => { results := [.lit (.bool true)], args := [d1, d2, d3, d4] }
  | _ => none }
def cursorReadsRow : OpenClaim := { program := "ytbooofbgfihogaa", sum := "b622b0697c02bf12de08981775cfbcb5b91d452c187e2bea1fa26c7aa72ca364", func := "shredder/shredderlaw1.CursorReads", spec := "cursorReads", unfollowed := true, recurses := true, apart := false }
def CursorReadsSaid : Prop := cursorReadsRow.holds Try.pinned (OpenSpec.ofChange cursorReadsSpec)

/-- ITS FALSE NEIGHBOUR: 'it returns false'. Refute it at one input. -/
def cursorReadsWrong : ChangeSpec := { name := "cursorReads", fn := fun _ => fun
  | [d1, d2, d3, d4] => { results := [.lit (.bool false)], args := [d1, d2, d3, d4] }
  | _ => none }
def CursorReadsWrongFalsely : Prop := cursorReadsRow.holds Try.pinned (OpenSpec.ofChange cursorReadsWrong)

/-- 'shredderlaw1.CursorCuts': WHATEVER THE INPUT: true; the input reads as it did. -/
def cursorCutsSpec : ChangeSpec := { name := "cursorCuts", fn := fun _ => fun
  | [d1, d2] => { results := [.lit (.bool true)], args := [d1, d2] }
  | _ => none }
def cursorCutsRow : OpenClaim := { program := "ytbooofbgfihogaa", sum := "b622b0697c02bf12de08981775cfbcb5b91d452c187e2bea1fa26c7aa72ca364", func := "shredder/shredderlaw1.CursorCuts", spec := "cursorCuts", unfollowed := true, recurses := true, apart := false }
def CursorCutsSaid : Prop := cursorCutsRow.holds Try.pinned (OpenSpec.ofChange cursorCutsSpec)

/-- ITS FALSE NEIGHBOUR: 'it returns false'. Refute it at one input. -/
def cursorCutsWrong : ChangeSpec := { name := "cursorCuts", fn := fun _ => fun
  | [d1, d2] => { results := [.lit (.bool false)], args := [d1, d2] }
  | _ => none }
def CursorCutsWrongFalsely : Prop := cursorCutsRow.holds Try.pinned (OpenSpec.ofChange cursorCutsWrong)

/- THE SECOND FORM. 'bulk': how many values and letters a reading holds, each counted each time it is reached (what is shared counts as often as it is met; a slice's spare places count too). A statement '..UptoSaid' is the law's where the arguments, and the package variables that the reading takes, are together of bulk at most 1048576: NARROWER than '..Said'. Prove '..Said' where nothing that the law and all that it calls make is longer than what came in: it says more and counts as full. Else prove '..UptoSaid'. A law counts once. -/
mutual
def uptoBulk {H : Type} : DataW H → Nat
  | .lit (.string bytes) => bytes.length + 1
  | .lit _ => 1
  | .nil => 1
  | .ptr d => uptoBulk d + 1
  | .slice elems spare => uptoBulkAll elems + uptoBulkAll spare + 1
  | .agg parts => uptoBulkAll parts + 1
  | .iface _ d => uptoBulk d + 1
  | .map entries => uptoBulkEntries entries + 1
  | .held _ => 1
def uptoBulkAll {H : Type} : List (DataW H) → Nat
  | [] => 0
  | d :: r => uptoBulk d + uptoBulkAll r
def uptoBulkEntries {H : Type} : List (Lit × DataW H) → Nat
  | [] => 0
  | x :: r => uptoBulkEntry x + uptoBulkEntries r
def uptoBulkEntry {H : Type} : Lit × DataW H → Nat
  | (.string bytes, d) => bytes.length + uptoBulk d + 1
  | (_, d) => uptoBulk d + 1
 end
def uptoSmall : (H : Type) → List (DataW H) → Bool := fun _ ds => decide (uptoBulkAll ds ≤ 1048576)
def OpenSpec.upto (s : _root_.Go.ChangeSpec) : _root_.Go.OpenSpec := { _root_.Go.OpenSpec.ofChange s with cond := some uptoSmall }

/-- 'shredderlaw1.CursorTakes', WHERE WHAT IT READS IS OF BULK AT MOST 1048576: true; the input reads as it did. -/
def cursorTakesUptoRow : OpenClaim := { program := "ytbooofbgfihogaa", sum := "b622b0697c02bf12de08981775cfbcb5b91d452c187e2bea1fa26c7aa72ca364", func := "shredder/shredderlaw1.CursorTakes", spec := "cursorTakes", apart := false, narrowed := true }
def CursorTakesUptoSaid : Prop := cursorTakesUptoRow.holds Try.pinned (OpenSpec.upto cursorTakesSpec)

/-- 'shredderlaw1.CursorTwo', WHERE WHAT IT READS IS OF BULK AT MOST 1048576: true; the input reads as it did. -/
def cursorTwoUptoRow : OpenClaim := { program := "ytbooofbgfihogaa", sum := "b622b0697c02bf12de08981775cfbcb5b91d452c187e2bea1fa26c7aa72ca364", func := "shredder/shredderlaw1.CursorTwo", spec := "cursorTwo", apart := false, narrowed := true }
def CursorTwoUptoSaid : Prop := cursorTwoUptoRow.holds Try.pinned (OpenSpec.upto cursorTwoSpec)

/-- 'shredderlaw1.CursorBack', WHERE WHAT IT READS IS OF BULK AT MOST 1048576: true; the input reads as it did. -/
def cursorBackUptoRow : OpenClaim := { program := "ytbooofbgfihogaa", sum := "b622b0697c02bf12de08981775cfbcb5b91d452c187e2bea1fa26c7aa72ca364", func := "shredder/shredderlaw1.CursorBack", spec := "cursorBack", unfollowed := true, recurses := true, apart := false, narrowed := true }
def CursorBackUptoSaid : Prop := cursorBackUptoRow.holds Try.pinned (OpenSpec.upto cursorBackSpec)

/-- 'shredderlaw1.CursorFails', WHERE WHAT IT READS IS OF BULK AT MOST 1048576: true; the input reads as it did. -/
def cursorFailsUptoRow : OpenClaim := { program := "ytbooofbgfihogaa", sum := "b622b0697c02bf12de08981775cfbcb5b91d452c187e2bea1fa26c7aa72ca364", func := "shredder/shredderlaw1.CursorFails", spec := "cursorFails", unfollowed := true, recurses := true, apart := false, narrowed := true }
def CursorFailsUptoSaid : Prop := cursorFailsUptoRow.holds Try.pinned (OpenSpec.upto cursorFailsSpec)

/-- 'shredderlaw1.CursorReads', WHERE WHAT IT READS IS OF BULK AT MOST 1048576: true; the input reads as it did. -/
def cursorReadsUptoRow : OpenClaim := { program := "ytbooofbgfihogaa", sum := "b622b0697c02bf12de08981775cfbcb5b91d452c187e2bea1fa26c7aa72ca364", func := "shredder/shredderlaw1.CursorReads", spec := "cursorReads", unfollowed := true, recurses := true, apart := false, narrowed := true }
def CursorReadsUptoSaid : Prop := cursorReadsUptoRow.holds Try.pinned (OpenSpec.upto cursorReadsSpec)

/-- 'shredderlaw1.CursorCuts', WHERE WHAT IT READS IS OF BULK AT MOST 1048576: true; the input reads as it did. -/
def cursorCutsUptoRow : OpenClaim := { program := "ytbooofbgfihogaa", sum := "b622b0697c02bf12de08981775cfbcb5b91d452c187e2bea1fa26c7aa72ca364", func := "shredder/shredderlaw1.CursorCuts", spec := "cursorCuts", unfollowed := true, recurses := true, apart := false, narrowed := true }
def CursorCutsUptoSaid : Prop := cursorCutsUptoRow.holds Try.pinned (OpenSpec.upto cursorCutsSpec)

end Rows
end Go.Proofs.Ytbooofbgfihogaa
