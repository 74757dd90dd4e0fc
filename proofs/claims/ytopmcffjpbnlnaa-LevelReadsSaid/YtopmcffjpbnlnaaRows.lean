/-
  No cell of these rows narrows 'for every input' (looked for: loops, veiled, ifaces, maps, wideKeys, modest, calm, conditions, laid).
  DERIVED. THE GIVEN ROWS OF THIS SEAT. 7 by the template 'for every input the law returns true; each argument reads behind the call as it read before'; 0 by the template 'total and deterministic' (their statements: YtopmcffjpbnlnaaTotals.lean).
  GIVEN WITH THE SEED: the statements are not yours to turn. If you find one false, say at which input.
  Laid BY PROGRAM, IN A SANDBOX (cutbox-rows.mjs): the forced cells as the released guide's own fill.sh prints them over the translation a5c583c94c1690d6… (all of the seat's roots in one cut). By AI agents, Wed Nov 11 2026. No macro, syntax, notation, axiom, sorry.
-/
import Derived.Test.YtopmcffjpbnlnaaChecked
import GoSem.Claim
import GoSem.ClaimJoined
import GoSem.ClaimMapViews
import Derived.JoinedTies
import Derived.KernelRfl
namespace Go.Proofs.Ytopmcffjpbnlnaa
/- THE CELL 'sum', in the pinned program and in every row, IS THE sha256 OF THE DUMP (.gsa) THAT YtopmcffjpbnlnaaProg.lean LOADS. Nothing in Lean hashes anything: it is a label: what it is worth is what the hold of that sum in a sandbox is worth. -/
noncomputable def Try.pinned : Pinned := { name := "ytopmcffjpbnlnaa", sum := "a5c583c94c1690d6dd0b38f145af0010bdd013a99ff92b24f3058a68d68e4bc9", checked := Try.checked }
namespace Rows
def none {H : Type} : Left H := { results := [], args := [] }

/-- 'shredderlaw10.LevelShort': WHATEVER THE INPUT: true; the input reads as it did. -/
def levelShortSpec : ChangeSpec := { name := "levelShort", fn := fun _ => fun
  | [d1, d2, d3, d4] => { results := [.lit (.bool true)], args := [d1, d2, d3, d4] }
  | _ => none }
def levelShortRow : OpenClaim := { program := "ytopmcffjpbnlnaa", sum := "a5c583c94c1690d6dd0b38f145af0010bdd013a99ff92b24f3058a68d68e4bc9", func := "shredder/shredderlaw10.LevelShort", spec := "levelShort", apart := false }
def LevelShortSaid : Prop := levelShortRow.holds Try.pinned (OpenSpec.ofChange levelShortSpec)

/-- ITS FALSE NEIGHBOUR: 'it returns false'. Refute it at one input. -/
def levelShortWrong : ChangeSpec := { name := "levelShort", fn := fun _ => fun
  | [d1, d2, d3, d4] => { results := [.lit (.bool false)], args := [d1, d2, d3, d4] }
  | _ => none }
def LevelShortWrongFalsely : Prop := levelShortRow.holds Try.pinned (OpenSpec.ofChange levelShortWrong)

/-- 'shredderlaw10.LevelBack': WHATEVER THE INPUT: true; the input reads as it did. -/
def levelBackSpec : ChangeSpec := { name := "levelBack", fn := fun _ => fun
  | [d1, d2] => { results := [.lit (.bool true)], args := [d1, d2] }
  | _ => none }
def levelBackRow : OpenClaim := { program := "ytopmcffjpbnlnaa", sum := "a5c583c94c1690d6dd0b38f145af0010bdd013a99ff92b24f3058a68d68e4bc9", func := "shredder/shredderlaw10.LevelBack", spec := "levelBack", unfollowed := true, recurses := true, apart := false }
def LevelBackSaid : Prop := levelBackRow.holds Try.pinned (OpenSpec.ofChange levelBackSpec)

/-- ITS FALSE NEIGHBOUR: 'it returns false'. Refute it at one input. -/
def levelBackWrong : ChangeSpec := { name := "levelBack", fn := fun _ => fun
  | [d1, d2] => { results := [.lit (.bool false)], args := [d1, d2] }
  | _ => none }
def LevelBackWrongFalsely : Prop := levelBackRow.holds Try.pinned (OpenSpec.ofChange levelBackWrong)

/-- 'shredderlaw10.LevelReads': WHATEVER THE INPUT: true; the input reads as it did. -/
def levelReadsSpec : ChangeSpec := { name := "levelReads", fn := fun _ => fun
  | [d1, d2, d3, d4, d5, d6, d7] => { results := [.lit (.bool true)], args := [d1, d2, d3, d4, d5, d6, d7] }
  | _ => none }
def levelReadsRow : OpenClaim := { program := "ytopmcffjpbnlnaa", sum := "a5c583c94c1690d6dd0b38f145af0010bdd013a99ff92b24f3058a68d68e4bc9", func := "shredder/shredderlaw10.LevelReads", spec := "levelReads", unfollowed := true, recurses := true, apart := false }
def LevelReadsSaid : Prop := levelReadsRow.holds Try.pinned (OpenSpec.ofChange levelReadsSpec)

/-- ITS FALSE NEIGHBOUR: 'it returns false'. Refute it at one input. -/
def levelReadsWrong : ChangeSpec := { name := "levelReads", fn := fun _ => fun
  | [d1, d2, d3, d4, d5, d6, d7] => { results := [.lit (.bool false)], args := [d1, d2, d3, d4, d5, d6, d7] }
  | _ => none }
def LevelReadsWrongFalsely : Prop := levelReadsRow.holds Try.pinned (OpenSpec.ofChange levelReadsWrong)

/-- 'shredderlaw10.LevelRuns': WHATEVER THE INPUT: true; the input reads as it did. -/
def levelRunsSpec : ChangeSpec := { name := "levelRuns", fn := fun _ => fun
  | [d1, d2, d3] => { results := [.lit (.bool true)], args := [d1, d2, d3] }
  | _ => none }
def levelRunsRow : OpenClaim := { program := "ytopmcffjpbnlnaa", sum := "a5c583c94c1690d6dd0b38f145af0010bdd013a99ff92b24f3058a68d68e4bc9", func := "shredder/shredderlaw10.LevelRuns", spec := "levelRuns", unfollowed := true, recurses := true, apart := false }
def LevelRunsSaid : Prop := levelRunsRow.holds Try.pinned (OpenSpec.ofChange levelRunsSpec)

/-- ITS FALSE NEIGHBOUR: 'it returns false'. Refute it at one input. -/
def levelRunsWrong : ChangeSpec := { name := "levelRuns", fn := fun _ => fun
  | [d1, d2, d3] => { results := [.lit (.bool false)], args := [d1, d2, d3] }
  | _ => none }
def LevelRunsWrongFalsely : Prop := levelRunsRow.holds Try.pinned (OpenSpec.ofChange levelRunsWrong)

/-- 'shredderlaw10.LevelNone': WHATEVER THE INPUT: true; the input reads as it did. -/
def levelNoneSpec : ChangeSpec := { name := "levelNone", fn := fun _ => fun
  | [d1, d2] => { results := [.lit (.bool true)], args := [d1, d2] }
  | _ => none }
def levelNoneRow : OpenClaim := { program := "ytopmcffjpbnlnaa", sum := "a5c583c94c1690d6dd0b38f145af0010bdd013a99ff92b24f3058a68d68e4bc9", func := "shredder/shredderlaw10.LevelNone", spec := "levelNone", unfollowed := true, recurses := true, apart := false }
def LevelNoneSaid : Prop := levelNoneRow.holds Try.pinned (OpenSpec.ofChange levelNoneSpec)

/-- ITS FALSE NEIGHBOUR: 'it returns false'. Refute it at one input. -/
def levelNoneWrong : ChangeSpec := { name := "levelNone", fn := fun _ => fun
  | [d1, d2] => { results := [.lit (.bool false)], args := [d1, d2] }
  | _ => none }
def LevelNoneWrongFalsely : Prop := levelNoneRow.holds Try.pinned (OpenSpec.ofChange levelNoneWrong)

/-- 'shredderlaw10.LevelMany': WHATEVER THE INPUT: true; the input reads as it did. -/
def levelManySpec : ChangeSpec := { name := "levelMany", fn := fun _ => fun
  | [d1, d2, d3] => { results := [.lit (.bool true)], args := [d1, d2, d3] }
  | _ => none }
def levelManyRow : OpenClaim := { program := "ytopmcffjpbnlnaa", sum := "a5c583c94c1690d6dd0b38f145af0010bdd013a99ff92b24f3058a68d68e4bc9", func := "shredder/shredderlaw10.LevelMany", spec := "levelMany", unfollowed := true, recurses := true, apart := false }
def LevelManySaid : Prop := levelManyRow.holds Try.pinned (OpenSpec.ofChange levelManySpec)

/-- ITS FALSE NEIGHBOUR: 'it returns false'. Refute it at one input. -/
def levelManyWrong : ChangeSpec := { name := "levelMany", fn := fun _ => fun
  | [d1, d2, d3] => { results := [.lit (.bool false)], args := [d1, d2, d3] }
  | _ => none }
def LevelManyWrongFalsely : Prop := levelManyRow.holds Try.pinned (OpenSpec.ofChange levelManyWrong)

/-- 'shredderlaw10.LevelRun': WHATEVER THE INPUT: true; the input reads as it did. -/
def levelRunSpec : ChangeSpec := { name := "levelRun", fn := fun _ => fun
  | [d1, d2, d3] => { results := [.lit (.bool true)], args := [d1, d2, d3] }
  | _ => none }
def levelRunRow : OpenClaim := { program := "ytopmcffjpbnlnaa", sum := "a5c583c94c1690d6dd0b38f145af0010bdd013a99ff92b24f3058a68d68e4bc9", func := "shredder/shredderlaw10.LevelRun", spec := "levelRun", unfollowed := true, recurses := true, apart := false }
def LevelRunSaid : Prop := levelRunRow.holds Try.pinned (OpenSpec.ofChange levelRunSpec)

/-- ITS FALSE NEIGHBOUR: 'it returns false'. Refute it at one input. -/
def levelRunWrong : ChangeSpec := { name := "levelRun", fn := fun _ => fun
  | [d1, d2, d3] => { results := [.lit (.bool false)], args := [d1, d2, d3] }
  | _ => none }
def LevelRunWrongFalsely : Prop := levelRunRow.holds Try.pinned (OpenSpec.ofChange levelRunWrong)

/- THE SECOND FORM. 'bulk': how many values and letters a reading holds, each counted each time it is reached (what is shared counts as often as it is met; a slice's spare places count too). A statement '..UptoSaid' is the law's where the arguments, and the package variables that the reading takes, are together of bulk at most 1048576: NARROWER than '..Said'. Prove '..Said' where nothing that the law and all that it calls make is longer than what came in: it says more and counts as full. Else prove '..UptoSaid'. A law counts once. -/
mutual
def uptoBulk {H : Type} : DataW H → Nat
  | .lit (.string bytes) => bytes.length + 1
  | .lit _ => 1
  | .nil => 1
  | .ptr d => uptoBulk d + 1
  | .slice elems spare => uptoBulkAll elems + uptoBulkAll spare + 1
  | .agg parts => uptoBulkAll parts + 1
  | .iface _ d => uptoBulk d + 1
  | .map entries => uptoBulkEntries entries + 1
  | .held _ => 1
def uptoBulkAll {H : Type} : List (DataW H) → Nat
  | [] => 0
  | d :: r => uptoBulk d + uptoBulkAll r
def uptoBulkEntries {H : Type} : List (Lit × DataW H) → Nat
  | [] => 0
  | x :: r => uptoBulkEntry x + uptoBulkEntries r
def uptoBulkEntry {H : Type} : Lit × DataW H → Nat
  | (.string bytes, d) => bytes.length + uptoBulk d + 1
  | (_, d) => uptoBulk d + 1
 end
def uptoSmall : (H : Type) → List (DataW H) → Bool := fun _ ds => decide (uptoBulkAll ds ≤ 1048576)
def OpenSpec.upto (s : _root_.Go.ChangeSpec) : _root_.Go.OpenSpec := { _root_.Go.OpenSpec.ofChange s with cond := some uptoSmall }

/-- 'shredderlaw10.LevelShort', WHERE WHAT IT READS IS OF BULK AT MOST 1048576: true; the input reads as it did. -/
def levelShortUptoRow : OpenClaim := { program := "ytopmcffjpbnlnaa", sum := "a5c583c94c1690d6dd0b38f145af0010bdd013a99ff92b24f3058a68d68e4bc9", func := "shredder/shredderlaw10.LevelShort", spec := "levelShort", apart := false, narrowed := true }
def LevelShortUptoSaid : Prop := levelShortUptoRow.holds Try.pinned (OpenSpec.upto levelShortSpec)

/-- 'shredderlaw10.LevelBack', WHERE WHAT IT READS IS OF BULK AT MOST 1048576: true; the input reads as it did. -/
def levelBackUptoRow : OpenClaim := { program := "ytopmcffjpbnlnaa", sum := "a5c583c94c1690d6dd0b38f145af0010bdd013a99ff92b24f3058a68d68e4bc9", func := "shredder/shredderlaw10.LevelBack", spec := "levelBack", unfollowed := true, recurses := true, apart := false, narrowed := true }
def LevelBackUptoSaid : Prop := levelBackUptoRow.holds Try.pinned (OpenSpec.upto levelBackSpec)

/-- 'shredderlaw10.LevelReads', WHERE WHAT IT READS IS OF BULK AT MOST 1048576: true; the input reads as it did. -/
def levelReadsUptoRow : OpenClaim := { program := "ytopmcffjpbnlnaa", sum := "a5c583c94c1690d6dd0b38f145af0010bdd013a99ff92b24f3058a68d68e4bc9", func := "shredder/shredderlaw10.LevelReads", spec := "levelReads", unfollowed := true, recurses := true, apart := false, narrowed := true }
def LevelReadsUptoSaid : Prop := levelReadsUptoRow.holds Try.pinned (OpenSpec.upto levelReadsSpec)

/-- 'shredderlaw10.LevelRuns', WHERE WHAT IT READS IS OF BULK AT MOST 1048576: true; the input reads as it did. -/
def levelRunsUptoRow : OpenClaim := { program := "ytopmcffjpbnlnaa", sum := "a5c583c94c1690d6dd0b38f145af0010bdd013a99ff92b24f3058a68d68e4bc9", func := "shredder/shredderlaw10.LevelRuns", spec := "levelRuns", unfollowed := true, recurses := true, apart := false, narrowed := true }
def LevelRunsUptoSaid : Prop := levelRunsUptoRow.holds Try.pinned (OpenSpec.upto levelRunsSpec)

/-- 'shredderlaw10.LevelNone', WHERE WHAT IT READS IS OF BULK AT MOST 1048576: true; the input reads as it did. -/
def levelNoneUptoRow : OpenClaim := { program := "ytopmcffjpbnlnaa", sum := "a5c583c94c1690d6dd0b38f145af0010bdd013a99ff92b24f3058a68d68e4bc9", func := "shredder/shredderlaw10.LevelNone", spec := "levelNone", unfollowed := true, recurses := true, apart := false, narrowed := true }
def LevelNoneUptoSaid : Prop := levelNoneUptoRow.holds Try.pinned (OpenSpec.upto levelNoneSpec)

/-- 'shredderlaw10.LevelMany', WHERE WHAT IT READS IS OF BULK AT MOST 1048576: true; the input reads as it did. -/
def levelManyUptoRow : OpenClaim := { program := "ytopmcffjpbnlnaa", sum := "a5c583c94c1690d6dd0b38f145af0010bdd013a99ff92b24f3058a68d68e4bc9", func := "shredder/shredderlaw10.LevelMany", spec := "levelMany", unfollowed := true, recurses := true, apart := false, narrowed := true }
def LevelManyUptoSaid : Prop := levelManyUptoRow.holds Try.pinned (OpenSpec.upto levelManySpec)

/-- 'shredderlaw10.LevelRun', WHERE WHAT IT READS IS OF BULK AT MOST 1048576: true; the input reads as it did. -/
def levelRunUptoRow : OpenClaim := { program := "ytopmcffjpbnlnaa", sum := "a5c583c94c1690d6dd0b38f145af0010bdd013a99ff92b24f3058a68d68e4bc9", func := "shredder/shredderlaw10.LevelRun", spec := "levelRun", unfollowed := true, recurses := true, apart := false, narrowed := true }
def LevelRunUptoSaid : Prop := levelRunUptoRow.holds Try.pinned (OpenSpec.upto levelRunSpec)

end Rows
end Go.Proofs.Ytopmcffjpbnlnaa
