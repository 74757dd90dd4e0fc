/- A scope whose only jump goes ahead: the walk goes on behind the label with the frame as it is. No program. -/
import Derived.Test.YtlnlcmdbhkpnhaaMem
import Derived.ScopeJumps
namespace Go.Proofs.Ytlnlcmdbhkpnhaa
open Go.RowKit
set_option linter.unusedVariables false

theorem wp_scope_fwd {P : Program} {Q : Exit → Act → World → Prop} {a : Act} {w : World} {c rest : Code} (l : Nat) (hf : findLabel c l = some rest)
    (first : c.wp P (Exit.jump l (fun a' w' => rest.wp P (Exit.jump l (fun _ _ => False) Q) a' w') Q) a w) : (Code.scope c).wp P Q a w :=
  wp_scope_jumps l _ (fun _ _ => 0) hf first (fun a' w' h => wp_mono h (fun e a'' w'' hq => by
    cases e <;> first | exact hq | (simp only [Exit.jump] at hq ⊢; exact hq.2.elim)))
end Go.Proofs.Ytlnlcmdbhkpnhaa
