/- Code between labels to which nothing jumps. -/
import Derived.Test.YtgmjgdjobkmbgaaMake
import Derived.Scope
set_option linter.unusedVariables false
namespace Go.Proofs.YtgmjgdjobkmbgaaL
open Go.RowKit
section
variable {P : Program} {Q : Exit → Act → World → Prop} {n : Nat} {ds : List Deferred} {l : List (Nat × Value)} {w : World}
theorem CW.scope {c : Code} (h : CW P (Exit.noGoto Q) n ds c l w) : CW P Q n ds (.scope c) l w := fun a ha => wp_scope_straight (h a ha)
theorem NW.scopeEnd (h : NW Q n ds .normal l w) : NW (Exit.noGoto Q) n ds .normal l w := h
theorem NW.scopeRet (h : NW Q n ds .ret l w) : NW (Exit.noGoto Q) n ds .ret l w := h
theorem NW.scopeExit {i : Nat} (h : NW Q n ds (.exit i) l w) : NW (Exit.noGoto Q) n ds (.exit i) l w := h
end
end Go.Proofs.YtgmjgdjobkmbgaaL
