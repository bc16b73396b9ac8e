/-
  No cell of these rows narrows 'for every input' (looked for: loops, veiled, ifaces, maps, wideKeys, modest, calm, conditions, laid).
  DERIVED. THE GIVEN ROWS OF THIS SEAT. 7 by the template 'for every input the law returns true; each argument reads behind the call as it read before'; 0 by the template 'total and deterministic' (their statements: YtgmjgdjobkmbgaaTotals.lean).
  GIVEN WITH THE SEED: the statements are not yours to turn. If you find one false, say at which input.
  Laid BY PROGRAM, IN A SANDBOX (cutbox-rows.mjs): the forced cells as the released guide's own fill.sh prints them over the translation 89afc72fd66db073… (all of the seat's roots in one cut). By AI agents, Wed Nov 11 2026. No macro, syntax, notation, axiom, sorry.
-/
import Derived.Test.YtgmjgdjobkmbgaaChecked
import GoSem.Claim
import GoSem.ClaimJoined
import GoSem.ClaimMapViews
import Derived.JoinedTies
import Derived.KernelRfl
namespace Go.Proofs.Ytgmjgdjobkmbgaa
/- THE CELL 'sum', in the pinned program and in every row, IS THE sha256 OF THE DUMP (.gsa) THAT YtgmjgdjobkmbgaaProg.lean LOADS. Nothing in Lean hashes anything: it is a label: what it is worth is what the hold of that sum in a sandbox is worth. -/
noncomputable def Try.pinned : Pinned := { name := "ytgmjgdjobkmbgaa", sum := "89afc72fd66db0730d56a047adba766335f1818b296752e2bd3334332eb91465", checked := Try.checked }
namespace Rows
def none {H : Type} : Left H := { results := [], args := [] }

/-- 'braidworklaw23.NetTrue': WHATEVER THE INPUT: true; the input reads as it did. -/
def netTrueSpec : ChangeSpec := { name := "netTrue", fn := fun _ => fun
  | [d] => { results := [.lit (.bool true)], args := [d] }
  | _ => none }
def netTrueRow : OpenClaim := { program := "ytgmjgdjobkmbgaa", sum := "89afc72fd66db0730d56a047adba766335f1818b296752e2bd3334332eb91465", func := "braidwork/braidworklaw23.NetTrue", spec := "netTrue", unfollowed := true, recurses := true, plainKeys := false, apart := false }
def NetTrueSaid : Prop := netTrueRow.holds Try.pinned (OpenSpec.ofChange netTrueSpec)

/-- ITS FALSE NEIGHBOUR: 'it returns false'. Refute it at one input. -/
def netTrueWrong : ChangeSpec := { name := "netTrue", fn := fun _ => fun
  | [d] => { results := [.lit (.bool false)], args := [d] }
  | _ => none }
def NetTrueWrongFalsely : Prop := netTrueRow.holds Try.pinned (OpenSpec.ofChange netTrueWrong)

/-- 'braidworklaw28.ModelBegins': WHATEVER THE INPUT: true; the input reads as it did. -/
def modelBeginsSpec : ChangeSpec := { name := "modelBegins", fn := fun _ => fun
  | [d1, d2] => { results := [.lit (.bool true)], args := [d1, d2] }
  | _ => none }
def modelBeginsRow : OpenClaim := { program := "ytgmjgdjobkmbgaa", sum := "89afc72fd66db0730d56a047adba766335f1818b296752e2bd3334332eb91465", func := "braidwork/braidworklaw28.ModelBegins", spec := "modelBegins", inPlace := ["internal/bytealg.MakeNoZero"], unfollowed := true, recurses := true, plainKeys := false, apart := false }
def ModelBeginsSaid : Prop := modelBeginsRow.holds Try.pinned (OpenSpec.ofChange modelBeginsSpec)

/-- ITS FALSE NEIGHBOUR: 'it returns false'. Refute it at one input. -/
def modelBeginsWrong : ChangeSpec := { name := "modelBegins", fn := fun _ => fun
  | [d1, d2] => { results := [.lit (.bool false)], args := [d1, d2] }
  | _ => none }
def ModelBeginsWrongFalsely : Prop := modelBeginsRow.holds Try.pinned (OpenSpec.ofChange modelBeginsWrong)

/-- 'braidworklaw19.TopoOrder': WHATEVER THE INPUT: true; the input reads as it did. -/
def topoOrderSpec : ChangeSpec := { name := "topoOrder", fn := fun _ => fun
  | [d] => { results := [.lit (.bool true)], args := [d] }
  | _ => none }
def topoOrderRow : OpenClaim := { program := "ytgmjgdjobkmbgaa", sum := "89afc72fd66db0730d56a047adba766335f1818b296752e2bd3334332eb91465", func := "braidwork/braidworklaw19.TopoOrder", spec := "topoOrder", unfollowed := true, recurses := true, plainKeys := false, apart := false }
def TopoOrderSaid : Prop := topoOrderRow.holds Try.pinned (OpenSpec.ofChange topoOrderSpec)

/-- ITS FALSE NEIGHBOUR: 'it returns false'. Refute it at one input. -/
def topoOrderWrong : ChangeSpec := { name := "topoOrder", fn := fun _ => fun
  | [d] => { results := [.lit (.bool false)], args := [d] }
  | _ => none }
def TopoOrderWrongFalsely : Prop := topoOrderRow.holds Try.pinned (OpenSpec.ofChange topoOrderWrong)

/-- 'braidworklaw19.TopoHops': WHATEVER THE INPUT: true; the input reads as it did. -/
def topoHopsSpec : ChangeSpec := { name := "topoHops", fn := fun _ => fun
  | [d] => { results := [.lit (.bool true)], args := [d] }
  | _ => none }
def topoHopsRow : OpenClaim := { program := "ytgmjgdjobkmbgaa", sum := "89afc72fd66db0730d56a047adba766335f1818b296752e2bd3334332eb91465", func := "braidwork/braidworklaw19.TopoHops", spec := "topoHops", unfollowed := true, recurses := true, plainKeys := false, apart := false }
def TopoHopsSaid : Prop := topoHopsRow.holds Try.pinned (OpenSpec.ofChange topoHopsSpec)

/-- ITS FALSE NEIGHBOUR: 'it returns false'. Refute it at one input. -/
def topoHopsWrong : ChangeSpec := { name := "topoHops", fn := fun _ => fun
  | [d] => { results := [.lit (.bool false)], args := [d] }
  | _ => none }
def TopoHopsWrongFalsely : Prop := topoHopsRow.holds Try.pinned (OpenSpec.ofChange topoHopsWrong)

/-- 'braidworklaw19.TopoLess': WHATEVER THE INPUT: true; the input reads as it did. -/
def topoLessSpec : ChangeSpec := { name := "topoLess", fn := fun _ => fun
  | [d1, d2] => { results := [.lit (.bool true)], args := [d1, d2] }
  | _ => none }
def topoLessRow : OpenClaim := { program := "ytgmjgdjobkmbgaa", sum := "89afc72fd66db0730d56a047adba766335f1818b296752e2bd3334332eb91465", func := "braidwork/braidworklaw19.TopoLess", spec := "topoLess", unfollowed := true, recurses := true, plainKeys := false, apart := false }
def TopoLessSaid : Prop := topoLessRow.holds Try.pinned (OpenSpec.ofChange topoLessSpec)

/-- ITS FALSE NEIGHBOUR: 'it returns false'. Refute it at one input. -/
def topoLessWrong : ChangeSpec := { name := "topoLess", fn := fun _ => fun
  | [d1, d2] => { results := [.lit (.bool false)], args := [d1, d2] }
  | _ => none }
def TopoLessWrongFalsely : Prop := topoLessRow.holds Try.pinned (OpenSpec.ofChange topoLessWrong)

/-- 'braidworklaw19.TopoKnown': WHATEVER THE INPUT: true; the input reads as it did. -/
def topoKnownSpec : ChangeSpec := { name := "topoKnown", fn := fun _ => fun
  | [] => { results := [.lit (.bool true)], args := [] }
  | _ => none }
def topoKnownRow : OpenClaim := { program := "ytgmjgdjobkmbgaa", sum := "89afc72fd66db0730d56a047adba766335f1818b296752e2bd3334332eb91465", func := "braidwork/braidworklaw19.TopoKnown", spec := "topoKnown", unfollowed := true, recurses := true, plainKeys := false, apart := false }
def TopoKnownSaid : Prop := topoKnownRow.holds Try.pinned (OpenSpec.ofChange topoKnownSpec)

/-- ITS FALSE NEIGHBOUR: 'it returns false'. Refute it at one input. -/
def topoKnownWrong : ChangeSpec := { name := "topoKnown", fn := fun _ => fun
  | [] => { results := [.lit (.bool false)], args := [] }
  | _ => none }
def TopoKnownWrongFalsely : Prop := topoKnownRow.holds Try.pinned (OpenSpec.ofChange topoKnownWrong)

/-- 'braidworklaw19.TopoMay': WHATEVER THE INPUT: true; the input reads as it did. -/
def topoMaySpec : ChangeSpec := { name := "topoMay", fn := fun _ => fun
  | [d1, d2, d3] => { results := [.lit (.bool true)], args := [d1, d2, d3] }
  | _ => none }
def topoMayRow : OpenClaim := { program := "ytgmjgdjobkmbgaa", sum := "89afc72fd66db0730d56a047adba766335f1818b296752e2bd3334332eb91465", func := "braidwork/braidworklaw19.TopoMay", spec := "topoMay", unfollowed := true, recurses := true, plainKeys := false, apart := false }
def TopoMaySaid : Prop := topoMayRow.holds Try.pinned (OpenSpec.ofChange topoMaySpec)

/-- ITS FALSE NEIGHBOUR: 'it returns false'. Refute it at one input. -/
def topoMayWrong : ChangeSpec := { name := "topoMay", fn := fun _ => fun
  | [d1, d2, d3] => { results := [.lit (.bool false)], args := [d1, d2, d3] }
  | _ => none }
def TopoMayWrongFalsely : Prop := topoMayRow.holds Try.pinned (OpenSpec.ofChange topoMayWrong)

/- THE SECOND FORM. 'bulk': how many values and letters a reading holds, each counted each time it is reached (what is shared counts as often as it is met; a slice's spare places count too). A statement '..UptoSaid' is the law's where the arguments, and the package variables that the reading takes, are together of bulk at most 1048576: NARROWER than '..Said'. Prove '..Said' where nothing that the law and all that it calls make is longer than what came in: it says more and counts as full. Else prove '..UptoSaid'. A law counts once. -/
mutual
def uptoBulk {H : Type} : DataW H → Nat
  | .lit (.string bytes) => bytes.length + 1
  | .lit _ => 1
  | .nil => 1
  | .ptr d => uptoBulk d + 1
  | .slice elems spare => uptoBulkAll elems + uptoBulkAll spare + 1
  | .agg parts => uptoBulkAll parts + 1
  | .iface _ d => uptoBulk d + 1
  | .map entries => uptoBulkEntries entries + 1
  | .held _ => 1
def uptoBulkAll {H : Type} : List (DataW H) → Nat
  | [] => 0
  | d :: r => uptoBulk d + uptoBulkAll r
def uptoBulkEntries {H : Type} : List (Lit × DataW H) → Nat
  | [] => 0
  | x :: r => uptoBulkEntry x + uptoBulkEntries r
def uptoBulkEntry {H : Type} : Lit × DataW H → Nat
  | (.string bytes, d) => bytes.length + uptoBulk d + 1
  | (_, d) => uptoBulk d + 1
 end
def uptoSmall : (H : Type) → List (DataW H) → Bool := fun _ ds => decide (uptoBulkAll ds ≤ 1048576)
def OpenSpec.upto (s : _root_.Go.ChangeSpec) : _root_.Go.OpenSpec := { _root_.Go.OpenSpec.ofChange s with cond := some uptoSmall }

/-- 'braidworklaw23.NetTrue', WHERE WHAT IT READS IS OF BULK AT MOST 1048576: true; the input reads as it did. -/
def netTrueUptoRow : OpenClaim := { program := "ytgmjgdjobkmbgaa", sum := "89afc72fd66db0730d56a047adba766335f1818b296752e2bd3334332eb91465", func := "braidwork/braidworklaw23.NetTrue", spec := "netTrue", unfollowed := true, recurses := true, plainKeys := false, apart := false, narrowed := true }
def NetTrueUptoSaid : Prop := netTrueUptoRow.holds Try.pinned (OpenSpec.upto netTrueSpec)

/-- 'braidworklaw28.ModelBegins', WHERE WHAT IT READS IS OF BULK AT MOST 1048576: true; the input reads as it did. -/
def modelBeginsUptoRow : OpenClaim := { program := "ytgmjgdjobkmbgaa", sum := "89afc72fd66db0730d56a047adba766335f1818b296752e2bd3334332eb91465", func := "braidwork/braidworklaw28.ModelBegins", spec := "modelBegins", inPlace := ["internal/bytealg.MakeNoZero"], unfollowed := true, recurses := true, plainKeys := false, apart := false, narrowed := true }
def ModelBeginsUptoSaid : Prop := modelBeginsUptoRow.holds Try.pinned (OpenSpec.upto modelBeginsSpec)

/-- 'braidworklaw19.TopoOrder', WHERE WHAT IT READS IS OF BULK AT MOST 1048576: true; the input reads as it did. -/
def topoOrderUptoRow : OpenClaim := { program := "ytgmjgdjobkmbgaa", sum := "89afc72fd66db0730d56a047adba766335f1818b296752e2bd3334332eb91465", func := "braidwork/braidworklaw19.TopoOrder", spec := "topoOrder", unfollowed := true, recurses := true, plainKeys := false, apart := false, narrowed := true }
def TopoOrderUptoSaid : Prop := topoOrderUptoRow.holds Try.pinned (OpenSpec.upto topoOrderSpec)

/-- 'braidworklaw19.TopoHops', WHERE WHAT IT READS IS OF BULK AT MOST 1048576: true; the input reads as it did. -/
def topoHopsUptoRow : OpenClaim := { program := "ytgmjgdjobkmbgaa", sum := "89afc72fd66db0730d56a047adba766335f1818b296752e2bd3334332eb91465", func := "braidwork/braidworklaw19.TopoHops", spec := "topoHops", unfollowed := true, recurses := true, plainKeys := false, apart := false, narrowed := true }
def TopoHopsUptoSaid : Prop := topoHopsUptoRow.holds Try.pinned (OpenSpec.upto topoHopsSpec)

/-- 'braidworklaw19.TopoLess', WHERE WHAT IT READS IS OF BULK AT MOST 1048576: true; the input reads as it did. -/
def topoLessUptoRow : OpenClaim := { program := "ytgmjgdjobkmbgaa", sum := "89afc72fd66db0730d56a047adba766335f1818b296752e2bd3334332eb91465", func := "braidwork/braidworklaw19.TopoLess", spec := "topoLess", unfollowed := true, recurses := true, plainKeys := false, apart := false, narrowed := true }
def TopoLessUptoSaid : Prop := topoLessUptoRow.holds Try.pinned (OpenSpec.upto topoLessSpec)

/-- 'braidworklaw19.TopoKnown', WHERE WHAT IT READS IS OF BULK AT MOST 1048576: true; the input reads as it did. -/
def topoKnownUptoRow : OpenClaim := { program := "ytgmjgdjobkmbgaa", sum := "89afc72fd66db0730d56a047adba766335f1818b296752e2bd3334332eb91465", func := "braidwork/braidworklaw19.TopoKnown", spec := "topoKnown", unfollowed := true, recurses := true, plainKeys := false, apart := false, narrowed := true }
def TopoKnownUptoSaid : Prop := topoKnownUptoRow.holds Try.pinned (OpenSpec.upto topoKnownSpec)

/-- 'braidworklaw19.TopoMay', WHERE WHAT IT READS IS OF BULK AT MOST 1048576: true; the input reads as it did. -/
def topoMayUptoRow : OpenClaim := { program := "ytgmjgdjobkmbgaa", sum := "89afc72fd66db0730d56a047adba766335f1818b296752e2bd3334332eb91465", func := "braidwork/braidworklaw19.TopoMay", spec := "topoMay", unfollowed := true, recurses := true, plainKeys := false, apart := false, narrowed := true }
def TopoMayUptoSaid : Prop := topoMayUptoRow.holds Try.pinned (OpenSpec.upto topoMaySpec)

end Rows
end Go.Proofs.Ytgmjgdjobkmbgaa
