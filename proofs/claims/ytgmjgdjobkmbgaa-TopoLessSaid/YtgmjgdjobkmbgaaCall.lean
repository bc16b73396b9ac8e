/- Calls. -/
import Derived.Test.YtgmjgdjobkmbgaaMem
set_option linter.unusedVariables false
set_option linter.unusedSimpArgs false
namespace Go.Proofs.YtgmjgdjobkmbgaaL
open Go.RowKit
/-- A call that returns, and what is known behind it. -/
def Ret (P : Program) (f : FuncId) (args : List Value) (w : World) (R : Value → World → Prop) : Prop :=
  Calls P f args.toArray w fun e w' => ∃ v, e = .returned v ∧ R v w'
theorem Ret.mono {P : Program} {f : FuncId} {args : List Value} {w : World} {R R' : Value → World → Prop} (h : Ret P f args w R) (hr : ∀ v w', R v w' → R' v w') : Ret P f args w R' :=
  Calls.mono h fun _ _ ⟨v, he, hR⟩ => ⟨v, he, hr v _ hR⟩
section
variable {P : Program} {n : Nat} {ds : List Deferred} {l : List (Nat × Value)} {w : World} {d : Option Tmp} {ty : TypeId} {p : String} {af : Array Edge} {g : Option (Nat × Bool)}
theorem ef_callv {f : FuncId} {x : Operand} {fs cs : Array Value} {xs : Array Operand} {ts : Array TypeId} {vs : List Value} {R : Value → World → Prop}
    (hcall : ∀ args w, (callFunc f args).run P w = .ok (.enter f args) w) (hx : ev l x = some (.func (.func f) fs cs)) (hxs : evs l xs.toList = some vs) (hc : Ret P f (fs.toList ++ vs ++ cs.toList) w R) :
    Ef P n ds ⟨d, .call { callee := .value x, args := xs, argTypes := ts }, ty, p, af, g⟩ l w R := fun a ha K Q h => by
  have he : xs.map a.eval = vs.toArray := by
    apply Array.toList_inj.1
    simpa using ha.evals hxs
  have hr : (execOp a.eval ⟨d, .call { callee := .value x, args := xs, argTypes := ts }, ty, p, af, g⟩).run P w = .ok (.enter f (fs ++ vs.toArray ++ cs)) w := by
    simp only [execOp, resolve, ha.eval hx, he]
    simp [Deferred.ofValue, invoke, hcall]
  simp only [Oper.wp, hr, Oper.upon]
  have hc' : Calls P f (fs ++ vs.toArray ++ cs) w fun e w' => ∃ v, e = .returned v ∧ R v w' := by
    have ea : (fs.toList ++ vs ++ cs.toList).toArray = fs ++ vs.toArray ++ cs := by
      apply Array.toList_inj.1
      simp
    have := hc
    unfold Ret at this
    rwa [ea] at this
  exact hc'.mono fun e w' ⟨v, he, hR⟩ => by subst he; exact h v w' hR
theorem ef_call {f : FuncId} {xs : Array Operand} {ts : Array TypeId} {vs : List Value} {R : Value → World → Prop}
    (hcall : ∀ args w, (callFunc f args).run P w = .ok (.enter f args) w) (hxs : evs l xs.toList = some vs) (hc : Ret P f vs w R) :
    Ef P n ds ⟨d, .call { callee := .value (.func f), args := xs, argTypes := ts }, ty, p, af, g⟩ l w R :=
  ef_callv hcall (fs := #[]) (cs := #[]) rfl hxs (by simpa using hc)
end
theorem Ret.go {P : Program} {f : FuncId} {fn : Func} {c : Code} {vs : List Value} {w : World} {R : Value → World → Prop} {n : Nat}
    (hf : P.funcs[f]? = some fn) (hb : fn.body = some c) (hn : fn.ntmps = n) (hs : Nat.ble vs.length n = true)
    (h : CW P (bodyQ P fn fun e w' => ∃ v, e = .returned v ∧ R v w') n [] c (enum 0 vs) w) : Ret P f vs w R :=
  calls_go hf hb hn hs h
end Go.Proofs.YtgmjgdjobkmbgaaL
