/-
  TopoOrder: there is an order just if no node reaches itself, and it is as the law says: the law returns true for every list; the argument reads as it did.
  Conditions: none beyond the row's own.
-/
import Derived.Test.YtgmjgdjobkmbgaaRows
import Derived.Test.YtgmjgdjobkmbgaaChecked
import Derived.Test.YtgmjgdjobkmbgaaTopL
import Derived.Test.YtgmjgdjobkmbgaaArg
import Derived.WalkKit
import Derived.ProofKit
import Derived.OpenShut
import Derived.ShutString
import Derived.ChangeOld
import Derived.Below
namespace Go.Proofs.Ytgmjgdjobkmbgaa.topoOrder
open Go.ChangeShapes Go.WideShapes Go.ChangeAt Go.RowKit
open Go.Proofs.YtgmjgdjobkmbgaaL Go.Proofs.YtgmjgdjobkmbgaaN
set_option linter.unusedVariables false
set_option linter.unusedSimpArgs false
theorem own : ownKnob Try.prog.godebug = none := by kernel_rfl
theorem laidOut : laidOutB Try.prog = true := by kernel_rfl
theorem reads_pr : Reads Try.prog dPr 44 := reads_arr2 Try.underlying44 (reads_u8 Try.underlying5) (by kernel_rfl) (by kernel_rfl)
theorem reads_prs : Reads Try.prog (dWith (dSlice dPr (by decide)) fun xs => xs.length ≤ maxLen) 74 := reads_slice Try.underlying74 reads_pr (by kernel_rfl) (by decide)
set_option maxRecDepth 100000 in
theorem lifted (os : Os) (started : os.Started) (H : Type) (enc : TypeId × Value → H) :
    ReturnsInHanded {} Try.checked os 5 .any (Rows.topoOrderSpec.pre6 enc Try.prog Try.f5 Rows.topoOrderRow.domain false) (Rows.topoOrderSpec.post enc Try.prog Try.f5 false true false false) := by
  refine returnsInHanded_of_change (C := Try.checked) own started (by kernel_rfl) Try.func5
    (ChangeSpec.witness6 (enc := enc) (C := Try.checked) false ⟨#[], #[.slice none 0 0], []⟩ 8 (by kernel_rfl) (by kernel_rfl) (by kernel_rfl) (by kernel_rfl)) ?_
  intro W base args ds gs before hval0 hW hcnd _
  have hval : ∀ (j : Nat) t v, Try.f5.params[j]? = some t → args[j]? = some v → Value.okWide Try.prog W .any base t v := hval0
  have hW' := hW
  obtain ⟨p, q, hA0, hV, rfl, hfz, hnd⟩ := hW
  have hA : DataW.TrodAll enc Try.prog W 0 (fun _ => true) true Try.f5.params.toList args.toList ds p := hA0
  rw [Try.params5] at hA hval
  obtain ⟨v0, vs0, d0, ds0, p0, q0, hargs, rfl, rfl, h0, r0⟩ := trodAll_cons hA
  obtain ⟨rfl, rfl, rfl⟩ := trodAll_nil r0
  obtain rfl : args = #[v0] := by cases args; simp_all
  obtain ⟨rfl, rfl⟩ := trodVars_none hV
  obtain ⟨a0, len0, cap0, rfl⟩ := okWide_slice Try.underlying74 (hval 0 74 v0 rfl rfl)
  have k0 := h0
  have lt0 : ∀ x ∈ p0, x.block < W.heap.size := by obtain ⟨m, hm⟩ := k0; exact DataW.trod_lt m _ _ _ hm
  obtain ⟨l0, hl0, hc0, R0⟩ : ∃ l : List (UInt8 × UInt8), l.length = len0 ∧ l.length ≤ cap0 ∧ Row dPr W (fun x => x < W.heap.size) a0 l := by
    obtain ⟨fuel, hf⟩ := h0
    obtain ⟨l, ⟨A, c, hcs, h1, _, R⟩, _⟩ := reads_prs enc W _ _ _ _ _ _ hf
    simp [Value.cells] at hcs
    obtain ⟨rfl, rfl, rfl⟩ := hcs
    exact ⟨l, rfl, h1, Row.mono (fun k hk => hk.2) (Row.bound (by decide) R)⟩
  subst hl0
  clear hA0 hval0
  refine Calls.mono (orderLaw_c a0 cap0 l0 _ W R0 (fun k hk => hk) hc0) fun e W' ⟨v, he, hv, hs⟩ => ?_
  subst he
  subst hv
  have bel := hs.belowOf
  exact ⟨_, rfl, _, _, _, [], _, [], hW', trodAll_mk1 (shut_bool Try.underlying4 _), (trodAll_cons_mk (Below.trod laidOut (by kernel_rfl) (of_decide_eq_true (by kernel_rfl)) k0 bel lt0) trodAll_mk0), rfl, bel.frame _, fun h => by cases h⟩

theorem over : Rows.topoOrderRow.holds Try.pinned (OpenSpec.ofChange Rows.topoOrderSpec) :=
  OpenClaim.holds_of_wide 5 Try.f5 rfl rfl rfl rfl rfl rfl rfl ⟨rfl, rfl, rfl, rfl, rfl⟩ rfl rfl rfl rfl rfl (by kernel_rfl) Try.func5 (by kernel_rfl)
    (of_decide_eq_true (by kernel_rfl)) (by unfold Func.isWrapper; first | (rw [if_pos (by decide +kernel)]; kernel_rfl) | (rw [if_neg (by decide +kernel)]; exact ⟨rfl, rfl⟩))
    (fun os started H enc _ => lifted os started H enc)

theorem proved : Rows.TopoOrderSaid := over
#print axioms proved
end Go.Proofs.Ytgmjgdjobkmbgaa.topoOrder
