/-
  TopoLess: with an edge less nothing more is reached, and where there was an order there is one; with the edge again all is as it was: the law returns true for every list and number; the arguments read as they did.
  Conditions: none beyond the row's own.
-/
import Derived.Test.YtgmjgdjobkmbgaaRows
import Derived.Test.YtgmjgdjobkmbgaaChecked
import Derived.Test.YtgmjgdjobkmbgaaTopM
import Derived.Test.YtgmjgdjobkmbgaaArg
import Derived.WalkKit
import Derived.ProofKit
import Derived.OpenShut
import Derived.ShutString
import Derived.ChangeOld
import Derived.Below
namespace Go.Proofs.Ytgmjgdjobkmbgaa.topoLess
open Go.ChangeShapes Go.WideShapes Go.ChangeAt Go.RowKit
open Go.Proofs.YtgmjgdjobkmbgaaL Go.Proofs.YtgmjgdjobkmbgaaN
set_option linter.unusedVariables false
set_option linter.unusedSimpArgs false
theorem own : ownKnob Try.prog.godebug = none := by kernel_rfl
theorem laidOut : laidOutB Try.prog = true := by kernel_rfl
theorem reads_pr : Reads Try.prog dPr 44 := reads_arr2 Try.underlying44 (reads_u8 Try.underlying5) (by kernel_rfl) (by kernel_rfl)
theorem reads_prs : Reads Try.prog (dWith (dSlice dPr (by decide)) fun xs => xs.length ≤ maxLen) 74 := reads_slice Try.underlying74 reads_pr (by kernel_rfl) (by decide)
set_option maxRecDepth 100000 in
theorem lifted (os : Os) (started : os.Started) (H : Type) (enc : TypeId × Value → H) :
    ReturnsInHanded {} Try.checked os 7 .any (Rows.topoLessSpec.pre6 enc Try.prog Try.f7 Rows.topoLessRow.domain false) (Rows.topoLessSpec.post enc Try.prog Try.f7 false true false false) := by
  refine returnsInHanded_of_change (C := Try.checked) own started (by kernel_rfl) Try.func7
    (ChangeSpec.witness6 (enc := enc) (C := Try.checked) false ⟨#[], #[.slice none 0 0, .int .u8 0], []⟩ 8 (by kernel_rfl) (by kernel_rfl) (by kernel_rfl) (by kernel_rfl)) ?_
  intro W base args ds gs before hval0 hW hcnd _
  have hval : ∀ (j : Nat) t v, Try.f7.params[j]? = some t → args[j]? = some v → Value.okWide Try.prog W .any base t v := hval0
  have hW' := hW
  obtain ⟨p, q, hA0, hV, rfl, hfz, hnd⟩ := hW
  have hA : DataW.TrodAll enc Try.prog W 0 (fun _ => true) true Try.f7.params.toList args.toList ds p := hA0
  rw [Try.params7] at hA hval
  obtain ⟨v0, vs0, d0, ds0, p0, q0, hargs, rfl, rfl, h0, r0⟩ := trodAll_cons hA
  obtain ⟨v1, vs1, d1, ds1, p1, q1, rfl, rfl, rfl, h1, r1⟩ := trodAll_cons r0
  obtain ⟨rfl, rfl, rfl⟩ := trodAll_nil r1
  obtain rfl : args = #[v0, v1] := by cases args; simp_all
  obtain ⟨rfl, rfl⟩ := trodVars_none hV
  obtain ⟨a0, len0, cap0, rfl⟩ := okWide_slice Try.underlying74 (hval 0 74 v0 rfl rfl)
  obtain ⟨n1, rfl⟩ := okWide_int Try.underlying5 (hval 1 5 v1 rfl rfl)
  have k0 := h0
  have lt0 : ∀ x ∈ p0, x.block < W.heap.size := by obtain ⟨m, hm⟩ := k0; exact DataW.trod_lt m _ _ _ hm
  obtain ⟨l0, hl0, hc0, R0⟩ : ∃ l : List (UInt8 × UInt8), l.length = len0 ∧ l.length ≤ cap0 ∧ Row dPr W (fun x => x < W.heap.size) a0 l := by
    obtain ⟨fuel, hf⟩ := h0
    obtain ⟨l, ⟨A, c, hcs, h1, _, R⟩, _⟩ := reads_prs enc W _ _ _ _ _ _ hf
    simp [Value.cells] at hcs
    obtain ⟨rfl, rfl, rfl⟩ := hcs
    exact ⟨l, rfl, h1, Row.mono (fun k hk => hk.2) (Row.bound (by decide) R)⟩
  subst hl0
  have k1 := h1
  have lt1 : ∀ x ∈ p1, x.block < W.heap.size := by obtain ⟨m, hm⟩ := k1; exact DataW.trod_lt m _ _ _ hm
  have wf1 : (Lit.int .u8 n1).wf = true := by
    obtain ⟨fuel, hf⟩ := h1
    obtain ⟨y, hy, hw⟩ := reads_intW (P := Try.prog) Try.underlying5 enc W _ _ _ _ _ _ hf
    have hy : [Value.int .u8 n1] = [Value.int .u8 y] := by simpa [Value.cells, dInt, dCell] using hy
    injection hy with hy
    injection hy with _ hy
    rw [hy]
    exact hw
  clear hA0 hval0
  refine Calls.mono (lessLaw_c a0 cap0 l0 _ n1 W R0 (fun k hk => hk) hc0 (bounds_u8 wf1)) fun e W' ⟨v, he, hv, hs⟩ => ?_
  subst he
  subst hv
  have bel := hs.belowOf
  exact ⟨_, rfl, _, _, _, [], _, [], hW', trodAll_mk1 (shut_bool Try.underlying4 _), (trodAll_cons_mk (Below.trod laidOut (by kernel_rfl) (of_decide_eq_true (by kernel_rfl)) k0 bel lt0) (trodAll_cons_mk (Below.trod laidOut (by kernel_rfl) (of_decide_eq_true (by kernel_rfl)) k1 bel lt1) trodAll_mk0)), rfl, bel.frame _, fun h => by cases h⟩

theorem over : Rows.topoLessRow.holds Try.pinned (OpenSpec.ofChange Rows.topoLessSpec) :=
  OpenClaim.holds_of_wide 7 Try.f7 rfl rfl rfl rfl rfl rfl rfl ⟨rfl, rfl, rfl, rfl, rfl⟩ rfl rfl rfl rfl rfl (by kernel_rfl) Try.func7 (by kernel_rfl)
    (of_decide_eq_true (by kernel_rfl)) (by unfold Func.isWrapper; first | (rw [if_pos (by decide +kernel)]; kernel_rfl) | (rw [if_neg (by decide +kernel)]; exact ⟨rfl, rfl⟩))
    (fun os started H enc _ => lifted os started H enc)

theorem proved : Rows.TopoLessSaid := over
#print axioms proved
end Go.Proofs.Ytgmjgdjobkmbgaa.topoLess
