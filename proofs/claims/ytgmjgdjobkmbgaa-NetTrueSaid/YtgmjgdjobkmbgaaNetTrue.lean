/-
  NetTrue: for every row of calls, what the net delivers whole was sent so, and the law returns true; the argument reads as it did.
  Conditions: none beyond the row's own.
-/
import Derived.Test.YtgmjgdjobkmbgaaRows
import Derived.Test.YtgmjgdjobkmbgaaChecked
import Derived.Test.YtgmjgdjobkmbgaaNetG
import Derived.WalkKit
import Derived.ProofKit
import Derived.OpenShut
import Derived.ShutString
import Derived.ChangeOld
import Derived.Below
namespace Go.Proofs.Ytgmjgdjobkmbgaa.netTrue
open Go.ChangeShapes Go.WideShapes Go.ChangeAt Go.RowKit
open Go.Proofs.YtgmjgdjobkmbgaaL Go.Proofs.YtgmjgdjobkmbgaaN
set_option linter.unusedVariables false
theorem own : ownKnob Try.prog.godebug = none := by kernel_rfl
theorem laidOut : laidOutB Try.prog = true := by kernel_rfl
theorem reads_bytes : Reads Try.prog dBytes 28 := fun enc w base spare held fuel cs x h => by
  obtain ⟨y, hy⟩ := reads_slice (P := Try.prog) (d := dU8) Try.underlying28 (reads_u8 Try.underlying5) (by kernel_rfl) (by decide) enc w base spare held fuel cs x h
  exact ⟨y, hy.1⟩
theorem reads_int64 : Reads Try.prog dI 3 := reads_int Try.underlying3
theorem reads_op : Reads Try.prog dOp 30 :=
  reads_iso (fun t => ⟨t.1, t.2.1, t.2.2.1, t.2.2.2.1, t.2.2.2.2⟩) (fun _ => rfl) (reads_struct Try.underlying30 (by kernel_rfl)
    (readsF_cons rfl reads_int64 (by kernel_rfl) (readsF_cons rfl reads_int64 (by kernel_rfl) (readsF_cons rfl reads_int64 (by kernel_rfl) (readsF_cons rfl reads_int64 (by kernel_rfl) (readsF_one rfl reads_bytes (by kernel_rfl)))))))
theorem reads_ops : Reads Try.prog (dWith (dSlice dOp (by decide)) fun xs => xs.length ≤ maxLen) 22 := reads_slice Try.underlying22 reads_op (by kernel_rfl) (by decide)
set_option maxRecDepth 100000 in
theorem lifted (os : Os) (started : os.Started) (H : Type) (enc : TypeId × Value → H) :
    ReturnsInHanded {} Try.checked os 3 .any (Rows.netTrueSpec.pre6 enc Try.prog Try.f3 Rows.netTrueRow.domain false) (Rows.netTrueSpec.post enc Try.prog Try.f3 false true false false) := by
  refine returnsInHanded_of_change (C := Try.checked) own started (by kernel_rfl) Try.func3
    (ChangeSpec.witness6 (enc := enc) (C := Try.checked) false ⟨#[], #[.slice none 0 0], []⟩ 8 (by kernel_rfl) (by kernel_rfl) (by kernel_rfl) (by kernel_rfl)) ?_
  intro W base args ds gs before hval0 hW hcnd _
  have hval : ∀ (j : Nat) t v, Try.f3.params[j]? = some t → args[j]? = some v → Value.okWide Try.prog W .any base t v := hval0
  have hW' := hW
  obtain ⟨p, q, hA0, hV, rfl, hfz, hnd⟩ := hW
  have hA : DataW.TrodAll enc Try.prog W 0 (fun _ => true) true Try.f3.params.toList args.toList ds p := hA0
  rw [Try.params3] at hA hval
  obtain ⟨v0, vs0, d0, ds0, p0, q0, hargs, rfl, rfl, h0, r0⟩ := trodAll_cons hA
  obtain ⟨rfl, rfl, rfl⟩ := trodAll_nil r0
  obtain rfl : args = #[v0] := by cases args; simp_all
  obtain ⟨rfl, rfl⟩ := trodVars_none hV
  obtain ⟨a0, len0, cap0, rfl⟩ := okWide_slice Try.underlying22 (hval 0 22 v0 rfl rfl)
  have k0 := h0
  have lt0 : ∀ x ∈ p0, x.block < W.heap.size := by obtain ⟨m, hm⟩ := k0; exact DataW.trod_lt m _ _ _ hm
  obtain ⟨ops, hl, hc, R⟩ : ∃ ops : List OpD, ops.length = len0 ∧ ops.length ≤ cap0 ∧ Row dOp W (fun x => x < W.heap.size) a0 ops := by
    obtain ⟨fuel, hf⟩ := h0
    obtain ⟨ops, ⟨A, c, hcs, h1, _, R⟩, _⟩ := reads_ops enc W _ _ _ _ _ _ hf
    simp [Value.cells] at hcs
    obtain ⟨rfl, rfl, rfl⟩ := hcs
    exact ⟨ops, rfl, h1, Row.mono (fun k hk => hk.2) (Row.bound (by decide) R)⟩
  subst hl
  clear hA0 hval0
  refine Calls.mono (law_c a0 cap0 ops W R hc) fun e W' ⟨v, he, hv, hs⟩ => ?_
  subst he
  subst hv
  have bel := hs.belowOf
  exact ⟨_, rfl, _, _, _, [], _, [], hW', trodAll_mk1 (shut_bool Try.underlying4 _), (trodAll_cons_mk (Below.trod laidOut (by kernel_rfl) (of_decide_eq_true (by kernel_rfl)) k0 bel lt0) trodAll_mk0), rfl, bel.frame _, fun h => by cases h⟩

theorem over : Rows.netTrueRow.holds Try.pinned (OpenSpec.ofChange Rows.netTrueSpec) :=
  OpenClaim.holds_of_wide 3 Try.f3 rfl rfl rfl rfl rfl rfl rfl ⟨rfl, rfl, rfl, rfl, rfl⟩ rfl rfl rfl rfl rfl (by kernel_rfl) Try.func3 (by kernel_rfl)
    (of_decide_eq_true (by kernel_rfl)) (by unfold Func.isWrapper; first | (rw [if_pos (by decide +kernel)]; kernel_rfl) | (rw [if_neg (by decide +kernel)]; exact ⟨rfl, rfl⟩))
    (fun os started H enc _ => lifted os started H enc)

theorem proved : Rows.NetTrueSaid := over
#print axioms proved
end Go.Proofs.Ytgmjgdjobkmbgaa.netTrue
