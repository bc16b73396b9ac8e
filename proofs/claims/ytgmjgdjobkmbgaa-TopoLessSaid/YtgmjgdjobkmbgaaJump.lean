/- Code in which the run jumps to labels, back and forth; a function that defers a call. -/
import Derived.Test.YtgmjgdjobkmbgaaAny
import Derived.Defers
set_option linter.unusedVariables false
set_option linter.unusedSimpArgs false
namespace Go.Proofs.YtgmjgdjobkmbgaaL
open Go.RowKit
/-- As Q; by a jump to a label: what K says of that label. -/
def jumpQ (K : Nat → Act → World → Prop) (Q : Exit → Act → World → Prop) : Exit → Act → World → Prop
  | .goto l, a, w => K l a w
  | e, a, w => Q e a w
theorem wp_scope_all {P : Program} {a : Act} {w : World} {Q : Exit → Act → World → Prop} {c : Code} (J : Nat → Nat → Act → World → Prop)
    (first : c.wp P (jumpQ (fun l a w => ∃ m, J l m a w) Q) a w)
    (pass : ∀ l m a w, J l m a w → ∃ rest, findLabel c l = some rest ∧ rest.wp P (jumpQ (fun l' a' w' => ∃ m', m' < m ∧ J l' m' a' w') Q) a w) : (Code.scope c).wp P Q a w := by
  intro b k cs
  have hg : ∀ {l rest}, findLabel c l = some rest → gotoIn l (.inScope c :: k) = some (.code rest :: .inScope c :: k) := fun hf => by simp [gotoIn, hf]
  have key : ∀ m l a w, J l m a w → ∃ rest, findLabel c l = some rest ∧ ∃ e a' w', Q e a' w' ∧ Arrives P (lone (b.at a (.code rest :: .inScope c :: k)) cs w) b k cs e a' w' := by
    intro m
    induction m using Nat.strongRecOn with
    | _ m ih =>
      intro l a w hJ
      obtain ⟨rest, hf, hp⟩ := pass l m a w hJ
      refine ⟨rest, hf, ?_⟩
      obtain ⟨e, a₁, w₁, hq, harr⟩ := hp b (.inScope c :: k) cs
      cases e with
      | normal => exact ⟨.normal, a₁, w₁, hq, Steps.trans harr (.one step_inScope)⟩
      | exit id => exact ⟨.exit id, a₁, w₁, hq, fun k' hk => harr k' (by simp [exitTo, hk])⟩
      | goto l' =>
        obtain ⟨m', hlt, hJ'⟩ := hq
        obtain ⟨rest', hf', e₂, a₂, w₂, hq₂, harr₂⟩ := ih m' hlt l' a₁ w₁ hJ'
        exact ⟨e₂, a₂, w₂, hq₂, .of_steps (harr _ (hg hf')) harr₂⟩
      | ret => exact ⟨_, a₁, w₁, hq, harr⟩
      | panic ch => exact ⟨_, a₁, w₁, hq, harr⟩
      | outgrown => exact ⟨_, a₁, w₁, hq, harr⟩
  obtain ⟨e, a₁, w₁, hq, harr⟩ := first b (.inScope c :: k) cs
  cases e with
  | normal => exact ⟨.normal, a₁, w₁, hq, .head step_scope (Steps.trans harr (.one step_inScope))⟩
  | exit id => exact ⟨.exit id, a₁, w₁, hq, fun k' hk => .head step_scope (harr k' (by simp [exitTo, hk]))⟩
  | goto l' =>
    obtain ⟨m, hJ'⟩ := hq
    obtain ⟨rest', hf', e₂, a₂, w₂, hq₂, harr₂⟩ := key m l' a₁ w₁ hJ'
    exact ⟨e₂, a₂, w₂, hq₂, .of_steps (.head step_scope (harr _ (hg hf'))) harr₂⟩
  | ret => exact ⟨_, a₁, w₁, hq, .of_steps (.one step_scope) harr⟩
  | panic ch => exact ⟨_, a₁, w₁, hq, .of_steps (.one step_scope) harr⟩
  | outgrown => exact ⟨_, a₁, w₁, hq, .of_steps (.one step_scope) harr⟩
section
variable {P : Program} {Q : Exit → Act → World → Prop} {n : Nat} {ds : List Deferred} {l : List (Nat × Value)} {w : World}
theorem CW.jumps {c : Code} (J : Nat → Nat → Act → World → Prop) (first : CW P (jumpQ (fun l a w => ∃ m, J l m a w) Q) n ds c l w)
    (pass : ∀ l m a w, J l m a w → ∃ rest, findLabel c l = some rest ∧ rest.wp P (jumpQ (fun l' a' w' => ∃ m', m' < m ∧ J l' m' a' w') Q) a w) : CW P Q n ds (.scope c) l w := fun a ha =>
  wp_scope_all J (first a ha) pass
theorem NW.jumpEnd {K : Nat → Act → World → Prop} (h : NW Q n ds .normal l w) : NW (jumpQ K Q) n ds .normal l w := h
theorem NW.jumpRet {K : Nat → Act → World → Prop} (h : NW Q n ds .ret l w) : NW (jumpQ K Q) n ds .ret l w := h
theorem NW.jumpExit {K : Nat → Act → World → Prop} {i : Nat} (h : NW Q n ds (.exit i) l w) : NW (jumpQ K Q) n ds (.exit i) l w := h
theorem NW.jump {K : Nat → Act → World → Prop} {i : Nat} (h : ∀ a, Env n ds l a → K i a w) : NW (jumpQ K Q) n ds (.goto i) l w := h
end

/-! ### a deferred call -/
/-- A deferred call that returns while the frame returns. -/
def RetD (P : Program) (f : FuncId) (args : List Value) (w : World) (R : World → Prop) : Prop :=
  CallsD P f args.toArray .returning w fun e u w' => u = .returning ∧ ∃ v, e = .returned v ∧ R w'
theorem RetD.go {P : Program} {f : FuncId} {fn : Func} {c : Code} {vs : List Value} {w : World} {R : World → Prop} {n : Nat}
    (hf : P.funcs[f]? = some fn) (hb : fn.body = some c) (hn : fn.ntmps = n) (hs : Nat.ble vs.length n = true)
    (h : CW P (bodyQ P fn fun e w' => ∃ v, e = .returned v ∧ R w') n [] c (enum 0 vs) w) : RetD P f vs w R := by
  refine CallsD.mono (callsD_of_wp (R := fun e w' => ∃ v, e = .returned v ∧ R w') hf hb (wp_mono (h _ ⟨?_, rfl, ?_⟩) ?_)) fun e u' w' h => h
  · have := Nat.le_of_ble_eq_true hs
    simp only [Array.size_append, Array.size_replicate, hn, List.size_toArray]; omega
  · intro t v ht
    have h1 := (enum_has vs 0 t v ht).2
    rw [Nat.sub_zero] at h1
    have h1 : vs.toArray[t]? = some v := by simpa using h1
    have h2 := (Array.getElem?_eq_some_iff.1 h1).1
    have h3 := (Array.getElem?_eq_some_iff.1 h1).2
    have h4 : (vs.toArray ++ Array.replicate (fn.ntmps - vs.toArray.size) undef)[t]? = some v := by rw [Array.getElem?_append, if_pos h2, h1]
    rw [Array.getD_eq_getD_getElem?, h4]
    rfl
  · intro e a w q
    cases e <;> first | exact q | exact q.elim
def bodyQD (P : Program) (fn : Func) (R : Ending → World → Prop) : Exit → Act → World → Prop
  | .panic _, _, _ => False
  | .outgrown, _, _ => False
  | e, a, w => bodyPostD P fn R e a w
theorem Ret.goD {P : Program} {f : FuncId} {fn : Func} {c : Code} {vs : List Value} {w : World} {R : Value → World → Prop} {n : Nat}
    (hf : P.funcs[f]? = some fn) (hb : fn.body = some c) (hn : fn.ntmps = n) (hs : Nat.ble vs.length n = true)
    (h : CW P (bodyQD P fn fun e w' => ∃ v, e = .returned v ∧ R v w') n [] c (enum 0 vs) w) : Ret P f vs w R := by
  refine calls_of_wp_defers hf hb (wp_mono (h _ ⟨?_, rfl, ?_⟩) ?_)
  · have := Nat.le_of_ble_eq_true hs
    simp only [Array.size_append, Array.size_replicate, hn, List.size_toArray]; omega
  · intro t v ht
    have h1 := (enum_has vs 0 t v ht).2
    rw [Nat.sub_zero] at h1
    have h1 : vs.toArray[t]? = some v := by simpa using h1
    have h2 := (Array.getElem?_eq_some_iff.1 h1).1
    have h3 := (Array.getElem?_eq_some_iff.1 h1).2
    have h4 : (vs.toArray ++ Array.replicate (fn.ntmps - vs.toArray.size) undef)[t]? = some v := by rw [Array.getElem?_append, if_pos h2, h1]
    rw [Array.getD_eq_getD_getElem?, h4]
    rfl
  · intro e a w q
    cases e <;> first | exact q | exact q.elim
section
variable {P : Program} {fn : Func} {R : Ending → World → Prop} {n : Nat} {l : List (Nat × Value)} {w : World}
/-- The end of a function that deferred nothing on this way. -/
theorem NW.retD0 {v : Value} (hr : ∀ a, Env n [] l a → (results fn a.tmps).run P w = .ok v w) (h : R (.returned v) w) : NW (bodyQD P fn R) n [] .ret l w := fun a ha => by
  show Leaves P fn a.tmps R a.defers .returning w
  rw [ha.defers]
  exact ⟨v, hr a ha, h⟩
/-- The end of a function that deferred one call. -/
theorem NW.retD1 {f : FuncId} {cs dargs : Array Value} {R1 : World → Prop} (hcall : ∀ args w, (callFunc f args).run P w = .ok (.enter f args) w)
    (hc : RetD P f (dargs.toList ++ cs.toList) w R1) (hr : ∀ w', R1 w' → ∃ v, (∀ a, Env n [⟨.fn (.func f) cs, dargs⟩] l a → (results fn a.tmps).run P w' = .ok v w') ∧ R (.returned v) w') :
    NW (bodyQD P fn R) n [⟨.fn (.func f) cs, dargs⟩] .ret l w := fun a ha => by
  show Leaves P fn a.tmps R a.defers .returning w
  rw [ha.defers]
  refine leaves_cons (by simp) (f := f) (args := dargs ++ cs) (by simp [invoke, hcall]) ?_
  have ea : (dargs.toList ++ cs.toList).toArray = dargs ++ cs := by
    apply Array.toList_inj.1
    simp
  have hc' := hc
  unfold RetD at hc'
  rw [ea] at hc'
  refine CallsD.mono hc' fun e u w' h => ?_
  obtain ⟨rfl, v, rfl, hR⟩ := h
  obtain ⟨v', h1, h2⟩ := hr w' hR
  exact ⟨v', h1 a ha, h2⟩
end
end Go.Proofs.YtgmjgdjobkmbgaaL
