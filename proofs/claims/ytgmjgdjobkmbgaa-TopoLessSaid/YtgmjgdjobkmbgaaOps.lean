/- Steps for each kind of operation. -/
import Derived.Test.YtgmjgdjobkmbgaaLib
import Derived.Laws.CopyRow
import Derived.Laws.ShiftsVarLaws
set_option linter.unusedVariables false
set_option linter.unusedSimpArgs false
namespace Go.Proofs.YtgmjgdjobkmbgaaL
open Go.RowKit

/-! ### 4. a function's body -/
def bodyQ (P : Program) (fn : Func) (R : Ending → World → Prop) : Exit → Act → World → Prop
  | .panic _, _, _ => False
  | .outgrown, _, _ => False
  | e, a, w => bodyPost P fn R e a w
theorem calls_in {P : Program} {f : FuncId} {fn : Func} {c : Code} {args : Array Value} {w : World} {R : Ending → World → Prop} {n : Nat} {l : List (Nat × Value)}
    (hf : P.funcs[f]? = some fn) (hb : fn.body = some c) (hn : fn.ntmps = n) (hs : args.size ≤ n) (hl : ∀ t v, lk l t = some v → args[t]? = some v)
    (h : CW P (bodyQ P fn R) n [] c l w) : Calls P f args w R := by
  refine calls_of_wp hf hb (wp_mono (h _ ⟨?_, rfl, ?_⟩) ?_)
  · simp only [Array.size_append, Array.size_replicate, hn]; omega
  · intro t v ht
    have h1 := hl t v ht
    have h2 := (Array.getElem?_eq_some_iff.1 h1).1
    have h3 := (Array.getElem?_eq_some_iff.1 h1).2
    simp [Array.getD_eq_getD_getElem?, Array.getElem?_append, h2, h3]
  · intro e a w q
    cases e <;> first | exact q | exact q.elim
/-- The frame at the entry. -/
def enum : Nat → List Value → List (Nat × Value)
  | _, [] => []
  | k, v :: r => (k, v) :: enum (k + 1) r
theorem enum_has : ∀ (vs : List Value) (k t : Nat) (v : Value), lk (enum k vs) t = some v → k ≤ t ∧ vs[t - k]? = some v
  | [], k, t, v, h => by simp [enum, lk] at h
  | u :: r, k, t, v, h => by
    simp only [enum] at h
    by_cases e : k = t
    · subst e
      rw [lk_hit] at h
      injection h with h
      subst h
      exact ⟨Nat.le_refl _, by simp⟩
    · rw [lk_miss e] at h
      obtain ⟨h1, h2⟩ := enum_has r (k + 1) t v h
      refine ⟨by omega, ?_⟩
      have : t - k = (t - (k + 1)) + 1 := by omega
      rw [this, List.getElem?_cons_succ]
      exact h2
theorem calls_go {P : Program} {f : FuncId} {fn : Func} {c : Code} {vs : List Value} {w : World} {R : Ending → World → Prop} {n : Nat}
    (hf : P.funcs[f]? = some fn) (hb : fn.body = some c) (hn : fn.ntmps = n) (hs : Nat.ble vs.length n = true)
    (h : CW P (bodyQ P fn R) n [] c (enum 0 vs) w) : Calls P f vs.toArray w R :=
  calls_in hf hb hn (by simpa [Nat.ble_eq] using hs) (fun t v ht => by simpa using (enum_has vs 0 t v ht).2) h
section
variable {P : Program} {fn : Func} {R : Ending → World → Prop} {n : Nat} {l : List (Nat × Value)} {w : World}
theorem NW.ret0 (hr : fn.results = #[]) (h : R (.returned (.tuple #[])) w) : NW (bodyQ P fn R) n [] .ret l w := fun a ha =>
  bodyPost_ret (results_none hr _ _ _) ha.defers h
theorem NW.end0 (hr : fn.results = #[]) (h : R (.returned (.tuple #[])) w) : NW (bodyQ P fn R) n [] .normal l w := fun a ha =>
  bodyPost_end (results_none hr _ _ _) ha.defers h
theorem NW.ret1 {t : Nat} {v : Value} (hr : fn.results = #[.tmp t]) (hv : lk l t = some v) (h : R (.returned v) w) : NW (bodyQ P fn R) n [] .ret l w := fun a ha =>
  bodyPost_ret (v := v) (by rw [results_tmp hr, ha.has t v hv]) ha.defers h
theorem NW.ret2 {t u : Nat} {v1 v2 : Value} (hr : fn.results = #[.tmp t, .tmp u]) (h1 : lk l t = some v1) (h2 : lk l u = some v2) (h : R (.returned (.tuple #[v1, v2])) w) : NW (bodyQ P fn R) n [] .ret l w := fun a ha =>
  bodyPost_ret (v := .tuple #[v1, v2]) (by rw [results_tmp2 hr, ha.has t v1 h1, ha.has u v2 h2]) ha.defers h
/-- Results that lie in cells: what 'results' comes to is told. -/
theorem NW.retBy {v : Value} (hr : ∀ a, Env n [] l a → (results fn a.tmps).run P w = .ok v w) (h : R (.returned v) w) : NW (bodyQ P fn R) n [] .ret l w := fun a ha =>
  bodyPost_ret (v := v) (hr a ha) ha.defers h
end

/-! ### 5. regions that draw their order: a plan (operation, taken first or met as the only one). The operations from number m on wait for all that is taken first; S holds till one of them comes up. -/
section
variable {P : Program} {ops : Array Oper} {Q : Exit → Act → World → Prop} {S : World → Prop} {m : Nat}
def wpAnyG (P : Program) (ops : Array Oper) (Q : Exit → Act → World → Prop) (S : World → Prop) (m : Nat) : Nat → Array Bool → Act → World → Prop
  | 0, listed, a, w => Region.ready .any ops listed = [] ∧ Q .normal a w
  | fuel + 1, listed, a, w =>
    (Region.ready .any ops listed = [] → Q .normal a w) ∧
    ∀ i ∈ Region.ready .any ops listed, wpOp P ops Q i (fun a' w' => (i < m → S w') ∧ wpAnyG P ops Q S m fuel (listed.setIfInBounds i true) a' w') a w
theorem wpAny_of_G : ∀ (fuel : Nat) (listed : Array Bool) (a : Act) (w : World), wpAnyG P ops Q S m fuel listed a w → wpAny P .any ops Q fuel listed a w
  | 0, _, _, _, h => h
  | fuel + 1, _, _, _, h => ⟨h.1, fun i hi => wpOp_mono (fun a' w' h' => wpAny_of_G fuel _ a' w' h'.2) (h.2 i hi)⟩
def waitsT (ops : Array Oper) (i : Nat) : Nat → Nat → Bool
  | 0, _ => false
  | f + 1, j => ((ops[j]?).map fun o => o.after.any fun e => Region.binds .any e && (Nat.beq e.on i || waitsT ops i f e.on)).getD false
def tailWaits (ops : Array Oper) (m i : Nat) : Bool :=
  (List.range ops.size).all fun j => Nat.blt j m || waitsT ops i ops.size j
/-- What is listed, all it waits for is listed too. -/
def Closed (ops : Array Oper) (listed : Array Bool) : Prop := ∀ k o, ops[k]? = some o → listed.getD k false = true → ∀ e ∈ o.after, Region.binds .any e = true → listed.getD e.on false = true
theorem waitsT_spec {i : Nat} {listed : Array Bool} (hc : Closed ops listed) : ∀ (f j : Nat) (oj : Oper), ops[j]? = some oj → (∀ e ∈ oj.after, Region.binds .any e = true → listed.getD e.on false = true) → waitsT ops i f j = true → listed.getD i false = true
  | 0, _, _, _, _, h => by simp [waitsT] at h
  | f + 1, j, oj, hj, ha, h => by
    simp only [waitsT, hj, Option.map_some, Option.getD_some] at h
    obtain ⟨e, he, hb⟩ := Array.any_eq_true'.1 h
    simp only [Bool.and_eq_true, Bool.or_eq_true] at hb
    obtain ⟨h1, h2⟩ := hb
    have h3 := ha e he h1
    rcases h2 with h2 | h2
    · rw [← Nat.eq_of_beq_eq_true h2]; exact h3
    · cases ho : ops[e.on]? with
      | none => cases f <;> simp [waitsT, ho] at h2
      | some o => exact waitsT_spec hc f e.on o ho (hc _ o ho h3) h2
theorem tailWaits_spec {i j : Nat} {oj : Oper} {listed : Array Bool} (hc : Closed ops listed) (h : tailWaits ops m i = true) (hj : ops[j]? = some oj) (hm : ¬ j < m) (ha : ∀ e ∈ oj.after, Region.binds .any e = true → listed.getD e.on false = true) : listed.getD i false = true := by
  have hjs : j < ops.size := (Array.getElem?_eq_some_iff.1 hj).1
  have h1 := List.all_eq_true.1 h j (List.mem_range.2 hjs)
  simp only [Bool.or_eq_true] at h1
  rcases h1 with h1 | h1
  · exact absurd (by simpa [Nat.blt_eq] using h1) hm
  · exact waitsT_spec hc _ j oj hj ha h1
theorem getD_set_neF {listed : Array Bool} {j k : Nat} (h : ¬ j = k) : (listed.setIfInBounds j true).getD k false = listed.getD k false := by
  simp only [Array.getD_eq_getD_getElem?, Array.getElem?_setIfInBounds, if_neg h]
theorem getD_set_true {listed : Array Bool} {j k : Nat} (h : listed.getD k false = true) : (listed.setIfInBounds j true).getD k false = true := by
  by_cases hjk : j = k
  · subst hjk
    by_cases hs : j < listed.size
    · simp [hs]
    · simp [hs] at h
  · rw [getD_set_neF hjk]; exact h
theorem Closed.set {listed : Array Bool} {j : Nat} {oj : Oper} (hc : Closed ops listed) (hj : ops[j]? = some oj) (ha : ∀ e ∈ oj.after, Region.binds .any e = true → listed.getD e.on false = true) : Closed ops (listed.setIfInBounds j true) := by
  intro k o ho hk e he hb
  by_cases hjk : j = k
  · subst hjk
    rw [hj] at ho
    injection ho with ho
    subst ho
    exact getD_set_true (ha e he hb)
  · rw [getD_set_neF hjk] at hk
    exact getD_set_true (hc k o ho hk e he hb)
theorem Closed.ready {listed : Array Bool} {j : Nat} (hc : Closed ops listed) (h : (Region.ready .any ops listed).contains j = true) : Closed ops (listed.setIfInBounds j true) := by
  obtain ⟨_, oj, hoj, hall⟩ := mem_ready.1 (by simpa using h)
  exact hc.set hoj hall
theorem Closed.start : Closed ops (Array.replicate ops.size false) := by
  intro k o ho hk
  have hjs : k < ops.size := (Array.getElem?_eq_some_iff.1 ho).1
  simp [hjs] at hk
theorem wpAnyG_first {i : Nat} {oi : Oper} {v : Value} (hi : ops[i]? = some oi) (hsel : ∀ (j : Nat) (o : Oper) cs b, ops[j]? = some o → o.op ≠ .select cs b)
    (hQ : ∀ c a w, Q (.panic c) (a.put oi.dst v) w → Q (.panic c) a w) (him : i < m) (htail : tailWaits ops m i = true) :
    ∀ (fuel : Nat) (listed : Array Bool) (a : Act) (w : World), Closed ops listed →
      (∀ j oj, ops[j]? = some oj → j ≠ i → listed.getD j true = false → (∀ e ∈ oj.after, Region.binds .any e = true → e.on ≠ i) → oi.apart ops oj = true) →
      i ∈ Region.ready .any ops listed → YieldsIf P ops S oi v a → S w →
      wpAnyG P ops Q S m fuel (listed.setIfInBounds i true) (a.put oi.dst v) w → wpAnyG P ops Q S m (fuel + 1) listed a w := by
  intro fuel
  induction fuel with
  | zero =>
    intro listed a w _ _ hr hy hS H
    refine ⟨fun h => (by rw [h] at hr; cases hr), fun j hj => ?_⟩
    by_cases hji : j = i
    · subst hji; exact hy.wpOp hi hS ⟨fun _ => hS, H⟩
    · have := ready_mono hj hji
      rw [H.1] at this
      cases this
  | succ fuel ih =>
    intro listed a w hc hfree hr hy hS H
    refine ⟨fun h => (by rw [h] at hr; cases hr), fun j hj => ?_⟩
    by_cases hji : j = i
    · subst hji; exact hy.wpOp hi hS ⟨fun _ => hS, H⟩
    · have h1 := H.2 j (ready_mono hj hji)
      obtain ⟨hjun, oj, hoj, hall⟩ := mem_ready.1 hj
      have hnot : ∀ e ∈ oj.after, Region.binds .any e = true → e.on ≠ i := fun e he hb heq => by
        have h1 := hall e he hb
        have h0 := (mem_ready.1 hr).1
        rw [heq] at h1
        rcases Nat.lt_or_ge i listed.size with h' | h'
        · simp [h'] at h0 h1; rw [h0] at h1; cases h1
        · simp [Array.getElem?_eq_none h'] at h1
      have hjm : j < m := Classical.byContradiction fun hm => by
        have h1 := tailWaits_spec hc htail hoj hm hall
        have h0 := (mem_ready.1 hr).1
        rcases Nat.lt_or_ge i listed.size with h' | h'
        · simp [h'] at h0 h1; rw [h0] at h1; cases h1
        · simp [Array.getElem?_eq_none h'] at h1
      have h2 := wpOp_putIf hoj (hfree j oj hoj hji hjun hnot) (fun cs b => hsel i oi cs b hi) (fun cs b => hsel j oj cs b hoj) hQ hy h1
      have hfree' : ∀ k ok, ops[k]? = some ok → k ≠ i → (listed.setIfInBounds j true).getD k true = false →
          (∀ e ∈ ok.after, Region.binds .any e = true → e.on ≠ i) → oi.apart ops ok = true := fun k ok hk hki hun hno => by
        refine hfree k ok hk hki ?_ hno
        by_cases hjk : j = k
        · subst hjk; exact hjun
        · rw [getD_set_ne true hjk] at hun; exact hun
      refine wpOp_mono (fun a' w' h3 => ⟨h3.2.1, ih (listed.setIfInBounds j true) a' w' (hc.set hoj hall) hfree' (ready_mono hr (Ne.symm hji)) h3.1 (h3.2.1 hjm) ?_⟩) h2
      rw [Array.setIfInBounds_comm _ _ hji]
      exact h3.2.2
theorem wpAnyG_take {i : Nat} {oi : Oper} {v : Value} {fuel : Nat} {listed : Array Bool} {a : Act} {w : World} (hi : ops[i]? = some oi)
    (hs : Region.noSelect ops = true) (hf : Region.free .any ops listed i = true) (hr : (Region.ready .any ops listed).contains i = true) (him : i < m) (htail : tailWaits ops m i = true) (hc : Closed ops listed)
    (hQ : ∀ c a w, Q (.panic c) (a.put oi.dst v) w → Q (.panic c) a w) (hy : YieldsIf P ops S oi v a) (hS : S w)
    (h : wpAnyG P ops Q S m fuel (listed.setIfInBounds i true) (a.put oi.dst v) w) : wpAnyG P ops Q S m (fuel + 1) listed a w :=
  wpAnyG_first hi (Region.noSelect_spec hs) hQ him htail fuel listed a w hc (Region.free_spec hi hf) (by simpa using hr) hy hS h
theorem wpAnyG_done {listed : Array Bool} {a : Act} {w : World} (hr : Region.ready .any ops listed = []) (h : Q .normal a w) :
    ∀ fuel, wpAnyG P ops Q S m fuel listed a w
  | 0 => ⟨hr, h⟩
  | _ + 1 => ⟨fun _ => h, by rw [hr]; simp⟩
end
def planOK (ops : Array Oper) (m : Nat) : List (Nat × Bool) → Nat → Array Bool → Bool
  | [], k, listed => Nat.beq k 0 && (Region.ready .any ops listed).isEmpty
  | (i, true) :: r, k + 1, listed => (Region.ready .any ops listed).contains i && Region.free .any ops listed i && Nat.blt i m && tailWaits ops m i && planOK ops m r k (listed.setIfInBounds i true)
  | (i, false) :: r, k + 1, listed => (match Region.ready .any ops listed with | [j] => Nat.beq i j | _ => false) && planOK ops m r k (listed.setIfInBounds i true)
  | _, 0, _ => false
def drawOK (ops : Array Oper) (m : Nat) (plan : List (Nat × Bool)) : Bool := Region.noSelect ops && planOK ops m plan ops.size (Array.replicate ops.size false)
/-- From a take on, S is there. -/
def noTake : List (Nat × Bool) → Bool
  | [] => true
  | (_, true) :: _ => false
  | (_, false) :: r => noTake r
section
variable (P : Program) (ops : Array Oper) (Q : Exit → Act → World → Prop) (S : World → Prop) (m : Nat)
def wpPlan : List (Nat × Bool) → Act → World → Prop
  | [], a, w => Q .normal a w
  | (i, true) :: r, a, w => ∃ o v, ops[i]? = some o ∧ YieldsIf P ops S o v a ∧ wpPlan r (a.put o.dst v) w
  | (i, false) :: r, a, w => wpOp P ops Q i (fun a' w' => ((Nat.blt i m = true ∨ noTake r = false) → S w') ∧ wpPlan r a' w') a w
def PL (n : Nat) (ds : List Deferred) (plan : List (Nat × Bool)) (l : List (Nat × Value)) (w : World) : Prop := ∀ a, Env n ds l a → wpPlan P ops Q S m plan a w
end
section
variable {P : Program} {ops : Array Oper} {Q : Exit → Act → World → Prop} {S : World → Prop} {m : Nat} {n : Nat} {ds : List Deferred} {l l' : List (Nat × Value)} {w : World}
theorem wpAnyG_plan (hns : Region.noSelect ops = true) (hQ : ∀ c a a' w, Q (.panic c) a w → Q (.panic c) a' w) : ∀ (plan : List (Nat × Bool)) (k : Nat) (listed : Array Bool) (a : Act) (w : World), planOK ops m plan k listed = true → Closed ops listed → (noTake plan = false → S w) →
    wpPlan P ops Q S m plan a w → wpAnyG P ops Q S m k listed a w
  | [], k, listed, a, w, hp, _, hS, h => by
    simp only [planOK, Bool.and_eq_true] at hp
    exact wpAnyG_done (List.isEmpty_iff.1 hp.2) h k
  | (i, true) :: r, 0, listed, a, w, hp, _, hS, h => by simp [planOK] at hp
  | (i, false) :: r, 0, listed, a, w, hp, _, hS, h => by simp [planOK] at hp
  | (i, true) :: r, k + 1, listed, a, w, hp, hc, hS, h => by
    simp only [planOK, Bool.and_eq_true] at hp
    obtain ⟨o, v, ho, hy, hr⟩ := h
    exact wpAnyG_take ho hns hp.1.1.1.2 hp.1.1.1.1 (by simpa [Nat.blt_eq] using hp.1.1.2) hp.1.2 hc (fun c a w hq => hQ c _ _ w hq) hy (hS rfl) (wpAnyG_plan hns hQ r k _ _ _ hp.2 (hc.ready hp.1.1.1.1) (fun _ => hS rfl) hr)
  | (i, false) :: r, k + 1, listed, a, w, hp, hc, hS, h => by
    simp only [planOK, Bool.and_eq_true] at hp
    obtain ⟨h1, h2⟩ := hp
    split at h1
    · rename_i j hj
      have e : i = j := Nat.eq_of_beq_eq_true h1
      subst e
      refine ⟨fun h0 => absurd (hj ▸ h0) (by simp), fun x hx => ?_⟩
      rw [hj] at hx
      have ex : x = i := by simpa using hx
      subst ex
      refine wpOp_mono (fun a' w' hh => ⟨fun hm => hh.1 (.inl (by simpa [Nat.blt_eq] using hm)), ?_⟩) h
      exact wpAnyG_plan hns hQ r k _ _ _ h2 (hc.ready (by rw [hj]; simp)) (fun ht => hh.1 (.inr ht)) hh.2
    · cases h1
theorem CW.draw {id : Nat} {os : List Oper} (m : Nat) (plan : List (Nat × Bool)) (S : World → Prop) (hm : P.follows .mixedOrders = true) (hB : drawOK os.toArray m plan = true)
    (hQ : ∀ c a a' w, Q (.panic c) a w → Q (.panic c) a' w) {w1 : World} (hw1 : w1 = w.drew) (hS : S w1) (h : PL P os.toArray Q S m n ds plan l w1) : CW P Q n ds (.region id os.toArray true) l w := fun a ha => by
  subst hw1
  simp only [drawOK, Bool.and_eq_true] at hB
  exact wp_region_any hm (wpAny_of_G _ _ _ _ (wpAnyG_plan hB.1 hQ plan _ _ _ _ hB.2 Closed.start (fun _ => hS) (h a ha)))
theorem PL.done (h : NW Q n ds .normal l w) : PL P ops Q S m n ds [] l w := h
theorem PL.sub {plan : List (Nat × Bool)} (hs : Sub l' l) (h : PL P ops Q S m n ds plan l' w) : PL P ops Q S m n ds plan l w := fun a ha => h a (ha.sub hs)
theorem PL.y {i : Nat} {o : Oper} {plan : List (Nat × Bool)} {v : Value} (ho : ops[i]? = some o) (hg : o.guard = none) (hd : dOK n o.dst = true) (hy : ∀ w', S w' → Yi P n ds o l v w')
    (h : PL P ops Q S m n ds plan (ext l o.dst v) w) : PL P ops Q S m n ds ((i, true) :: plan) l w := fun a ha =>
  ⟨o, v, ho, .inl ⟨by simp [Region.wanted, hg], fun w' hS => hy w' hS a ha⟩, h _ (ha.put hd v)⟩
theorem PL.gy {i : Nat} {o : Oper} {plan : List (Nat × Bool)} {v : Value} {j t : Nat} {b : Bool} (ho : ops[i]? = some o) (hg : o.guard = some (j, b)) (hj : (ops[j]?).bind (·.dst) = some t) (ht : Nat.blt t n = true) (hl : lk l t = some (.bool b))
    (hd : dOK n o.dst = true) (hy : ∀ w', S w' → Yi P n ds o l v w') (h : PL P ops Q S m n ds plan (ext l o.dst v) w) : PL P ops Q S m n ds ((i, true) :: plan) l w := fun a ha =>
  ⟨o, v, ho, .inl ⟨by simp [Region.wanted, hg, yielded_of ha hj hl ht], fun w' hS => hy w' hS a ha⟩, h _ (ha.put hd v)⟩
theorem PL.no {i : Nat} {o : Oper} {plan : List (Nat × Bool)} {j t : Nat} {b b' : Bool} (ho : ops[i]? = some o) (hg : o.guard = some (j, b)) (hj : (ops[j]?).bind (·.dst) = some t) (ht : Nat.blt t n = true) (hl : lk l t = some (.bool b')) (hb : (b' == b) = false)
    (hd : dOK n o.dst = true) (h : PL P ops Q S m n ds plan (ext l o.dst undef) w) : PL P ops Q S m n ds ((i, true) :: plan) l w := fun a ha => by
  have hne : b' ≠ b := by simpa using hb
  exact ⟨o, undef, ho, .inr ⟨by simp [Region.wanted, hg, yielded_of ha hj hl ht, hne], rfl⟩, h _ (ha.put hd undef)⟩
theorem PL.e {i : Nat} {o : Oper} {plan : List (Nat × Bool)} {Post : Value → World → Prop} (ho : ops[i]? = some o) (hg : o.guard = none) (hd : dOK n o.dst = true) (he : Ef P n ds o l w Post)
    (h : ∀ v w', Post v w' → ((Nat.blt i m = true ∨ noTake plan = false) → S w') ∧ PL P ops Q S m n ds plan (ext l o.dst v) w') : PL P ops Q S m n ds ((i, false) :: plan) l w := fun a ha => by
  have hw : Region.wanted o (yielded ops a.tmps) = true := by simp [Region.wanted, hg]
  simp only [wpPlan, wpOp, ho, hw, if_true]
  exact .inl (he a ha _ Q fun v w' hp => ⟨(h v w' hp).1, (h v w' hp).2 _ (ha.put hd v)⟩)
/-- One of the last ones. -/
theorem PL.z {i : Nat} {o : Oper} {plan : List (Nat × Bool)} {Post : Value → World → Prop} (ho : ops[i]? = some o) (hg : o.guard = none) (hd : dOK n o.dst = true) (him : Nat.blt i m = false) (hnt : noTake plan = true) (he : Ef P n ds o l w Post)
    (h : ∀ v w', Post v w' → PL P ops Q S m n ds plan (ext l o.dst v) w') : PL P ops Q S m n ds ((i, false) :: plan) l w :=
  PL.e ho hg hd he fun v w' hp => ⟨fun hh => by rcases hh with hh | hh <;> simp_all, h v w' hp⟩
/-- One of the last ones, that turns nothing. -/
theorem PL.zy {i : Nat} {o : Oper} {plan : List (Nat × Bool)} {v : Value} (ho : ops[i]? = some o) (hg : o.guard = none) (hd : dOK n o.dst = true) (him : Nat.blt i m = false) (hnt : noTake plan = true) (hy : Yi P n ds o l v w)
    (h : PL P ops Q S m n ds plan (ext l o.dst v) w) : PL P ops Q S m n ds ((i, false) :: plan) l w := fun a ha => by
  have hw : Region.wanted o (yielded ops a.tmps) = true := by simp [Region.wanted, hg]
  simp only [wpPlan, wpOp, ho, hw, if_true]
  refine .inl ?_
  simp only [Oper.wp, hy a ha, Oper.upon]
  exact ⟨fun hh => by rcases hh with hh | hh <;> simp_all, h _ (ha.put hd v)⟩
theorem PL.split {plan : List (Nat × Bool)} {t : Nat} {b : Bool} (hl : lk l t = some (.bool b)) (h1 : b = true → PL P ops Q S m n ds plan ((t, .bool true) :: l) w) (h0 : b = false → PL P ops Q S m n ds plan ((t, .bool false) :: l) w) :
    PL P ops Q S m n ds plan l w := by
  have key : ∀ {c : Bool} {a : Act}, b = c → Env n ds l a → Env n ds ((t, .bool c) :: l) a := fun {c a} hc ha => ⟨ha.size, ha.defers, fun s v hs => by
    by_cases e : t = s
    · subst e
      rw [lk_hit] at hs
      injection hs with hs
      subst hs
      subst hc
      exact ha.has _ _ hl
    · rw [lk_miss e] at hs
      exact ha.has _ _ hs⟩
  cases hb : b with
  | true => exact fun a ha => h1 hb a (key hb ha)
  | false => exact fun a ha => h0 hb a (key hb ha)
end
end Go.Proofs.YtgmjgdjobkmbgaaL
