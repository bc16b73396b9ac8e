/- A region where several operations come up at once, each of which turns the world: each order is gone through. -/
import Derived.Test.YtgmjgdjobkmbgaaScope
set_option linter.unusedVariables false
set_option linter.unusedSimpArgs false
namespace Go.Proofs.YtgmjgdjobkmbgaaL
open Go.RowKit
section
variable (P : Program) (ops : Array Oper) (Q : Exit → Act → World → Prop) (n : Nat) (ds : List Deferred)
def AN (k : Nat) (listed : Array Bool) (l : List (Nat × Value)) (w : World) : Prop := ∀ a, Env n ds l a → wpAny P .any ops Q k listed a w
def AO (k : Nat) (listed : Array Bool) (i : Nat) (l : List (Nat × Value)) (w : World) : Prop := ∀ a, Env n ds l a → wpOp P ops Q i (wpAny P .any ops Q k (listed.setIfInBounds i true)) a w
end
section
variable {P : Program} {ops : Array Oper} {Q : Exit → Act → World → Prop} {n : Nat} {ds : List Deferred} {k : Nat} {listed : Array Bool} {l : List (Nat × Value)} {w : World}
theorem CW.any {id : Nat} {os : List Oper} (hm : P.follows .mixedOrders = true) {w1 : World} (hw1 : w1 = w.drew) (h : AN P os.toArray Q n ds os.toArray.size (Array.replicate os.toArray.size false) l w1) : CW P Q n ds (.region id os.toArray true) l w := fun a ha => by
  subst hw1
  exact wp_region_any hm (h a ha)
theorem AN.done (hr : (Region.ready .any ops listed).isEmpty = true) (h : NW Q n ds .normal l w) : AN P ops Q n ds k listed l w := fun a ha => by
  have hr := List.isEmpty_iff.1 hr
  cases k with
  | zero => exact ⟨hr, h a ha⟩
  | succ k => exact ⟨fun _ => h a ha, by rw [hr]; simp⟩
theorem AN.one {i : Nat} (hr : (match Region.ready .any ops listed with | [a] => Nat.beq a i | _ => false) = true) (h : AO P ops Q n ds k listed i l w) : AN P ops Q n ds (k + 1) listed l w := fun a ha => by
  split at hr
  · rename_i a0 h0
    have e := Nat.eq_of_beq_eq_true hr
    subst e
    exact ⟨fun h1 => (by rw [h0] at h1; cases h1), fun j hj => by rw [h0] at hj; rw [List.mem_singleton.1 hj]; exact h a ha⟩
  · cases hr
theorem AN.two {i j : Nat} (hr : (match Region.ready .any ops listed with | [a, b] => Nat.beq a i && Nat.beq b j | _ => false) = true) (h1 : AO P ops Q n ds k listed i l w) (h2 : AO P ops Q n ds k listed j l w) : AN P ops Q n ds (k + 1) listed l w := fun a ha => by
  split at hr
  · rename_i a0 b0 h0
    simp only [Bool.and_eq_true] at hr
    have e := Nat.eq_of_beq_eq_true hr.1
    have e2 := Nat.eq_of_beq_eq_true hr.2
    subst e
    subst e2
    refine ⟨fun h1 => (by rw [h0] at h1; cases h1), fun x hx => ?_⟩
    rw [h0] at hx
    rcases List.mem_cons.1 hx with hx | hx
    · rw [hx]; exact h1 a ha
    · rw [List.mem_singleton.1 hx]; exact h2 a ha
  · cases hr
theorem AN.three {i j m : Nat} (hr : (match Region.ready .any ops listed with | [a, b, c] => Nat.beq a i && Nat.beq b j && Nat.beq c m | _ => false) = true) (h1 : AO P ops Q n ds k listed i l w) (h2 : AO P ops Q n ds k listed j l w) (h3 : AO P ops Q n ds k listed m l w) : AN P ops Q n ds (k + 1) listed l w := fun a ha => by
  split at hr
  · rename_i a0 b0 c0 h0
    simp only [Bool.and_eq_true] at hr
    have e := Nat.eq_of_beq_eq_true hr.1.1
    have e2 := Nat.eq_of_beq_eq_true hr.1.2
    have e3 := Nat.eq_of_beq_eq_true hr.2
    subst e
    subst e2
    subst e3
    refine ⟨fun h1 => (by rw [h0] at h1; cases h1), fun x hx => ?_⟩
    rw [h0] at hx
    rcases List.mem_cons.1 hx with hx | hx
    · rw [hx]; exact h1 a ha
    · rcases List.mem_cons.1 hx with hx | hx
      · rw [hx]; exact h2 a ha
      · rw [List.mem_singleton.1 hx]; exact h3 a ha
  · cases hr
theorem AO.y {i : Nat} {o : Oper} {v : Value} (ho : ops[i]? = some o) (hg : o.guard = none) (hd : dOK n o.dst = true) (hy : Yi P n ds o l v w) (h : AN P ops Q n ds k (listed.setIfInBounds i true) (ext l o.dst v) w) : AO P ops Q n ds k listed i l w := fun a ha => by
  have hw : Region.wanted o (yielded ops a.tmps) = true := by simp [Region.wanted, hg]
  simp only [wpOp, ho, hw, if_true]
  refine .inl ?_
  simp only [Oper.wp, hy a ha, Oper.upon]
  exact h _ (ha.put hd v)
theorem AO.e {i : Nat} {o : Oper} {Post : Value → World → Prop} (ho : ops[i]? = some o) (hg : o.guard = none) (hd : dOK n o.dst = true) (he : Ef P n ds o l w Post) (h : ∀ v w', Post v w' → AN P ops Q n ds k (listed.setIfInBounds i true) (ext l o.dst v) w') : AO P ops Q n ds k listed i l w := fun a ha => by
  have hw : Region.wanted o (yielded ops a.tmps) = true := by simp [Region.wanted, hg]
  simp only [wpOp, ho, hw, if_true]
  exact .inl (he a ha _ Q fun v w' hp => h v w' hp _ (ha.put hd v))
end
end Go.Proofs.YtgmjgdjobkmbgaaL
