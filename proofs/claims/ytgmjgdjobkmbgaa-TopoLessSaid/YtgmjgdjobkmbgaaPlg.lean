/- Guarded operations in a region that draws its order. -/
import Derived.Test.YtgmjgdjobkmbgaaFull
set_option linter.unusedVariables false
set_option linter.unusedSimpArgs false
namespace Go.Proofs.YtgmjgdjobkmbgaaL
open Go.RowKit
section
variable {P : Program} {ops : Array Oper} {Q : Exit → Act → World → Prop} {S : World → Prop} {m : Nat} {n : Nat} {ds : List Deferred} {l : List (Nat × Value)} {w : World}
theorem PL.ge {i : Nat} {o : Oper} {plan : List (Nat × Bool)} {Post : Value → World → Prop} {j t : Nat} {b : Bool} (ho : ops[i]? = some o) (hg : o.guard = some (j, b)) (hj : (ops[j]?).bind (·.dst) = some t) (ht : Nat.blt t n = true) (hl : lk l t = some (.bool b))
    (hd : dOK n o.dst = true) (he : Ef P n ds o l w Post)
    (h : ∀ v w', Post v w' → ((Nat.blt i m = true ∨ noTake plan = false) → S w') ∧ PL P ops Q S m n ds plan (ext l o.dst v) w') : PL P ops Q S m n ds ((i, false) :: plan) l w := fun a ha => by
  have hw : Region.wanted o (yielded ops a.tmps) = true := by simp [Region.wanted, hg, yielded_of ha hj hl ht]
  simp only [wpPlan, wpOp, ho, hw, if_true]
  exact .inl (he a ha _ Q fun v w' hp => ⟨(h v w' hp).1, (h v w' hp).2 _ (ha.put hd v)⟩)
theorem PL.gz {i : Nat} {o : Oper} {plan : List (Nat × Bool)} {Post : Value → World → Prop} {j t : Nat} {b : Bool} (ho : ops[i]? = some o) (hg : o.guard = some (j, b)) (hj : (ops[j]?).bind (·.dst) = some t) (ht : Nat.blt t n = true) (hl : lk l t = some (.bool b))
    (hd : dOK n o.dst = true) (him : Nat.blt i m = false) (hnt : noTake plan = true) (he : Ef P n ds o l w Post)
    (h : ∀ v w', Post v w' → PL P ops Q S m n ds plan (ext l o.dst v) w') : PL P ops Q S m n ds ((i, false) :: plan) l w :=
  PL.ge ho hg hj ht hl hd he fun v w' hp => ⟨fun hh => by rcases hh with hh | hh <;> simp_all, h v w' hp⟩
theorem PL.gyy {i : Nat} {o : Oper} {plan : List (Nat × Bool)} {v : Value} {j t : Nat} {b : Bool} (ho : ops[i]? = some o) (hg : o.guard = some (j, b)) (hj : (ops[j]?).bind (·.dst) = some t) (ht : Nat.blt t n = true) (hl : lk l t = some (.bool b))
    (hd : dOK n o.dst = true) (hy : Yi P n ds o l v w) (hS : S w) (h : PL P ops Q S m n ds plan (ext l o.dst v) w) : PL P ops Q S m n ds ((i, false) :: plan) l w := fun a ha => by
  have hw : Region.wanted o (yielded ops a.tmps) = true := by simp [Region.wanted, hg, yielded_of ha hj hl ht]
  simp only [wpPlan, wpOp, ho, hw, if_true]
  refine .inl ?_
  simp only [Oper.wp, hy a ha, Oper.upon]
  exact ⟨fun _ => hS, h _ (ha.put hd v)⟩
theorem PL.gzy {i : Nat} {o : Oper} {plan : List (Nat × Bool)} {v : Value} {j t : Nat} {b : Bool} (ho : ops[i]? = some o) (hg : o.guard = some (j, b)) (hj : (ops[j]?).bind (·.dst) = some t) (ht : Nat.blt t n = true) (hl : lk l t = some (.bool b))
    (hd : dOK n o.dst = true) (him : Nat.blt i m = false) (hnt : noTake plan = true) (hy : Yi P n ds o l v w) (h : PL P ops Q S m n ds plan (ext l o.dst v) w) : PL P ops Q S m n ds ((i, false) :: plan) l w := fun a ha => by
  have hw : Region.wanted o (yielded ops a.tmps) = true := by simp [Region.wanted, hg, yielded_of ha hj hl ht]
  simp only [wpPlan, wpOp, ho, hw, if_true]
  refine .inl ?_
  simp only [Oper.wp, hy a ha, Oper.upon]
  exact ⟨fun hh => by rcases hh with hh | hh <;> simp_all, h _ (ha.put hd v)⟩
theorem PL.noe {i : Nat} {o : Oper} {plan : List (Nat × Bool)} {j t : Nat} {b b' : Bool} (ho : ops[i]? = some o) (hg : o.guard = some (j, b)) (hj : (ops[j]?).bind (·.dst) = some t) (ht : Nat.blt t n = true) (hl : lk l t = some (.bool b')) (hb : (b' == b) = false)
    (hd : dOK n o.dst = true) (hS : (Nat.blt i m = true ∨ noTake plan = false) → S w) (h : PL P ops Q S m n ds plan (ext l o.dst undef) w) : PL P ops Q S m n ds ((i, false) :: plan) l w := fun a ha => by
  have hne : b' ≠ b := by simpa using hb
  have hw : Region.wanted o (yielded ops a.tmps) = false := by simp [Region.wanted, hg, yielded_of ha hj hl ht, hne]
  simp only [wpPlan, wpOp, ho, hw]
  exact ⟨hS, h _ (ha.put hd undef)⟩
end
end Go.Proofs.YtgmjgdjobkmbgaaL
