/- Regions that draw their order, where now and then two or three operations that turn the world come up at once: each of these orders is gone through, all else is taken first. -/
import Derived.Test.YtgmjgdjobkmbgaaFull
set_option linter.unusedVariables false
set_option linter.unusedSimpArgs false
namespace Go.Proofs.YtgmjgdjobkmbgaaL
open Go.RowKit
section
variable (P : Program) (ops : Array Oper) (Q : Exit → Act → World → Prop) (S : World → Prop) (m : Nat) (n : Nat) (ds : List Deferred)
def AG (k : Nat) (listed : Array Bool) (l : List (Nat × Value)) (w : World) : Prop :=
  Region.noSelect ops = true → (∀ c a a' w, Q (.panic c) a w → Q (.panic c) a' w) → Closed ops listed → S w → ∀ a, Env n ds l a → wpAnyG P ops Q S m k listed a w
def AGO (k : Nat) (listed : Array Bool) (i : Nat) (l : List (Nat × Value)) (w : World) : Prop :=
  Region.noSelect ops = true → (∀ c a a' w, Q (.panic c) a w → Q (.panic c) a' w) → Closed ops (listed.setIfInBounds i true) → ∀ a, Env n ds l a →
    wpOp P ops Q i (fun a' w' => (i < m → S w') ∧ wpAnyG P ops Q S m k (listed.setIfInBounds i true) a' w') a w
end
section
variable {P : Program} {ops : Array Oper} {Q : Exit → Act → World → Prop} {S : World → Prop} {m : Nat} {n : Nat} {ds : List Deferred} {k : Nat} {listed : Array Bool} {l : List (Nat × Value)} {w : World}
theorem CW.each {id : Nat} {os : List Oper} (m : Nat) (S : World → Prop) (hm : P.follows .mixedOrders = true) (hns : Region.noSelect os.toArray = true)
    (hQ : ∀ c a a' w, Q (.panic c) a w → Q (.panic c) a' w) {w1 : World} (hw1 : w1 = w.drew) (hS : S w1) (h : AG P os.toArray Q S m n ds os.toArray.size (Array.replicate os.toArray.size false) l w1) : CW P Q n ds (.region id os.toArray true) l w := fun a ha => by
  subst hw1
  exact wp_region_any hm (wpAny_of_G _ _ _ _ (h hns hQ Closed.start hS a ha))
theorem AG.done (hr : (Region.ready .any ops listed).isEmpty = true) (h : NW Q n ds .normal l w) : AG P ops Q S m n ds k listed l w := fun _ _ _ _ a ha =>
  wpAnyG_done (List.isEmpty_iff.1 hr) (h a ha) k
theorem AG.y {i : Nat} {o : Oper} {v : Value} (ho : ops[i]? = some o) (hg : o.guard = none) (hd : dOK n o.dst = true)
    (hB : ((Region.ready .any ops listed).contains i && Region.free .any ops listed i && Nat.blt i m && tailWaits ops m i) = true)
    (hy : ∀ w', S w' → Yi P n ds o l v w') (h : AG P ops Q S m n ds k (listed.setIfInBounds i true) (ext l o.dst v) w) : AG P ops Q S m n ds (k + 1) listed l w := fun hns hQ hc hS a ha => by
  simp only [Bool.and_eq_true] at hB
  exact wpAnyG_take ho hns hB.1.1.2 hB.1.1.1 (by simpa [Nat.blt_eq] using hB.1.2) hB.2 hc (fun c a w hq => hQ c _ _ w hq) (.inl ⟨by simp [Region.wanted, hg], fun w' hS => hy w' hS a ha⟩) hS
    (h hns hQ (hc.ready hB.1.1.1) hS _ (ha.put hd v))
theorem AG.one {i : Nat} (hr : (match Region.ready .any ops listed with | [a] => Nat.beq a i | _ => false) = true) (h : AGO P ops Q S m n ds k listed i l w) : AG P ops Q S m n ds (k + 1) listed l w := fun hns hQ hc hS a ha => by
  split at hr
  · rename_i a0 h0
    have e := Nat.eq_of_beq_eq_true hr
    subst e
    exact ⟨fun h1 => (by rw [h0] at h1; cases h1), fun j hj => by rw [h0] at hj; rw [List.mem_singleton.1 hj]; exact h hns hQ (hc.ready (by rw [h0]; simp)) a ha⟩
  · cases hr
theorem AG.two {i j : Nat} (hr : (match Region.ready .any ops listed with | [a, b] => Nat.beq a i && Nat.beq b j | _ => false) = true) (h1 : AGO P ops Q S m n ds k listed i l w) (h2 : AGO P ops Q S m n ds k listed j l w) : AG P ops Q S m n ds (k + 1) listed l w := fun hns hQ hc hS a ha => by
  split at hr
  · rename_i a0 b0 h0
    simp only [Bool.and_eq_true] at hr
    have e := Nat.eq_of_beq_eq_true hr.1
    have e2 := Nat.eq_of_beq_eq_true hr.2
    subst e
    subst e2
    refine ⟨fun h1 => (by rw [h0] at h1; cases h1), fun x hx => ?_⟩
    rw [h0] at hx
    rcases List.mem_cons.1 hx with hx | hx
    · rw [hx]; exact h1 hns hQ (hc.ready (by rw [h0]; simp)) a ha
    · rw [List.mem_singleton.1 hx]; exact h2 hns hQ (hc.ready (by rw [h0]; simp)) a ha
  · cases hr
theorem AGO.y {i : Nat} {o : Oper} {v : Value} (ho : ops[i]? = some o) (hg : o.guard = none) (hd : dOK n o.dst = true) (hy : Yi P n ds o l v w) (hS : S w) (h : AG P ops Q S m n ds k (listed.setIfInBounds i true) (ext l o.dst v) w) : AGO P ops Q S m n ds k listed i l w := fun hns hQ hc a ha => by
  have hw : Region.wanted o (yielded ops a.tmps) = true := by simp [Region.wanted, hg]
  simp only [wpOp, ho, hw, if_true]
  refine .inl ?_
  simp only [Oper.wp, hy a ha, Oper.upon]
  exact ⟨fun _ => hS, h hns hQ hc hS _ (ha.put hd v)⟩
theorem AGO.e {i : Nat} {o : Oper} {Post : Value → World → Prop} (ho : ops[i]? = some o) (hg : o.guard = none) (hd : dOK n o.dst = true) (he : Ef P n ds o l w Post) (h : ∀ v w', Post v w' → S w' ∧ AG P ops Q S m n ds k (listed.setIfInBounds i true) (ext l o.dst v) w') : AGO P ops Q S m n ds k listed i l w := fun hns hQ hc a ha => by
  have hw : Region.wanted o (yielded ops a.tmps) = true := by simp [Region.wanted, hg]
  simp only [wpOp, ho, hw, if_true]
  exact .inl (he a ha _ Q fun v w' hp => ⟨fun _ => (h v w' hp).1, (h v w' hp).2 hns hQ hc (h v w' hp).1 _ (ha.put hd v)⟩)
theorem AG.as_ {t : Nat} {v v' : Value} (hl : lk l t = some v) (he : v = v') (h : AG P ops Q S m n ds k listed ((t, v') :: l) w) : AG P ops Q S m n ds k listed l w := fun hns hQ hc hS a ha =>
  h hns hQ hc hS a ⟨ha.size, ha.defers, fun s u hs => by
    by_cases e : t = s
    · subst e
      rw [lk_hit] at hs
      injection hs with hs
      subst hs
      subst he
      exact ha.has _ _ hl
    · rw [lk_miss e] at hs
      exact ha.has _ _ hs⟩
end
end Go.Proofs.YtgmjgdjobkmbgaaL
