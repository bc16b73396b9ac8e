/- The reference's Same, walked. -/
import Derived.Test.YtgmjgdjobkmbgaaTopH
import Derived.Test.YtgmjgdjobkmbgaaTopQ
set_option linter.unusedVariables false
set_option linter.unusedSimpArgs false
namespace Go.Proofs.YtgmjgdjobkmbgaaN
open Go.Proofs.YtgmjgdjobkmbgaaL Go.RowKit Go.Proofs
attribute [local irreducible] Ef Yi WL PL CW NW Ret
open Go.Lib Go.Sort
theorem eq_step {xs ys : List Int} {i : Nat} {x y : Int} (h : ∀ j, j < i → xs[j]? = ys[j]?) (hx : xs[i]? = some x) (hy : ys[i]? = some y) (e : x = y) : ∀ j, j < i + 1 → xs[j]? = ys[j]? := by
  intro j hj
  by_cases h9 : j = i
  · subst h9; rw [hx, hy, e]
  · exact h j (by omega)

theorem refSame_c (A B : Option Addr) (c d : Nat) (xs ys : List Int) (ok ok2 : Nat → Prop) (w : World) (R : Row dI w ok A xs) (R2 : Row dI w ok2 B ys) (hx : xs.length ≤ 9223372036854775806) (hy : ys.length ≤ 9223372036854775806) :
    Ret Try.prog 42 [.slice A xs.length c, .slice B ys.length d] w fun u w' => u = .bool (decide (xs = ys)) ∧ Same w w' := by
  have fr0 : Only (fun _ => False) w w := Only.refl _ _
  refine Ret.go Try.func42 rfl Try.ntmps42 rfl ?_
  refine CW.seq ?_
  refine CW.region ?_
  refine WL.y rfl rfl (yi_assign rfl) ?_
  refine WL.done ?_
  refine NW.next ?_
  refine CW.seq ?_
  refine CW.seq ?_
  refine CW.region ?_
  refine WL.y rfl rfl (yi_move rfl) ?_
  refine WL.y rfl rfl (yi_len Try.runUnderlying49 rfl) ?_
  refine WL.y rfl rfl (yi_move rfl) ?_
  refine WL.y rfl rfl (yi_len Try.runUnderlying49 rfl) ?_
  refine WL.y rfl rfl (yi_neq rfl rfl) ?_
  refine WL.done ?_
  refine NW.next ?_
  refine CW.cond rfl (fun q_ => ?_) (fun q_ => ?_)
  · try replace q_ := of_decide_eq_true q_
    refine CW.seq ?_
    refine CW.region ?_
    refine WL.y rfl rfl (yi_assign rfl) ?_
    refine WL.done ?_
    refine NW.next ?_
    refine CW.ret ?_
    refine NW.thenRet ?_
    refine NW.ret1 rfl rfl ?_
    have hne : xs ≠ ys := fun e => by rw [e] at q_; exact q_ rfl
    exact ⟨_, rfl, by simp [hne], fr0⟩
  · try replace q_ := of_decide_eq_false q_
    refine CW.skip ?_
    refine NW.next ?_
    refine CW.seq ?_
    refine CW.seq ?_
    refine CW.region ?_
    refine WL.y rfl rfl (yi_assign rfl) ?_
    refine WL.done ?_
    refine NW.next ?_
    refine CW.block ?_
    refine CW.loop (fun mm a w' => ∃ i : Nat, mm = xs.length - i ∧ i ≤ xs.length ∧ Same w w' ∧ (∀ j, j < i → xs[j]? = ys[j]?) ∧ Env 26 [] [(0, .slice A xs.length c), (1, .slice B ys.length d), (5, .int .i64 i)] a) (xs.length) ?_ ?_
    · exact fun a ha => ⟨0, rfl, by omega, fr0, fun j hj => by omega, ha.sub ⟨rfl, rfl, rfl, trivial⟩⟩
    · rintro mm a w1 ⟨i, rfl, hi, fr, hall, ha⟩
      refine CW.at ha ?_
      have Rk := Row.same (by decide) R fr
      have Rk2 := Row.same (by decide) R2 fr
      refine CW.seq ?_
      refine CW.seq ?_
      refine CW.region ?_
      refine WL.y rfl rfl (yi_move rfl) ?_
      refine WL.y rfl rfl (yi_move rfl) ?_
      refine WL.y rfl rfl (yi_len Try.runUnderlying49 rfl) ?_
      refine WL.y rfl rfl (yi_lss rfl rfl) ?_
      refine WL.done ?_
      refine NW.next ?_
      refine CW.cond rfl (fun q_L => ?_) (fun q_L => ?_)
      · try replace q_L := of_decide_eq_true q_L
        obtain ⟨x, he1⟩ : ∃ x, xs[i]? = some x := ⟨xs[i]'(by omega), List.getElem?_eq_getElem (by omega)⟩
        obtain ⟨y, he2⟩ : ∃ y, ys[i]? = some y := ⟨ys[i]'(by omega), List.getElem?_eq_getElem (by omega)⟩
        obtain ⟨ad, hA, hc1⟩ := int_at Rk he1
        obtain ⟨bd, hB, hc2⟩ := int_at Rk2 he2
        subst hA
        subst hB
        refine CW.skip ?_
        refine NW.next ?_
        refine CW.seq ?_
        refine CW.block ?_
        refine CW.seq ?_
        have fd2 : Same w1 w1.drew := Only.drew _ _
        obtain ⟨w3, hww3⟩ : ∃ wz, wz = w1.drew := ⟨_, rfl⟩
        rw [← hww3] at fd2
        have F4 := Only.same fr fd2
        have F5 := Row.same (by decide) Rk fd2
        have F6 := Row.same (by decide) Rk2 fd2
        have F7 := Only.cell fd2 hc1 (fun hl => hl)
        have F8 := Only.cell fd2 hc2 (fun hl => hl)
        have sz9 := fd2.size
        refine CW.draw 9 [(0, true), (1, true), (2, true), (3, true), (4, true), (5, true), (6, true), (7, true), (8, true)] (fun w' => World.cell? w' (ad.add i) = some (.int .i64 x) ∧ World.cell? w' (bd.add i) = some (.int .i64 y)) Try_mixed (by kernel_rfl) (fun _ _ _ _ h => h) hww3 ⟨F7, F8⟩ ?_
        refine PL.y rfl rfl rfl (fun w' hS => yi_move rfl) ?_
        refine PL.y rfl rfl rfl (fun w' hS => yi_move rfl) ?_
        refine PL.y rfl rfl rfl (fun w' hS => yi_indexAddr Try.runUnderlying49 Try.sizeOf3 rfl rfl (by omega) (by omega)) ?_
        refine PL.as_ (t := 19) (v' := .pointer (some (ad.add i))) rfl (by rw [Int.toNat_natCast, Nat.mul_one]) ?_
        refine PL.y rfl rfl rfl (fun w' hS => yi_load1 Try.isAgg3 rfl hS.1) ?_
        refine PL.y rfl rfl rfl (fun w' hS => yi_move rfl) ?_
        refine PL.y rfl rfl rfl (fun w' hS => yi_move rfl) ?_
        refine PL.y rfl rfl rfl (fun w' hS => yi_indexAddr Try.runUnderlying49 Try.sizeOf3 rfl rfl (by omega) (by omega)) ?_
        refine PL.as_ (t := 23) (v' := .pointer (some (bd.add i))) rfl (by rw [Int.toNat_natCast, Nat.mul_one]) ?_
        refine PL.y rfl rfl rfl (fun w' hS => yi_load1 Try.isAgg3 rfl hS.2) ?_
        refine PL.y rfl rfl rfl (fun w' hS => yi_neq rfl rfl) ?_
        refine PL.done ?_
        refine NW.next ?_
        refine CW.cond rfl (fun q_LT => ?_) (fun q_LT => ?_)
        · try replace q_LT := of_decide_eq_true q_LT
          refine CW.seq ?_
          refine CW.region ?_
          refine WL.y rfl rfl (yi_assign rfl) ?_
          refine WL.done ?_
          refine NW.next ?_
          refine CW.ret ?_
          refine NW.blockRet ?_
          refine NW.thenRet ?_
          refine NW.thenRet ?_
          refine NW.blockRet ?_
          refine NW.thenRet ?_
          refine NW.ret1 rfl rfl ?_
          have hne : xs ≠ ys := fun e => by subst e; rw [he1] at he2; injection he2 with he2; exact q_LT he2
          exact ⟨_, rfl, by simp [hne], F4⟩
        · try replace q_LT := of_decide_eq_false q_LT
          refine CW.skip ?_
          refine NW.blockEnd ?_
          refine NW.next ?_
          refine CW.region ?_
          refine WL.y rfl rfl (yi_move rfl) ?_
          refine WL.y rfl rfl (yi_addI rfl rfl (by omega) (by omega)) ?_
          refine WL.as_ (t := 16) (v' := .int .i64 ((i + 1 : Nat) : Int)) rfl (congrArg (Value.int .i64) (by omega)) ?_
          refine WL.y rfl rfl (yi_assign rfl) ?_
          refine WL.done ?_
          refine NW.round (xs.length - (i + 1)) (by omega) ?_
          exact fun a ha => ⟨i + 1, rfl, by omega, F4, eq_step hall he1 he2 (Classical.not_not.1 q_LT), ha.sub ⟨rfl, rfl, rfl, trivial⟩⟩
      · try replace q_L := of_decide_eq_false q_L
        refine CW.exit ?_
        refine NW.thenExit ?_
        refine NW.thenExit ?_
        refine NW.blockHit ?_
        refine NW.next ?_
        refine CW.seq ?_
        refine CW.region ?_
        refine WL.y rfl rfl (yi_assign rfl) ?_
        refine WL.done ?_
        refine NW.next ?_
        refine CW.ret ?_
        refine NW.ret1 rfl rfl ?_
        have heq : xs = ys := List.ext_getElem? fun j => if h : j < i then hall j h else by rw [List.getElem?_eq_none (by omega), List.getElem?_eq_none (by omega)]
        exact ⟨_, rfl, by simp [heq], fr⟩

end Go.Proofs.YtgmjgdjobkmbgaaN
