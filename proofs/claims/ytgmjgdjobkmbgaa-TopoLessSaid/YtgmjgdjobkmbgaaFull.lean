/- append to a slice without room; rows of integers, literal. -/
import Derived.Test.YtgmjgdjobkmbgaaJump
set_option linter.unusedVariables false
set_option linter.unusedSimpArgs false
namespace Go.Proofs.YtgmjgdjobkmbgaaL
open Go.RowKit
section
variable {P : Program} {n : Nat} {ds : List Deferred} {l : List (Nat × Value)} {w : World} {dd : Option Tmp} {ty : TypeId} {p : String} {af : Array Edge} {gu : Option (Nat × Bool)}
theorem ef_appendFull {α : Type} (D : Dt α) {t tx e : TypeId} {m k c : Nat} {i : TypeInfo} {zv : Value} {x y : Operand} {xs ys : List α} {A0 A : Option Addr} {ok ok' : Nat → Prop} (ht : ∀ w, (underlying t).run P w = .ok (.slice e) w) (hx : ∀ w, ∃ dd, (underlying tx).run P w = .ok dd w ∧ ∀ k, dd ≠ .int k)
    (hi : ∀ w, (typeInfo e).run P w = .ok i w) (hz : ∀ w, (zeroValue e).run P w = .ok zv w) (hsz : ∀ w, (sizeOf e).run P w = .ok D.sz w) (hiz : i.size = D.sz) (hzz : zv.cells.size = D.sz)
    (hv : ev l x = some (.slice A0 m m)) (hy : ev l y = some (.slice A k c)) (R0 : Row D w ok A0 xs) (hm : xs.length = m) (hk : ys.length = k) (R : Row D w ok' A ys) (hs : 0 < D.sz)
    (h63 : m + k ≤ 9223372036854775807) (hfit : (m + k) * i.bytes ≤ 140737488355328) :
    Ef P n ds ⟨dd, .call { callee := .builtin .append, args := #[x, y], argTypes := #[t, tx] }, ty, p, af, gu⟩ l w (fun u w' => ∃ A' c', u = .slice A' (xs ++ ys).length c' ∧ (xs ++ ys).length ≤ c' ∧ c' ≤ 9223372036854775807 ∧ Row D w' (fun k => (ok k ∨ ok' k) ∨ w.heap.size ≤ k) A' (xs ++ ys) ∧ Same w w') := fun a ha K Q hh => by
  subst hm
  subst hk
  by_cases h0 : ys.length = 0
  · have hy0 : ys = [] := List.eq_nil_of_length_eq_zero h0
    subst hy0
    have hr := run_append_none (P := P) (w := w) (ty := ty) (z := D.sz) (A := A0) (A' := A) (c' := c) ht hx hsz (Nat.le_refl xs.length)
    have hr' : (execOp a.eval ⟨dd, .call { callee := .builtin .append, args := #[x, y], argTypes := #[t, tx] }, ty, p, af, gu⟩).run P w = .ok (.value (.slice A0 xs.length xs.length)) w := by
      simp only [execOp, resolve, invoke, builtin]
      simp only [List.length_nil] at hy
      simp [ha.eval hv, ha.eval hy, invoke, builtin, hr]
    simp only [Oper.wp, hr', Oper.upon]
    refine hh _ _ ⟨A0, xs.length, by rw [List.append_nil], by rw [List.append_nil]; exact Nat.le_refl _, by omega, ?_, Only.refl _ _⟩
    rw [List.append_nil]
    exact Row.mono (fun k hk => .inl (.inl hk)) R0
  · refine ef_appendFresh (P := P) (n := n) (ds := ds) (l := l) D ht hx hi hz hiz hzz hv hy R0 rfl rfl R hs (by omega) h63 hfit a ha K Q fun u w' hp => ?_
    obtain ⟨h2, h3, h4⟩ := hp
    obtain ⟨A', c', h5, h6, h7, h8, _⟩ := h2.row hs
    exact hh _ _ ⟨A', c', h5, h6, h7, Row.mono (fun k hk => hk.elim (fun h => .inl h) (fun h => .inr (by omega))) h8, h3⟩
end
theorem Row.ofCells {α : Type} {enc : α → Value} {h1 : ∀ x, (enc x).oneCell' = true} {w : World} {ok : Nat → Prop} {b t : Nat} {xs : List α} {cs : Array Value} (hB : Blk w b cs t) (hb : ok b) (hc : cs.toList = xs.map enc) : Row (dCell enc h1) w ok (some ⟨b, 0, none⟩) xs := by
  refine Row.ofSeg (cs := xs.map enc) (by show _ = _ * 1; simp) (Seg.ofBlk hB 0 _ (fun j u hu => by rw [Nat.zero_add, ← Array.getElem?_toList, hc]; exact hu)) (by show 0 < 1; decide) (fun ad h => by injection h with h; rw [← h]; exact hb) (fun j x hx => ?_)
  show ((xs.map enc).drop (j * 1)).take 1 = [_]
  have hj := (List.getElem?_eq_some_iff.1 hx).1
  have hx2 := (List.getElem?_eq_some_iff.1 hx).2
  rw [Nat.mul_one, List.drop_eq_getElem_cons (by simpa using hj)]
  simp [hx2]
theorem Row.ofInts {k : IntKind} {w : World} {ok : Nat → Prop} {b t : Nat} {zs : List Int} {cs : Array Value} (hB : Blk w b cs t) (hb : ok b) (hc : cs.toList = zs.map (Value.int k)) : Row (dInt k) w ok (some ⟨b, 0, none⟩) zs := Row.ofCells hB hb hc
theorem Row.ofBools {w : World} {ok : Nat → Prop} {b t : Nat} {zs : List Bool} {cs : Array Value} (hB : Blk w b cs t) (hb : ok b) (hc : cs.toList = zs.map Value.bool) : Row dBool w ok (some ⟨b, 0, none⟩) zs := Row.ofCells hB hb hc
theorem Row.ofBytes {w : World} {ok : Nat → Prop} {b t : Nat} {zs : List UInt8} {cs : Array Value} (hB : Blk w b cs t) (hb : ok b) (hc : cs.toList = u8s zs) : Row dU8 w ok (some ⟨b, 0, none⟩) zs := Row.ofCells hB hb hc
/-- A variable of several cells inside a block known whole. -/
theorem yi_loadS {P : Program} {n : Nat} {ds : List Deferred} {l : List (Nat × Value)} {w : World} {d : Option Tmp} {ty : TypeId} {p : String} {af : Array Edge} {g : Option (Nat × Bool)} {t t' : TypeId} {x : Operand} {b i k : Nat} {cs : Array Value} {us : List Value} (hA : ∀ w, (isAgg t).run P w = .ok true w) (hz : ∀ w, (sizeOf t).run P w = .ok k w) (hx : ev l x = some (.pointer (some ⟨b, i, none⟩)))
    (hB : Blk w b cs t') (hu : (cs.toList.drop i).take k = us) (hk : us.length = k) : Yi P n ds ⟨d, .load t x, ty, p, af, g⟩ l (.agg us.toArray) w :=
  yi_loadA hA hz hx hk (fun j u hj => by
    rw [addr_at]
    refine hB.cell ?_
    subst hu
    rw [List.getElem?_take] at hj
    split at hj
    · rw [List.getElem?_drop] at hj
      rw [← Array.getElem?_toList]
      exact hj
    · cases hj)
/-- Cells from place i on are written, in a list: it is reckoned in one go. -/
def lput : List Value → Nat → List Value → List Value
  | [], _, _ => []
  | c :: cs, 0, [] => c :: cs
  | _ :: cs, 0, v :: vs => v :: lput cs 0 vs
  | c :: cs, i + 1, vs => c :: lput cs i vs
theorem lput_nil : ∀ (cs : List Value) (i : Nat), lput cs i [] = cs
  | [], _ => rfl
  | _ :: _, 0 => rfl
  | c :: cs, i + 1 => by rw [lput, lput_nil cs i]
theorem lput_cons : ∀ (cs : List Value) (i : Nat) (v : Value) (vs : List Value), lput cs i (v :: vs) = lput (cs.set i v) (i + 1) vs
  | [], _, _, _ => rfl
  | c :: cs, 0, v, vs => rfl
  | c :: cs, i + 1, v, vs => by rw [lput, lput_cons cs i v vs, List.set_cons_succ, lput]
theorem putAll_eq : ∀ (vs : List Value) (cs : Array Value) (i : Nat), putAll cs i vs = (lput cs.toList i vs).toArray
  | [], cs, i => by rw [lput_nil]; rfl
  | v :: vs, cs, i => by rw [putAll, putAll_eq vs, lput_cons, Array.toList_setIfInBounds]
theorem Blk.lit {w : World} {b t : Nat} {cs cs' : Array Value} {i : Nat} {vs : List Value} (h : Blk w b (putAll cs i vs) t) (e : (lput cs.toList i vs).toArray = cs') : Blk w b cs' t := by
  rw [putAll_eq, e] at h
  exact h
end Go.Proofs.YtgmjgdjobkmbgaaL
