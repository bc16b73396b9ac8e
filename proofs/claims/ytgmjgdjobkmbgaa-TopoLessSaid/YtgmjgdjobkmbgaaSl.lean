/- A slice that owns its row or is full; append to it; an element taken out by append. Bytes as a string. -/
import Derived.Test.YtgmjgdjobkmbgaaArg
set_option linter.unusedVariables false
set_option linter.unusedSimpArgs false
namespace Go.Proofs.YtgmjgdjobkmbgaaL
open Go.RowKit
def Sl {α : Type} (d : Dt α) (e : Nat) (w : World) (W0 : Nat) (ok : Nat → Prop) (v : Value) (xs : List α) : Prop :=
  (Own d e w ok v xs ∧ ∀ k, v.ownBlock = some k → W0 ≤ k) ∨ ∃ A, v = .slice A xs.length xs.length ∧ xs.length ≤ 9223372036854775807 ∧ Row d w ok A xs
namespace Sl
variable {α : Type} {d : Dt α} {e W0 : Nat} {w w1 : World} {ok ok' : Nat → Prop} {v : Value} {xs : List α} {L : Nat → Prop}
theorem row (hz : 0 < d.sz) (h : Sl d e w W0 ok v xs) : ∃ A c, v = .slice A xs.length c ∧ xs.length ≤ c ∧ c ≤ 9223372036854775807 ∧ Row d w ok A xs := by
  rcases h with ⟨h, _⟩ | ⟨A, hv, h1, h2⟩
  · obtain ⟨A, c, h1, h2, h3, h4, _⟩ := h.row hz
    exact ⟨A, c, h1, h2, h3, h4⟩
  · exact ⟨A, _, hv, Nat.le_refl _, h1, h2⟩
theorem only (hz : 0 < d.sz) (h : Sl d e w W0 ok v xs) (f : Only L w w1) (hn : ∀ k, k < w.heap.size → ok k → ¬ L k) : Sl d e w1 W0 ok v xs := by
  rcases h with ⟨h, h0⟩ | ⟨A, hv, h1, h2⟩
  · exact .inl ⟨h.only f hn, h0⟩
  · exact .inr ⟨A, hv, h1, Row.only hz h2 f hn⟩
theorem same (hz : 0 < d.sz) (h : Sl d e w W0 ok v xs) (f : Same w w1) : Sl d e w1 W0 ok v xs := h.only hz f fun _ _ _ hl => hl
theorem mono (h : Sl d e w W0 ok v xs) (hm : ∀ k, ok k → ok' k) : Sl d e w W0 ok' v xs := by
  rcases h with ⟨h, h0⟩ | ⟨A, hv, h1, h2⟩
  · exact .inl ⟨h.mono hm, h0⟩
  · exact .inr ⟨A, hv, h1, Row.mono hm h2⟩
theorem bound (hz : 0 < d.sz) (h : Sl d e w W0 ok v xs) : Sl d e w W0 (fun k => ok k ∧ k < w.heap.size) v xs := by
  rcases h with ⟨h, h0⟩ | ⟨A, hv, h1, h2⟩
  · exact .inl ⟨h.bound, h0⟩
  · exact .inr ⟨A, hv, h1, Row.bound hz h2⟩
end Sl
/-- bytes as a string -/
def strOf (bs : List UInt8) : ByteArray := ⟨bs.toArray⟩
theorem strOf_push (s : ByteArray) : ∀ (bs : List UInt8), (bs.foldl ByteArray.push s) = ⟨s.data ++ bs.toArray⟩
  | [] => by simp
  | b :: r => by
    rw [List.foldl_cons, strOf_push (s.push b) r]
    simp [ByteArray.push]
theorem run_push {P : Program} {w : World} {f : Value → ByteArray → Sem (ForInStep ByteArray)} (hf : ∀ (b : UInt8) s, f (.int .u8 (b.toNat : Int)) s = pure (.yield (s.push b))) : ∀ (bs : List UInt8) (s : ByteArray), (forIn (u8s bs) s f : Sem ByteArray).run P w = .ok (bs.foldl ByteArray.push s) w
  | [], s => by simp [u8s]
  | b :: r, s => by
    have h := run_push (P := P) (w := w) hf r (s.push b)
    simp only [u8s, List.map_cons, List.forIn_cons, List.foldl_cons] at h ⊢
    simp [hf, h]
theorem run_bytesToString {P : Program} {w : World} {ok : Nat → Prop} {A : Option Addr} {bs : List UInt8} {c : Nat} (R : Row dU8 w ok A bs) (hA : A.isNone = true → bs = []) : (Conv.bytesToString (.slice A bs.length c)).run P w = .ok (.string (strOf bs)) w := by
  cases A with
  | none =>
    obtain rfl := hA rfl
    simp [Conv.bytesToString, strOf]
    rfl
  | some a =>
    have h1 := run_loadCells_list (P := P) w a (u8s bs) (fun j u hu => Seg.get (Row.u8 R) j u hu)
    have hl : (u8s bs).length = bs.length := by simp [u8s]
    rw [hl] at h1
    simp only [Conv.bytesToString]
    simp [h1]
    rw [run_push (fun b s => by simp)]
    rw [strOf_push]
    simp [strOf]
section
variable {P : Program} {n : Nat} {ds : List Deferred} {l : List (Nat × Value)} {w : World} {dd : Option Tmp} {ty : TypeId} {p : String} {af : Array Edge} {gu : Option (Nat × Bool)}
theorem yi_convStr {s t e : TypeId} {x : Operand} {ok : Nat → Prop} {A : Option Addr} {bs : List UInt8} {c : Nat} (hs : ∀ w, (underlying s).run P w = .ok (.slice e) w) (ht : ∀ w, (underlying t).run P w = .ok .string w) (he : ∀ w, (underlying e).run P w = .ok (.int .u8) w)
    (hx : ev l x = some (.slice A bs.length c)) (R : Row dU8 w ok A bs) : Yi P n ds ⟨dd, .convert s t x, ty, p, af, gu⟩ l (.string (strOf bs)) w := fun a ha => by
  have h1 := run_bytesToString (P := P) (c := c) R (fun h0 => by
    rcases R with h | ⟨ad, rfl, _⟩
    · exact h
    · simp at h0)
  simp only [execOp, ha.eval hx, convert]
  simp [hs, ht, he, h1]
theorem ef_appendSl {α : Type} (D : Dt α) {t tx e : TypeId} {k c W0 : Nat} {i : TypeInfo} {zv : Value} {x y : Operand} {v : Value} {xs ys : List α} {A : Option Addr} {ok ok' : Nat → Prop} (ht : ∀ w, (underlying t).run P w = .ok (.slice e) w) (hx : ∀ w, ∃ dd, (underlying tx).run P w = .ok dd w ∧ ∀ k, dd ≠ .int k)
    (hi : ∀ w, (typeInfo e).run P w = .ok i w) (hz : ∀ w, (zeroValue e).run P w = .ok zv w) (hiz : i.size = D.sz) (hzz : zv.cells.size = D.sz)
    (hv : ev l x = some v) (hy : ev l y = some (.slice A k c)) (h : Sl D e w W0 ok v xs) (hk : ys.length = k) (h1 : 0 < k) (R : Row D w ok' A ys) (hW : W0 ≤ w.heap.size) (hd : ∀ k, k < w.heap.size → ok' k → W0 ≤ k → ¬ ok k) (hs : 0 < D.sz)
    (h63 : xs.length + k ≤ 9223372036854775807) (hfit : (xs.length + k) * i.bytes ≤ 140737488355328) :
    Ef P n ds ⟨dd, .call { callee := .builtin .append, args := #[x, y], argTypes := #[t, tx] }, ty, p, af, gu⟩ l w (fun u w' => Own D e w' (fun k => (ok k ∨ ok' k) ∨ k = w.heap.size) u (xs ++ ys) ∧ (∀ k, u.ownBlock = some k → W0 ≤ k) ∧ Only (fun k => W0 ≤ k ∧ ok k) w w') := fun a ha K Q hh => by
  rcases h with ⟨h, h0⟩ | ⟨A0, hv0, hc0, R0⟩
  · have hok := h.ok
    refine ef_appendOwn (P := P) (n := n) (ds := ds) (l := l) D ht hx hi hz hiz hzz hv hy h hk R (fun k hk h2 h3 => hd k hk h2 (h0 k h3) (hok k h3)) hs h63 hfit a ha K Q fun u w' hp => ?_
    obtain ⟨h2, h3, h4⟩ := hp
    refine hh u w' ⟨h2, fun k hk => ?_, h3.mono fun k _ hk => ⟨h0 k hk, hok k hk⟩⟩
    rcases h4 with h4 | h4
    · exact h0 k (h4 ▸ hk)
    · rw [h4] at hk; injection hk with hk; omega
  · subst hv0
    refine ef_appendFresh (P := P) (n := n) (ds := ds) (l := l) D ht hx hi hz hiz hzz hv hy R0 rfl hk R hs (by omega) h63 hfit a ha K Q fun u w' hp => ?_
    obtain ⟨h2, h3, h4⟩ := hp
    refine hh u w' ⟨h2, fun k hk => ?_, h3.mono fun k _ hk => hk.elim⟩
    rw [h4] at hk; injection hk with hk; omega
/-- append(xs[:i:i], xs[i+1:]...) -/
theorem ef_appendOut {α : Type} (D : Dt α) {t tx e : TypeId} {m c c' W0 : Nat} {i : TypeInfo} {zv : Value} {x y : Operand} {xs : List α} {A : Option Addr} {ok : Nat → Prop} (ht : ∀ w, (underlying t).run P w = .ok (.slice e) w) (hx : ∀ w, ∃ dd, (underlying tx).run P w = .ok dd w ∧ ∀ k, dd ≠ .int k)
    (hi : ∀ w, (typeInfo e).run P w = .ok i w) (hz : ∀ w, (zeroValue e).run P w = .ok zv w) (hsz : ∀ w, (sizeOf e).run P w = .ok D.sz w) (hiz : i.size = D.sz) (hzz : zv.cells.size = D.sz)
    (hv : ev l x = some (.slice A m m)) (hy : ev l y = some (.slice (cutA A (m + 1) c D.sz) (xs.length - (m + 1)) c')) (R : Row D w ok A xs) (hm : m < xs.length) (hc : xs.length ≤ c) (hW : W0 ≤ w.heap.size) (hs : 0 < D.sz)
    (h63 : xs.length ≤ 9223372036854775807) (hfit : xs.length * i.bytes ≤ 140737488355328) :
    Ef P n ds ⟨dd, .call { callee := .builtin .append, args := #[x, y], argTypes := #[t, tx] }, ty, p, af, gu⟩ l w (fun u w' => Sl D e w' W0 (fun k => ok k ∨ k = w.heap.size) u (xs.eraseIdx m) ∧ Same w w') := fun a ha K Q hh => by
  have he : xs.eraseIdx m = xs.take m ++ xs.drop (m + 1) := by rw [List.eraseIdx_eq_take_drop_succ]
  by_cases h0 : xs.length - (m + 1) = 0
  · have hr := run_append_none (P := P) (w := w) (ty := ty) (z := D.sz) (A := A) (A' := cutA A (m + 1) c D.sz) (c' := c') ht hx hsz (Nat.le_refl m)
    rw [h0] at hy
    have hr' : (execOp a.eval ⟨dd, .call { callee := .builtin .append, args := #[x, y], argTypes := #[t, tx] }, ty, p, af, gu⟩).run P w = .ok (.value (.slice A m m)) w := by
      simp only [execOp, resolve, invoke, builtin]
      simp [ha.eval hv, ha.eval hy, invoke, builtin, hr]
    simp only [Oper.wp, hr', Oper.upon]
    refine hh _ _ ⟨.inr ⟨A, ?_, ?_, ?_⟩, Only.refl _ _⟩
    · have : (xs.eraseIdx m).length = m := by rw [List.length_eraseIdx, if_pos hm]; omega
      rw [this]
    · rw [List.length_eraseIdx, if_pos hm]; omega
    · rw [he, List.drop_eq_nil_of_le (by omega), List.append_nil]
      exact Row.mono (fun k hk => .inl hk) (Row.take R m)
  · refine ef_appendFresh (P := P) (n := n) (ds := ds) (l := l) D (xs := xs.take m) (ys := xs.drop (m + 1)) ht hx hi hz hiz hzz hv hy (Row.take R m) (by rw [List.length_take]; omega) (by rw [List.length_drop]) (Row.drop R (m + 1) c hc) hs (by omega) (by omega) (Nat.le_trans (Nat.mul_le_mul_right _ (by omega)) hfit) a ha K Q fun u w' hp => ?_
    obtain ⟨h2, h3, h4⟩ := hp
    refine hh u w' ⟨.inl ⟨?_, fun k hk => ?_⟩, h3⟩
    · rw [he]
      exact h2.mono (fun k hk => hk.elim (fun h => .inl (h.elim id id)) .inr)
    · rw [h4] at hk; injection hk with hk; omega
end
theorem freeze_only {w : World} {b n k : Nat} : Only (fun k => k = b) w (w.freeze ⟨b, n, none⟩ k) := by
  unfold World.freeze
  split
  · exact Only.refl _ _
  · exact ⟨rfl, rfl, rfl, by simp, fun i hi hn => by
      simp only [Array.getElem?_modify]
      rw [if_neg (fun e => hn e.symm)]⟩
theorem freeze_cell {w : World} {b n k : Nat} (p : Addr) : (w.freeze ⟨b, n, none⟩ k).cell? p = w.cell? p := by
  unfold World.freeze
  split
  · rfl
  · simp only [World.cell?, Array.getElem?_modify]
    by_cases hb : b = p.block
    · rw [if_pos hb]
      cases hw : w.heap[p.block]? with
      | none => rfl
      | some o => cases o <;> rfl
    · rw [if_neg hb]
/-- []byte(x), x bytes already: no more may be written behind them. -/
theorem ef_convBytes {P : Program} {n : Nat} {ds : List Deferred} {l : List (Nat × Value)} {w : World} {dd : Option Tmp} {ty : TypeId} {p : String} {af : Array Edge} {gu : Option (Nat × Bool)} {s e t : TypeId} {x : Operand} {b m c : Nat} {bs : List UInt8} {cs : Array Value} (hs : ∀ w, (underlying s).run P w = .ok (.slice e) w) (he : ∀ w, (underlying e).run P w = .ok (.int .u8) w)
    (hx : ev l x = some (.slice (some ⟨b, 0, none⟩) m c)) (hB : Blk w b cs t) (hc : cs = (u8s bs).toArray) : Ef P n ds ⟨dd, .convert s s x, ty, p, af, gu⟩ l w (fun u w' => u = .slice (some ⟨b, 0, none⟩) m c ∧ Only (fun k => k = b) w w' ∧ Row dU8 w' (fun k => k = b) (some ⟨b, 0, none⟩) bs) := fun a ha K Q h => by
  subst hc
  have hB' : w.heap[b]? = some (.cells (u8s bs).toArray t (0, 0)) := hB
  have hr : (execOp a.eval ⟨dd, .convert s s x, ty, p, af, gu⟩).run P w = .ok (.value (.slice (some ⟨b, 0, none⟩) m c)) (w.freeze ⟨b, (u8s bs).toArray.size, none⟩ 1) := by
    simp only [execOp, ha.eval hx, convert]
    simp [hs, he, markStringish, World.shape?, hB']
  simp only [Oper.wp, hr, Oper.upon]
  refine h _ _ ⟨rfl, freeze_only, Row.ofU8 (.inr ⟨_, rfl, fun j u hu => ?_⟩) (fun ad h => by injection h with h; rw [← h])⟩
  rw [freeze_cell, addr_at]
  exact hB.cell (by simpa using hu)
end Go.Proofs.YtgmjgdjobkmbgaaL
