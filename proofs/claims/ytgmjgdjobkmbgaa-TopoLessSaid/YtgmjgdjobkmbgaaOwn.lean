/- append of data to a slice that owns its row; single elements. -/
import Derived.Test.YtgmjgdjobkmbgaaRes
set_option linter.unusedVariables false
set_option linter.unusedSimpArgs false
namespace Go.Proofs.YtgmjgdjobkmbgaaL
open Go.RowKit
theorem Own.lt {α : Type} {d : Dt α} {e : Nat} {w : World} {ok : Nat → Prop} {v : Value} {xs : List α} (h : Own d e w ok v xs) : ∀ k, v.ownBlock = some k → k < w.heap.size := by
  obtain ⟨cs, ho, _⟩ := h
  exact fun k hk => ho.lt hk
theorem Own.ok {α : Type} {d : Dt α} {e : Nat} {w : World} {ok : Nat → Prop} {v : Value} {xs : List α} (h : Own d e w ok v xs) : ∀ k, v.ownBlock = some k → ok k := by
  obtain ⟨cs, ho, hb, _⟩ := h
  exact hb
theorem Row.one {α : Type} {d : Dt α} {w : World} {ok : Nat → Prop} {b : Nat} {t : TypeId} {x : α} {cs : Array Value} (hB : Blk w b cs t) (hb : ok b) (hK : d.K w ok x cs.toList) : Row d w ok (some ⟨b, 0, none⟩) [x] := by
  refine .inr ⟨_, rfl, hb, fun j y hy => ?_⟩
  cases j with
  | zero =>
    have e : x = y := by simpa using hy
    subst e
    refine ⟨cs.toList, hK, fun i u hu => ?_⟩
    have e2 : (⟨b, 0, none⟩ : Addr).add (0 * d.sz + i) = ⟨b, i, none⟩ := by
      unfold Addr.add; split <;> simp_all
    rw [e2]
    exact hB.cell (by simpa using hu)
  | succ j => simp at hy
/-- What an append of data leaves. -/
def IsOwn {α : Type} (d : Dt α) (e : Nat) (w : World) (ok : Nat → Prop) (v : Value) (xs : List α) (u : Value) (w' : World) : Prop :=
  Own d e w' (fun k => ok k ∨ k = w.heap.size) u xs ∧ Only (fun b => v.ownBlock = some b) w w' ∧ (u.ownBlock = v.ownBlock ∨ u.ownBlock = some w.heap.size)
section
variable {P : Program} {n : Nat} {ds : List Deferred} {l : List (Nat × Value)} {w : World} {d : Option Tmp} {ty : TypeId} {p : String} {af : Array Edge} {g : Option (Nat × Bool)}
theorem ef_appendOwn {α : Type} (D : Dt α) {t tx e : TypeId} {k c : Nat} {i : TypeInfo} {zv : Value} {x y : Operand} {v : Value} {xs ys : List α} {A : Option Addr} {ok ok' : Nat → Prop} (ht : ∀ w, (underlying t).run P w = .ok (.slice e) w) (hx : ∀ w, ∃ dd, (underlying tx).run P w = .ok dd w ∧ ∀ k, dd ≠ .int k)
    (hi : ∀ w, (typeInfo e).run P w = .ok i w) (hz : ∀ w, (zeroValue e).run P w = .ok zv w) (hiz : i.size = D.sz) (hzz : zv.cells.size = D.sz)
    (hv : ev l x = some v) (hy : ev l y = some (.slice A k c)) (h : Own D e w ok v xs) (hk : ys.length = k) (R : Row D w ok' A ys) (hd : ∀ k, k < w.heap.size → ok' k → v.ownBlock ≠ some k) (hs : 0 < D.sz)
    (h63 : xs.length + k ≤ 9223372036854775807) (hfit : (xs.length + k) * i.bytes ≤ 140737488355328) :
    Ef P n ds ⟨d, .call { callee := .builtin .append, args := #[x, y], argTypes := #[t, tx] }, ty, p, af, g⟩ l w (IsOwn D e w (fun k => ok k ∨ ok' k) v (xs ++ ys)) := fun a ha K Q hh => by
  subst hk
  have hlt := h.lt
  obtain ⟨news, hnl, hseg, hn1, hnK⟩ := (Row.bound hs R).seg
  obtain ⟨cs, ho, hb, h1, hK⟩ := h
  refine ef_append (P := P) (n := n) (ds := ds) (l := l) (z := D.sz) (xs := cs) (news := news) ht hx hi hz hiz hzz hv hy ho hnl hseg hn1 h63 hfit a ha K Q fun u w' hp => ?_
  obtain ⟨hown, hf, hu⟩ := hp
  refine hh u w' ⟨?_, hf, hu⟩
  have hO : Own D e w (fun k => ok k ∨ ok' k) v xs := ⟨cs, ho, fun k hk => .inl (hb k hk), h1, fun j x hx => D.mono (fun k hk => ⟨.inl hk.1, hk.2⟩) (hK j x hx)⟩
  obtain ⟨cs', ho', hb', h1', hK'⟩ := hO
  have hkeep : ∀ {y : α} {c : List Value}, D.K w (fun k => (ok k ∨ ok' k) ∧ v.ownBlock ≠ some k) y c → D.K w' (fun k => ((ok k ∨ ok' k) ∨ k = w.heap.size) ∧ u.ownBlock ≠ some k) y c := fun hy => by
    refine D.mono (fun k hk => ?_) (D.move (fun k hk => hf.block k hk.2 hk.1.2) (D.bound hy))
    refine ⟨.inl hk.1.1, fun e => ?_⟩
    rcases hu with hu | hu
    · exact hk.1.2 (hu ▸ e)
    · rw [hu] at e
      injection e with e
      have := hk.2
      omega
  refine ⟨cs ++ news, by rw [List.length_append]; exact hown, fun k hk => ?_, fun x hx => ?_, fun j x hx => ?_⟩
  · rcases hu with hu | hu
    · exact .inl (.inl (hb k (hu ▸ hk)))
    · rw [hu] at hk
      injection hk with hk
      exact .inr hk.symm
  · rcases List.mem_append.1 hx with hx | hx
    · exact h1 x hx
    · exact hn1 x hx
  · by_cases hj : j < xs.length
    · rw [List.getElem?_append_left hj] at hx
      have hle : j * D.sz + D.sz ≤ cs.length := by rw [ho.1, ← Nat.succ_mul]; exact Nat.mul_le_mul_right _ hj
      rw [List.drop_append_of_le_length (by omega), List.take_append_of_le_length (by rw [List.length_drop]; omega)]
      exact hkeep (D.mono (fun k hk => ⟨.inl hk.1, hk.2⟩) (hK j x hx))
    · rw [List.getElem?_append_right (by omega)] at hx
      have e : (cs ++ news).drop (j * D.sz) = news.drop ((j - xs.length) * D.sz) := by
        rw [List.drop_append, List.drop_eq_nil_of_le (by rw [ho.1]; exact Nat.mul_le_mul_right _ (by omega)), List.nil_append, ho.1, Nat.mul_sub_right_distrib]
      rw [e]
      exact hkeep (D.mono (fun k hk => ⟨.inr hk.1, hd k hk.2 hk.1⟩) (hnK _ x hx))
/-- An append that can't stay: whatever the slice appended to is. -/
theorem ef_appendFresh {α : Type} (D : Dt α) {t tx e : TypeId} {m c0 k c : Nat} {i : TypeInfo} {zv : Value} {x y : Operand} {xs ys : List α} {A0 A : Option Addr} {ok ok' : Nat → Prop} (ht : ∀ w, (underlying t).run P w = .ok (.slice e) w) (hx : ∀ w, ∃ dd, (underlying tx).run P w = .ok dd w ∧ ∀ k, dd ≠ .int k)
    (hi : ∀ w, (typeInfo e).run P w = .ok i w) (hz : ∀ w, (zeroValue e).run P w = .ok zv w) (hiz : i.size = D.sz) (hzz : zv.cells.size = D.sz)
    (hv : ev l x = some (.slice A0 m c0)) (hy : ev l y = some (.slice A k c)) (R0 : Row D w ok A0 xs) (hm : xs.length = m) (hk : ys.length = k) (R : Row D w ok' A ys) (hs : 0 < D.sz)
    (hg : c0 < m + k) (h63 : m + k ≤ 9223372036854775807) (hfit : (m + k) * i.bytes ≤ 140737488355328) :
    Ef P n ds ⟨d, .call { callee := .builtin .append, args := #[x, y], argTypes := #[t, tx] }, ty, p, af, g⟩ l w (fun u w' => Own D e w' (fun k => (ok k ∨ ok' k) ∨ k = w.heap.size) u (xs ++ ys) ∧ Same w w' ∧ u.ownBlock = some w.heap.size) := fun a ha K Q hh => by
  subst hm
  subst hk
  obtain ⟨olds, hol, hseg0, ho1, hoK⟩ := (Row.bound hs R0).seg
  obtain ⟨news, hnl, hseg, hn1, hnK⟩ := (Row.bound hs R).seg
  refine ef_appendNew (P := P) (n := n) (ds := ds) (l := l) (z := D.sz) (xs := olds) (news := news) ht hx hi hz hiz hzz hv hy hol hseg0 hnl hseg hg h63 hfit a ha K Q fun u w' hp => ?_
  obtain ⟨hf, hown, hu⟩ := hp
  have hkeep : ∀ {y : α} {c : List Value} {ok0 : Nat → Prop}, (∀ k, ok0 k → ok k ∨ ok' k) → D.K w (fun k => ok0 k ∧ k < w.heap.size) y c → D.K w' (fun k => ((ok k ∨ ok' k) ∨ k = w.heap.size) ∧ u.ownBlock ≠ some k) y c := fun h0 hy => by
    refine D.mono (fun k hk => ?_) (D.move (fun k hk => hf.block k hk.2 (fun hl => hl)) hy)
    refine ⟨.inl (h0 k hk.1), fun e => ?_⟩
    rw [hu] at e
    injection e with e
    have := hk.2
    omega
  refine hh u w' ⟨⟨olds ++ news, by rw [List.length_append]; exact hown, fun k hk => ?_, fun x hx => ?_, fun j x hx => ?_⟩, hf, hu⟩
  · rw [hu] at hk
    injection hk with hk
    exact .inr hk.symm
  · rcases List.mem_append.1 hx with hx | hx
    · exact ho1 x hx
    · exact hn1 x hx
  · by_cases hj : j < xs.length
    · rw [List.getElem?_append_left hj] at hx
      have hle : j * D.sz + D.sz ≤ olds.length := by rw [hol, ← Nat.succ_mul]; exact Nat.mul_le_mul_right _ hj
      rw [List.drop_append_of_le_length (by omega), List.take_append_of_le_length (by rw [List.length_drop]; omega)]
      exact hkeep (fun k hk => .inl hk) (hoK j x hx)
    · rw [List.getElem?_append_right (by omega)] at hx
      have e : (olds ++ news).drop (j * D.sz) = news.drop ((j - xs.length) * D.sz) := by
        rw [List.drop_append, List.drop_eq_nil_of_le (by rw [hol]; exact Nat.mul_le_mul_right _ (by omega)), List.nil_append, hol, Nat.mul_sub_right_distrib]
      rw [e]
      exact hkeep (fun k hk => .inr hk) (hnK _ x hx)
end
end Go.Proofs.YtgmjgdjobkmbgaaL
