/- Data that are slices with rows of their own; a slice of such, an element of it written. -/
import Derived.Test.YtgmjgdjobkmbgaaPlg
set_option linter.unusedVariables false
set_option linter.unusedSimpArgs false
namespace Go.Proofs.YtgmjgdjobkmbgaaL
open Go.RowKit
theorem Own.moved {α : Type} {d : Dt α} {e : Nat} {w w1 : World} {ok : Nat → Prop} {v : Value} {xs : List α} (h : Own d e w ok v xs) (hm : ∀ k, ok k → w1.heap[k]? = w.heap[k]?) : Own d e w1 ok v xs := by
  obtain ⟨cs, ho, hb, h1, hK⟩ := h
  exact ⟨cs, ho.move (fun b hb' => hm b (hb b hb')), hb, h1, fun j x hx => d.move (fun k hk => hm k hk.1) (hK j x hx)⟩
theorem Own.oneCell {α : Type} {d : Dt α} {e : Nat} {w : World} {ok : Nat → Prop} {v : Value} {xs : List α} (h : Own d e w ok v xs) : v.oneCell' = true := by
  obtain ⟨cs, ho, _⟩ := h
  obtain ⟨A, c, rfl, _⟩ := ho.slice
  rfl
def dOwn {α : Type} (d : Dt α) (e : Nat) : Dt (List α) where
  sz := 1
  K := fun w ok xs cs => ∃ v, cs = [v] ∧ Own d e w ok v xs
  len := by
    rintro w ok x cs ⟨v, rfl, _⟩
    rfl
  one := by
    rintro w ok x cs ⟨v, rfl, h⟩ u hu
    rw [List.mem_singleton.1 hu]
    exact h.oneCell
  move := by
    rintro w w1 ok x cs hm ⟨v, rfl, h⟩
    exact ⟨v, rfl, h.moved hm⟩
  mono := by
    rintro w ok ok' x cs hm ⟨v, rfl, h⟩
    exact ⟨v, rfl, h.mono hm⟩
  bound := by
    rintro w ok x cs ⟨v, rfl, h⟩
    exact ⟨v, rfl, h.bound⟩
theorem dOwn_slice {α : Type} {d : Dt α} {e : Nat} (hz : 0 < d.sz) {w : World} {ok : Nat → Prop} {xs : List α} {cs : List Value} (h : (dOwn d e).K w ok xs cs) : (dSlice d hz).K w ok xs cs := by
  obtain ⟨v, rfl, h⟩ := h
  obtain ⟨A, c, rfl, h1, h2, h3, _⟩ := h.row hz
  exact ⟨A, c, rfl, h1, h2, h3⟩
theorem Own.map {α : Type} {d d' : Dt α} {e : Nat} {w : World} {ok : Nat → Prop} {v : Value} {xs : List α} (hs : d.sz = d'.sz) (hm : ∀ w ok x cs, d.K w ok x cs → d'.K w ok x cs) (h : Own d e w ok v xs) : Own d' e w ok v xs := by
  obtain ⟨cs, ho, hb, h1, hK⟩ := h
  exact ⟨cs, hs ▸ ho, hb, h1, fun j x hx => hs ▸ hm _ _ _ _ (hK j x hx)⟩
/-- A row of slices, known whole: P j: where what element j leads to may lie. -/
def Sls {α : Type} (w : World) (g cap : Nat) (t : TypeId) (D : Nat → Dt α) (okj : Nat → Nat → Prop) (xs : List α) : Prop :=
  ∃ (cs rest : List Value), cs.length = xs.length ∧ rest.length = cap - xs.length ∧ xs.length ≤ cap ∧ cap ≤ 9223372036854775807 ∧ Blk w g (cs ++ rest).toArray t ∧ ∀ j x, xs[j]? = some x → ∃ v, cs[j]? = some v ∧ (D j).K w (okj j) x [v] ∧ ¬ okj j g
namespace Sls
variable {α : Type} {w w1 : World} {g cap : Nat} {t : TypeId} {D : Nat → Dt α} {okj : Nat → Nat → Prop} {xs : List α} {L : Nat → Prop}
theorem only (h : Sls w g cap t D okj xs) (f : Only L w w1) (hg : ¬ L g) (hn : ∀ j k, k < w.heap.size → okj j k → ¬ L k) : Sls w1 g cap t D okj xs := by
  obtain ⟨cs, rest, h1, h2, h3, h4, hB, hK⟩ := h
  refine ⟨cs, rest, h1, h2, h3, h4, hB.only f hg, fun j x hx => ?_⟩
  obtain ⟨v, hv, hk, hnk⟩ := hK j x hx
  exact ⟨v, hv, Dt.only hk f (hn j), hnk⟩
theorem same (h : Sls w g cap t D okj xs) (f : Same w w1) : Sls w1 g cap t D okj xs := h.only f (fun hl => hl) fun _ _ _ _ hl => hl
theorem lt (h : Sls w g cap t D okj xs) : g < w.heap.size := by
  obtain ⟨cs, rest, _, _, _, _, hB, _⟩ := h
  exact hB.lt
theorem cell (h : Sls w g cap t D okj xs) {i : Nat} {x : α} (hx : xs[i]? = some x) : ∃ v, w.cell? ⟨g, i, none⟩ = some v ∧ (D i).K w (okj i) x [v] := by
  obtain ⟨cs, rest, h1, h2, h3, h4, hB, hK⟩ := h
  obtain ⟨v, hv, hk, _⟩ := hK i x hx
  refine ⟨v, hB.cell ?_, hk⟩
  have hi := (List.getElem?_eq_some_iff.1 hv).1
  rw [List.getElem?_toArray, List.getElem?_append_left hi]
  exact hv
theorem mono {D' : Nat → Dt α} {ok' : Nat → Nat → Prop} (h : Sls w g cap t D okj xs) (hm : ∀ j x v, xs[j]? = some x → (D j).K w (okj j) x [v] → (D' j).K w (ok' j) x [v]) (hg : ∀ j, ¬ ok' j g) : Sls w g cap t D' ok' xs := by
  obtain ⟨cs, rest, h1, h2, h3, h4, hB, hK⟩ := h
  refine ⟨cs, rest, h1, h2, h3, h4, hB, fun j x hx => ?_⟩
  obtain ⟨v, hv, hk, _⟩ := hK j x hx
  exact ⟨v, hv, hm j x v hx hk, hg j⟩
/-- Element i is written. -/
theorem put {D' : Nat → Dt α} {ok' : Nat → Nat → Prop} {i : Nat} {x' : α} {v' : Value} {cur : Array Value} (h : Sls w g cap t D okj xs) (hi : i < xs.length) (f : Only (fun k => k = g) w w1) {cs0 : Array Value} (hB0 : Blk w g cs0 t) (hB : Blk w1 g (putAll cs0 i [v']) t)
    (hx' : (D' i).K w1 (ok' i) x' [v']) (hg : ∀ j, ¬ ok' j g) (hm : ∀ j x v, j ≠ i → xs[j]? = some x → (D j).K w (okj j) x [v] → (D' j).K w (ok' j) x [v]) : Sls w1 g cap t D' ok' (xs.set i x') := by
  obtain ⟨cs, rest, h1, h2, h3, h4, hB1, hK⟩ := h
  have e : cs0 = (cs ++ rest).toArray := by
    have h5 := Option.some.inj ((show w.heap[g]? = _ from hB0).symm.trans hB1)
    injection h5
  subst e
  refine ⟨cs.set i v', rest, by simpa using h1, by simpa using h2, by simpa using h3, h4, ?_, fun j x hx => ?_⟩
  · have e2 : putAll (cs ++ rest).toArray i [v'] = (cs.set i v' ++ rest).toArray := by
      show ((cs ++ rest).toArray).setIfInBounds i v' = _
      rw [List.setIfInBounds_toArray, List.set_append_left _ _ (by omega)]
    rwa [e2] at hB
  · by_cases hj : j = i
    · subst hj
      rw [List.getElem?_set_self (by omega)] at hx
      injection hx with hx
      subst hx
      exact ⟨v', List.getElem?_set_self (by omega), hx', hg j⟩
    · rw [List.getElem?_set_ne (fun h => hj h.symm)] at hx
      obtain ⟨v, hv, hk, hnk⟩ := hK j x hx
      exact ⟨v, by rw [List.getElem?_set_ne (fun h => hj h.symm)]; exact hv, Dt.only (hm j x v hj hx hk) f (fun k _ hk hl => hg j (hl ▸ hk)), hg j⟩
theorem of {d : Dt α} {ok : Nat → Prop} (hz : d.sz = 1) (h : Own d t w ok (.slice (some ⟨g, 0, none⟩) xs.length cap) xs) : Sls w g cap t (fun _ => d) (fun _ k => ok k ∧ k ≠ g) xs := by
  obtain ⟨cs, ho, hb, h1, hK⟩ := h
  rw [hz] at ho
  obtain ⟨hl, ho⟩ := ho
  rcases ho with ⟨h2, _⟩ | ⟨g', cap', rest, h2, h3, h4, h5, hB⟩
  · cases h2
  · injection h2 with e1 e2 e3
    injection e1 with e1
    injection e1 with e1
    subst e1
    subst e3
    refine ⟨cs, rest, by omega, by omega, h3, h4, hB, fun j x hx => ?_⟩
    have hj := (List.getElem?_eq_some_iff.1 hx).1
    have h6 := hK j x hx
    rw [hz, Nat.mul_one, List.drop_eq_getElem_cons (by omega)] at h6
    simp only [List.take_succ_cons, List.take_zero] at h6
    exact ⟨_, List.getElem?_eq_getElem (by omega), d.mono (fun k hk => ⟨hk.1, fun e => hk.2 (by rw [e]; rfl)⟩) h6, fun hh => hh.2 rfl⟩
theorem own {d : Dt α} {ok : Nat → Prop} (hz : d.sz = 1) (h : Sls w g cap t (fun _ => d) (fun _ k => ok k ∧ k ≠ g) xs) (hg : ok g) : Own d t w ok (.slice (some ⟨g, 0, none⟩) xs.length cap) xs := by
  obtain ⟨cs, rest, h1, h2, h3, h4, hB, hK⟩ := h
  refine ⟨cs, ⟨by rw [hz]; omega, .inr ⟨g, cap, rest, rfl, h3, h4, by rw [hz]; omega, hB⟩⟩, fun k hk => ?_, fun u hu => ?_, fun j x hx => ?_⟩
  · have : g = k := by simpa [Value.ownBlock] using hk
    exact this ▸ hg
  · obtain ⟨j, hj, e⟩ := List.getElem_of_mem hu
    obtain ⟨v, hv, hk, _⟩ := hK j xs[j] (List.getElem?_eq_getElem (by omega))
    rw [List.getElem?_eq_getElem hj] at hv
    injection hv with hv
    rw [← e, hv]
    exact d.one hk v (by simp)
  · have hj := (List.getElem?_eq_some_iff.1 hx).1
    obtain ⟨v, hv, hk, _⟩ := hK j x hx
    rw [hz, Nat.mul_one, List.drop_eq_getElem_cons (by omega)]
    simp only [List.take_succ_cons, List.take_zero]
    rw [List.getElem?_eq_getElem (by omega)] at hv
    injection hv with hv
    rw [hv]
    exact d.mono (fun k hk => ⟨hk.1, fun e => hk.2 (by have : g = k := (by simpa [Value.ownBlock] using e); exact this.symm)⟩) hk
end Sls
theorem Own.some_of {α : Type} {d : Dt α} {e : Nat} {w : World} {ok : Nat → Prop} {v : Value} {xs : List α} (h : Own d e w ok v xs) (h0 : 0 < xs.length) : ∃ g cap, v = .slice (some ⟨g, 0, none⟩) xs.length cap ∧ ok g := by
  obtain ⟨cs, ⟨hl, ho⟩, hb, _⟩ := h
  rcases ho with ⟨h2, h3⟩ | ⟨g, cap, rest, h2, _⟩
  · omega
  · exact ⟨g, cap, h2, hb g (by rw [h2]; rfl)⟩
theorem Own.emptyD {α : Type} {d : Dt α} {e : Nat} {w : World} {ok : Nat → Prop} {b : Nat} (hB : Blk w b #[] e) (hb : ok b) : Own d e w ok (.slice (some ⟨b, 0, none⟩) 0 0) [] :=
  ⟨[], ⟨by simp, .inr ⟨b, 0, [], rfl, Nat.le_refl _, by omega, by simp, hB⟩⟩, fun k hk => (show b = k by simpa [Value.ownBlock] using hk) ▸ hb, by simp, by simp⟩
end Go.Proofs.YtgmjgdjobkmbgaaL
