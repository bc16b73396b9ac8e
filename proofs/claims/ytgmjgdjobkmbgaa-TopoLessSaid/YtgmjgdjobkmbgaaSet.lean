/- An owned row opened; an element of it turned in place. -/
import Derived.Test.YtgmjgdjobkmbgaaDel
set_option linter.unusedVariables false
set_option linter.unusedSimpArgs false
namespace Go.Proofs.YtgmjgdjobkmbgaaL
open Go.RowKit
structure Opened {α : Type} (d : Dt α) (e : Nat) (w : World) (ok : Nat → Prop) (g cap : Nat) (xs : List α) (cs rest : List Value) : Prop where
  hlen : cs.length = xs.length * d.sz
  hcap : xs.length ≤ cap
  h63 : cap ≤ 9223372036854775807
  hrest : rest.length = (cap - xs.length) * d.sz
  hblk : Blk w g (cs ++ rest).toArray e
  hok : ok g
  hone : ∀ u ∈ cs, u.oneCell' = true
  hK : ∀ j x, xs[j]? = some x → d.K w (fun k => ok k ∧ k ≠ g) x ((cs.drop (j * d.sz)).take d.sz)
section
variable {α : Type} {d : Dt α} {e : Nat} {w w1 : World} {ok : Nat → Prop} {g cap : Nat} {v : Value} {xs : List α} {cs rest : List Value}
theorem Own.opened (h : Own d e w ok v xs) (hx : 0 < xs.length) : ∃ g cap cs rest, v = .slice (some ⟨g, 0, none⟩) xs.length cap ∧ Opened d e w ok g cap xs cs rest := by
  obtain ⟨cs, ho, hb, h1, hK⟩ := h
  obtain ⟨hl, ho⟩ := ho
  rcases ho with ⟨_, h0⟩ | ⟨b, cap, rest, hv, h3, h4, h5, hB⟩
  · omega
  · subst hv
    refine ⟨b, cap, cs, rest, rfl, hl, h3, h4, h5, hB, hb b rfl, h1, fun j x hx => d.mono (fun k hk => ⟨hk.1, fun e => hk.2 ?_⟩) (hK j x hx)⟩
    rw [e]; rfl
theorem Opened.own (O : Opened d e w ok g cap xs cs rest) : Own d e w ok (.slice (some ⟨g, 0, none⟩) xs.length cap) xs :=
  ⟨cs, ⟨O.hlen, .inr ⟨g, cap, rest, rfl, O.hcap, O.h63, O.hrest, O.hblk⟩⟩, fun k hk => by
    have : g = k := by simpa [Value.ownBlock] using hk
    exact this ▸ O.hok, O.hone, fun j x hx => d.mono (fun k hk => ⟨hk.1, fun e => hk.2 (by
    have : g = k := by simpa [Value.ownBlock] using e
    exact this.symm)⟩) (O.hK j x hx)⟩
theorem Opened.cell (O : Opened d e w ok g cap xs cs rest) {i : Nat} {x : α} (hx : xs[i]? = some x) :
    ∃ c, d.K w (fun k => ok k ∧ k ≠ g) x c ∧ c.length = d.sz ∧ ∀ j u, c[j]? = some u → (cs ++ rest).toArray[i * d.sz + j]? = some u := by
  refine ⟨_, O.hK i x hx, d.len (O.hK i x hx), fun j u hu => ?_⟩
  have hj := (List.getElem?_eq_some_iff.1 hu).1
  rw [d.len (O.hK i x hx)] at hj
  rw [List.getElem?_take_of_lt hj, List.getElem?_drop] at hu
  have hlt := (List.getElem?_eq_some_iff.1 hu).1
  simp only [List.getElem?_toArray]
  rw [List.getElem?_append_left hlt]
  exact hu
theorem Opened.put (O : Opened d e w ok g cap xs cs rest) {i : Nat} (hi : i < xs.length) {cur : Array Value} {x' : α} {news : List Value} (hK' : d.K w1 (fun k => ok k ∧ k ≠ g) x' news) (f : Only (fun k => k = g) w w1) (hB : Blk w1 g cur e)
    (hsz : cur.size = (cs ++ rest).length) (hin : ∀ j u, news[j]? = some u → cur[i * d.sz + j]? = some u) (hout : ∀ k, k < i * d.sz ∨ i * d.sz + d.sz ≤ k → cur[k]? = (cs ++ rest).toArray[k]?) :
    Opened d e w1 ok g cap (xs.set i x') (cur.toList.take (xs.length * d.sz)) (cur.toList.drop (xs.length * d.sz)) := by
  have hn := d.len hK'
  have hsz' : cur.toList.length = cs.length + rest.length := by simpa using hsz
  have hiz : i * d.sz + d.sz ≤ xs.length * d.sz := by rw [← Nat.succ_mul]; exact Nat.mul_le_mul_right _ hi
  have hcl := O.hlen
  refine ⟨?_, by rw [List.length_set]; exact O.hcap, O.h63, ?_, ?_, O.hok, ?_, ?_⟩
  · rw [List.length_take, List.length_set]; omega
  · rw [List.length_drop, List.length_set, hsz', O.hrest]; omega
  · rw [List.take_append_drop]; exact hB
  · intro u hu
    obtain ⟨k, hk, e1⟩ := List.getElem_of_mem hu
    rw [List.length_take] at hk
    have hk1 : cur[k]? = some u := by
      rw [← e1, List.getElem_take]
      simp
    by_cases hc : k < i * d.sz ∨ i * d.sz + d.sz ≤ k
    · rw [hout k hc, List.getElem?_toArray, List.getElem?_append_left (by omega)] at hk1
      exact O.hone u (List.mem_of_getElem? hk1)
    · have hlt : k - i * d.sz < news.length := by omega
      have h3 := hin (k - i * d.sz) news[k - i * d.sz] (by rw [List.getElem?_eq_getElem hlt])
      rw [show i * d.sz + (k - i * d.sz) = k by omega, hk1] at h3
      injection h3 with h3
      rw [h3]
      exact d.one hK' _ (List.getElem_mem _)
  · intro j x hx
    have hj : j < xs.length := by simpa using (List.getElem?_eq_some_iff.1 hx).1
    have hjz : j * d.sz + d.sz ≤ xs.length * d.sz := by rw [← Nat.succ_mul]; exact Nat.mul_le_mul_right _ hj
    have hcur : ∀ t, t < d.sz → (((cur.toList.take (xs.length * d.sz)).drop (j * d.sz)).take d.sz)[t]? = cur[j * d.sz + t]? := fun t ht => by

      rw [List.getElem?_take_of_lt ht, List.getElem?_drop, List.getElem?_take_of_lt (by omega)]
      simp
    by_cases hij : i = j
    · subst hij
      rw [List.getElem?_set_self hi] at hx
      injection hx with hx
      subst hx
      have e1 : ((cur.toList.take (xs.length * d.sz)).drop (i * d.sz)).take d.sz = news := by
        apply List.ext_getElem?
        intro t
        by_cases ht : t < d.sz
        · have h4 := hcur t ht

          rw [h4, hin t news[t] (by rw [List.getElem?_eq_getElem (by omega)]), List.getElem?_eq_getElem (by omega)]
        · rw [List.getElem?_eq_none (by rw [List.length_take]; omega), List.getElem?_eq_none (by omega)]
      rw [e1]
      exact hK'
    · rw [List.getElem?_set_ne hij] at hx
      have e1 : ((cur.toList.take (xs.length * d.sz)).drop (j * d.sz)).take d.sz = (cs.drop (j * d.sz)).take d.sz := by
        apply List.ext_getElem?
        intro t
        by_cases ht : t < d.sz
        · have h4 := hcur t ht

          have hne : j * d.sz + t < i * d.sz ∨ i * d.sz + d.sz ≤ j * d.sz + t := by
            rcases Nat.lt_or_gt_of_ne hij with h | h
            · have : i * d.sz + d.sz ≤ j * d.sz := by rw [← Nat.succ_mul]; exact Nat.mul_le_mul_right _ h
              omega
            · have : j * d.sz + d.sz ≤ i * d.sz := by rw [← Nat.succ_mul]; exact Nat.mul_le_mul_right _ h
              omega
          rw [h4, hout _ hne, List.getElem?_toArray, List.getElem?_append_left (by omega), List.getElem?_take_of_lt ht, List.getElem?_drop]
        · rw [List.getElem?_eq_none (by rw [List.length_take]; omega), List.getElem?_eq_none (by rw [List.length_take]; omega)]
      rw [e1]
      refine Dt.only (d := d) (O.hK j x hx) f (fun k hk hok hl => hok.2 hl)
end
theorem Opened.mono {α : Type} {d : Dt α} {e : Nat} {w : World} {ok ok' : Nat → Prop} {g cap : Nat} {xs : List α} {cs rest : List Value} (O : Opened d e w ok g cap xs cs rest) (h : ∀ k, ok k → ok' k) : Opened d e w ok' g cap xs cs rest :=
  ⟨O.hlen, O.hcap, O.h63, O.hrest, O.hblk, h _ O.hok, O.hone, fun j x hx => d.mono (fun k hk => ⟨h k hk.1, hk.2⟩) (O.hK j x hx)⟩
theorem Seg.same {w w1 : World} {A : Option Addr} {cs : List Value} (h : Seg w A cs) (f : Same w w1) : Seg w1 A cs := h.only f fun _ _ hl => hl
theorem addr_at (g o j : Nat) : (⟨g, o, none⟩ : Addr).add j = ⟨g, o + j, none⟩ := by unfold Addr.add; split <;> simp_all
theorem Seg.get {w : World} {ad : Addr} {cs : List Value} (h : Seg w (some ad) cs) : ∀ j u, cs[j]? = some u → w.cell? (ad.add j) = some u := by
  intro j u hu
  rcases h with h | ⟨ad', he, h⟩
  · subst h; simp at hu
  · injection he with he
    subst he
    exact h j u hu
end Go.Proofs.YtgmjgdjobkmbgaaL
