/- Plain facts: rising rows of integers, what hops tell. -/
import Derived.Test.YtgmjgdjobkmbgaaTopB
set_option linter.unusedVariables false
set_option linter.unusedSimpArgs false
namespace Go.Proofs.YtgmjgdjobkmbgaaN
open Go.Proofs.YtgmjgdjobkmbgaaL Go.RowKit Go.Proofs
attribute [local irreducible] Ef Yi WL PL CW NW Ret
open Go.Lib Go.Sort
theorem compact_spec (zs : List Int) (hs : zs.Pairwise (· ≤ ·)) : ∀ m, m ≤ zs.length → (compactUpTo zs.toArray m).Pairwise (· < ·) ∧ ∀ x, x ∈ compactUpTo zs.toArray m ↔ ∃ j, j < m ∧ zs[j]? = some x := by
  have hg : ∀ j, j < zs.length → zs[j]? = some (zs.toArray[j]!) := fun j hj => by rw [List.getElem?_eq_getElem hj]; simp [hj]
  have hle : ∀ i j, i < j → j < zs.length → zs.toArray[i]! ≤ zs.toArray[j]! := fun i j hij hj => by
    have := List.pairwise_iff_getElem.1 hs i j (by omega) hj hij
    simpa [hj, show i < zs.length by omega] using this
  intro m
  induction m with
  | zero => intro _; exact ⟨by simp [compactUpTo], fun x => by simp [compactUpTo]⟩
  | succ m ih =>
    intro hm
    obtain ⟨h1, h2⟩ := ih (by omega)
    rw [compactUpTo_succ]
    cases hk : keeps zs.toArray m with
    | true =>
      simp only [if_true]
      refine ⟨List.pairwise_append.2 ⟨h1, List.pairwise_singleton _ _, fun a ha b hb => ?_⟩, fun x => ?_⟩
      · rw [List.mem_singleton] at hb
        subst hb
        obtain ⟨j, hj, hja⟩ := (h2 a).1 ha
        rw [hg j (by omega)] at hja
        injection hja with hja
        rw [← hja]
        simp only [keeps, decide_eq_true_eq] at hk
        rcases hk with hk | hk
        · omega
        · have h3 : zs.toArray[m - 1]! ≤ zs.toArray[m]! := hle (m - 1) m (by omega) (by omega)
          have h4 : zs.toArray[j]! ≤ zs.toArray[m - 1]! := by
            by_cases e : j = m - 1
            · rw [e]; exact Int.le_refl _
            · exact hle j (m - 1) (by omega) (by omega)
          omega
      · rw [List.mem_append, h2, List.mem_singleton]
        constructor
        · rintro (⟨j, hj, h⟩ | h)
          · exact ⟨j, by omega, h⟩
          · exact ⟨m, by omega, by rw [hg m (by omega), h]⟩
        · rintro ⟨j, hj, h⟩
          by_cases e : j = m
          · subst e
            rw [hg j (by omega)] at h
            injection h with h
            exact .inr h.symm
          · exact .inl ⟨j, by omega, h⟩
    | false =>
      simp only [Bool.false_eq_true, if_false, List.append_nil]
      refine ⟨h1, fun x => ?_⟩
      rw [h2]
      simp only [keeps, decide_eq_false_iff_not, not_or, Classical.not_not] at hk
      constructor
      · rintro ⟨j, hj, h⟩
        exact ⟨j, by omega, h⟩
      · rintro ⟨j, hj, h⟩
        by_cases e : j = m
        · subst e
          exact ⟨j - 1, by omega, by rw [hg (j - 1) (by omega), ← hk.2, ← hg j (by omega), h]⟩
        · exact ⟨j, by omega, h⟩
theorem sortI_sorted (zs : List Int) : (sortI zs).Pairwise (· ≤ ·) := by
  have h := List.pairwise_mergeSort (le := fun x y => decide (x ≤ y)) (fun a b c h1 h2 => by simp at *; omega) (fun a b => by simp; omega) zs
  exact h.imp fun h => by simpa using h
theorem mem_sortI {x : Int} {zs : List Int} : x ∈ sortI zs ↔ x ∈ zs := List.mem_mergeSort
theorem mem_getElem? {α : Type} {x : α} {zs : List α} : (∃ j, j < zs.length ∧ zs[j]? = some x) ↔ x ∈ zs := by
  rw [List.mem_iff_getElem?]
  exact ⟨fun ⟨j, _, h⟩ => ⟨j, h⟩, fun ⟨j, h⟩ => ⟨j, (List.getElem?_eq_some_iff.1 h).1, h⟩⟩
theorem compact_sorted {zs : List Int} (hs : zs.Pairwise (· ≤ ·)) : (Lib.compact zs).Pairwise (· < ·) ∧ ∀ x, x ∈ Lib.compact zs ↔ x ∈ zs := by
  obtain ⟨h1, h2⟩ := compact_spec zs hs zs.length (Nat.le_refl _)
  exact ⟨h1, fun x => (h2 x).trans mem_getElem?⟩
theorem ends_sorted (l : List Ed) (g : Ed → Int × Bool) : (endsOf l g).Pairwise (· < ·) := (compact_sorted (sortI_sorted _)).1
theorem mem_ends {l : List Ed} {g : Ed → Int × Bool} {x : Int} : x ∈ endsOf l g ↔ ∃ e ∈ l, (g e).2 = true ∧ (g e).1 = x := by
  rw [endsOf, (compact_sorted (sortI_sorted _)).2, mem_sortI, collect, List.mem_filterMap]
  constructor
  · rintro ⟨e, he, h⟩
    split at h
    · rename_i h1
      injection h with h
      exact ⟨e, he, h1, h⟩
    · cases h
  · rintro ⟨e, he, h1, h2⟩
    exact ⟨e, he, by rw [if_pos h1, h2]⟩
theorem mem_next {t : Tp} {flow a x : Int} : x ∈ nextOf t flow a ↔ (⟨a, x⟩ : Ed) ∈ edgesOf t flow := by
  rw [nextOf, mem_ends]
  constructor
  · rintro ⟨⟨f, to⟩, he, h1, h2⟩
    simp at h1 h2
    subst h1; subst h2
    exact he
  · intro h
    exact ⟨_, h, by simp, rfl⟩
theorem mem_prev {t : Tp} {flow a x : Int} : x ∈ prevOf t flow a ↔ (⟨x, a⟩ : Ed) ∈ edgesOf t flow := by
  rw [prevOf, mem_ends]
  constructor
  · rintro ⟨⟨f, to⟩, he, h1, h2⟩
    simp at h1 h2
    subst h1; subst h2
    exact he
  · intro h
    exact ⟨_, h, by simp, rfl⟩
/-- Over edges, at least one. -/
inductive Path (L : List Ed) : Int → Int → Prop
  | one {a b : Int} : (⟨a, b⟩ : Ed) ∈ L → Path L a b
  | more {a b c : Int} : Path L a b → (⟨b, c⟩ : Ed) ∈ L → Path L a c
theorem Path.trans {L : List Ed} {a b c : Int} (h : Path L a b) (k : Path L b c) : Path L a c := by
  induction k with
  | one h1 => exact .more h h1
  | more _ h1 ih => exact .more ih h1
theorem Path.head {L : List Ed} {a b : Int} (h : Path L a b) : (⟨a, b⟩ : Ed) ∈ L ∨ ∃ c, (⟨a, c⟩ : Ed) ∈ L ∧ Path L c b := by
  induction h with
  | one h => exact .inl h
  | more h1 h2 ih =>
    rcases ih with ih | ⟨c, h3, h4⟩
    · exact .inr ⟨_, ih, .one h2⟩
    · exact .inr ⟨c, h3, .more h4 h2⟩
theorem nodup_le {α : Type} [DecidableEq α] : ∀ {l m : List α}, l.Nodup → (∀ x ∈ l, x ∈ m) → l.length ≤ m.length
  | [], _, _, _ => Nat.zero_le _
  | a :: l, m, hn, hs => by
    have ha : a ∈ m := hs a (by simp)
    have hn' := List.nodup_cons.1 hn
    have := nodup_le (l := l) (m := m.erase a) hn'.2 (fun x hx => by
      have hne : x ≠ a := fun e => hn'.1 (e ▸ hx)
      exact (List.mem_erase_of_ne hne).2 (hs x (by simp [hx])))
    rw [List.length_erase_of_mem ha] at this
    have hpos : 0 < m.length := List.length_pos_of_mem ha
    simp only [List.length_cons]
    omega
theorem rising_nodup {zs : List Int} (h : zs.Pairwise (· < ·)) : zs.Nodup := h.imp fun h => by omega
/-- Rising rows with the same elements are the same. -/
theorem rising_ext : ∀ {xs ys : List Int}, xs.Pairwise (· < ·) → ys.Pairwise (· < ·) → (∀ x, x ∈ xs ↔ x ∈ ys) → xs = ys
  | [], [], _, _, _ => rfl
  | [], y :: ys, _, _, h => absurd ((h y).2 (by simp)) (by simp)
  | x :: xs, [], _, _, h => absurd ((h x).1 (by simp)) (by simp)
  | x :: xs, y :: ys, hx, hy, h => by
    obtain ⟨hx1, hx2⟩ := List.pairwise_cons.1 hx
    obtain ⟨hy1, hy2⟩ := List.pairwise_cons.1 hy
    have e : x = y := by
      have h1 := (h x).1 (by simp)
      have h2 := (h y).2 (by simp)
      rcases List.mem_cons.1 h1 with h1 | h1
      · exact h1
      · rcases List.mem_cons.1 h2 with h2 | h2
        · exact h2.symm
        · have := hy1 x h1
          have := hx1 y h2
          omega
    subst e
    rw [rising_ext hx2 hy2 fun z => ?_]
    constructor
    · intro hz
      have h1 := (h z).1 (by simp [hz])
      rcases List.mem_cons.1 h1 with h1 | h1
      · have := hx1 z hz; omega
      · exact h1
    · intro hz
      have h1 := (h z).2 (by simp [hz])
      rcases List.mem_cons.1 h1 with h1 | h1
      · have := hy1 z hz; omega
      · exact h1

end Go.Proofs.YtgmjgdjobkmbgaaN
