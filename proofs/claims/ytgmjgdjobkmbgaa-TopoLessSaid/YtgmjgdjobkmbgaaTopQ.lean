/- Plain: when there is an order, and what it is like. -/
import Derived.Test.YtgmjgdjobkmbgaaTopF
set_option linter.unusedVariables false
set_option linter.unusedSimpArgs false
namespace Go.Proofs.YtgmjgdjobkmbgaaN
open Go.Proofs.YtgmjgdjobkmbgaaL Go.RowKit Go.Proofs
attribute [local irreducible] Ef Yi WL PL CW NW Ret
open Go.Lib Go.Sort
theorem mem_nodes {L : List Ed} {x : Int} : x ∈ nodesOf L ↔ ∃ e ∈ L, e.frm = x ∨ e.to = x := by
  rw [nodesOf, (compact_sorted (sortI_sorted _)).2, mem_sortI, List.mem_append, mem_ends, mem_ends]
  constructor
  · rintro (⟨e, he, _, h⟩ | ⟨e, he, _, h⟩)
    · exact ⟨e, he, .inl h⟩
    · exact ⟨e, he, .inr h⟩
  · rintro ⟨e, he, h | h⟩
    · exact .inl ⟨e, he, rfl, h⟩
    · exact .inr ⟨e, he, rfl, h⟩
theorem nodes_rising (L : List Ed) : (nodesOf L).Pairwise (· < ·) := (compact_sorted (sortI_sorted _)).1
theorem hasAhead_iff {L : List Ed} {left : List Int} {n : Int} : hasAhead L left n = true ↔ ∃ m, (⟨m, n⟩ : Ed) ∈ L ∧ m ∈ left := by
  rw [hasAhead, List.any_eq_true]
  constructor
  · rintro ⟨⟨f, t⟩, he, h⟩
    simp at h
    obtain ⟨rfl, h⟩ := h
    exact ⟨f, he, h⟩
  · rintro ⟨m, he, h⟩
    exact ⟨_, he, by simp [h]⟩
/-- What holds while the nodes are taken. -/
structure OI (L : List Ed) (left out : List Int) : Prop where
  rise : left.Pairwise (· < ·)
  nd : out.Nodup
  apart : ∀ x ∈ out, ¬ x ∈ left
  all : ∀ x, x ∈ nodesOf L ↔ x ∈ left ∨ x ∈ out
  fwd : ∀ a b, (⟨a, b⟩ : Ed) ∈ L → ∀ j : Nat, out[j]? = some b → ∃ i : Nat, i < j ∧ out[i]? = some a
  least : ∀ (j : Nat) (a b : Int), out[j]? = some a → out[j + 1]? = some b → a < b ∨ (⟨a, b⟩ : Ed) ∈ L
  last : ∀ a : Int, out.getLast? = some a → ∀ n ∈ left, n < a → hasAhead L left n = true ∨ (⟨a, n⟩ : Ed) ∈ L
theorem firstIdx_some {L : List Ed} {left : List Int} : ∀ (r : List Int) (i0 k : Nat), firstIdx L left i0 r = some k → ∃ i n, k = i0 + i ∧ r[i]? = some n ∧ hasAhead L left n = false ∧ ∀ j m, j < i → r[j]? = some m → hasAhead L left m = true
  | [], _, _, h => by simp [firstIdx] at h
  | m :: r, i0, k, h => by
    rw [firstIdx] at h
    cases hh : hasAhead L left m with
    | true =>
      rw [hh] at h
      simp only [if_true] at h
      obtain ⟨i, n, h1, h2, h3, h4⟩ := firstIdx_some r (i0 + 1) k h
      refine ⟨i + 1, n, by omega, by simpa using h2, h3, fun j u hj hu => ?_⟩
      cases j with
      | zero => simp at hu; rw [← hu]; exact hh
      | succ j => exact h4 j u (by omega) (by simpa using hu)
    | false =>
      rw [hh] at h
      simp at h
      exact ⟨0, m, by omega, rfl, hh, fun j u hj => by omega⟩
theorem firstIdx_noneI {L : List Ed} {left : List Int} : ∀ (r : List Int) (i0 : Nat), firstIdx L left i0 r = none → ∀ m ∈ r, hasAhead L left m = true
  | [], _, _, m, hm => by simp at hm
  | x :: r, i0, h, m, hm => by
    rw [firstIdx] at h
    cases hh : hasAhead L left x with
    | true =>
      rw [hh] at h
      simp only [if_true] at h
      rcases List.mem_cons.1 hm with e | hm
      · rw [e]; exact hh
      · exact firstIdx_noneI r (i0 + 1) h m hm
    | false => rw [hh] at h; simp at h
theorem mem_erase {left : List Int} (hr : left.Pairwise (· < ·)) {i : Nat} {n : Int} (hi : left[i]? = some n) (x : Int) : x ∈ left.eraseIdx i ↔ x ∈ left ∧ x ≠ n := by
  have hlt := (List.getElem?_eq_some_iff.1 hi).1
  have hn := (List.getElem?_eq_some_iff.1 hi).2
  constructor
  · intro hx
    refine ⟨List.mem_of_mem_eraseIdx hx, fun e => ?_⟩
    obtain ⟨j, hj⟩ := List.mem_iff_getElem?.1 hx
    rw [List.getElem?_eraseIdx] at hj
    have hnd := rising_nodup hr
    subst e
    have key : ∀ k, k ≠ i → left[k]? ≠ some x := fun k hk h => by
      have h1 := (List.getElem?_eq_some_iff.1 h)
      obtain ⟨h1, h2⟩ := h1
      rcases Nat.lt_or_gt_of_ne hk with h3 | h3
      · have := List.pairwise_iff_getElem.1 hr k i h1 hlt h3
        omega
      · have := List.pairwise_iff_getElem.1 hr i k hlt h1 h3
        omega
    split at hj
    · exact key j (by omega) hj
    · exact key (j + 1) (by omega) hj
  · rintro ⟨hx, hne⟩
    obtain ⟨j, hj⟩ := List.mem_iff_getElem?.1 hx
    refine List.mem_iff_getElem?.2 ?_
    by_cases h : j < i
    · exact ⟨j, by rw [List.getElem?_eraseIdx, if_pos h]; exact hj⟩
    · have : j ≠ i := fun e => by subst e; rw [hi] at hj; injection hj with hj; exact hne hj.symm
      exact ⟨j - 1, by rw [List.getElem?_eraseIdx, if_neg (by omega)]; rw [show j - 1 + 1 = j by omega]; exact hj⟩
theorem OI.step {L : List Ed} {left out : List Int} {i : Nat} {n : Int} (h : OI L left out) (hi : left[i]? = some n) (hall : ∀ j m, j < i → left[j]? = some m → hasAhead L left m = true) (hn : hasAhead L left n = false) : OI L (left.eraseIdx i) (out ++ [n]) := by
  have hmem := mem_erase h.rise hi
  have hnl : n ∈ left := List.mem_of_getElem? hi
  have hno : ¬ n ∈ out := fun hh => h.apart n hh hnl
  refine ⟨h.rise.sublist (List.eraseIdx_sublist _ _), List.nodup_append.2 ⟨h.nd, by simp, fun a ha b hb e => ?_⟩, fun x hx hl => ?_, fun x => ?_, fun a b he j hj => ?_, fun j a b ha hb => ?_, fun a ha m hm hlt => ?_⟩
  · rw [List.mem_singleton] at hb; subst hb; subst e; exact hno ha
  · rw [hmem] at hl
    rcases List.mem_append.1 hx with hx | hx
    · exact h.apart x hx hl.1
    · exact hl.2 (List.mem_singleton.1 hx)
  · rw [h.all, hmem, List.mem_append, List.mem_singleton]
    by_cases e : x = n
    · subst e; simp [hnl]
    · simp [e]
  · by_cases hjl : j < out.length
    · rw [List.getElem?_append_left hjl] at hj
      obtain ⟨k, hk, hka⟩ := h.fwd a b he j hj
      exact ⟨k, hk, by rw [List.getElem?_append_left (by omega)]; exact hka⟩
    · have hj2 := (List.getElem?_eq_some_iff.1 hj).1
      rw [List.length_append, List.length_singleton] at hj2
      have hje : j = out.length := by omega
      rw [hje, List.getElem?_append_right (Nat.le_refl _)] at hj
      simp at hj
      subst hj
      have ha : a ∈ nodesOf L := mem_nodes.2 ⟨_, he, .inl rfl⟩
      rcases (h.all a).1 ha with ha | ha
      · have : hasAhead L left n = true := hasAhead_iff.2 ⟨a, he, ha⟩
        rw [this] at hn; cases hn
      · obtain ⟨k, hk⟩ := List.mem_iff_getElem?.1 ha
        have hkl := (List.getElem?_eq_some_iff.1 hk).1
        exact ⟨k, by omega, by rw [List.getElem?_append_left hkl]; exact hk⟩
  · by_cases hjl : j + 1 < out.length
    · rw [List.getElem?_append_left hjl] at hb
      rw [List.getElem?_append_left (by omega)] at ha
      exact h.least j a b ha hb
    · have hj2 := (List.getElem?_eq_some_iff.1 hb).1
      rw [List.length_append, List.length_singleton] at hj2
      have hje : j + 1 = out.length := by omega
      rw [hje, List.getElem?_append_right (Nat.le_refl _)] at hb
      simp at hb
      subst hb
      rw [List.getElem?_append_left (by omega)] at ha
      have hlast : out.getLast? = some a := by rw [List.getLast?_eq_getElem?, show out.length - 1 = j by omega]; exact ha
      have hne : a ≠ n := fun e => hno (e ▸ List.mem_of_getElem? ha)
      by_cases hab : a < n
      · exact .inl hab
      · rcases h.last a hlast n hnl (by omega) with h1 | h1
        · rw [h1] at hn; cases hn
        · exact .inr h1
  · rw [List.getLast?_append, List.getLast?_singleton] at ha
    simp at ha
    subst ha
    rw [hmem] at hm
    obtain ⟨j, hj⟩ := List.mem_iff_getElem?.1 hm.1
    have hji : j < i := by
      rcases Nat.lt_or_ge j i with h1 | h1
      · exact h1
      · have hjl := List.getElem?_eq_some_iff.1 hj
        have hil := List.getElem?_eq_some_iff.1 hi
        obtain ⟨hjl, hj3⟩ := hjl
        obtain ⟨hil, hi3⟩ := hil
        by_cases e : i = j
        · subst e; omega
        · have := List.pairwise_iff_getElem.1 h.rise i j hil hjl (by omega)
          omega
    obtain ⟨k, he, hk⟩ := hasAhead_iff.1 (hall j m hji hj)
    by_cases e : k = n
    · subst e; exact .inr he
    · exact .inl (hasAhead_iff.2 ⟨k, he, (hmem k).2 ⟨hk, e⟩⟩)
theorem OI.start (L : List Ed) : OI L (nodesOf L) [] :=
  ⟨nodes_rising L, by simp, by simp, by simp, by simp, by simp, by simp⟩
theorem ordLoop_some {L : List Ed} : ∀ (f : Nat) (left out res : List Int), ordLoop L f left out = some res → OI L left out → OI L [] res
  | f, [], out, res, h, hO => by
    have : ordLoop L f [] out = some out := by cases f <;> rfl
    rw [this] at h
    injection h with h
    exact h ▸ hO
  | 0, m :: r, out, res, h, _ => by simp [ordLoop] at h
  | f + 1, m :: r, out, res, h, hO => by
    rw [ordLoop] at h
    cases hf : firstIdx L (m :: r) 0 (m :: r) with
    | none => rw [hf] at h; simp at h
    | some k =>
      rw [hf] at h
      simp only at h
      obtain ⟨i, n, hk, hi, hn, hall⟩ := firstIdx_some _ _ _ hf
      rw [Nat.zero_add] at hk
      subst hk
      have hg : (m :: r).getD k 0 = n := by rw [List.getD, hi]; rfl
      rw [hg] at h
      exact ordLoop_some f _ _ res h (hO.step hi hall hn)
theorem ordLoop_none {L : List Ed} : ∀ (f : Nat) (left out : List Int), left.length ≤ f → ordLoop L f left out = none → ∃ left' : List Int, left' ≠ [] ∧ ∀ m ∈ left', hasAhead L left' m = true
  | f, [], out, _, h => by
    have : ordLoop L f [] out = some out := by cases f <;> rfl
    rw [this] at h
    cases h
  | 0, m :: r, out, hl, _ => by simp at hl
  | f + 1, m :: r, out, hl, h => by
    rw [ordLoop] at h
    cases hf : firstIdx L (m :: r) 0 (m :: r) with
    | none => exact ⟨m :: r, by simp, firstIdx_noneI _ _ hf⟩
    | some k =>
      rw [hf] at h
      simp only at h
      obtain ⟨i, n, hk, hi, _, _⟩ := firstIdx_some _ _ _ hf
      rw [Nat.zero_add] at hk
      subst hk
      have hlt := (List.getElem?_eq_some_iff.1 hi).1
      exact ordLoop_none f _ _ (by rw [List.length_eraseIdx, if_pos hlt]; simp at hl ⊢; omega) h
theorem chain {L : List Ed} {l : List Int} (hac : ∀ n, ¬ Path L n n) (h : ∀ m ∈ l, ∃ k, (⟨k, m⟩ : Ed) ∈ L ∧ k ∈ l) {x : Int} (hx : x ∈ l) : ∀ k : Nat, ∃ (hd : Int) (tl : List Int), tl.length = k ∧ (hd :: tl).Nodup ∧ (∀ y ∈ hd :: tl, y ∈ l) ∧ ∀ y ∈ tl, Path L hd y
  | 0 => ⟨x, [], rfl, by simp, by simpa using hx, by simp⟩
  | k + 1 => by
    obtain ⟨hd, tl, h1, h2, h3, h4⟩ := chain hac h hx k
    obtain ⟨m, hm, hml⟩ := h hd (h3 hd (by simp))
    have hp : ∀ y ∈ hd :: tl, Path L m y := fun y hy => by
      rcases List.mem_cons.1 hy with hy | hy
      · rw [hy]; exact .one hm
      · exact (Path.one hm).trans (h4 y hy)
    refine ⟨m, hd :: tl, by simp [h1], List.nodup_cons.2 ⟨fun hh => hac m (hp m hh), h2⟩, fun y hy => ?_, hp⟩
    rcases List.mem_cons.1 hy with hy | hy
    · rw [hy]; exact hml
    · exact h3 y hy
theorem order_some {L : List Ed} {out : List Int} (h : orderOf L = some out) : OI L [] out := ordLoop_some _ _ _ _ h (OI.start L)
theorem order_none {L : List Ed} (h : orderOf L = none) : ∃ n, Path L n n := by
  obtain ⟨l, hne, hl⟩ := ordLoop_none _ _ _ (Nat.le_refl _) h
  apply Classical.byContradiction
  intro hac
  obtain ⟨x, hx⟩ := List.exists_mem_of_ne_nil l hne
  obtain ⟨hd, tl, h1, h2, h3, _⟩ := chain (fun n hn => hac ⟨n, hn⟩) (fun m hm => hasAhead_iff.1 (hl m hm)) hx l.length
  have := nodup_le h2 h3
  simp only [List.length_cons] at this
  omega
theorem order_path {L : List Ed} {out : List Int} (h : orderOf L = some out) {a b : Int} (hp : Path L a b) : ∀ j : Nat, out[j]? = some b → ∃ i : Nat, i < j ∧ out[i]? = some a := by
  have hO := order_some h
  induction hp with
  | one he => exact fun j hj => hO.fwd _ _ he j hj
  | more _ he ih =>
    intro j hj
    obtain ⟨k, hk, hkb⟩ := hO.fwd _ _ he j hj
    obtain ⟨i, hi, hia⟩ := ih k hkb
    exact ⟨i, by omega, hia⟩
theorem path_nodes {L : List Ed} {a b : Int} (hp : Path L a b) : b ∈ nodesOf L := by
  cases hp with
  | one he => exact mem_nodes.2 ⟨_, he, .inr rfl⟩
  | more _ he => exact mem_nodes.2 ⟨_, he, .inr rfl⟩
/-- There is an order just if no node reaches itself. -/
theorem order_iff {L : List Ed} : (∃ out, orderOf L = some out) ↔ ∀ n, ¬ Path L n n := by
  constructor
  · rintro ⟨out, h⟩ n hp
    have hm : n ∈ out := (((order_some h).all n).1 (path_nodes hp)).elim (fun h => by simp at h) id
    obtain ⟨j, hj⟩ := List.mem_iff_getElem?.1 hm
    obtain ⟨i, hi, hia⟩ := order_path h hp j hj
    have hnd := (order_some h).nd
    obtain ⟨hjl, hj2⟩ := List.getElem?_eq_some_iff.1 hj
    obtain ⟨hil, hi2⟩ := List.getElem?_eq_some_iff.1 hia
    exact List.pairwise_iff_getElem.1 hnd i j hil hjl hi (by rw [hi2, hj2])
  · intro hac
    cases h : orderOf L with
    | some out => exact ⟨out, rfl⟩
    | none =>
      obtain ⟨n, hn⟩ := order_none h
      exact absurd hn (hac n)

end Go.Proofs.YtgmjgdjobkmbgaaN
