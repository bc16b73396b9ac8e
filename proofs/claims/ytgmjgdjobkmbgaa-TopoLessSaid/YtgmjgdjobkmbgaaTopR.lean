/- Plain: fewer edges; the same edges in another order. -/
import Derived.Test.YtgmjgdjobkmbgaaTopQ
set_option linter.unusedVariables false
set_option linter.unusedSimpArgs false
namespace Go.Proofs.YtgmjgdjobkmbgaaN
open Go.Proofs.YtgmjgdjobkmbgaaL Go.RowKit Go.Proofs
attribute [local irreducible] Ef Yi WL PL CW NW Ret
open Go.Lib Go.Sort
theorem path_mono {L L' : List Ed} (h : ∀ e ∈ L, e ∈ L') {a b : Int} (p : Path L a b) : Path L' a b := by
  induction p with
  | one h1 => exact .one (h _ h1)
  | more _ h1 ih => exact .more ih (h _ h1)
theorem path_congr {L L' : List Ed} (h : ∀ e, e ∈ L ↔ e ∈ L') (a b : Int) : Path L a b ↔ Path L' a b := ⟨path_mono fun e he => (h e).1 he, path_mono fun e he => (h e).2 he⟩
theorem hasAhead_congr {L L' : List Ed} (h : ∀ e, e ∈ L ↔ e ∈ L') (left : List Int) (n : Int) : hasAhead L left n = hasAhead L' left n := by
  rw [Bool.eq_iff_iff, hasAhead_iff, hasAhead_iff]
  constructor
  · rintro ⟨m, h1, h2⟩; exact ⟨m, (h _).1 h1, h2⟩
  · rintro ⟨m, h1, h2⟩; exact ⟨m, (h _).2 h1, h2⟩
theorem firstIdx_congr {L L' : List Ed} (h : ∀ e, e ∈ L ↔ e ∈ L') (left : List Int) : ∀ (r : List Int) (i : Nat), firstIdx L left i r = firstIdx L' left i r
  | [], _ => rfl
  | n :: r, i => by rw [firstIdx, firstIdx, hasAhead_congr h, firstIdx_congr h left r]
theorem ordLoop_congr {L L' : List Ed} (h : ∀ e, e ∈ L ↔ e ∈ L') : ∀ (f : Nat) (left out : List Int), ordLoop L f left out = ordLoop L' f left out
  | f, [], out => by cases f <;> rfl
  | 0, _ :: _, _ => rfl
  | f + 1, n :: r, out => by
    rw [ordLoop, ordLoop, firstIdx_congr h]
    cases firstIdx L' (n :: r) 0 (n :: r) with
    | none => rfl
    | some i => exact ordLoop_congr h f _ _
theorem nodesOf_congr {L L' : List Ed} (h : ∀ e, e ∈ L ↔ e ∈ L') : nodesOf L = nodesOf L' := rising_ext (nodes_rising L) (nodes_rising L') fun x => by
  rw [mem_nodes, mem_nodes]
  constructor
  · rintro ⟨e, h1, h2⟩; exact ⟨e, (h e).1 h1, h2⟩
  · rintro ⟨e, h1, h2⟩; exact ⟨e, (h e).2 h1, h2⟩
theorem orderOf_congr {L L' : List Ed} (h : ∀ e, e ∈ L ↔ e ∈ L') : orderOf L = orderOf L' := by rw [orderOf, orderOf, nodesOf_congr h, ordLoop_congr h]
theorem order_less {L L' : List Ed} (h : ∀ e ∈ L, e ∈ L') (ho : ∃ out, orderOf L' = some out) : ∃ out, orderOf L = some out := order_iff.2 fun n hp => order_iff.1 ho n (path_mono h hp)
theorem nodes_lit {L : List Ed} {ns : List Int} (h : ns.Pairwise (· < ·) ∧ (∀ e ∈ L, e.frm ∈ ns ∧ e.to ∈ ns) ∧ ∀ n ∈ ns, ∃ e ∈ L, e.frm = n ∨ e.to = n) : nodesOf L = ns := rising_ext (nodes_rising L) h.1 fun x => by
  rw [mem_nodes]
  constructor
  · rintro ⟨e, he, rfl | rfl⟩
    · exact (h.2.1 e he).1
    · exact (h.2.1 e he).2
  · exact h.2.2 x
theorem next_lit {t : Tp} {flow a : Int} {L : List Ed} {ns : List Int} (hL : edgesOf t flow = L) (h : ns.Pairwise (· < ·) ∧ (∀ e ∈ L, e.frm = a → e.to ∈ ns) ∧ ∀ n ∈ ns, (⟨a, n⟩ : Ed) ∈ L) : nextOf t flow a = ns := rising_ext (ends_sorted _ _) h.1 fun x => by
  rw [mem_next, hL]
  exact ⟨fun hx => h.2.1 _ hx rfl, h.2.2 x⟩
theorem prev_lit {t : Tp} {flow a : Int} {L : List Ed} {ns : List Int} (hL : edgesOf t flow = L) (h : ns.Pairwise (· < ·) ∧ (∀ e ∈ L, e.to = a → e.frm ∈ ns) ∧ ∀ n ∈ ns, (⟨n, a⟩ : Ed) ∈ L) : prevOf t flow a = ns := rising_ext (ends_sorted _ _) h.1 fun x => by
  rw [mem_prev, hL]
  exact ⟨fun hx => h.2.1 _ hx rfl, h.2.2 x⟩
theorem path_in {L : List Ed} {a : Int} {S : List Int} (h : ∀ e ∈ L, e.frm = a ∨ e.frm ∈ S → e.to ∈ S) {b : Int} (p : Path L a b) : b ∈ S := by
  induction p with
  | one h1 => exact h _ h1 (.inl rfl)
  | more _ h1 ih => exact h _ h1 (.inr ih)

end Go.Proofs.YtgmjgdjobkmbgaaN
