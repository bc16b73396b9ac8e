/- Data that lie in memory: numbers, bytes, slices of whatever, structs. -/
import Derived.Test.YtgmjgdjobkmbgaaApp
set_option linter.unusedVariables false
set_option linter.unusedSimpArgs false
namespace Go.Proofs.YtgmjgdjobkmbgaaL
open Go.RowKit
/-- How a datum lies in cells; ok: in which blocks what it leads to may lie. -/
structure Dt (α : Type) where
  sz : Nat
  K : World → (Nat → Prop) → α → List Value → Prop
  len : ∀ {w ok x cs}, K w ok x cs → cs.length = sz
  one : ∀ {w ok x cs}, K w ok x cs → ∀ u ∈ cs, u.oneCell' = true
  move : ∀ {w w1 : World} {ok x cs}, (∀ k, ok k → w1.heap[k]? = w.heap[k]?) → K w ok x cs → K w1 ok x cs
  mono : ∀ {w ok ok' x cs}, (∀ k, ok k → ok' k) → K w ok x cs → K w ok' x cs
  bound : ∀ {w : World} {ok x cs}, K w ok x cs → K w (fun k => ok k ∧ k < w.heap.size) x cs
/-- Elements in a row, from A on. -/
def Row {α : Type} (d : Dt α) (w : World) (ok : Nat → Prop) (A : Option Addr) (xs : List α) : Prop :=
  xs = [] ∨ ∃ ad, A = some ad ∧ ok ad.block ∧ ∀ j x, xs[j]? = some x → ∃ cs, d.K w ok x cs ∧ ∀ i u, cs[i]? = some u → w.cell? (ad.add (j * d.sz + i)) = some u
namespace Row
variable {α : Type} {d : Dt α} {w w1 : World} {ok ok' : Nat → Prop} {A : Option Addr} {xs : List α}
theorem nil (d : Dt α) (w : World) (ok : Nat → Prop) (A : Option Addr) : Row d w ok A [] := .inl rfl
theorem add_block (ad : Addr) (j : Nat) : (ad.add j).block = ad.block := by unfold Addr.add; split <;> rfl
theorem move (hm : ∀ k, ok k → w1.heap[k]? = w.heap[k]?) (h : Row d w ok A xs) : Row d w1 ok A xs := by
  rcases h with h | ⟨ad, hA, hb, h⟩
  · exact .inl h
  · refine .inr ⟨ad, hA, hb, fun j x hx => ?_⟩
    obtain ⟨cs, hK, hc⟩ := h j x hx
    exact ⟨cs, d.move hm hK, fun i u hu => (World.cell?_of_block (by rw [add_block]; exact hm _ hb)).trans (hc i u hu)⟩
theorem mono (hm : ∀ k, ok k → ok' k) (h : Row d w ok A xs) : Row d w ok' A xs := by
  rcases h with h | ⟨ad, hA, hb, h⟩
  · exact .inl h
  · refine .inr ⟨ad, hA, hm _ hb, fun j x hx => ?_⟩
    obtain ⟨cs, hK, hc⟩ := h j x hx
    exact ⟨cs, d.mono hm hK, hc⟩
theorem bound (hz : 0 < d.sz) (h : Row d w ok A xs) : Row d w (fun k => ok k ∧ k < w.heap.size) A xs := by
  rcases h with h | ⟨ad, hA, hb, h⟩
  · exact .inl h
  · by_cases he : xs = []
    · exact .inl he
    · refine .inr ⟨ad, hA, ⟨hb, ?_⟩, fun j x hx => ?_⟩
      · cases xs with
        | nil => exact absurd rfl he
        | cons x r =>
          obtain ⟨cs, hK, hc⟩ := h 0 x (by simp)
          have h1 : 0 < cs.length := by rw [d.len hK]; exact hz
          have := World.block_lt_of_cell? w _ (hc 0 cs[0] (by simp [h1]))
          rwa [add_block] at this
      · obtain ⟨cs, hK, hc⟩ := h j x hx
        exact ⟨cs, d.bound hK, hc⟩
/-- Over a frame that leaves its blocks alone. -/
theorem only {L : Nat → Prop} (hz : 0 < d.sz) (h : Row d w ok A xs) (f : Only L w w1) (hn : ∀ k, k < w.heap.size → ok k → ¬ L k) : Row d w1 ok A xs :=
  mono (fun k hk => hk.1) (move (fun k hk => f.block k hk.2 (hn k hk.2 hk.1)) (bound hz h))
theorem same (hz : 0 < d.sz) (h : Row d w ok A xs) (f : Same w w1) : Row d w1 ok A xs := only hz h f fun _ _ _ hl => hl
theorem get (h : Row d w ok A xs) {j : Nat} {x : α} (hx : xs[j]? = some x) : ∃ ad cs, A = some ad ∧ ok ad.block ∧ d.K w ok x cs ∧ cs.length = d.sz ∧ ∀ i u, cs[i]? = some u → w.cell? (ad.add (j * d.sz + i)) = some u := by
  rcases h with rfl | ⟨ad, hA, hb, h⟩
  · simp at hx
  · obtain ⟨cs, hK, hc⟩ := h j x hx
    exact ⟨ad, cs, hA, hb, hK, d.len hK, hc⟩
/-- All its cells, in line. -/
theorem seg (h : Row d w ok A xs) : ∃ cs, cs.length = xs.length * d.sz ∧ Seg w A cs ∧ (∀ u ∈ cs, u.oneCell' = true) ∧ ∀ j x, xs[j]? = some x → d.K w ok x ((cs.drop (j * d.sz)).take d.sz) := by
  rcases h with rfl | ⟨ad, rfl, hb, h⟩
  · exact ⟨[], by simp, Seg.nil _ _, by simp, by simp⟩
  · have key : ∀ (n : Nat), n ≤ xs.length → ∃ cs : List Value, cs.length = n * d.sz ∧ (∀ j u, cs[j]? = some u → w.cell? (ad.add j) = some u) ∧ (∀ u ∈ cs, u.oneCell' = true) ∧ ∀ j x, j < n → xs[j]? = some x → d.K w ok x ((cs.drop (j * d.sz)).take d.sz) := by
      intro n
      induction n with
      | zero => intro _; exact ⟨[], by simp, by simp, by simp, fun j x hj => by omega⟩
      | succ n ih =>
        intro hn
        obtain ⟨cs, h1, h2, h3, h4⟩ := ih (by omega)
        obtain ⟨c, hK, hc⟩ := h n xs[n] (by simp)
        have hl := d.len hK
        refine ⟨cs ++ c, by rw [List.length_append, h1, hl, Nat.add_mul, Nat.one_mul], fun j u hu => ?_, fun u hu => ?_, fun j x hj hx => ?_⟩
        · by_cases hj : j < cs.length
          · rw [List.getElem?_append_left hj] at hu; exact h2 j u hu
          · rw [List.getElem?_append_right (by omega)] at hu
            have := hc _ u hu
            have e : n * d.sz + (j - cs.length) = j := by omega
            rwa [e] at this
        · rcases List.mem_append.1 hu with hu | hu
          · exact h3 u hu
          · exact d.one hK u hu
        · by_cases hjn : j < n
          · have h5 := h4 j x hjn hx
            have hle : j * d.sz + d.sz ≤ cs.length := by rw [h1, ← Nat.succ_mul]; exact Nat.mul_le_mul_right _ hjn
            rw [List.drop_append_of_le_length (by omega), List.take_append_of_le_length (by rw [List.length_drop]; omega)]
            exact h5
          · have hje : j = n := by omega
            subst hje
            have hx' : xs[j]? = some xs[j] := by simp
            rw [hx'] at hx
            injection hx with hx
            subst hx
            rw [← h1, List.drop_left, ← hl, List.take_length]
            exact hK
    obtain ⟨cs, h1, h2, h3, h4⟩ := key xs.length (Nat.le_refl _)
    exact ⟨cs, h1, .inr ⟨ad, rfl, h2⟩, h3, fun j x hx => h4 j x (List.getElem?_eq_some_iff.1 hx).1 hx⟩
/-- From cells in line. -/
theorem ofSeg {cs : List Value} (hl : cs.length = xs.length * d.sz) (h : Seg w A cs) (hz : 0 < d.sz) (hb : ∀ ad, A = some ad → ok ad.block) (hK : ∀ j x, xs[j]? = some x → d.K w ok x ((cs.drop (j * d.sz)).take d.sz)) : Row d w ok A xs := by
  by_cases he : xs = []
  · exact .inl he
  · rcases h with rfl | ⟨ad, rfl, hc⟩
    · have : xs.length ≠ 0 := by simpa using he
      have h0 : xs.length * d.sz = 0 := by simpa using hl.symm
      rcases Nat.mul_eq_zero.1 h0 with h0 | h0 <;> omega
    · refine .inr ⟨ad, rfl, hb ad rfl, fun j x hx => ⟨_, hK j x hx, fun i u hu => ?_⟩⟩
      rw [List.getElem?_take] at hu
      split at hu
      · rw [List.getElem?_drop] at hu
        exact hc _ u hu
      · cases hu
theorem drop (h : Row d w ok A xs) (lo cap : Nat) (hc : xs.length ≤ cap) : Row d w ok (cutA A lo cap d.sz) (xs.drop lo) := by
  rcases h with rfl | ⟨ad, rfl, hb, h⟩
  · exact .inl (by simp)
  · unfold cutA
    split
    · rename_i e
      exact .inl (List.drop_eq_nil_of_le (by omega))
    · refine .inr ⟨_, rfl, by rw [add_block]; exact hb, fun j x hx => ?_⟩
      rw [List.getElem?_drop] at hx
      obtain ⟨cs, hK, hcc⟩ := h _ x hx
      refine ⟨cs, hK, fun i u hu => ?_⟩
      have := hcc i u hu
      rw [add_add]
      have e : lo * d.sz + (j * d.sz + i) = (lo + j) * d.sz + i := by rw [Nat.add_mul]; omega
      rw [e]
      exact this
theorem take (h : Row d w ok A xs) (m : Nat) : Row d w ok A (xs.take m) := by
  rcases h with rfl | ⟨ad, rfl, hb, h⟩
  · exact .inl (by simp)
  · refine .inr ⟨ad, rfl, hb, fun j x hx => h j x ?_⟩
    rw [List.getElem?_take] at hx
    split at hx
    · exact hx
    · cases hx
end Row

/-! #### the kinds -/
def dCell {α : Type} (enc : α → Value) (h1 : ∀ x, (enc x).oneCell' = true) : Dt α where
  sz := 1
  K := fun _ _ x cs => cs = [enc x]
  len := fun h => by rw [h]; rfl
  one := fun h u hu => by
    rw [h] at hu
    rw [List.mem_singleton.1 hu]
    exact h1 _
  move := fun _ h => h
  mono := fun _ h => h
  bound := fun h => h
def dInt (k : IntKind) : Dt Int := dCell (Value.int k) fun _ => rfl
def dBool : Dt Bool := dCell Value.bool fun _ => rfl
def dU8 : Dt UInt8 := dCell (fun b => Value.int .u8 (b.toNat : Int)) fun _ => rfl
def dSlice {α : Type} (d : Dt α) (hz : 0 < d.sz) : Dt (List α) where
  sz := 1
  K := fun w ok xs cs => ∃ A c, cs = [.slice A xs.length c] ∧ xs.length ≤ c ∧ c ≤ 9223372036854775807 ∧ Row d w ok A xs
  len := by
    rintro w ok x cs ⟨A, c, rfl, _⟩
    rfl
  one := by
    rintro w ok x cs ⟨A, c, rfl, _⟩ u hu
    rw [List.mem_singleton.1 hu]
    rfl
  move := by
    rintro w w1 ok x cs hm ⟨A, c, rfl, h1, h2, h⟩
    exact ⟨A, c, rfl, h1, h2, Row.move hm h⟩
  mono := by
    rintro w ok ok' x cs hm ⟨A, c, rfl, h1, h2, h⟩
    exact ⟨A, c, rfl, h1, h2, Row.mono hm h⟩
  bound := by
    rintro w ok x cs ⟨A, c, rfl, h1, h2, h⟩
    exact ⟨A, c, rfl, h1, h2, Row.bound hz h⟩
def dPair {α β : Type} (a : Dt α) (b : Dt β) : Dt (α × β) where
  sz := a.sz + b.sz
  K := fun w ok x cs => ∃ c0 c1, cs = c0 ++ c1 ∧ a.K w ok x.1 c0 ∧ b.K w ok x.2 c1
  len := by
    rintro w ok x cs ⟨c0, c1, rfl, h0, h1⟩
    rw [List.length_append, a.len h0, b.len h1]
  one := by
    rintro w ok x cs ⟨c0, c1, rfl, h0, h1⟩ u hu
    rcases List.mem_append.1 hu with hu | hu
    · exact a.one h0 u hu
    · exact b.one h1 u hu
  move := by
    rintro w w1 ok x cs hm ⟨c0, c1, rfl, h0, h1⟩
    exact ⟨c0, c1, rfl, a.move hm h0, b.move hm h1⟩
  mono := by
    rintro w ok ok' x cs hm ⟨c0, c1, rfl, h0, h1⟩
    exact ⟨c0, c1, rfl, a.mono hm h0, b.mono hm h1⟩
  bound := by
    rintro w ok x cs ⟨c0, c1, rfl, h0, h1⟩
    exact ⟨c0, c1, rfl, a.bound h0, b.bound h1⟩
def dIso {α β : Type} (d : Dt α) (f : β → α) : Dt β where
  sz := d.sz
  K := fun w ok x cs => d.K w ok (f x) cs
  len := d.len
  one := d.one
  move := d.move
  mono := d.mono
  bound := d.bound
namespace Dt
variable {α : Type} {d : Dt α} {w w1 : World} {ok : Nat → Prop} {x : α} {cs : List Value} {L : Nat → Prop}
theorem only (h : d.K w ok x cs) (f : Only L w w1) (hn : ∀ k, k < w.heap.size → ok k → ¬ L k) : d.K w1 ok x cs :=
  d.mono (fun k hk => hk.1) (d.move (fun k hk => f.block k hk.2 (hn k hk.2 hk.1)) (d.bound h))
theorem same (h : d.K w ok x cs) (f : Same w w1) : d.K w1 ok x cs := Dt.only h f fun _ _ _ hl => hl
end Dt

/-! #### a slice that owns its row, of data -/
def Own {α : Type} (d : Dt α) (e : Nat) (w : World) (ok : Nat → Prop) (v : Value) (xs : List α) : Prop :=
  ∃ cs, OwnC w e d.sz v xs.length cs ∧ (∀ k, v.ownBlock = some k → ok k) ∧ (∀ u ∈ cs, u.oneCell' = true) ∧ ∀ j x, xs[j]? = some x → d.K w (fun k => ok k ∧ v.ownBlock ≠ some k) x ((cs.drop (j * d.sz)).take d.sz)
namespace Own
variable {α : Type} {d : Dt α} {e : Nat} {w w1 : World} {ok ok' : Nat → Prop} {v : Value} {xs : List α} {L : Nat → Prop}
theorem nil (d : Dt α) (e : Nat) (w : World) (ok : Nat → Prop) : Own d e w ok (.slice none 0 0) [] := ⟨[], OwnC.nil w e d.sz, by simp [Value.ownBlock], by simp, by simp⟩
theorem row (hz : 0 < d.sz) (h : Own d e w ok v xs) : ∃ A c, v = .slice A xs.length c ∧ xs.length ≤ c ∧ c ≤ 9223372036854775807 ∧ Row d w ok A xs ∧ (∀ ad, A = some ad → v.ownBlock = some ad.block) := by
  obtain ⟨cs, ho, hb, h1, hK⟩ := h
  obtain ⟨A, c, hv, hc, hc2, hs, hA⟩ := ho.slice
  exact ⟨A, c, hv, hc, hc2, Row.ofSeg ho.1 hs hz (fun ad h => hb _ (hA ad h)) (fun j x hx => d.mono (fun k hk => hk.1) (hK j x hx)), hA⟩
theorem mono (hm : ∀ k, ok k → ok' k) (h : Own d e w ok v xs) : Own d e w ok' v xs := by
  obtain ⟨cs, ho, hb, h1, hK⟩ := h
  exact ⟨cs, ho, fun k hk => hm k (hb k hk), h1, fun j x hx => d.mono (fun k hk => ⟨hm k hk.1, hk.2⟩) (hK j x hx)⟩
theorem only (h : Own d e w ok v xs) (f : Only L w w1) (hn : ∀ k, k < w.heap.size → ok k → ¬ L k) : Own d e w1 ok v xs := by
  obtain ⟨cs, ho, hb, h1, hK⟩ := h
  exact ⟨cs, ho.move (fun b hb' => f.block b (ho.lt hb') (hn b (ho.lt hb') (hb b hb'))), hb, h1, fun j x hx => Dt.only (hK j x hx) f (fun k hk hok => hn k hk hok.1)⟩
theorem same (h : Own d e w ok v xs) (f : Same w w1) : Own d e w1 ok v xs := h.only f fun _ _ _ hl => hl
theorem bound (h : Own d e w ok v xs) : Own d e w (fun k => ok k ∧ k < w.heap.size) v xs := by
  obtain ⟨cs, ho, hb, h1, hK⟩ := h
  exact ⟨cs, ho, fun k hk => ⟨hb k hk, ho.lt hk⟩, h1, fun j x hx => d.mono (fun k hk => ⟨⟨hk.1.1, hk.2⟩, hk.1.2⟩) (d.bound (hK j x hx))⟩
/-- Behind an append of what lies elsewhere. -/
theorem append {ys : List α} {news : List Value} {u : Value} (h : Own d e w ok v xs)
    (hnl : news.length = ys.length * d.sz) (hn1 : ∀ x ∈ news, x.oneCell' = true) (hnK : ∀ j y, ys[j]? = some y → d.K w (fun k => ok k ∧ v.ownBlock ≠ some k) y ((news.drop (j * d.sz)).take d.sz))
    (happ : ∀ cs, OwnC w e d.sz v xs.length cs → OwnC w1 e d.sz u (xs.length + ys.length) (cs ++ news)) (f : Only (fun b => v.ownBlock = some b) w w1) (hu : u.ownBlock = v.ownBlock ∨ u.ownBlock = some w.heap.size) :
    Own d e w1 (fun k => ok k ∨ k = w.heap.size) u (xs ++ ys) := by
  obtain ⟨cs, ho, hb, h1, hK⟩ := h
  have hkeep : ∀ {y : α} {c : List Value}, d.K w (fun k => ok k ∧ v.ownBlock ≠ some k) y c → d.K w1 (fun k => (ok k ∨ k = w.heap.size) ∧ u.ownBlock ≠ some k) y c := fun hy => by
    refine d.mono (fun k hk => ?_) (d.move (fun k hk => f.block k hk.2 hk.1.2) (d.bound hy))
    refine ⟨.inl hk.1.1, fun e => ?_⟩
    rcases hu with hu | hu
    · exact hk.1.2 (hu ▸ e)
    · rw [hu] at e
      injection e with e
      have := hk.2
      omega
  refine ⟨cs ++ news, by rw [List.length_append]; exact happ cs ho, fun k hk => ?_, fun x hx => ?_, fun j x hx => ?_⟩
  · rcases hu with hu | hu
    · exact .inl (hb k (hu ▸ hk))
    · rw [hu] at hk
      injection hk with hk
      exact .inr hk.symm
  · rcases List.mem_append.1 hx with hx | hx
    · exact h1 x hx
    · exact hn1 x hx
  · by_cases hj : j < xs.length
    · rw [List.getElem?_append_left hj] at hx
      have hle : j * d.sz + d.sz ≤ cs.length := by rw [ho.1, ← Nat.succ_mul]; exact Nat.mul_le_mul_right _ hj
      rw [List.drop_append_of_le_length (by omega), List.take_append_of_le_length (by rw [List.length_drop]; omega)]
      exact hkeep (hK j x hx)
    · rw [List.getElem?_append_right (by omega)] at hx
      have e : (cs ++ news).drop (j * d.sz) = news.drop ((j - xs.length) * d.sz) := by
        rw [List.drop_append, List.drop_eq_nil_of_le (by rw [ho.1]; exact Nat.mul_le_mul_right _ (by omega)), List.nil_append, ho.1, Nat.mul_sub_right_distrib]
      rw [e]
      exact hkeep (hnK _ x hx)
end Own
end Go.Proofs.YtgmjgdjobkmbgaaL
