/- append within the capacity, clear; an element taken out of a row. -/
import Derived.Test.YtgmjgdjobkmbgaaOwn
set_option linter.unusedVariables false
set_option linter.unusedSimpArgs false
namespace Go.Proofs.YtgmjgdjobkmbgaaL
open Go.RowKit
theorem cutA_blk {g o lo cap z : Nat} (h : lo < cap) : cutA (some ⟨g, o, none⟩) lo cap z = some ⟨g, o + lo * z, none⟩ := by
  unfold cutA
  rw [if_neg (by omega)]
  simp only [Option.map_some, Addr.add]
  split <;> simp_all
section
variable {P : Program} {ops : Array Oper} {Q : Exit → Act → World → Prop} {S : World → Prop} {m : Nat} {n : Nat} {ds : List Deferred} {l : List (Nat × Value)} {w : World}
theorem PL.as_ {plan : List (Nat × Bool)} {t : Nat} {v v' : Value} (hl : lk l t = some v) (he : v = v') (h : PL P ops Q S m n ds plan ((t, v') :: l) w) : PL P ops Q S m n ds plan l w := fun a ha =>
  h a ⟨ha.size, ha.defers, fun s u hs => by
    by_cases e : t = s
    · subst e
      rw [lk_hit] at hs
      injection hs with hs
      subst hs
      subst he
      exact ha.has _ _ hl
    · rw [lk_miss e] at hs
      exact ha.has _ _ hs⟩
end
section
variable {P : Program} {n : Nat} {ds : List Deferred} {l : List (Nat × Value)} {w : World} {d : Option Tmp} {ty : TypeId} {p : String} {af : Array Edge} {g : Option (Nat × Bool)}
theorem ef_appendRoom {t tx e : TypeId} {z k c c0 m b o : Nat} {x y : Operand} {news : List Value} {A : Option Addr} {cur : Array Value} (ht : ∀ w, (underlying t).run P w = .ok (.slice e) w) (hx : ∀ w, ∃ dd, (underlying tx).run P w = .ok dd w ∧ ∀ k, dd ≠ .int k)
    (hz : ∀ w, (sizeOf e).run P w = .ok z w) (hv : ev l x = some (.slice (some ⟨b, o, none⟩) m c0)) (hy : ev l y = some (.slice A k c)) (hB : Blk w b cur e) (hln : news.length = k * z) (hn : Seg w A news) (h1 : ∀ u ∈ news, u.oneCell' = true)
    (hm : m + k ≤ c0) (hs : o + m * z + news.length ≤ cur.size) :
    Ef P n ds ⟨d, .call { callee := .builtin .append, args := #[x, y], argTypes := #[t, tx] }, ty, p, af, g⟩ l w (fun u w' => u = .slice (some ⟨b, o, none⟩) (m + k) c0 ∧ IsSet w b (putAll cur (o + m * z) news) e w') := fun a ha K Q h => by
  obtain ⟨w', hr, hS⟩ := run_append_room (P := P) (ty := ty) (c' := c) ht hx hz hB hln hn h1 hm hs
  have hr' : (execOp a.eval ⟨d, .call { callee := .builtin .append, args := #[x, y], argTypes := #[t, tx] }, ty, p, af, g⟩).run P w = .ok (.value (.slice (some ⟨b, o, none⟩) (m + k) c0)) w' := by
    simp only [execOp, resolve, invoke, builtin]
    simp [ha.eval hv, ha.eval hy, invoke, builtin, hr]
  simp only [Oper.wp, hr', Oper.upon]
  exact h _ _ ⟨rfl, hS⟩
theorem ef_clear {t e : TypeId} {z c0 m b o : Nat} {x : Operand} {cur : Array Value} {zv : Value} (ht : ∀ w, (underlying t).run P w = .ok (.slice e) w)
    (hz : ∀ w, (zeroValue e).run P w = .ok zv w) (hzz : zv.cells.size = z) (hz1 : zv.cells.toList.all (·.oneCell') = true) (hv : ev l x = some (.slice (some ⟨b, o, none⟩) (m + 1) c0)) (hB : Blk w b cur e) (hs : o + (m + 1) * z ≤ cur.size) :
    Ef P n ds ⟨d, .call { callee := .builtin .clear, args := #[x], argTypes := #[t] }, ty, p, af, g⟩ l w (fun u w' => u = .tuple #[] ∧ IsSet w b (putAll cur o (Builtin.zeroCells zv.cells (m + 1)).toList) e w') := fun a ha K Q h => by
  have h1 : ∀ u ∈ (Builtin.zeroCells zv.cells (m + 1)).toList, u.oneCell' = true := by
    intro u hu
    simp only [Builtin.zeroCells, Array.toList_map, List.mem_map] at hu
    obtain ⟨i, hi, rfl⟩ := hu
    have hi' : i < (m + 1) * zv.cells.size := by simpa using hi
    have hpos : 0 < zv.cells.size := by
      rcases Nat.eq_zero_or_pos zv.cells.size with h0 | h0
      · rw [h0] at hi'; omega
      · exact h0
    have hlt : i % zv.cells.size < zv.cells.size := Nat.mod_lt _ hpos
    apply List.all_eq_true.1 hz1
    have eg : zv.cells[i % zv.cells.size]! = zv.cells[i % zv.cells.size] := getElem!_pos zv.cells (i % zv.cells.size) hlt
    rw [eg]
    exact Array.getElem_mem_toList hlt
  obtain ⟨w', hr, hS⟩ := run_storeCells_blk (P := P) (Builtin.zeroCells zv.cells (m + 1)).toList o 0 cur w b e hB (by simp [Builtin.zeroCells, hzz]; omega) h1
  have hr' : (execOp a.eval ⟨d, .call { callee := .builtin .clear, args := #[x], argTypes := #[t] }, ty, p, af, g⟩).run P w = .ok (.value (.tuple #[])) w' := by
    simp only [execOp, resolve, invoke, builtin]
    simp [ha.eval hv, invoke, builtin, Builtin.clear_, ht, hz, hr]
  simp only [Oper.wp, hr', Oper.upon]
  exact h _ _ ⟨rfl, by simpa using hS⟩
end
theorem OwnC.at {w : World} {e z g k cap n : Nat} {xs : List Value} (h : OwnC w e z (.slice (some ⟨g, 0, none⟩) k cap) n xs) : n = k ∧ xs.length = k * z ∧ k ≤ cap ∧ cap ≤ 9223372036854775807 ∧ ∃ rest : List Value, rest.length = (cap - k) * z ∧ Blk w g (xs ++ rest).toArray e := by
  obtain ⟨hl, h⟩ := h
  rcases h with ⟨h, _⟩ | ⟨b, cap', rest, h, h3, h4, h5, hB⟩
  · cases h
  · injection h with e1 e2 e3
    injection e1 with e1
    injection e1 with e1
    subst e1
    subst e2
    subst e3
    exact ⟨rfl, hl, h3, h4, rest, h5, hB⟩
/-- The cells behind an element that is taken out. -/
theorem del_cells (cs rest zs : List Value) (i m z : Nat) (hl : cs.length = (m + 1) * z) (hi : i ≤ m) (hz : zs.length = z) :
    putAll (putAll (cs ++ rest).toArray (i * z) (cs.drop ((i + 1) * z))) (m * z) zs = ((cs.take (i * z) ++ cs.drop ((i + 1) * z)) ++ (zs ++ rest)).toArray := by
  have h1 : (cs.take (i * z)).length = i * z := by
    rw [List.length_take, hl]
    have : i * z ≤ (m + 1) * z := Nat.mul_le_mul_right _ (by omega)
    omega
  have h2 : (cs.drop ((i + 1) * z)).length = (m - i) * z := by
    rw [List.length_drop, hl, ← Nat.mul_sub_right_distrib]
    congr 1
    omega
  have e1 : cs ++ rest = cs.take (i * z) ++ (cs.drop (i * z) ++ rest) := by rw [← List.append_assoc, List.take_append_drop]
  have h3 : (cs.drop (i * z)).length = (m - i) * z + z := by
    rw [List.length_drop, hl, ← Nat.mul_sub_right_distrib]
    have : m + 1 - i = (m - i) + 1 := by omega
    rw [this, Nat.add_mul, Nat.one_mul]
  rw [e1]
  have e2 := putAll_append (cs.drop ((i + 1) * z)) (cs.drop (i * z) ++ rest) (cs.take (i * z)) _ rfl (by rw [List.length_append, h2, h3]; omega)
  rw [h1] at e2
  rw [e2]
  have e3 : (cs.drop (i * z) ++ rest).drop (cs.drop ((i + 1) * z)).length = (cs.drop (i * z)).drop ((m - i) * z) ++ rest := by
    rw [h2, List.drop_append_of_le_length (by omega)]
  rw [e3]
  have h4 : (cs.take (i * z) ++ cs.drop ((i + 1) * z)).length = m * z := by
    rw [List.length_append, h1, h2, ← Nat.add_mul]
    congr 1
    omega
  have h5 : ((cs.drop (i * z)).drop ((m - i) * z)).length = z := by rw [List.length_drop, h3]; omega
  have e4 := putAll_append zs ((cs.drop (i * z)).drop ((m - i) * z) ++ rest) (cs.take (i * z) ++ cs.drop ((i + 1) * z)) _ rfl (by rw [List.length_append, h5, hz]; omega)
  rw [h4] at e4
  have e5 : List.drop z ((cs.drop (i * z)).drop ((m - i) * z)) = [] := List.drop_eq_nil_of_le (by omega)
  rw [e4, hz, List.drop_append_of_le_length (by omega), e5, List.nil_append, List.append_assoc]
theorem del_elem {cs : List Value} {i j m z : Nat} (hl : cs.length = (m + 1) * z) (hi : i ≤ m) (hj : j < m) :
    ((cs.take (i * z) ++ cs.drop ((i + 1) * z)).drop (j * z)).take z = (cs.drop ((if j < i then j else j + 1) * z)).take z := by
  have h1 : (cs.take (i * z)).length = i * z := by
    rw [List.length_take, hl]
    have : i * z ≤ (m + 1) * z := Nat.mul_le_mul_right _ (by omega)
    omega
  by_cases h : j < i
  · rw [if_pos h]
    have hle : j * z + z ≤ i * z := by rw [← Nat.succ_mul]; exact Nat.mul_le_mul_right _ h
    rw [List.drop_append_of_le_length (by omega), List.take_append_of_le_length (by rw [List.length_drop, h1]; omega), List.drop_take, List.take_take]
    congr 1
    omega
  · rw [if_neg h, List.drop_append, List.drop_eq_nil_of_le (by rw [h1]; exact Nat.mul_le_mul_right _ (by omega)), List.nil_append, h1, List.drop_drop]
    congr 2
    have h2 : j * z = i * z + (j - i) * z := by rw [← Nat.add_mul]; congr 1; omega
    have h3 : (j + 1) * z = j * z + z := Nat.succ_mul j z
    have h4 : (i + 1) * z = i * z + z := Nat.succ_mul i z
    omega
/-- An element taken out of a row that is owned. -/
theorem Own.erased {α : Type} {d : Dt α} {e : Nat} {w w1 : World} {ok : Nat → Prop} {g cap m i : Nat} {xs : List α} {cs rest zs : List Value} (hl : cs.length = (m + 1) * d.sz) (hn : xs.length = m + 1) (hi : i ≤ m)
    (hrest : rest.length = (cap - (m + 1)) * d.sz) (hcap : m + 1 ≤ cap) (hc63 : cap ≤ 9223372036854775807) (hzl : zs.length = d.sz) (hg : ok g) (h1 : ∀ u ∈ cs, u.oneCell' = true)
    (hK : ∀ j x, xs[j]? = some x → d.K w (fun k => ok k ∧ (Value.slice (some ⟨g, 0, none⟩) (m + 1) cap).ownBlock ≠ some k) x ((cs.drop (j * d.sz)).take d.sz))
    (f : Only (fun k => k = g) w w1) (hB : Blk w1 g ((cs.take (i * d.sz) ++ cs.drop ((i + 1) * d.sz)) ++ (zs ++ rest)).toArray e) : Own d e w1 ok (.slice (some ⟨g, 0, none⟩) m cap) (xs.eraseIdx i) := by
  have hlen : (xs.eraseIdx i).length = m := by rw [List.length_eraseIdx, if_pos (by omega), hn]; rfl
  have hl2 : (cs.take (i * d.sz) ++ cs.drop ((i + 1) * d.sz)).length = m * d.sz := by
    have h2 : i * d.sz ≤ (m + 1) * d.sz := Nat.mul_le_mul_right _ (by omega)
    have h3 : (i + 1) * d.sz ≤ (m + 1) * d.sz := Nat.mul_le_mul_right _ (by omega)
    rw [List.length_append, List.length_take, List.length_drop, hl, Nat.min_eq_left h2, ← Nat.mul_sub_right_distrib, ← Nat.add_mul]
    congr 1
    omega
  refine ⟨cs.take (i * d.sz) ++ cs.drop ((i + 1) * d.sz), ?_, fun k hk => ?_, fun u hu => ?_, fun j x hx => ?_⟩
  · rw [hlen]
    refine ⟨hl2, .inr ⟨g, cap, zs ++ rest, rfl, by omega, hc63, ?_, hB⟩⟩
    rw [List.length_append, hzl, hrest]
    have : cap - m = (cap - (m + 1)) + 1 := by omega
    rw [this, Nat.add_mul, Nat.one_mul, Nat.add_comm]
  · have : g = k := by simpa [Value.ownBlock] using hk
    exact this ▸ hg
  · rcases List.mem_append.1 hu with hu | hu
    · exact h1 u (List.mem_of_mem_take hu)
    · exact h1 u (List.mem_of_mem_drop hu)
  · have hj : j < m := by have := (List.getElem?_eq_some_iff.1 hx).1; omega
    rw [del_elem hl hi hj]
    rw [List.getElem?_eraseIdx] at hx
    have hx' : xs[if j < i then j else j + 1]? = some x := by split <;> simp_all
    refine Dt.only (d := d) (hK _ x hx') f (fun k hk hok hl => ?_) |> d.mono (fun k hk => ⟨hk.1, fun e => hk.2 ?_⟩)
    · subst hl; exact hok.2 rfl
    · simpa [Value.ownBlock] using e
end Go.Proofs.YtgmjgdjobkmbgaaL
