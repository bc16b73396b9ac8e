/- append(nil, make(..)...): a new row of noughts. -/
import Derived.Test.YtgmjgdjobkmbgaaSl
set_option linter.unusedVariables false
set_option linter.unusedSimpArgs false
namespace Go.Proofs.YtgmjgdjobkmbgaaL
open Go.RowKit
theorem run_append_make {P : Program} {w : World} {t tx ty e : TypeId} {kx : IntKind} {i : TypeInfo} {zv : Value} (ht : ∀ w, (underlying t).run P w = .ok (.slice e) w) (hx : ∀ w, (underlying tx).run P w = .ok (.int kx) w)
    (hi : ∀ w, (typeInfo e).run P w = .ok i w) (hz : ∀ w, (zeroValue e).run P w = .ok zv w) (hzz : zv.cells.size = i.size) (hs : 0 < i.size)
    {n : Nat} (h0 : 0 < n) (hfit : n * i.bytes ≤ 140737488355328) (h63 : n ≤ 140737488355328) :
    ∃ (cap : Nat) (rest : List Value), n ≤ cap ∧ cap ≤ 9223372036854775807 ∧ rest.length = cap * i.size ∧ (Builtin.append_ #[t, tx] ty #[.slice none 0 0, .int .i64 n]).run P w =
      .ok (.slice (some ⟨w.heap.size, 0, none⟩) n cap) (w.drew.alloc (.cells rest.toArray e)) := by
  have hq : ∃ cap, n ≤ cap ∧ cap ≤ 9223372036854775807 ∧ cap = (Question.appendCap n 0 e).cut (w.tape w.drawn (.appendCap n 0 e)) := by
    refine ⟨_, ?_, ?_, rfl⟩
    · simp [Question.cut]
    · have hlt := Nat.mod_lt (w.tape w.drawn (.appendCap n 0 e)) (show 9223372036854775808 - n > 0 by omega)
      show n + (w.tape w.drawn (.appendCap n 0 e)) % (2 ^ 63 - n) ≤ 9223372036854775807
      simp only [show (2 : Nat) ^ 63 = 9223372036854775808 from rfl]
      omega
  obtain ⟨cap, hc1, hc2, hcap⟩ := hq
  have hsz : ∀ w, (sizeOf e).run P w = .ok i.size w := fun w => by simp [sizeOf, hi]
  have h63' : ¬ (9223372036854775807 < (n : Int)) := by omega
  have h48' : ¬ (281474976710656 < Builtin.nextslicecap n 0 * i.bytes) := by
    have := growslice_fits (need := n) (old := 0) (bytes := i.bytes) (by omega) hfit
    omega
  have h48 : ¬ (281474976710656 < (n : Int) * (i.bytes : Int)) := by
    have h1 : ((n * i.bytes : Nat) : Int) ≤ (140737488355328 : Nat) := Int.ofNat_le.2 hfit
    rw [Int.natCast_mul] at h1
    generalize (n : Int) * (i.bytes : Int) = m at h1
    omega
  have hn0 : ¬ (n : Int) < 0 := by omega
  have hw : IntKind.i64.wrap (n : Int) = n := wrap_i64 (by omega) (by omega)
  have hnz : ¬ (n * i.size = 0) := by
    have := Nat.mul_pos h0 hs
    omega
  have hnc : ¬ n = 0 := by omega
  have hsz0 : ¬ i.size = 0 := by omega
  refine ⟨cap, (Builtin.zeroCells zv.cells n).toList ++ (Builtin.zeroCells zv.cells (cap - n)).toList, hc1, hc2, ?_, ?_⟩
  · simp [Builtin.zeroCells, hzz]
    rw [← Nat.add_mul]
    congr 1
    omega
  · simp only [Builtin.append_]
    simp [ht, hx, hsz, hi, hz, asInt, asIntOf, hw, hn0, h48, hnc, hnz, hsz0, h63', h48', Question.forced, Builtin.firstCells, newRow, ← hcap]
    congr 2
    apply Array.toList_inj.1
    simp
theorem ef_appendMake {P : Program} {n0 : Nat} {ds : List Deferred} {l : List (Nat × Value)} {w : World} {dd : Option Tmp} {ty : TypeId} {p : String} {af : Array Edge} {gu : Option (Nat × Bool)} {x y : Operand} {t tx e : TypeId} {kx : IntKind} {i : TypeInfo} {zv : Value} (ht : ∀ w, (underlying t).run P w = .ok (.slice e) w) (hx : ∀ w, (underlying tx).run P w = .ok (.int kx) w)
    (hi : ∀ w, (typeInfo e).run P w = .ok i w) (hz : ∀ w, (zeroValue e).run P w = .ok zv w) (hzz : zv.cells.size = i.size) (hs : 0 < i.size) {n : Nat} (hvx : ev l x = some (.slice none 0 0)) (hvy : ev l y = some (.int .i64 n))
    (h0 : 0 < n) (hfit : n * i.bytes ≤ 140737488355328) (h63 : n ≤ 140737488355328) :
    Ef P n0 ds ⟨dd, .call { callee := .builtin .append, args := #[x, y], argTypes := #[t, tx] }, ty, p, af, gu⟩ l w (fun u w' => ∃ (b cap : Nat) (rest : List Value), b = w.heap.size ∧ u = .slice (some ⟨b, 0, none⟩) n cap ∧ n ≤ cap ∧ cap ≤ 9223372036854775807 ∧ rest.length = cap * i.size ∧ Same w w' ∧ Blk w' b rest.toArray e) := fun a ha K Q h => by
  obtain ⟨cap, rest, h1, h2, h3, hr⟩ := run_append_make (P := P) (w := w) (ty := ty) ht hx hi hz hzz hs h0 hfit h63
  have hr' : (execOp a.eval ⟨dd, .call { callee := .builtin .append, args := #[x, y], argTypes := #[t, tx] }, ty, p, af, gu⟩).run P w = .ok (.value (.slice (some ⟨w.heap.size, 0, none⟩) n cap)) (w.drew.alloc (.cells rest.toArray e)) := by
    simp only [execOp, resolve, invoke, builtin]
    simp [ha.eval hvx, ha.eval hvy, invoke, builtin, hr]
  simp only [Oper.wp, hr', Oper.upon]
  exact h _ _ ⟨_, cap, rest, rfl, rfl, h1, h2, h3, (Only.drew _ w).same (Only.alloc _ _ _), Blk.new w.drew _ _⟩
theorem ef_makeSlice {P : Program} {n0 : Nat} {ds : List Deferred} {l : List (Nat × Value)} {w : World} {dd : Option Tmp} {ty : TypeId} {p : String} {af : Array Edge} {gu : Option (Nat × Bool)} {x y : Operand} {t e : TypeId} {i : TypeInfo} {zv : Value} (ht : ∀ w, (underlying t).run P w = .ok (.slice e) w)
    (hi : ∀ w, (typeInfo e).run P w = .ok i w) (hz : ∀ w, (zeroValue e).run P w = .ok zv w) {k : Nat} (hvx : ev l x = some (.int .i64 k)) (hvy : ev l y = some (.int .i64 k)) (hk : k * i.size ≠ 0) (h63 : k ≤ 140737488355328) (hfit : i.bytes * k ≤ 140737488355328) :
    Ef P n0 ds ⟨dd, .makeSlice t x y, ty, p, af, gu⟩ l w (fun u w' => ∃ b, b = w.heap.size ∧ u = .slice (some ⟨b, 0, none⟩) k k ∧ Same w w' ∧ Blk w' b ((Array.range (k * i.size)).map (zv.cells[· % zv.cells.size]!)) e ∧ w'.heap.size = b + 1) := fun a ha K Q h => by
  have hw : IntKind.i64.wrap (k : Int) = k := wrap_i64 (by omega) (by omega)
  have hsz : ∀ w, (sizeOf e).run P w = .ok i.size w := fun w => by simp [sizeOf, hi]
  have h48 : ¬ ((i.bytes : Int) * (k : Int) > 281474976710656) := by
    have h1 : ((i.bytes * k : Nat) : Int) ≤ (140737488355328 : Nat) := Int.ofNat_le.2 hfit
    rw [Int.natCast_mul] at h1
    generalize (i.bytes : Int) * (k : Int) = m at h1
    omega
  have hr : (execOp a.eval ⟨dd, .makeSlice t x y, ty, p, af, gu⟩).run P w = .ok (.value (.slice (some ⟨w.heap.size, 0, none⟩) k k)) (w.alloc (.cells ((Array.range (k * i.size)).map (zv.cells[· % zv.cells.size]!)) e)) := by
    have hn0 : ¬ (k : Int) < 0 := by omega
    simp only [execOp, ha.eval hvx, ha.eval hvy, Instr.makeSlice]
    simp [ht, hi, hsz, hz, asInt, asIntOf, hw, hn0, h48, hk, newRow]
  simp only [Oper.wp, hr, Oper.upon]
  exact h _ _ ⟨_, rfl, rfl, Only.alloc _ _ _, Blk.new w _ _, by simp⟩
theorem ef_makeSlice1 {P : Program} {n0 : Nat} {ds : List Deferred} {l : List (Nat × Value)} {w : World} {dd : Option Tmp} {ty : TypeId} {p : String} {af : Array Edge} {gu : Option (Nat × Bool)} {x y : Operand} {t e : TypeId} {i : TypeInfo} {zv z : Value} (ht : ∀ w, (underlying t).run P w = .ok (.slice e) w)
    (hi : ∀ w, (typeInfo e).run P w = .ok i w) (hz : ∀ w, (zeroValue e).run P w = .ok zv w) (hs : i.size = 1) (hz1 : zv.cells = #[z]) {k : Nat} (hvx : ev l x = some (.int .i64 k)) (hvy : ev l y = some (.int .i64 k)) (hk : k ≠ 0) (h63 : k ≤ 140737488355328) (hfit : i.bytes * k ≤ 140737488355328) :
    Ef P n0 ds ⟨dd, .makeSlice t x y, ty, p, af, gu⟩ l w (fun u w' => ∃ b, b = w.heap.size ∧ u = .slice (some ⟨b, 0, none⟩) k k ∧ Same w w' ∧ Blk w' b (Array.replicate k z) e ∧ w'.heap.size = b + 1) := fun a ha K Q h =>
  ef_makeSlice (P := P) (n0 := n0) (ds := ds) (l := l) ht hi hz hvx hvy (by rw [hs]; omega) h63 hfit a ha K Q fun u w' ⟨b, h1, h2, h3, h4, h5⟩ => h u w' ⟨b, h1, h2, h3, by
    have e1 : (Array.range (k * i.size)).map (zv.cells[· % zv.cells.size]!) = Array.replicate k z := by
      rw [hs, hz1, Nat.mul_one]
      apply Array.ext
      · simp
      · intro j h1 h2
        simp [Nat.mod_one]
    rw [e1] at h4
    exact h4, h5⟩
end Go.Proofs.YtgmjgdjobkmbgaaL
