/- Memory: what a step leaves alone; blocks known whole; data that lie in memory. -/
import Derived.Test.YtgmjgdjobkmbgaaYi
set_option linter.unusedVariables false
set_option linter.unusedSimpArgs false
namespace Go.Proofs.YtgmjgdjobkmbgaaL
open Go.RowKit

/-! ### 7. frames -/
/-- Of the blocks that were there only those of L may have turned. -/
structure Only (L : Nat → Prop) (w w' : World) : Prop where
  os : w'.os = w.os
  tape : w'.tape = w.tape
  output : w'.output = w.output
  size : w.heap.size ≤ w'.heap.size
  block : ∀ k, k < w.heap.size → ¬ L k → w'.heap[k]? = w.heap[k]?
abbrev Same (w w' : World) : Prop := Only (fun _ => False) w w'
namespace Only
variable {L L' : Nat → Prop} {w w1 w2 : World}
theorem refl (L : Nat → Prop) (w : World) : Only L w w := ⟨rfl, rfl, rfl, Nat.le_refl _, fun _ _ _ => rfl⟩
theorem trans (h : Only L w w1) (k : Only L' w1 w2) (hL : ∀ i, i < w.heap.size → L' i → L i) : Only L w w2 :=
  ⟨k.os.trans h.os, k.tape.trans h.tape, k.output.trans h.output, Nat.le_trans h.size k.size, fun i hi hn =>
    (k.block i (Nat.lt_of_lt_of_le hi h.size) (fun hl => hn (hL i hi hl))).trans (h.block i hi hn)⟩
theorem then_ (h : Only L w w1) (k : Only L w1 w2) : Only L w w2 := h.trans k fun _ _ hl => hl
theorem same (h : Only L w w1) (k : Same w1 w2) : Only L w w2 := h.trans k fun _ _ hl => hl.elim
theorem mono (h : Only L w w1) (hL : ∀ i, i < w.heap.size → L i → L' i) : Only L' w w1 :=
  ⟨h.os, h.tape, h.output, h.size, fun i hi hn => h.block i hi fun hl => hn (hL i hi hl)⟩
theorem alloc (L : Nat → Prop) (w : World) (o : Obj) : Only L w (w.alloc o) := ⟨rfl, rfl, rfl, by simp, fun i hi _ => Below.heap_alloc w o i hi⟩
theorem drew (L : Nat → Prop) (w : World) : Only L w w.drew := ⟨rfl, rfl, rfl, Nat.le_refl _, fun _ _ _ => rfl⟩
theorem setCell (w : World) (a : Addr) (v : Value) : Only (fun k => k = a.block) w (w.setCell a v) :=
  ⟨rfl, rfl, rfl, by simp [World.setCell], fun i _ hn => Below.heap_setCell w a v i hn⟩
theorem grown {row : Option Nat} (h : w.grownBy w1 row) : Only (fun k => row = some k) w w1 :=
  ⟨h.os, h.tape, h.output, h.size, fun i hi hn => h.block i hi fun e => hn e.symm⟩
theorem below (h : Only L w w1) {B : Nat} (hB : ∀ k, k < B → ¬ L k) (hs : B ≤ w.heap.size) : Below B w w1 :=
  ⟨h.os, h.tape, h.output, h.size, fun k hk => h.block k (Nat.lt_of_lt_of_le hk hs) (hB k hk)⟩
theorem ofBelow {B : Nat} (h : Below B w w1) : Only (fun k => B ≤ k) w w1 := ⟨h.os, h.tape, h.output, h.size, fun k _ hn => h.block k (Nat.lt_of_not_le hn)⟩
theorem sameOf (h : Below w.heap.size w w1) : Same w w1 := ⟨h.os, h.tape, h.output, h.size, fun k hk _ => h.block k hk⟩
theorem belowOf (h : Same w w1) : Below w.heap.size w w1 := ⟨h.os, h.tape, h.output, h.size, fun k hk => h.block k hk (fun hl => hl)⟩
theorem cell (h : Only L w w1) {p : Addr} {v : Value} (hc : w.cell? p = some v) (hp : ¬ L p.block) : w1.cell? p = some v :=
  (World.cell?_of_block (h.block p.block (World.block_lt_of_cell? w p hc) hp)).trans hc
end Only

/-- A block known whole. -/
def Blk (w : World) (b : Nat) (cs : Array Value) (t : TypeId) : Prop := w.heap[b]? = some (.cells cs t (0, 0))
namespace Blk
variable {w w1 : World} {b : Nat} {cs : Array Value} {t : TypeId} {L : Nat → Prop}
theorem lt (h : Blk w b cs t) : b < w.heap.size := (Array.getElem?_eq_some_iff.1 h).1
theorem cell (h : Blk w b cs t) {i : Nat} {v : Value} (hv : cs[i]? = some v) : w.cell? ⟨b, i, none⟩ = some v := by
  have : w.heap[b]? = some (.cells cs t (0, 0)) := h
  simp [World.cell?, this, hv]
theorem frozen (h : Blk w b cs t) (i : Nat) : w.frozen? ⟨b, i, none⟩ = false := by
  have : w.heap[b]? = some (.cells cs t (0, 0)) := h
  simp [World.frozen?, this]
theorem only (h : Blk w b cs t) (f : Only L w w1) (hn : ¬ L b) : Blk w1 b cs t := (f.block b h.lt hn).trans h
theorem same (h : Blk w b cs t) (f : Same w w1) : Blk w1 b cs t := h.only f fun hl => hl
theorem new (w : World) (cs : Array Value) (t : TypeId) : Blk (w.alloc (.cells cs t)) w.heap.size cs t := heap_alloc_new w _
theorem set (h : Blk w b cs t) (i : Nat) (v : Value) : Blk (w.setCell ⟨b, i, none⟩ v) b (cs.setIfInBounds i v) t := by
  have h' : w.heap[b]? = some (.cells cs t (0, 0)) := h
  have hb := h.lt
  have h2 := (Array.getElem?_eq_some_iff.1 h').2
  show (w.heap.modify b _)[b]? = _
  simp [Array.getElem?_modify, h']
theorem ne {b' : Nat} {cs' : Array Value} {t' : TypeId} (h : Blk w b cs t) (h' : Blk w b' cs' t') (hne : t ≠ t') : b ≠ b' := by
  rintro rfl
  have e := Option.some.inj ((show w.heap[b]? = _ from h).symm.trans h')
  injection e with _ e2
  exact hne e2
end Blk
/-- Cells from place i on are written. -/
def putAll (cs : Array Value) : Nat → List Value → Array Value
  | _, [] => cs
  | i, v :: r => putAll (cs.setIfInBounds i v) (i + 1) r
theorem putAll_size (cs : Array Value) : ∀ (vs : List Value) (i : Nat), (putAll cs i vs).size = cs.size
  | [], _ => rfl
  | v :: r, i => by rw [putAll, putAll_size]; simp

section
variable {P : Program} {n : Nat} {ds : List Deferred} {l : List (Nat × Value)} {w : World} {d : Option Tmp} {ty : TypeId} {p : String} {af : Array Edge} {g : Option (Nat × Bool)}

/-! ### 8. loads -/
theorem yi_load1 {t : TypeId} {x : Operand} {A : Addr} {v : Value} (hA : ∀ w, (isAgg t).run P w = .ok false w) (hx : ev l x = some (.pointer (some A))) (hc : w.cell? A = some v) :
    Yi P n ds ⟨d, .load t x, ty, p, af, g⟩ l v w := fun a ha => by
  simp [execOp, ha.eval hx, Instr.loadAt, Instr.sureAddr, loadVar, hA, hc]
theorem yi_loadB {t t' : TypeId} {x : Operand} {b i : Nat} {cs : Array Value} {v : Value} (hA : ∀ w, (isAgg t).run P w = .ok false w) (hx : ev l x = some (.pointer (some ⟨b, i, none⟩))) (hB : Blk w b cs t') (hv : cs[i]? = some v) :
    Yi P n ds ⟨d, .load t x, ty, p, af, g⟩ l v w := yi_load1 hA hx (hB.cell hv)
theorem yi_loadA {t : TypeId} {x : Operand} {A : Addr} {k : Nat} {cs : List Value} (hA : ∀ w, (isAgg t).run P w = .ok true w) (hz : ∀ w, (sizeOf t).run P w = .ok k w) (hx : ev l x = some (.pointer (some A)))
    (hk : cs.length = k) (hc : ∀ i u, cs[i]? = some u → w.cell? (A.add i) = some u) :
    Yi P n ds ⟨d, .load t x, ty, p, af, g⟩ l (.agg cs.toArray) w := fun a ha => by
  subst hk
  simp [execOp, ha.eval hx, Instr.loadAt, Instr.sureAddr, loadVar, hA, hz, run_loadCells_list w A cs hc]
/-- A whole variable of several cells. -/
theorem yi_loadW {t t' : TypeId} {x : Operand} {b k : Nat} {cs : Array Value} (hA : ∀ w, (isAgg t).run P w = .ok true w) (hz : ∀ w, (sizeOf t).run P w = .ok k w) (hx : ev l x = some (.pointer (some ⟨b, 0, none⟩)))
    (hB : Blk w b cs t') (hk : cs.size = k) : Yi P n ds ⟨d, .load t x, ty, p, af, g⟩ l (.agg cs) w := by
  have := yi_loadA (P := P) (n := n) (ds := ds) (w := w) (l := l) (d := d) (ty := ty) (p := p) (af := af) (g := g) (cs := cs.toList) hA hz hx (by simpa using hk) (fun i u hu => by
    have e : (⟨b, 0, none⟩ : Addr).add i = ⟨b, i, none⟩ := by unfold Addr.add; split <;> simp_all
    rw [e]
    exact hB.cell (by simpa using hu))
  simpa using this

/-! ### 9. new variables, stores -/
/-- What a new variable leaves. -/
def IsNew (w : World) (cs : Array Value) (t : TypeId) (v : Value) (w' : World) : Prop :=
  ∃ b, b = w.heap.size ∧ v = .pointer (some ⟨b, 0, none⟩) ∧ Same w w' ∧ Blk w' b cs t ∧ w'.heap.size = b + 1
theorem isNew_alloc (w : World) (cs : Array Value) (t : TypeId) : IsNew w cs t (.pointer (some ⟨w.heap.size, 0, none⟩)) (w.alloc (.cells cs t)) :=
  ⟨_, rfl, rfl, Only.alloc _ w _, Blk.new w cs t, by simp⟩
theorem ef_alloc {t : TypeId} {z : Value} (hz : ∀ w, (zeroValue t).run P w = .ok z w) : Ef P n ds ⟨d, .alloc t, ty, p, af, g⟩ l w (IsNew w z.cells t) := fun a ha K Q h => by
  have hr : (execOp a.eval ⟨d, .alloc t, ty, p, af, g⟩).run P w = .ok (.value (.pointer (some ⟨w.heap.size, 0, none⟩))) (w.alloc (.cells z.cells t)) := by
    simp [execOp, Instr.alloc, hz, newVar, newRow]
  simp only [Oper.wp, hr, Oper.upon]
  exact h _ _ (isNew_alloc w _ t)
theorem ef_box {t : TypeId} {x : Operand} {v : Value} (hx : ev l x = some v) : Ef P n ds ⟨d, .box t x, ty, p, af, g⟩ l w (IsNew w v.cells t) := fun a ha K Q h => by
  have hr : (execOp a.eval ⟨d, .box t x, ty, p, af, g⟩).run P w = .ok (.value (.pointer (some ⟨w.heap.size, 0, none⟩))) (w.alloc (.cells v.cells t)) := by
    simp [execOp, Instr.box, newVar, newRow, ha.eval hx]
  simp only [Oper.wp, hr, Oper.upon]
  exact h _ _ (isNew_alloc w _ t)
/-- What a store into a block known whole leaves. -/
def IsSet (w : World) (b : Nat) (cs : Array Value) (t : TypeId) (w' : World) : Prop := Only (fun k => k = b) w w' ∧ Blk w' b cs t ∧ w'.heap.size = w.heap.size
theorem run_store_blk {w : World} {b i : Nat} {cs : Array Value} {t : TypeId} {v : Value} {m : Mode} (hB : Blk w b cs t) (hi : i < cs.size) (h1 : v.oneCell' = true) :
    (store ⟨b, i, none⟩ v m).run P w = .ok () (w.setCell ⟨b, i, none⟩ v) := by
  rw [run_store P w _ v m h1]
  have hc := hB.cell (i := i) (v := cs[i]) (by simp [hi])
  simp [stored, hc, hB.frozen i]
theorem run_storeCells_blk : ∀ (vs : List Value) (i j : Nat) (cs : Array Value) (w : World) (b : Nat) (t : TypeId), Blk w b cs t → i + j + vs.length ≤ cs.size → (∀ v ∈ vs, v.oneCell' = true) →
    ∃ w', (storeCells ⟨b, i, none⟩ vs j).run P w = .ok () w' ∧ IsSet w b (putAll cs (i + j) vs) t w'
  | [], i, j, cs, w, b, t, hB, _, _ => ⟨w, by simp [storeCells], Only.refl _ w, hB, rfl⟩
  | v :: r, i, j, cs, w, b, t, hB, hi, h1 => by
    simp only [List.length_cons] at hi
    have e : (⟨b, i, none⟩ : Addr).add j = ⟨b, i + j, none⟩ := by unfold Addr.add; split <;> simp_all
    have hs := run_store_blk (P := P) (m := .plain) hB (i := i + j) (v := v) (by omega) (h1 v (by simp))
    obtain ⟨w', hr, h2, h3, h4⟩ := run_storeCells_blk r i (j + 1) (cs.setIfInBounds (i + j) v) _ b t (hB.set (i + j) v) (by simp; omega) (fun u hu => h1 u (by simp [hu]))
    refine ⟨w', ?_, (Only.setCell w ⟨b, i + j, none⟩ v).then_ h2, ?_, h4.trans (by simp [World.setCell])⟩
    · simp only [storeCells, e]
      simp [hs, hr]
    · simpa [putAll, Nat.add_assoc] using h3
theorem ef_store {t t' : TypeId} {x y : Operand} {b i k : Nat} {cs : Array Value} {v : Value} (hz : ∀ w, (sizeOf t).run P w = .ok k w) (hx : ev l x = some (.pointer (some ⟨b, i, none⟩))) (hy : ev l y = some v) (hB : Blk w b cs t')
    (hk : v.cells.size = k) (hi : Nat.ble (i + k) cs.size = true) (h1 : v.cells.toList.all (·.oneCell') = true) :
    Ef P n ds ⟨d, .store t x y, ty, p, af, g⟩ l w (fun u w' => u = undef ∧ IsSet w b (putAll cs i v.cells.toList) t' w') := fun a ha K Q h => by
  obtain ⟨w', hr, hS⟩ := run_storeCells_blk (P := P) v.cells.toList i 0 cs w b t' hB (by have := Nat.le_of_ble_eq_true hi; simp; omega) (fun u hu => List.all_eq_true.1 h1 u hu)
  have hr' : (execOp a.eval ⟨d, .store t x y, ty, p, af, g⟩).run P w = .ok .skip w' := by
    simp [execOp, ha.eval hx, ha.eval hy, Instr.storeAt, Instr.sureAddr, storeVar, hz, hk, hr]
  simp only [Oper.wp, hr', Oper.upon]
  exact h _ _ ⟨rfl, by simpa using hS⟩
end
end Go.Proofs.YtgmjgdjobkmbgaaL
