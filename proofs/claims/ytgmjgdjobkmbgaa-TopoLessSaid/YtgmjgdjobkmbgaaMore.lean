/- More operations: sums in range, addresses of elements, cuts, struct values. -/
import Derived.Test.YtgmjgdjobkmbgaaCall
set_option linter.unusedVariables false
set_option linter.unusedSimpArgs false
namespace Go.Proofs.YtgmjgdjobkmbgaaL
open Go.RowKit
section
variable {P : Program} {n : Nat} {ds : List Deferred} {l : List (Nat × Value)} {w : World} {d : Option Tmp} {ty : TypeId} {p : String} {af : Array Edge} {g : Option (Nat × Bool)}
theorem wrap_i64 {i : Int} (lo : -9223372036854775808 ≤ i) (hi : i ≤ 9223372036854775807) : IntKind.i64.wrap i = i := by
  rw [IntKind.wrap_i64]; omega
theorem yi_addI {t t' : TypeId} {x y : Operand} {i j : Int} (hx : ev l x = some (.int .i64 i)) (hy : ev l y = some (.int .i64 j)) (lo : -9223372036854775808 ≤ i + j) (hi : i + j ≤ 9223372036854775807) :
    Yi P n ds ⟨d, .binOp .add t x y t', ty, p, af, g⟩ l (.int .i64 (i + j)) w := by
  have := yi_add (P := P) (n := n) (ds := ds) (w := w) (d := d) (ty := ty) (p := p) (af := af) (g := g) (t := t) (t' := t') hx hy
  rwa [wrap_i64 lo hi] at this
theorem yi_subI {t t' : TypeId} {x y : Operand} {i j : Int} (hx : ev l x = some (.int .i64 i)) (hy : ev l y = some (.int .i64 j)) (lo : -9223372036854775808 ≤ i - j) (hi : i - j ≤ 9223372036854775807) :
    Yi P n ds ⟨d, .binOp .sub t x y t', ty, p, af, g⟩ l (.int .i64 (i - j)) w := by
  have := yi_sub (P := P) (n := n) (ds := ds) (w := w) (d := d) (ty := ty) (p := p) (af := af) (g := g) (t := t) (t' := t') hx hy
  rwa [wrap_i64 lo hi] at this
theorem yi_mulI {t t' : TypeId} {x y : Operand} {i j : Int} (hx : ev l x = some (.int .i64 i)) (hy : ev l y = some (.int .i64 j)) (lo : -9223372036854775808 ≤ i * j) (hi : i * j ≤ 9223372036854775807) :
    Yi P n ds ⟨d, .binOp .mul t x y t', ty, p, af, g⟩ l (.int .i64 (i * j)) w := by
  have := yi_mul (P := P) (n := n) (ds := ds) (w := w) (d := d) (ty := ty) (p := p) (af := af) (g := g) (t := t) (t' := t') hx hy
  rwa [wrap_i64 lo hi] at this
theorem yi_quo {t t' : TypeId} {x y : Operand} {k : IntKind} {i j : Int} (hj : j ≠ 0) (hx : ev l x = some (.int k i)) (hy : ev l y = some (.int k j)) : Yi P n ds ⟨d, .binOp .quo t x y t', ty, p, af, g⟩ l (.int k (k.wrap (i.tdiv j))) w := fun a ha => by
  simp [execOp, ha.eval hx, ha.eval hy, eqGuard, binOp, Op.intDiv, hj]
theorem yi_rem {t t' : TypeId} {x y : Operand} {k : IntKind} {i j : Int} (hj : j ≠ 0) (hx : ev l x = some (.int k i)) (hy : ev l y = some (.int k j)) : Yi P n ds ⟨d, .binOp .rem t x y t', ty, p, af, g⟩ l (.int k (i.tmod j)) w := fun a ha => by
  simp [execOp, ha.eval hx, ha.eval hy, eqGuard, binOp, Op.intDiv, hj]
theorem yi_makeFunc {f : FuncId} {fs cs : Array Operand} {us vs : List Value} (h1 : evs l fs.toList = some us) (h2 : evs l cs.toList = some vs) :
    Yi P n ds ⟨d, .makeFunc (.func f) fs cs, ty, p, af, g⟩ l (.func (.func f) us.toArray vs.toArray) w := fun a ha => by
  have e1 : fs.map a.eval = us.toArray := by
    apply Array.toList_inj.1
    simpa using ha.evals h1
  have e2 : cs.map a.eval = vs.toArray := by
    apply Array.toList_inj.1
    simpa using ha.evals h2
  simp [execOp, Instr.makeFunc, e1, e2]
theorem yi_field1 {s : TypeId} {x : Operand} {i : Nat} {fs : Array Field} {f : Field} {cs : Array Value} {v : Value} (ht : ∀ w, (underlying s).run P w = .ok (.struct fs) w) (hf : fs[i]? = some f) (hA : ∀ w, (isAgg f.type).run P w = .ok false w)
    (hx : ev l x = some (.agg cs)) (hv : cs[f.offset]? = some v) : Yi P n ds ⟨d, .field s x i, ty, p, af, g⟩ l v w := fun a ha => by
  simp [execOp, ha.eval hx, Instr.field, ht, hf, asAgg, part, hA, hv]
theorem yi_fieldA {s : TypeId} {x : Operand} {i k : Nat} {fs : Array Field} {f : Field} {cs : Array Value} (ht : ∀ w, (underlying s).run P w = .ok (.struct fs) w) (hf : fs[i]? = some f) (hA : ∀ w, (isAgg f.type).run P w = .ok true w)
    (hz : ∀ w, (sizeOf f.type).run P w = .ok k w) (hx : ev l x = some (.agg cs)) : Yi P n ds ⟨d, .field s x i, ty, p, af, g⟩ l (.agg (cs.extract f.offset (f.offset + k))) w := fun a ha => by
  simp [execOp, ha.eval hx, Instr.field, ht, hf, asAgg, part, hA, hz]
/-- The address of an element. -/
theorem yi_indexAddr {t e : TypeId} {x y : Operand} {k : IntKind} {z m c : Nat} {i : Int} {A : Addr} (ht : ∀ w, (underlying t).run P w = .ok (.slice e) w) (hz : ∀ w, (sizeOf e).run P w = .ok z w)
    (hx : ev l x = some (.slice (some A) m c)) (hy : ev l y = some (.int k i)) (h0 : 0 ≤ i) (h1 : i < m) : Yi P n ds ⟨d, .indexAddr t x y, ty, p, af, g⟩ l (.pointer (some (A.add (i.toNat * z)))) w := fun a ha => by
  simp [execOp, ha.eval hx, ha.eval hy, Instr.indexAt, ht, hz, asIntOf, h0, h1]
theorem yi_indexAddrArr {t e : TypeId} {x y : Operand} {k : IntKind} {z m : Nat} {i : Int} {A : Addr} (ht : ∀ w, (underlying t).run P w = .ok (.array m e) w) (hz : ∀ w, (sizeOf e).run P w = .ok z w)
    (hx : ev l x = some (.pointer (some A))) (hy : ev l y = some (.int k i)) (h0 : 0 ≤ i) (h1 : i < m) : Yi P n ds ⟨d, .indexAddr t x y, ty, p, af, g⟩ l (.pointer (some (A.add (i.toNat * z)))) w := fun a ha => by
  simp [execOp, ha.eval hx, ha.eval hy, Instr.indexAt, ht, hz, asIntOf, h0, h1, Instr.sureAddr]

/-! #### cuts -/
/-- Where a cut's head lies. -/
def cutA (A : Option Addr) (lo cap z : Nat) : Option Addr := if cap = lo then A else A.map (·.add (lo * z))
theorem yi_slice010 {t e : TypeId} {x hi : Operand} {k : IntKind} {z m c : Nat} {j : Int} {A : Option Addr} (ht : ∀ w, (underlying t).run P w = .ok (.slice e) w) (hz : ∀ w, (sizeOf e).run P w = .ok z w)
    (hx : ev l x = some (.slice A m c)) (hh : ev l hi = some (.int k j)) (h0 : 0 ≤ j) (h1 : j ≤ c) : Yi P n ds ⟨d, .slice t x none (some hi) none, ty, p, af, g⟩ l (.slice A j.toNat c) w := fun a ha => by
  simp [execOp, ha.eval hx, ha.eval hh, Instr.sliceAt, Instr.slice, Instr.sliceBounds, Instr.sliceBound, ht, hz, asIntOf, h0, h1]
  intro _
  cases A <;> simp [Addr.add]
theorem yi_slice100 {t e : TypeId} {x lo : Operand} {k : IntKind} {z m c : Nat} {i : Int} {A : Option Addr} (ht : ∀ w, (underlying t).run P w = .ok (.slice e) w) (hz : ∀ w, (sizeOf e).run P w = .ok z w)
    (hx : ev l x = some (.slice A m c)) (hl : ev l lo = some (.int k i)) (h0 : 0 ≤ i) (h1 : i ≤ m) : Yi P n ds ⟨d, .slice t x (some lo) none none, ty, p, af, g⟩ l (.slice (cutA A i.toNat c z) (m - i.toNat) (c - i.toNat)) w := fun a ha => by
  simp [execOp, ha.eval hx, ha.eval hl, Instr.sliceAt, Instr.slice, Instr.sliceBounds, Instr.sliceBound, ht, hz, asIntOf, h0, h1, cutA]
theorem yi_slice000 {t e : TypeId} {x : Operand} {z m c : Nat} {A : Option Addr} (ht : ∀ w, (underlying t).run P w = .ok (.slice e) w) (hz : ∀ w, (sizeOf e).run P w = .ok z w)
    (hx : ev l x = some (.slice A m c)) : Yi P n ds ⟨d, .slice t x none none none, ty, p, af, g⟩ l (.slice A m c) w := fun a ha => by
  simp [execOp, ha.eval hx, Instr.sliceAt, Instr.slice, Instr.sliceBounds, Instr.sliceBound, ht, hz, asIntOf]
  intro _
  cases A <;> simp [Addr.add]
theorem yi_slice110 {t e : TypeId} {x lo hi : Operand} {k k' : IntKind} {z m c : Nat} {i j : Int} {A : Option Addr} (ht : ∀ w, (underlying t).run P w = .ok (.slice e) w) (hz : ∀ w, (sizeOf e).run P w = .ok z w)
    (hx : ev l x = some (.slice A m c)) (hl : ev l lo = some (.int k i)) (hh : ev l hi = some (.int k' j)) (h0 : 0 ≤ i) (h1 : i ≤ j) (h2 : j ≤ c) : Yi P n ds ⟨d, .slice t x (some lo) (some hi) none, ty, p, af, g⟩ l (.slice (cutA A i.toNat c z) (j.toNat - i.toNat) (c - i.toNat)) w := fun a ha => by
  obtain ⟨i, rfl⟩ := Int.eq_ofNat_of_zero_le h0
  obtain ⟨j, rfl⟩ := Int.eq_ofNat_of_zero_le (show 0 ≤ j by omega)
  have h1' : i ≤ j := by omega
  have h2' : j ≤ c := by omega
  simp [execOp, ha.eval hx, ha.eval hl, ha.eval hh, Instr.sliceAt, Instr.slice, Instr.sliceBounds, Instr.sliceBound, ht, hz, asIntOf, h1', h2', cutA]
theorem yi_slice011 {t e : TypeId} {x hi mx : Operand} {k k' : IntKind} {z m c : Nat} {j q : Int} {A : Option Addr} (ht : ∀ w, (underlying t).run P w = .ok (.slice e) w) (hz : ∀ w, (sizeOf e).run P w = .ok z w)
    (hx : ev l x = some (.slice A m c)) (hh : ev l hi = some (.int k j)) (hm : ev l mx = some (.int k' q)) (h0 : 0 ≤ j) (h1 : j ≤ q) (h2 : q ≤ c) : Yi P n ds ⟨d, .slice t x none (some hi) (some mx), ty, p, af, g⟩ l (.slice A j.toNat q.toNat) w := fun a ha => by
  obtain ⟨j, rfl⟩ := Int.eq_ofNat_of_zero_le h0
  obtain ⟨q, rfl⟩ := Int.eq_ofNat_of_zero_le (show 0 ≤ q by omega)
  have h1' : j ≤ q := by omega
  have h2' : q ≤ c := by omega
  simp [execOp, ha.eval hx, ha.eval hm, ha.eval hh, Instr.sliceAt, Instr.slice, Instr.sliceBounds, Instr.sliceBound, ht, hz, asIntOf, h1', h2']
  try (intro _)
  try (cases A <;> simp [Addr.add])
theorem yi_slice111 {t e : TypeId} {x lo hi mx : Operand} {k k' k'' : IntKind} {z m c : Nat} {i j q : Int} {A : Option Addr} (ht : ∀ w, (underlying t).run P w = .ok (.slice e) w) (hz : ∀ w, (sizeOf e).run P w = .ok z w)
    (hx : ev l x = some (.slice A m c)) (hl : ev l lo = some (.int k i)) (hh : ev l hi = some (.int k' j)) (hm : ev l mx = some (.int k'' q)) (h0 : 0 ≤ i) (h1 : i ≤ j) (h2 : j ≤ q) (h3 : q ≤ c) :
    Yi P n ds ⟨d, .slice t x (some lo) (some hi) (some mx), ty, p, af, g⟩ l (.slice (cutA A i.toNat q.toNat z) (j.toNat - i.toNat) (q.toNat - i.toNat)) w := fun a ha => by
  obtain ⟨i, rfl⟩ := Int.eq_ofNat_of_zero_le h0
  obtain ⟨j, rfl⟩ := Int.eq_ofNat_of_zero_le (show 0 ≤ j by omega)
  obtain ⟨q, rfl⟩ := Int.eq_ofNat_of_zero_le (show 0 ≤ q by omega)
  have h1' : i ≤ j := by omega
  have h2' : j ≤ q := by omega
  have h3' : q ≤ c := by omega
  simp [execOp, ha.eval hx, ha.eval hl, ha.eval hm, ha.eval hh, Instr.sliceAt, Instr.slice, Instr.sliceBounds, Instr.sliceBound, ht, hz, asIntOf, h1', h2', h3', cutA]

/-! #### struct values -/
def evp (l : List (Nat × Value)) : List (Nat × Operand) → Option (List (Nat × Value))
  | [] => some []
  | (i, x) :: r => match ev l x, evp l r with
    | some v, some vs => some ((i, v) :: vs)
    | _, _ => none
end
theorem Env.evalp {n : Nat} {ds : List Deferred} {l : List (Nat × Value)} {a : Act} (h : Env n ds l a) : ∀ {xs : List (Nat × Operand)} {vs : List (Nat × Value)}, evp l xs = some vs → xs.map (fun q => (q.1, a.eval q.2)) = vs
  | [], vs, hx => by simpa [evp] using hx
  | (i, x) :: r, vs, hx => by
    simp only [evp] at hx
    split at hx
    · rename_i v us h1 h2
      injection hx with hx
      subst hx
      simp [h.eval h1, h.evalp h2]
    · cases hx
section
variable {P : Program} {n : Nat} {ds : List Deferred} {l : List (Nat × Value)} {w : World} {d : Option Tmp} {ty : TypeId} {p : String} {af : Array Edge} {g : Option (Nat × Bool)}
/-- A struct literal: its cells told by one closed run ('rfl'). -/
theorem yi_build {t : TypeId} {ps : Array (Nat × Operand)} {qs : List (Nat × Value)} {v : Value} (hq : evp l ps.toList = some qs) (hr : ∀ w, (Instr.build t qs.toArray).run P w = .ok v w) :
    Yi P n ds ⟨d, .build t ps, ty, p, af, g⟩ l v w := fun a ha => by
  have e : ps.map (fun q => (q.1, a.eval q.2)) = qs.toArray := by
    apply Array.toList_inj.1
    simp only [Array.toList_map]
    exact ha.evalp hq
  simp only [execOp]
  have : (Instr.build t (ps.map fun x => match x with | (i, x) => (i, a.eval x))).run P w = .ok v w := by
    have e2 : (ps.map fun x => match x with | (i, x) => (i, a.eval x)) = ps.map (fun q => (q.1, a.eval q.2)) := rfl
    rw [e2, e]
    exact hr w
  simp [this]
end
section
variable {P : Program} {n : Nat} {ds : List Deferred} {l : List (Nat × Value)} {w : World} {d : Option Tmp} {ty : TypeId} {p : String} {af : Array Edge} {g : Option (Nat × Bool)}
/-- The cells of a struct literal. -/
def bldF (fs : Array Field) (z : Array Value) : List (Nat × Value) → Array Value
  | [] => z
  | (i, v) :: r => bldF fs (match fs[i]? with | some f => putAll z f.offset v.cells.toList | none => z) r
theorem yi_buildS {t : TypeId} {ps : Array (Nat × Operand)} {qs : List (Nat × Value)} {fs : Array Field} {z : Array Value} (ht : ∀ w, (underlying t).run P w = .ok (.struct fs) w) (hz : ∀ w, (zeroValue t).run P w = .ok (.agg z) w)
    (hq : evp l ps.toList = some qs) (hr : ∀ w, (Instr.build t qs.toArray).run P w = .ok (.agg (bldF fs z qs)) w) :
    Yi P n ds ⟨d, .build t ps, ty, p, af, g⟩ l (.agg (bldF fs z qs)) w := yi_build hq hr
def bldR (k : Nat) (z : Array Value) : List (Nat × Value) → Array Value
  | [] => z
  | (i, v) :: r => bldR k (putAll z (i * k) v.cells.toList) r
theorem yi_buildArr {t e : TypeId} {ps : Array (Nat × Operand)} {qs : List (Nat × Value)} {m k : Nat} {z : Array Value} (ht : ∀ w, (underlying t).run P w = .ok (.array m e) w) (hk : ∀ w, (sizeOf e).run P w = .ok k w) (hz : ∀ w, (zeroValue t).run P w = .ok (.agg z) w)
    (hq : evp l ps.toList = some qs) (hr : ∀ w, (Instr.build t qs.toArray).run P w = .ok (.agg (bldR k z qs)) w) :
    Yi P n ds ⟨d, .build t ps, ty, p, af, g⟩ l (.agg (bldR k z qs)) w := yi_build hq hr
def repl (z : Array Value) : Nat → Array Value
  | 0 => #[]
  | k + 1 => z ++ repl z k
/-- What a slice literal leaves. -/
def IsRow (w : World) (cs : Array Value) (e : TypeId) (m : Nat) (v : Value) (w' : World) : Prop :=
  ∃ b, b = w.heap.size ∧ v = .slice (some ⟨b, 0, none⟩) m m ∧ Same w w' ∧ Blk w' b cs e ∧ w'.heap.size = b + 1
theorem ef_buildSlice {t e : TypeId} {m k : Nat} {ps : Array (Nat × Operand)} {qs : List (Nat × Value)} {z : Value} (ht : ∀ w, (underlying t).run P w = .ok (.slice e) w) (hk : ∀ w, (sizeOf e).run P w = .ok k w) (hz : ∀ w, (zeroValue e).run P w = .ok z w)
    (hq : evp l ps.toList = some qs)
    (hr : ∀ w, (Instr.buildSlice t m qs.toArray).run P w = .ok (.slice (some ⟨w.heap.size, 0, none⟩) m m) (w.alloc (.cells (bldR k (repl z.cells m) qs) e))) :
    Ef P n ds ⟨d, .buildSlice t m ps, ty, p, af, g⟩ l w (IsRow w (bldR k (repl z.cells m) qs) e m) := fun a ha K Q h => by
  have e1 : ps.map (fun q => (q.1, a.eval q.2)) = qs.toArray := by
    apply Array.toList_inj.1
    simp only [Array.toList_map]
    exact ha.evalp hq
  have hr' : (execOp a.eval ⟨d, .buildSlice t m ps, ty, p, af, g⟩).run P w = .ok (.value (.slice (some ⟨w.heap.size, 0, none⟩) m m)) (w.alloc (.cells (bldR k (repl z.cells m) qs) e)) := by
    simp only [execOp]
    have : (Instr.buildSlice t m (ps.map fun x => match x with | (i, x) => (i, a.eval x))).run P w = .ok (.slice (some ⟨w.heap.size, 0, none⟩) m m) (w.alloc (.cells (bldR k (repl z.cells m) qs) e)) := by
      have e2 : (ps.map fun x => match x with | (i, x) => (i, a.eval x)) = ps.map (fun q => (q.1, a.eval q.2)) := rfl
      rw [e2, e1]
      exact hr w
    simp [this]
  simp only [Oper.wp, hr', Oper.upon]
  exact h _ _ ⟨_, rfl, rfl, Only.alloc _ w _, Blk.new w _ e, by simp⟩
end
section
variable {P : Program} {ops : Array Oper} {Q : Exit → Act → World → Prop} {S : World → Prop} {m : Nat} {n : Nat} {ds : List Deferred} {l : List (Nat × Value)} {w : World}
/-- An operation that is met as the only one, and turns nothing. -/
theorem PL.yy {i : Nat} {o : Oper} {plan : List (Nat × Bool)} {v : Value} (ho : ops[i]? = some o) (hg : o.guard = none) (hd : dOK n o.dst = true) (hy : Yi P n ds o l v w) (hS : S w)
    (h : PL P ops Q S m n ds plan (ext l o.dst v) w) : PL P ops Q S m n ds ((i, false) :: plan) l w := fun a ha => by
  have hw : Region.wanted o (yielded ops a.tmps) = true := by simp [Region.wanted, hg]
  simp only [wpPlan, wpOp, ho, hw, if_true]
  refine .inl ?_
  simp only [Oper.wp, hy a ha, Oper.upon]
  exact ⟨fun _ => hS, h _ (ha.put hd v)⟩
end
end Go.Proofs.YtgmjgdjobkmbgaaL
