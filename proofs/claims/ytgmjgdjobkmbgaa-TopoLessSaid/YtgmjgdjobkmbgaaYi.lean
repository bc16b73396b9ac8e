/- What each kind of operation yields. -/
import Derived.Test.YtgmjgdjobkmbgaaOps
set_option linter.unusedVariables false
set_option linter.unusedSimpArgs false
namespace Go.Proofs.YtgmjgdjobkmbgaaL
open Go.RowKit

section
variable {P : Program} {n : Nat} {ds : List Deferred} {l : List (Nat × Value)} {w : World} {d : Option Tmp} {ty : TypeId} {p : String} {af : Array Edge} {g : Option (Nat × Bool)}
theorem yi_move {x : Operand} {v : Value} (hx : ev l x = some v) : Yi P n ds ⟨d, .move x, ty, p, af, g⟩ l v w := fun a ha => by
  simp [execOp, ha.eval hx]
theorem yi_assign {x : Operand} {v : Value} (hx : ev l x = some v) : Yi P n ds ⟨d, .assign x, ty, p, af, g⟩ l v w := fun a ha => by
  simp [execOp, ha.eval hx]
theorem yi_pick {c x y : Operand} {b : Bool} {v u : Value} (hc : ev l c = some (.bool b)) (hx : ev l x = some v) (hy : ev l y = some u) : Yi P n ds ⟨d, .pick c x y, ty, p, af, g⟩ l (bif b then v else u) w := fun a ha => by
  cases b <;> simp [execOp, ha.eval hc, ha.eval hx, ha.eval hy, asBool]
theorem yi_pickT {c x y : Operand} {v : Value} (hc : ev l c = some (.bool true)) (hx : ev l x = some v) : Yi P n ds ⟨d, .pick c x y, ty, p, af, g⟩ l v w := fun a ha => by
  simp [execOp, ha.eval hc, ha.eval hx, asBool]
theorem yi_pickF {c x y : Operand} {v : Value} (hc : ev l c = some (.bool false)) (hx : ev l y = some v) : Yi P n ds ⟨d, .pick c x y, ty, p, af, g⟩ l v w := fun a ha => by
  simp [execOp, ha.eval hc, ha.eval hx, asBool]
theorem yi_nilCheck {x : Operand} {b : Addr} (hx : ev l x = some (.pointer (some b))) : Yi P n ds ⟨d, .nilCheck x, ty, p, af, g⟩ l (.pointer (some b)) w := fun a ha => by
  simp [execOp, ha.eval hx]
theorem yi_nilCheckF {x : Operand} {f : FuncId} {fs cs : Array Value} (hx : ev l x = some (.func (.func f) fs cs)) : Yi P n ds ⟨d, .nilCheck x, ty, p, af, g⟩ l (.func (.func f) fs cs) w := fun a ha => by
  simp [execOp, ha.eval hx]
theorem yi_extract {x : Operand} {i : Nat} {vs : Array Value} {v : Value} (hx : ev l x = some (.tuple vs)) (hv : vs[i]? = some v) : Yi P n ds ⟨d, .extract x i, ty, p, af, g⟩ l v w := fun a ha => by
  simp [execOp, ha.eval hx, Instr.extract, hv]
theorem yi_not {t : TypeId} {x : Operand} {b : Bool} (hx : ev l x = some (.bool b)) : Yi P n ds ⟨d, .unOp .not t x, ty, p, af, g⟩ l (.bool (!b)) w := fun a ha => by
  simp [execOp, ha.eval hx, Op.unary]
theorem yi_notP {t : TypeId} {x : Operand} {q : Prop} [Decidable q] (hx : ev l x = some (.bool (decide q))) : Yi P n ds ⟨d, .unOp .not t x, ty, p, af, g⟩ l (.bool (decide (¬ q))) w := fun a ha => by
  simp [execOp, ha.eval hx, Op.unary]

/-! #### integers -/
theorem yi_add {t t' : TypeId} {x y : Operand} {k : IntKind} {i j : Int} (hx : ev l x = some (.int k i)) (hy : ev l y = some (.int k j)) : Yi P n ds ⟨d, .binOp .add t x y t', ty, p, af, g⟩ l (.int k (k.wrap (i + j))) w := fun a ha => by
  simp [execOp, ha.eval hx, ha.eval hy, eqGuard, binOp, Op.intArith]
theorem yi_sub {t t' : TypeId} {x y : Operand} {k : IntKind} {i j : Int} (hx : ev l x = some (.int k i)) (hy : ev l y = some (.int k j)) : Yi P n ds ⟨d, .binOp .sub t x y t', ty, p, af, g⟩ l (.int k (k.wrap (i - j))) w := fun a ha => by
  simp [execOp, ha.eval hx, ha.eval hy, eqGuard, binOp, Op.intArith]
theorem yi_mul {t t' : TypeId} {x y : Operand} {k : IntKind} {i j : Int} (hx : ev l x = some (.int k i)) (hy : ev l y = some (.int k j)) : Yi P n ds ⟨d, .binOp .mul t x y t', ty, p, af, g⟩ l (.int k (k.wrap (i * j))) w := fun a ha => by
  simp [execOp, ha.eval hx, ha.eval hy, eqGuard, binOp, Op.intArith]
theorem yi_lss {t t' : TypeId} {x y : Operand} {k : IntKind} {i j : Int} (hx : ev l x = some (.int k i)) (hy : ev l y = some (.int k j)) : Yi P n ds ⟨d, .binOp .lss t x y t', ty, p, af, g⟩ l (.bool (decide (i < j))) w := fun a ha => by
  simp [execOp, ha.eval hx, ha.eval hy, eqGuard, binOp, Op.intCmp]
theorem yi_leq {t t' : TypeId} {x y : Operand} {k : IntKind} {i j : Int} (hx : ev l x = some (.int k i)) (hy : ev l y = some (.int k j)) : Yi P n ds ⟨d, .binOp .leq t x y t', ty, p, af, g⟩ l (.bool (decide (i ≤ j))) w := fun a ha => by
  simp [execOp, ha.eval hx, ha.eval hy, eqGuard, binOp, Op.intCmp]
theorem yi_gtr {t t' : TypeId} {x y : Operand} {k : IntKind} {i j : Int} (hx : ev l x = some (.int k i)) (hy : ev l y = some (.int k j)) : Yi P n ds ⟨d, .binOp .gtr t x y t', ty, p, af, g⟩ l (.bool (decide (j < i))) w := fun a ha => by
  simp [execOp, ha.eval hx, ha.eval hy, eqGuard, binOp, Op.intCmp]
theorem yi_geq {t t' : TypeId} {x y : Operand} {k : IntKind} {i j : Int} (hx : ev l x = some (.int k i)) (hy : ev l y = some (.int k j)) : Yi P n ds ⟨d, .binOp .geq t x y t', ty, p, af, g⟩ l (.bool (decide (j ≤ i))) w := fun a ha => by
  simp [execOp, ha.eval hx, ha.eval hy, eqGuard, binOp, Op.intCmp]
theorem int_beq (i j : Int) : (i == j) = decide (i = j) := by
  by_cases h : i = j <;> simp [h]
theorem yi_eql {t t' : TypeId} {x y : Operand} {k : IntKind} {i j : Int} (hx : ev l x = some (.int k i)) (hy : ev l y = some (.int k j)) : Yi P n ds ⟨d, .binOp .eql t x y t', ty, p, af, g⟩ l (.bool (decide (i = j))) w := fun a ha => by
  simp [execOp, ha.eval hx, ha.eval hy, eqGuard, binOp, Op.intCmp, int_beq]
theorem yi_neq {t t' : TypeId} {x y : Operand} {k : IntKind} {i j : Int} (hx : ev l x = some (.int k i)) (hy : ev l y = some (.int k j)) : Yi P n ds ⟨d, .binOp .neq t x y t', ty, p, af, g⟩ l (.bool (decide (i ≠ j))) w := fun a ha => by
  simp [execOp, ha.eval hx, ha.eval hy, eqGuard, binOp, Op.intCmp, bne, int_beq]
theorem yi_and {t t' : TypeId} {x y : Operand} {k : IntKind} {i j : Int} (hx : ev l x = some (.int k i)) (hy : ev l y = some (.int k j)) : Yi P n ds ⟨d, .binOp .and t x y t', ty, p, af, g⟩ l (.int k (k.wrap ((BitVec.ofInt k.bits i &&& BitVec.ofInt k.bits j).toNat : Int))) w := fun a ha => by
  simp only [execOp, ha.eval hx, ha.eval hy, eqGuard, binOp, Op.intBits]
  simp
theorem yi_or {t t' : TypeId} {x y : Operand} {k : IntKind} {i j : Int} (hx : ev l x = some (.int k i)) (hy : ev l y = some (.int k j)) : Yi P n ds ⟨d, .binOp .or t x y t', ty, p, af, g⟩ l (.int k (k.wrap ((BitVec.ofInt k.bits i ||| BitVec.ofInt k.bits j).toNat : Int))) w := fun a ha => by
  simp only [execOp, ha.eval hx, ha.eval hy, eqGuard, binOp, Op.intBits]
  simp
theorem yi_xor {t t' : TypeId} {x y : Operand} {k : IntKind} {i j : Int} (hx : ev l x = some (.int k i)) (hy : ev l y = some (.int k j)) : Yi P n ds ⟨d, .binOp .xor t x y t', ty, p, af, g⟩ l (.int k (k.wrap ((BitVec.ofInt k.bits i ^^^ BitVec.ofInt k.bits j).toNat : Int))) w := fun a ha => by
  simp only [execOp, ha.eval hx, ha.eval hy, eqGuard, binOp, Op.intBits]
  simp
theorem yi_compl {t : TypeId} {x : Operand} {k : IntKind} {i : Int} (hx : ev l x = some (.int k i)) : Yi P n ds ⟨d, .unOp .xor t x, ty, p, af, g⟩ l (.int k (k.wrap ((BitVec.ofInt k.bits (if k.signed then -1 else k.max) ^^^ BitVec.ofInt k.bits i).toNat : Int))) w := fun a ha => by
  simp only [execOp, ha.eval hx, Op.unary, Op.intBits]
  simp
theorem yi_shl {t t' : TypeId} {x y : Operand} {k k' : IntKind} {i j : Int} (h0 : 0 ≤ j) (hx : ev l x = some (.int k i)) (hy : ev l y = some (.int k' j)) : Yi P n ds ⟨d, .binOp .shl t x y t', ty, p, af, g⟩ l (.int k (k.wrap (i * 2 ^ (min j.toNat k.bits)))) w := fun a ha => by
  have : ¬ j < 0 := by omega
  simp [execOp, ha.eval hx, ha.eval hy, eqGuard, binOp, Op.shift, this]
theorem yi_shr {t t' : TypeId} {x y : Operand} {k k' : IntKind} {i j : Int} (h0 : 0 ≤ j) (hx : ev l x = some (.int k i)) (hy : ev l y = some (.int k' j)) : Yi P n ds ⟨d, .binOp .shr t x y t', ty, p, af, g⟩ l (.int k (i.fdiv (2 ^ (min j.toNat k.bits)))) w := fun a ha => by
  have : ¬ j < 0 := by omega
  simp [execOp, ha.eval hx, ha.eval hy, eqGuard, binOp, Op.shift, this]
theorem yi_convInt {s t : TypeId} {x : Operand} {k k' : IntKind} {i : Int} {u : TypeDesc} (hs : ∀ w, (underlying s).run P w = .ok u w) (ht : ∀ w, (underlying t).run P w = .ok (.int k) w) (hx : ev l x = some (.int k' i)) : Yi P n ds ⟨d, .convert s t x, ty, p, af, g⟩ l (.int k (k.wrap i)) w := fun a ha => by
  simp only [execOp, ha.eval hx, convert]
  simp [hs, ht, Conv.intToInt]

/-! #### booleans, strings, pointers and slices against nil -/
theorem bool_beq (b c : Bool) : (b == c) = decide (b = c) := by cases b <;> cases c <;> rfl
theorem run_equal {t : TypeId} {x y : Value} {b : Bool} (h : ∀ k, (Op.equalIn (k + 1) t x y).run P w = .ok b w) : (Op.equal t x y).run P w = .ok b w := h 9999
/-- '==' by the model's own word, at operands for which no other arm stands. -/
theorem yi_eq_by {t t' : TypeId} {x y : Operand} {u v : Value} {b : Bool} (hx : ev l x = some u) (hy : ev l y = some v) (hb : binOp .eql t u v = (do pure (.bool (← Op.equal t u v)))) (hgd : eqGuard .eql t x y u v = pure ())
    (h : ∀ k, (Op.equalIn (k + 1) t u v).run P w = .ok b w) : Yi P n ds ⟨d, .binOp .eql t x y t', ty, p, af, g⟩ l (.bool b) w := fun a ha => by
  simp only [execOp, ha.eval hx, ha.eval hy, hb, hgd]
  simp [run_equal h]
theorem yi_ne_by {t t' : TypeId} {x y : Operand} {u v : Value} {b : Bool} (hx : ev l x = some u) (hy : ev l y = some v) (hb : binOp .neq t u v = (do pure (.bool (!(← Op.equal t u v))))) (hgd : eqGuard .neq t x y u v = pure ())
    (h : ∀ k, (Op.equalIn (k + 1) t u v).run P w = .ok b w) : Yi P n ds ⟨d, .binOp .neq t x y t', ty, p, af, g⟩ l (.bool (!b)) w := fun a ha => by
  simp only [execOp, ha.eval hx, ha.eval hy, hb, hgd]
  simp [run_equal h]
theorem yi_eqlB {t t' : TypeId} {x y : Operand} {b c : Bool} (ht : ∀ w, (underlying t).run P w = .ok .bool w) (hx : ev l x = some (.bool b)) (hy : ev l y = some (.bool c)) : Yi P n ds ⟨d, .binOp .eql t x y t', ty, p, af, g⟩ l (.bool (decide (b = c))) w :=
  yi_eq_by hx hy rfl rfl fun k => by simp only [Op.equalIn]; simp [ht, bool_beq]
theorem yi_neqB {t t' : TypeId} {x y : Operand} {b c : Bool} (ht : ∀ w, (underlying t).run P w = .ok .bool w) (hx : ev l x = some (.bool b)) (hy : ev l y = some (.bool c)) : Yi P n ds ⟨d, .binOp .neq t x y t', ty, p, af, g⟩ l (.bool (decide (b ≠ c))) w := by
  have := yi_ne_by (P := P) (n := n) (ds := ds) (w := w) (d := d) (ty := ty) (p := p) (af := af) (g := g) (t := t) (t' := t') (b := decide (b = c)) hx hy rfl rfl fun k => by simp only [Op.equalIn]; simp [ht, bool_beq]
  rwa [← decide_not] at this
theorem bytes_toList (s : ByteArray) : s.toList = s.data.toList := by
  cases s with | mk a => simpa using ByteArray.toList_mk a.toList
theorem str_beq (s r : ByteArray) : (s.toList == r.toList) = decide (s = r) := by
  by_cases h : s = r
  · simp [h]
  · have : s.toList ≠ r.toList := fun e => h (by
      rw [bytes_toList, bytes_toList] at e
      cases s; cases r; simp_all)
    simp [h, this]
theorem yi_eqlS {t t' : TypeId} {x y : Operand} {s r : ByteArray} (hx : ev l x = some (.string s)) (hy : ev l y = some (.string r)) : Yi P n ds ⟨d, .binOp .eql t x y t', ty, p, af, g⟩ l (.bool (decide (s = r))) w := fun a ha => by
  simp [execOp, ha.eval hx, ha.eval hy, eqGuard, binOp, Op.stringOp, str_beq]
theorem yi_neqS {t t' : TypeId} {x y : Operand} {s r : ByteArray} (hx : ev l x = some (.string s)) (hy : ev l y = some (.string r)) : Yi P n ds ⟨d, .binOp .neq t x y t', ty, p, af, g⟩ l (.bool (decide (s ≠ r))) w := fun a ha => by
  simp [execOp, ha.eval hx, ha.eval hy, eqGuard, binOp, Op.stringOp, str_beq]
theorem yi_eqlNilPtr {t t' e : TypeId} {x y : Operand} {b : Option Addr} (ht : ∀ w, (underlying t).run P w = .ok (.pointer e) w) (hx : ev l x = some (.pointer b)) (hy : ev l y = some (.pointer none)) : Yi P n ds ⟨d, .binOp .eql t x y t', ty, p, af, g⟩ l (.bool b.isNone) w :=
  yi_eq_by hx hy (by cases b <;> rfl) (by cases b <;> rfl) fun k => by cases b <;> (simp only [Op.equalIn]; simp [ht])
theorem yi_neqNilPtr {t t' e : TypeId} {x y : Operand} {b : Option Addr} (ht : ∀ w, (underlying t).run P w = .ok (.pointer e) w) (hx : ev l x = some (.pointer b)) (hy : ev l y = some (.pointer none)) : Yi P n ds ⟨d, .binOp .neq t x y t', ty, p, af, g⟩ l (.bool (!b.isNone)) w :=
  yi_ne_by hx hy (by cases b <;> rfl) (by cases b <;> rfl) fun k => by cases b <;> (simp only [Op.equalIn]; simp [ht])
theorem yi_eqlNilSl {t t' e : TypeId} {x y : Operand} {b : Option Addr} {k c : Nat} (ht : ∀ w, (underlying t).run P w = .ok (.slice e) w) (hx : ev l x = some (.slice b k c)) (hy : ev l y = some (.slice none 0 0)) : Yi P n ds ⟨d, .binOp .eql t x y t', ty, p, af, g⟩ l (.bool b.isNone) w :=
  yi_eq_by hx hy rfl rfl fun k => by cases b <;> (simp only [Op.equalIn]; simp [ht])
theorem yi_eqlNilMap {t t' k e : TypeId} {x y : Operand} {b : Option Nat} (ht : ∀ w, (underlying t).run P w = .ok (.map k e) w) (hx : ev l x = some (.map b)) (hy : ev l y = some (.map none)) : Yi P n ds ⟨d, .binOp .eql t x y t', ty, p, af, g⟩ l (.bool b.isNone) w :=
  yi_eq_by hx hy rfl rfl fun k => by cases b <;> (simp only [Op.equalIn]; simp [ht])

/-! #### lengths, addresses, cuts -/
theorem yi_len {t e : TypeId} {x : Operand} {b : Option Addr} {k c : Nat} (ht : ∀ w, (underlying t).run P w = .ok (.slice e) w) (hx : ev l x = some (.slice b k c)) :
    Yi P n ds ⟨d, .call { callee := .builtin .len, args := #[x], argTypes := #[t] }, ty, p, af, g⟩ l (.int .i64 k) w := fun a ha => by
  simp [execOp, resolve, invoke, builtin, ha.eval hx, Builtin.len_, ht, goInt]
theorem yi_lenS {t : TypeId} {x : Operand} {s : ByteArray} (ht : ∀ w, (underlying t).run P w = .ok .string w) (hx : ev l x = some (.string s)) :
    Yi P n ds ⟨d, .call { callee := .builtin .len, args := #[x], argTypes := #[t] }, ty, p, af, g⟩ l (.int .i64 s.size) w := fun a ha => by
  simp [execOp, resolve, invoke, builtin, ha.eval hx, Builtin.len_, ht, goInt]
theorem yi_cap {t e : TypeId} {x : Operand} {b : Option Addr} {k c : Nat} (ht : ∀ w, (underlying t).run P w = .ok (.slice e) w) (hx : ev l x = some (.slice b k c)) :
    Yi P n ds ⟨d, .call { callee := .builtin .cap, args := #[x], argTypes := #[t] }, ty, p, af, g⟩ l (.int .i64 c) w := fun a ha => by
  simp [execOp, resolve, invoke, builtin, ha.eval hx, Builtin.cap_, ht, goInt]
theorem yi_fieldAddr {s : TypeId} {x : Operand} {i z : Nat} {A : Addr} {fs : Array Field} {f : Field} (ht : ∀ w, (underlying s).run P w = .ok (.struct fs) w) (hf : fs[i]? = some f) (hz : ∀ w, (sizeOf f.type).run P w = .ok (z + 1) w) (hx : ev l x = some (.pointer (some A))) :
    Yi P n ds ⟨d, .fieldAddr s x i, ty, p, af, g⟩ l (.pointer (some (A.add f.offset))) w := fun a ha => by
  simp [execOp, ha.eval hx, Instr.fieldAt, ht, hf, Instr.sureAddr, fieldPlace, hz]
end
end Go.Proofs.YtgmjgdjobkmbgaaL
