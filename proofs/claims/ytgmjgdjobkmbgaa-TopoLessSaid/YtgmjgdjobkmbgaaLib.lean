/- A library of steps for walks over a frame that is known slot by slot; no program in sight. -/
import Derived.WalkKit
import Derived.KernelRfl
import Derived.RowKit3
import Derived.Orders
import Derived.OrdersHeld
import Derived.Laws.AppendOwn
import Derived.Laws.Slices
import Derived.WideLaws
import Derived.Lib.SliceRun
import Derived.Deep.LoopGhost
set_option linter.unusedVariables false
set_option linter.unusedSimpArgs false
namespace Go.Proofs.YtgmjgdjobkmbgaaL
open Go.RowKit

/-! ### 1. what is known of a frame -/
def lk : List (Nat × Value) → Nat → Option Value
  | [], _ => none
  | (k, v) :: r, t => match Nat.beq k t with
    | true => some v
    | false => lk r t
structure Env (n : Nat) (ds : List Deferred) (l : List (Nat × Value)) (a : Act) : Prop where
  size : a.tmps.size = n
  defers : a.defers = ds
  has : ∀ t v, lk l t = some v → a.tmps.getD t undef = v
def ev (l : List (Nat × Value)) : Operand → Option Value
  | .tmp t => lk l t
  | .const v => some v
  | .func f => some (.func (.func f) #[] #[])
  | .global g => some (.pointer (some ⟨g, 0, none⟩))
def evs (l : List (Nat × Value)) : List Operand → Option (List Value)
  | [] => some []
  | x :: r => match ev l x, evs l r with
    | some v, some vs => some (v :: vs)
    | _, _ => none
def ext (l : List (Nat × Value)) : Option Tmp → Value → List (Nat × Value)
  | some d, v => (d, v) :: l
  | none, _ => l
def dOK (n : Nat) : Option Tmp → Bool
  | some d => Nat.blt d n
  | none => true
section
variable {n : Nat} {ds : List Deferred} {l : List (Nat × Value)} {a : Act}
theorem Env.eval (h : Env n ds l a) {x : Operand} {v : Value} (hx : ev l x = some v) : a.eval x = v := by
  cases x with
  | tmp t => exact h.has t v hx
  | const u => simpa [ev, Act.eval] using hx
  | global g => simpa [ev, Act.eval] using hx
  | func f => simpa [ev, Act.eval] using hx
theorem Env.evals (h : Env n ds l a) : ∀ {xs : List Operand} {vs : List Value}, evs l xs = some vs → xs.map a.eval = vs
  | [], vs, hx => by simpa [evs] using hx
  | x :: r, vs, hx => by
    simp only [evs] at hx
    split at hx
    · rename_i v us h1 h2
      injection hx with hx
      subst hx
      simp [h.eval h1, h.evals h2]
    · cases hx
theorem lk_hit (d : Nat) (v : Value) (l : List (Nat × Value)) : lk ((d, v) :: l) d = some v := by
  simp [lk, Nat.beq_eq_true_eq]
theorem lk_miss {d t : Nat} (h : d ≠ t) (v : Value) (l : List (Nat × Value)) : lk ((d, v) :: l) t = lk l t := by
  have : Nat.beq d t = false := by
    cases hb : Nat.beq d t with
    | false => rfl
    | true => exact absurd (Nat.eq_of_beq_eq_true hb) h
  simp [lk, this]
theorem Env.put (h : Env n ds l a) {d : Option Tmp} (hd : dOK n d = true) (v : Value) : Env n ds (ext l d v) (a.put d v) := by
  cases d with
  | none => exact ⟨h.size, h.defers, h.has⟩
  | some d =>
    have hdn : d < n := by simpa [dOK, Nat.blt_eq] using hd
    refine ⟨by simp [Act.put, h.size], h.defers, fun t u hu => ?_⟩
    simp only [ext] at hu
    by_cases e : d = t
    · subst e
      rw [lk_hit] at hu
      injection hu with hu
      subst hu
      have : d < a.tmps.size := by rw [h.size]; exact hdn
      simp [Act.put, Array.getD, this]
    · rw [lk_miss e] at hu
      have := h.has t u hu
      rw [← this]
      simp only [Act.put, Array.getD_eq_getD_getElem?]
      rw [Array.getElem?_setIfInBounds_ne e]
/-- Fewer slots, the same values. -/
def Sub : List (Nat × Value) → List (Nat × Value) → Prop
  | [], _ => True
  | (t, v) :: r, l => lk l t = some v ∧ Sub r l
theorem Sub.has : ∀ {l' l : List (Nat × Value)}, Sub l' l → ∀ t v, lk l' t = some v → lk l t = some v
  | [], _, _, t, v, h => by simp [lk] at h
  | (t0, v0) :: r, l, hs, t, v, h => by
    by_cases e : t0 = t
    · subst e
      rw [lk_hit] at h
      injection h with h
      subst h
      exact hs.1
    · rw [lk_miss e] at h
      exact hs.2.has t v h
theorem Env.sub {l' : List (Nat × Value)} (h : Env n ds l a) (hs : Sub l' l) : Env n ds l' a :=
  ⟨h.size, h.defers, fun t v hv => h.has t v (hs.has t v hv)⟩
end

/-! ### 2. judgements -/
section
variable (P : Program) (ops : Array Oper) (Q : Exit → Act → World → Prop) (n : Nat) (ds : List Deferred)
def CW (c : Code) (l : List (Nat × Value)) (w : World) : Prop := ∀ a, Env n ds l a → c.wp P Q a w
def NW (e : Exit) (l : List (Nat × Value)) (w : World) : Prop := ∀ a, Env n ds l a → Q e a w
def WL (rest : List Oper) (l : List (Nat × Value)) (w : World) : Prop := ∀ a, Env n ds l a → wpList P ops Q rest a w
/-- The operation's value, and the world stays. -/
def Yi (o : Oper) (l : List (Nat × Value)) (v : Value) (w : World) : Prop := ∀ a, Env n ds l a → (execOp a.eval o).run P w = .ok (.value v) w
/-- The operation may turn the world. -/
def Ef (o : Oper) (l : List (Nat × Value)) (w : World) (Post : Value → World → Prop) : Prop :=
  ∀ a, Env n ds l a → ∀ (K : Act → World → Prop) (Q : Exit → Act → World → Prop), (∀ v w', Post v w' → K (a.put o.dst v) w') → o.wp P a w K Q
end
section
variable {P : Program} {ops : Array Oper} {Q : Exit → Act → World → Prop} {n : Nat} {ds : List Deferred} {l l' : List (Nat × Value)} {w : World}
theorem CW.sub {c : Code} (hs : Sub l' l) (h : CW P Q n ds c l' w) : CW P Q n ds c l w := fun a ha => h a (ha.sub hs)
theorem NW.sub {e : Exit} (hs : Sub l' l) (h : NW Q n ds e l' w) : NW Q n ds e l w := fun a ha => h a (ha.sub hs)
theorem WL.sub {r : List Oper} (hs : Sub l' l) (h : WL P ops Q n ds r l' w) : WL P ops Q n ds r l w := fun a ha => h a (ha.sub hs)

theorem CW.seq {x y : Code} (h : CW P (Exit.then (fun a w => y.wp P Q a w) Q) n ds x l w) : CW P Q n ds (.seq x y) l w := fun a ha => wp_seq (h a ha)
theorem CW.ret (h : NW Q n ds .ret l w) : CW P Q n ds .ret l w := fun a ha => wp_ret (h a ha)
theorem CW.skip (h : NW Q n ds .normal l w) : CW P Q n ds .skip l w := fun a ha => wp_skip (h a ha)
theorem CW.label {i : Nat} (h : NW Q n ds .normal l w) : CW P Q n ds (.label i) l w := fun a ha => wp_label (h a ha)
theorem CW.exit {i : Nat} (h : NW Q n ds (.exit i) l w) : CW P Q n ds (.exit i) l w := fun a ha => wp_exit (h a ha)
theorem CW.goto {i : Nat} (h : NW Q n ds (.goto i) l w) : CW P Q n ds (.goto i) l w := fun a ha => wp_goto (h a ha)
theorem CW.block {i : Nat} {c : Code} (h : CW P (Exit.inBlock i Q) n ds c l w) : CW P Q n ds (.block i c) l w := fun a ha => wp_block (h a ha)
theorem CW.cond {c : Operand} {x y : Code} {b : Bool} (hc : ev l c = some (.bool b)) (h1 : b = true → CW P Q n ds x l w) (h0 : b = false → CW P Q n ds y l w) :
    CW P Q n ds (.cond c x y) l w := fun a ha => wp_cond_split (ha.eval hc) (fun hb => h1 hb a ha) (fun hb => h0 hb a ha)
theorem CW.condT {c : Operand} {x y : Code} (hc : ev l c = some (.bool true)) (h1 : CW P Q n ds x l w) : CW P Q n ds (.cond c x y) l w := fun a ha => wp_cond_true (ha.eval hc) (h1 a ha)
theorem CW.condF {c : Operand} {x y : Code} (hc : ev l c = some (.bool false)) (h1 : CW P Q n ds y l w) : CW P Q n ds (.cond c x y) l w := fun a ha => wp_cond_false (ha.eval hc) (h1 a ha)
/-- A test whose outcome is a proposition. -/
theorem CW.condP {c : Operand} {x y : Code} {p : Prop} [Decidable p] (hc : ev l c = some (.bool (decide p))) (h1 : p → CW P Q n ds x l w) (h0 : ¬ p → CW P Q n ds y l w) :
    CW P Q n ds (.cond c x y) l w := CW.cond hc (fun hb => h1 (of_decide_eq_true hb)) (fun hb => h0 (of_decide_eq_false hb))
/-- A loop, by a number of one's own. -/
theorem CW.loop {c : Code} (I : Nat → Act → World → Prop) (m : Nat) (h0 : ∀ a, Env n ds l a → I m a w)
    (round : ∀ m a w, I m a w → c.wp P (Exit.then (fun a' w' => ∃ m', m' < m ∧ I m' a' w') Q) a w) : CW P Q n ds (.loop c) l w :=
  fun a ha => wp_loop_ghost I m (h0 a ha) round

theorem NW.next {y : Code} (h : CW P Q n ds y l w) : NW (Exit.then (fun a w => y.wp P Q a w) Q) n ds .normal l w := h
theorem NW.thenRet {K : Act → World → Prop} (h : NW Q n ds .ret l w) : NW (Exit.then K Q) n ds .ret l w := h
theorem NW.thenExit {K : Act → World → Prop} {i : Nat} (h : NW Q n ds (.exit i) l w) : NW (Exit.then K Q) n ds (.exit i) l w := h
theorem NW.thenGoto {K : Act → World → Prop} {i : Nat} (h : NW Q n ds (.goto i) l w) : NW (Exit.then K Q) n ds (.goto i) l w := h
theorem NW.blockEnd {i : Nat} (h : NW Q n ds .normal l w) : NW (Exit.inBlock i Q) n ds .normal l w := h
theorem NW.blockRet {i : Nat} (h : NW Q n ds .ret l w) : NW (Exit.inBlock i Q) n ds .ret l w := h
theorem NW.blockGoto {i j : Nat} (h : NW Q n ds (.goto j) l w) : NW (Exit.inBlock i Q) n ds (.goto j) l w := h
theorem NW.blockHit {i : Nat} (h : NW Q n ds .normal l w) : NW (Exit.inBlock i Q) n ds (.exit i) l w := fun a ha => by
  simp only [Exit.inBlock, if_true]; exact h a ha
theorem NW.blockMiss {i j : Nat} (hne : Nat.beq j i = false) (h : NW Q n ds (.exit j) l w) : NW (Exit.inBlock i Q) n ds (.exit j) l w := fun a ha => by
  have : j ≠ i := by rintro rfl; simp [Nat.beq_refl] at hne
  simp only [Exit.inBlock, this, if_false]; exact h a ha
/-- The end of a loop's round. -/
theorem NW.round {I : Nat → Act → World → Prop} {m : Nat} (m' : Nat) (hlt : m' < m) (h : ∀ a, Env n ds l a → I m' a w) :
    NW (Exit.then (fun a' w' => ∃ m', m' < m ∧ I m' a' w') Q) n ds .normal l w := fun a ha => ⟨m', hlt, h a ha⟩
/-- Where ways meet. -/
theorem NW.meet {K : Act → World → Prop} (h : ∀ a, Env n ds l a → K a w) : NW (Exit.then K Q) n ds .normal l w := h
theorem CW.cut {x y : Code} (M : Act → World → Prop) (h : CW P (Exit.then M Q) n ds x l w) (h2 : ∀ a w, M a w → y.wp P Q a w) : CW P Q n ds (.seq x y) l w := fun a ha =>
  wp_seq (wp_mono (h a ha) fun e a w q => by cases e <;> first | exact q | exact h2 a w q)

/-! ### 3. regions -/
theorem CW.region {id : Nat} {os : List Oper} (h : WL P os.toArray Q n ds os l w) : CW P Q n ds (.region id os.toArray false) l w := fun a ha => wp_region_lit (h a ha)
theorem WL.done (h : NW Q n ds .normal l w) : WL P ops Q n ds [] l w := h
theorem WL.y {o : Oper} {rest : List Oper} {v : Value} (hg : o.guard = none) (hd : dOK n o.dst = true) (hy : Yi P n ds o l v w)
    (h : WL P ops Q n ds rest (ext l o.dst v) w) : WL P ops Q n ds (o :: rest) l w := fun a ha => by
  refine wpList_plain hg fun K hK => ?_
  simp only [Oper.wp, hy a ha, Oper.upon]
  exact hK _ _ (h _ (ha.put hd v))
theorem WL.e {o : Oper} {rest : List Oper} {Post : Value → World → Prop} (hg : o.guard = none) (hd : dOK n o.dst = true) (he : Ef P n ds o l w Post)
    (h : ∀ v w', Post v w' → WL P ops Q n ds rest (ext l o.dst v) w') : WL P ops Q n ds (o :: rest) l w := fun a ha => by
  refine wpList_plain hg fun K hK => ?_
  exact he a ha K Q fun v w' hp => hK _ _ (h v w' hp _ (ha.put hd v))
theorem yielded_of {j t : Nat} {b : Bool} {a : Act} (ha : Env n ds l a) (hj : (ops[j]?).bind (·.dst) = some t) (hl : lk l t = some (.bool b)) (ht : Nat.blt t n = true) :
    yielded ops a.tmps j = some b := by
  have h1 := ha.has t _ hl
  have h2 : t < a.tmps.size := by rw [ha.size]; exact Nat.blt_eq ▸ ht
  simp [Array.getD, h2] at h1
  simp [yielded, hj, h2, h1]
/-- A guarded operation that is wanted. -/
theorem WL.gy {o : Oper} {rest : List Oper} {v : Value} {j t : Nat} {b : Bool} (hg : o.guard = some (j, b)) (hj : (ops[j]?).bind (·.dst) = some t) (ht : Nat.blt t n = true) (hl : lk l t = some (.bool b))
    (hd : dOK n o.dst = true) (hy : Yi P n ds o l v w) (h : WL P ops Q n ds rest (ext l o.dst v) w) : WL P ops Q n ds (o :: rest) l w := fun a ha => by
  refine wpList_step fun K hK => ?_
  have hw : Region.wanted o (yielded ops a.tmps) = true := by simp [Region.wanted, hg, yielded_of ha hj hl ht]
  rw [if_pos hw]
  simp only [Oper.wp, hy a ha, Oper.upon]
  exact hK _ _ (h _ (ha.put hd v))
theorem WL.ge {o : Oper} {rest : List Oper} {Post : Value → World → Prop} {j t : Nat} {b : Bool} (hg : o.guard = some (j, b)) (hj : (ops[j]?).bind (·.dst) = some t) (ht : Nat.blt t n = true) (hl : lk l t = some (.bool b))
    (hd : dOK n o.dst = true) (he : Ef P n ds o l w Post) (h : ∀ v w', Post v w' → WL P ops Q n ds rest (ext l o.dst v) w') : WL P ops Q n ds (o :: rest) l w := fun a ha => by
  refine wpList_step fun K hK => ?_
  have hw : Region.wanted o (yielded ops a.tmps) = true := by simp [Region.wanted, hg, yielded_of ha hj hl ht]
  rw [if_pos hw]
  exact he a ha K Q fun v w' hp => hK _ _ (h v w' hp _ (ha.put hd v))
theorem bne_of_not (b : Bool) : (some (!b) == some b) = false := by cases b <;> rfl
/-- A guarded operation that is passed over. -/
theorem WL.no {o : Oper} {rest : List Oper} {j t : Nat} {b b' : Bool} (hg : o.guard = some (j, b)) (hj : (ops[j]?).bind (·.dst) = some t) (ht : Nat.blt t n = true) (hl : lk l t = some (.bool b')) (hb : (b' == b) = false)
    (hd : dOK n o.dst = true) (h : WL P ops Q n ds rest (ext l o.dst undef) w) : WL P ops Q n ds (o :: rest) l w := fun a ha => by
  refine wpList_step fun K hK => ?_
  have hw : Region.wanted o (yielded ops a.tmps) = false := by
    have : b' ≠ b := by simpa using hb
    simp [Region.wanted, hg, yielded_of ha hj hl ht, this]
  rw [if_neg (by simp [hw])]
  exact hK _ _ (h _ (ha.put hd undef))
/-- A Boolean in a slot is parted on. -/
theorem WL.split {rest : List Oper} {t : Nat} {b : Bool} (hl : lk l t = some (.bool b)) (h1 : b = true → WL P ops Q n ds rest ((t, .bool true) :: l) w) (h0 : b = false → WL P ops Q n ds rest ((t, .bool false) :: l) w) :
    WL P ops Q n ds rest l w := by
  have key : ∀ {c : Bool} {a : Act}, b = c → Env n ds l a → Env n ds ((t, .bool c) :: l) a := fun {c a} hc ha => ⟨ha.size, ha.defers, fun s v hs => by
    by_cases e : t = s
    · subst e
      rw [lk_hit] at hs
      injection hs with hs
      subst hs
      subst hc
      exact ha.has _ _ hl
    · rw [lk_miss e] at hs
      exact ha.has _ _ hs⟩
  cases hb : b with
  | true => exact fun a ha => h1 hb a (key hb ha)
  | false => exact fun a ha => h0 hb a (key hb ha)
theorem WL.splitP {rest : List Oper} {t : Nat} {p : Prop} [Decidable p] (hl : lk l t = some (.bool (decide p))) (h1 : p → WL P ops Q n ds rest ((t, .bool true) :: l) w) (h0 : ¬ p → WL P ops Q n ds rest ((t, .bool false) :: l) w) :
    WL P ops Q n ds rest l w := WL.split hl (fun hb => h1 (of_decide_eq_true hb)) (fun hb => h0 (of_decide_eq_false hb))
/-- A slot's value, spelt otherwise. -/
theorem WL.as_ {rest : List Oper} {t : Nat} {v v' : Value} (hl : lk l t = some v) (he : v = v') (h : WL P ops Q n ds rest ((t, v') :: l) w) : WL P ops Q n ds rest l w := fun a ha =>
  h a ⟨ha.size, ha.defers, fun s u hs => by
    by_cases e : t = s
    · subst e
      rw [lk_hit] at hs
      injection hs with hs
      subst hs
      subst he
      exact ha.has _ _ hl
    · rw [lk_miss e] at hs
      exact ha.has _ _ hs⟩
theorem CW.as_ {c : Code} {t : Nat} {v v' : Value} (hl : lk l t = some v) (he : v = v') (h : CW P Q n ds c ((t, v') :: l) w) : CW P Q n ds c l w := fun a ha =>
  h a ⟨ha.size, ha.defers, fun s u hs => by
    by_cases e : t = s
    · subst e
      rw [lk_hit] at hs
      injection hs with hs
      subst hs
      subst he
      exact ha.has _ _ hl
    · rw [lk_miss e] at hs
      exact ha.has _ _ hs⟩
end
end Go.Proofs.YtgmjgdjobkmbgaaL
