/- NetTrue: its data; what a step keeps. -/
import Derived.Test.YtgmjgdjobkmbgaaNetE
import Derived.Test.YtgmjgdjobkmbgaaSl
set_option linter.unusedVariables false
set_option linter.unusedSimpArgs false
namespace Go.Proofs.YtgmjgdjobkmbgaaN
open Go.Proofs.YtgmjgdjobkmbgaaL Go.RowKit Go.Proofs
attribute [local irreducible] Ef Yi WL PL CW NW Ret
structure OpD where
  what : Int
  frm : Int
  to : Int
  pl : Int
  bytes : List UInt8
def dI : Dt Int := dInt .i64
def dOp : Dt OpD := dIso (dPair dI (dPair dI (dPair dI (dPair dI dBytes)))) fun o => (o.what, o.frm, o.to, o.pl, o.bytes)
structure Tr where
  sent : OpD
  changed : List UInt8
  whole : Bool
def dTr : Dt Tr := dIso (dPair dOp (dPair dBytes dBool)) fun t => (t.sent, t.changed, t.whole)
theorem dOp_K {w : World} {ok : Nat → Prop} {o : OpD} {cs : List Value} (h : dOp.K w ok o cs) : ∃ A c, cs = [.int .i64 o.what, .int .i64 o.frm, .int .i64 o.to, .int .i64 o.pl, .slice A o.bytes.length c] ∧ o.bytes.length ≤ c ∧ c ≤ 9223372036854775807 ∧ Row dU8 w ok A o.bytes := by
  obtain ⟨c0, r0, rfl, h0, c1, r1, rfl, h1, c2, r2, rfl, h2, c3, r3, rfl, h3, ⟨A, c, hc, h4, h5, h6⟩⟩ := h
  refine ⟨A, c, ?_, h4, h5, h6⟩
  rw [show c0 = [.int .i64 o.what] from h0, show c1 = [.int .i64 o.frm] from h1, show c2 = [.int .i64 o.to] from h2, show c3 = [.int .i64 o.pl] from h3, show r3 = [.slice A o.bytes.length c] from hc]
  rfl
theorem dOp_mk {w : World} {ok : Nat → Prop} {o : OpD} {A : Option Addr} {c : Nat} (h2 : o.bytes.length ≤ c) (h3 : c ≤ 9223372036854775807) (h4 : Row dU8 w ok A o.bytes) : dOp.K w ok o [.int .i64 o.what, .int .i64 o.frm, .int .i64 o.to, .int .i64 o.pl, .slice A o.bytes.length c] :=
  ⟨[_], [_, _, _, _], rfl, rfl, [_], [_, _, _], rfl, rfl, [_], [_, _], rfl, rfl, [_], [_], rfl, rfl, A, c, rfl, h2, h3, h4⟩
theorem dTr_K {w : World} {ok : Nat → Prop} {t : Tr} {cs : List Value} (h : dTr.K w ok t cs) : ∃ A c A2 c2, cs = [.int .i64 t.sent.what, .int .i64 t.sent.frm, .int .i64 t.sent.to, .int .i64 t.sent.pl, .slice A t.sent.bytes.length c, .slice A2 t.changed.length c2, .bool t.whole] ∧
    t.sent.bytes.length ≤ c ∧ c ≤ 9223372036854775807 ∧ Row dU8 w ok A t.sent.bytes ∧ t.changed.length ≤ c2 ∧ c2 ≤ 9223372036854775807 ∧ Row dU8 w ok A2 t.changed := by
  obtain ⟨c0, r0, rfl, h0, c1, r1, rfl, ⟨A2, c2, hc2, h4, h5, h6⟩, h7⟩ := h
  obtain ⟨A, c, e, h1, h2, R⟩ := dOp_K h0
  refine ⟨A, c, A2, c2, ?_, h1, h2, R, h4, h5, h6⟩
  rw [e, show c1 = [.slice A2 t.changed.length c2] from hc2, show r1 = [.bool t.whole] from h7]
  rfl
theorem dTr_mk {w : World} {ok : Nat → Prop} {t : Tr} {A A2 : Option Addr} {c c2 : Nat} (h1 : t.sent.bytes.length ≤ c) (h2 : c ≤ 9223372036854775807) (R : Row dU8 w ok A t.sent.bytes) (h4 : t.changed.length ≤ c2) (h5 : c2 ≤ 9223372036854775807) (R2 : Row dU8 w ok A2 t.changed) :
    dTr.K w ok t [.int .i64 t.sent.what, .int .i64 t.sent.frm, .int .i64 t.sent.to, .int .i64 t.sent.pl, .slice A t.sent.bytes.length c, .slice A2 t.changed.length c2, .bool t.whole] :=
  ⟨[_, _, _, _, _], [_, _], rfl, dOp_mk h1 h2 R, [_], [_], rfl, ⟨A2, c2, rfl, h4, h5, R2⟩, rfl⟩
/-- The parcel that lies on the line for a trace. -/
def Tr.par (t : Tr) : Par := ⟨t.sent.frm, t.sent.to, if t.whole then t.sent.bytes else t.changed, t.whole⟩
/-- What holds at the head of each round. -/
structure NetSt (W w : World) (nb : Nat) (F : Nat → Prop) (L : List Par) (S : List Tr) (v5 : Value) (k : Nat) : Prop where
  same : Same W w
  net : NetAt w nb 4 F L
  new : ∀ x, F x → W.heap.size ≤ x ∧ x < w.heap.size
  sl : Sl dTr 33 w W.heap.size (fun x => x < w.heap.size ∧ ¬ F x) v5 S
  rel : L = S.map Tr.par
  len : S.length ≤ k
  top : k ≤ 80
theorem and3 (i : Int) : ∃ f : Int, IntKind.wrap .i64 ((BitVec.ofInt (IntKind.bits .i64) i &&& BitVec.ofInt (IntKind.bits .i64) 3).toNat : Int) = f ∧ 0 ≤ f ∧ f < 4 := by
  have h : (BitVec.ofInt (IntKind.bits .i64) i &&& BitVec.ofInt (IntKind.bits .i64) 3).toNat ≤ 3 := by
    rw [BitVec.toNat_and]
    exact Nat.and_le_right
  refine ⟨_, rfl, ?_⟩
  generalize (BitVec.ofInt (IntKind.bits .i64) i &&& BitVec.ofInt (IntKind.bits .i64) 3).toNat = m at h
  have : m = 0 ∨ m = 1 ∨ m = 2 ∨ m = 3 := by omega
  rcases this with rfl | rfl | rfl | rfl <;> decide
theorem par_len {L : List Par} {S : List Tr} (h : L = S.map Tr.par) : L.length = S.length := by rw [h, List.length_map]
theorem par_get {L : List Par} {S : List Tr} (h : L = S.map Tr.par) {i : Nat} {t : Tr} (ht : S[i]? = some t) : L[i]? = some t.par := by rw [h, List.getElem?_map, ht]; rfl
theorem sendE_eq {L : List Par} {f t : Int} {bs : List UInt8} (h0 : 0 ≤ f ∧ f < 4) (h1 : 0 ≤ t ∧ t < 4) (hl : L.length ≤ 80) : sendE 4 L ⟨f, t, bs, true⟩ = if 70000 < bs.length then 3 else 0 := by
  unfold sendE layE
  rw [if_neg (by simp only [not_or, Classical.not_not]; exact ⟨h0, h1⟩), if_pos (show L.length < 4096 by omega)]
theorem sendL_eq {L : List Par} {f t : Int} {bs : List UInt8} (h0 : 0 ≤ f ∧ f < 4) (h1 : 0 ≤ t ∧ t < 4) (hl : L.length ≤ 80) : sendL 4 L ⟨f, t, bs, true⟩ = if 70000 < bs.length then L else L ++ [⟨f, t, bs, true⟩] := by
  unfold sendL layL
  rw [if_neg (by simp only [not_or, Classical.not_not]; exact ⟨h0, h1⟩), if_pos (show L.length < 4096 by omega)]
theorem layE_eq {L : List Par} (hl : L.length ≤ 80) : layE L = 0 := by rw [layE, if_pos (by omega)]
theorem layL_eq {L : List Par} {p : Par} (hl : L.length ≤ 80) : layL L p = L ++ [p] := by rw [layL, if_pos (by omega)]
theorem op_at {w : World} {ok : Nat → Prop} {A : Option Addr} {ops : List OpD} (R : Row dOp w ok A ops) {k : Nat} {o : OpD} (ho : ops[k]? = some o) :
    ∃ ad Ab c, A = some ad ∧ Seg w (some (ad.add (k * 5))) [.int .i64 o.what, .int .i64 o.frm, .int .i64 o.to, .int .i64 o.pl, .slice Ab o.bytes.length c] ∧ o.bytes.length ≤ c ∧ c ≤ 9223372036854775807 ∧ Row dU8 w ok Ab o.bytes := by
  obtain ⟨ad, cs, hA, hb, hK, hl, hc⟩ := R.get ho
  obtain ⟨Ab, c, e, h1, h2, h3⟩ := dOp_K hK
  subst e
  refine ⟨ad, Ab, c, hA, .inr ⟨_, rfl, fun j u hu => ?_⟩, h1, h2, h3⟩
  have := hc j u hu
  rw [← add_add] at this
  exact this
theorem tr_at {w : World} {ok : Nat → Prop} {A : Option Addr} {S : List Tr} (R : Row dTr w ok A S) {k : Nat} {t : Tr} (ho : S[k]? = some t) :
    ∃ ad A1 c A2 c2, A = some ad ∧ ok ad.block ∧ Seg w (some (ad.add (k * 7))) [.int .i64 t.sent.what, .int .i64 t.sent.frm, .int .i64 t.sent.to, .int .i64 t.sent.pl, .slice A1 t.sent.bytes.length c, .slice A2 t.changed.length c2, .bool t.whole] ∧
      t.sent.bytes.length ≤ c ∧ c ≤ 9223372036854775807 ∧ Row dU8 w ok A1 t.sent.bytes ∧ t.changed.length ≤ c2 ∧ c2 ≤ 9223372036854775807 ∧ Row dU8 w ok A2 t.changed := by
  obtain ⟨ad, cs, hA, hb, hK, hl, hc⟩ := R.get ho
  obtain ⟨A1, c, A2, c2, e, h1⟩ := dTr_K hK
  subst e
  refine ⟨ad, A1, c, A2, c2, hA, hb, .inr ⟨_, rfl, fun j u hu => ?_⟩, h1⟩
  have := hc j u hu
  rw [← add_add] at this
  exact this
theorem map_erase (S : List Tr) (i : Nat) : (S.map Tr.par).eraseIdx i = (S.eraseIdx i).map Tr.par := by
  simp only [List.eraseIdx_eq_take_drop_succ, List.map_append, List.map_take, List.map_drop]
theorem map_set (S : List Tr) (i : Nat) (t : Tr) : (S.map Tr.par).set i t.par = (S.set i t).map Tr.par := by
  rw [List.map_set]

end Go.Proofs.YtgmjgdjobkmbgaaN
