/- The net: its small functions, walked. -/
import Derived.Test.YtgmjgdjobkmbgaaRes
import Derived.Test.YtgmjgdjobkmbgaaProg
set_option linter.unusedVariables false
set_option linter.unusedSimpArgs false
namespace Go.Proofs.YtgmjgdjobkmbgaaN
open Go.Proofs.YtgmjgdjobkmbgaaL Go.RowKit Go.Proofs
attribute [local irreducible] Ef Yi WL PL CW NW Ret
theorem Try_mixed : Try.prog.follows .mixedOrders = true := by kernel_rfl
structure Par where
  frm : Int
  to : Int
  bytes : List UInt8
  whole : Bool
def dBytes : Dt (List UInt8) := dSlice dU8 (by decide)
def dPar : Dt Par := dIso (dPair (dInt .i64) (dPair (dInt .i64) (dPair dBytes dBool))) fun p => (p.frm, p.to, p.bytes, p.whole)
theorem dPar_K {w : World} {ok : Nat → Prop} {p : Par} {cs : List Value} (h : dPar.K w ok p cs) : ∃ A c, cs = [.int .i64 p.frm, .int .i64 p.to, .slice A p.bytes.length c, .bool p.whole] ∧ p.bytes.length ≤ c ∧ c ≤ 9223372036854775807 ∧ Row dU8 w ok A p.bytes := by
  obtain ⟨c0, r0, rfl, h0, c1, r1, rfl, h1, c2, r2, rfl, ⟨A, c, hc, h2, h3, h4⟩, h5⟩ := h
  refine ⟨A, c, ?_, h2, h3, h4⟩
  rw [show c0 = [.int .i64 p.frm] from h0, show c1 = [.int .i64 p.to] from h1, show c2 = [.slice A p.bytes.length c] from hc, show r2 = [.bool p.whole] from h5]
  rfl
theorem dPar_mk {w : World} {ok : Nat → Prop} {p : Par} {A : Option Addr} {c : Nat} (h2 : p.bytes.length ≤ c) (h3 : c ≤ 9223372036854775807) (h4 : Row dU8 w ok A p.bytes) : dPar.K w ok p [.int .i64 p.frm, .int .i64 p.to, .slice A p.bytes.length c, .bool p.whole] :=
  ⟨[.int .i64 p.frm], [.int .i64 p.to, .slice A p.bytes.length c, .bool p.whole], rfl, rfl, [.int .i64 p.to], [.slice A p.bytes.length c, .bool p.whole], rfl, rfl, [.slice A p.bytes.length c], [.bool p.whole], rfl, ⟨A, c, rfl, h2, h3, h4⟩, rfl⟩
theorem Row_none {α : Type} {d : Dt α} {w : World} {ok : Nat → Prop} {A : Option Addr} {xs : List α} (h : Row d w ok A xs) (hA : A.isNone = true) : xs = [] := by
  rcases h with h | ⟨ad, rfl, _⟩
  · exact h
  · simp at hA

theorem none_c (b : Nat) (m : Int) (v : Value) (t : TypeId) (w : World) (B : Blk w b #[.int .i64 m, v] t) :
    Ret Try.prog 59 [.pointer (some ⟨b, 0, none⟩)] w fun u w' => u = .bool (decide (m = 0)) ∧ w = w' := by
  have fr0 : Only (fun _ => False) w w := Only.refl _ _
  refine Ret.go Try.func59 rfl Try.ntmps59 rfl ?_
  refine CW.seq ?_
  refine CW.region ?_
  refine WL.y rfl rfl (yi_assign rfl) ?_
  refine WL.done ?_
  refine NW.next ?_
  refine CW.seq ?_
  refine CW.region ?_
  refine WL.y rfl rfl (yi_move rfl) ?_
  refine WL.y rfl rfl (yi_eqlNilPtr Try.runUnderlying23 rfl rfl) ?_
  refine WL.y rfl rfl (yi_move rfl) ?_
  refine WL.split (t := 5) rfl (fun q_ => ?_) (fun q_ => ?_)
  · try replace q_ := of_decide_eq_true q_
    simp at q_
  · try replace q_ := of_decide_eq_false q_
    refine WL.gy rfl rfl rfl rfl rfl (yi_move rfl) ?_
    refine WL.gy rfl rfl rfl rfl rfl (yi_nilCheck rfl) ?_
    refine WL.gy rfl rfl rfl rfl rfl (yi_fieldAddr Try.runUnderlying98 rfl Try.sizeOf3 rfl) ?_
    refine WL.gy rfl rfl rfl rfl rfl (yi_loadB Try.isAgg3 rfl (by assumption) rfl) ?_
    refine WL.gy rfl rfl rfl rfl rfl (yi_eql rfl rfl) ?_
    refine WL.y rfl rfl (yi_pickF rfl rfl) ?_
    refine WL.y rfl rfl (yi_assign rfl) ?_
    refine WL.done ?_
    refine NW.next ?_
    refine CW.ret ?_
    refine NW.ret1 rfl rfl ?_
    exact ⟨_, rfl, rfl, rfl⟩

theorem new_c (m : Int) (w : World) (h0 : 1 ≤ m) (h1 : m ≤ 64) :
    Ret Try.prog 10 [.int .i64 m] w fun u w' => ∃ b, b = w.heap.size ∧ u = .tuple #[.pointer (some ⟨b, 0, none⟩), .int .i64 0] ∧ Same w w' ∧ Blk w' b #[.int .i64 m, .slice none 0 0] 98 ∧ w'.heap.size = b + 1 := by
  have fr0 : Only (fun _ => False) w w := Only.refl _ _
  refine Ret.go Try.func10 rfl Try.ntmps10 rfl ?_
  refine CW.seq ?_
  refine CW.region ?_
  refine WL.y rfl rfl (yi_assign rfl) ?_
  refine WL.y rfl rfl (yi_assign rfl) ?_
  refine WL.done ?_
  refine NW.next ?_
  refine CW.seq ?_
  refine CW.seq ?_
  refine CW.region ?_
  refine WL.y rfl rfl (yi_move rfl) ?_
  refine WL.y rfl rfl (yi_lss rfl rfl) ?_
  refine WL.y rfl rfl (yi_move rfl) ?_
  refine WL.split (t := 6) rfl (fun q_ => ?_) (fun q_ => ?_)
  · try replace q_ := of_decide_eq_true q_
    exact absurd q_ (by omega)
  · try replace q_ := of_decide_eq_false q_
    refine WL.gy rfl rfl rfl rfl rfl (yi_move rfl) ?_
    refine WL.gy rfl rfl rfl rfl rfl (yi_gtr rfl rfl) ?_
    refine WL.y rfl rfl (yi_pickF rfl rfl) ?_
    refine WL.done ?_
    refine NW.next ?_
    refine CW.cond rfl (fun q_f => ?_) (fun q_f => ?_)
    · try replace q_f := of_decide_eq_true q_f
      exact absurd q_f (by omega)
    · try replace q_f := of_decide_eq_false q_f
      refine CW.skip ?_
      refine NW.next ?_
      refine CW.seq ?_
      refine CW.region ?_
      refine WL.y rfl rfl (yi_move rfl) ?_
      refine WL.y rfl rfl (yi_buildS Try.runUnderlying98 Try.zeroValue98 rfl (fun _ => by kernel_rfl)) ?_
      refine WL.e rfl rfl (ef_box rfl) ?_
      rintro _ w6 ⟨b, hb_b, rfl, f3, B4, z_b⟩
      have F7 := Only.same fr0 f3
      have sz8 := f3.size
      refine WL.y rfl rfl (yi_assign rfl) ?_
      refine WL.y rfl rfl (yi_assign rfl) ?_
      refine WL.done ?_
      refine NW.next ?_
      refine CW.ret ?_
      refine NW.ret2 rfl rfl rfl ?_
      exact ⟨_, rfl, b, hb_b, rfl, F7, B4, z_b⟩

theorem clone_c (A : Option Addr) (c : Nat) (bs : List UInt8) (ok : Nat → Prop) (w : World) (R : Row dU8 w ok A bs) (hc : bs.length ≤ c) (hb : bs.length ≤ 140737488355328) :
    Ret Try.prog 67 [.slice A bs.length c] w fun u w' => ∃ A' c', u = .slice A' bs.length c' ∧ bs.length ≤ c' ∧ c' ≤ 9223372036854775807 ∧ Row dU8 w' (fun k => w.heap.size ≤ k) A' bs ∧ Same w w' := by
  replace R := Row.bound (by decide) R
  have fr0 : Only (fun _ => False) w w := Only.refl _ _
  refine Ret.go Try.func67 rfl Try.ntmps67 rfl ?_
  refine CW.seq ?_
  refine CW.region ?_
  refine WL.y rfl rfl (yi_assign rfl) ?_
  refine WL.done ?_
  refine NW.next ?_
  refine CW.seq ?_
  refine CW.seq ?_
  refine CW.region ?_
  refine WL.y rfl rfl (yi_move rfl) ?_
  refine WL.y rfl rfl (yi_eqlNilSl Try.runUnderlying28 rfl rfl) ?_
  refine WL.done ?_
  refine NW.next ?_
  refine CW.cond rfl (fun q_ => ?_) (fun q_ => ?_)
  · try replace q_ := of_decide_eq_true q_
    refine CW.seq ?_
    refine CW.region ?_
    refine WL.y rfl rfl (yi_assign rfl) ?_
    refine WL.done ?_
    refine NW.next ?_
    refine CW.ret ?_
    refine NW.thenRet ?_
    refine NW.ret1 rfl rfl ?_
    obtain rfl := Row_none R q_
    exact ⟨_, rfl, none, 0, rfl, by simp, by omega, Row.nil _ _ _ _, fr0⟩
  · try replace q_ := of_decide_eq_false q_
    refine CW.skip ?_
    refine NW.next ?_
    refine CW.seq ?_
    refine CW.region ?_
    refine WL.e rfl rfl (ef_buildSlice Try.runUnderlying28 Try.sizeOf5 Try.zeroValue5 rfl (fun _ => by kernel_rfl)) ?_
    rintro _ w6 ⟨b, hb_b, rfl, f3, B4, z_b⟩
    have F7 := Row.same (by decide) R f3
    have F8 := Only.same fr0 f3
    have sz9 := f3.size
    refine WL.y rfl rfl (yi_move rfl) ?_
    refine WL.e rfl rfl (ef_append (z := 1) Try.runUnderlying28 (notInt Try.runUnderlying28) Try.typeInfo5 Try.zeroValue5 rfl rfl rfl rfl (⟨rfl, .inr ⟨b, 0, [], rfl, by omega, by omega, rfl, B4⟩⟩ : OwnC _ 5 1 _ 0 []) (by simp [u8s]) (Row.u8 F7) (u8s_one _) (by omega) (by show (0 + bs.length) * 1 ≤ _; omega)) ?_
    rintro u1 w10 ⟨ho, f11, hu⟩
    have F12 := Only.trans F8 f11 (fun i hi hl => by have hl : some b = some i := hl; injection hl with hl; omega)
    have sz13 := f11.size
    refine WL.y rfl rfl (yi_assign rfl) ?_
    refine WL.done ?_
    refine NW.next ?_
    refine CW.ret ?_
    refine NW.ret1 rfl rfl ?_
    obtain ⟨A', c', hv, h2, h3, hs, hA⟩ := ho.slice
    refine ⟨_, rfl, A', c', by rw [hv, Nat.zero_add], by omega, h3, Row.ofU8 (by simpa using hs) (fun ad had => ?_), F12⟩
    have hA' := hA ad had
    rcases hu with hu | hu
    · rw [hu] at hA'; have hA' : some b = some ad.block := hA'; injection hA' with hA'; omega
    · rw [hu] at hA'; injection hA' with hA'; omega

theorem apart_c (p : Par) (A : Option Addr) (c : Nat) (ok : Nat → Prop) (w : World) (R : Row dU8 w ok A p.bytes) (hc : p.bytes.length ≤ c) (hb : p.bytes.length ≤ 140737488355328) :
    Ret Try.prog 122 [.agg #[.int .i64 p.frm, .int .i64 p.to, .slice A p.bytes.length c, .bool p.whole]] w fun u w' => ∃ A' c', u = .agg #[.int .i64 p.frm, .int .i64 p.to, .slice A' p.bytes.length c', .bool p.whole] ∧ p.bytes.length ≤ c' ∧ c' ≤ 9223372036854775807 ∧ Row dU8 w' (fun k => w.heap.size ≤ k) A' p.bytes ∧ Same w w' := by
  replace R := Row.bound (by decide) R
  have fr0 : Only (fun _ => False) w w := Only.refl _ _
  refine Ret.go Try.func122 rfl Try.ntmps122 rfl ?_
  refine CW.seq ?_
  refine CW.region ?_
  refine WL.e rfl rfl (ef_box rfl) ?_
  rintro _ w6 ⟨b1, hb_b1, rfl, f3, B4, z_b1⟩
  have F7 := Row.same (by decide) R f3
  have F8 := Only.same fr0 f3
  have sz9 := f3.size
  refine WL.e rfl rfl (ef_alloc Try.zeroValue35) ?_
  rintro _ w15 ⟨b2, hb_b2, rfl, f12, B13, z_b2⟩
  have F16 := Row.same (by decide) F7 f12
  have F17 := Only.same F8 f12
  have F18 := Blk.same B4 f12
  have sz19 := f12.size
  refine WL.done ?_
  refine NW.next ?_
  refine CW.seq ?_
  refine CW.region ?_
  refine WL.y rfl rfl (yi_fieldAddr Try.runUnderlying35 rfl Try.sizeOf28 rfl) ?_
  refine WL.y rfl rfl (yi_loadB Try.isAgg28 rfl (by assumption) rfl) ?_
  refine WL.e rfl rfl (ef_call Try.call67 rfl (clone_c _ _ p.bytes _ _ F16 hc hb)) ?_
  rintro _ w20 ⟨A', c', rfl, hc', hm', RR22, f21⟩
  have F23 := Row.same (by decide) F16 f21
  have F24 := Only.same F17 f21
  have F25 := Blk.same F18 f21
  have F26 := Blk.same B13 f21
  have sz27 := f21.size
  refine WL.y rfl rfl (yi_fieldAddr Try.runUnderlying35 rfl Try.sizeOf28 rfl) ?_
  refine WL.e rfl rfl (ef_store (b := b1) Try.sizeOf28 rfl rfl F25 rfl rfl rfl) ?_
  rintro _ w31 ⟨rfl, f28, B29, z30⟩
  have F32 := Only.trans F24 f28 (fun i hi hl => by have hl : i = _ := hl; omega)
  have F33 := Blk.only F26 f28 (by show ¬ (_ = _); omega)
  have F34 := Row.only (by decide) RR22 f28 (fun k hk hok hl => by have hl : k = _ := hl; omega)
  refine WL.done ?_
  refine NW.next ?_
  refine CW.seq ?_
  refine CW.region ?_
  refine WL.y rfl rfl (yi_loadW Try.isAgg35 Try.sizeOf35 rfl (by assumption) rfl) ?_
  refine WL.e rfl rfl (ef_store (b := b2) Try.sizeOf35 rfl rfl F33 rfl rfl rfl) ?_
  rintro _ w38 ⟨rfl, f35, B36, z37⟩
  have F39 := Only.trans F32 f35 (fun i hi hl => by have hl : i = _ := hl; omega)
  have F40 := Blk.only B29 f35 (by show ¬ (_ = _); omega)
  have F41 := Row.only (by decide) F34 f35 (fun k hk hok hl => by have hl : k = _ := hl; omega)
  refine WL.done ?_
  refine NW.next ?_
  refine CW.ret ?_
  refine NW.retC rfl rfl Try.isAgg35 Try.sizeOf35 B36 rfl ?_
  exact ⟨_, rfl, A', c', rfl, hc', hm', Row.mono (fun k hk => by omega) F41, F39⟩

end Go.Proofs.YtgmjgdjobkmbgaaN
