/- The net: its calls, walked. -/
import Derived.Test.YtgmjgdjobkmbgaaNetA
import Derived.Test.YtgmjgdjobkmbgaaOwn
set_option linter.unusedVariables false
set_option linter.unusedSimpArgs false
namespace Go.Proofs.YtgmjgdjobkmbgaaN
open Go.Proofs.YtgmjgdjobkmbgaaL Go.RowKit Go.Proofs
attribute [local irreducible] Ef Yi WL PL CW NW Ret
/-- A net in memory: where it is, how many nodes there are, in which blocks it may lie, its parcels. -/
def NetAt (w : World) (b : Nat) (m : Int) (F : Nat → Prop) (L : List Par) : Prop :=
  ∃ v, Blk w b #[.int .i64 m, v] 98 ∧ F b ∧ Own dPar 35 w (fun k => F k ∧ k ≠ b) v L ∧ L.length ≤ 4096 ∧ ∀ p ∈ L, p.bytes.length ≤ 70000
theorem NetAt.only {w w1 : World} {b : Nat} {m : Int} {F L' : Nat → Prop} {L : List Par} (h : NetAt w b m F L) (f : Only L' w w1) (hn : ∀ k, k < w.heap.size → F k → ¬ L' k) : NetAt w1 b m F L := by
  obtain ⟨v, B, hF, O, h1, h2⟩ := h
  exact ⟨v, B.only f (hn b B.lt hF), hF, O.only f (fun k hk hok => hn k hk hok.1), h1, h2⟩
theorem NetAt.same {w w1 : World} {b : Nat} {m : Int} {F : Nat → Prop} {L : List Par} (h : NetAt w b m F L) (f : Same w w1) : NetAt w1 b m F L := h.only f fun _ _ _ hl => hl
theorem NetAt.mono {w : World} {b : Nat} {m : Int} {F F' : Nat → Prop} {L : List Par} (h : NetAt w b m F L) (hF : ∀ k, F k → F' k) : NetAt w b m F' L := by
  obtain ⟨v, B, hb, O, h1, h2⟩ := h
  exact ⟨v, B, hF b hb, O.mono (fun k hk => ⟨hF k hk.1, hk.2⟩), h1, h2⟩
theorem NetAt.bound {w : World} {b : Nat} {m : Int} {F : Nat → Prop} {L : List Par} (h : NetAt w b m F L) : NetAt w b m (fun k => F k ∧ k < w.heap.size) L := by
  obtain ⟨v, B, hb, O, h1, h2⟩ := h
  exact ⟨v, B, ⟨hb, B.lt⟩, O.bound.mono (fun k hk => ⟨⟨hk.1.1, hk.2⟩, hk.1.2⟩), h1, h2⟩
/-- What laying a parcel behind the others tells, and leaves. -/
def layE (L : List Par) : Int := if L.length < 4096 then 0 else 7
def layL (L : List Par) (p : Par) : List Par := if L.length < 4096 then L ++ [p] else L

theorem lay_c (b : Nat) (m : Int) (F : Nat → Prop) (L : List Par) (p : Par) (A : Option Addr) (c : Nat) (ok : Nat → Prop) (w : World) (hN : NetAt w b m F L) (R : Row dU8 w ok A p.bytes) (hc : p.bytes.length ≤ c) (hb : p.bytes.length ≤ 70000) :
    Ret Try.prog 60 [.pointer (some ⟨b, 0, none⟩), .agg #[.int .i64 p.frm, .int .i64 p.to, .slice A p.bytes.length c, .bool p.whole]] w fun u w' => u = .int .i64 (layE L) ∧ NetAt w' b m (grow F w) (layL L p) ∧ Only F w w' := by
  obtain ⟨v, B, hFb, O, hl, hbs⟩ := hN
  have hlt := O.lt
  have hBlt := B.lt
  have O' := O
  obtain ⟨A0, c0, hv, hc0, hm0, R0, hA0⟩ := O'.row (by decide)
  subst hv
  have O0 := O
  replace R := Row.bound (by decide) R
  have fr0 : Only F w w := Only.refl _ _
  refine Ret.go Try.func60 rfl Try.ntmps60 rfl ?_
  refine CW.seq ?_
  refine CW.region ?_
  refine WL.e rfl rfl (ef_box rfl) ?_
  rintro _ w6 ⟨b1, hb_b1, rfl, f3, B4, z_b1⟩
  have F7 := Blk.same B f3
  have F8 := Own.same O f3
  have F9 := Row.same (by decide) R f3
  have F10 := Only.same fr0 f3
  have sz11 := f3.size
  refine WL.y rfl rfl (yi_assign rfl) ?_
  refine WL.done ?_
  refine NW.next ?_
  refine CW.seq ?_
  refine CW.seq ?_
  refine CW.region ?_
  refine WL.y rfl rfl (yi_move rfl) ?_
  refine WL.y rfl rfl (yi_nilCheck rfl) ?_
  refine WL.y rfl rfl (yi_fieldAddr Try.runUnderlying98 rfl Try.sizeOf96 rfl) ?_
  refine WL.y rfl rfl (yi_loadB Try.isAgg96 rfl (by assumption) rfl) ?_
  refine WL.y rfl rfl (yi_len Try.runUnderlying96 rfl) ?_
  refine WL.y rfl rfl (yi_geq rfl rfl) ?_
  refine WL.done ?_
  refine NW.next ?_
  refine CW.cond rfl (fun q_ => ?_) (fun q_ => ?_)
  · try replace q_ := of_decide_eq_true q_
    refine CW.seq ?_
    refine CW.region ?_
    refine WL.y rfl rfl (yi_assign rfl) ?_
    refine WL.done ?_
    refine NW.next ?_
    refine CW.ret ?_
    refine NW.thenRet ?_
    refine NW.ret1 rfl rfl ?_
    have h4 : ¬ L.length < 4096 := by omega
    exact ⟨_, rfl, by rw [layE, if_neg h4], by rw [layL, if_neg h4]; exact ⟨_, F7, .inl hFb, F8.mono (fun k hk => ⟨.inl hk.1, hk.2⟩), hl, hbs⟩, F10⟩
  · try replace q_ := of_decide_eq_false q_
    refine CW.skip ?_
    refine NW.next ?_
    refine CW.seq ?_
    have fd12 : Same w6 w6.drew := Only.drew _ _
    obtain ⟨w13, hww13⟩ : ∃ w1, w1 = w6.drew := ⟨_, rfl⟩
    rw [← hww13] at fd12
    have F14 := Blk.same F7 fd12
    have F15 := Own.same F8 fd12
    have F16 := Row.same (by decide) F9 fd12
    have F17 := Only.same F10 fd12
    have F18 := Blk.same B4 fd12
    have sz19 := fd12.size
    refine CW.draw 11 [(0, true), (1, true), (2, true), (3, true), (4, true), (5, true), (6, false), (7, false), (8, false), (9, true), (10, true), (11, false)] (fun w' => Blk w' b _ _ ∧ Blk w' b1 _ _) Try_mixed (by kernel_rfl) (fun _ _ _ _ h => h) hww13 ⟨F14, F18⟩ ?_
    refine PL.y rfl rfl rfl (fun w' hS => yi_move rfl) ?_
    refine PL.y rfl rfl rfl (fun w' hS => yi_move rfl) ?_
    refine PL.y rfl rfl rfl (fun w' hS => yi_nilCheck rfl) ?_
    refine PL.y rfl rfl rfl (fun w' hS => yi_fieldAddr Try.runUnderlying98 rfl Try.sizeOf96 rfl) ?_
    refine PL.y rfl rfl rfl (fun w' hS => by first | exact yi_loadB Try.isAgg96 rfl hS.1 rfl | exact yi_loadB Try.isAgg96 rfl hS.2 rfl) ?_
    refine PL.y rfl rfl rfl (fun w' hS => by first | exact yi_loadW Try.isAgg35 Try.sizeOf35 rfl hS.1 rfl | exact yi_loadW Try.isAgg35 Try.sizeOf35 rfl hS.2 rfl) ?_
    refine PL.e rfl rfl rfl (ef_call Try.call122 rfl (apart_c p _ _ _ _ F16 hc (by omega))) ?_
    rintro _ w20 ⟨A', c', rfl, hc', hm', RR22, f21⟩
    have F23 := Blk.same F14 f21
    have F24 := Own.same F15 f21
    have F25 := Row.same (by decide) F16 f21
    have F26 := Only.same F17 f21
    have F27 := Blk.same F18 f21
    have sz28 := f21.size
    refine ⟨fun _ => ⟨F23, F27⟩, ?_⟩
    refine PL.e rfl rfl rfl (ef_buildSlice Try.runUnderlying96 Try.sizeOf35 Try.zeroValue35 rfl (fun _ => by kernel_rfl)) ?_
    rintro _ w34 ⟨b2, hb_b2, rfl, f31, B32, z_b2⟩
    have F35 := Blk.same F23 f31
    have F36 := Own.same F24 f31
    have F37 := Only.same F26 f31
    have F38 := Blk.same F27 f31
    have F39 := Row.same (by decide) RR22 f31
    have sz40 := f31.size
    refine ⟨fun _ => ⟨F35, F38⟩, ?_⟩
    have hone : Row dPar _ (fun k => b1 < k) (some ⟨b2, 0, none⟩) [p] := Row.one B32 (by omega) (dPar_mk (p := p) hc' hm' (Row.mono (fun k hk => by omega) F39))
    refine PL.e rfl rfl rfl (ef_appendOwn dPar Try.runUnderlying96 (notInt Try.runUnderlying96) Try.typeInfo35 Try.zeroValue35 rfl rfl rfl rfl F36 rfl hone (fun k hk hok he => by have := hlt k he; omega) (by decide) (by omega) (by show (L.length + 1) * 48 ≤ _; omega)) ?_
    rintro u1 w41 ⟨hO', f42, hu⟩
    have F43 := Blk.only F35 f42 (fun hl => (O0.ok b hl).2 rfl)
    have F44 := Only.trans F37 f42 (fun i hi hl => (O0.ok i hl).1)
    have F45 := Blk.only F38 f42 (fun hl => by have := hlt b1 hl; omega)
    have sz46 := f42.size
    have hO1 := hO'
    obtain ⟨A1, c1, hv1, hc1, hm1, R1, hA1⟩ := hO1.row (by decide)
    subst hv1
    refine ⟨fun _ => ⟨F43, F45⟩, ?_⟩
    refine PL.y rfl rfl rfl (fun w' hS => yi_nilCheck rfl) ?_
    refine PL.y rfl rfl rfl (fun w' hS => yi_fieldAddr Try.runUnderlying98 rfl Try.sizeOf96 rfl) ?_
    refine PL.z rfl rfl rfl rfl rfl (ef_store (b := b) Try.sizeOf96 rfl rfl F43 rfl rfl rfl) ?_
    rintro _ w50 ⟨rfl, f47, B48, z49⟩
    have F51 := Only.trans F44 f47 (fun i hi hl => by have hl : i = _ := hl; subst hl; exact hFb)
    have F52 := Blk.only F45 f47 (by show ¬ (_ = _); omega)
    have F53 := Own.only hO' f47 (fun k hk hok hl => by have hl : k = _ := hl; subst hl; rcases hok with (hok | hok) | hok; exact hok.2 rfl; omega; omega)
    refine PL.done ?_
    refine NW.next ?_
    refine CW.seq ?_
    refine CW.region ?_
    refine WL.y rfl rfl (yi_assign rfl) ?_
    refine WL.done ?_
    refine NW.next ?_
    refine CW.ret ?_
    refine NW.ret1 rfl rfl ?_
    have h4 : L.length < 4096 := by omega
    refine ⟨_, rfl, by rw [layE, if_pos h4], ?_, F51⟩
    rw [layL, if_pos h4]
    have Bn : Blk _ b #[.int .i64 m, .slice A1 (L ++ [p]).length c1] 98 := B48
    refine ⟨_, Bn, .inl hFb, F53.mono (fun k hk => ?_), by simp; omega, ?_⟩
    · rcases hk with (⟨h5, h6⟩ | h5) | h5
      · exact ⟨.inl h5, h6⟩
      · exact ⟨.inr (by omega), by omega⟩
      · exact ⟨.inr (by omega), by omega⟩
    · intro q hq
      rcases List.mem_append.1 hq with hq | hq
      · exact hbs q hq
      · rw [List.mem_singleton.1 hq]; exact hb

theorem send1_c (b nb : Nat) (m i : Int) (v : Value) (t : TypeId) (w : World) (B : Blk w b #[.int .i64 m, v] 98) (N : Blk w nb #[.pointer (some ⟨b, 0, none⟩)] t) :
    Ret Try.prog 58 [.int .i64 i, .pointer (some ⟨nb, 0, none⟩)] w fun u w' => u = .bool (decide (0 ≤ i ∧ i < m)) ∧ w = w' := by
  have fr0 : Only (fun _ => False) w w := Only.refl _ _
  refine Ret.go Try.func58 rfl Try.ntmps58 rfl ?_
  refine CW.seq ?_
  refine CW.region ?_
  refine WL.y rfl rfl (yi_assign rfl) ?_
  refine WL.done ?_
  refine NW.next ?_
  refine CW.seq ?_
  refine CW.region ?_
  refine WL.y rfl rfl (yi_move rfl) ?_
  refine WL.y rfl rfl (yi_geq rfl rfl) ?_
  refine WL.y rfl rfl (yi_move rfl) ?_
  refine WL.split (t := 6) rfl (fun q_ => ?_) (fun q_ => ?_)
  · try replace q_ := of_decide_eq_true q_
    refine WL.gy rfl rfl rfl rfl rfl (yi_move rfl) ?_
    refine WL.gy rfl rfl rfl rfl rfl (yi_loadB Try.isAgg23 rfl (by assumption) rfl) ?_
    refine WL.gy rfl rfl rfl rfl rfl (yi_nilCheck rfl) ?_
    refine WL.gy rfl rfl rfl rfl rfl (yi_fieldAddr Try.runUnderlying98 rfl Try.sizeOf3 rfl) ?_
    refine WL.gy rfl rfl rfl rfl rfl (yi_loadB Try.isAgg3 rfl (by assumption) rfl) ?_
    refine WL.gy rfl rfl rfl rfl rfl (yi_lss rfl rfl) ?_
    refine WL.y rfl rfl (yi_pickT rfl rfl) ?_
    refine WL.y rfl rfl (yi_assign rfl) ?_
    refine WL.done ?_
    refine NW.next ?_
    refine CW.ret ?_
    refine NW.ret1 rfl rfl ?_
    exact ⟨_, rfl, by simp [q_], rfl⟩
  · try replace q_ := of_decide_eq_false q_
    refine WL.no rfl rfl rfl rfl rfl rfl ?_
    refine WL.no rfl rfl rfl rfl rfl rfl ?_
    refine WL.no rfl rfl rfl rfl rfl rfl ?_
    refine WL.no rfl rfl rfl rfl rfl rfl ?_
    refine WL.no rfl rfl rfl rfl rfl rfl ?_
    refine WL.no rfl rfl rfl rfl rfl rfl ?_
    refine WL.y rfl rfl (yi_pickF rfl rfl) ?_
    refine WL.y rfl rfl (yi_assign rfl) ?_
    refine WL.done ?_
    refine NW.next ?_
    refine CW.ret ?_
    refine NW.ret1 rfl rfl ?_
    exact ⟨_, rfl, by simp [q_], rfl⟩

def sendE (m : Int) (L : List Par) (p : Par) : Int := if ¬ (0 ≤ p.frm ∧ p.frm < m) ∨ ¬ (0 ≤ p.to ∧ p.to < m) then 1 else if 70000 < p.bytes.length then 3 else layE L
def sendL (m : Int) (L : List Par) (p : Par) : List Par := if ¬ (0 ≤ p.frm ∧ p.frm < m) ∨ ¬ (0 ≤ p.to ∧ p.to < m) then L else if 70000 < p.bytes.length then L else layL L p

theorem send_c (b : Nat) (m : Int) (F : Nat → Prop) (L : List Par) (i j : Int) (bs : List UInt8) (A : Option Addr) (c : Nat) (ok : Nat → Prop) (w : World) (hN : NetAt w b m F L) (hm : 1 ≤ m) (R : Row dU8 w ok A bs) (hc : bs.length ≤ c) :
    Ret Try.prog 11 [.pointer (some ⟨b, 0, none⟩), .int .i64 i, .int .i64 j, .slice A bs.length c] w fun u w' => u = .int .i64 (sendE m L ⟨i, j, bs, true⟩) ∧ NetAt w' b m (grow F w) (sendL m L ⟨i, j, bs, true⟩) ∧ Only F w w' := by
  have hN0 := hN
  obtain ⟨v, B, hFb, -, -, -⟩ := hN0
  have hBlt := B.lt
  replace hN := hN.bound
  replace R := Row.bound (by decide) R
  have fr0 : Only F w w := Only.refl _ _
  refine Ret.go Try.func11 rfl Try.ntmps11 rfl ?_
  refine CW.seq ?_
  refine CW.region ?_
  refine WL.e rfl rfl (ef_box rfl) ?_
  rintro _ w6 ⟨nb, hb_nb, rfl, f3, B4, z_nb⟩
  have F7 := Blk.same B f3
  have F8 := NetAt.same hN f3
  have F9 := Row.same (by decide) R f3
  have F10 := Only.same fr0 f3
  have sz11 := f3.size
  refine WL.y rfl rfl (yi_assign rfl) ?_
  refine WL.done ?_
  refine NW.next ?_
  refine CW.seq ?_
  refine CW.region ?_
  refine WL.y rfl rfl (yi_makeFunc rfl rfl) ?_
  refine WL.y rfl rfl (yi_assign rfl) ?_
  refine WL.done ?_
  refine NW.next ?_
  refine CW.seq ?_
  refine CW.block ?_
  refine CW.seq ?_
  refine CW.region ?_
  refine WL.y rfl rfl (yi_loadB Try.isAgg23 rfl (by assumption) rfl) ?_
  refine WL.e rfl rfl (ef_call Try.call59 rfl (none_c b m _ _ _ F7)) ?_
  rintro _ w12 ⟨rfl, rfl⟩
  refine WL.y rfl rfl (yi_assign rfl) ?_
  refine WL.done ?_
  refine NW.next ?_
  refine CW.cond rfl (fun q_ => ?_) (fun q_ => ?_)
  · try replace q_ := of_decide_eq_true q_
    exact absurd q_ (by omega)
  · try replace q_ := of_decide_eq_false q_
    refine CW.seq ?_
    refine CW.region ?_
    refine WL.y rfl rfl (yi_move rfl) ?_
    refine WL.y rfl rfl (yi_move rfl) ?_
    refine WL.e rfl rfl (ef_callv Try.call58 rfl rfl (send1_c b nb m i _ _ _ F7 B4)) ?_
    rintro _ w14 ⟨rfl, rfl⟩
    refine WL.y rfl rfl (yi_notP rfl) ?_
    refine WL.y rfl rfl (yi_move rfl) ?_
    refine WL.split (t := 19) rfl (fun q_F => ?_) (fun q_F => ?_)
    · try replace q_F := of_decide_eq_true q_F
      refine WL.no rfl rfl rfl rfl rfl rfl ?_
      refine WL.no rfl rfl rfl rfl rfl rfl ?_
      refine WL.no rfl rfl rfl rfl rfl rfl ?_
      refine WL.no rfl rfl rfl rfl rfl rfl ?_
      refine WL.y rfl rfl (yi_pickT rfl rfl) ?_
      refine WL.y rfl rfl (yi_assign rfl) ?_
      refine WL.done ?_
      refine NW.next ?_
      refine CW.condT rfl ?_
      refine CW.seq ?_
      refine CW.region ?_
      refine WL.y rfl rfl (yi_assign rfl) ?_
      refine WL.done ?_
      refine NW.next ?_
      refine CW.ret ?_
      refine NW.blockRet ?_
      refine NW.thenRet ?_
      refine NW.ret1 rfl rfl ?_
      have hq : ¬ (0 ≤ i ∧ i < m) ∨ ¬ (0 ≤ j ∧ j < m) := .inl q_F
      exact ⟨_, rfl, by rw [sendE, if_pos hq], by rw [sendL, if_pos hq]; exact F8.mono (fun k hk => .inl hk.1), F10⟩
    · try replace q_F := of_decide_eq_false q_F
      refine WL.gy rfl rfl rfl rfl rfl (yi_move rfl) ?_
      refine WL.gy rfl rfl rfl rfl rfl (yi_move rfl) ?_
      refine WL.ge rfl rfl rfl rfl rfl (ef_callv Try.call58 rfl rfl (send1_c b nb m j _ _ _ F7 B4)) ?_
      rintro _ w16 ⟨rfl, rfl⟩
      refine WL.gy rfl rfl rfl rfl rfl (yi_notP rfl) ?_
      refine WL.y rfl rfl (yi_pickF rfl rfl) ?_
      refine WL.y rfl rfl (yi_assign rfl) ?_
      refine WL.done ?_
      refine NW.next ?_
      refine CW.cond rfl (fun q_Ff => ?_) (fun q_Ff => ?_)
      · try replace q_Ff := of_decide_eq_true q_Ff
        refine CW.seq ?_
        refine CW.region ?_
        refine WL.y rfl rfl (yi_assign rfl) ?_
        refine WL.done ?_
        refine NW.next ?_
        refine CW.ret ?_
        refine NW.blockRet ?_
        refine NW.thenRet ?_
        refine NW.ret1 rfl rfl ?_
        have hq : ¬ (0 ≤ i ∧ i < m) ∨ ¬ (0 ≤ j ∧ j < m) := .inr q_Ff
        exact ⟨_, rfl, by rw [sendE, if_pos hq], by rw [sendL, if_pos hq]; exact F8.mono (fun k hk => .inl hk.1), F10⟩
      · try replace q_Ff := of_decide_eq_false q_Ff
        refine CW.seq ?_
        refine CW.region ?_
        refine WL.y rfl rfl (yi_move rfl) ?_
        refine WL.y rfl rfl (yi_len Try.runUnderlying28 rfl) ?_
        refine WL.y rfl rfl (yi_gtr rfl rfl) ?_
        refine WL.y rfl rfl (yi_assign rfl) ?_
        refine WL.done ?_
        refine NW.next ?_
        refine CW.cond rfl (fun q_FfF => ?_) (fun q_FfF => ?_)
        · try replace q_FfF := of_decide_eq_true q_FfF
          refine CW.seq ?_
          refine CW.region ?_
          refine WL.y rfl rfl (yi_assign rfl) ?_
          refine WL.done ?_
          refine NW.next ?_
          refine CW.ret ?_
          refine NW.blockRet ?_
          refine NW.thenRet ?_
          refine NW.ret1 rfl rfl ?_
          have hq : ¬ (¬ (0 ≤ i ∧ i < m) ∨ ¬ (0 ≤ j ∧ j < m)) := fun h => h.elim q_F q_Ff
          have hq2 : 70000 < bs.length := by omega
          exact ⟨_, rfl, by rw [sendE, if_neg hq, if_pos hq2], by rw [sendL, if_neg hq, if_pos hq2]; exact F8.mono (fun k hk => .inl hk.1), F10⟩
        · try replace q_FfF := of_decide_eq_false q_FfF
          refine CW.skip ?_
          refine NW.blockEnd ?_
          refine NW.next ?_
          refine CW.seq ?_
          refine CW.region ?_
          refine WL.y rfl rfl (yi_loadB Try.isAgg23 rfl (by assumption) rfl) ?_
          refine WL.y rfl rfl (yi_move rfl) ?_
          refine WL.y rfl rfl (yi_move rfl) ?_
          refine WL.y rfl rfl (yi_move rfl) ?_
          refine WL.y rfl rfl (yi_buildS Try.runUnderlying35 Try.zeroValue35 rfl (fun _ => by kernel_rfl)) ?_
          refine WL.e rfl rfl (ef_call Try.call60 rfl (lay_c b m _ L ⟨i, j, bs, true⟩ A c _ _ F8 F9 hc (by show bs.length ≤ 70000; omega))) ?_
          rintro _ w18 ⟨rfl, hN', f19⟩
          have F20 := Only.trans F10 f19 (fun i hi hl => hl.1)
          have sz21 := f19.size
          refine WL.y rfl rfl (yi_assign rfl) ?_
          refine WL.done ?_
          refine NW.next ?_
          refine CW.ret ?_
          refine NW.ret1 rfl rfl ?_
          have hq : ¬ (¬ (0 ≤ i ∧ i < m) ∨ ¬ (0 ≤ j ∧ j < m)) := fun h => h.elim q_F q_Ff
          have hq2 : ¬ 70000 < bs.length := by omega
          exact ⟨_, rfl, by rw [sendE, if_neg hq, if_neg hq2], by rw [sendL, if_neg hq, if_neg hq2]; exact hN'.mono (fun k hk => hk.elim (fun hk => .inl hk.1) (fun hk => .inr (by omega))), F20⟩

end Go.Proofs.YtgmjgdjobkmbgaaN
