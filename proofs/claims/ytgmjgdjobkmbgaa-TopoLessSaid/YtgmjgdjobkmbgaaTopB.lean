/- A topology: its edges, the next hops, those ahead, walked. -/
import Derived.Test.YtgmjgdjobkmbgaaTopA
set_option linter.unusedVariables false
set_option linter.unusedSimpArgs false
namespace Go.Proofs.YtgmjgdjobkmbgaaN
open Go.Proofs.YtgmjgdjobkmbgaaL Go.RowKit Go.Proofs
attribute [local irreducible] Ef Yi WL PL CW NW Ret
open Go.Lib Go.Sort
structure Ed where
  frm : Int
  to : Int
deriving DecidableEq
def dEd : Dt Ed := dIso (dPair dI dI) fun e => (e.frm, e.to)
def dEds : Dt (List Ed) := dSlice dEd (by decide)
structure Tp where
  epoch : Int
  up : List Bool
  hops : List (List Ed)
theorem dEd_K {w : World} {ok : Nat → Prop} {e : Ed} {cs : List Value} (h : dEd.K w ok e cs) : cs = [.int .i64 e.frm, .int .i64 e.to] := by
  obtain ⟨c0, c1, rfl, h0, h1⟩ := h
  rw [show c0 = [.int .i64 e.frm] from h0, show c1 = [.int .i64 e.to] from h1]
  rfl
theorem dEd_mk {w : World} {ok : Nat → Prop} {e : Ed} : dEd.K w ok e [.int .i64 e.frm, .int .i64 e.to] := ⟨[_], [_], rfl, rfl, rfl⟩
theorem ed_at {w : World} {ok : Nat → Prop} {A : Option Addr} {L : List Ed} (R : Row dEd w ok A L) {k : Nat} {e : Ed} (he : L[k]? = some e) : ∃ ad, A = some ad ∧ ok ad.block ∧ Seg w (some (ad.add (k * 2))) [.int .i64 e.frm, .int .i64 e.to] := by
  obtain ⟨ad, cs, hA, hb, hK, hl, hc⟩ := R.get he
  have h1 := dEd_K hK
  subst h1
  refine ⟨ad, hA, hb, .inr ⟨_, rfl, fun j u hu => ?_⟩⟩
  have := hc j u hu
  rw [← add_add] at this
  exact this
theorem hop_at {w : World} {ok : Nat → Prop} {A : Option Addr} {L : List (List Ed)} (R : Row dEds w ok A L) {k : Nat} {e : List Ed} (he : L[k]? = some e) : ∃ ad A' c, A = some ad ∧ ok ad.block ∧ w.cell? (ad.add k) = some (.slice A' e.length c) ∧ e.length ≤ c ∧ c ≤ 9223372036854775807 ∧ Row dEd w ok A' e := by
  obtain ⟨ad, cs, hA, hb, ⟨A', c, rfl, h1, h2, h3⟩, hl, hc⟩ := R.get he
  refine ⟨ad, A', c, hA, hb, ?_, h1, h2, h3⟩
  have := hc 0 _ rfl
  have e : k * dEds.sz + 0 = k := by show k * 1 + 0 = k; omega
  rwa [e] at this
def edgesOf (t : Tp) (flow : Int) : List Ed := if 0 ≤ flow then t.hops.getD flow.toNat [] else []
def collect (g : Ed → Int × Bool) (l : List Ed) : List Int := l.filterMap fun e => if (g e).2 then some (g e).1 else none
def endsOf (l : List Ed) (g : Ed → Int × Bool) : List Int := Lib.compact (sortI (collect g l))
theorem collect_len (g : Ed → Int × Bool) (l : List Ed) : (collect g l).length ≤ l.length := List.length_filterMap_le _ _
theorem collect_take {g : Ed → Int × Bool} {l : List Ed} {k : Nat} {e : Ed} (he : l[k]? = some e) : collect g (l.take (k + 1)) = collect g (l.take k) ++ if (g e).2 then [(g e).1] else [] := by
  have h := List.take_add_one (l := l) (i := k)
  rw [h, he]
  simp only [collect, List.filterMap_append, Option.toList]
  split <;> simp [*]
def Gives (f : FuncId) (cs : Array Value) (w : World) (g : Ed → Int × Bool) : Prop := ∀ e w1, Same w w1 → Ret Try.prog f ([.agg #[.int .i64 e.frm, .int .i64 e.to]] ++ cs.toList) w1 fun u w2 => u = .tuple #[.int .i64 (g e).1, .bool (g e).2] ∧ Same w1 w2

theorem within_c (n a b : Int) (w : World) :
    Ret Try.prog 95 [.int .i64 n, .int .i64 a, .int .i64 b] w fun u w' => u = .bool (decide (a ≤ n ∧ n ≤ b)) ∧ w = w' := by
  refine Ret.go Try.func95 rfl Try.ntmps95 rfl ?_
  refine CW.seq ?_
  refine CW.region ?_
  refine WL.y rfl rfl (yi_assign rfl) ?_
  refine WL.done ?_
  refine NW.next ?_
  refine CW.seq ?_
  refine CW.region ?_
  refine WL.y rfl rfl (yi_move rfl) ?_
  refine WL.y rfl rfl (yi_move rfl) ?_
  refine WL.y rfl rfl (yi_geq rfl rfl) ?_
  refine WL.y rfl rfl (yi_move rfl) ?_
  refine WL.split (t := 10) rfl (fun q_ => ?_) (fun q_ => ?_)
  · try replace q_ := of_decide_eq_true q_
    refine WL.gy rfl rfl rfl rfl rfl (yi_move rfl) ?_
    refine WL.gy rfl rfl rfl rfl rfl (yi_move rfl) ?_
    refine WL.gy rfl rfl rfl rfl rfl (yi_leq rfl rfl) ?_
    refine WL.y rfl rfl (yi_pickT rfl rfl) ?_
    refine WL.y rfl rfl (yi_assign rfl) ?_
    refine WL.done ?_
    refine NW.next ?_
    refine CW.ret ?_
    refine NW.ret1 rfl rfl ?_
    exact ⟨_, rfl, by simp [q_], rfl⟩
  · try replace q_ := of_decide_eq_false q_
    refine WL.no rfl rfl rfl rfl rfl rfl ?_
    refine WL.no rfl rfl rfl rfl rfl rfl ?_
    refine WL.no rfl rfl rfl rfl rfl rfl ?_
    refine WL.y rfl rfl (yi_pickF rfl rfl) ?_
    refine WL.y rfl rfl (yi_assign rfl) ?_
    refine WL.done ?_
    refine NW.next ?_
    refine CW.ret ?_
    refine NW.ret1 rfl rfl ?_
    exact ⟨_, rfl, by simp [q_], rfl⟩

theorem edges_c (t : Tp) (Au Ah : Option Addr) (cu ch : Nat) (ok : Nat → Prop) (w : World) (R : Row dEds w ok Ah t.hops) (hc : t.hops.length ≤ ch) (hm : ch ≤ 9223372036854775807) (flow : Int) :
    Ret Try.prog 107 [.agg #[.int .u64 t.epoch, .slice Au t.up.length cu, .slice Ah t.hops.length ch], .int .i64 flow] w fun u w' => ∃ A c, u = .slice A (edgesOf t flow).length c ∧ (edgesOf t flow).length ≤ c ∧ c ≤ 9223372036854775807 ∧ Row dEd w' ok A (edgesOf t flow) ∧ Same w w' := by
  have fr0 : Only (fun _ => False) w w := Only.refl _ _
  refine Ret.go Try.func107 rfl Try.ntmps107 rfl ?_
  refine CW.seq ?_
  refine CW.region ?_
  refine WL.e rfl rfl (ef_box rfl) ?_
  rintro _ w6 ⟨tb, hb_tb, rfl, f3, B4, z_tb⟩
  have F7 := Row.same (by decide) R f3
  have F8 := Only.same fr0 f3
  have sz9 := f3.size
  refine WL.y rfl rfl (yi_assign rfl) ?_
  refine WL.done ?_
  refine NW.next ?_
  refine CW.seq ?_
  refine CW.seq ?_
  refine CW.region ?_
  refine WL.y rfl rfl (yi_move rfl) ?_
  refine WL.y rfl rfl (yi_fieldAddr Try.runUnderlying60 rfl Try.sizeOf58 rfl) ?_
  refine WL.y rfl rfl (yi_loadB Try.isAgg58 rfl (by assumption) rfl) ?_
  refine WL.y rfl rfl (yi_len Try.runUnderlying58 rfl) ?_
  refine WL.y rfl rfl (yi_subI rfl rfl (by omega) (by omega)) ?_
  refine WL.e rfl rfl (ef_call Try.call95 rfl (within_c flow 0 _ _)) ?_
  rintro _ w10 ⟨rfl, rfl⟩
  refine WL.y rfl rfl (yi_notP rfl) ?_
  refine WL.done ?_
  refine NW.next ?_
  refine CW.cond rfl (fun q_ => ?_) (fun q_ => ?_)
  · try replace q_ := of_decide_eq_true q_
    refine CW.seq ?_
    refine CW.region ?_
    refine WL.y rfl rfl (yi_assign rfl) ?_
    refine WL.done ?_
    refine NW.next ?_
    refine CW.ret ?_
    refine NW.thenRet ?_
    refine NW.ret1 rfl rfl ?_
    have hn : edgesOf t flow = [] := (by unfold edgesOf; split; exact (by rw [List.getD_eq_getElem?_getD, List.getElem?_eq_none (by omega)]; rfl); rfl)
    rw [hn]
    exact ⟨_, rfl, none, 0, rfl, Nat.le_refl _, by omega, Row.nil _ _ _ _, F8⟩
  · try replace q_ := of_decide_eq_false q_
    obtain ⟨j, rfl⟩ := Int.eq_ofNat_of_zero_le (show 0 ≤ flow by omega)
    obtain ⟨l, hl⟩ : ∃ l, t.hops[j]? = some l := ⟨t.hops[j]'(by omega), List.getElem?_eq_getElem (by omega)⟩
    obtain ⟨ad, A', c', hA, hb, hcell, h1, h2, h3⟩ := hop_at F7 hl
    subst hA
    refine CW.skip ?_
    refine NW.next ?_
    refine CW.seq ?_
    refine CW.region ?_
    refine WL.y rfl rfl (yi_fieldAddr Try.runUnderlying60 rfl Try.sizeOf58 rfl) ?_
    refine WL.y rfl rfl (yi_loadB Try.isAgg58 rfl (by assumption) rfl) ?_
    refine WL.y rfl rfl (yi_move rfl) ?_
    refine WL.y rfl rfl (yi_indexAddr Try.runUnderlying58 Try.sizeOf83 rfl rfl (by omega) (by omega)) ?_
    refine WL.as_ (t := 15) (v' := .pointer (some (ad.add j))) rfl (by rw [Int.toNat_natCast, Nat.mul_one]) ?_
    refine WL.y rfl rfl (yi_load1 Try.isAgg83 rfl hcell) ?_
    refine WL.y rfl rfl (yi_assign rfl) ?_
    refine WL.done ?_
    refine NW.next ?_
    refine CW.ret ?_
    refine NW.ret1 rfl rfl ?_
    have hn : edgesOf t j = l := by unfold edgesOf; rw [if_pos (by omega), Int.toNat_natCast, List.getD_eq_getElem?_getD, hl]; rfl
    rw [hn]
    exact ⟨_, rfl, A', c', rfl, h1, h2, h3, F8⟩

theorem ends_c (A : Option Addr) (c : Nat) (L : List Ed) (ok : Nat → Prop) (f : FuncId) (cs : Array Value) (g : Ed → Int × Bool) (w : World) (R : Row dEd w ok A L) (hok : ∀ k, ok k → k < w.heap.size) (hL : L.length ≤ 1000000) (hcall : ∀ args w, (callFunc f args).run Try.prog w = .ok (.enter f args) w) (hg : Gives f cs w g) :
    Ret Try.prog 97 [.slice A L.length c, .func (.func f) #[] cs] w fun u w' => Own dI 3 w' (fun k => w.heap.size ≤ k) u (endsOf L g) ∧ Same w w' := by
  have fr0 : Only (fun _ => False) w w := Only.refl _ _
  refine Ret.go Try.func97 rfl Try.ntmps97 rfl ?_
  refine CW.seq ?_
  refine CW.region ?_
  refine WL.y rfl rfl (yi_assign rfl) ?_
  refine WL.done ?_
  refine NW.next ?_
  refine CW.seq ?_
  refine CW.region ?_
  refine WL.y rfl rfl (yi_assign rfl) ?_
  refine WL.done ?_
  refine NW.next ?_
  refine CW.seq ?_
  refine CW.seq ?_
  refine CW.region ?_
  refine WL.y rfl rfl (yi_move rfl) ?_
  refine WL.y rfl rfl (yi_len Try.runUnderlying83 rfl) ?_
  refine WL.y rfl rfl (yi_move rfl) ?_
  refine WL.done ?_
  refine NW.next ?_
  refine CW.block ?_
  refine CW.loop (fun mm a w' => ∃ (i : Nat) (v5 : Value), mm = L.length - i ∧ i ≤ L.length ∧ Same w w' ∧ Own dI 3 w' (fun k => w.heap.size ≤ k) v5 (collect g (L.take i)) ∧ Env 32 [] [(1, .func (.func f) #[] cs), (5, v5), (10, .slice A L.length c), (11, .int .i64 L.length), (12, .int .i64 i)] a) (L.length) ?_ ?_
  · exact fun a ha => ⟨0, _, rfl, by omega, fr0, Own.nil _ _ _ _, ha.sub ⟨rfl, rfl, rfl, rfl, rfl, trivial⟩⟩
  · rintro mm a w1 ⟨i, v5, rfl, hi, fr, O, ha⟩
    refine CW.at ha ?_
    have Rk := Row.same (by decide) R fr
    have hsz := fr.size
    replace O := O.bound
    have hlen : (collect g (L.take i)).length ≤ 1000000 := by have := collect_len g (L.take i); rw [List.length_take] at this; omega
    refine CW.seq ?_
    refine CW.region ?_
    refine WL.y rfl rfl (yi_lss rfl rfl) ?_
    refine WL.done ?_
    refine NW.next ?_
    refine CW.seq ?_
    refine CW.cond rfl (fun q_L => ?_) (fun q_L => ?_)
    · try replace q_L := of_decide_eq_true q_L
      obtain ⟨e, he⟩ : ∃ e, L[i]? = some e := ⟨L[i]'(by omega), List.getElem?_eq_getElem (by omega)⟩
      obtain ⟨ad, hA, hb, E⟩ := ed_at Rk he
      subst hA
      refine CW.skip ?_
      refine NW.next ?_
      refine CW.seq ?_
      refine CW.block ?_
      refine CW.seq ?_
      refine CW.region ?_
      refine WL.y rfl rfl (yi_indexAddr Try.runUnderlying83 Try.sizeOf86 rfl rfl (by omega) (by omega)) ?_
      refine WL.as_ (t := 14) (v' := .pointer (some (ad.add (i * 2)))) rfl (by rw [Int.toNat_natCast]) ?_
      refine WL.y rfl rfl (yi_loadA (cs := [.int .i64 e.frm, .int .i64 e.to]) Try.isAgg86 Try.sizeOf86 rfl rfl (Seg.get E)) ?_
      refine WL.e rfl rfl (ef_alloc Try.zeroValue86) ?_
      rintro _ w7 ⟨eb, hb_eb, rfl, f4, B5, z_eb⟩
      have F8 := Only.same fr f4
      have F9 := Own.same O f4
      have F10 := Row.same (by decide) Rk f4
      have sz11 := f4.size
      refine WL.e rfl rfl (ef_store (b := eb) Try.sizeOf86 rfl rfl B5 rfl rfl rfl) ?_
      rintro _ w15 ⟨rfl, f12, B13, z14⟩
      have F16 := Only.trans F8 f12 (fun i hi hl => by have hl : i = _ := hl; omega)
      have F17 := Own.only F9 f12 (fun k hk hok' hl => by have hl : k = _ := hl; omega)
      have F18 := Row.only (by decide) F10 f12 (fun k hk hok' hl => by have hl : k = _ := hl; have := hok k hok'; omega)
      refine WL.done ?_
      refine NW.next ?_
      refine CW.seq ?_
      refine CW.region ?_
      refine WL.y rfl rfl (yi_move rfl) ?_
      refine WL.y rfl rfl (yi_loadW Try.isAgg86 Try.sizeOf86 rfl (by assumption) rfl) ?_
      refine WL.e rfl rfl (ef_callv hcall rfl rfl (hg e _ F16)) ?_
      rintro _ w19 ⟨rfl, f20⟩
      have F21 := Only.same F16 f20
      have F22 := Own.same F17 f20
      have F23 := Row.same (by decide) F18 f20
      have F24 := Blk.same B13 f20
      have sz25 := f20.size
      refine WL.y rfl rfl (yi_move rfl) ?_
      refine WL.y rfl rfl (yi_extract rfl rfl) ?_
      refine WL.y rfl rfl (yi_extract rfl rfl) ?_
      refine WL.y rfl rfl (yi_assign rfl) ?_
      refine WL.y rfl rfl (yi_assign rfl) ?_
      refine WL.done ?_
      refine NW.next ?_
      refine CW.seq ?_
      refine CW.region ?_
      refine WL.y rfl rfl (yi_move rfl) ?_
      refine WL.done ?_
      refine NW.next ?_
      refine CW.cond rfl (fun q_LT => ?_) (fun q_LT => ?_)
      · try replace q_LT := of_decide_eq_true q_LT
        refine CW.region ?_
        refine WL.y rfl rfl (yi_move rfl) ?_
        refine WL.y rfl rfl (yi_move rfl) ?_
        refine WL.e rfl rfl (ef_buildSlice Try.runUnderlying49 Try.sizeOf3 Try.zeroValue3 rfl (fun _ => by kernel_rfl)) ?_
        rintro _ w31 ⟨nb, hb_nb, rfl, f28, B29, z_nb⟩
        have F32 := Only.same F21 f28
        have F33 := Own.same F22 f28
        have F34 := Row.same (by decide) F23 f28
        have F35 := Blk.same F24 f28
        have sz36 := f28.size
        have hone : Row dI _ (fun k => k = nb) (some ⟨nb, 0, none⟩) [(g e).1] := Row.one B29 rfl rfl
        have hownok := F33.ok
        refine WL.e rfl rfl (ef_appendOwn (k := 1) dI Try.runUnderlying49 (notInt Try.runUnderlying49) Try.typeInfo3 Try.zeroValue3 rfl rfl rfl rfl F33 rfl hone (fun k hk hok he => by have hok : k = nb := hok; have := hownok k he; omega) (by decide) (by omega) (by show (_ + 1) * 8 ≤ _; omega)) ?_
        rintro u5 w37 ⟨hO', f38, hu⟩
        have F39 := Only.trans F32 f38 (fun i hi hl => by have := hownok i hl; omega)
        have F40 := Row.only (by decide) F34 f38 (fun k hk hok' hl => by have := hownok k hl; have := hok k hok'; omega)
        have F41 := Blk.only F35 f38 (fun hl => by have := hownok eb hl; omega)
        have sz42 := f38.size
        have hO2 := hO'.mono (ok' := fun k => w.heap.size ≤ k) (fun k hk => by rcases hk with (hk | hk) | hk <;> omega)
        refine WL.y rfl rfl (yi_assign rfl) ?_
        refine WL.done ?_
        refine NW.blockEnd ?_
        refine NW.next ?_
        refine CW.region ?_
        refine WL.y rfl rfl (yi_addI rfl rfl (by omega) (by omega)) ?_
        refine WL.as_ (t := 27) (v' := .int .i64 ((i + 1 : Nat) : Int)) rfl (congrArg (Value.int .i64) (by omega)) ?_
        refine WL.y rfl rfl (yi_move rfl) ?_
        refine WL.done ?_
        refine NW.round (L.length - (i + 1)) (by omega) ?_
        have hc2 := collect_take (g := g) he
        rw [q_LT] at hc2
        exact fun a ha => ⟨i + 1, _, rfl, by omega, F39, by rw [hc2]; exact hO2, ha.sub ⟨rfl, rfl, rfl, rfl, rfl, trivial⟩⟩
      · try replace q_LT := of_decide_eq_false q_LT
        refine CW.skip ?_
        refine NW.blockEnd ?_
        refine NW.next ?_
        refine CW.region ?_
        refine WL.y rfl rfl (yi_addI rfl rfl (by omega) (by omega)) ?_
        refine WL.as_ (t := 27) (v' := .int .i64 ((i + 1 : Nat) : Int)) rfl (congrArg (Value.int .i64) (by omega)) ?_
        refine WL.y rfl rfl (yi_move rfl) ?_
        refine WL.done ?_
        refine NW.round (L.length - (i + 1)) (by omega) ?_
        have hc2 := collect_take (g := g) he
        rw [q_LT] at hc2
        simp only [Bool.false_eq_true, if_false, List.append_nil] at hc2
        exact fun a ha => ⟨i + 1, _, rfl, by omega, F21, by rw [hc2]; exact F22.mono (fun k hk => hk.1), ha.sub ⟨rfl, rfl, rfl, rfl, rfl, trivial⟩⟩
    · try replace q_L := of_decide_eq_false q_L
      refine CW.exit ?_
      refine NW.thenExit ?_
      refine NW.thenExit ?_
      refine NW.blockHit ?_
      refine NW.next ?_
      refine CW.seq ?_
      refine CW.region ?_
      refine WL.y rfl rfl (yi_move rfl) ?_
      have hiL : i = L.length := by omega
      have O9 := O
      rw [hiL, List.take_length] at O9
      have hown9 := O9.ok
      refine WL.e rfl rfl (ef_call Try.call102 rfl (sort_c O9 (by have := collect_len g L; omega))) ?_
      rintro _ w43 ⟨hO2, f44⟩
      have F45 := Only.trans fr f44 (fun i hi hl => by have := hown9 i hl; omega)
      have sz46 := f44.size
      refine WL.done ?_
      refine NW.next ?_
      refine CW.seq ?_
      refine CW.region ?_
      refine WL.y rfl rfl (yi_move rfl) ?_
      have hown10 := hO2.ok
      refine WL.e rfl rfl (ef_call Try.call103 rfl (compact_c hO2)) ?_
      rintro u6 w47 ⟨hO3, f48, -⟩
      have F49 := Only.trans F45 f48 (fun i hi hl => by have := hown10 i hl; omega)
      have sz50 := f48.size
      refine WL.y rfl rfl (yi_assign rfl) ?_
      refine WL.done ?_
      refine NW.next ?_
      refine CW.ret ?_
      refine NW.ret1 rfl rfl ?_
      exact ⟨_, rfl, hO3.mono (fun k hk => hk.1), F49⟩

theorem next1_c (e : Ed) (nb : Nat) (node : Int) (w : World) (N : Blk w nb #[.int .i64 node] 3) :
    Ret Try.prog 108 [.agg #[.int .i64 e.frm, .int .i64 e.to], .pointer (some ⟨nb, 0, none⟩)] w fun u w' => u = .tuple #[.int .i64 e.to, .bool (decide (e.frm = node))] ∧ Same w w' := by
  have fr0 : Only (fun _ => False) w w := Only.refl _ _
  refine Ret.go Try.func108 rfl Try.ntmps108 rfl ?_
  refine CW.seq ?_
  refine CW.region ?_
  refine WL.e rfl rfl (ef_box rfl) ?_
  rintro _ w6 ⟨eb, hb_eb, rfl, f3, B4, z_eb⟩
  have F7 := Blk.same N f3
  have F8 := Only.same fr0 f3
  have sz9 := f3.size
  refine WL.y rfl rfl (yi_assign rfl) ?_
  refine WL.y rfl rfl (yi_assign rfl) ?_
  refine WL.done ?_
  refine NW.next ?_
  refine CW.seq ?_
  have fd10 : Same w6 w6.drew := Only.drew _ _
  obtain ⟨w11, hww11⟩ : ∃ wz, wz = w6.drew := ⟨_, rfl⟩
  rw [← hww11] at fd10
  have F12 := Blk.same F7 fd10
  have F13 := Only.same F8 fd10
  have F14 := Blk.same B4 fd10
  have sz15 := fd10.size
  refine CW.draw 8 [(0, true), (1, true), (2, true), (3, true), (4, true), (5, true), (6, true), (7, true)] (fun w' => Blk w' nb _ _ ∧ Blk w' eb _ _) Try_mixed (by kernel_rfl) (fun _ _ _ _ h => h) hww11 ⟨F12, F14⟩ ?_
  refine PL.y rfl rfl rfl (fun w' hS => yi_fieldAddr Try.runUnderlying86 rfl Try.sizeOf3 rfl) ?_
  refine PL.y rfl rfl rfl (fun w' hS => by first | exact yi_loadB Try.isAgg3 rfl hS.1 rfl | exact yi_loadB Try.isAgg3 rfl hS.2 rfl) ?_
  refine PL.y rfl rfl rfl (fun w' hS => yi_fieldAddr Try.runUnderlying86 rfl Try.sizeOf3 rfl) ?_
  refine PL.y rfl rfl rfl (fun w' hS => by first | exact yi_loadB Try.isAgg3 rfl hS.1 rfl | exact yi_loadB Try.isAgg3 rfl hS.2 rfl) ?_
  refine PL.y rfl rfl rfl (fun w' hS => by first | exact yi_loadB Try.isAgg3 rfl hS.1 rfl | exact yi_loadB Try.isAgg3 rfl hS.2 rfl) ?_
  refine PL.y rfl rfl rfl (fun w' hS => yi_eql rfl rfl) ?_
  refine PL.y rfl rfl rfl (fun w' hS => yi_assign rfl) ?_
  refine PL.y rfl rfl rfl (fun w' hS => yi_assign rfl) ?_
  refine PL.done ?_
  refine NW.next ?_
  refine CW.ret ?_
  refine NW.ret2 rfl rfl rfl ?_
  exact ⟨_, rfl, rfl, F13⟩

theorem prev1_c (e : Ed) (nb : Nat) (node : Int) (w : World) (N : Blk w nb #[.int .i64 node] 3) :
    Ret Try.prog 109 [.agg #[.int .i64 e.frm, .int .i64 e.to], .pointer (some ⟨nb, 0, none⟩)] w fun u w' => u = .tuple #[.int .i64 e.frm, .bool (decide (e.to = node))] ∧ Same w w' := by
  have fr0 : Only (fun _ => False) w w := Only.refl _ _
  refine Ret.go Try.func109 rfl Try.ntmps109 rfl ?_
  refine CW.seq ?_
  refine CW.region ?_
  refine WL.e rfl rfl (ef_box rfl) ?_
  rintro _ w6 ⟨eb, hb_eb, rfl, f3, B4, z_eb⟩
  have F7 := Blk.same N f3
  have F8 := Only.same fr0 f3
  have sz9 := f3.size
  refine WL.y rfl rfl (yi_assign rfl) ?_
  refine WL.y rfl rfl (yi_assign rfl) ?_
  refine WL.done ?_
  refine NW.next ?_
  refine CW.seq ?_
  have fd10 : Same w6 w6.drew := Only.drew _ _
  obtain ⟨w11, hww11⟩ : ∃ wz, wz = w6.drew := ⟨_, rfl⟩
  rw [← hww11] at fd10
  have F12 := Blk.same F7 fd10
  have F13 := Only.same F8 fd10
  have F14 := Blk.same B4 fd10
  have sz15 := fd10.size
  refine CW.draw 8 [(0, true), (1, true), (2, true), (3, true), (4, true), (5, true), (6, true), (7, true)] (fun w' => Blk w' nb _ _ ∧ Blk w' eb _ _) Try_mixed (by kernel_rfl) (fun _ _ _ _ h => h) hww11 ⟨F12, F14⟩ ?_
  refine PL.y rfl rfl rfl (fun w' hS => yi_fieldAddr Try.runUnderlying86 rfl Try.sizeOf3 rfl) ?_
  refine PL.y rfl rfl rfl (fun w' hS => by first | exact yi_loadB Try.isAgg3 rfl hS.1 rfl | exact yi_loadB Try.isAgg3 rfl hS.2 rfl) ?_
  refine PL.y rfl rfl rfl (fun w' hS => yi_fieldAddr Try.runUnderlying86 rfl Try.sizeOf3 rfl) ?_
  refine PL.y rfl rfl rfl (fun w' hS => by first | exact yi_loadB Try.isAgg3 rfl hS.1 rfl | exact yi_loadB Try.isAgg3 rfl hS.2 rfl) ?_
  refine PL.y rfl rfl rfl (fun w' hS => by first | exact yi_loadB Try.isAgg3 rfl hS.1 rfl | exact yi_loadB Try.isAgg3 rfl hS.2 rfl) ?_
  refine PL.y rfl rfl rfl (fun w' hS => yi_eql rfl rfl) ?_
  refine PL.y rfl rfl rfl (fun w' hS => yi_assign rfl) ?_
  refine PL.y rfl rfl rfl (fun w' hS => yi_assign rfl) ?_
  refine PL.done ?_
  refine NW.next ?_
  refine CW.ret ?_
  refine NW.ret2 rfl rfl rfl ?_
  exact ⟨_, rfl, rfl, F13⟩

def nextOf (t : Tp) (flow node : Int) : List Int := endsOf (edgesOf t flow) fun e => (e.to, decide (e.frm = node))
def prevOf (t : Tp) (flow node : Int) : List Int := endsOf (edgesOf t flow) fun e => (e.frm, decide (e.to = node))

theorem next_c (t : Tp) (Au Ah : Option Addr) (cu ch : Nat) (ok : Nat → Prop) (w : World) (R : Row dEds w ok Ah t.hops) (hc : t.hops.length ≤ ch) (hm : ch ≤ 9223372036854775807) (flow node : Int) (hok : ∀ k, ok k → k < w.heap.size) (hL : (edgesOf t flow).length ≤ 1000000) :
    Ret Try.prog 38 [.agg #[.int .u64 t.epoch, .slice Au t.up.length cu, .slice Ah t.hops.length ch], .int .i64 flow, .int .i64 node] w fun u w' => Own dI 3 w' (fun k => w.heap.size ≤ k) u (nextOf t flow node) ∧ Same w w' := by
  have fr0 : Only (fun _ => False) w w := Only.refl _ _
  refine Ret.go Try.func38 rfl Try.ntmps38 rfl ?_
  refine CW.seq ?_
  refine CW.region ?_
  refine WL.e rfl rfl (ef_box rfl) ?_
  rintro _ w6 ⟨tb, hb_tb, rfl, f3, B4, z_tb⟩
  have F7 := Row.same (by decide) R f3
  have F8 := Only.same fr0 f3
  have sz9 := f3.size
  refine WL.e rfl rfl (ef_box rfl) ?_
  rintro _ w15 ⟨nb, hb_nb, rfl, f12, B13, z_nb⟩
  have F16 := Row.same (by decide) F7 f12
  have F17 := Only.same F8 f12
  have F18 := Blk.same B4 f12
  have sz19 := f12.size
  refine WL.y rfl rfl (yi_assign rfl) ?_
  refine WL.done ?_
  refine NW.next ?_
  refine CW.seq ?_
  refine CW.region ?_
  refine WL.y rfl rfl (yi_loadW Try.isAgg60 Try.sizeOf60 rfl (by assumption) rfl) ?_
  refine WL.y rfl rfl (yi_move rfl) ?_
  refine WL.e rfl rfl (ef_call Try.call107 rfl (edges_c t Au Ah cu ch _ _ F16 hc hm flow)) ?_
  rintro _ w20 ⟨Ae, ce, rfl, hce, hme, RE22, f21⟩
  have F23 := Row.same (by decide) F16 f21
  have F24 := Only.same F17 f21
  have F25 := Blk.same F18 f21
  have F26 := Blk.same B13 f21
  have sz27 := f21.size
  refine WL.y rfl rfl (yi_makeFunc rfl rfl) ?_
  refine WL.e rfl rfl (ef_call Try.call97 rfl (ends_c Ae ce _ _ 108 _ (fun e => (e.to, decide (e.frm = node))) _ RE22 (fun k hk => by have := hok k hk; omega) hL Try.call108 (fun e w1 hw => next1_c e nb node w1 (F26.same hw)))) ?_
  rintro u1 w28 ⟨hO, f29⟩
  have F30 := Row.same (by decide) F23 f29
  have F31 := Only.same F24 f29
  have F32 := Blk.same F25 f29
  have F33 := Blk.same F26 f29
  have F34 := Row.same (by decide) RE22 f29
  have sz35 := f29.size
  refine WL.y rfl rfl (yi_assign rfl) ?_
  refine WL.done ?_
  refine NW.next ?_
  refine CW.ret ?_
  refine NW.ret1 rfl rfl ?_
  exact ⟨_, rfl, hO.mono (fun k hk => by omega), F31⟩

theorem prev_c (t : Tp) (Au Ah : Option Addr) (cu ch : Nat) (ok : Nat → Prop) (w : World) (R : Row dEds w ok Ah t.hops) (hc : t.hops.length ≤ ch) (hm : ch ≤ 9223372036854775807) (flow node : Int) (hok : ∀ k, ok k → k < w.heap.size) (hL : (edgesOf t flow).length ≤ 1000000) :
    Ret Try.prog 39 [.agg #[.int .u64 t.epoch, .slice Au t.up.length cu, .slice Ah t.hops.length ch], .int .i64 flow, .int .i64 node] w fun u w' => Own dI 3 w' (fun k => w.heap.size ≤ k) u (prevOf t flow node) ∧ Same w w' := by
  have fr0 : Only (fun _ => False) w w := Only.refl _ _
  refine Ret.go Try.func39 rfl Try.ntmps39 rfl ?_
  refine CW.seq ?_
  refine CW.region ?_
  refine WL.e rfl rfl (ef_box rfl) ?_
  rintro _ w6 ⟨tb, hb_tb, rfl, f3, B4, z_tb⟩
  have F7 := Row.same (by decide) R f3
  have F8 := Only.same fr0 f3
  have sz9 := f3.size
  refine WL.e rfl rfl (ef_box rfl) ?_
  rintro _ w15 ⟨nb, hb_nb, rfl, f12, B13, z_nb⟩
  have F16 := Row.same (by decide) F7 f12
  have F17 := Only.same F8 f12
  have F18 := Blk.same B4 f12
  have sz19 := f12.size
  refine WL.y rfl rfl (yi_assign rfl) ?_
  refine WL.done ?_
  refine NW.next ?_
  refine CW.seq ?_
  refine CW.region ?_
  refine WL.y rfl rfl (yi_loadW Try.isAgg60 Try.sizeOf60 rfl (by assumption) rfl) ?_
  refine WL.y rfl rfl (yi_move rfl) ?_
  refine WL.e rfl rfl (ef_call Try.call107 rfl (edges_c t Au Ah cu ch _ _ F16 hc hm flow)) ?_
  rintro _ w20 ⟨Ae, ce, rfl, hce, hme, RE22, f21⟩
  have F23 := Row.same (by decide) F16 f21
  have F24 := Only.same F17 f21
  have F25 := Blk.same F18 f21
  have F26 := Blk.same B13 f21
  have sz27 := f21.size
  refine WL.y rfl rfl (yi_makeFunc rfl rfl) ?_
  refine WL.e rfl rfl (ef_call Try.call97 rfl (ends_c Ae ce _ _ 109 _ (fun e => (e.frm, decide (e.to = node))) _ RE22 (fun k hk => by have := hok k hk; omega) hL Try.call109 (fun e w1 hw => prev1_c e nb node w1 (F26.same hw)))) ?_
  rintro u1 w28 ⟨hO, f29⟩
  have F30 := Row.same (by decide) F23 f29
  have F31 := Only.same F24 f29
  have F32 := Blk.same F25 f29
  have F33 := Blk.same F26 f29
  have F34 := Row.same (by decide) RE22 f29
  have sz35 := f29.size
  refine WL.y rfl rfl (yi_assign rfl) ?_
  refine WL.done ?_
  refine NW.next ?_
  refine CW.ret ?_
  refine NW.ret1 rfl rfl ?_
  exact ⟨_, rfl, hO.mono (fun k hk => by omega), F31⟩

end Go.Proofs.YtgmjgdjobkmbgaaN
