/- The library's Grow, Concat, IndexFunc; the order's closures, walked. -/
import Derived.Test.YtgmjgdjobkmbgaaTopD
import Derived.Test.YtgmjgdjobkmbgaaMake
set_option linter.unusedVariables false
set_option linter.unusedSimpArgs false
namespace Go.Proofs.YtgmjgdjobkmbgaaN
open Go.Proofs.YtgmjgdjobkmbgaaL Go.RowKit Go.Proofs
attribute [local irreducible] Ef Yi WL PL CW NW Ret
open Go.Lib Go.Sort
def dIs : Dt (List Int) := dSlice dI (by decide)
def total (ls : List (List Int)) : Nat := (ls.map List.length).sum
def Tests (f : FuncId) (cs : Array Value) (w : World) (p : Ed → Bool) : Prop := ∀ e w1, Same w w1 → Ret Try.prog f ([.agg #[.int .i64 e.frm, .int .i64 e.to]] ++ cs.toList) w1 fun u w2 => u = .bool (p e) ∧ Same w1 w2
theorem is_at {w : World} {ok : Nat → Prop} {A : Option Addr} {ls : List (List Int)} (R : Row dIs w ok A ls) {k : Nat} {e : List Int} (he : ls[k]? = some e) : ∃ ad A' c, A = some ad ∧ w.cell? (ad.add k) = some (.slice A' e.length c) ∧ e.length ≤ c ∧ c ≤ 9223372036854775807 ∧ Row dI w ok A' e := by
  obtain ⟨ad, cs, hA, hb, ⟨A', c, rfl, h1, h2, h3⟩, hl, hc⟩ := R.get he
  refine ⟨ad, A', c, hA, ?_, h1, h2, h3⟩
  have := hc 0 _ rfl
  have e : k * dIs.sz + 0 = k := by show k * 1 + 0 = k; omega
  rwa [e] at this
theorem total_take {ls : List (List Int)} {k : Nat} {e : List Int} (he : ls[k]? = some e) : total (ls.take (k + 1)) = total (ls.take k) + e.length := by
  rw [List.take_add_one, he]
  simp [total]
theorem flat_take {ls : List (List Int)} {k : Nat} {e : List Int} (he : ls[k]? = some e) : (ls.take (k + 1)).flatten = (ls.take k).flatten ++ e := by
  rw [List.take_add_one, he]
  simp
theorem total_le (ls : List (List Int)) : ∀ k, total (ls.take k) ≤ total ls := by
  intro k
  have h : total ls = total (ls.take k) + total (ls.drop k) := by
    show (ls.map List.length).sum = ((ls.take k).map List.length).sum + ((ls.drop k).map List.length).sum
    rw [← List.sum_append, ← List.map_append, List.take_append_drop]
  omega
theorem flat_len (ls : List (List Int)) : ls.flatten.length = total ls := by rw [List.length_flatten]; rfl

theorem grow_c (n : Nat) (w : World) (hn : n ≤ 1000000) :
    Ret Try.prog 133 [.slice none 0 0, .int .i64 n] w fun u w' => Own dI 3 w' (fun k => w.heap.size ≤ k) u [] ∧ Same w w' := by
  have fr0 : Only (fun _ => False) w w := Only.refl _ _
  refine Ret.go Try.func133 rfl Try.ntmps133 rfl ?_
  refine CW.seq ?_
  refine CW.region ?_
  refine WL.y rfl rfl (yi_assign rfl) ?_
  refine WL.done ?_
  refine NW.next ?_
  refine CW.seq ?_
  refine CW.seq ?_
  refine CW.region ?_
  refine WL.y rfl rfl (yi_move rfl) ?_
  refine WL.y rfl rfl (yi_lss rfl rfl) ?_
  refine WL.done ?_
  refine NW.next ?_
  refine CW.cond rfl (fun q_ => ?_) (fun q_ => ?_)
  · try replace q_ := of_decide_eq_true q_
    exact absurd q_ (by omega)
  · try replace q_ := of_decide_eq_false q_
    refine CW.skip ?_
    refine NW.next ?_
    refine CW.seq ?_
    refine CW.seq ?_
    refine CW.region ?_
    refine WL.y rfl rfl (yi_move rfl) ?_
    refine WL.y rfl rfl (yi_move rfl) ?_
    refine WL.y rfl rfl (yi_cap Try.runUnderlying49 rfl) ?_
    refine WL.y rfl rfl (yi_move rfl) ?_
    refine WL.y rfl rfl (yi_len Try.runUnderlying49 rfl) ?_
    refine WL.y rfl rfl (yi_subI rfl rfl (by omega) (by omega)) ?_
    refine WL.y rfl rfl (yi_subI rfl rfl (by omega) (by omega)) ?_
    refine WL.as_ (t := 14) (v' := .int .i64 n) rfl (congrArg (Value.int .i64) (by omega)) ?_
    refine WL.y rfl rfl (yi_assign rfl) ?_
    refine WL.done ?_
    refine NW.next ?_
    refine CW.seq ?_
    refine CW.region ?_
    refine WL.y rfl rfl (yi_move rfl) ?_
    refine WL.y rfl rfl (yi_gtr rfl rfl) ?_
    refine WL.done ?_
    refine NW.next ?_
    refine CW.cond rfl (fun q_F => ?_) (fun q_F => ?_)
    · try replace q_F := of_decide_eq_true q_F
      refine CW.region ?_
      refine WL.y rfl rfl (yi_move rfl) ?_
      refine WL.y rfl rfl (yi_move rfl) ?_
      refine WL.y rfl rfl (yi_cap Try.runUnderlying49 rfl) ?_
      refine WL.y rfl rfl (yi_slice010 Try.runUnderlying49 Try.sizeOf3 rfl rfl (by omega) (by omega)) ?_
      refine WL.as_ (t := 20) (v' := .slice none 0 0) rfl (rfl) ?_
      refine WL.y rfl rfl (yi_move rfl) ?_
      refine WL.e rfl rfl (ef_appendMake Try.runUnderlying49 Try.runUnderlying3 Try.typeInfo3 Try.zeroValue3 rfl (by decide) rfl rfl (by omega) (by show n * 8 ≤ _; omega) (by omega)) ?_
      rintro u1 w1 ⟨b, cap, rest, hb, rfl, h1, h2, h3, f2, hB⟩
      have F3 := Only.same fr0 f2
      have sz4 := f2.size
      refine WL.y rfl rfl (yi_move rfl) ?_
      refine WL.y rfl rfl (yi_len Try.runUnderlying49 rfl) ?_
      refine WL.y rfl rfl (yi_slice010 Try.runUnderlying49 Try.sizeOf3 rfl rfl (by omega) (by omega)) ?_
      refine WL.as_ (t := 25) (v' := .slice (some ⟨b, 0, none⟩) 0 cap) rfl (rfl) ?_
      refine WL.y rfl rfl (yi_assign rfl) ?_
      refine WL.done ?_
      refine NW.next ?_
      refine CW.seq ?_
      refine CW.region ?_
      refine WL.y rfl rfl (yi_move rfl) ?_
      refine WL.y rfl rfl (yi_assign rfl) ?_
      refine WL.done ?_
      refine NW.next ?_
      refine CW.ret ?_
      refine NW.ret1 rfl rfl ?_
      exact ⟨_, rfl, ownI_mk (zs := []) (by omega) (Nat.zero_le _) h2 (by have h4 : rest.length = cap * 1 := h3; show rest.length = cap - 0; omega) (by simpa using hB), F3⟩
    · try replace q_F := of_decide_eq_false q_F
      refine CW.skip ?_
      refine NW.next ?_
      refine CW.seq ?_
      refine CW.region ?_
      refine WL.y rfl rfl (yi_move rfl) ?_
      refine WL.y rfl rfl (yi_assign rfl) ?_
      refine WL.done ?_
      refine NW.next ?_
      refine CW.ret ?_
      refine NW.ret1 rfl rfl ?_
      exact ⟨_, rfl, Own.nil _ _ _ _, fr0⟩

/-- What an owned row of integers leads to is its own block alone. -/
theorem own_new {w : World} {ok ok' : Nat → Prop} {v : Value} {zs : List Int} (h : Own dI 3 w ok v zs) (hk : ∀ k, v.ownBlock = some k → ok' k) : Own dI 3 w ok' v zs := by
  rcases ownI_open h with ⟨rfl, rfl⟩ | ⟨g, cap, rest, rfl, _, h1, h2, h3, hB⟩
  · exact Own.nil _ _ _ _
  · exact ownI_mk (hk g rfl) h1 h2 h3 hB

theorem concat_c (A : Option Addr) (c : Nat) (ls : List (List Int)) (ok : Nat → Prop) (w : World) (R : Row dIs w ok A ls) (hok : ∀ k, ok k → k < w.heap.size) (hls : ls.length ≤ 1000000) (ht : total ls ≤ 1000000) :
    Ret Try.prog 99 [.slice A ls.length c] w fun u w' => Own dI 3 w' (fun k => w.heap.size ≤ k) u ls.flatten ∧ Same w w' := by
  have fr0 : Only (fun _ => False) w w := Only.refl _ _
  refine Ret.go Try.func99 rfl Try.ntmps99 rfl ?_
  refine CW.seq ?_
  refine CW.region ?_
  refine WL.y rfl rfl (yi_assign rfl) ?_
  refine WL.done ?_
  refine NW.next ?_
  refine CW.seq ?_
  refine CW.region ?_
  refine WL.y rfl rfl (yi_assign rfl) ?_
  refine WL.done ?_
  refine NW.next ?_
  refine CW.seq ?_
  refine CW.seq ?_
  refine CW.region ?_
  refine WL.y rfl rfl (yi_move rfl) ?_
  refine WL.y rfl rfl (yi_len Try.runUnderlying168 rfl) ?_
  refine WL.y rfl rfl (yi_move rfl) ?_
  refine WL.done ?_
  refine NW.next ?_
  refine CW.block ?_
  refine CW.loop (fun mm a w' => ∃ i : Nat, mm = ls.length - i ∧ i ≤ ls.length ∧ w = w' ∧ Env 36 [] [(0, .slice A ls.length c), (3, .int .i64 (total (ls.take i) : Nat)), (9, .slice A ls.length c), (10, .int .i64 ls.length), (11, .int .i64 i)] a) (ls.length) ?_ ?_
  · exact fun a ha => ⟨0, rfl, by omega, rfl, ha.sub ⟨rfl, rfl, rfl, rfl, rfl, trivial⟩⟩
  · rintro mm a w1 ⟨i, rfl, hi, rfl, ha⟩
    refine CW.at ha ?_
    refine CW.seq ?_
    refine CW.region ?_
    refine WL.y rfl rfl (yi_lss rfl rfl) ?_
    refine WL.done ?_
    refine NW.next ?_
    refine CW.seq ?_
    refine CW.cond rfl (fun q_L => ?_) (fun q_L => ?_)
    · try replace q_L := of_decide_eq_true q_L
      obtain ⟨e, he⟩ : ∃ e, ls[i]? = some e := ⟨ls[i]'(by omega), List.getElem?_eq_getElem (by omega)⟩
      obtain ⟨ad, A', c', hA, hcell, hec, hem, RE⟩ := is_at R he
      subst hA
      have htt := total_take he
      have htl := total_le ls (i + 1)
      refine CW.skip ?_
      refine NW.next ?_
      refine CW.seq ?_
      refine CW.block ?_
      refine CW.seq ?_
      refine CW.region ?_
      refine WL.y rfl rfl (yi_indexAddr Try.runUnderlying168 Try.sizeOf49 rfl rfl (by omega) (by omega)) ?_
      refine WL.as_ (t := 13) (v' := .pointer (some (ad.add i))) rfl (by rw [Int.toNat_natCast, Nat.mul_one]) ?_
      refine WL.y rfl rfl (yi_load1 Try.isAgg49 rfl hcell) ?_
      refine WL.y rfl rfl (yi_assign rfl) ?_
      refine WL.done ?_
      refine NW.next ?_
      refine CW.seq ?_
      refine CW.region ?_
      refine WL.y rfl rfl (yi_move rfl) ?_
      refine WL.y rfl rfl (yi_move rfl) ?_
      refine WL.y rfl rfl (yi_len Try.runUnderlying49 rfl) ?_
      refine WL.y rfl rfl (yi_addI rfl rfl (by omega) (by omega)) ?_
      refine WL.as_ (t := 18) (v' := .int .i64 (total (ls.take (i + 1)) : Nat)) rfl (congrArg (Value.int .i64) (by omega)) ?_
      refine WL.y rfl rfl (yi_assign rfl) ?_
      refine WL.done ?_
      refine NW.next ?_
      refine CW.seq ?_
      refine CW.region ?_
      refine WL.y rfl rfl (yi_move rfl) ?_
      refine WL.y rfl rfl (yi_lss rfl rfl) ?_
      refine WL.done ?_
      refine NW.next ?_
      refine CW.cond rfl (fun q_LT => ?_) (fun q_LT => ?_)
      · try replace q_LT := of_decide_eq_true q_LT
        exact absurd q_LT (by omega)
      · try replace q_LT := of_decide_eq_false q_LT
        refine CW.skip ?_
        refine NW.blockEnd ?_
        refine NW.next ?_
        refine CW.region ?_
        refine WL.y rfl rfl (yi_addI rfl rfl (by omega) (by omega)) ?_
        refine WL.as_ (t := 22) (v' := .int .i64 ((i + 1 : Nat) : Int)) rfl (congrArg (Value.int .i64) (by omega)) ?_
        refine WL.y rfl rfl (yi_move rfl) ?_
        refine WL.done ?_
        refine NW.round (ls.length - (i + 1)) (by omega) ?_
        exact fun a ha => ⟨i + 1, rfl, by omega, rfl, ha.sub ⟨rfl, rfl, rfl, rfl, rfl, trivial⟩⟩
    · try replace q_L := of_decide_eq_false q_L
      refine CW.exit ?_
      refine NW.thenExit ?_
      refine NW.thenExit ?_
      refine NW.blockHit ?_
      refine NW.next ?_
      refine CW.seq ?_
      refine CW.region ?_
      refine WL.y rfl rfl (yi_move rfl) ?_
      have hil : i = ls.length := by omega
      have hti : total (ls.take i) ≤ 1000000 := Nat.le_trans (total_le ls i) ht
      refine WL.e rfl rfl (ef_call Try.call133 rfl (grow_c (total (ls.take i)) _ hti)) ?_
      rintro u6 w2 ⟨hO, f3⟩
      have F4 := Only.same fr0 f3
      have sz5 := f3.size
      refine WL.y rfl rfl (yi_assign rfl) ?_
      refine WL.done ?_
      refine NW.next ?_
      refine CW.seq ?_
      refine CW.seq ?_
      refine CW.region ?_
      refine WL.y rfl rfl (yi_move rfl) ?_
      refine WL.y rfl rfl (yi_len Try.runUnderlying168 rfl) ?_
      refine WL.y rfl rfl (yi_move rfl) ?_
      refine WL.done ?_
      refine NW.next ?_
      refine CW.block ?_
      refine CW.loop (fun mm a w' => ∃ (i : Nat) (v6 : Value), mm = ls.length - i ∧ i ≤ ls.length ∧ Same w w' ∧ Own dI 3 w' (fun k => w.heap.size ≤ k) v6 (ls.take i).flatten ∧ Env 36 [] [(6, v6), (25, .slice A ls.length c), (26, .int .i64 ls.length), (27, .int .i64 i)] a) (ls.length) ?_ ?_
      · exact fun a ha => ⟨0, _, rfl, by omega, F4, by simpa using hO, ha.sub ⟨rfl, rfl, rfl, rfl, trivial⟩⟩
      · rintro mm2 a w6 ⟨i, v6, rfl, hi, fr, O, ha⟩
        refine CW.at ha ?_
        have Rk := Row.same (by decide) R fr
        have hsz := fr.size
        replace O := O.bound
        have hown := O.ok
        refine CW.seq ?_
        refine CW.region ?_
        refine WL.y rfl rfl (yi_lss rfl rfl) ?_
        refine WL.done ?_
        refine NW.next ?_
        refine CW.seq ?_
        refine CW.cond rfl (fun q_M => ?_) (fun q_M => ?_)
        · try replace q_M := of_decide_eq_true q_M
          obtain ⟨e, he⟩ : ∃ e, ls[i]? = some e := ⟨ls[i]'(by omega), List.getElem?_eq_getElem (by omega)⟩
          obtain ⟨ad, A', c', hA, hcell, hec, hem, RE⟩ := is_at Rk he
          subst hA
          have htt := total_take he
          have htl := total_le ls (i + 1)
          have hfl := flat_len (ls.take i)
          refine CW.skip ?_
          refine NW.next ?_
          refine CW.seq ?_
          refine CW.block ?_
          refine CW.seq ?_
          refine CW.region ?_
          refine WL.y rfl rfl (yi_indexAddr Try.runUnderlying168 Try.sizeOf49 rfl rfl (by omega) (by omega)) ?_
          refine WL.as_ (t := 29) (v' := .pointer (some (ad.add i))) rfl (by rw [Int.toNat_natCast, Nat.mul_one]) ?_
          refine WL.y rfl rfl (yi_load1 Try.isAgg49 rfl hcell) ?_
          refine WL.y rfl rfl (yi_assign rfl) ?_
          refine WL.done ?_
          refine NW.next ?_
          refine CW.region ?_
          refine WL.y rfl rfl (yi_move rfl) ?_
          refine WL.y rfl rfl (yi_move rfl) ?_
          refine WL.e rfl rfl (ef_appendOwn dI Try.runUnderlying49 (notInt Try.runUnderlying49) Try.typeInfo3 Try.zeroValue3 rfl rfl rfl rfl O rfl RE (fun k hk hok' he => by have := hok k hok'; have := hown k he; omega) (by decide) (by omega) (by show (_ + _) * 8 ≤ _; omega)) ?_
          rintro u9 w7 ⟨hO', f8, hu⟩
          have F9 := Only.trans fr f8 (fun i hi hl => by have := hown i hl; omega)
          have F10 := Row.only (by decide) Rk f8 (fun k hk hok' hl => by have := hok k hok'; have := hown k hl; omega)
          have sz11 := f8.size
          have hO2 : Own dI 3 _ (fun k => w.heap.size ≤ k) u9 _ := own_new hO' (fun k hk => hu.elim (fun h => (hown k (h ▸ hk)).1) (fun h => by rw [h] at hk; injection hk with hk; omega))
          refine WL.y rfl rfl (yi_assign rfl) ?_
          refine WL.done ?_
          refine NW.blockEnd ?_
          refine NW.next ?_
          refine CW.region ?_
          refine WL.y rfl rfl (yi_addI rfl rfl (by omega) (by omega)) ?_
          refine WL.as_ (t := 34) (v' := .int .i64 ((i + 1 : Nat) : Int)) rfl (congrArg (Value.int .i64) (by omega)) ?_
          refine WL.y rfl rfl (yi_move rfl) ?_
          refine WL.done ?_
          refine NW.round (ls.length - (i + 1)) (by omega) ?_
          exact fun a ha => ⟨i + 1, _, rfl, by omega, F9, by rw [flat_take he]; exact hO2, ha.sub ⟨rfl, rfl, rfl, rfl, trivial⟩⟩
        · try replace q_M := of_decide_eq_false q_M
          refine CW.exit ?_
          refine NW.thenExit ?_
          refine NW.thenExit ?_
          refine NW.blockHit ?_
          refine NW.next ?_
          refine CW.seq ?_
          refine CW.region ?_
          refine WL.y rfl rfl (yi_move rfl) ?_
          refine WL.y rfl rfl (yi_assign rfl) ?_
          refine WL.done ?_
          refine NW.next ?_
          refine CW.ret ?_
          refine NW.ret1 rfl rfl ?_
          have hil2 : i = ls.length := by omega
          have O9 := O
          rw [hil2, List.take_length] at O9
          exact ⟨_, rfl, O9.mono (fun k hk => hk.1), fr⟩

theorem indexFunc_c (A : Option Addr) (c : Nat) (L : List Ed) (ok : Nat → Prop) (f : FuncId) (cs : Array Value) (p : Ed → Bool) (w : World) (R : Row dEd w ok A L) (hL : L.length ≤ 1000000) (hcall : ∀ args w, (callFunc f args).run Try.prog w = .ok (.enter f args) w) (hg : Tests f cs w p) :
    Ret Try.prog 136 [.slice A L.length c, .func (.func f) #[] cs] w fun u w' => ∃ i : Int, u = .int .i64 i ∧ (0 ≤ i ↔ ∃ e ∈ L, p e = true) ∧ Same w w' := by
  have fr0 : Only (fun _ => False) w w := Only.refl _ _
  refine Ret.go Try.func136 rfl Try.ntmps136 rfl ?_
  refine CW.seq ?_
  refine CW.region ?_
  refine WL.y rfl rfl (yi_assign rfl) ?_
  refine WL.done ?_
  refine NW.next ?_
  refine CW.seq ?_
  refine CW.seq ?_
  refine CW.region ?_
  refine WL.y rfl rfl (yi_move rfl) ?_
  refine WL.y rfl rfl (yi_len Try.runUnderlying83 rfl) ?_
  refine WL.y rfl rfl (yi_move rfl) ?_
  refine WL.done ?_
  refine NW.next ?_
  refine CW.block ?_
  refine CW.loop (fun mm a w' => ∃ i : Nat, mm = L.length - i ∧ i ≤ L.length ∧ Same w w' ∧ (∀ j e, j < i → L[j]? = some e → p e = false) ∧ Env 19 [] [(0, .slice A L.length c), (1, .func (.func f) #[] cs), (7, .int .i64 L.length), (8, .int .i64 i)] a) (L.length) ?_ ?_
  · exact fun a ha => ⟨0, rfl, by omega, fr0, fun j e hj => by omega, ha.sub ⟨rfl, rfl, rfl, rfl, trivial⟩⟩
  · rintro mm a w1 ⟨i, rfl, hi, fr, hno, ha⟩
    refine CW.at ha ?_
    have Rk := Row.same (by decide) R fr
    refine CW.seq ?_
    refine CW.region ?_
    refine WL.y rfl rfl (yi_lss rfl rfl) ?_
    refine WL.done ?_
    refine NW.next ?_
    refine CW.seq ?_
    refine CW.cond rfl (fun q_L => ?_) (fun q_L => ?_)
    · try replace q_L := of_decide_eq_true q_L
      obtain ⟨e, he⟩ : ∃ e, L[i]? = some e := ⟨L[i]'(by omega), List.getElem?_eq_getElem (by omega)⟩
      obtain ⟨ad, hA, hb, E⟩ := ed_at Rk he
      subst hA
      refine CW.skip ?_
      refine NW.next ?_
      refine CW.seq ?_
      refine CW.block ?_
      refine CW.seq ?_
      refine CW.region ?_
      refine WL.y rfl rfl (yi_move rfl) ?_
      refine WL.y rfl rfl (yi_assign rfl) ?_
      refine WL.done ?_
      refine NW.next ?_
      refine CW.seq ?_
      refine CW.region ?_
      refine WL.y rfl rfl (yi_move rfl) ?_
      refine WL.y rfl rfl (yi_move rfl) ?_
      refine WL.y rfl rfl (yi_move rfl) ?_
      refine WL.y rfl rfl (yi_indexAddr Try.runUnderlying83 Try.sizeOf86 rfl rfl (by omega) (by omega)) ?_
      refine WL.as_ (t := 14) (v' := .pointer (some (ad.add (i * 2)))) rfl (by rw [Int.toNat_natCast]) ?_
      refine WL.y rfl rfl (yi_loadA (cs := [.int .i64 e.frm, .int .i64 e.to]) Try.isAgg86 Try.sizeOf86 rfl rfl (Seg.get E)) ?_
      refine WL.e rfl rfl (ef_callv hcall rfl rfl (hg e _ fr)) ?_
      rintro _ w2 ⟨rfl, f3⟩
      have F4 := Only.same fr f3
      have F5 := Row.same (by decide) Rk f3
      have sz6 := f3.size
      refine WL.done ?_
      refine NW.next ?_
      refine CW.cond rfl (fun q_LT => ?_) (fun q_LT => ?_)
      · try replace q_LT := of_decide_eq_true q_LT
        refine CW.seq ?_
        refine CW.region ?_
        refine WL.y rfl rfl (yi_move rfl) ?_
        refine WL.y rfl rfl (yi_assign rfl) ?_
        refine WL.done ?_
        refine NW.next ?_
        refine CW.ret ?_
        refine NW.blockRet ?_
        refine NW.thenRet ?_
        refine NW.thenRet ?_
        refine NW.blockRet ?_
        refine NW.thenRet ?_
        refine NW.ret1 rfl rfl ?_
        exact ⟨_, rfl, _, rfl, ⟨fun _ => ⟨e, List.mem_of_getElem? he, q_LT⟩, fun _ => by omega⟩, F4⟩
      · try replace q_LT := of_decide_eq_false q_LT
        refine CW.skip ?_
        refine NW.blockEnd ?_
        refine NW.next ?_
        refine CW.region ?_
        refine WL.y rfl rfl (yi_addI rfl rfl (by omega) (by omega)) ?_
        refine WL.as_ (t := 18) (v' := .int .i64 ((i + 1 : Nat) : Int)) rfl (congrArg (Value.int .i64) (by omega)) ?_
        refine WL.y rfl rfl (yi_move rfl) ?_
        refine WL.done ?_
        refine NW.round (L.length - (i + 1)) (by omega) ?_
        exact fun a ha => ⟨i + 1, rfl, by omega, F4, fun j e' hj h => (if h9 : j = i then by subst h9; rw [he] at h; injection h with h; rw [← h]; exact q_LT else hno j e' (by omega) h), ha.sub ⟨rfl, rfl, rfl, rfl, trivial⟩⟩
    · try replace q_L := of_decide_eq_false q_L
      refine CW.exit ?_
      refine NW.thenExit ?_
      refine NW.thenExit ?_
      refine NW.blockHit ?_
      refine NW.next ?_
      refine CW.seq ?_
      refine CW.region ?_
      refine WL.y rfl rfl (yi_assign rfl) ?_
      refine WL.done ?_
      refine NW.next ?_
      refine CW.ret ?_
      refine NW.ret1 rfl rfl ?_
      exact ⟨_, rfl, _, rfl, ⟨fun h => by omega, fun ⟨e, he, hp⟩ => by obtain ⟨j, hj, e1⟩ := List.getElem_of_mem he; rw [hno j e (by omega) (by rw [List.getElem?_eq_getElem hj, e1])] at hp; cases hp⟩, fr⟩

theorem containsFunc_c (A : Option Addr) (c : Nat) (L : List Ed) (ok : Nat → Prop) (f : FuncId) (cs : Array Value) (p : Ed → Bool) (w : World) (R : Row dEd w ok A L) (hL : L.length ≤ 1000000) (hcall : ∀ args w, (callFunc f args).run Try.prog w = .ok (.enter f args) w) (hg : Tests f cs w p) :
    Ret Try.prog 104 [.slice A L.length c, .func (.func f) #[] cs] w fun u w' => u = .bool (L.any p) ∧ Same w w' := by
  have fr0 : Only (fun _ => False) w w := Only.refl _ _
  refine Ret.go Try.func104 rfl Try.ntmps104 rfl ?_
  refine CW.seq ?_
  refine CW.region ?_
  refine WL.y rfl rfl (yi_assign rfl) ?_
  refine WL.done ?_
  refine NW.next ?_
  refine CW.seq ?_
  refine CW.region ?_
  refine WL.y rfl rfl (yi_move rfl) ?_
  refine WL.y rfl rfl (yi_move rfl) ?_
  refine WL.e rfl rfl (ef_call Try.call136 rfl (indexFunc_c A c L _ f cs p _ R hL hcall hg)) ?_
  rintro _ w1 ⟨i, rfl, hi, f2⟩
  have F3 := Row.same (by decide) R f2
  have F4 := Only.same fr0 f2
  have sz5 := f2.size
  refine WL.y rfl rfl (yi_geq rfl rfl) ?_
  refine WL.y rfl rfl (yi_assign rfl) ?_
  refine WL.done ?_
  refine NW.next ?_
  refine CW.ret ?_
  refine NW.ret1 rfl rfl ?_
  refine ⟨_, rfl, congrArg Value.bool ?_, F4⟩
  rw [Bool.eq_iff_iff, decide_eq_true_eq, List.any_eq_true]; exact hi

end Go.Proofs.YtgmjgdjobkmbgaaN
