/- A topology: what is reached, walked. -/
import Derived.Test.YtgmjgdjobkmbgaaTopC
import Derived.Test.YtgmjgdjobkmbgaaTopP
set_option linter.unusedVariables false
set_option linter.unusedSimpArgs false
namespace Go.Proofs.YtgmjgdjobkmbgaaN
open Go.Proofs.YtgmjgdjobkmbgaaL Go.RowKit Go.Proofs
attribute [local irreducible] Ef Yi WL PL CW NW Ret
open Go.Lib Go.Sort
structure RI (L : List Ed) (node : Int) (out : List Int) (at_ : Nat) : Prop where
  nd : out.Nodup
  st : ∀ x, (⟨node, x⟩ : Ed) ∈ L → x ∈ out
  pa : ∀ x, x ∈ out → Path L node x
  cl : ∀ j z y, j < at_ → out[j]? = some z → (⟨z, y⟩ : Ed) ∈ L → y ∈ out
theorem RI.len {L : List Ed} {node : Int} {out : List Int} {at_ : Nat} (h : RI L node out at_) : out.length ≤ L.length := by
  have := nodup_le (m := L.map (·.to)) h.nd (fun x hx => by
    have hp := h.pa x hx
    cases hp with
    | one h1 => exact List.mem_map.2 ⟨_, h1, rfl⟩
    | more _ h1 => exact List.mem_map.2 ⟨_, h1, rfl⟩)
  simpa using this
theorem RI.add {L : List Ed} {node z x : Int} {out : List Int} {at_ : Nat} (h : RI L node out at_) (hz : out[at_]? = some z) (hx : (⟨z, x⟩ : Ed) ∈ L) (hn : ¬ x ∈ out) : RI L node (out ++ [x]) at_ := by
  refine ⟨List.nodup_append.2 ⟨h.nd, by simp, fun a ha b hb e => ?_⟩, fun y hy => List.mem_append_left _ (h.st y hy), fun y hy => ?_, fun j u y hj hu hy => ?_⟩
  · rw [List.mem_singleton] at hb
    subst hb; subst e
    exact hn ha
  · rcases List.mem_append.1 hy with hy | hy
    · exact h.pa y hy
    · rw [List.mem_singleton.1 hy]
      exact .more (h.pa z (List.mem_of_getElem? hz)) hx
  · have hlt : at_ < out.length := (List.getElem?_eq_some_iff.1 hz).1
    rw [List.getElem?_append_left (by omega)] at hu
    exact List.mem_append_left _ (h.cl j u y hj hu hy)
theorem RI.next {L : List Ed} {node z : Int} {out : List Int} {at_ : Nat} (h : RI L node out at_) (hz : out[at_]? = some z) (hx : ∀ y, (⟨z, y⟩ : Ed) ∈ L → y ∈ out) : RI L node out (at_ + 1) := by
  refine ⟨h.nd, h.st, h.pa, fun j u y hj hu hy => ?_⟩
  by_cases e : j = at_
  · subst e
    rw [hz] at hu
    injection hu with hu
    exact hx y (hu ▸ hy)
  · exact h.cl j u y (by omega) hu hy
theorem RI.done {L : List Ed} {node : Int} {out : List Int} {at_ : Nat} (h : RI L node out at_) (hd : out.length ≤ at_) (x : Int) : x ∈ out ↔ Path L node x := by
  refine ⟨h.pa x, fun hp => ?_⟩
  induction hp with
  | one h1 => exact h.st _ h1
  | more _ h1 ih =>
    obtain ⟨j, hj, e⟩ := List.getElem_of_mem ih
    exact h.cl j _ _ (by omega) (by rw [List.getElem?_eq_getElem hj, e]) h1
theorem RI.start {t : Tp} {flow node : Int} : RI (edgesOf t flow) node (nextOf t flow node) 0 :=
  ⟨rising_nodup (ends_sorted _ _), fun x hx => mem_next.2 hx, fun x hx => .one (mem_next.1 hx), fun j z y hj => by omega⟩
theorem sort_nodup {zs : List Int} (h : zs.Nodup) : (sortI zs).Pairwise (· < ·) := by
  have h1 := sortI_sorted zs
  have h2 : (sortI zs).Nodup := (List.mergeSort_perm zs _).nodup_iff.2 h
  exact (h1.and h2).imp fun ⟨h3, h4⟩ => by omega

theorem in_step {xs out : List Int} {i : Nat} {x : Int} (hin : ∀ j y, j < i → xs[j]? = some y → y ∈ out) (hx : xs[i]? = some x) (hm : x ∈ out) : ∀ j y, j < i + 1 → xs[j]? = some y → y ∈ out := by
  intro j y hj h
  by_cases e : j = i
  · subst e; rw [hx] at h; injection h with h; exact h ▸ hm
  · exact hin j y (by omega) h

theorem reach_c (t : Tp) (Au Ah : Option Addr) (cu ch : Nat) (ok : Nat → Prop) (w : World) (R : Row dEds w ok Ah t.hops) (hc : t.hops.length ≤ ch) (hm : ch ≤ 9223372036854775807) (flow node : Int) (hok : ∀ k, ok k → k < w.heap.size) (hL : (edgesOf t flow).length ≤ 1000000) :
    Ret Try.prog 36 [.agg #[.int .u64 t.epoch, .slice Au t.up.length cu, .slice Ah t.hops.length ch], .int .i64 flow, .int .i64 node] w fun u w' => ∃ zs, Own dI 3 w' (fun k => w.heap.size ≤ k) u zs ∧ zs.Pairwise (· < ·) ∧ (∀ x, x ∈ zs ↔ Path (edgesOf t flow) node x) ∧ Same w w' := by
  have fr0 : Only (fun _ => False) w w := Only.refl _ _
  refine Ret.go Try.func36 rfl Try.ntmps36 rfl ?_
  refine CW.seq ?_
  refine CW.region ?_
  refine WL.e rfl rfl (ef_box rfl) ?_
  rintro _ w6 ⟨tb, hb_tb, rfl, f3, B4, z_tb⟩
  have F7 := Row.same (by decide) R f3
  have F8 := Only.same fr0 f3
  have sz9 := f3.size
  refine WL.y rfl rfl (yi_assign rfl) ?_
  refine WL.done ?_
  refine NW.next ?_
  refine CW.seq ?_
  refine CW.region ?_
  refine WL.y rfl rfl (yi_loadW Try.isAgg60 Try.sizeOf60 rfl (by assumption) rfl) ?_
  refine WL.y rfl rfl (yi_move rfl) ?_
  refine WL.y rfl rfl (yi_move rfl) ?_
  refine WL.e rfl rfl (ef_call Try.call38 rfl (next_c t Au Ah cu ch _ _ F7 hc hm flow node (fun k hk => by have := hok k hk; omega) hL)) ?_
  rintro u7 w10 ⟨hO, f11⟩
  have F12 := Row.same (by decide) F7 f11
  have F13 := Only.same F8 f11
  have F14 := Blk.same B4 f11
  clear F7 F8
  have sz15 := f11.size
  refine WL.y rfl rfl (yi_assign rfl) ?_
  refine WL.done ?_
  refine NW.next ?_
  refine CW.seq ?_
  refine CW.seq ?_
  refine CW.region ?_
  refine WL.y rfl rfl (yi_assign rfl) ?_
  refine WL.done ?_
  refine NW.next ?_
  refine CW.block ?_
  refine CW.loop (fun mm a w' => ∃ (k : Nat) (v7 : Value) (out : List Int), mm = (edgesOf t flow).length + 1 - k ∧ Same w w' ∧ Blk w' tb #[.int .u64 t.epoch, .slice Au t.up.length cu, .slice Ah t.hops.length ch] 60 ∧ Own dI 3 w' (fun x => w.heap.size ≤ x) v7 out ∧ (∀ x, v7.ownBlock = some x → x ≠ tb) ∧ RI (edgesOf t flow) node out k ∧ k ≤ out.length ∧ Env 45 [] [(1, .int .i64 flow), (3, .pointer (some ⟨tb, 0, none⟩)), (7, v7), (8, .int .i64 k)] a) ((edgesOf t flow).length + 1) ?_ ?_
  · have hown := hO.ok
    exact fun a ha => ⟨0, _, _, rfl, F13, F14, hO.mono (fun k hk => by omega), fun x hx e => by have := hown x hx; omega, RI.start, by omega, ha.sub ⟨rfl, rfl, rfl, rfl, trivial⟩⟩
  · rintro mm a w16 ⟨k, v7, out, rfl, fr, TBL, O, hnt, ri, hk, ha⟩
    refine CW.at ha ?_
    have Rk := Row.same (by decide) R fr
    have hsz := fr.size
    obtain ⟨A7, c7, hv7, hc7, hm7, R7, -⟩ := O.row (by decide)
    subst hv7
    replace O := O.bound
    have hlen := ri.len
    have htb := TBL.lt
    refine CW.seq ?_
    refine CW.seq ?_
    refine CW.region ?_
    refine WL.y rfl rfl (yi_move rfl) ?_
    refine WL.y rfl rfl (yi_move rfl) ?_
    refine WL.y rfl rfl (yi_len Try.runUnderlying49 rfl) ?_
    refine WL.y rfl rfl (yi_lss rfl rfl) ?_
    refine WL.done ?_
    refine NW.next ?_
    refine CW.cond rfl (fun q_L => ?_) (fun q_L => ?_)
    · try replace q_L := of_decide_eq_true q_L
      obtain ⟨z, hz⟩ : ∃ z, out[k]? = some z := ⟨out[k]'(by omega), List.getElem?_eq_getElem (by omega)⟩
      obtain ⟨ad7, hA7, hcell⟩ := int_at R7 hz
      subst hA7
      refine CW.skip ?_
      refine NW.next ?_
      refine CW.seq ?_
      refine CW.block ?_
      refine CW.seq ?_
      have fd17 : Same w16 w16.drew := Only.drew _ _
      obtain ⟨w18, hww18⟩ : ∃ wz, wz = w16.drew := ⟨_, rfl⟩
      rw [← hww18] at fd17
      have F19 := Only.same fr fd17
      have F20 := Blk.same TBL fd17
      have F21 := Own.same O fd17
      have F22 := Row.same (by decide) Rk fd17
      have F23 := Only.cell fd17 hcell (fun hl => hl)
      have sz24 := fd17.size
      refine CW.draw 9 [(0, true), (1, true), (2, true), (3, true), (4, true), (5, true), (8, true), (6, false), (7, true)] (fun w' => Blk w' tb _ _ ∧ World.cell? w' (ad7.add k) = some (.int .i64 z)) Try_mixed (by kernel_rfl) (fun _ _ _ _ h => h) hww18 ⟨F20, F23⟩ ?_
      refine PL.y rfl rfl rfl (fun w' hS => by first | exact yi_loadW Try.isAgg60 Try.sizeOf60 rfl hS.1 rfl) ?_
      refine PL.y rfl rfl rfl (fun w' hS => yi_move rfl) ?_
      refine PL.y rfl rfl rfl (fun w' hS => yi_move rfl) ?_
      refine PL.y rfl rfl rfl (fun w' hS => yi_move rfl) ?_
      refine PL.y rfl rfl rfl (fun w' hS => yi_indexAddr Try.runUnderlying49 Try.sizeOf3 rfl rfl (by omega) (by omega)) ?_
      refine PL.as_ (t := 25) (v' := .pointer (some (ad7.add k))) rfl (by rw [Int.toNat_natCast, Nat.mul_one]) ?_
      refine PL.y rfl rfl rfl (fun w' hS => yi_load1 Try.isAgg3 rfl hS.2) ?_
      refine PL.y rfl rfl rfl (fun w' hS => yi_move rfl) ?_
      refine PL.e rfl rfl rfl (ef_call Try.call38 rfl (next_c t Au Ah cu ch _ _ F22 hc hm flow z (fun k hk => by have := hok k hk; omega) hL)) ?_
      rintro u27 w25 ⟨hN, f26⟩
      obtain ⟨nx, hnx⟩ : ∃ nx, nx = nextOf t flow z := ⟨_, rfl⟩
      rw [← hnx] at hN
      obtain ⟨y1, hy1⟩ : ∃ y, y = w18.heap.size := ⟨_, rfl⟩
      rw [← hy1] at hN
      obtain ⟨An, cn, hvn, hcn, hmn, RN0, -⟩ := hN.row (by decide)
      subst hvn
      have RN1 := Row.bound (by decide) RN0
      obtain ⟨y2, hy2⟩ : ∃ y, y = w25.heap.size := ⟨_, rfl⟩
      rw [← hy2] at RN1
      have F27 := Only.same F19 f26
      have F28 := Blk.same F20 f26
      have F29 := Own.same F21 f26
      have F30 := Row.same (by decide) F22 f26
      have F31 := Only.cell f26 F23 (fun hl => hl)
      clear F19 F20 F21 F22 F23
      have sz32 := f26.size
      refine ⟨fun _ => ⟨F28, F31⟩, ?_⟩
      refine PL.y rfl rfl rfl (fun w' hS => yi_len Try.runUnderlying49 rfl) ?_
      refine PL.done ?_
      refine NW.next ?_
      refine CW.block ?_
      refine CW.loop (fun mm a w' => ∃ (i : Nat) (v7 : Value) (out : List Int), mm = nx.length - i ∧ i ≤ nx.length ∧ Same w w' ∧ Blk w' tb #[.int .u64 t.epoch, .slice Au t.up.length cu, .slice Ah t.hops.length ch] 60 ∧ Own dI 3 w' (fun x => w.heap.size ≤ x) v7 out ∧ (∀ x, v7.ownBlock = some x → x ≠ tb ∧ (x < y1 ∨ y2 ≤ x)) ∧ Row dI w' (fun x => y1 ≤ x ∧ x < y2) An nx ∧ y2 ≤ w'.heap.size ∧ RI (edgesOf t flow) node out k ∧ out[k]? = some z ∧ (∀ j x, j < i → nx[j]? = some x → x ∈ out) ∧ Env 45 [] [(1, .int .i64 flow), (3, .pointer (some ⟨tb, 0, none⟩)), (7, v7), (8, .int .i64 k), (27, .slice An nx.length cn), (28, .int .i64 nx.length), (29, .int .i64 i)] a) (nx.length) ?_ ?_
      · have hown := O.ok
        exact fun a ha => ⟨0, _, _, rfl, by omega, F27, F28, F29.mono (fun k hk => hk.1), fun x hx => ⟨hnt x hx, by have := hown x hx; omega⟩, RN1, by omega, ri, hz, fun j x hj => by omega, ha.sub ⟨rfl, rfl, rfl, rfl, rfl, rfl, rfl, trivial⟩⟩
      · rintro mm2 a w33 ⟨i, v7, out, rfl, hi, fr, TBL, O, hnt, RN, hys, ri, hz, hin, ha⟩
        refine CW.at ha ?_
        have Rk := Row.same (by decide) R fr
        have hsz := fr.size
        replace O := O.bound
        have hown := O.ok
        obtain ⟨A8, c8, hv8, hc8, hm8, R8, -⟩ := O.row (by decide)
        subst hv8
        have hlen := ri.len
        refine CW.seq ?_
        refine CW.region ?_
        refine WL.y rfl rfl (yi_lss rfl rfl) ?_
        refine WL.done ?_
        refine NW.next ?_
        refine CW.seq ?_
        refine CW.cond rfl (fun q_M => ?_) (fun q_M => ?_)
        · try replace q_M := of_decide_eq_true q_M
          obtain ⟨x, hx⟩ : ∃ x, nx[i]? = some x := ⟨nx[i]'(by omega), List.getElem?_eq_getElem (by omega)⟩
          obtain ⟨adn, hAn, hcelln⟩ := int_at RN hx
          subst hAn
          have hzx : (⟨z, x⟩ : Ed) ∈ edgesOf t flow := mem_next.1 (hnx ▸ List.mem_of_getElem? hx)
          refine CW.skip ?_
          refine NW.next ?_
          refine CW.seq ?_
          refine CW.block ?_
          refine CW.seq ?_
          refine CW.region ?_
          refine WL.y rfl rfl (yi_indexAddr Try.runUnderlying49 Try.sizeOf3 rfl rfl (by omega) (by omega)) ?_
          refine WL.as_ (t := 31) (v' := .pointer (some (adn.add i))) rfl (by rw [Int.toNat_natCast, Nat.mul_one]) ?_
          refine WL.y rfl rfl (yi_load1 Try.isAgg3 rfl hcelln) ?_
          refine WL.y rfl rfl (yi_assign rfl) ?_
          refine WL.done ?_
          refine NW.next ?_
          refine CW.seq ?_
          refine CW.region ?_
          refine WL.y rfl rfl (yi_move rfl) ?_
          refine WL.y rfl rfl (yi_move rfl) ?_
          refine WL.e rfl rfl (ef_call Try.call78 rfl (contains_c O)) ?_
          rintro _ w34 ⟨rfl, rfl⟩
          refine WL.y rfl rfl (yi_notP rfl) ?_
          refine WL.done ?_
          refine NW.next ?_
          refine CW.cond rfl (fun q_MT => ?_) (fun q_MT => ?_)
          · try replace q_MT := of_decide_eq_true q_MT
            have hnin : ¬ x ∈ out := by simpa using q_MT
            refine CW.region ?_
            refine WL.y rfl rfl (yi_move rfl) ?_
            refine WL.y rfl rfl (yi_move rfl) ?_
            refine WL.e rfl rfl (ef_buildSlice Try.runUnderlying49 Try.sizeOf3 Try.zeroValue3 rfl (fun _ => by kernel_rfl)) ?_
            rintro _ w41 ⟨xb, hb_xb, rfl, f38, B39, z_xb⟩
            have F42 := Only.same fr f38
            have F43 := Blk.same TBL f38
            have F44 := Own.same O f38
            have F45 := Row.same (by decide) RN f38
            have F46 := Row.same (by decide) Rk f38
            have sz47 := f38.size
            have hone : Row dI _ (fun k => k = xb) (some ⟨xb, 0, none⟩) [x] := Row.one B39 rfl rfl
            obtain ⟨y3, hy3⟩ : ∃ y, y = w41.heap.size := ⟨_, rfl⟩
            refine WL.e rfl rfl (ef_appendOwn (k := 1) dI Try.runUnderlying49 (notInt Try.runUnderlying49) Try.typeInfo3 Try.zeroValue3 rfl rfl rfl rfl F44 rfl hone (fun k hk hok he => by have hok : k = xb := hok; have := hown k he; omega) (by decide) (by omega) (by show (_ + 1) * 8 ≤ _; omega)) ?_
            rintro u9 w48 ⟨hO', f49, hu⟩
            have F50 := Only.trans F42 f49 (fun i hi hl => by have := hown i hl; omega)
            have F51 := Blk.only F43 f49 (fun hl => (hnt tb hl).1 rfl)
            have F52 := Row.only (by decide) F45 f49 (fun k hk hok' hl => by have := (hnt k hl).2; omega)
            have F53 := Row.only (by decide) F46 f49 (fun k hk hok' hl => by have := hown k hl; have := hok k hok'; omega)
            clear F42 F43 F45 F46
            have sz54 := f49.size
            have hO2 := hO'.mono (ok' := fun k => w.heap.size ≤ k) (fun k hk => by rcases hk with (hk | hk) | hk <;> omega)
            have hnt3 : ∀ x, u9.ownBlock = some x → x ≠ tb ∧ (x < y1 ∨ y2 ≤ x) := fun x hx => hu.elim (fun h => hnt x (h ▸ hx)) (fun h => by rw [h] at hx; injection hx with hx; have := F51.lt; omega)
            refine WL.y rfl rfl (yi_assign rfl) ?_
            refine WL.done ?_
            refine NW.blockEnd ?_
            refine NW.next ?_
            refine CW.region ?_
            refine WL.y rfl rfl (yi_addI rfl rfl (by omega) (by omega)) ?_
            refine WL.as_ (t := 41) (v' := .int .i64 ((i + 1 : Nat) : Int)) rfl (congrArg (Value.int .i64) (by omega)) ?_
            refine WL.y rfl rfl (yi_move rfl) ?_
            refine WL.done ?_
            refine NW.round (nx.length - (i + 1)) (by omega) ?_
            exact fun a ha => ⟨i + 1, _, _, rfl, by omega, F50, F51, hO2, hnt3, F52, by omega, ri.add hz hzx hnin, by rw [List.getElem?_append_left (List.getElem?_eq_some_iff.1 hz).1]; exact hz, in_step (fun j x hj h => List.mem_append_left _ (hin j x hj h)) hx (List.mem_append_right _ (by simp)), ha.sub ⟨rfl, rfl, rfl, rfl, rfl, rfl, rfl, trivial⟩⟩
          · try replace q_MT := of_decide_eq_false q_MT
            refine CW.skip ?_
            refine NW.blockEnd ?_
            refine NW.next ?_
            refine CW.region ?_
            refine WL.y rfl rfl (yi_addI rfl rfl (by omega) (by omega)) ?_
            refine WL.as_ (t := 41) (v' := .int .i64 ((i + 1 : Nat) : Int)) rfl (congrArg (Value.int .i64) (by omega)) ?_
            refine WL.y rfl rfl (yi_move rfl) ?_
            refine WL.done ?_
            refine NW.round (nx.length - (i + 1)) (by omega) ?_
            exact fun a ha => ⟨i + 1, _, _, rfl, by omega, fr, TBL, O.mono (fun k hk => hk.1), hnt, RN, by omega, ri, hz, in_step hin hx (Classical.not_not.1 (by simpa using q_MT)), ha.sub ⟨rfl, rfl, rfl, rfl, rfl, rfl, rfl, trivial⟩⟩
        · try replace q_M := of_decide_eq_false q_M
          have hnt2 : ∀ x, (Value.slice A8 out.length c8).ownBlock = some x → x ≠ tb := fun x hx => (hnt x hx).1
          have ri2 := ri
          have hz2 := hz
          have hall : ∀ y, y ∈ nextOf t flow z → y ∈ out := fun y hy => by rw [← hnx] at hy; obtain ⟨j, hj, e⟩ := List.getElem_of_mem hy; exact hin j y (by omega) (by rw [List.getElem?_eq_getElem hj, e])
          refine CW.exit ?_
          refine NW.thenExit ?_
          refine NW.thenExit ?_
          refine NW.blockHit ?_
          refine NW.blockEnd ?_
          refine NW.next ?_
          refine CW.region ?_
          refine WL.y rfl rfl (yi_move rfl) ?_
          refine WL.y rfl rfl (yi_addI rfl rfl (by omega) (by omega)) ?_
          refine WL.as_ (t := 20) (v' := .int .i64 ((k + 1 : Nat) : Int)) rfl (congrArg (Value.int .i64) (by omega)) ?_
          refine WL.y rfl rfl (yi_assign rfl) ?_
          refine WL.done ?_
          refine NW.round ((edgesOf t flow).length + 1 - (k + 1)) (by omega) ?_
          exact fun a ha => ⟨k + 1, _, _, rfl, fr, TBL, O.mono (fun k hk => hk.1), hnt2, ri2.next hz2 (fun y hy => hall y (mem_next.2 hy)), (by have := (List.getElem?_eq_some_iff.1 hz2).1; omega), ha.sub ⟨rfl, rfl, rfl, rfl, trivial⟩⟩
    · try replace q_L := of_decide_eq_false q_L
      refine CW.exit ?_
      refine NW.thenExit ?_
      refine NW.thenExit ?_
      refine NW.blockHit ?_
      refine NW.next ?_
      refine CW.seq ?_
      refine CW.region ?_
      refine WL.y rfl rfl (yi_move rfl) ?_
      have hown11 := O.ok
      refine WL.e rfl rfl (ef_call Try.call102 rfl (sort_c O (by omega))) ?_
      rintro _ w55 ⟨hO2, f56⟩
      have F57 := Only.trans fr f56 (fun i hi hl => by have := hown11 i hl; omega)
      have sz58 := f56.size
      refine WL.done ?_
      refine NW.next ?_
      refine CW.seq ?_
      refine CW.region ?_
      refine WL.y rfl rfl (yi_move rfl) ?_
      refine WL.y rfl rfl (yi_assign rfl) ?_
      refine WL.done ?_
      refine NW.next ?_
      refine CW.ret ?_
      refine NW.ret1 rfl rfl ?_
      exact ⟨_, rfl, _, hO2.mono (fun k hk => hk.1), sort_nodup ri.nd, fun x => mem_sortI.trans (ri.done (by omega) x), F57⟩

end Go.Proofs.YtgmjgdjobkmbgaaN
