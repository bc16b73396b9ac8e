/- NetTrue, walked. -/
import Derived.Test.YtgmjgdjobkmbgaaNetH
import Derived.Test.YtgmjgdjobkmbgaaNetW
set_option linter.unusedVariables false
set_option linter.unusedSimpArgs false
namespace Go.Proofs.YtgmjgdjobkmbgaaN
open Go.Proofs.YtgmjgdjobkmbgaaL Go.RowKit Go.Proofs
attribute [local irreducible] Ef Yi WL PL CW NW Ret
set_option maxHeartbeats 4000000
theorem sl_row {w : World} {W0 n c : Nat} {ok : Nat → Prop} {A : Option Addr} {S : List Tr} (h : Sl dTr 33 w W0 ok (.slice A n c) S) : Row dTr w ok A S := by
  obtain ⟨A', c', hv, -, -, R⟩ := h.row (by decide)
  injection hv with h1 h2 h3
  subst h1
  exact R
theorem tr_in (cur : Array Value) (i : Nat) (v0 v1 v2 v3 v4 v5 v6 : Value) (h0 : cur[i * 7 + 0]? = some v0) (h1 : cur[i * 7 + 1]? = some v1) (h2 : cur[i * 7 + 2]? = some v2) (h3 : cur[i * 7 + 3]? = some v3) (h4 : cur[i * 7 + 4]? = some v4) (h6 : i * 7 + 6 < cur.size) :
    ∀ j u, [v0, v1, v2, v3, v4, v5, v6][j]? = some u → (putAll (putAll cur (i * 7 + 5) [v5]) (i * 7 + 6) [v6])[i * 7 + j]? = some u := by
  intro j u hu
  simp only [putAll]
  match j with
  | 0 => simp at hu; subst hu; rw [Array.getElem?_setIfInBounds_ne (by omega), Array.getElem?_setIfInBounds_ne (by omega)]; exact h0
  | 1 => simp at hu; subst hu; rw [Array.getElem?_setIfInBounds_ne (by omega), Array.getElem?_setIfInBounds_ne (by omega)]; exact h1
  | 2 => simp at hu; subst hu; rw [Array.getElem?_setIfInBounds_ne (by omega), Array.getElem?_setIfInBounds_ne (by omega)]; exact h2
  | 3 => simp at hu; subst hu; rw [Array.getElem?_setIfInBounds_ne (by omega), Array.getElem?_setIfInBounds_ne (by omega)]; exact h3
  | 4 => simp at hu; subst hu; rw [Array.getElem?_setIfInBounds_ne (by omega), Array.getElem?_setIfInBounds_ne (by omega)]; exact h4
  | 5 => simp at hu; subst hu; rw [Array.getElem?_setIfInBounds_ne (by omega), Array.getElem?_setIfInBounds_self_of_lt (by omega)]
  | 6 => simp at hu; subst hu; rw [Array.getElem?_setIfInBounds_self_of_lt (by rw [Array.size_setIfInBounds]; omega)]
  | j + 7 => simp at hu
theorem tr_out (cur : Array Value) (i : Nat) (v5 v6 : Value) (k : Nat) (hk : k < i * 7 ∨ i * 7 + 7 ≤ k) : (putAll (putAll cur (i * 7 + 5) [v5]) (i * 7 + 6) [v6])[k]? = cur[k]? := by
  simp only [putAll]
  rw [Array.getElem?_setIfInBounds_ne (by omega), Array.getElem?_setIfInBounds_ne (by omega)]

theorem law_c (A : Option Addr) (c : Nat) (ops : List OpD) (w : World) (R : Row dOp w (fun x => x < w.heap.size) A ops) (hc : ops.length ≤ c) :
    Ret Try.prog 3 [.slice A ops.length c] w fun u w' => u = .bool true ∧ Same w w' := by
  have fr0 : Only (fun _ => False) w w := Only.refl _ _
  refine Ret.go Try.func3 rfl Try.ntmps3 rfl ?_
  refine CW.seq ?_
  refine CW.region ?_
  refine WL.y rfl rfl (yi_assign rfl) ?_
  refine WL.done ?_
  refine NW.next ?_
  refine CW.seq ?_
  refine CW.region ?_
  refine WL.e rfl rfl (ef_call Try.call10 rfl (new_c 4 _ (by decide) (by decide))) ?_
  rintro _ w1 ⟨nb, hnb, rfl, f2, B3, z4⟩
  have hN0 : NetAt _ nb 4 (fun x => x = nb) [] := ⟨_, B3, rfl, Own.nil _ _ _ _, by simp, by simp⟩
  have F5 := Row.same (by decide) R f2
  have F6 := Only.same fr0 f2
  have sz7 := f2.size
  refine WL.y rfl rfl (yi_move rfl) ?_
  refine WL.y rfl rfl (yi_extract rfl rfl) ?_
  refine WL.y rfl rfl (yi_extract rfl rfl) ?_
  refine WL.y rfl rfl (yi_assign rfl) ?_
  refine WL.y rfl rfl (yi_assign rfl) ?_
  refine WL.done ?_
  refine NW.next ?_
  refine CW.seq ?_
  refine CW.seq ?_
  refine CW.region ?_
  refine WL.y rfl rfl (yi_move rfl) ?_
  refine WL.y rfl rfl (yi_neq rfl rfl) ?_
  refine WL.done ?_
  refine NW.next ?_
  refine CW.cond rfl (fun q_ => ?_) (fun q_ => ?_)
  · try replace q_ := of_decide_eq_true q_
    exact absurd q_ (by decide)
  · try replace q_ := of_decide_eq_false q_
    refine CW.skip ?_
    refine NW.next ?_
    refine CW.seq ?_
    refine CW.region ?_
    refine WL.y rfl rfl (yi_assign rfl) ?_
    refine WL.done ?_
    refine NW.next ?_
    refine CW.seq ?_
    refine CW.seq ?_
    refine CW.region ?_
    refine WL.y rfl rfl (yi_assign rfl) ?_
    refine WL.done ?_
    refine NW.next ?_
    refine CW.block ?_
    refine CW.loop (fun mm a w' => ∃ (k : Nat) (F : Nat → Prop) (L : List Par) (S : List Tr) (v5 : Value), mm = 80 - k ∧ NetSt w w' nb F L S v5 k ∧ Env 236 [] [(0, .slice A ops.length c), (2, .bool false), (3, .pointer (some ⟨nb, 0, none⟩)), (5, v5), (6, .int .i64 k)] a) (80) ?_ ?_
    · refine fun a ha => ⟨0, _, [], [], _, rfl, ⟨F6, hN0, fun x hx => by have hx : x = nb := hx; exact ⟨by omega, by omega⟩, .inl ⟨Own.nil _ _ _ _, fun k hk => by simp [Value.ownBlock] at hk⟩, rfl, by simp, by decide⟩, ha.sub ⟨rfl, rfl, rfl, rfl, rfl, trivial⟩⟩
    · rintro mm a w8 ⟨k, F, L, S, v5, rfl, st, ha⟩
      refine CW.at ha ?_
      obtain ⟨fr, N, hnew0, SL0, hrel, hlen, htop⟩ := st
      have hL := par_len hrel
      have hzw := fr.size
      obtain ⟨z0, hz0⟩ : ∃ z0, z0 = w8.heap.size := ⟨_, rfl⟩
      have hnew : ∀ x, F x → w.heap.size ≤ x ∧ x < z0 := fun x hx => ⟨(hnew0 x hx).1, by rw [hz0]; exact (hnew0 x hx).2⟩
      have SL := SL0.mono (ok' := fun x => x < z0 ∧ ¬ F x) (fun x hx => ⟨by rw [hz0]; exact hx.1, hx.2⟩)
      obtain ⟨A5, c5, hv5, hc5, hm5, R5x⟩ := SL.row (by decide)
      subst hv5
      have Rk := Row.same (by decide) R fr
      refine CW.seq ?_
      refine CW.seq ?_
      refine CW.region ?_
      refine WL.y rfl rfl (yi_move rfl) ?_
      refine WL.y rfl rfl (yi_move rfl) ?_
      refine WL.y rfl rfl (yi_len Try.runUnderlying22 rfl) ?_
      refine WL.y rfl rfl (yi_lss rfl rfl) ?_
      refine WL.y rfl rfl (yi_move rfl) ?_
      refine WL.split (t := 24) rfl (fun q_L => ?_) (fun q_L => ?_)
      · try replace q_L := of_decide_eq_true q_L
        refine WL.gy rfl rfl rfl rfl rfl (yi_move rfl) ?_
        refine WL.gy rfl rfl rfl rfl rfl (yi_lss rfl rfl) ?_
        refine WL.y rfl rfl (yi_pickT rfl rfl) ?_
        refine WL.done ?_
        refine NW.next ?_
        refine CW.cond rfl (fun q_Lt => ?_) (fun q_Lt => ?_)
        · try replace q_Lt := of_decide_eq_true q_Lt
          obtain ⟨o, ho⟩ : ∃ o, ops[k]? = some o := ⟨ops[k]'(by omega), List.getElem?_eq_getElem (by omega)⟩
          obtain ⟨ad, Ab, cb, hA, E, hcb, hmb, Rb⟩ := op_at Rk ho
          subst hA
          obtain ⟨f1, hf1, hf1a⟩ := and3 o.frm
          obtain ⟨f2, hf2, hf2a⟩ := and3 o.to
          refine CW.skip ?_
          refine NW.next ?_
          refine CW.seq ?_
          refine CW.block ?_
          refine CW.seq ?_
          refine CW.region ?_
          refine WL.y rfl rfl (yi_move rfl) ?_
          refine WL.y rfl rfl (yi_move rfl) ?_
          refine WL.y rfl rfl (yi_indexAddr Try.runUnderlying22 Try.sizeOf30 rfl rfl (by omega) (by omega)) ?_
          refine WL.as_ (t := 32) (v' := .pointer (some (ad.add (k * 5)))) rfl (by rw [Int.toNat_natCast]) ?_
          refine WL.y rfl rfl (yi_loadA (cs := [.int .i64 o.what, .int .i64 o.frm, .int .i64 o.to, .int .i64 o.pl, .slice Ab o.bytes.length cb]) Try.isAgg30 Try.sizeOf30 rfl rfl (Seg.get E)) ?_
          refine WL.e rfl rfl (ef_alloc Try.zeroValue30) ?_
          rintro _ w14 ⟨ob, hb_ob, rfl, f11, B12, z_ob⟩
          have F15 := Only.same fr f11
          have F16 := NetAt.same N f11
          have F17 := Sl.same (by decide) SL f11
          have F18 := Row.same (by decide) Rk f11
          have F19 := Row.same (by decide) Rb f11
          have sz20 := f11.size
          refine WL.e rfl rfl (ef_store (b := ob) Try.sizeOf30 rfl rfl B12 rfl rfl rfl) ?_
          rintro _ w24 ⟨rfl, f21, B22, z23⟩
          have F25 := Only.trans F15 f21 (fun i hi hl => by have hl : i = _ := hl; omega)
          have F26 := NetAt.only F16 f21 (fun k hk hok hl => by have hl : k = _ := hl; have := hnew k hok; omega)
          have F27 := Sl.only (by decide) F17 f21 (fun k hk hok hl => by have hl : k = _ := hl; omega)
          have F28 := Row.only (by decide) F18 f21 (fun k hk hok hl => by have hl : k = _ := hl; omega)
          have F29 := Row.only (by decide) F19 f21 (fun k hk hok hl => by have hl : k = _ := hl; omega)
          clear F15 F16 F17 F18 F19
          refine WL.done ?_
          refine NW.next ?_
          refine CW.seq ?_
          refine CW.region ?_
          refine WL.y rfl rfl (yi_fieldAddr Try.runUnderlying30 rfl Try.sizeOf3 rfl) ?_
          refine WL.y rfl rfl (yi_loadB Try.isAgg3 rfl (by assumption) rfl) ?_
          refine WL.y rfl rfl (yi_and rfl rfl) ?_
          refine WL.as_ (t := 36) (v' := .int .i64 f1) rfl (congrArg (Value.int .i64) hf1) ?_
          refine WL.y rfl rfl (yi_fieldAddr Try.runUnderlying30 rfl Try.sizeOf3 rfl) ?_
          refine WL.y rfl rfl (yi_loadB Try.isAgg3 rfl (by assumption) rfl) ?_
          refine WL.y rfl rfl (yi_and rfl rfl) ?_
          refine WL.as_ (t := 39) (v' := .int .i64 f2) rfl (congrArg (Value.int .i64) hf2) ?_
          refine WL.y rfl rfl (yi_fieldAddr Try.runUnderlying30 rfl Try.sizeOf3 rfl) ?_
          refine WL.e rfl rfl (ef_store (b := ob) Try.sizeOf3 rfl rfl B22 rfl rfl rfl) ?_
          rintro _ w33 ⟨rfl, f30, B31, z32⟩
          have F34 := Only.trans F25 f30 (fun i hi hl => by have hl : i = _ := hl; omega)
          have F35 := NetAt.only F26 f30 (fun k hk hok hl => by have hl : k = _ := hl; have := hnew k hok; omega)
          have F36 := Sl.only (by decide) F27 f30 (fun k hk hok hl => by have hl : k = _ := hl; omega)
          have F37 := Row.only (by decide) F28 f30 (fun k hk hok hl => by have hl : k = _ := hl; omega)
          have F38 := Row.only (by decide) F29 f30 (fun k hk hok hl => by have hl : k = _ := hl; omega)
          clear F25 F26 F27 F28 F29
          refine WL.y rfl rfl (yi_fieldAddr Try.runUnderlying30 rfl Try.sizeOf3 rfl) ?_
          refine WL.e rfl rfl (ef_store (b := ob) Try.sizeOf3 rfl rfl B31 rfl rfl rfl) ?_
          rintro _ w42 ⟨rfl, f39, B40, z41⟩
          have F43 := Only.trans F34 f39 (fun i hi hl => by have hl : i = _ := hl; omega)
          have F44 := NetAt.only F35 f39 (fun k hk hok hl => by have hl : k = _ := hl; have := hnew k hok; omega)
          have F45 := Sl.only (by decide) F36 f39 (fun k hk hok hl => by have hl : k = _ := hl; omega)
          have F46 := Row.only (by decide) F37 f39 (fun k hk hok hl => by have hl : k = _ := hl; omega)
          have F47 := Row.only (by decide) F38 f39 (fun k hk hok hl => by have hl : k = _ := hl; omega)
          clear F34 F35 F36 F37 F38
          refine WL.done ?_
          refine NW.next ?_
          refine CW.cut (fun a w' => w42 = w' ∧ ∃ th : Bool, (th = true ↔ 0 ≤ o.pl ∧ o.pl < S.length) ∧ Env 236 [] [(0, .slice (some ad) ops.length c), (2, .bool false), (3, .pointer (some ⟨nb, 0, none⟩)), (5, .slice A5 S.length c5), (6, .int .i64 k), (7, .pointer (some ⟨ob, 0, none⟩)), (8, .bool th)] a) ?_ ?_
          · refine CW.region ?_
            refine WL.y rfl rfl (yi_fieldAddr Try.runUnderlying30 rfl Try.sizeOf3 rfl) ?_
            refine WL.y rfl rfl (yi_loadB Try.isAgg3 rfl (by assumption) rfl) ?_
            refine WL.y rfl rfl (yi_geq rfl rfl) ?_
            refine WL.y rfl rfl (yi_move rfl) ?_
            refine WL.split (t := 45) rfl (fun q_LtT => ?_) (fun q_LtT => ?_)
            · try replace q_LtT := of_decide_eq_true q_LtT
              refine WL.gy rfl rfl rfl rfl rfl (yi_fieldAddr Try.runUnderlying30 rfl Try.sizeOf3 rfl) ?_
              refine WL.gy rfl rfl rfl rfl rfl (yi_loadB Try.isAgg3 rfl (by assumption) rfl) ?_
              refine WL.gy rfl rfl rfl rfl rfl (yi_move rfl) ?_
              refine WL.gy rfl rfl rfl rfl rfl (yi_len Try.runUnderlying27 rfl) ?_
              refine WL.gy rfl rfl rfl rfl rfl (yi_lss rfl rfl) ?_
              refine WL.y rfl rfl (yi_pickT rfl rfl) ?_
              refine WL.y rfl rfl (yi_assign rfl) ?_
              refine WL.done ?_
              refine NW.meet ?_
              refine fun a ha => ⟨rfl, _, ?_, ha.sub ⟨rfl, rfl, rfl, rfl, rfl, rfl, rfl, trivial⟩⟩
              simp only [decide_eq_true_eq]; omega
            · try replace q_LtT := of_decide_eq_false q_LtT
              refine WL.no rfl rfl rfl rfl rfl rfl ?_
              refine WL.no rfl rfl rfl rfl rfl rfl ?_
              refine WL.no rfl rfl rfl rfl rfl rfl ?_
              refine WL.no rfl rfl rfl rfl rfl rfl ?_
              refine WL.no rfl rfl rfl rfl rfl rfl ?_
              refine WL.y rfl rfl (yi_pickF rfl rfl) ?_
              refine WL.y rfl rfl (yi_assign rfl) ?_
              refine WL.done ?_
              refine NW.meet ?_
              refine fun a ha => ⟨rfl, _, ?_, ha.sub ⟨rfl, rfl, rfl, rfl, rfl, rfl, rfl, trivial⟩⟩
              exact ⟨fun h => (by cases h), fun h => absurd h.1 (by omega)⟩
          · rintro a _ ⟨rfl, th, hth, ha⟩
            refine CW.at ha ?_
            refine CW.cut (fun a w' => ∃ (F' : Nat → Prop) (L' : List Par) (S' : List Tr) (v' : Value), NetSt w w' nb F' L' S' v' (k + 1) ∧ Env 236 [] [(0, .slice (some ad) ops.length c), (2, .bool false), (3, .pointer (some ⟨nb, 0, none⟩)), (5, v'), (6, .int .i64 k)] a) ?_ ?_
            · refine CW.seq ?_
              refine CW.region ?_
              refine WL.y rfl rfl (yi_fieldAddr Try.runUnderlying30 rfl Try.sizeOf3 rfl) ?_
              refine WL.y rfl rfl (yi_loadB Try.isAgg3 rfl (by assumption) rfl) ?_
              refine WL.done ?_
              refine NW.next ?_
              refine CW.block ?_
              refine CW.cut (fun a w' => w42 = w' ∧ ∃ b : Bool, Env 236 [] [(0, .slice (some ad) ops.length c), (2, .bool false), (3, .pointer (some ⟨nb, 0, none⟩)), (5, .slice A5 S.length c5), (6, .int .i64 k), (7, .pointer (some ⟨ob, 0, none⟩)), (8, .bool th), (53, .int .i64 o.what), (54, .bool b)] a) ?_ ?_
              · refine CW.seq ?_
                refine CW.region ?_
                refine WL.y rfl rfl (yi_eql rfl rfl) ?_
                refine WL.y rfl rfl (yi_assign rfl) ?_
                refine WL.done ?_
                refine NW.next ?_
                refine CW.cond rfl (fun q_C => ?_) (fun q_C => ?_)
                · try replace q_C := of_decide_eq_true q_C
                  refine CW.skip ?_
                  refine NW.meet ?_
                  exact fun a ha => ⟨rfl, _, ha.sub ⟨rfl, rfl, rfl, rfl, rfl, rfl, rfl, rfl, rfl, trivial⟩⟩
                · try replace q_C := of_decide_eq_false q_C
                  refine CW.seq ?_
                  refine CW.region ?_
                  refine WL.y rfl rfl (yi_eql rfl rfl) ?_
                  refine WL.y rfl rfl (yi_assign rfl) ?_
                  refine WL.done ?_
                  refine NW.next ?_
                  refine CW.cond rfl (fun q_CF => ?_) (fun q_CF => ?_)
                  · try replace q_CF := of_decide_eq_true q_CF
                    refine CW.skip ?_
                    refine NW.meet ?_
                    exact fun a ha => ⟨rfl, _, ha.sub ⟨rfl, rfl, rfl, rfl, rfl, rfl, rfl, rfl, rfl, trivial⟩⟩
                  · try replace q_CF := of_decide_eq_false q_CF
                    refine CW.region ?_
                    refine WL.y rfl rfl (yi_eql rfl rfl) ?_
                    refine WL.y rfl rfl (yi_assign rfl) ?_
                    refine WL.done ?_
                    refine NW.meet ?_
                    exact fun a ha => ⟨rfl, _, ha.sub ⟨rfl, rfl, rfl, rfl, rfl, rfl, rfl, rfl, rfl, trivial⟩⟩
              · rintro a _ ⟨rfl, b54, ha⟩
                refine CW.at ha ?_
                refine CW.cond rfl (fun q_D => ?_) (fun q_D => ?_)
                · try replace q_D := of_decide_eq_true q_D
                  refine CW.seq ?_
                  refine CW.seq ?_
                  have fd48 : Same w42 w42.drew := Only.drew _ _
                  obtain ⟨w49, hww49⟩ : ∃ w1, w1 = w42.drew := ⟨_, rfl⟩
                  rw [← hww49] at fd48
                  have F50 := Only.same F43 fd48
                  have F51 := NetAt.same F44 fd48
                  have F52 := Sl.same (by decide) F45 fd48
                  have F53 := Row.same (by decide) F46 fd48
                  have F54 := Row.same (by decide) F47 fd48
                  have F55 := Blk.same B40 fd48
                  clear F43 F44 F45 F46 F47
                  have sz56 := fd48.size
                  refine CW.draw 13 [(0, true), (1, true), (2, true), (3, true), (4, true), (5, true), (6, true), (9, true), (10, true), (11, true), (12, true), (7, false), (8, true), (13, false)] (fun w' => Blk w' ob _ _) Try_mixed (by kernel_rfl) (fun _ _ _ _ h => h) hww49 F55 ?_
                  refine PL.y rfl rfl rfl (fun w' hS => yi_move rfl) ?_
                  refine PL.y rfl rfl rfl (fun w' hS => yi_fieldAddr Try.runUnderlying30 rfl Try.sizeOf3 rfl) ?_
                  refine PL.y rfl rfl rfl (fun w' hS => by first | exact yi_loadB Try.isAgg3 rfl hS rfl) ?_
                  refine PL.y rfl rfl rfl (fun w' hS => yi_fieldAddr Try.runUnderlying30 rfl Try.sizeOf3 rfl) ?_
                  refine PL.y rfl rfl rfl (fun w' hS => by first | exact yi_loadB Try.isAgg3 rfl hS rfl) ?_
                  refine PL.y rfl rfl rfl (fun w' hS => yi_fieldAddr Try.runUnderlying30 rfl Try.sizeOf28 rfl) ?_
                  refine PL.y rfl rfl rfl (fun w' hS => by first | exact yi_loadB Try.isAgg28 rfl hS rfl) ?_
                  refine PL.y rfl rfl rfl (fun w' hS => yi_fieldAddr Try.runUnderlying30 rfl Try.sizeOf28 rfl) ?_
                  refine PL.y rfl rfl rfl (fun w' hS => by first | exact yi_loadB Try.isAgg28 rfl hS rfl) ?_
                  refine PL.y rfl rfl rfl (fun w' hS => yi_len Try.runUnderlying28 rfl) ?_
                  refine PL.y rfl rfl rfl (fun w' hS => yi_leq rfl rfl) ?_
                  refine PL.e rfl rfl rfl (ef_call Try.call11 rfl (send_any nb _ L f1 f2 o.bytes Ab cb _ _ F51 F54 hcb hf1a hf2a (by omega))) ?_
                  rintro _ w57 ⟨e, L2, rfl, hN', f58, he, hL2a, hL2b⟩
                  obtain ⟨F2, hF2⟩ : ∃ F2 : Nat → Prop, F2 = fun x => grow F w49 x ∧ x < w57.heap.size := ⟨_, rfl⟩
                  have N259 := NetAt.bound hN'
                  rw [← hF2] at N259
                  have hz1 := f58.size
                  have hF2a : ∀ x, F2 x → w.heap.size ≤ x ∧ x < w57.heap.size := by rw [hF2]; exact fun x hx => ⟨hx.1.elim (fun h => (hnew x h).1) (fun h => by omega), hx.2⟩
                  have hF2b : ∀ x, x < z0 → ¬ F x → ¬ F2 x := by rw [hF2]; exact fun x h1 h2 hx => hx.1.elim h2 (fun h => by omega)
                  have F60 := Only.trans F50 f58 (fun i hi hl => by have := (hnew i hl).1; omega)
                  have F61 := Sl.only (by decide) F52 f58 (fun k hk hok hl => hok.2 hl)
                  have F62 := Row.only (by decide) F53 f58 (fun k hk hok hl => by have := (hnew k hl).1; omega)
                  have F63 := Row.only (by decide) F54 f58 (fun k hk hok hl => by have := (hnew k hl).1; omega)
                  have F64 := Blk.only F55 f58 (fun hl => by have := (hnew _ hl).2; omega)
                  clear F50 F52 F53 F54 F55
                  have sz65 := f58.size
                  refine ⟨fun _ => F64, ?_⟩
                  refine PL.y rfl rfl rfl (fun w' hS => yi_eql rfl rfl) ?_
                  refine PL.zy rfl rfl rfl rfl rfl (yi_neqB Try.runUnderlying4 rfl rfl) ?_
                  refine PL.done ?_
                  refine NW.next ?_
                  refine CW.cond rfl (fun q_DT => ?_) (fun q_DT => ?_)
                  · try replace q_DT := of_decide_eq_true q_DT
                    have hd : decide (e = 0) = decide (((o.bytes.length : Nat) : Int) ≤ 70000) := (by rw [Bool.eq_iff_iff, decide_eq_true_eq, decide_eq_true_eq, he]; omega); simp [hd] at q_DT
                  · try replace q_DT := of_decide_eq_false q_DT
                    refine CW.skip ?_
                    refine NW.next ?_
                    refine CW.seq ?_
                    refine CW.region ?_
                    refine WL.y rfl rfl (yi_fieldAddr Try.runUnderlying30 rfl Try.sizeOf28 rfl) ?_
                    refine WL.y rfl rfl (yi_loadB Try.isAgg28 rfl (by assumption) rfl) ?_
                    refine WL.y rfl rfl (yi_len Try.runUnderlying28 rfl) ?_
                    refine WL.y rfl rfl (yi_leq rfl rfl) ?_
                    refine WL.done ?_
                    refine NW.next ?_
                    refine CW.cond rfl (fun q_DTF => ?_) (fun q_DTF => ?_)
                    · try replace q_DTF := of_decide_eq_true q_DTF
                      obtain rfl := hL2a (by omega)
                      refine CW.region ?_
                      refine WL.y rfl rfl (yi_move rfl) ?_
                      refine WL.y rfl rfl (yi_loadW Try.isAgg30 Try.sizeOf30 rfl (by assumption) rfl) ?_
                      refine WL.y rfl rfl (yi_buildS Try.runUnderlying33 Try.zeroValue33 rfl (fun _ => by kernel_rfl)) ?_
                      refine WL.e rfl rfl (ef_buildSlice Try.runUnderlying27 Try.sizeOf33 Try.zeroValue33 rfl (fun _ => by kernel_rfl)) ?_
                      rintro _ w71 ⟨tb, hb_tb, rfl, f68, B69, z_tb⟩
                      have F72 := Only.same F60 f68
                      have F73 := Sl.same (by decide) F61 f68
                      have F74 := Row.same (by decide) F62 f68
                      have F75 := Row.same (by decide) F63 f68
                      have F76 := Blk.same F64 f68
                      have F77 := NetAt.same N259 f68
                      clear F60 F61 F62 F63 F64
                      have sz78 := f68.size
                      have hone : Row dTr _ (fun x => x < w.heap.size ∨ x = tb) (some ⟨tb, 0, none⟩) [⟨⟨o.what, f1, f2, o.pl, o.bytes⟩, [], true⟩] := Row.one B69 (.inr rfl) (dTr_mk (t := ⟨⟨o.what, f1, f2, o.pl, o.bytes⟩, [], true⟩) (A2 := none) (c2 := 0) hcb hmb (Row.mono (fun k hk => .inl hk) F75) (by simp) (by omega) (Row.nil _ _ _ _))
                      refine WL.e rfl rfl (ef_appendSl (k := 1) dTr Try.runUnderlying27 (notInt Try.runUnderlying27) Try.typeInfo33 Try.zeroValue33 rfl rfl rfl rfl F73 rfl (by decide) hone (by omega) (fun k hk hok hw hl => hok.elim (fun h => by omega) (fun h => by have := hl.1; omega)) (by decide) (by omega) (by show (S.length + 1) * 88 ≤ _; omega)) ?_
                      rintro u5 w79 ⟨hO5, hu5, f80⟩
                      have F81 := Only.trans F72 f80 (fun i hi hl => by have := hl.1; omega)
                      have F82 := Row.only (by decide) F74 f80 (fun k hk hok hl => by have := hl.1; omega)
                      have F83 := Row.only (by decide) F75 f80 (fun k hk hok hl => by have := hl.1; omega)
                      have F84 := Blk.only F76 f80 (fun hl => by have := hl.2.1; omega)
                      have F85 := NetAt.only F77 f80 (fun k hk hok hl => hF2b k hl.2.1 hl.2.2 hok)
                      clear F72 F74 F75 F76 F77
                      have sz86 := f80.size
                      refine WL.y rfl rfl (yi_assign rfl) ?_
                      refine WL.done ?_
                      refine NW.blockEnd ?_
                      refine NW.meet ?_
                      refine fun a ha => ⟨F2, (L ++ [⟨f1, f2, o.bytes, true⟩]), (S ++ [⟨⟨o.what, f1, f2, o.pl, o.bytes⟩, [], true⟩]), u5, ⟨F81, F85, fun x hx => ⟨(hF2a x hx).1, by have := (hF2a x hx).2; omega⟩, ?_, ?_, ?_, by omega⟩, ha.sub ⟨rfl, rfl, rfl, rfl, rfl, trivial⟩⟩
                      · refine .inl ⟨hO5.bound.mono (fun x hx => ⟨hx.2, ?_⟩), hu5⟩
                        rcases hx.1 with (hx | hx | hx) | hx
                        · exact hF2b x hx.1 hx.2
                        · exact fun hf => by have := (hF2a x hf).1; omega
                        · exact fun hf => by have := (hF2a x hf).2; omega
                        · exact fun hf => by have := (hF2a x hf).2; omega
                      · rw [hrel, List.map_append]; rfl
                      · rw [List.length_append]; simp; omega
                    · try replace q_DTF := of_decide_eq_false q_DTF
                      obtain rfl := (hL2b (by omega)).symm
                      refine CW.skip ?_
                      refine NW.blockEnd ?_
                      refine NW.meet ?_
                      refine fun a ha => ⟨F2, L, S, _, ⟨F60, N259, fun x hx => ⟨(hF2a x hx).1, by have := (hF2a x hx).2; omega⟩, ?_, ?_, ?_, by omega⟩, ha.sub ⟨rfl, rfl, rfl, rfl, rfl, trivial⟩⟩
                      · exact F61.mono (fun x hx => ⟨by have := hx.1; omega, hF2b x hx.1 hx.2⟩)
                      · exact hrel
                      · omega
                · try replace q_D := of_decide_eq_false q_D
                  refine CW.cut (fun a w' => w42 = w' ∧ ∃ b : Bool, Env 236 [] [(0, .slice (some ad) ops.length c), (2, .bool false), (3, .pointer (some ⟨nb, 0, none⟩)), (5, .slice A5 S.length c5), (6, .int .i64 k), (7, .pointer (some ⟨ob, 0, none⟩)), (8, .bool th), (53, .int .i64 o.what), (81, .bool b)] a) ?_ ?_
                  · refine CW.seq ?_
                    refine CW.region ?_
                    refine WL.y rfl rfl (yi_eql rfl rfl) ?_
                    refine WL.y rfl rfl (yi_assign rfl) ?_
                    refine WL.done ?_
                    refine NW.next ?_
                    refine CW.cond rfl (fun q_DF => ?_) (fun q_DF => ?_)
                    · try replace q_DF := of_decide_eq_true q_DF
                      refine CW.skip ?_
                      refine NW.meet ?_
                      exact fun a ha => ⟨rfl, _, ha.sub ⟨rfl, rfl, rfl, rfl, rfl, rfl, rfl, rfl, rfl, trivial⟩⟩
                    · try replace q_DF := of_decide_eq_false q_DF
                      refine CW.seq ?_
                      refine CW.region ?_
                      refine WL.y rfl rfl (yi_eql rfl rfl) ?_
                      refine WL.y rfl rfl (yi_assign rfl) ?_
                      refine WL.done ?_
                      refine NW.next ?_
                      refine CW.cond rfl (fun q_DFF => ?_) (fun q_DFF => ?_)
                      · try replace q_DFF := of_decide_eq_true q_DFF
                        refine CW.skip ?_
                        refine NW.meet ?_
                        exact fun a ha => ⟨rfl, _, ha.sub ⟨rfl, rfl, rfl, rfl, rfl, rfl, rfl, rfl, rfl, trivial⟩⟩
                      · try replace q_DFF := of_decide_eq_false q_DFF
                        refine CW.region ?_
                        refine WL.y rfl rfl (yi_eql rfl rfl) ?_
                        refine WL.y rfl rfl (yi_assign rfl) ?_
                        refine WL.done ?_
                        refine NW.meet ?_
                        exact fun a ha => ⟨rfl, _, ha.sub ⟨rfl, rfl, rfl, rfl, rfl, rfl, rfl, rfl, rfl, trivial⟩⟩
                  · rintro a _ ⟨rfl, b81, ha⟩
                    refine CW.at ha ?_
                    refine CW.cond rfl (fun q_G => ?_) (fun q_G => ?_)
                    · try replace q_G := of_decide_eq_true q_G
                      refine CW.seq ?_
                      refine CW.region ?_
                      refine WL.y rfl rfl (yi_move rfl) ?_
                      refine WL.y rfl rfl (yi_fieldAddr Try.runUnderlying30 rfl Try.sizeOf3 rfl) ?_
                      refine WL.y rfl rfl (yi_loadB Try.isAgg3 rfl (by assumption) rfl) ?_
                      refine WL.e rfl rfl (ef_call Try.call12 rfl (deliver_c nb o.pl 4 _ L _ F44 (by decide))) ?_
                      rintro _ w87 ⟨p, Ap, cp, e, L2, rfl, hN', f88, RP89, he, hL2a, hL2b⟩
                      obtain ⟨F2, hF2⟩ : ∃ F2 : Nat → Prop, F2 = fun x => grow F w42 x ∧ x < w87.heap.size := ⟨_, rfl⟩
                      have N290 := NetAt.bound hN'
                      rw [← hF2] at N290
                      have hz1 := f88.size
                      have hF2a : ∀ x, F2 x → w.heap.size ≤ x ∧ x < w87.heap.size := by rw [hF2]; exact fun x hx => ⟨hx.1.elim (fun h => (hnew x h).1) (fun h => by omega), hx.2⟩
                      have hF2b : ∀ x, x < z0 → ¬ F x → ¬ F2 x := by rw [hF2]; exact fun x h1 h2 hx => hx.1.elim h2 (fun h => by omega)
                      have RB91 := Row.bound (by decide) RP89
                      have F92 := Only.trans F43 f88 (fun i hi hl => by have := (hnew i hl).1; omega)
                      have F93 := Sl.only (by decide) F45 f88 (fun k hk hok hl => hok.2 hl)
                      have F94 := Row.only (by decide) F46 f88 (fun k hk hok hl => by have := (hnew k hl).1; omega)
                      have F95 := Row.only (by decide) F47 f88 (fun k hk hok hl => by have := (hnew k hl).1; omega)
                      have F96 := Blk.only B40 f88 (fun hl => by have := (hnew _ hl).2; omega)
                      clear F43 F45 F46 F47
                      have sz97 := f88.size
                      refine WL.y rfl rfl (yi_move rfl) ?_
                      refine WL.y rfl rfl (yi_extract rfl rfl) ?_
                      refine WL.y rfl rfl (yi_extract rfl rfl) ?_
                      refine WL.e rfl rfl (ef_alloc Try.zeroValue35) ?_
                      rintro _ w103 ⟨pb, hb_pb, rfl, f100, B101, z_pb⟩
                      have F104 := Only.same F92 f100
                      have F105 := Sl.same (by decide) F93 f100
                      have F106 := Row.same (by decide) F94 f100
                      have F107 := Row.same (by decide) F95 f100
                      have F108 := Blk.same F96 f100
                      have F109 := NetAt.same N290 f100
                      have F110 := Row.same (by decide) RB91 f100
                      clear F92 F93 F94 F95 F96
                      have sz111 := f100.size
                      refine WL.e rfl rfl (ef_store (b := pb) Try.sizeOf35 rfl rfl B101 rfl rfl rfl) ?_
                      rintro _ w115 ⟨rfl, f112, B113, z114⟩
                      have F116 := Only.trans F104 f112 (fun i hi hl => by have hl : i = _ := hl; omega)
                      have F117 := Sl.only (by decide) F105 f112 (fun k hk hok hl => by have hl : k = _ := hl; omega)
                      have F118 := Row.only (by decide) F106 f112 (fun k hk hok hl => by have hl : k = _ := hl; omega)
                      have F119 := Row.only (by decide) F107 f112 (fun k hk hok hl => by have hl : k = _ := hl; omega)
                      have F120 := Blk.only F108 f112 (by show ¬ (_ = _); omega)
                      have F121 := NetAt.only F109 f112 (fun k hk hok hl => by have hl : k = _ := hl; have := hF2a k hok; omega)
                      have F122 := Row.only (by decide) F110 f112 (fun k hk hok hl => by have hl : k = _ := hl; omega)
                      clear F104 F105 F106 F107 F108 F109 F110
                      refine WL.y rfl rfl (yi_assign rfl) ?_
                      refine WL.done ?_
                      refine NW.next ?_
                      refine CW.seq ?_
                      refine CW.seq ?_
                      refine CW.region ?_
                      refine WL.y rfl rfl (yi_move rfl) ?_
                      refine WL.y rfl rfl (yi_eql rfl rfl) ?_
                      refine WL.y rfl rfl (yi_move rfl) ?_
                      refine WL.y rfl rfl (yi_neqB Try.runUnderlying4 rfl rfl) ?_
                      refine WL.done ?_
                      refine NW.next ?_
                      refine CW.cond rfl (fun q_GT => ?_) (fun q_GT => ?_)
                      · try replace q_GT := of_decide_eq_true q_GT
                        have hd : decide (e = 0) = th := (by rw [Bool.eq_iff_iff, decide_eq_true_eq, he, hth, hL]); simp [hd] at q_GT
                      · try replace q_GT := of_decide_eq_false q_GT
                        refine CW.skip ?_
                        refine NW.next ?_
                        refine CW.seq ?_
                        refine CW.seq ?_
                        refine CW.region ?_
                        refine WL.y rfl rfl (yi_move rfl) ?_
                        refine WL.y rfl rfl (yi_not rfl) ?_
                        refine WL.done ?_
                        refine NW.next ?_
                        refine CW.cond rfl (fun q_GTF => ?_) (fun q_GTF => ?_)
                        · try replace q_GTF := of_decide_eq_true q_GTF
                          obtain rfl : th = false := by simpa using q_GTF
                          obtain rfl := (hL2b (by rw [hL, ← hth]; decide)).symm
                          refine CW.exit ?_
                          refine NW.thenExit ?_
                          refine NW.blockMiss rfl ?_
                          refine NW.thenExit ?_
                          refine NW.blockHit ?_
                          refine NW.next ?_
                          refine CW.region ?_
                          refine WL.y rfl rfl (yi_move rfl) ?_
                          refine WL.y rfl rfl (yi_addI rfl rfl (by omega) (by omega)) ?_
                          refine WL.as_ (t := 29) (v' := .int .i64 ((k + 1 : Nat) : Int)) rfl (congrArg (Value.int .i64) (by omega)) ?_
                          refine WL.y rfl rfl (yi_assign rfl) ?_
                          refine WL.done ?_
                          refine NW.round (80 - (k + 1)) (by omega) ?_
                          exact fun a ha => ⟨k + 1, F2, L, S, _, rfl, ⟨F116, F121, fun x hx => ⟨(hF2a x hx).1, by have := (hF2a x hx).2; omega⟩, F117.mono (fun x hx => ⟨by have := hx.1; omega, hF2b x hx.1 hx.2⟩), hrel, by omega, by omega⟩, ha.sub ⟨rfl, rfl, rfl, rfl, rfl, trivial⟩⟩
                        · try replace q_GTF := of_decide_eq_false q_GTF
                          obtain rfl : th = true := by simpa using q_GTF
                          obtain ⟨j, hj0, hj⟩ := place (hth.1 rfl)
                          obtain ⟨t, ht⟩ : ∃ t, S[j]? = some t := ⟨S[j], List.getElem?_eq_getElem hj⟩
                          obtain ⟨rfl, rfl⟩ := hL2a j _ hj0 (par_get hrel ht)
                          obtain ⟨ag, A1, c1, A2, c2, hA5, hnF, E7, hc1, hm1, R1, hc2, hm2, R2⟩ := tr_at (sl_row F117) ht
                          subst hA5
                          refine CW.skip ?_
                          refine NW.next ?_
                          refine CW.seq ?_
                          refine CW.region ?_
                          refine WL.y rfl rfl (yi_move rfl) ?_
                          refine WL.y rfl rfl (yi_fieldAddr Try.runUnderlying30 rfl Try.sizeOf3 rfl) ?_
                          refine WL.y rfl rfl (yi_loadB Try.isAgg3 rfl (by assumption) rfl) ?_
                          refine WL.as_ (t := 100) (v' := .int .i64 j) rfl (congrArg (Value.int .i64) hj0) ?_
                          refine WL.y rfl rfl (yi_indexAddr Try.runUnderlying27 Try.sizeOf33 rfl rfl (by omega) (by omega)) ?_
                          refine WL.as_ (t := 101) (v' := .pointer (some (ag.add (j * 7)))) rfl (by rw [Int.toNat_natCast]) ?_
                          refine WL.y rfl rfl (yi_loadA (cs := [.int .i64 t.sent.what, .int .i64 t.sent.frm, .int .i64 t.sent.to, .int .i64 t.sent.pl, .slice A1 t.sent.bytes.length c1, .slice A2 t.changed.length c2, .bool t.whole]) Try.isAgg33 Try.sizeOf33 rfl rfl (Seg.get E7)) ?_
                          refine WL.e rfl rfl (ef_alloc Try.zeroValue33) ?_
                          rintro _ w128 ⟨sb, hb_sb, rfl, f125, B126, z_sb⟩
                          have F129 := Only.same F116 f125
                          have F130 := Sl.same (by decide) F117 f125
                          have F131 := Row.same (by decide) F118 f125
                          have F132 := Row.same (by decide) F119 f125
                          have F133 := Blk.same F120 f125
                          have F134 := NetAt.same F121 f125
                          have F135 := Row.same (by decide) F122 f125
                          have F136 := Blk.same B113 f125
                          have F137 := Seg.same E7 f125
                          have F138 := Row.same (by decide) R1 f125
                          have F139 := Row.same (by decide) R2 f125
                          clear F116 F117 F118 F119 F120 F121 F122
                          have sz140 := f125.size
                          refine WL.e rfl rfl (ef_store (b := sb) Try.sizeOf33 rfl rfl B126 rfl rfl rfl) ?_
                          rintro _ w144 ⟨rfl, f141, B142, z143⟩
                          have F145 := Only.trans F129 f141 (fun i hi hl => by have hl : i = _ := hl; omega)
                          have F146 := Sl.only (by decide) F130 f141 (fun k hk hok hl => by have hl : k = _ := hl; omega)
                          have F147 := Row.only (by decide) F131 f141 (fun k hk hok hl => by have hl : k = _ := hl; omega)
                          have F148 := Row.only (by decide) F132 f141 (fun k hk hok hl => by have hl : k = _ := hl; omega)
                          have F149 := Blk.only F133 f141 (by show ¬ (_ = _); omega)
                          have F150 := NetAt.only F134 f141 (fun k hk hok hl => by have hl : k = _ := hl; have := hF2a k hok; omega)
                          have F151 := Row.only (by decide) F135 f141 (fun k hk hok hl => by have hl : k = _ := hl; omega)
                          have F152 := Blk.only F136 f141 (by show ¬ (_ = _); omega)
                          have F153 := Seg.only F137 f141 (fun ad had hl => by injection had with had; subst had; have hl : (ag.add (j * 7)).block = _ := hl; rw [Row.add_block] at hl; have := hnF.1; omega)
                          have F154 := Row.only (by decide) F138 f141 (fun k hk hok hl => by have hl : k = _ := hl; omega)
                          have F155 := Row.only (by decide) F139 f141 (fun k hk hok hl => by have hl : k = _ := hl; omega)
                          clear F129 F130 F131 F132 F133 F134 F135 F136 F137 F138 F139
                          refine WL.done ?_
                          refine NW.next ?_
                          refine CW.seq ?_
                          refine CW.region ?_
                          refine WL.y rfl rfl (yi_fieldAddr Try.runUnderlying33 rfl Try.sizeOf30 rfl) ?_
                          refine WL.y rfl rfl (yi_fieldAddr Try.runUnderlying30 rfl Try.sizeOf28 rfl) ?_
                          refine WL.y rfl rfl (yi_loadB Try.isAgg28 rfl (by assumption) rfl) ?_
                          refine WL.y rfl rfl (yi_assign rfl) ?_
                          refine WL.done ?_
                          refine NW.next ?_
                          refine CW.cut (fun a w' => w144 = w' ∧ ∃ (Aw : Option Addr) (cw : Nat), Row dU8 w' (fun _ => True) Aw t.par.bytes ∧ Env 236 [] [(0, .slice (some ad) ops.length c), (2, .bool false), (3, .pointer (some ⟨nb, 0, none⟩)), (5, .slice (some ag) S.length c5), (6, .int .i64 k), (7, .pointer (some ⟨ob, 0, none⟩)), (8, .bool true), (9, .pointer (some ⟨pb, 0, none⟩)), (11, .pointer (some ⟨sb, 0, none⟩)), (12, .slice Aw t.par.bytes.length cw)] a) ?_ ?_
                          · refine CW.seq ?_
                            refine CW.region ?_
                            refine WL.y rfl rfl (yi_fieldAddr Try.runUnderlying33 rfl Try.sizeOf4 rfl) ?_
                            refine WL.y rfl rfl (yi_loadB Try.isAgg4 rfl (by assumption) rfl) ?_
                            refine WL.y rfl rfl (yi_not rfl) ?_
                            refine WL.done ?_
                            refine NW.next ?_
                            refine CW.cond rfl (fun q_GTFF => ?_) (fun q_GTFF => ?_)
                            · try replace q_GTFF := of_decide_eq_true q_GTFF
                              refine CW.region ?_
                              refine WL.y rfl rfl (yi_fieldAddr Try.runUnderlying33 rfl Try.sizeOf28 rfl) ?_
                              refine WL.y rfl rfl (yi_loadB Try.isAgg28 rfl (by assumption) rfl) ?_
                              refine WL.y rfl rfl (yi_assign rfl) ?_
                              refine WL.done ?_
                              refine NW.meet ?_
                              have hw : t.whole = false := by simpa using q_GTFF
                              have hb : t.par.bytes = t.changed := by simp [Tr.par, hw]
                              exact fun a ha => ⟨rfl, A2, c2, by rw [hb]; exact Row.mono (fun _ _ => trivial) F155, by rw [hb]; exact ha.sub ⟨rfl, rfl, rfl, rfl, rfl, rfl, rfl, rfl, rfl, rfl, trivial⟩⟩
                            · try replace q_GTFF := of_decide_eq_false q_GTFF
                              refine CW.skip ?_
                              refine NW.meet ?_
                              have hw : t.whole = true := by simpa using q_GTFF
                              have hb : t.par.bytes = t.sent.bytes := by simp [Tr.par, hw]
                              exact fun a ha => ⟨rfl, A1, c1, by rw [hb]; exact Row.mono (fun _ _ => trivial) F154, by rw [hb]; exact ha.sub ⟨rfl, rfl, rfl, rfl, rfl, rfl, rfl, rfl, rfl, rfl, trivial⟩⟩
                          · rintro a _ ⟨rfl, Aw, cw, RW, ha⟩
                            refine CW.at ha ?_
                            refine CW.seq ?_
                            refine CW.seq ?_
                            refine CW.region ?_
                            refine WL.y rfl rfl (yi_fieldAddr Try.runUnderlying35 rfl Try.sizeOf3 rfl) ?_
                            refine WL.y rfl rfl (yi_loadB Try.isAgg3 rfl (by assumption) rfl) ?_
                            refine WL.y rfl rfl (yi_fieldAddr Try.runUnderlying33 rfl Try.sizeOf30 rfl) ?_
                            refine WL.y rfl rfl (yi_fieldAddr Try.runUnderlying30 rfl Try.sizeOf3 rfl) ?_
                            refine WL.y rfl rfl (yi_loadB Try.isAgg3 rfl (by assumption) rfl) ?_
                            refine WL.y rfl rfl (yi_neq rfl rfl) ?_
                            refine WL.y rfl rfl (yi_move rfl) ?_
                            refine WL.split (t := 117) rfl (fun q_B => ?_) (fun q_B => ?_)
                            · try replace q_B := of_decide_eq_true q_B
                              exact absurd rfl q_B
                            · try replace q_B := of_decide_eq_false q_B
                              refine WL.gy rfl rfl rfl rfl rfl (yi_fieldAddr Try.runUnderlying35 rfl Try.sizeOf3 rfl) ?_
                              refine WL.gy rfl rfl rfl rfl rfl (yi_loadB Try.isAgg3 rfl (by assumption) rfl) ?_
                              refine WL.gy rfl rfl rfl rfl rfl (yi_fieldAddr Try.runUnderlying33 rfl Try.sizeOf30 rfl) ?_
                              refine WL.gy rfl rfl rfl rfl rfl (yi_fieldAddr Try.runUnderlying30 rfl Try.sizeOf3 rfl) ?_
                              refine WL.gy rfl rfl rfl rfl rfl (yi_loadB Try.isAgg3 rfl (by assumption) rfl) ?_
                              refine WL.gy rfl rfl rfl rfl rfl (yi_neq rfl rfl) ?_
                              refine WL.y rfl rfl (yi_pickF rfl rfl) ?_
                              refine WL.y rfl rfl (yi_move rfl) ?_
                              refine WL.split (t := 125) rfl (fun q_Bf => ?_) (fun q_Bf => ?_)
                              · try replace q_Bf := of_decide_eq_true q_Bf
                                exact absurd rfl q_Bf
                              · try replace q_Bf := of_decide_eq_false q_Bf
                                refine WL.gy rfl rfl rfl rfl rfl (yi_fieldAddr Try.runUnderlying35 rfl Try.sizeOf4 rfl) ?_
                                refine WL.gy rfl rfl rfl rfl rfl (yi_loadB Try.isAgg4 rfl (by assumption) rfl) ?_
                                refine WL.gy rfl rfl rfl rfl rfl (yi_fieldAddr Try.runUnderlying33 rfl Try.sizeOf4 rfl) ?_
                                refine WL.gy rfl rfl rfl rfl rfl (yi_loadB Try.isAgg4 rfl (by assumption) rfl) ?_
                                refine WL.gy rfl rfl rfl rfl rfl (yi_neqB Try.runUnderlying4 rfl rfl) ?_
                                refine WL.y rfl rfl (yi_pickF rfl rfl) ?_
                                refine WL.y rfl rfl (yi_move rfl) ?_
                                refine WL.split (t := 132) rfl (fun q_Bff => ?_) (fun q_Bff => ?_)
                                · try replace q_Bff := of_decide_eq_true q_Bff
                                  simp [Tr.par] at q_Bff
                                · try replace q_Bff := of_decide_eq_false q_Bff
                                  refine WL.gy rfl rfl rfl rfl rfl (yi_fieldAddr Try.runUnderlying35 rfl Try.sizeOf28 rfl) ?_
                                  refine WL.gy rfl rfl rfl rfl rfl (yi_loadB Try.isAgg28 rfl (by assumption) rfl) ?_
                                  refine WL.gy rfl rfl rfl rfl rfl (yi_convStr Try.runUnderlying28 Try.runUnderlying9 Try.runUnderlying5 rfl F151) ?_
                                  refine WL.gy rfl rfl rfl rfl rfl (yi_move rfl) ?_
                                  refine WL.gy rfl rfl rfl rfl rfl (yi_convStr Try.runUnderlying28 Try.runUnderlying9 Try.runUnderlying5 rfl RW) ?_
                                  refine WL.gy rfl rfl rfl rfl rfl (yi_neqS rfl rfl) ?_
                                  refine WL.y rfl rfl (yi_pickF rfl rfl) ?_
                                  refine WL.done ?_
                                  refine NW.next ?_
                                  refine CW.cond rfl (fun q_Bfff => ?_) (fun q_Bfff => ?_)
                                  · try replace q_Bfff := of_decide_eq_true q_Bfff
                                    exact absurd rfl q_Bfff
                                  · try replace q_Bfff := of_decide_eq_false q_Bfff
                                    refine CW.skip ?_
                                    refine NW.next ?_
                                    have fd156 : Same w144 w144.drew := Only.drew _ _
                                    obtain ⟨w157, hww157⟩ : ∃ w1, w1 = w144.drew := ⟨_, rfl⟩
                                    rw [← hww157] at fd156
                                    have F158 := Only.same F145 fd156
                                    have F159 := Sl.same (by decide) F146 fd156
                                    have F160 := Row.same (by decide) F147 fd156
                                    have F161 := Row.same (by decide) F148 fd156
                                    have F162 := Blk.same F149 fd156
                                    have F163 := NetAt.same F150 fd156
                                    have F164 := Row.same (by decide) F151 fd156
                                    have F165 := Blk.same F152 fd156
                                    have F166 := Seg.same F153 fd156
                                    have F167 := Row.same (by decide) F154 fd156
                                    have F168 := Row.same (by decide) F155 fd156
                                    have F169 := Blk.same B142 fd156
                                    clear F145 F146 F147 F148 F149 F150 F151 F152 F153 F154 F155
                                    have sz170 := fd156.size
                                    refine CW.draw 11 [(0, true), (1, true), (2, true), (3, true), (4, true), (5, true), (6, true), (7, true), (8, true), (9, true), (10, true), (11, false), (12, false)] (fun w' => Blk w' ob _ _ ∧ Blk w' pb _ _ ∧ Seg w' (some (ag.add (j * 7))) [.int .i64 t.sent.what, .int .i64 t.sent.frm, .int .i64 t.sent.to, .int .i64 t.sent.pl, .slice A1 t.sent.bytes.length c1, .slice A2 t.changed.length c2, .bool t.whole] ∧ Blk w' sb _ _) Try_mixed (by kernel_rfl) (fun _ _ _ _ h => h) hww157 ⟨F162, F165, F166, F169⟩ ?_
                                    refine PL.y rfl rfl rfl (fun w' hS => yi_move rfl) ?_
                                    refine PL.y rfl rfl rfl (fun w' hS => yi_fieldAddr Try.runUnderlying30 rfl Try.sizeOf3 rfl) ?_
                                    refine PL.y rfl rfl rfl (fun w' hS => by first | exact yi_loadB Try.isAgg3 rfl hS.1 rfl | exact yi_loadB Try.isAgg3 rfl hS.2.1 rfl | exact yi_loadB Try.isAgg3 rfl hS.2.2.2 rfl) ?_
                                    refine PL.as_ (t := 142) (v' := .int .i64 j) rfl (congrArg (Value.int .i64) hj0) ?_
                                    refine PL.y rfl rfl rfl (fun w' hS => yi_fieldAddr Try.runUnderlying30 rfl Try.sizeOf3 rfl) ?_
                                    refine PL.y rfl rfl rfl (fun w' hS => by first | exact yi_loadB Try.isAgg3 rfl hS.1 rfl | exact yi_loadB Try.isAgg3 rfl hS.2.1 rfl | exact yi_loadB Try.isAgg3 rfl hS.2.2.2 rfl) ?_
                                    refine PL.as_ (t := 144) (v' := .int .i64 j) rfl (congrArg (Value.int .i64) hj0) ?_
                                    refine PL.y rfl rfl rfl (fun w' hS => yi_slice011 Try.runUnderlying27 Try.sizeOf33 rfl rfl rfl (by omega) (by omega) (by omega)) ?_
                                    refine PL.as_ (t := 145) (v' := .slice (some ag) j j) rfl (by rw [Int.toNat_natCast]) ?_
                                    refine PL.y rfl rfl rfl (fun w' hS => yi_move rfl) ?_
                                    refine PL.y rfl rfl rfl (fun w' hS => yi_fieldAddr Try.runUnderlying30 rfl Try.sizeOf3 rfl) ?_
                                    refine PL.y rfl rfl rfl (fun w' hS => by first | exact yi_loadB Try.isAgg3 rfl hS.1 rfl | exact yi_loadB Try.isAgg3 rfl hS.2.1 rfl | exact yi_loadB Try.isAgg3 rfl hS.2.2.2 rfl) ?_
                                    refine PL.as_ (t := 148) (v' := .int .i64 j) rfl (congrArg (Value.int .i64) hj0) ?_
                                    refine PL.y rfl rfl rfl (fun w' hS => yi_addI rfl rfl (by omega) (by omega)) ?_
                                    refine PL.y rfl rfl rfl (fun w' hS => yi_slice100 Try.runUnderlying27 Try.sizeOf33 rfl rfl (by omega) (by omega)) ?_
                                    refine PL.as_ (t := 150) (v' := .slice (cutA (some ag) (j + 1) c5 dTr.sz) (S.length - (j + 1)) (c5 - (j + 1))) rfl (by rw [show ((j : Int) + 1).toNat = j + 1 by omega]; rfl) ?_
                                    refine PL.z rfl rfl rfl rfl rfl (ef_appendOut (W0 := w.heap.size) dTr Try.runUnderlying27 (notInt Try.runUnderlying27) Try.typeInfo33 Try.zeroValue33 Try.sizeOf33 rfl rfl rfl rfl (sl_row F159) hj hc5 (by omega) (by decide) (by omega) (by show S.length * 88 ≤ _; omega)) ?_
                                    rintro u5 w171 ⟨hSl, f172⟩
                                    have F173 := Only.same F158 f172
                                    have F174 := Sl.same (by decide) F159 f172
                                    have F175 := Row.same (by decide) F160 f172
                                    have F176 := Row.same (by decide) F161 f172
                                    have F177 := Blk.same F162 f172
                                    have F178 := NetAt.same F163 f172
                                    have F179 := Row.same (by decide) F164 f172
                                    have F180 := Blk.same F165 f172
                                    have F181 := Seg.same F166 f172
                                    have F182 := Row.same (by decide) F167 f172
                                    have F183 := Row.same (by decide) F168 f172
                                    have F184 := Blk.same F169 f172
                                    clear F158 F159 F160 F161 F162 F163 F164 F165 F166 F167 F168 F169
                                    have sz185 := f172.size
                                    refine PL.zy rfl rfl rfl rfl rfl (yi_assign rfl) ?_
                                    refine PL.done ?_
                                    refine NW.blockEnd ?_
                                    refine NW.meet ?_
                                    refine fun a ha => ⟨F2, (L.eraseIdx j), (S.eraseIdx j), u5, ⟨F173, F178, fun x hx => ⟨(hF2a x hx).1, by have := (hF2a x hx).2; omega⟩, ?_, ?_, ?_, by omega⟩, ha.sub ⟨rfl, rfl, rfl, rfl, rfl, trivial⟩⟩
                                    · exact (Sl.bound (by decide) hSl).mono (fun x hx => ⟨hx.2, hx.1.elim (fun h => hF2b x h.1 h.2) (fun h hf => by have := (hF2a x hf).2; omega)⟩)
                                    · rw [hrel]; exact map_erase S j
                                    · rw [List.length_eraseIdx, if_pos hj]; omega
                    · try replace q_G := of_decide_eq_false q_G
                      refine CW.seq ?_
                      refine CW.region ?_
                      refine WL.y rfl rfl (yi_eql rfl rfl) ?_
                      refine WL.y rfl rfl (yi_assign rfl) ?_
                      refine WL.done ?_
                      refine NW.next ?_
                      refine CW.cond rfl (fun q_GF => ?_) (fun q_GF => ?_)
                      · try replace q_GF := of_decide_eq_true q_GF
                        refine CW.seq ?_
                        refine CW.seq ?_
                        refine CW.region ?_
                        refine WL.y rfl rfl (yi_move rfl) ?_
                        refine WL.y rfl rfl (yi_fieldAddr Try.runUnderlying30 rfl Try.sizeOf3 rfl) ?_
                        refine WL.y rfl rfl (yi_loadB Try.isAgg3 rfl (by assumption) rfl) ?_
                        refine WL.e rfl rfl (ef_call Try.call13 rfl (drop_c nb o.pl 4 _ L _ F44 (by decide))) ?_
                        rintro _ w186 ⟨e, L2, rfl, hN', f187, he, hL2a, hL2b⟩
                        obtain ⟨F2, hF2⟩ : ∃ F2 : Nat → Prop, F2 = fun x => grow F w42 x ∧ x < w186.heap.size := ⟨_, rfl⟩
                        have N2188 := NetAt.bound hN'
                        rw [← hF2] at N2188
                        have hz1 := f187.size
                        have hF2a : ∀ x, F2 x → w.heap.size ≤ x ∧ x < w186.heap.size := by rw [hF2]; exact fun x hx => ⟨hx.1.elim (fun h => (hnew x h).1) (fun h => by omega), hx.2⟩
                        have hF2b : ∀ x, x < z0 → ¬ F x → ¬ F2 x := by rw [hF2]; exact fun x h1 h2 hx => hx.1.elim h2 (fun h => by omega)
                        have F189 := Only.trans F43 f187 (fun i hi hl => by have := (hnew i hl).1; omega)
                        have F190 := Sl.only (by decide) F45 f187 (fun k hk hok hl => hok.2 hl)
                        have F191 := Row.only (by decide) F46 f187 (fun k hk hok hl => by have := (hnew k hl).1; omega)
                        have F192 := Row.only (by decide) F47 f187 (fun k hk hok hl => by have := (hnew k hl).1; omega)
                        have F193 := Blk.only B40 f187 (fun hl => by have := (hnew _ hl).2; omega)
                        clear F43 F45 F46 F47
                        have sz194 := f187.size
                        refine WL.y rfl rfl (yi_eql rfl rfl) ?_
                        refine WL.y rfl rfl (yi_move rfl) ?_
                        refine WL.y rfl rfl (yi_neqB Try.runUnderlying4 rfl rfl) ?_
                        refine WL.done ?_
                        refine NW.next ?_
                        refine CW.cond rfl (fun q_GFT => ?_) (fun q_GFT => ?_)
                        · try replace q_GFT := of_decide_eq_true q_GFT
                          have hd : decide (e = 0) = th := (by rw [Bool.eq_iff_iff, decide_eq_true_eq, he, hth, hL]); simp [hd] at q_GFT
                        · try replace q_GFT := of_decide_eq_false q_GFT
                          refine CW.skip ?_
                          refine NW.next ?_
                          refine CW.seq ?_
                          refine CW.region ?_
                          refine WL.y rfl rfl (yi_move rfl) ?_
                          refine WL.done ?_
                          refine NW.next ?_
                          refine CW.cond rfl (fun q_GFTF => ?_) (fun q_GFTF => ?_)
                          · try replace q_GFTF := of_decide_eq_true q_GFTF
                            obtain rfl := q_GFTF
                            obtain ⟨j, hj0, hj⟩ := place (hth.1 rfl)
                            obtain ⟨t, ht⟩ : ∃ t, S[j]? = some t := ⟨S[j], List.getElem?_eq_getElem hj⟩
                            obtain rfl := hL2a j hj0 (by rw [hL]; exact hj)
                            have fd195 : Same w186 w186.drew := Only.drew _ _
                            obtain ⟨w196, hww196⟩ : ∃ w1, w1 = w186.drew := ⟨_, rfl⟩
                            rw [← hww196] at fd195
                            have F197 := Only.same F189 fd195
                            have F198 := Sl.same (by decide) F190 fd195
                            have F199 := Row.same (by decide) F191 fd195
                            have F200 := Row.same (by decide) F192 fd195
                            have F201 := Blk.same F193 fd195
                            have F202 := NetAt.same N2188 fd195
                            clear F189 F190 F191 F192 F193
                            have sz203 := fd195.size
                            refine CW.draw 11 [(0, true), (1, true), (2, true), (3, true), (4, true), (5, true), (6, true), (7, true), (8, true), (9, true), (10, true), (11, false), (12, false)] (fun w' => Blk w' ob _ _) Try_mixed (by kernel_rfl) (fun _ _ _ _ h => h) hww196 F201 ?_
                            refine PL.y rfl rfl rfl (fun w' hS => yi_move rfl) ?_
                            refine PL.y rfl rfl rfl (fun w' hS => yi_fieldAddr Try.runUnderlying30 rfl Try.sizeOf3 rfl) ?_
                            refine PL.y rfl rfl rfl (fun w' hS => by first | exact yi_loadB Try.isAgg3 rfl hS rfl) ?_
                            refine PL.as_ (t := 164) (v' := .int .i64 j) rfl (congrArg (Value.int .i64) hj0) ?_
                            refine PL.y rfl rfl rfl (fun w' hS => yi_fieldAddr Try.runUnderlying30 rfl Try.sizeOf3 rfl) ?_
                            refine PL.y rfl rfl rfl (fun w' hS => by first | exact yi_loadB Try.isAgg3 rfl hS rfl) ?_
                            refine PL.as_ (t := 166) (v' := .int .i64 j) rfl (congrArg (Value.int .i64) hj0) ?_
                            refine PL.y rfl rfl rfl (fun w' hS => yi_slice011 Try.runUnderlying27 Try.sizeOf33 rfl rfl rfl (by omega) (by omega) (by omega)) ?_
                            refine PL.as_ (t := 167) (v' := .slice A5 j j) rfl (by rw [Int.toNat_natCast]) ?_
                            refine PL.y rfl rfl rfl (fun w' hS => yi_move rfl) ?_
                            refine PL.y rfl rfl rfl (fun w' hS => yi_fieldAddr Try.runUnderlying30 rfl Try.sizeOf3 rfl) ?_
                            refine PL.y rfl rfl rfl (fun w' hS => by first | exact yi_loadB Try.isAgg3 rfl hS rfl) ?_
                            refine PL.as_ (t := 170) (v' := .int .i64 j) rfl (congrArg (Value.int .i64) hj0) ?_
                            refine PL.y rfl rfl rfl (fun w' hS => yi_addI rfl rfl (by omega) (by omega)) ?_
                            refine PL.y rfl rfl rfl (fun w' hS => yi_slice100 Try.runUnderlying27 Try.sizeOf33 rfl rfl (by omega) (by omega)) ?_
                            refine PL.as_ (t := 172) (v' := .slice (cutA A5 (j + 1) c5 dTr.sz) (S.length - (j + 1)) (c5 - (j + 1))) rfl (by rw [show ((j : Int) + 1).toNat = j + 1 by omega]; rfl) ?_
                            refine PL.z rfl rfl rfl rfl rfl (ef_appendOut (W0 := w.heap.size) dTr Try.runUnderlying27 (notInt Try.runUnderlying27) Try.typeInfo33 Try.zeroValue33 Try.sizeOf33 rfl rfl rfl rfl (sl_row F198) hj hc5 (by omega) (by decide) (by omega) (by show S.length * 88 ≤ _; omega)) ?_
                            rintro u5 w204 ⟨hSl, f205⟩
                            have F206 := Only.same F197 f205
                            have F207 := Sl.same (by decide) F198 f205
                            have F208 := Row.same (by decide) F199 f205
                            have F209 := Row.same (by decide) F200 f205
                            have F210 := Blk.same F201 f205
                            have F211 := NetAt.same F202 f205
                            clear F197 F198 F199 F200 F201 F202
                            have sz212 := f205.size
                            refine PL.zy rfl rfl rfl rfl rfl (yi_assign rfl) ?_
                            refine PL.done ?_
                            refine NW.blockEnd ?_
                            refine NW.meet ?_
                            refine fun a ha => ⟨F2, (L.eraseIdx j), (S.eraseIdx j), u5, ⟨F206, F211, fun x hx => ⟨(hF2a x hx).1, by have := (hF2a x hx).2; omega⟩, ?_, ?_, ?_, by omega⟩, ha.sub ⟨rfl, rfl, rfl, rfl, rfl, trivial⟩⟩
                            · exact (Sl.bound (by decide) hSl).mono (fun x hx => ⟨hx.2, hx.1.elim (fun h => hF2b x h.1 h.2) (fun h hf => by have := (hF2a x hf).2; omega)⟩)
                            · rw [hrel]; exact map_erase S j
                            · rw [List.length_eraseIdx, if_pos hj]; omega
                          · try replace q_GFTF := of_decide_eq_false q_GFTF
                            obtain rfl := (hL2b (by rw [hL, ← hth]; simp [q_GFTF])).symm
                            refine CW.skip ?_
                            refine NW.blockEnd ?_
                            refine NW.meet ?_
                            refine fun a ha => ⟨F2, L, S, _, ⟨F189, N2188, fun x hx => ⟨(hF2a x hx).1, by have := (hF2a x hx).2; omega⟩, ?_, ?_, ?_, by omega⟩, ha.sub ⟨rfl, rfl, rfl, rfl, rfl, trivial⟩⟩
                            · exact F190.mono (fun x hx => ⟨by have := hx.1; omega, hF2b x hx.1 hx.2⟩)
                            · exact hrel
                            · omega
                      · try replace q_GF := of_decide_eq_false q_GF
                        refine CW.seq ?_
                        refine CW.region ?_
                        refine WL.y rfl rfl (yi_eql rfl rfl) ?_
                        refine WL.y rfl rfl (yi_assign rfl) ?_
                        refine WL.done ?_
                        refine NW.next ?_
                        refine CW.cond rfl (fun q_GFF => ?_) (fun q_GFF => ?_)
                        · try replace q_GFF := of_decide_eq_true q_GFF
                          refine CW.seq ?_
                          refine CW.seq ?_
                          refine CW.region ?_
                          refine WL.y rfl rfl (yi_move rfl) ?_
                          refine WL.y rfl rfl (yi_fieldAddr Try.runUnderlying30 rfl Try.sizeOf3 rfl) ?_
                          refine WL.y rfl rfl (yi_loadB Try.isAgg3 rfl (by assumption) rfl) ?_
                          refine WL.e rfl rfl (ef_call Try.call14 rfl (double_c nb o.pl 4 _ L _ F44 (by decide) (by omega))) ?_
                          rintro _ w213 ⟨e, L2, rfl, hN', f214, he, hL2a, hL2b⟩
                          obtain ⟨F2, hF2⟩ : ∃ F2 : Nat → Prop, F2 = fun x => grow F w42 x ∧ x < w213.heap.size := ⟨_, rfl⟩
                          have N2215 := NetAt.bound hN'
                          rw [← hF2] at N2215
                          have hz1 := f214.size
                          have hF2a : ∀ x, F2 x → w.heap.size ≤ x ∧ x < w213.heap.size := by rw [hF2]; exact fun x hx => ⟨hx.1.elim (fun h => (hnew x h).1) (fun h => by omega), hx.2⟩
                          have hF2b : ∀ x, x < z0 → ¬ F x → ¬ F2 x := by rw [hF2]; exact fun x h1 h2 hx => hx.1.elim h2 (fun h => by omega)
                          have F216 := Only.trans F43 f214 (fun i hi hl => by have := (hnew i hl).1; omega)
                          have F217 := Sl.only (by decide) F45 f214 (fun k hk hok hl => hok.2 hl)
                          have F218 := Row.only (by decide) F46 f214 (fun k hk hok hl => by have := (hnew k hl).1; omega)
                          have F219 := Row.only (by decide) F47 f214 (fun k hk hok hl => by have := (hnew k hl).1; omega)
                          have F220 := Blk.only B40 f214 (fun hl => by have := (hnew _ hl).2; omega)
                          clear F43 F45 F46 F47
                          have sz221 := f214.size
                          refine WL.y rfl rfl (yi_eql rfl rfl) ?_
                          refine WL.y rfl rfl (yi_move rfl) ?_
                          refine WL.y rfl rfl (yi_neqB Try.runUnderlying4 rfl rfl) ?_
                          refine WL.done ?_
                          refine NW.next ?_
                          refine CW.cond rfl (fun q_GFFT => ?_) (fun q_GFFT => ?_)
                          · try replace q_GFFT := of_decide_eq_true q_GFFT
                            have hd : decide (e = 0) = th := (by rw [Bool.eq_iff_iff, decide_eq_true_eq, he, hth, hL]); simp [hd] at q_GFFT
                          · try replace q_GFFT := of_decide_eq_false q_GFFT
                            refine CW.skip ?_
                            refine NW.next ?_
                            refine CW.seq ?_
                            refine CW.region ?_
                            refine WL.y rfl rfl (yi_move rfl) ?_
                            refine WL.done ?_
                            refine NW.next ?_
                            refine CW.cond rfl (fun q_GFFTF => ?_) (fun q_GFFTF => ?_)
                            · try replace q_GFFTF := of_decide_eq_true q_GFFTF
                              obtain rfl := q_GFFTF
                              obtain ⟨j, hj0, hj⟩ := place (hth.1 rfl)
                              obtain ⟨t, ht⟩ : ∃ t, S[j]? = some t := ⟨S[j], List.getElem?_eq_getElem hj⟩
                              obtain rfl := hL2a j _ hj0 (par_get hrel ht)
                              obtain ⟨ag, A1, c1, A2, c2, hA5, hnF, E7, hc1, hm1, R1, hc2, hm2, R2⟩ := tr_at (sl_row F217) ht
                              subst hA5
                              have fd222 : Same w213 w213.drew := Only.drew _ _
                              obtain ⟨w223, hww223⟩ : ∃ w1, w1 = w213.drew := ⟨_, rfl⟩
                              rw [← hww223] at fd222
                              have F224 := Only.same F216 fd222
                              have F225 := Sl.same (by decide) F217 fd222
                              have F226 := Row.same (by decide) F218 fd222
                              have F227 := Row.same (by decide) F219 fd222
                              have F228 := Blk.same F220 fd222
                              have F229 := NetAt.same N2215 fd222
                              have F230 := Seg.same E7 fd222
                              have F231 := Row.same (by decide) R1 fd222
                              have F232 := Row.same (by decide) R2 fd222
                              clear F216 F217 F218 F219 F220
                              have sz233 := fd222.size
                              refine CW.draw 12 [(0, true), (1, true), (2, true), (3, true), (4, true), (5, true), (6, true), (7, true), (8, true), (9, true), (10, true), (11, false), (12, false), (13, false)] (fun w' => Blk w' ob _ _ ∧ Seg w' (some (ag.add (j * 7))) [.int .i64 t.sent.what, .int .i64 t.sent.frm, .int .i64 t.sent.to, .int .i64 t.sent.pl, .slice A1 t.sent.bytes.length c1, .slice A2 t.changed.length c2, .bool t.whole]) Try_mixed (by kernel_rfl) (fun _ _ _ _ h => h) hww223 ⟨F228, F230⟩ ?_
                              refine PL.y rfl rfl rfl (fun w' hS => yi_move rfl) ?_
                              refine PL.y rfl rfl rfl (fun w' hS => yi_move rfl) ?_
                              refine PL.y rfl rfl rfl (fun w' hS => yi_len Try.runUnderlying27 rfl) ?_
                              refine PL.y rfl rfl rfl (fun w' hS => yi_move rfl) ?_
                              refine PL.y rfl rfl rfl (fun w' hS => yi_len Try.runUnderlying27 rfl) ?_
                              refine PL.y rfl rfl rfl (fun w' hS => yi_slice011 Try.runUnderlying27 Try.sizeOf33 rfl rfl rfl (by omega) (by omega) (by omega)) ?_
                              refine PL.as_ (t := 189) (v' := .slice (some ag) S.length S.length) rfl (by rw [Int.toNat_natCast]) ?_
                              refine PL.y rfl rfl rfl (fun w' hS => yi_move rfl) ?_
                              refine PL.y rfl rfl rfl (fun w' hS => yi_fieldAddr Try.runUnderlying30 rfl Try.sizeOf3 rfl) ?_
                              refine PL.y rfl rfl rfl (fun w' hS => by first | exact yi_loadB Try.isAgg3 rfl hS.1 rfl) ?_
                              refine PL.as_ (t := 192) (v' := .int .i64 j) rfl (congrArg (Value.int .i64) hj0) ?_
                              refine PL.y rfl rfl rfl (fun w' hS => yi_indexAddr Try.runUnderlying27 Try.sizeOf33 rfl rfl (by omega) (by omega)) ?_
                              refine PL.as_ (t := 193) (v' := .pointer (some (ag.add (j * 7)))) rfl (by rw [Int.toNat_natCast]) ?_
                              refine PL.y rfl rfl rfl (fun w' hS => yi_loadA (cs := [.int .i64 t.sent.what, .int .i64 t.sent.frm, .int .i64 t.sent.to, .int .i64 t.sent.pl, .slice A1 t.sent.bytes.length c1, .slice A2 t.changed.length c2, .bool t.whole]) Try.isAgg33 Try.sizeOf33 rfl rfl (Seg.get hS.2)) ?_
                              refine PL.e rfl rfl rfl (ef_buildSlice Try.runUnderlying27 Try.sizeOf33 Try.zeroValue33 rfl (fun _ => by kernel_rfl)) ?_
                              rintro _ w239 ⟨tb, hb_tb, rfl, f236, B237, z_tb⟩
                              have F240 := Only.same F224 f236
                              have F241 := Sl.same (by decide) F225 f236
                              have F242 := Row.same (by decide) F226 f236
                              have F243 := Row.same (by decide) F227 f236
                              have F244 := Blk.same F228 f236
                              have F245 := NetAt.same F229 f236
                              have F246 := Seg.same F230 f236
                              have F247 := Row.same (by decide) F231 f236
                              have F248 := Row.same (by decide) F232 f236
                              clear F224 F225 F226 F227 F228 F229 F230 F231 F232
                              have sz249 := f236.size
                              refine ⟨fun _ => ⟨F244, F246⟩, ?_⟩
                              have hone : Row dTr _ (fun x => (x < z0 ∧ ¬ F x) ∨ x = tb) (some ⟨tb, 0, none⟩) [t] := Row.one B237 (.inr rfl) (dTr_mk (t := t) hc1 hm1 (Row.mono (fun k hk => .inl hk) F247) hc2 hm2 (Row.mono (fun k hk => .inl hk) F248))
                              refine PL.z rfl rfl rfl rfl rfl (ef_appendFresh dTr Try.runUnderlying27 (notInt Try.runUnderlying27) Try.typeInfo33 Try.zeroValue33 rfl rfl rfl rfl (sl_row F241) rfl rfl hone (by decide) (by omega) (by omega) (by show (S.length + 1) * 88 ≤ _; omega)) ?_
                              rintro u5 w250 ⟨hO5, f251, hu5⟩
                              have F252 := Only.same F240 f251
                              have F253 := Sl.same (by decide) F241 f251
                              have F254 := Row.same (by decide) F242 f251
                              have F255 := Row.same (by decide) F243 f251
                              have F256 := Blk.same F244 f251
                              have F257 := NetAt.same F245 f251
                              have F258 := Seg.same F246 f251
                              have F259 := Row.same (by decide) F247 f251
                              have F260 := Row.same (by decide) F248 f251
                              have F261 := Blk.same B237 f251
                              clear F240 F241 F242 F243 F244 F245 F246 F247 F248
                              have sz262 := f251.size
                              refine PL.zy rfl rfl rfl rfl rfl (yi_assign rfl) ?_
                              refine PL.done ?_
                              refine NW.blockEnd ?_
                              refine NW.meet ?_
                              refine fun a ha => ⟨F2, (L ++ [t.par]), (S ++ [t]), u5, ⟨F252, F257, fun x hx => ⟨(hF2a x hx).1, by have := (hF2a x hx).2; omega⟩, ?_, ?_, ?_, by omega⟩, ha.sub ⟨rfl, rfl, rfl, rfl, rfl, trivial⟩⟩
                              · refine .inl ⟨hO5.bound.mono (fun x hx => ⟨hx.2, ?_⟩), fun k hk => by rw [hu5] at hk; injection hk with hk; omega⟩
                                rcases hx.1 with (hx | hx | hx) | hx
                                · exact hF2b x hx.1 hx.2
                                · exact hF2b x hx.1 hx.2
                                · exact fun hf => by have := (hF2a x hf).2; omega
                                · exact fun hf => by have := (hF2a x hf).2; omega
                              · rw [hrel, List.map_append]; rfl
                              · rw [List.length_append]; simp; omega
                            · try replace q_GFFTF := of_decide_eq_false q_GFFTF
                              obtain rfl := (hL2b (by rw [hL, ← hth]; simp [q_GFFTF])).symm
                              refine CW.skip ?_
                              refine NW.blockEnd ?_
                              refine NW.meet ?_
                              refine fun a ha => ⟨F2, L, S, _, ⟨F216, N2215, fun x hx => ⟨(hF2a x hx).1, by have := (hF2a x hx).2; omega⟩, ?_, ?_, ?_, by omega⟩, ha.sub ⟨rfl, rfl, rfl, rfl, rfl, trivial⟩⟩
                              · exact F217.mono (fun x hx => ⟨by have := hx.1; omega, hF2b x hx.1 hx.2⟩)
                              · exact hrel
                              · omega
                        · try replace q_GFF := of_decide_eq_false q_GFF
                          refine CW.seq ?_
                          refine CW.region ?_
                          refine WL.y rfl rfl (yi_eql rfl rfl) ?_
                          refine WL.y rfl rfl (yi_assign rfl) ?_
                          refine WL.done ?_
                          refine NW.next ?_
                          refine CW.cond rfl (fun q_GFFF => ?_) (fun q_GFFF => ?_)
                          · try replace q_GFFF := of_decide_eq_true q_GFFF
                            refine CW.cut (fun a w' => w42 = w' ∧ ∃ may : Bool, (may = true ↔ th = true ∧ o.bytes.length ≤ 70000) ∧ Env 236 [] [(0, .slice (some ad) ops.length c), (2, .bool false), (3, .pointer (some ⟨nb, 0, none⟩)), (5, .slice A5 S.length c5), (6, .int .i64 k), (7, .pointer (some ⟨ob, 0, none⟩)), (8, .bool th), (13, .bool may)] a) ?_ ?_
                            · refine CW.region ?_
                              refine WL.y rfl rfl (yi_move rfl) ?_
                              refine WL.y rfl rfl (yi_move rfl) ?_
                              refine WL.split (t := 200) rfl (fun q_GFFFT => ?_) (fun q_GFFFT => ?_)
                              · try replace q_GFFFT := of_decide_eq_true q_GFFFT
                                refine WL.gy rfl rfl rfl rfl rfl (yi_fieldAddr Try.runUnderlying30 rfl Try.sizeOf28 rfl) ?_
                                refine WL.gy rfl rfl rfl rfl rfl (yi_loadB Try.isAgg28 rfl (by assumption) rfl) ?_
                                refine WL.gy rfl rfl rfl rfl rfl (yi_len Try.runUnderlying28 rfl) ?_
                                refine WL.gy rfl rfl rfl rfl rfl (yi_leq rfl rfl) ?_
                                refine WL.y rfl rfl (yi_pickT rfl rfl) ?_
                                refine WL.y rfl rfl (yi_assign rfl) ?_
                                refine WL.done ?_
                                refine NW.meet ?_
                                refine fun a ha => ⟨rfl, _, ?_, ha.sub ⟨rfl, rfl, rfl, rfl, rfl, rfl, rfl, rfl, trivial⟩⟩
                                rw [q_GFFFT, decide_eq_true_eq]; simp; omega
                              · try replace q_GFFFT := of_decide_eq_false q_GFFFT
                                refine WL.no rfl rfl rfl rfl rfl rfl ?_
                                refine WL.no rfl rfl rfl rfl rfl rfl ?_
                                refine WL.no rfl rfl rfl rfl rfl rfl ?_
                                refine WL.no rfl rfl rfl rfl rfl rfl ?_
                                refine WL.y rfl rfl (yi_pickF rfl rfl) ?_
                                refine WL.y rfl rfl (yi_assign rfl) ?_
                                refine WL.done ?_
                                refine NW.meet ?_
                                refine fun a ha => ⟨rfl, _, ?_, ha.sub ⟨rfl, rfl, rfl, rfl, rfl, rfl, rfl, rfl, trivial⟩⟩
                                rw [q_GFFFT]; simp
                            · rintro a _ ⟨rfl, may, hmay, ha⟩
                              refine CW.at ha ?_
                              refine CW.seq ?_
                              refine CW.seq ?_
                              refine CW.region ?_
                              refine WL.y rfl rfl (yi_move rfl) ?_
                              refine WL.y rfl rfl (yi_fieldAddr Try.runUnderlying30 rfl Try.sizeOf3 rfl) ?_
                              refine WL.y rfl rfl (yi_loadB Try.isAgg3 rfl (by assumption) rfl) ?_
                              refine WL.y rfl rfl (yi_fieldAddr Try.runUnderlying30 rfl Try.sizeOf28 rfl) ?_
                              refine WL.y rfl rfl (yi_loadB Try.isAgg28 rfl (by assumption) rfl) ?_
                              refine WL.e rfl rfl (ef_call Try.call15 rfl (corrupt_c nb o.pl 4 _ L o.bytes Ab cb _ _ F44 (by decide) F47 hcb)) ?_
                              rintro _ w263 ⟨e, L2, rfl, hN', f264, he, hL2a, hL2b⟩
                              obtain ⟨F2, hF2⟩ : ∃ F2 : Nat → Prop, F2 = fun x => grow F w42 x ∧ x < w263.heap.size := ⟨_, rfl⟩
                              have N2265 := NetAt.bound hN'
                              rw [← hF2] at N2265
                              have hz1 := f264.size
                              have hF2a : ∀ x, F2 x → w.heap.size ≤ x ∧ x < w263.heap.size := by rw [hF2]; exact fun x hx => ⟨hx.1.elim (fun h => (hnew x h).1) (fun h => by omega), hx.2⟩
                              have hF2b : ∀ x, x < z0 → ¬ F x → ¬ F2 x := by rw [hF2]; exact fun x h1 h2 hx => hx.1.elim h2 (fun h => by omega)
                              have F266 := Only.trans F43 f264 (fun i hi hl => by have := (hnew i hl).1; omega)
                              have F267 := Sl.only (by decide) F45 f264 (fun k hk hok hl => hok.2 hl)
                              have F268 := Row.only (by decide) F46 f264 (fun k hk hok hl => by have := (hnew k hl).1; omega)
                              have F269 := Row.only (by decide) F47 f264 (fun k hk hok hl => by have := (hnew k hl).1; omega)
                              have F270 := Blk.only B40 f264 (fun hl => by have := (hnew _ hl).2; omega)
                              clear F43 F45 F46 F47
                              have sz271 := f264.size
                              refine WL.y rfl rfl (yi_eql rfl rfl) ?_
                              refine WL.y rfl rfl (yi_move rfl) ?_
                              refine WL.y rfl rfl (yi_neqB Try.runUnderlying4 rfl rfl) ?_
                              refine WL.done ?_
                              refine NW.next ?_
                              refine CW.cond rfl (fun q_M => ?_) (fun q_M => ?_)
                              · try replace q_M := of_decide_eq_true q_M
                                have hd : decide (e = 0) = may := (by rw [Bool.eq_iff_iff, decide_eq_true_eq, he, hmay, hth, hL]); simp [hd] at q_M
                              · try replace q_M := of_decide_eq_false q_M
                                refine CW.skip ?_
                                refine NW.next ?_
                                refine CW.seq ?_
                                refine CW.region ?_
                                refine WL.y rfl rfl (yi_move rfl) ?_
                                refine WL.done ?_
                                refine NW.next ?_
                                refine CW.cond rfl (fun q_MF => ?_) (fun q_MF => ?_)
                                · try replace q_MF := of_decide_eq_true q_MF
                                  obtain rfl := q_MF
                                  have hm2 := hmay.1 rfl
                                  obtain rfl : th = true := hm2.1
                                  obtain ⟨j, hj0, hj⟩ := place (hth.1 rfl)
                                  obtain ⟨t, ht⟩ : ∃ t, S[j]? = some t := ⟨S[j], List.getElem?_eq_getElem hj⟩
                                  obtain rfl := hL2a j _ hj0 (par_get hrel ht) hm2.2
                                  refine CW.seq ?_
                                  refine CW.region ?_
                                  refine WL.y rfl rfl (yi_move rfl) ?_
                                  refine WL.e rfl rfl (ef_appendFresh dTr Try.runUnderlying27 (notInt Try.runUnderlying27) Try.typeInfo33 Try.zeroValue33 rfl rfl rfl rfl (Row.nil _ _ (fun _ => False) _) rfl rfl (sl_row F267) (by decide) (by omega) (by omega) (by show (0 + S.length) * 88 ≤ _; omega)) ?_
                                  rintro u5 w272 ⟨hO5, f273, hu5⟩
                                  rw [List.nil_append] at hO5
                                  obtain ⟨g, cap, cs, rest, hug, OO⟩ := Own.opened hO5 (by omega)
                                  subst hug
                                  have hgz : g = w263.heap.size := by injection hu5
                                  have hG := OO.hblk
                                  have hcl : cs.length = S.length * 7 := OO.hlen
                                  obtain ⟨cc, hKK, -, hcc⟩ := OO.cell ht
                                  obtain ⟨A1, c1, A2, c2, hce, hc1, hm1, R1, -⟩ := dTr_K hKK
                                  subst hce
                                  have fg := Only.refl (fun k => k = g) w272
                                  have hcap := OO.hcap
                                  have F274 := Only.same F266 f273
                                  have F275 := Sl.same (by decide) F267 f273
                                  have F276 := Row.same (by decide) F268 f273
                                  have F277 := Row.same (by decide) F269 f273
                                  have F278 := Blk.same F270 f273
                                  have F279 := NetAt.same N2265 f273
                                  clear F266 F267 F268 F269 F270
                                  have sz280 := f273.size
                                  refine WL.y rfl rfl (yi_assign rfl) ?_
                                  refine WL.done ?_
                                  refine NW.next ?_
                                  have fd281 : Same w272 w272.drew := Only.drew _ _
                                  obtain ⟨w282, hww282⟩ : ∃ w1, w1 = w272.drew := ⟨_, rfl⟩
                                  rw [← hww282] at fd281
                                  have F283 := Only.same F274 fd281
                                  have F284 := Row.same (by decide) F276 fd281
                                  have F285 := Row.same (by decide) F277 fd281
                                  have F286 := Blk.same F278 fd281
                                  have F287 := NetAt.same F279 fd281
                                  have F288 := Blk.same hG fd281
                                  have F289 := Row.same (by decide) R1 fd281
                                  have F290 := Only.same fg fd281
                                  clear F274 F276 F277 F278 F279
                                  have sz291 := fd281.size
                                  refine CW.draw 13 [(0, true), (1, true), (2, true), (3, true), (4, true), (5, true), (6, true), (7, true), (8, true), (9, true), (10, false), (11, true), (12, true), (13, false)] (fun w' => Blk w' ob _ _) Try_mixed (by kernel_rfl) (fun _ _ _ _ h => h) hww282 F286 ?_
                                  refine PL.y rfl rfl rfl (fun w' hS => yi_move rfl) ?_
                                  refine PL.y rfl rfl rfl (fun w' hS => yi_fieldAddr Try.runUnderlying30 rfl Try.sizeOf3 rfl) ?_
                                  refine PL.y rfl rfl rfl (fun w' hS => by first | exact yi_loadB Try.isAgg3 rfl hS rfl) ?_
                                  refine PL.as_ (t := 220) (v' := .int .i64 j) rfl (congrArg (Value.int .i64) hj0) ?_
                                  refine PL.y rfl rfl rfl (fun w' hS => yi_move rfl) ?_
                                  refine PL.y rfl rfl rfl (fun w' hS => yi_fieldAddr Try.runUnderlying30 rfl Try.sizeOf3 rfl) ?_
                                  refine PL.y rfl rfl rfl (fun w' hS => by first | exact yi_loadB Try.isAgg3 rfl hS rfl) ?_
                                  refine PL.as_ (t := 223) (v' := .int .i64 j) rfl (congrArg (Value.int .i64) hj0) ?_
                                  refine PL.y rfl rfl rfl (fun w' hS => yi_fieldAddr Try.runUnderlying30 rfl Try.sizeOf28 rfl) ?_
                                  refine PL.y rfl rfl rfl (fun w' hS => by first | exact yi_loadB Try.isAgg28 rfl hS rfl) ?_
                                  refine PL.y rfl rfl rfl (fun w' hS => yi_indexAddr Try.runUnderlying27 Try.sizeOf33 rfl rfl (by omega) (by omega)) ?_
                                  refine PL.as_ (t := 226) (v' := .pointer (some ⟨g, j * 7, none⟩)) rfl (by rw [Int.toNat_natCast, addr_at, Nat.zero_add]) ?_
                                  refine PL.y rfl rfl rfl (fun w' hS => yi_fieldAddr Try.runUnderlying33 rfl Try.sizeOf28 rfl) ?_
                                  refine PL.e rfl rfl rfl (ef_store (b := g) Try.sizeOf28 rfl rfl F288 rfl (Nat.ble_eq_true_of_le (by show j * 7 + 5 + 1 ≤ _; simp only [List.size_toArray, List.length_append]; omega)) rfl) ?_
                                  rintro _ w295 ⟨rfl, f292, B293, z294⟩
                                  have F296 := Only.trans F283 f292 (fun i hi hl => by have hl : i = _ := hl; omega)
                                  have F297 := Row.only (by decide) F284 f292 (fun k hk hok hl => by have hl : k = _ := hl; omega)
                                  have F298 := Row.only (by decide) F285 f292 (fun k hk hok hl => by have hl : k = _ := hl; omega)
                                  have F299 := Blk.only F286 f292 (by show ¬ (_ = _); omega)
                                  have F300 := NetAt.only F287 f292 (fun k hk hok hl => by have hl : k = _ := hl; have := hF2a k hok; omega)
                                  have F301 := Row.only (by decide) F289 f292 (fun k hk hok hl => hok.2 hl)
                                  have F302 := Only.trans F290 f292 (fun i hi hl => hl)
                                  clear F283 F284 F285 F286 F287 F289 F290
                                  refine ⟨fun _ => F299, ?_⟩
                                  refine PL.y rfl rfl rfl (fun w' hS => yi_indexAddr Try.runUnderlying27 Try.sizeOf33 rfl rfl (by omega) (by omega)) ?_
                                  refine PL.as_ (t := 228) (v' := .pointer (some ⟨g, j * 7, none⟩)) rfl (by rw [Int.toNat_natCast, addr_at, Nat.zero_add]) ?_
                                  refine PL.y rfl rfl rfl (fun w' hS => yi_fieldAddr Try.runUnderlying33 rfl Try.sizeOf4 rfl) ?_
                                  refine PL.z rfl rfl rfl rfl rfl (ef_store (b := g) Try.sizeOf4 rfl rfl B293 rfl (Nat.ble_eq_true_of_le (by show j * 7 + 6 + 1 ≤ _; rw [putAll_size]; simp only [List.size_toArray, List.length_append]; omega)) rfl) ?_
                                  rintro _ w306 ⟨rfl, f303, B304, z305⟩
                                  have F307 := Only.trans F296 f303 (fun i hi hl => by have hl : i = _ := hl; omega)
                                  have F308 := Row.only (by decide) F297 f303 (fun k hk hok hl => by have hl : k = _ := hl; omega)
                                  have F309 := Row.only (by decide) F298 f303 (fun k hk hok hl => by have hl : k = _ := hl; omega)
                                  have F310 := Blk.only F299 f303 (by show ¬ (_ = _); omega)
                                  have F311 := NetAt.only F300 f303 (fun k hk hok hl => by have hl : k = _ := hl; have := hF2a k hok; omega)
                                  have F312 := Row.only (by decide) F301 f303 (fun k hk hok hl => hok.2 hl)
                                  have F313 := Only.trans F302 f303 (fun i hi hl => hl)
                                  clear F296 F297 F298 F299 F300 F301 F302
                                  refine PL.done ?_
                                  refine NW.blockEnd ?_
                                  refine NW.meet ?_
                                  have O2 := OO.put hj (x' := ⟨t.sent, o.bytes, false⟩) (dTr_mk (t := ⟨t.sent, o.bytes, false⟩) hc1 hm1 F312 hcb hmb (Row.mono (fun k hk => ⟨.inl (.inr ⟨by omega, fun hf => by have := (hnew k hf).1; omega⟩), by omega⟩) F309)) F313 B304 (by rw [putAll_size, putAll_size]; simp) (fun j' u hu => tr_in (cs ++ rest).toArray j _ _ _ _ _ _ _ (hcc 0 _ rfl) (hcc 1 _ rfl) (hcc 2 _ rfl) (hcc 3 _ rfl) (hcc 4 _ rfl) (Array.getElem?_eq_some_iff.1 (hcc 6 _ rfl)).1 j' u hu) (fun k' hk' => tr_out (cs ++ rest).toArray j _ _ k' hk')
                                  have O3 := O2.own
                                  rw [List.length_set] at O3
                                  refine fun a ha => ⟨F2, _, (S.set j ⟨t.sent, o.bytes, false⟩), _, ⟨F307, F311, fun x hx => ⟨(hF2a x hx).1, by have := (hF2a x hx).2; omega⟩, ?_, ?_, ?_, by omega⟩, ha.sub ⟨rfl, rfl, rfl, rfl, rfl, trivial⟩⟩
                                  · refine .inl ⟨O3.bound.mono (fun x hx => ⟨hx.2, ?_⟩), fun k hk => by have hk : some g = some k := hk; injection hk with hk; omega⟩
                                    rcases hx.1 with (hx | hx) | hx
                                    · exact hx.elim
                                    · exact hF2b x hx.1 hx.2
                                    · exact fun hf => by have := (hF2a x hf).2; omega
                                  · rw [hrel]; exact map_set S j ⟨t.sent, o.bytes, false⟩
                                  · rw [List.length_set]; omega
                                · try replace q_MF := of_decide_eq_false q_MF
                                  obtain rfl := (hL2b (fun hh => by have h9 := hmay.2 ⟨hth.2 ⟨hh.1.1, by rw [← hL]; exact hh.1.2⟩, hh.2⟩; rw [q_MF] at h9; cases h9)).symm
                                  refine CW.skip ?_
                                  refine NW.blockEnd ?_
                                  refine NW.meet ?_
                                  refine fun a ha => ⟨F2, L, S, _, ⟨F266, N2265, fun x hx => ⟨(hF2a x hx).1, by have := (hF2a x hx).2; omega⟩, ?_, ?_, ?_, by omega⟩, ha.sub ⟨rfl, rfl, rfl, rfl, rfl, trivial⟩⟩
                                  · exact F267.mono (fun x hx => ⟨by have := hx.1; omega, hF2b x hx.1 hx.2⟩)
                                  · exact hrel
                                  · omega
                          · try replace q_GFFF := of_decide_eq_false q_GFFF
                            refine CW.skip ?_
                            refine NW.blockEnd ?_
                            refine NW.meet ?_
                            refine fun a ha => ⟨F, L, S, _, ⟨F43, F44, fun x hx => ⟨(hnew x hx).1, by have := (hnew x hx).2; omega⟩, F45.mono (fun x hx => ⟨by have := hx.1; omega, hx.2⟩), hrel, by omega, by omega⟩, ha.sub ⟨rfl, rfl, rfl, rfl, rfl, trivial⟩⟩
            · rintro a w314 ⟨F2, L2, S2, v2, st2, ha⟩
              refine CW.at ha ?_
              obtain ⟨fr2, Nz, -, SL2, hrel2, hlen2, htop2⟩ := id st2
              have hL2 := par_len hrel2
              obtain ⟨A6, c6, hv6, hc6, hm6, R6⟩ := SL2.row (by decide)
              subst hv6
              refine CW.seq ?_
              refine CW.region ?_
              refine WL.y rfl rfl (yi_move rfl) ?_
              refine WL.e rfl rfl (ef_call Try.call16 rfl (len_c nb 4 _ L2 _ Nz (by decide))) ?_
              rintro _ w315 ⟨rfl, rfl⟩
              refine WL.y rfl rfl (yi_move rfl) ?_
              refine WL.y rfl rfl (yi_len Try.runUnderlying27 rfl) ?_
              refine WL.y rfl rfl (yi_neq rfl rfl) ?_
              refine WL.done ?_
              refine NW.next ?_
              refine CW.cond rfl (fun q_Z => ?_) (fun q_Z => ?_)
              · try replace q_Z := of_decide_eq_true q_Z
                exact absurd q_Z (by omega)
              · try replace q_Z := of_decide_eq_false q_Z
                refine CW.skip ?_
                refine NW.blockEnd ?_
                refine NW.next ?_
                refine CW.region ?_
                refine WL.y rfl rfl (yi_move rfl) ?_
                refine WL.y rfl rfl (yi_addI rfl rfl (by omega) (by omega)) ?_
                refine WL.as_ (t := 29) (v' := .int .i64 ((k + 1 : Nat) : Int)) rfl (congrArg (Value.int .i64) (by omega)) ?_
                refine WL.y rfl rfl (yi_assign rfl) ?_
                refine WL.done ?_
                refine NW.round (80 - (k + 1)) (by omega) ?_
                exact fun a ha => ⟨k + 1, F2, L2, S2, _, rfl, st2, ha.sub ⟨rfl, rfl, rfl, rfl, rfl, trivial⟩⟩
        · try replace q_Lt := of_decide_eq_false q_Lt
          refine CW.exit ?_
          refine NW.thenExit ?_
          refine NW.thenExit ?_
          refine NW.blockHit ?_
          refine NW.next ?_
          refine CW.seq ?_
          refine CW.region ?_
          refine WL.e rfl rfl (ef_call Try.call17 rfl (wakes_c _)) ?_
          rintro _ w317 ⟨rfl, f318⟩
          have F319 := Only.same fr f318
          have F320 := NetAt.same N f318
          have F321 := Sl.same (by decide) SL f318
          have F322 := Row.same (by decide) Rk f318
          have sz323 := f318.size
          refine WL.y rfl rfl (yi_assign rfl) ?_
          refine WL.done ?_
          refine NW.next ?_
          refine CW.ret ?_
          refine NW.ret1 rfl rfl ?_
          exact ⟨_, rfl, rfl, F319⟩
      · try replace q_L := of_decide_eq_false q_L
        refine WL.no rfl rfl rfl rfl rfl rfl ?_
        refine WL.no rfl rfl rfl rfl rfl rfl ?_
        refine WL.y rfl rfl (yi_pickF rfl rfl) ?_
        refine WL.done ?_
        refine NW.next ?_
        refine CW.condF rfl ?_
        refine CW.exit ?_
        refine NW.thenExit ?_
        refine NW.thenExit ?_
        refine NW.blockHit ?_
        refine NW.next ?_
        refine CW.seq ?_
        refine CW.region ?_
        refine WL.e rfl rfl (ef_call Try.call17 rfl (wakes_c _)) ?_
        rintro _ w324 ⟨rfl, f325⟩
        have F326 := Only.same fr f325
        have F327 := NetAt.same N f325
        have F328 := Sl.same (by decide) SL f325
        have F329 := Row.same (by decide) Rk f325
        have sz330 := f325.size
        refine WL.y rfl rfl (yi_assign rfl) ?_
        refine WL.done ?_
        refine NW.next ?_
        refine CW.ret ?_
        refine NW.ret1 rfl rfl ?_
        exact ⟨_, rfl, rfl, F326⟩

end Go.Proofs.YtgmjgdjobkmbgaaN
