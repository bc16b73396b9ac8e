/- The net: a place asked for; a parcel taken out; changed. -/
import Derived.Test.YtgmjgdjobkmbgaaNetB
import Derived.Test.YtgmjgdjobkmbgaaDel
set_option linter.unusedVariables false
set_option linter.unusedSimpArgs false
namespace Go.Proofs.YtgmjgdjobkmbgaaN
open Go.Proofs.YtgmjgdjobkmbgaaL Go.RowKit Go.Proofs
attribute [local irreducible] Ef Yi WL PL CW NW Ret
theorem at_in (b : Nat) (m i : Int) (ad : Addr) (n c : Nat) (f : FuncId) (fs cs : Array Value) (w : World) (R : Value → World → Prop) (B : Blk w b #[.int .i64 m, .slice (some ad) n c] 98) (hm : 1 ≤ m) (h0 : 0 ≤ i) (h1 : i < n) (hcall : ∀ args w, (callFunc f args).run Try.prog w = .ok (.enter f args) w) (hdo : Ret Try.prog f (fs.toList ++ [.pointer (some (ad.add (i.toNat * 4)))] ++ cs.toList) w R) :
    Ret Try.prog 62 [.pointer (some ⟨b, 0, none⟩), .int .i64 i, .func (.func f) fs cs] w R := by
  refine Ret.go Try.func62 rfl Try.ntmps62 rfl ?_
  refine CW.seq ?_
  refine CW.region ?_
  refine WL.y rfl rfl (yi_assign rfl) ?_
  refine WL.done ?_
  refine NW.next ?_
  refine CW.seq ?_
  refine CW.block ?_
  refine CW.seq ?_
  refine CW.region ?_
  refine WL.y rfl rfl (yi_move rfl) ?_
  refine WL.e rfl rfl (ef_call Try.call59 rfl (none_c b m _ _ _ B)) ?_
  rintro _ w1 ⟨rfl, rfl⟩
  refine WL.y rfl rfl (yi_assign rfl) ?_
  refine WL.done ?_
  refine NW.next ?_
  refine CW.cond rfl (fun q_ => ?_) (fun q_ => ?_)
  · try replace q_ := of_decide_eq_true q_
    exact absurd q_ (by omega)
  · try replace q_ := of_decide_eq_false q_
    refine CW.seq ?_
    refine CW.region ?_
    refine WL.y rfl rfl (yi_move rfl) ?_
    refine WL.y rfl rfl (yi_lss rfl rfl) ?_
    refine WL.y rfl rfl (yi_move rfl) ?_
    refine WL.split (t := 13) rfl (fun q_F => ?_) (fun q_F => ?_)
    · try replace q_F := of_decide_eq_true q_F
      exact absurd q_F (by omega)
    · try replace q_F := of_decide_eq_false q_F
      refine WL.gy rfl rfl rfl rfl rfl (yi_move rfl) ?_
      refine WL.gy rfl rfl rfl rfl rfl (yi_move rfl) ?_
      refine WL.gy rfl rfl rfl rfl rfl (yi_nilCheck rfl) ?_
      refine WL.gy rfl rfl rfl rfl rfl (yi_fieldAddr Try.runUnderlying98 rfl Try.sizeOf96 rfl) ?_
      refine WL.gy rfl rfl rfl rfl rfl (yi_loadB Try.isAgg96 rfl (by assumption) rfl) ?_
      refine WL.gy rfl rfl rfl rfl rfl (yi_len Try.runUnderlying96 rfl) ?_
      refine WL.gy rfl rfl rfl rfl rfl (yi_geq rfl rfl) ?_
      refine WL.y rfl rfl (yi_pickF rfl rfl) ?_
      refine WL.y rfl rfl (yi_assign rfl) ?_
      refine WL.done ?_
      refine NW.next ?_
      refine CW.cond rfl (fun q_Ff => ?_) (fun q_Ff => ?_)
      · try replace q_Ff := of_decide_eq_true q_Ff
        exact absurd q_Ff (by omega)
      · try replace q_Ff := of_decide_eq_false q_Ff
        refine CW.skip ?_
        refine NW.blockEnd ?_
        refine NW.next ?_
        refine CW.seq ?_
        refine CW.region ?_
        refine WL.y rfl rfl (yi_move rfl) ?_
        refine WL.y rfl rfl (yi_move rfl) ?_
        refine WL.y rfl rfl (yi_nilCheck rfl) ?_
        refine WL.y rfl rfl (yi_fieldAddr Try.runUnderlying98 rfl Try.sizeOf96 rfl) ?_
        refine WL.y rfl rfl (yi_loadB Try.isAgg96 rfl (by assumption) rfl) ?_
        refine WL.y rfl rfl (yi_move rfl) ?_
        refine WL.y rfl rfl (yi_indexAddr Try.runUnderlying96 Try.sizeOf35 rfl rfl (by omega) (by omega)) ?_
        refine WL.e rfl rfl (ef_callv hcall rfl rfl (hdo)) ?_
        rintro u w3 hR
        refine WL.y rfl rfl (yi_assign rfl) ?_
        refine WL.done ?_
        refine NW.next ?_
        refine CW.ret ?_
        refine NW.ret1 rfl rfl ?_
        exact ⟨_, rfl, hR⟩

theorem at_out (b : Nat) (m i : Int) (A : Option Addr) (n c : Nat) (f : FuncId) (fs cs : Array Value) (w : World) (B : Blk w b #[.int .i64 m, .slice A n c] 98) (hm : 1 ≤ m) (h0 : ¬ (0 ≤ i ∧ i < n)) :
    Ret Try.prog 62 [.pointer (some ⟨b, 0, none⟩), .int .i64 i, .func (.func f) fs cs] w fun u w' => u = .int .i64 6 ∧ w = w' := by
  refine Ret.go Try.func62 rfl Try.ntmps62 rfl ?_
  refine CW.seq ?_
  refine CW.region ?_
  refine WL.y rfl rfl (yi_assign rfl) ?_
  refine WL.done ?_
  refine NW.next ?_
  refine CW.seq ?_
  refine CW.block ?_
  refine CW.seq ?_
  refine CW.region ?_
  refine WL.y rfl rfl (yi_move rfl) ?_
  refine WL.e rfl rfl (ef_call Try.call59 rfl (none_c b m _ _ _ B)) ?_
  rintro _ w1 ⟨rfl, rfl⟩
  refine WL.y rfl rfl (yi_assign rfl) ?_
  refine WL.done ?_
  refine NW.next ?_
  refine CW.cond rfl (fun q_ => ?_) (fun q_ => ?_)
  · try replace q_ := of_decide_eq_true q_
    exact absurd q_ (by omega)
  · try replace q_ := of_decide_eq_false q_
    refine CW.seq ?_
    refine CW.region ?_
    refine WL.y rfl rfl (yi_move rfl) ?_
    refine WL.y rfl rfl (yi_lss rfl rfl) ?_
    refine WL.y rfl rfl (yi_move rfl) ?_
    refine WL.split (t := 13) rfl (fun q_F => ?_) (fun q_F => ?_)
    · try replace q_F := of_decide_eq_true q_F
      refine WL.no rfl rfl rfl rfl rfl rfl ?_
      refine WL.no rfl rfl rfl rfl rfl rfl ?_
      refine WL.no rfl rfl rfl rfl rfl rfl ?_
      refine WL.no rfl rfl rfl rfl rfl rfl ?_
      refine WL.no rfl rfl rfl rfl rfl rfl ?_
      refine WL.no rfl rfl rfl rfl rfl rfl ?_
      refine WL.no rfl rfl rfl rfl rfl rfl ?_
      refine WL.y rfl rfl (yi_pickT rfl rfl) ?_
      refine WL.y rfl rfl (yi_assign rfl) ?_
      refine WL.done ?_
      refine NW.next ?_
      refine CW.condT rfl ?_
      refine CW.seq ?_
      refine CW.region ?_
      refine WL.y rfl rfl (yi_assign rfl) ?_
      refine WL.done ?_
      refine NW.next ?_
      refine CW.ret ?_
      refine NW.blockRet ?_
      refine NW.thenRet ?_
      refine NW.ret1 rfl rfl ?_
      exact ⟨_, rfl, rfl, rfl⟩
    · try replace q_F := of_decide_eq_false q_F
      refine WL.gy rfl rfl rfl rfl rfl (yi_move rfl) ?_
      refine WL.gy rfl rfl rfl rfl rfl (yi_move rfl) ?_
      refine WL.gy rfl rfl rfl rfl rfl (yi_nilCheck rfl) ?_
      refine WL.gy rfl rfl rfl rfl rfl (yi_fieldAddr Try.runUnderlying98 rfl Try.sizeOf96 rfl) ?_
      refine WL.gy rfl rfl rfl rfl rfl (yi_loadB Try.isAgg96 rfl (by assumption) rfl) ?_
      refine WL.gy rfl rfl rfl rfl rfl (yi_len Try.runUnderlying96 rfl) ?_
      refine WL.gy rfl rfl rfl rfl rfl (yi_geq rfl rfl) ?_
      refine WL.y rfl rfl (yi_pickF rfl rfl) ?_
      refine WL.y rfl rfl (yi_assign rfl) ?_
      refine WL.done ?_
      refine NW.next ?_
      refine CW.cond rfl (fun q_Ff => ?_) (fun q_Ff => ?_)
      · try replace q_Ff := of_decide_eq_true q_Ff
        refine CW.seq ?_
        refine CW.region ?_
        refine WL.y rfl rfl (yi_assign rfl) ?_
        refine WL.done ?_
        refine NW.next ?_
        refine CW.ret ?_
        refine NW.blockRet ?_
        refine NW.thenRet ?_
        refine NW.ret1 rfl rfl ?_
        exact ⟨_, rfl, rfl, rfl⟩
      · try replace q_Ff := of_decide_eq_false q_Ff
        exact absurd h0 (by omega)

theorem delete_c (g cap M i : Nat) (xs : List Par) (ok : Nat → Prop) (w : World) (O : Own dPar 35 w ok (.slice (some ⟨g, 0, none⟩) (M + 1) cap) xs) (hn : xs.length = M + 1) (hi : i ≤ M) :
    Ret Try.prog 64 [.slice (some ⟨g, 0, none⟩) (M + 1 : Nat) cap, .int .i64 i, .int .i64 (i + 1)] w fun u w' => u = .slice (some ⟨g, 0, none⟩) M cap ∧ Own dPar 35 w' ok u (xs.eraseIdx i) ∧ Only (fun k => k = g) w w' := by
  obtain ⟨cs0, hown, hok, h1, hK⟩ := O
  obtain ⟨-, hcl, hcap, hc63, rest, hrest, Bg⟩ := hown.at
  replace hcl : cs0.length = (M + 1) * 4 := hcl
  replace hrest : rest.length = (cap - (M + 1)) * 4 := hrest
  have fr0 : Only (fun k => k = g) w w := Only.refl _ _
  refine Ret.go Try.func64 rfl Try.ntmps64 rfl ?_
  refine CW.seq ?_
  refine CW.region ?_
  refine WL.y rfl rfl (yi_assign rfl) ?_
  refine WL.done ?_
  refine NW.next ?_
  refine CW.seq ?_
  refine CW.region ?_
  refine WL.y rfl rfl (yi_move rfl) ?_
  refine WL.y rfl rfl (yi_move rfl) ?_
  refine WL.y rfl rfl (yi_move rfl) ?_
  refine WL.y rfl rfl (yi_move rfl) ?_
  refine WL.y rfl rfl (yi_len Try.runUnderlying96 rfl) ?_
  refine WL.y rfl rfl (yi_slice111 Try.runUnderlying96 Try.sizeOf35 rfl rfl rfl rfl (by omega) (by omega) (by omega) (by omega)) ?_
  refine WL.done ?_
  refine NW.next ?_
  refine CW.seq ?_
  refine CW.seq ?_
  refine CW.region ?_
  refine WL.y rfl rfl (yi_move rfl) ?_
  refine WL.y rfl rfl (yi_move rfl) ?_
  refine WL.y rfl rfl (yi_eql rfl rfl) ?_
  refine WL.done ?_
  refine NW.next ?_
  refine CW.cond rfl (fun q_ => ?_) (fun q_ => ?_)
  · try replace q_ := of_decide_eq_true q_
    exact absurd q_ (by omega)
  · try replace q_ := of_decide_eq_false q_
    refine CW.skip ?_
    refine NW.next ?_
    refine CW.seq ?_
    refine CW.region ?_
    refine WL.y rfl rfl (yi_move rfl) ?_
    refine WL.y rfl rfl (yi_len Try.runUnderlying96 rfl) ?_
    refine WL.y rfl rfl (yi_assign rfl) ?_
    refine WL.done ?_
    refine NW.next ?_
    refine CW.seq ?_
    have fd1 : Same w w.drew := Only.drew _ _
    obtain ⟨w2, hww2⟩ : ∃ w1, w1 = w.drew := ⟨_, rfl⟩
    rw [← hww2] at fd1
    have F3 := Blk.same Bg fd1
    have F4 := Only.same fr0 fd1
    have sz5 := fd1.size
    refine CW.draw 6 [(0, true), (1, true), (2, true), (3, true), (4, true), (5, true), (6, false), (7, false)] (fun w' => Blk w' g _ _) Try_mixed (by kernel_rfl) (fun _ _ _ _ h => h) hww2 F3 ?_
    refine PL.y rfl rfl rfl (fun w' hS => yi_move rfl) ?_
    refine PL.y rfl rfl rfl (fun w' hS => yi_move rfl) ?_
    refine PL.y rfl rfl rfl (fun w' hS => yi_slice010 Try.runUnderlying96 Try.sizeOf35 rfl rfl (by omega) (by omega)) ?_
    refine PL.as_ (t := 22) (v' := .slice (some ⟨g, 0, none⟩) i cap) rfl (by rw [Int.toNat_natCast]) ?_
    refine PL.y rfl rfl rfl (fun w' hS => yi_move rfl) ?_
    refine PL.y rfl rfl rfl (fun w' hS => yi_move rfl) ?_
    refine PL.y rfl rfl rfl (fun w' hS => yi_slice100 Try.runUnderlying96 Try.sizeOf35 rfl rfl (by omega) (by omega)) ?_
    refine PL.as_ (t := 25) (v' := .slice (cutA (some ⟨g, 0, none⟩) (i + 1) cap 4) (M - i) (cap - (i + 1))) rfl (by rw [show ((i : Int) + 1).toNat = i + 1 by omega, show M + 1 - (i + 1) = M - i by omega]) ?_
    have hseg := Seg.cut (Seg.ofBlk F3 0 cs0 (fun j u hu => by have hj := (List.getElem?_eq_some_iff.1 hu).1; simp [List.getElem?_append_left hj, hu])) (i + 1) cap 4 (by rw [hcl]; omega)
    refine PL.z rfl rfl rfl rfl rfl (ef_appendRoom (z := 4) (news := cs0.drop ((i + 1) * 4)) Try.runUnderlying96 (notInt Try.runUnderlying96) Try.sizeOf35 rfl rfl F3 (by rw [List.length_drop, hcl]; omega) hseg (fun u hu => h1 u (List.mem_of_mem_drop hu)) (by omega) (by simp only [List.size_toArray, List.length_append, List.length_drop, hcl, hrest]; omega)) ?_
    rintro _ w6 ⟨rfl, f7, Bg1, zg⟩
    have F8 := Only.trans F4 f7 (fun i hi hl => hl)
    have sz9 := f7.size
    refine PL.as_ (t := 26) (v' := .slice (some ⟨g, 0, none⟩) M cap) rfl (by rw [show i + (M - i) = M by omega]) ?_
    refine PL.zy rfl rfl rfl rfl rfl (yi_assign rfl) ?_
    refine PL.done ?_
    refine NW.next ?_
    refine CW.seq ?_
    refine CW.region ?_
    refine WL.y rfl rfl (yi_move rfl) ?_
    refine WL.y rfl rfl (yi_move rfl) ?_
    refine WL.y rfl rfl (yi_len Try.runUnderlying96 rfl) ?_
    refine WL.y rfl rfl (yi_move rfl) ?_
    refine WL.y rfl rfl (yi_slice110 Try.runUnderlying96 Try.sizeOf35 rfl rfl rfl (by omega) (by omega) (by omega)) ?_
    refine WL.as_ (t := 31) (v' := .slice (some ⟨g, 0 + M * 4, none⟩) (0 + 1) (cap - M)) rfl (by rw [Int.toNat_natCast, Int.toNat_natCast, cutA_blk (by omega), show M + 1 - M = 0 + 1 by omega]) ?_
    refine WL.e rfl rfl (ef_clear (z := 4) (m := 0) Try.runUnderlying96 Try.zeroValue35 rfl rfl rfl Bg1 (by rw [putAll_size]; simp only [List.size_toArray, List.length_append, hcl, hrest]; omega)) ?_
    rintro _ w10 ⟨rfl, f11, Bg2, zg2⟩
    have F12 := Only.trans F8 f11 (fun i hi hl => hl)
    have sz13 := f11.size
    refine WL.done ?_
    refine NW.next ?_
    refine CW.seq ?_
    refine CW.region ?_
    refine WL.y rfl rfl (yi_move rfl) ?_
    refine WL.y rfl rfl (yi_assign rfl) ?_
    refine WL.done ?_
    refine NW.next ?_
    refine CW.ret ?_
    refine NW.ret1 rfl rfl ?_
    have hfin := Bg2
    rw [Nat.zero_add, Nat.zero_add, del_cells cs0 rest _ i M 4 hcl hi (by simp [Builtin.zeroCells, Value.cells])] at hfin
    exact ⟨_, rfl, rfl, Own.erased (d := dPar) hcl hn hi hrest hcap hc63 (by simp [Builtin.zeroCells, Value.cells]; rfl) (hok g rfl) h1 hK F12 hfin, F12⟩

end Go.Proofs.YtgmjgdjobkmbgaaN
