/- A topology: an edge among edges; what is reached, walked. -/
import Derived.Test.YtgmjgdjobkmbgaaTopB
import Derived.Laws.StructEq
set_option linter.unusedVariables false
set_option linter.unusedSimpArgs false
namespace Go.Proofs.YtgmjgdjobkmbgaaN
open Go.Proofs.YtgmjgdjobkmbgaaL Go.RowKit Go.Proofs
attribute [local irreducible] Ef Yi WL PL CW NW Ret
open Go.Lib Go.Sort
theorem no_step {α : Type} {L : List α} {i : Nat} {x e : α} (hno : ∀ j, j < i → L[j]? ≠ some x) (he : L[i]? = some e) (hne : e ≠ x) : ∀ j, j < i + 1 → L[j]? ≠ some x := by
  intro j hj h
  by_cases h9 : j = i
  · subst h9
    rw [he] at h
    injection h with h
    exact hne h
  · exact hno j (by omega) h
theorem eqEd_run (a b c d : Int) (w : World) : (Op.equalIn 10000 86 (.agg #[.int .i64 a, .int .i64 b]) (.agg #[.int .i64 c, .int .i64 d])).run Try.prog w = .ok (decide (a = c ∧ b = d)) w := by
  have hg : ∀ fs, Try.prog.underlying 86 = some (.struct fs) → Try.prog.fieldsOf 86 = fs := fun fs h => by simp only [Program.fieldsOf, h]
  have h1 := hg _ Try.underlying86
  rw [run_equalIn_agg (d := 9999) _ _ _ _ (by rw [h1]; exact Try.underlying86) Try.stoodInHeld86, h1]
  have e1 : ∀ (x y : Int), (Op.equalIn 9999 3 (.int .i64 x) (.int .i64 y)).run Try.prog w = .ok (x == y) w := fun x y => run_equalIn_int (d := 9998) _ 3 _ _ x y Try.underlying3
  simp [Op.eqFields, part, Try.isAgg3, Try.sizeOf3, e1]
  by_cases h2 : a = c <;> by_cases h3 : b = d <;> simp [h2, h3]
theorem yi_eqEd {n : Nat} {ds : List Deferred} {l : List (Nat × Value)} {w : World} {dst : Option Tmp} {ty t' : TypeId} {p : String} {af : Array Edge} {g : Option (Nat × Bool)} {x y : Operand} {a b c d : Int} (hx : ev l x = some (.agg #[.int .i64 a, .int .i64 b])) (hy : ev l y = some (.agg #[.int .i64 c, .int .i64 d])) :
    Yi Try.prog n ds ⟨dst, .binOp .eql 86 x y t', ty, p, af, g⟩ l (.bool (decide (a = c ∧ b = d))) w := by
  unfold Yi
  intro A ha
  simp [execOp, ha.eval hx, ha.eval hy, run_eqGuard_agg _ _ _ _ _ _ _ Try.eqGuardType86, run_eql_struct, eqEd_run]

theorem index_c (A : Option Addr) (c : Nat) (L : List Ed) (x : Ed) (ok : Nat → Prop) (w : World) (R : Row dEd w ok A L) (hlc : L.length ≤ 9223372036854775806) :
    Ret Try.prog 137 [.slice A L.length c, .agg #[.int .i64 x.frm, .int .i64 x.to]] w fun u w' => ∃ i : Int, u = .int .i64 i ∧ (0 ≤ i ↔ x ∈ L) ∧ Same w w' := by
  have fr0 : Only (fun _ => False) w w := Only.refl _ _
  refine Ret.go Try.func137 rfl Try.ntmps137 rfl ?_
  refine CW.seq ?_
  refine CW.region ?_
  refine WL.e rfl rfl (ef_box rfl) ?_
  rintro _ w6 ⟨xb, hb_xb, rfl, f3, B4, z_xb⟩
  have F7 := Row.same (by decide) R f3
  have F8 := Only.same fr0 f3
  have sz9 := f3.size
  refine WL.y rfl rfl (yi_assign rfl) ?_
  refine WL.done ?_
  refine NW.next ?_
  refine CW.seq ?_
  refine CW.seq ?_
  refine CW.region ?_
  refine WL.y rfl rfl (yi_move rfl) ?_
  refine WL.y rfl rfl (yi_len Try.runUnderlying83 rfl) ?_
  refine WL.y rfl rfl (yi_move rfl) ?_
  refine WL.done ?_
  refine NW.next ?_
  refine CW.block ?_
  refine CW.loop (fun mm a w' => ∃ (i : Nat), mm = L.length - i ∧ i ≤ L.length ∧ Same w w' ∧ Blk w' xb #[.int .i64 x.frm, .int .i64 x.to] 86 ∧ (∀ j, j < i → L[j]? ≠ some x) ∧ Env 19 [] [(0, .slice A L.length c), (3, .pointer (some ⟨xb, 0, none⟩)), (7, .int .i64 L.length), (8, .int .i64 i)] a) (L.length) ?_ ?_
  · exact fun a ha => ⟨0, rfl, by omega, F8, B4, fun j hj => by omega, ha.sub ⟨rfl, rfl, rfl, rfl, trivial⟩⟩
  · rintro mm a w10 ⟨i, rfl, hi, fr, XB, hno, ha⟩
    refine CW.at ha ?_
    have Rk := Row.same (by decide) R fr
    refine CW.seq ?_
    refine CW.region ?_
    refine WL.y rfl rfl (yi_lss rfl rfl) ?_
    refine WL.done ?_
    refine NW.next ?_
    refine CW.seq ?_
    refine CW.cond rfl (fun q_L => ?_) (fun q_L => ?_)
    · try replace q_L := of_decide_eq_true q_L
      obtain ⟨e, he⟩ : ∃ e, L[i]? = some e := ⟨L[i]'(by omega), List.getElem?_eq_getElem (by omega)⟩
      obtain ⟨ad, hA, hb, E⟩ := ed_at Rk he
      subst hA
      refine CW.skip ?_
      refine NW.next ?_
      refine CW.seq ?_
      refine CW.block ?_
      refine CW.seq ?_
      refine CW.region ?_
      refine WL.y rfl rfl (yi_move rfl) ?_
      refine WL.y rfl rfl (yi_assign rfl) ?_
      refine WL.done ?_
      refine NW.next ?_
      refine CW.seq ?_
      have fd11 : Same w10 w10.drew := Only.drew _ _
      obtain ⟨w12, hww12⟩ : ∃ wz, wz = w10.drew := ⟨_, rfl⟩
      rw [← hww12] at fd11
      have F13 := Only.same fr fd11
      have F14 := Blk.same XB fd11
      have F15 := Row.same (by decide) Rk fd11
      have F16 := Seg.same E fd11
      have sz17 := fd11.size
      refine CW.draw 6 [(0, true), (1, true), (2, true), (3, true), (4, true), (5, true)] (fun w' => Blk w' xb _ _ ∧ Seg w' (some (ad.add (i * 2))) [.int .i64 e.frm, .int .i64 e.to]) Try_mixed (by kernel_rfl) (fun _ _ _ _ h => h) hww12 ⟨F14, F16⟩ ?_
      refine PL.y rfl rfl rfl (fun w' hS => by first | exact yi_loadW Try.isAgg86 Try.sizeOf86 rfl hS.1 rfl) ?_
      refine PL.y rfl rfl rfl (fun w' hS => yi_move rfl) ?_
      refine PL.y rfl rfl rfl (fun w' hS => yi_move rfl) ?_
      refine PL.y rfl rfl rfl (fun w' hS => yi_indexAddr Try.runUnderlying83 Try.sizeOf86 rfl rfl (by omega) (by omega)) ?_
      refine PL.as_ (t := 14) (v' := .pointer (some (ad.add (i * 2)))) rfl (by rw [Int.toNat_natCast]) ?_
      refine PL.y rfl rfl rfl (fun w' hS => yi_loadA (cs := [.int .i64 e.frm, .int .i64 e.to]) Try.isAgg86 Try.sizeOf86 rfl rfl (Seg.get hS.2)) ?_
      refine PL.y rfl rfl rfl (fun w' hS => yi_eqEd rfl rfl) ?_
      refine PL.done ?_
      refine NW.next ?_
      refine CW.cond rfl (fun q_LT => ?_) (fun q_LT => ?_)
      · try replace q_LT := of_decide_eq_true q_LT
        refine CW.seq ?_
        refine CW.region ?_
        refine WL.y rfl rfl (yi_move rfl) ?_
        refine WL.y rfl rfl (yi_assign rfl) ?_
        refine WL.done ?_
        refine NW.next ?_
        refine CW.ret ?_
        refine NW.blockRet ?_
        refine NW.thenRet ?_
        refine NW.thenRet ?_
        refine NW.blockRet ?_
        refine NW.thenRet ?_
        refine NW.ret1 rfl rfl ?_
        refine ⟨_, rfl, _, rfl, ⟨fun _ => ?_, fun _ => by omega⟩, F13⟩
        have : e = x := by cases e; cases x; simp_all
        exact this ▸ List.mem_of_getElem? he
      · try replace q_LT := of_decide_eq_false q_LT
        refine CW.skip ?_
        refine NW.blockEnd ?_
        refine NW.next ?_
        refine CW.region ?_
        refine WL.y rfl rfl (yi_addI rfl rfl (by omega) (by omega)) ?_
        refine WL.as_ (t := 18) (v' := .int .i64 ((i + 1 : Nat) : Int)) rfl (congrArg (Value.int .i64) (by omega)) ?_
        refine WL.y rfl rfl (yi_move rfl) ?_
        refine WL.done ?_
        refine NW.round (L.length - (i + 1)) (by omega) ?_
        exact fun a ha => ⟨i + 1, rfl, by omega, F13, F14, no_step hno he (fun h => q_LT (by rw [h]; exact ⟨rfl, rfl⟩)), ha.sub ⟨rfl, rfl, rfl, rfl, trivial⟩⟩
    · try replace q_L := of_decide_eq_false q_L
      refine CW.exit ?_
      refine NW.thenExit ?_
      refine NW.thenExit ?_
      refine NW.blockHit ?_
      refine NW.next ?_
      refine CW.seq ?_
      refine CW.region ?_
      refine WL.y rfl rfl (yi_assign rfl) ?_
      refine WL.done ?_
      refine NW.next ?_
      refine CW.ret ?_
      refine NW.ret1 rfl rfl ?_
      refine ⟨_, rfl, _, rfl, ⟨fun h => by omega, fun h => ?_⟩, fr⟩
      obtain ⟨j, hj, e⟩ := List.getElem_of_mem h
      exact absurd (by rw [List.getElem?_eq_getElem hj, e]) (hno j (by omega))

theorem containsEd_c (A : Option Addr) (c : Nat) (L : List Ed) (x : Ed) (ok : Nat → Prop) (w : World) (R : Row dEd w ok A L) (hlc : L.length ≤ 9223372036854775806) :
    Ret Try.prog 110 [.slice A L.length c, .agg #[.int .i64 x.frm, .int .i64 x.to]] w fun u w' => u = .bool (decide (x ∈ L)) ∧ Same w w' := by
  have fr0 : Only (fun _ => False) w w := Only.refl _ _
  refine Ret.go Try.func110 rfl Try.ntmps110 rfl ?_
  refine CW.seq ?_
  refine CW.region ?_
  refine WL.e rfl rfl (ef_box rfl) ?_
  rintro _ w6 ⟨xb, hb_xb, rfl, f3, B4, z_xb⟩
  have F7 := Row.same (by decide) R f3
  have F8 := Only.same fr0 f3
  have sz9 := f3.size
  refine WL.y rfl rfl (yi_assign rfl) ?_
  refine WL.done ?_
  refine NW.next ?_
  refine CW.seq ?_
  refine CW.region ?_
  refine WL.y rfl rfl (yi_move rfl) ?_
  refine WL.y rfl rfl (yi_loadW Try.isAgg86 Try.sizeOf86 rfl (by assumption) rfl) ?_
  refine WL.e rfl rfl (ef_call Try.call137 rfl (index_c A c L x _ _ F7 hlc)) ?_
  rintro _ w10 ⟨i, rfl, hi, f11⟩
  have F12 := Row.same (by decide) F7 f11
  have F13 := Only.same F8 f11
  have F14 := Blk.same B4 f11
  have sz15 := f11.size
  refine WL.y rfl rfl (yi_geq rfl rfl) ?_
  refine WL.y rfl rfl (yi_assign rfl) ?_
  refine WL.done ?_
  refine NW.next ?_
  refine CW.ret ?_
  refine NW.ret1 rfl rfl ?_
  refine ⟨_, rfl, congrArg Value.bool ?_, F13⟩
  rw [decide_eq_decide]; exact hi

theorem edge_c (t : Tp) (Au Ah : Option Addr) (cu ch : Nat) (ok : Nat → Prop) (w : World) (R : Row dEds w ok Ah t.hops) (hc : t.hops.length ≤ ch) (hm : ch ≤ 9223372036854775807) (flow a b : Int) (hL : (edgesOf t flow).length ≤ 1000000) :
    Ret Try.prog 40 [.agg #[.int .u64 t.epoch, .slice Au t.up.length cu, .slice Ah t.hops.length ch], .int .i64 flow, .int .i64 a, .int .i64 b] w fun u w' => u = .bool (decide (⟨a, b⟩ ∈ edgesOf t flow)) ∧ Same w w' := by
  have fr0 : Only (fun _ => False) w w := Only.refl _ _
  refine Ret.go Try.func40 rfl Try.ntmps40 rfl ?_
  refine CW.seq ?_
  refine CW.region ?_
  refine WL.e rfl rfl (ef_box rfl) ?_
  rintro _ w6 ⟨tb, hb_tb, rfl, f3, B4, z_tb⟩
  have F7 := Row.same (by decide) R f3
  have F8 := Only.same fr0 f3
  have sz9 := f3.size
  refine WL.y rfl rfl (yi_assign rfl) ?_
  refine WL.done ?_
  refine NW.next ?_
  refine CW.seq ?_
  refine CW.region ?_
  refine WL.y rfl rfl (yi_loadW Try.isAgg60 Try.sizeOf60 rfl (by assumption) rfl) ?_
  refine WL.y rfl rfl (yi_move rfl) ?_
  refine WL.e rfl rfl (ef_call Try.call107 rfl (edges_c t Au Ah cu ch _ _ F7 hc hm flow)) ?_
  rintro _ w10 ⟨Ae, ce, rfl, hce, hme, RE12, f11⟩
  have F13 := Row.same (by decide) F7 f11
  have F14 := Only.same F8 f11
  have F15 := Blk.same B4 f11
  have sz16 := f11.size
  refine WL.y rfl rfl (yi_move rfl) ?_
  refine WL.y rfl rfl (yi_move rfl) ?_
  refine WL.y rfl rfl (yi_buildS Try.runUnderlying86 Try.zeroValue86 rfl (fun _ => by kernel_rfl)) ?_
  refine WL.e rfl rfl (ef_call Try.call110 rfl (containsEd_c Ae ce _ ⟨a, b⟩ _ _ RE12 (by omega))) ?_
  rintro _ w17 ⟨rfl, f18⟩
  have F19 := Row.same (by decide) F13 f18
  have F20 := Only.same F14 f18
  have F21 := Blk.same F15 f18
  have F22 := Row.same (by decide) RE12 f18
  have sz23 := f18.size
  refine WL.y rfl rfl (yi_assign rfl) ?_
  refine WL.done ?_
  refine NW.next ?_
  refine CW.ret ?_
  refine NW.ret1 rfl rfl ?_
  exact ⟨_, rfl, rfl, F20⟩

theorem int_at {w : World} {ok : Nat → Prop} {A : Option Addr} {L : List Int} (R : Row dI w ok A L) {k : Nat} {x : Int} (hx : L[k]? = some x) : ∃ ad, A = some ad ∧ w.cell? (ad.add k) = some (.int .i64 x) := by
  obtain ⟨ad, cs, hA, hb, hK, hl, hc⟩ := R.get hx
  have h1 : cs = [.int .i64 x] := hK
  subst h1
  refine ⟨ad, hA, ?_⟩
  have := hc 0 _ rfl
  have e : k * dI.sz + 0 = k := by show k * 1 + 0 = k; omega
  rwa [e] at this

theorem has_c (A : Option Addr) (c : Nat) (L : List Int) (x : Int) (ok : Nat → Prop) (w : World) (R : Row dI w ok A L) (hlc : L.length ≤ 9223372036854775806) :
    Ret Try.prog 35 [.slice A L.length c, .int .i64 x] w fun u w' => u = .bool (decide (x ∈ L)) ∧ w = w' := by
  refine Ret.go Try.func35 rfl Try.ntmps35 rfl ?_
  refine CW.seq ?_
  refine CW.region ?_
  refine WL.y rfl rfl (yi_assign rfl) ?_
  refine WL.done ?_
  refine NW.next ?_
  refine CW.seq ?_
  refine CW.seq ?_
  refine CW.region ?_
  refine WL.y rfl rfl (yi_assign rfl) ?_
  refine WL.done ?_
  refine NW.next ?_
  refine CW.block ?_
  refine CW.loop (fun mm a w' => ∃ (i : Nat), mm = L.length - i ∧ i ≤ L.length ∧ w = w' ∧ (∀ j, j < i → L[j]? ≠ some x) ∧ Env 18 [] [(0, .slice A L.length c), (1, .int .i64 x), (5, .int .i64 i)] a) (L.length) ?_ ?_
  · exact fun a ha => ⟨0, rfl, by omega, rfl, fun j hj => by omega, ha.sub ⟨rfl, rfl, rfl, trivial⟩⟩
  · rintro mm a w1 ⟨i, rfl, hi, rfl, hno, ha⟩
    refine CW.at ha ?_
    refine CW.seq ?_
    refine CW.seq ?_
    refine CW.region ?_
    refine WL.y rfl rfl (yi_move rfl) ?_
    refine WL.y rfl rfl (yi_move rfl) ?_
    refine WL.y rfl rfl (yi_len Try.runUnderlying49 rfl) ?_
    refine WL.y rfl rfl (yi_lss rfl rfl) ?_
    refine WL.done ?_
    refine NW.next ?_
    refine CW.cond rfl (fun q_L => ?_) (fun q_L => ?_)
    · try replace q_L := of_decide_eq_true q_L
      obtain ⟨e, he⟩ : ∃ e, L[i]? = some e := ⟨L[i]'(by omega), List.getElem?_eq_getElem (by omega)⟩
      obtain ⟨ad, hA, hcell⟩ := int_at R he
      subst hA
      refine CW.skip ?_
      refine NW.next ?_
      refine CW.seq ?_
      refine CW.block ?_
      refine CW.seq ?_
      refine CW.region ?_
      refine WL.y rfl rfl (yi_move rfl) ?_
      refine WL.y rfl rfl (yi_move rfl) ?_
      refine WL.y rfl rfl (yi_indexAddr Try.runUnderlying49 Try.sizeOf3 rfl rfl (by omega) (by omega)) ?_
      refine WL.as_ (t := 14) (v' := .pointer (some (ad.add i))) rfl (by rw [Int.toNat_natCast, Nat.mul_one]) ?_
      refine WL.y rfl rfl (yi_load1 Try.isAgg3 rfl hcell) ?_
      refine WL.y rfl rfl (yi_move rfl) ?_
      refine WL.y rfl rfl (yi_eql rfl rfl) ?_
      refine WL.done ?_
      refine NW.next ?_
      refine CW.cond rfl (fun q_LT => ?_) (fun q_LT => ?_)
      · try replace q_LT := of_decide_eq_true q_LT
        refine CW.seq ?_
        refine CW.region ?_
        refine WL.y rfl rfl (yi_assign rfl) ?_
        refine WL.done ?_
        refine NW.next ?_
        refine CW.ret ?_
        refine NW.blockRet ?_
        refine NW.thenRet ?_
        refine NW.thenRet ?_
        refine NW.blockRet ?_
        refine NW.thenRet ?_
        refine NW.ret1 rfl rfl ?_
        have hin : x ∈ L := by rw [← q_LT]; exact List.mem_of_getElem? he
        exact ⟨_, rfl, by simp [hin], rfl⟩
      · try replace q_LT := of_decide_eq_false q_LT
        refine CW.skip ?_
        refine NW.blockEnd ?_
        refine NW.next ?_
        refine CW.region ?_
        refine WL.y rfl rfl (yi_move rfl) ?_
        refine WL.y rfl rfl (yi_addI rfl rfl (by omega) (by omega)) ?_
        refine WL.as_ (t := 11) (v' := .int .i64 ((i + 1 : Nat) : Int)) rfl (congrArg (Value.int .i64) (by omega)) ?_
        refine WL.y rfl rfl (yi_assign rfl) ?_
        refine WL.done ?_
        refine NW.round (L.length - (i + 1)) (by omega) ?_
        exact fun a ha => ⟨i + 1, rfl, by omega, rfl, no_step hno he q_LT, ha.sub ⟨rfl, rfl, rfl, trivial⟩⟩
    · try replace q_L := of_decide_eq_false q_L
      refine CW.exit ?_
      refine NW.thenExit ?_
      refine NW.thenExit ?_
      refine NW.blockHit ?_
      refine NW.next ?_
      refine CW.seq ?_
      refine CW.region ?_
      refine WL.y rfl rfl (yi_assign rfl) ?_
      refine WL.done ?_
      refine NW.next ?_
      refine CW.ret ?_
      refine NW.ret1 rfl rfl ?_
      have hin : ¬ x ∈ L := fun h => by obtain ⟨j, hj, e⟩ := List.getElem_of_mem h; exact absurd (by rw [List.getElem?_eq_getElem hj, e]) (hno j (by omega))
      exact ⟨_, rfl, by simp [hin], rfl⟩

end Go.Proofs.YtgmjgdjobkmbgaaN
