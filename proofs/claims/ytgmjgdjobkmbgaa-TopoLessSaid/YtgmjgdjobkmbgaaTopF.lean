/- The order of a topology, walked. -/
import Derived.Test.YtgmjgdjobkmbgaaTopE
import Derived.Test.YtgmjgdjobkmbgaaScope
set_option linter.unusedVariables false
set_option linter.unusedSimpArgs false
namespace Go.Proofs.YtgmjgdjobkmbgaaN
open Go.Proofs.YtgmjgdjobkmbgaaL Go.RowKit Go.Proofs
attribute [local irreducible] Ef Yi WL PL CW NW Ret
open Go.Lib Go.Sort
theorem of1_c (e : Ed) (w : World) :
    Ret Try.prog 100 [.agg #[.int .i64 e.frm, .int .i64 e.to]] w fun u w' => u = .int .i64 e.frm ∧ Same w w' := by
  have fr0 : Only (fun _ => False) w w := Only.refl _ _
  refine Ret.go Try.func100 rfl Try.ntmps100 rfl ?_
  refine CW.seq ?_
  refine CW.region ?_
  refine WL.e rfl rfl (ef_box rfl) ?_
  rintro _ w6 ⟨eb, hb_eb, rfl, f3, B4, z_eb⟩
  have F7 := Only.same fr0 f3
  have sz8 := f3.size
  refine WL.y rfl rfl (yi_assign rfl) ?_
  refine WL.done ?_
  refine NW.next ?_
  refine CW.seq ?_
  refine CW.region ?_
  refine WL.y rfl rfl (yi_fieldAddr Try.runUnderlying86 rfl Try.sizeOf3 rfl) ?_
  refine WL.y rfl rfl (yi_loadB Try.isAgg3 rfl (by assumption) rfl) ?_
  refine WL.y rfl rfl (yi_assign rfl) ?_
  refine WL.done ?_
  refine NW.next ?_
  refine CW.ret ?_
  refine NW.ret1 rfl rfl ?_
  exact ⟨_, rfl, rfl, F7⟩

theorem of2_c (e : Ed) (w : World) :
    Ret Try.prog 101 [.agg #[.int .i64 e.frm, .int .i64 e.to]] w fun u w' => u = .int .i64 e.to ∧ Same w w' := by
  have fr0 : Only (fun _ => False) w w := Only.refl _ _
  refine Ret.go Try.func101 rfl Try.ntmps101 rfl ?_
  refine CW.seq ?_
  refine CW.region ?_
  refine WL.e rfl rfl (ef_box rfl) ?_
  rintro _ w6 ⟨eb, hb_eb, rfl, f3, B4, z_eb⟩
  have F7 := Only.same fr0 f3
  have sz8 := f3.size
  refine WL.y rfl rfl (yi_assign rfl) ?_
  refine WL.done ?_
  refine NW.next ?_
  refine CW.seq ?_
  refine CW.region ?_
  refine WL.y rfl rfl (yi_fieldAddr Try.runUnderlying86 rfl Try.sizeOf3 rfl) ?_
  refine WL.y rfl rfl (yi_loadB Try.isAgg3 rfl (by assumption) rfl) ?_
  refine WL.y rfl rfl (yi_assign rfl) ?_
  refine WL.done ?_
  refine NW.next ?_
  refine CW.ret ?_
  refine NW.ret1 rfl rfl ?_
  exact ⟨_, rfl, rfl, F7⟩

theorem both1_c (e : Ed) (fb : Nat) (f : FuncId) (h : Ed → Int) (w : World) (FB : Blk w fb #[.func (.func f) #[] #[]] 136) (hcall : ∀ args w, (callFunc f args).run Try.prog w = .ok (.enter f args) w) (hf : ∀ e w1, Same w w1 → Ret Try.prog f [.agg #[.int .i64 e.frm, .int .i64 e.to]] w1 fun u w2 => u = .int .i64 (h e) ∧ Same w1 w2) :
    Ret Try.prog 98 [.agg #[.int .i64 e.frm, .int .i64 e.to], .pointer (some ⟨fb, 0, none⟩)] w fun u w' => u = .tuple #[.int .i64 (h e), .bool true] ∧ Same w w' := by
  have fr0 : Only (fun _ => False) w w := Only.refl _ _
  refine Ret.go Try.func98 rfl Try.ntmps98 rfl ?_
  refine CW.seq ?_
  refine CW.region ?_
  refine WL.e rfl rfl (ef_box rfl) ?_
  rintro _ w6 ⟨eb, hb_eb, rfl, f3, B4, z_eb⟩
  have F7 := Blk.same FB f3
  have F8 := Only.same fr0 f3
  have sz9 := f3.size
  refine WL.y rfl rfl (yi_assign rfl) ?_
  refine WL.y rfl rfl (yi_assign rfl) ?_
  refine WL.done ?_
  refine NW.next ?_
  refine CW.seq ?_
  refine CW.region ?_
  refine WL.y rfl rfl (yi_loadB Try.isAgg136 rfl (by assumption) rfl) ?_
  refine WL.y rfl rfl (yi_loadW Try.isAgg86 Try.sizeOf86 rfl (by assumption) rfl) ?_
  refine WL.e rfl rfl (ef_callv hcall rfl rfl (hf e _ F8)) ?_
  rintro _ w10 ⟨rfl, f11⟩
  have F12 := Blk.same F7 f11
  have F13 := Only.same F8 f11
  have F14 := Blk.same B4 f11
  have sz15 := f11.size
  refine WL.y rfl rfl (yi_assign rfl) ?_
  refine WL.y rfl rfl (yi_assign rfl) ?_
  refine WL.done ?_
  refine NW.next ?_
  refine CW.ret ?_
  refine NW.ret2 rfl rfl rfl ?_
  exact ⟨_, rfl, rfl, F13⟩

theorem both_c (A : Option Addr) (c : Nat) (L : List Ed) (ok : Nat → Prop) (lb : Nat) (f : FuncId) (h : Ed → Int) (w : World) (LB : Blk w lb #[.slice A L.length c] 83) (R : Row dEd w ok A L) (hok : ∀ k, ok k → k < w.heap.size) (hL : L.length ≤ 1000000) (hcall : ∀ args w, (callFunc f args).run Try.prog w = .ok (.enter f args) w) (hf : ∀ e w1, Ret Try.prog f [.agg #[.int .i64 e.frm, .int .i64 e.to]] w1 fun u w2 => u = .int .i64 (h e) ∧ Same w1 w2) :
    Ret Try.prog 96 [.func (.func f) #[] #[], .pointer (some ⟨lb, 0, none⟩)] w fun u w' => Own dI 3 w' (fun k => w.heap.size ≤ k) u (endsOf L fun e => (h e, true)) ∧ Same w w' := by
  have fr0 : Only (fun _ => False) w w := Only.refl _ _
  refine Ret.go Try.func96 rfl Try.ntmps96 rfl ?_
  refine CW.seq ?_
  refine CW.region ?_
  refine WL.e rfl rfl (ef_box rfl) ?_
  rintro _ w6 ⟨fb, hb_fb, rfl, f3, B4, z_fb⟩
  have F7 := Blk.same LB f3
  have F8 := Row.same (by decide) R f3
  have F9 := Only.same fr0 f3
  have sz10 := f3.size
  refine WL.y rfl rfl (yi_assign rfl) ?_
  refine WL.done ?_
  refine NW.next ?_
  refine CW.seq ?_
  refine CW.region ?_
  refine WL.y rfl rfl (yi_loadB Try.isAgg83 rfl (by assumption) rfl) ?_
  refine WL.y rfl rfl (yi_makeFunc rfl rfl) ?_
  refine WL.e rfl rfl (ef_call Try.call97 rfl (ends_c A c L _ 98 _ (fun e => (h e, true)) _ F8 (fun k hk => by have := hok k hk; omega) hL Try.call98 (fun e w1 hw => both1_c e fb f h w1 (B4.same hw) hcall (fun e w1 _ => hf e w1)))) ?_
  rintro u1 w11 ⟨hO, f12⟩
  have F13 := Blk.same F7 f12
  have F14 := Row.same (by decide) F8 f12
  have F15 := Only.same F9 f12
  have F16 := Blk.same B4 f12
  have sz17 := f12.size
  refine WL.y rfl rfl (yi_assign rfl) ?_
  refine WL.done ?_
  refine NW.next ?_
  refine CW.ret ?_
  refine NW.ret1 rfl rfl ?_
  exact ⟨_, rfl, hO.mono (fun k hk => by omega), F15⟩

theorem ahead_c (e : Ed) (nb bb : Nat) (n : Int) (v : Value) (left : List Int) (ok : Nat → Prop) (w : World) (NB : Blk w nb #[.int .i64 n] 3) (BB : Blk w bb #[v] 49) (O : Own dI 3 w ok v left) :
    Ret Try.prog 105 [.agg #[.int .i64 e.frm, .int .i64 e.to], .pointer (some ⟨nb, 0, none⟩), .pointer (some ⟨bb, 0, none⟩)] w fun u w' => u = .bool (decide (e.to = n) && decide (e.frm ∈ left)) ∧ Same w w' := by
  have fr0 : Only (fun _ => False) w w := Only.refl _ _
  refine Ret.go Try.func105 rfl Try.ntmps105 rfl ?_
  refine CW.seq ?_
  refine CW.region ?_
  refine WL.e rfl rfl (ef_box rfl) ?_
  rintro _ w6 ⟨eb, hb_eb, rfl, f3, B4, z_eb⟩
  have F7 := Blk.same NB f3
  have F8 := Blk.same BB f3
  have F9 := Own.same O f3
  have F10 := Only.same fr0 f3
  have sz11 := f3.size
  refine WL.y rfl rfl (yi_assign rfl) ?_
  refine WL.done ?_
  refine NW.next ?_
  refine CW.seq ?_
  refine CW.region ?_
  refine WL.y rfl rfl (yi_fieldAddr Try.runUnderlying86 rfl Try.sizeOf3 rfl) ?_
  refine WL.y rfl rfl (yi_loadB Try.isAgg3 rfl (by assumption) rfl) ?_
  refine WL.y rfl rfl (yi_loadB Try.isAgg3 rfl (by assumption) rfl) ?_
  refine WL.y rfl rfl (yi_eql rfl rfl) ?_
  refine WL.y rfl rfl (yi_move rfl) ?_
  refine WL.split (t := 9) rfl (fun q_ => ?_) (fun q_ => ?_)
  · try replace q_ := of_decide_eq_true q_
    refine WL.gy rfl rfl rfl rfl rfl (yi_loadB Try.isAgg49 rfl (by assumption) rfl) ?_
    refine WL.gy rfl rfl rfl rfl rfl (yi_fieldAddr Try.runUnderlying86 rfl Try.sizeOf3 rfl) ?_
    refine WL.gy rfl rfl rfl rfl rfl (yi_loadB Try.isAgg3 rfl (by assumption) rfl) ?_
    refine WL.ge rfl rfl rfl rfl rfl (ef_call Try.call78 rfl (contains_c F9)) ?_
    rintro _ w12 ⟨rfl, rfl⟩
    refine WL.y rfl rfl (yi_pickT rfl rfl) ?_
    refine WL.y rfl rfl (yi_assign rfl) ?_
    refine WL.done ?_
    refine NW.next ?_
    refine CW.ret ?_
    refine NW.ret1 rfl rfl ?_
    exact ⟨_, rfl, by simp [q_], F10⟩
  · try replace q_ := of_decide_eq_false q_
    refine WL.no rfl rfl rfl rfl rfl rfl ?_
    refine WL.no rfl rfl rfl rfl rfl rfl ?_
    refine WL.no rfl rfl rfl rfl rfl rfl ?_
    refine WL.no rfl rfl rfl rfl rfl rfl ?_
    refine WL.y rfl rfl (yi_pickF rfl rfl) ?_
    refine WL.y rfl rfl (yi_assign rfl) ?_
    refine WL.done ?_
    refine NW.next ?_
    refine CW.ret ?_
    refine NW.ret1 rfl rfl ?_
    exact ⟨_, rfl, by simp [q_], F10⟩

def hasAhead (L : List Ed) (left : List Int) (n : Int) : Bool := L.any fun e => decide (e.to = n) && decide (e.frm ∈ left)
def firstIdx (L : List Ed) (left : List Int) : Nat → List Int → Option Nat
  | _, [] => none
  | i, n :: r => if hasAhead L left n then firstIdx L left (i + 1) r else some i
def ordLoop (L : List Ed) : Nat → List Int → List Int → Option (List Int)
  | _, [], out => some out
  | 0, _ :: _, _ => none
  | f + 1, n :: r, out => match firstIdx L (n :: r) 0 (n :: r) with
    | none => none
    | some i => ordLoop L f ((n :: r).eraseIdx i) (out ++ [(n :: r).getD i 0])
def nodesOf (L : List Ed) : List Int := Lib.compact (sortI (endsOf L (fun e => (e.frm, true)) ++ endsOf L (fun e => (e.to, true))))
def orderOf (L : List Ed) : Option (List Int) := ordLoop L (nodesOf L).length (nodesOf L) []
theorem firstIdx_found {L : List Ed} {left : List Int} : ∀ (r : List Int) (i0 i : Nat) (n : Int), (∀ j m, j < i → r[j]? = some m → hasAhead L left m = true) → r[i]? = some n → hasAhead L left n = false → firstIdx L left i0 r = some (i0 + i)
  | [], _, _, _, _, h, _ => by simp at h
  | m :: r, i0, 0, n, _, h, hn => by
    simp at h
    subst h
    simp [firstIdx, hn]
  | m :: r, i0, i + 1, n, ha, h, hn => by
    have h1 := ha 0 m (by omega) rfl
    simp only [firstIdx, h1, if_true]
    rw [firstIdx_found r (i0 + 1) i n (fun j m hj hm => ha (j + 1) m (by omega) (by simpa using hm)) (by simpa using h) hn]
    congr 1
    omega
theorem firstIdx_none {L : List Ed} {left : List Int} : ∀ (r : List Int) (i0 : Nat), (∀ m ∈ r, hasAhead L left m = true) → firstIdx L left i0 r = none
  | [], _, _ => rfl
  | m :: r, i0, ha => by
    simp only [firstIdx, ha m (by simp), if_true]
    exact firstIdx_none r (i0 + 1) (fun x hx => ha x (by simp [hx]))
theorem ord_step {L : List Ed} {left out : List Int} {i : Nat} {n : Int} (hi : left[i]? = some n) (h : ∀ j m, j < i → left[j]? = some m → hasAhead L left m = true) (hn : hasAhead L left n = false) : ordLoop L left.length left out = ordLoop L (left.eraseIdx i).length (left.eraseIdx i) (out ++ [n]) := by
  have hlt := (List.getElem?_eq_some_iff.1 hi).1
  have hl : (left.eraseIdx i).length = left.length - 1 := by rw [List.length_eraseIdx, if_pos hlt]
  cases left with
  | nil => simp at hlt
  | cons m r =>
    have hf := firstIdx_found (m :: r) 0 i n h hi hn
    rw [Nat.zero_add] at hf
    rw [hl]
    simp only [List.length_cons, Nat.add_sub_cancel]
    rw [ordLoop, hf]
    simp only [List.getD, hi, Option.getD_some]
theorem ord_stuck {L : List Ed} {left out : List Int} (h0 : 0 < left.length) (h : ∀ m ∈ left, hasAhead L left m = true) : ordLoop L left.length left out = none := by
  cases left with
  | nil => simp at h0
  | cons m r => rw [List.length_cons, ordLoop, firstIdx_none _ _ h]

end Go.Proofs.YtgmjgdjobkmbgaaN
