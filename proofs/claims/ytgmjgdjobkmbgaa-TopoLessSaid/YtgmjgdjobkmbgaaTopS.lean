/- Copies of rows; Copy, walked. -/
import Derived.Test.YtgmjgdjobkmbgaaTopL
import Derived.Test.YtgmjgdjobkmbgaaDown
import Derived.Test.YtgmjgdjobkmbgaaTwo
set_option linter.unusedVariables false
set_option linter.unusedSimpArgs false
namespace Go.Proofs.YtgmjgdjobkmbgaaN
open Go.Proofs.YtgmjgdjobkmbgaaL Go.RowKit Go.Proofs
attribute [local irreducible] Ef Yi WL PL CW NW Ret
open Go.Lib Go.Sort
theorem ownBl {w : World} {ok : Nat → Prop} {v : Value} {L : List Bool} (h : Own dBool 4 w ok v L) : Own dBool 4 w (fun k => v.ownBlock = some k) v L := by
  obtain ⟨cs, ho, hb, h1, hK⟩ := h
  exact ⟨cs, ho, fun k hk => hk, h1, fun j x hx => hK j x hx⟩
theorem Row_none {α : Type} {d : Dt α} {w : World} {ok : Nat → Prop} {A : Option Addr} {xs : List α} (h : Row d w ok A xs) (hA : A.isNone = true) : xs = [] := by
  rcases h with h | ⟨ad, rfl, _⟩
  · exact h
  · simp at hA
theorem new_of {w : World} {a b : Value} {m : Nat} (h : a.ownBlock = b.ownBlock ∨ a.ownBlock = some w.heap.size) (hb : ∀ k, b.ownBlock = some k → m ≤ k) (hw : m ≤ w.heap.size) : ∀ k, a.ownBlock = some k → m ≤ k := fun k hk => by
  rcases h with h | h
  · exact hb k (h ▸ hk)
  · rw [h] at hk; injection hk with hk; omega

theorem cloneB_c (A : Option Addr) (c : Nat) (xs : List Bool) (ok : Nat → Prop) (w : World) (R : Row dBool w ok A xs) (hok : ∀ k, ok k → k < w.heap.size) (hb : xs.length ≤ 1000000) :
    Ret Try.prog 111 [.slice A xs.length c] w fun u w' => Own dBool 4 w' (fun k => w.heap.size ≤ k) u xs ∧ Same w w' := by
  have fr0 : Only (fun _ => False) w w := Only.refl _ _
  refine Ret.go Try.func111 rfl Try.ntmps111 rfl ?_
  refine CW.seq ?_
  refine CW.region ?_
  refine WL.y rfl rfl (yi_assign rfl) ?_
  refine WL.done ?_
  refine NW.next ?_
  refine CW.seq ?_
  refine CW.seq ?_
  refine CW.region ?_
  refine WL.y rfl rfl (yi_move rfl) ?_
  refine WL.y rfl rfl (yi_eqlNilSl Try.runUnderlying57 rfl rfl) ?_
  refine WL.done ?_
  refine NW.next ?_
  refine CW.cond rfl (fun q_ => ?_) (fun q_ => ?_)
  · try replace q_ := of_decide_eq_true q_
    refine CW.seq ?_
    refine CW.region ?_
    refine WL.y rfl rfl (yi_assign rfl) ?_
    refine WL.done ?_
    refine NW.next ?_
    refine CW.ret ?_
    refine NW.thenRet ?_
    refine NW.ret1 rfl rfl ?_
    obtain rfl := Row_none R q_
    exact ⟨_, rfl, Own.nil _ _ _ _, fr0⟩
  · try replace q_ := of_decide_eq_false q_
    refine CW.skip ?_
    refine NW.next ?_
    refine CW.seq ?_
    refine CW.region ?_
    refine WL.e rfl rfl (ef_buildSlice Try.runUnderlying57 Try.sizeOf4 Try.zeroValue4 rfl (fun _ => by kernel_rfl)) ?_
    rintro _ w6 ⟨b, hb_b, rfl, f3, B4, z_b⟩
    have F7 := Row.same (by decide) R f3
    have F8 := Only.same fr0 f3
    have sz9 := f3.size
    refine WL.y rfl rfl (yi_move rfl) ?_
    refine WL.e rfl rfl (ef_appendOwn (k := xs.length) dBool Try.runUnderlying57 (notInt Try.runUnderlying57) Try.typeInfo4 Try.zeroValue4 rfl rfl rfl rfl (Own.emptyD (ok := fun k => w.heap.size ≤ k) B4 (by omega)) rfl F7 (by intro k hk hok' he; have he : b = k := (by simpa [Value.ownBlock] using he); have := hok k hok'; omega) (by decide) (by simp only [List.length_nil]; omega) (by show (0 + xs.length) * 1 ≤ _; omega)) ?_
    rintro u1 w10 ⟨hO, f11, hu⟩
    have F12 := Only.trans F8 f11 (fun i hi hl => by have hl : b = i := (by simpa [Value.ownBlock] using hl); omega)
    have sz13 := f11.size
    have hnew : ∀ k, u1.ownBlock = some k → w.heap.size ≤ k := new_of hu (fun k hk => by have hk : b = k := (by simpa [Value.ownBlock] using hk); omega) (by omega)
    refine WL.y rfl rfl (yi_assign rfl) ?_
    refine WL.done ?_
    refine NW.next ?_
    refine CW.ret ?_
    refine NW.ret1 rfl rfl ?_
    exact ⟨_, rfl, (ownBl hO).mono hnew, F12⟩

theorem cloneE_c (A : Option Addr) (c : Nat) (xs : List Ed) (ok : Nat → Prop) (w : World) (R : Row dEd w ok A xs) (hok : ∀ k, ok k → k < w.heap.size) (hb : xs.length ≤ 1000000) :
    Ret Try.prog 113 [.slice A xs.length c] w fun u w' => Own dEd 86 w' (fun k => w.heap.size ≤ k) u xs ∧ Same w w' := by
  have fr0 : Only (fun _ => False) w w := Only.refl _ _
  refine Ret.go Try.func113 rfl Try.ntmps113 rfl ?_
  refine CW.seq ?_
  refine CW.region ?_
  refine WL.y rfl rfl (yi_assign rfl) ?_
  refine WL.done ?_
  refine NW.next ?_
  refine CW.seq ?_
  refine CW.seq ?_
  refine CW.region ?_
  refine WL.y rfl rfl (yi_move rfl) ?_
  refine WL.y rfl rfl (yi_eqlNilSl Try.runUnderlying83 rfl rfl) ?_
  refine WL.done ?_
  refine NW.next ?_
  refine CW.cond rfl (fun q_ => ?_) (fun q_ => ?_)
  · try replace q_ := of_decide_eq_true q_
    refine CW.seq ?_
    refine CW.region ?_
    refine WL.y rfl rfl (yi_assign rfl) ?_
    refine WL.done ?_
    refine NW.next ?_
    refine CW.ret ?_
    refine NW.thenRet ?_
    refine NW.ret1 rfl rfl ?_
    obtain rfl := Row_none R q_
    exact ⟨_, rfl, Own.nil _ _ _ _, fr0⟩
  · try replace q_ := of_decide_eq_false q_
    refine CW.skip ?_
    refine NW.next ?_
    refine CW.seq ?_
    refine CW.region ?_
    refine WL.e rfl rfl (ef_buildSlice Try.runUnderlying83 Try.sizeOf86 Try.zeroValue86 rfl (fun _ => by kernel_rfl)) ?_
    rintro _ w6 ⟨b, hb_b, rfl, f3, B4, z_b⟩
    have F7 := Row.same (by decide) R f3
    have F8 := Only.same fr0 f3
    have sz9 := f3.size
    refine WL.y rfl rfl (yi_move rfl) ?_
    refine WL.e rfl rfl (ef_appendOwn (k := xs.length) dEd Try.runUnderlying83 (notInt Try.runUnderlying83) Try.typeInfo86 Try.zeroValue86 rfl rfl rfl rfl (Own.emptyD (ok := fun k => w.heap.size ≤ k) B4 (by omega)) rfl F7 (by intro k hk hok' he; have he : b = k := (by simpa [Value.ownBlock] using he); have := hok k hok'; omega) (by decide) (by simp only [List.length_nil]; omega) (by show (0 + xs.length) * 16 ≤ _; omega)) ?_
    rintro u1 w10 ⟨hO, f11, hu⟩
    have F12 := Only.trans F8 f11 (fun i hi hl => by have hl : b = i := (by simpa [Value.ownBlock] using hl); omega)
    have sz13 := f11.size
    have hnew : ∀ k, u1.ownBlock = some k → w.heap.size ≤ k := new_of hu (fun k hk => by have hk : b = k := (by simpa [Value.ownBlock] using hk); omega) (by omega)
    refine WL.y rfl rfl (yi_assign rfl) ?_
    refine WL.done ?_
    refine NW.next ?_
    refine CW.ret ?_
    refine NW.ret1 rfl rfl ?_
    exact ⟨_, rfl, (ownE hO).mono hnew, F12⟩

theorem cloneH_c (A : Option Addr) (c : Nat) (xs : List (List Ed)) (ok : Nat → Prop) (w : World) (R : Row dEds w ok A xs) (hok : ∀ k, ok k → k < w.heap.size) (hb : xs.length ≤ 1000000) :
    Ret Try.prog 112 [.slice A xs.length c] w fun u w' => Own dEds 83 w' (fun k => ok k ∨ w.heap.size ≤ k) u xs ∧ (∀ k, u.ownBlock = some k → w.heap.size ≤ k) ∧ Same w w' := by
  have fr0 : Only (fun _ => False) w w := Only.refl _ _
  refine Ret.go Try.func112 rfl Try.ntmps112 rfl ?_
  refine CW.seq ?_
  refine CW.region ?_
  refine WL.y rfl rfl (yi_assign rfl) ?_
  refine WL.done ?_
  refine NW.next ?_
  refine CW.seq ?_
  refine CW.seq ?_
  refine CW.region ?_
  refine WL.y rfl rfl (yi_move rfl) ?_
  refine WL.y rfl rfl (yi_eqlNilSl Try.runUnderlying58 rfl rfl) ?_
  refine WL.done ?_
  refine NW.next ?_
  refine CW.cond rfl (fun q_ => ?_) (fun q_ => ?_)
  · try replace q_ := of_decide_eq_true q_
    refine CW.seq ?_
    refine CW.region ?_
    refine WL.y rfl rfl (yi_assign rfl) ?_
    refine WL.done ?_
    refine NW.next ?_
    refine CW.ret ?_
    refine NW.thenRet ?_
    refine NW.ret1 rfl rfl ?_
    obtain rfl := Row_none R q_
    exact ⟨_, rfl, Own.nil _ _ _ _, fun k hk => by simp [Value.ownBlock] at hk, fr0⟩
  · try replace q_ := of_decide_eq_false q_
    refine CW.skip ?_
    refine NW.next ?_
    refine CW.seq ?_
    refine CW.region ?_
    refine WL.e rfl rfl (ef_buildSlice Try.runUnderlying58 Try.sizeOf83 Try.zeroValue83 rfl (fun _ => by kernel_rfl)) ?_
    rintro _ w6 ⟨b, hb_b, rfl, f3, B4, z_b⟩
    have F7 := Row.same (by decide) R f3
    have F8 := Only.same fr0 f3
    have sz9 := f3.size
    refine WL.y rfl rfl (yi_move rfl) ?_
    refine WL.e rfl rfl (ef_appendOwn (k := xs.length) dEds Try.runUnderlying58 (notInt Try.runUnderlying58) Try.typeInfo83 Try.zeroValue83 rfl rfl rfl rfl (Own.emptyD (ok := fun k => w.heap.size ≤ k) B4 (by omega)) rfl F7 (by intro k hk hok' he; have he : b = k := (by simpa [Value.ownBlock] using he); have := hok k hok'; omega) (by decide) (by simp only [List.length_nil]; omega) (by show (0 + xs.length) * 24 ≤ _; omega)) ?_
    rintro u1 w10 ⟨hO, f11, hu⟩
    have F12 := Only.trans F8 f11 (fun i hi hl => by have hl : b = i := (by simpa [Value.ownBlock] using hl); omega)
    have sz13 := f11.size
    have hnew : ∀ k, u1.ownBlock = some k → w.heap.size ≤ k := new_of hu (fun k hk => by have hk : b = k := (by simpa [Value.ownBlock] using hk); omega) (by omega)
    refine WL.y rfl rfl (yi_assign rfl) ?_
    refine WL.done ?_
    refine NW.next ?_
    refine CW.ret ?_
    refine NW.ret1 rfl rfl ?_
    exact ⟨_, rfl, hO.mono (fun k hk => by rcases hk with (hk | hk) | hk <;> first | exact .inl hk | exact .inr (by omega)), hnew, F12⟩

/-- The row of hops while the rows in it are copied. -/
def cD (i j : Nat) : Dt (List Ed) := if j < i then dOwn dEd 86 else dEds
def cOk (W xb : Nat) (ok : Nat → Prop) (g i j k : Nat) : Prop := (if j < i then (W ≤ k ∧ k ≠ xb) else (ok k ∨ (W ≤ k ∧ k ≠ xb))) ∧ k ≠ g
theorem cOk_le {W xb g i j k : Nat} {ok : Nat → Prop} (h : cOk W xb ok g i j k) : (ok k ∨ (W ≤ k ∧ k ≠ xb)) ∧ k ≠ g := by
  unfold cOk at h
  refine ⟨?_, h.2⟩
  have := h.1
  split at this
  · exact .inr this
  · exact this
theorem cK_step {w : World} {W xb g i j : Nat} {ok : Nat → Prop} {x : List Ed} {v : Value} (hj : j ≠ i) (hk : (cD i j).K w (cOk W xb ok g i j) x [v]) : (cD (i + 1) j).K w (cOk W xb ok g (i + 1) j) x [v] := by
  have hiff : (j < i + 1) = (j < i) := propext ⟨fun h => by omega, fun h => by omega⟩
  have e1 : cD (i + 1) j = cD i j := by unfold cD; simp only [hiff]
  have e2 : cOk W xb ok g (i + 1) j = cOk W xb ok g i j := by funext k; unfold cOk; simp only [hiff]
  rw [e1, e2]
  exact hk
theorem cK_all {w : World} {W xb g i n j : Nat} {ok : Nat → Prop} {x : List Ed} {v : Value} (hj : j < i) (hk : (cD i j).K w (cOk W xb ok g i j) x [v]) (hn : n ≤ W) : (dOwn dEd 86).K w (fun k => n ≤ k ∧ k ≠ g) x [v] := by
  unfold cD cOk at hk
  simp only [hj, if_true] at hk
  exact (dOwn dEd 86).mono (fun k hk => ⟨by omega, hk.2⟩) hk

theorem set_same {α : Type} {xs : List α} {i : Nat} {x : α} (h : xs[i]? = some x) : xs.set i x = xs := by
  obtain ⟨hi, e⟩ := List.getElem?_eq_some_iff.1 h
  apply List.ext_getElem?
  intro j
  by_cases hj : j = i
  · subst hj; rw [List.getElem?_set_self hi, h]
  · rw [List.getElem?_set_ne (fun e => hj e.symm)]

theorem copy_c (t : Tp) (Au Ah : Option Addr) (cu ch : Nat) (ok : Nat → Prop) (w : World) (RU : Row dBool w ok Au t.up) (R : Row dEds w ok Ah t.hops) (hok : ∀ k, ok k → k < w.heap.size) (hlu : t.up.length ≤ 1000000) (hlh : t.hops.length ≤ 1000000) (hli : ∀ l ∈ t.hops, l.length ≤ 1000000) (h0 : 0 < t.hops.length) :
    Ret Try.prog 41 [.agg #[.int .u64 t.epoch, .slice Au t.up.length cu, .slice Ah t.hops.length ch]] w fun u w' => ∃ Au1 cu1 g cap, u = .agg #[.int .u64 t.epoch, .slice Au1 t.up.length cu1, .slice (some ⟨g, 0, none⟩) t.hops.length cap] ∧ t.up.length ≤ cu1 ∧ cu1 ≤ 9223372036854775807 ∧ Row dBool w' (fun k => w.heap.size ≤ k ∧ k ≠ g) Au1 t.up ∧ w.heap.size ≤ g ∧ Sls w' g cap 83 (fun _ => dOwn dEd 86) (fun _ k => w.heap.size ≤ k ∧ k ≠ g) t.hops ∧ Same w w' := by
  have fr0 : Only (fun _ => False) w w := Only.refl _ _
  refine Ret.go Try.func41 rfl Try.ntmps41 rfl ?_
  refine CW.seq ?_
  refine CW.region ?_
  refine WL.e rfl rfl (ef_box rfl) ?_
  rintro _ w6 ⟨tb, hb_tb, rfl, f3, B4, z_tb⟩
  have F7 := Row.same (by decide) RU f3
  have F8 := Row.same (by decide) R f3
  have F9 := Only.same fr0 f3
  have sz10 := f3.size
  have B11 : Blk w6 tb #[.int .u64 t.epoch, .slice Au t.up.length cu, .slice Ah t.hops.length ch] 60 := B4
  clear B4
  refine WL.e rfl rfl (ef_alloc Try.zeroValue60) ?_
  rintro _ w17 ⟨rb, hb_rb, rfl, f14, B15, z_rb⟩
  have F18 := Row.same (by decide) F7 f14
  have F19 := Row.same (by decide) F8 f14
  have F20 := Only.same F9 f14
  have F21 := Blk.same B11 f14
  clear F7 F8 F9
  have sz22 := f14.size
  have B23 : Blk w17 rb #[.int .u64 0, .slice none 0 0, .slice none 0 0] 60 := B15
  clear B15
  refine WL.done ?_
  refine NW.next ?_
  refine CW.seq ?_
  have fd24 : Same w17 w17.drew := Only.drew _ _
  obtain ⟨w25, hww25⟩ : ∃ wz, wz = w17.drew := ⟨_, rfl⟩
  rw [← hww25] at fd24
  have F26 := Row.same (by decide) F18 fd24
  have F27 := Row.same (by decide) F19 fd24
  have F28 := Only.same F20 fd24
  have F29 := Blk.same F21 fd24
  have F30 := Blk.same B23 fd24
  clear F18 F19 F20 F21
  have sz31 := fd24.size
  refine CW.each 11 (fun w' => Blk w' tb _ _) Try_mixed (by kernel_rfl) (fun _ _ _ _ h => h) hww25 F29 ?_
  refine AG.y (i := 0) rfl rfl rfl (by kernel_rfl) (fun w' hS => yi_fieldAddr Try.runUnderlying60 rfl Try.sizeOf56 rfl) ?_
  refine AG.y (i := 1) rfl rfl rfl (by kernel_rfl) (fun w' hS => by first | exact yi_loadB Try.isAgg56 rfl hS rfl) ?_
  refine AG.y (i := 2) rfl rfl rfl (by kernel_rfl) (fun w' hS => yi_fieldAddr Try.runUnderlying60 rfl Try.sizeOf57 rfl) ?_
  refine AG.y (i := 3) rfl rfl rfl (by kernel_rfl) (fun w' hS => by first | exact yi_loadB Try.isAgg57 rfl hS rfl) ?_
  refine AG.y (i := 5) rfl rfl rfl (by kernel_rfl) (fun w' hS => yi_fieldAddr Try.runUnderlying60 rfl Try.sizeOf58 rfl) ?_
  refine AG.y (i := 6) rfl rfl rfl (by kernel_rfl) (fun w' hS => by first | exact yi_loadB Try.isAgg58 rfl hS rfl) ?_
  refine AG.two (i := 4) (j := 9) (by kernel_rfl) ?_ ?_
  · obtain ⟨W0, hW0⟩ : ∃ z, z = w25.heap.size := ⟨_, rfl⟩
    refine AGO.e rfl rfl rfl (ef_call Try.call111 rfl (cloneB_c Au cu t.up _ _ F26 (fun k hk => by have := hok k hk; omega) hlu)) ?_
    rintro uu w32 ⟨hOu, f33⟩
    obtain ⟨Au1, cu1, hvu, hcu1, hmu1, RU134, -⟩ := (hOu.bound).row (by decide)
    subst hvu
    have F35 := Row.same (by decide) F26 f33
    have F36 := Row.same (by decide) F27 f33
    have F37 := Only.same F28 f33
    have F38 := Blk.same F29 f33
    have F39 := Blk.same F30 f33
    clear F26 F27 F28 F29 F30
    have sz40 := f33.size
    refine ⟨F38, ?_⟩
    refine AG.two (i := 7) (j := 9) (by kernel_rfl) ?_ ?_
    · refine AGO.e rfl rfl rfl (ef_call Try.call112 rfl (cloneH_c Ah ch t.hops _ _ F36 (fun k hk => by have := hok k hk; omega) hlh)) ?_
      rintro uh w41 ⟨hOh, hnh, f42⟩
      have hOhb := hOh.bound
      obtain ⟨g, cap, hvh, -⟩ := hOh.some_of h0
      subst hvh
      have hgn := hnh g rfl
      have hgl := hOh.lt g rfl
      obtain ⟨z1, hz1⟩ : ∃ z, z = w41.heap.size := ⟨_, rfl⟩
      have SL43 := (Sls.of rfl hOhb).mono (D' := cD 0) (ok' := cOk (rb + 1) z1 ok g 0) (fun j x v hx hk => dEds.mono (fun k hk => ⟨by rw [if_neg (Nat.not_lt_zero j)]; have h8 := hk.1.2; rcases hk.1.1 with h | h; exact .inl h; exact .inr (by omega), hk.2⟩) hk) (fun j hh => hh.2 rfl)
      have F44 := Row.same (by decide) F35 f42
      have F45 := Row.same (by decide) F36 f42
      have F46 := Only.same F37 f42
      have F47 := Blk.same F38 f42
      have F48 := Blk.same F39 f42
      have F49 := Row.same (by decide) RU134 f42
      clear F35 F36 F37 F38 F39
      have sz50 := f42.size
      refine ⟨F47, ?_⟩
      refine AG.y (i := 8) rfl rfl rfl (by kernel_rfl) (fun w' hS => yi_buildS Try.runUnderlying60 Try.zeroValue60 rfl (fun _ => by kernel_rfl)) ?_
      refine AG.one (i := 9) (by kernel_rfl) ?_
      refine AGO.e rfl rfl rfl (ef_alloc Try.zeroValue60) ?_
      rintro _ w56 ⟨xb, hb_xb, rfl, f53, B54, z_xb⟩
      have F57 := Row.same (by decide) F44 f53
      have F58 := Row.same (by decide) F45 f53
      have F59 := Only.same F46 f53
      have F60 := Blk.same F47 f53
      have F61 := Blk.same F48 f53
      have F62 := Row.same (by decide) F49 f53
      have F63 := Sls.same SL43 f53
      clear F44 F45 F46 F47 F48 F49
      have sz64 := f53.size
      refine ⟨F60, ?_⟩
      refine AG.one (i := 10) (by kernel_rfl) ?_
      have e9 : z1 = xb := by omega
      rw [e9] at F63
      have hxg : xb ≠ g := by omega
      refine AGO.e rfl rfl rfl (ef_store (b := xb) Try.sizeOf60 rfl rfl B54 rfl rfl rfl) ?_
      rintro _ w68 ⟨rfl, f65, B66, z67⟩
      have F69 := Row.only (by decide) F57 f65 (fun x hx hx' hl => by have hl : x = _ := hl; have := hok x hx'; omega)
      have F70 := Row.only (by decide) F58 f65 (fun x hx hx' hl => by have hl : x = _ := hl; have := hok x hx'; omega)
      have F71 := Only.trans F59 f65 (fun i hi hl => by have hl : i = _ := hl; omega)
      have F72 := Blk.only F60 f65 (by show ¬ (_ = _); omega)
      have F73 := Blk.only F61 f65 (by show ¬ (_ = _); omega)
      have F74 := Row.only (by decide) F62 f65 (fun x hx hx' hl => by have hl : x = xb := hl; omega)
      have F75 := Sls.only F63 f65 (fun hl => hxg hl.symm) (fun j k hk hok' hl => by have h9 := cOk_le hok'; have hl : k = xb := hl; rcases h9.1 with h | h; have := hok k h; omega; exact h.2 hl)
      clear F57 F58 F59 F60 F61 F62 F63
      have B76 : Blk w68 xb #[.int .u64 t.epoch, .slice Au1 t.up.length cu1, .slice (some ⟨g, 0, none⟩) t.hops.length cap] 60 := Blk.lit B66 rfl
      clear B66
      refine ⟨F72, ?_⟩
      refine AG.done (by kernel_rfl) ?_
      refine NW.next ?_
      refine CW.seq ?_
      refine CW.seq ?_
      refine CW.region ?_
      refine WL.y rfl rfl (yi_fieldAddr Try.runUnderlying60 rfl Try.sizeOf58 rfl) ?_
      refine WL.y rfl rfl (yi_loadB Try.isAgg58 rfl B76 rfl) ?_
      refine WL.y rfl rfl (yi_len Try.runUnderlying58 rfl) ?_
      refine WL.y rfl rfl (yi_move rfl) ?_
      refine WL.done ?_
      refine NW.next ?_
      refine CW.block ?_
      refine CW.loop (fun mm x w' => ∃ i : Nat, mm = t.hops.length - i ∧ i ≤ t.hops.length ∧ Same w w' ∧ Blk w' rb #[.int .u64 0, .slice none 0 0, .slice none 0 0] 60 ∧ Blk w' xb #[.int .u64 t.epoch, .slice Au1 t.up.length cu1, .slice (some ⟨g, 0, none⟩) t.hops.length cap] 60 ∧ Row dBool w' (fun k => rb + 1 ≤ k ∧ k ≠ xb ∧ k < g) Au1 t.up ∧ Sls w' g cap 83 (cD i) (cOk (rb + 1) xb ok g i) t.hops ∧ xb < w'.heap.size ∧ Env 32 [] [(2, .pointer (some ⟨rb, 0, none⟩)), (3, .pointer (some ⟨xb, 0, none⟩)), (16, .int .i64 t.hops.length), (17, .int .i64 i)] x) (t.hops.length) ?_ ?_
      · have hxl := (B76).lt
        exact fun x ha => ⟨0, rfl, by omega, F71, F73, B76, Row.mono (fun k hk => ⟨by have := hk.1; have := hk.2; omega, by have := hk.1; have := hk.2; omega, by have := hk.1; have := hk.2; omega⟩) F74, F75, hxl, ha.sub ⟨rfl, rfl, rfl, rfl, trivial⟩⟩
      · rintro mm x w77 ⟨i, rfl, hi, fr, RB, XB, RU1, SL, hxl, ha⟩
        refine CW.at ha ?_
        have hsz := fr.size
        have hgl2 := SL.lt
        refine CW.seq ?_
        refine CW.region ?_
        refine WL.y rfl rfl (yi_lss rfl rfl) ?_
        refine WL.done ?_
        refine NW.next ?_
        refine CW.seq ?_
        refine CW.cond rfl (fun q_L => ?_) (fun q_L => ?_)
        · try replace q_L := of_decide_eq_true q_L
          obtain ⟨l, hl⟩ : ∃ l, t.hops[i]? = some l := ⟨t.hops[i]'(by omega), List.getElem?_eq_getElem (by omega)⟩
          obtain ⟨v, hcell, hK⟩ := SL.cell hl
          have hK2 : dEds.K w77 (cOk (rb + 1) xb ok g i i) l [v] := by have e : cD i i = dEds := if_neg (Nat.lt_irrefl i); rw [e] at hK; exact hK
          obtain ⟨Al, cl, hvl, hcl, hml, RL⟩ := hK2
          injection hvl with hvl
          subst hvl
          refine CW.skip ?_
          refine NW.next ?_
          refine CW.seq ?_
          refine CW.block ?_
          refine CW.seq ?_
          refine CW.region ?_
          refine WL.y rfl rfl (yi_move rfl) ?_
          refine WL.y rfl rfl (yi_assign rfl) ?_
          refine WL.done ?_
          refine NW.next ?_
          have fd78 : Same w77 w77.drew := Only.drew _ _
          obtain ⟨w79, hww79⟩ : ∃ wz, wz = w77.drew := ⟨_, rfl⟩
          rw [← hww79] at fd78
          have F80 := Only.same fr fd78
          have F81 := Blk.same RB fd78
          have F82 := Blk.same XB fd78
          have F83 := Row.same (by decide) RU1 fd78
          have F84 := Sls.same SL fd78
          have F85 := Only.cell fd78 hcell (fun hl => hl)
          have F86 := Row.same (by decide) RL fd78
          have sz87 := fd78.size
          refine CW.draw 10 [(0, true), (1, true), (2, true), (3, true), (4, true), (5, true), (6, true), (7, true), (8, false), (9, true), (10, false)] (fun w' => Blk w' xb _ _ ∧ World.cell? w' ⟨g, i, none⟩ = some (.slice Al l.length cl)) Try_mixed (by kernel_rfl) (fun _ _ _ _ h => h) hww79 ⟨F82, F85⟩ ?_
          refine PL.y rfl rfl rfl (fun w' hS => yi_fieldAddr Try.runUnderlying60 rfl Try.sizeOf58 rfl) ?_
          refine PL.y rfl rfl rfl (fun w' hS => yi_loadB Try.isAgg58 rfl hS.1 rfl) ?_
          refine PL.y rfl rfl rfl (fun w' hS => yi_move rfl) ?_
          refine PL.y rfl rfl rfl (fun w' hS => yi_fieldAddr Try.runUnderlying60 rfl Try.sizeOf58 rfl) ?_
          refine PL.y rfl rfl rfl (fun w' hS => yi_loadB Try.isAgg58 rfl hS.1 rfl) ?_
          refine PL.y rfl rfl rfl (fun w' hS => yi_move rfl) ?_
          refine PL.y rfl rfl rfl (fun w' hS => yi_indexAddr Try.runUnderlying58 Try.sizeOf83 rfl rfl (by omega) (by omega)) ?_
          refine PL.as_ (t := 26) (v' := .pointer (some ⟨g, i, none⟩)) rfl (by rw [Int.toNat_natCast, Nat.mul_one, addr_at, Nat.zero_add]) ?_
          refine PL.y rfl rfl rfl (fun w' hS => yi_load1 Try.isAgg83 rfl hS.2) ?_
          obtain ⟨zk, hzk⟩ : ∃ z, z = w79.heap.size := ⟨_, rfl⟩
          refine PL.e rfl rfl rfl (ef_call Try.call113 rfl (cloneE_c Al cl l _ _ (Row.bound (by decide) F86) (fun k hk => hk.2) (hli l (List.mem_of_getElem? hl)))) ?_
          rintro ue w88 ⟨O90, f89⟩
          have OB91 := (O90).mono (ok' := fun k => zk ≤ k) (fun k hk => by omega)
          obtain ⟨Ae, ce, hve, hce, hme, -, -⟩ := O90.row (by decide)
          subst hve
          have F92 := Only.same F80 f89
          have F93 := Blk.same F81 f89
          have F94 := Blk.same F82 f89
          have F95 := Row.same (by decide) F83 f89
          have F96 := Sls.same F84 f89
          have F97 := Only.cell f89 F85 (fun hl => hl)
          have F98 := Row.same (by decide) F86 f89
          clear F80 F81 F82 F83 F84 F85 F86
          have sz99 := f89.size
          refine ⟨fun _ => ⟨F94, F97⟩, ?_⟩
          refine PL.y rfl rfl rfl (fun w' hS => yi_indexAddr Try.runUnderlying58 Try.sizeOf83 rfl rfl (by omega) (by omega)) ?_
          refine PL.as_ (t := 29) (v' := .pointer (some ⟨g, i, none⟩)) rfl (by rw [Int.toNat_natCast, Nat.mul_one, addr_at, Nat.zero_add]) ?_
          obtain ⟨cs0, hB0, hs0⟩ : ∃ cs0, Blk w88 g cs0 83 ∧ t.hops.length ≤ cs0.size := by obtain ⟨cs, rest, h1, h2, h3, h4, hB, _⟩ := F96; exact ⟨_, hB, by simp [h1]⟩
          refine PL.z rfl rfl rfl rfl rfl (ef_store (b := _) Try.sizeOf83 rfl rfl hB0 rfl (Nat.ble_eq_true_of_le (by show i + 1 ≤ _; omega)) rfl) ?_
          rintro _ w103 ⟨rfl, f100, B101, z102⟩
          have F104 := Only.trans F92 f100 (fun i hi hl => by have hl : i = _ := hl; omega)
          have F105 := Blk.only F93 f100 (fun hl => by have hl : rb = g := hl; omega)
          have F106 := Blk.only F94 f100 (fun hl => hxg hl)
          have F107 := Row.only (by decide) F95 f100 (fun x hx hx' hl => by have hl : x = g := hl; omega)
          have F108 := Own.only OB91 f100 (fun x hx hx' hl => by have hl : x = g := hl; omega)
          clear F92 F93 F94 F95
          have SL2 : Sls w103 g cap 83 (cD (i + 1)) (cOk (rb + 1) xb ok g (i + 1)) (t.hops.set i l) := Sls.put F96 (by omega) f100 hB0 B101 (cur := #[]) (v' := .slice Ae l.length ce) (by rw [cD, if_pos (Nat.lt_succ_self i)]; exact ⟨_, rfl, (F108).mono (fun k hk => ⟨by rw [if_pos (Nat.lt_succ_self i)]; omega, by omega⟩)⟩) (fun j hh => hh.2 rfl) (fun j x v hj hx hk => cK_step hj hk)
          rw [set_same hl] at SL2
          refine PL.done ?_
          refine NW.blockEnd ?_
          refine NW.next ?_
          refine CW.region ?_
          refine WL.y rfl rfl (yi_addI rfl rfl (by omega) (by omega)) ?_
          refine WL.as_ (t := 30) (v' := .int .i64 ((i + 1 : Nat) : Int)) rfl (congrArg (Value.int .i64) (by omega)) ?_
          refine WL.y rfl rfl (yi_move rfl) ?_
          refine WL.done ?_
          refine NW.round (t.hops.length - (i + 1)) (by omega) ?_
          exact fun x ha => ⟨i + 1, rfl, by omega, F104, F105, F106, F107, SL2, by have := (F106).lt; omega, ha.sub ⟨rfl, rfl, rfl, rfl, trivial⟩⟩
        · try replace q_L := of_decide_eq_false q_L
          refine CW.exit ?_
          refine NW.thenExit ?_
          refine NW.thenExit ?_
          refine NW.blockHit ?_
          refine NW.next ?_
          refine CW.seq ?_
          refine CW.region ?_
          refine WL.y rfl rfl (yi_loadW Try.isAgg60 Try.sizeOf60 rfl XB rfl) ?_
          refine WL.e rfl rfl (ef_store (b := rb) Try.sizeOf60 rfl rfl RB rfl rfl rfl) ?_
          rintro _ w112 ⟨rfl, f109, B110, z111⟩
          have F113 := Only.trans fr f109 (fun i hi hl => by have hl : i = _ := hl; omega)
          have F114 := Blk.only XB f109 (fun hl => by have hl : xb = rb := hl; omega)
          have F115 := Row.only (by decide) RU1 f109 (fun x hx hx' hl => by have hl : x = rb := hl; omega)
          have F116 := Sls.only SL f109 (fun hl => by have hl : g = rb := hl; omega) (fun j k hk hok' hl => by have h9 := cOk_le hok'; have hl : k = rb := hl; rcases h9.1 with h | h; have := hok k h; omega; omega)
          have B117 : Blk w112 rb #[.int .u64 t.epoch, .slice Au1 t.up.length cu1, .slice (some ⟨g, 0, none⟩) t.hops.length cap] 60 := Blk.lit B110 rfl
          clear B110
          refine WL.done ?_
          refine NW.next ?_
          refine CW.ret ?_
          refine NW.retC rfl rfl Try.isAgg60 Try.sizeOf60 B117 rfl ?_
          exact ⟨_, rfl, Au1, cu1, g, cap, rfl, hcu1, hmu1, Row.mono (fun k hk => ⟨by have := hk.1; omega, by have := hk.2; omega⟩) F115, by omega, (F116).mono (fun j x v hx hk => cK_all (by have := (List.getElem?_eq_some_iff.1 hx).1; omega) hk (by omega)) (fun j hh => hh.2 rfl), F113⟩
    · refine AGO.e rfl rfl rfl (ef_alloc Try.zeroValue60) ?_
      rintro _ w123 ⟨xb, hb_xb, rfl, f120, B121, z_xb⟩
      have F124 := Row.same (by decide) F35 f120
      have F125 := Row.same (by decide) F36 f120
      have F126 := Only.same F37 f120
      have F127 := Blk.same F38 f120
      have F128 := Blk.same F39 f120
      have F129 := Row.same (by decide) RU134 f120
      clear F35 F36 F37 F38 F39
      have sz130 := f120.size
      refine ⟨F127, ?_⟩
      refine AG.one (i := 7) (by kernel_rfl) ?_
      refine AGO.e rfl rfl rfl (ef_call Try.call112 rfl (cloneH_c Ah ch t.hops _ _ F125 (fun k hk => by have := hok k hk; omega) hlh)) ?_
      rintro uh w131 ⟨hOh, hnh, f132⟩
      have hOhb := hOh.bound
      obtain ⟨g, cap, hvh, -⟩ := hOh.some_of h0
      subst hvh
      have hgn := hnh g rfl
      have hgl := hOh.lt g rfl
      obtain ⟨z1, hz1⟩ : ∃ z, z = xb := ⟨_, rfl⟩
      have SL133 := (Sls.of rfl hOhb).mono (D' := cD 0) (ok' := cOk (rb + 1) z1 ok g 0) (fun j x v hx hk => dEds.mono (fun k hk => ⟨by rw [if_neg (Nat.not_lt_zero j)]; have h8 := hk.1.2; rcases hk.1.1 with h | h; exact .inl h; exact .inr (by omega), hk.2⟩) hk) (fun j hh => hh.2 rfl)
      have F134 := Row.same (by decide) F124 f132
      have F135 := Row.same (by decide) F125 f132
      have F136 := Only.same F126 f132
      have F137 := Blk.same F127 f132
      have F138 := Blk.same F128 f132
      have F139 := Row.same (by decide) F129 f132
      have F140 := Blk.same B121 f132
      clear F124 F125 F126 F127 F128 F129
      have sz141 := f132.size
      refine ⟨F137, ?_⟩
      refine AG.y (i := 8) rfl rfl rfl (by kernel_rfl) (fun w' hS => yi_buildS Try.runUnderlying60 Try.zeroValue60 rfl (fun _ => by kernel_rfl)) ?_
      refine AG.one (i := 10) (by kernel_rfl) ?_
      have e9 : z1 = xb := hz1
      rw [e9] at SL133
      have hxg : xb ≠ g := by omega
      refine AGO.e rfl rfl rfl (ef_store (b := xb) Try.sizeOf60 rfl rfl F140 rfl rfl rfl) ?_
      rintro _ w145 ⟨rfl, f142, B143, z144⟩
      have F146 := Row.only (by decide) F134 f142 (fun x hx hx' hl => by have hl : x = _ := hl; have := hok x hx'; omega)
      have F147 := Row.only (by decide) F135 f142 (fun x hx hx' hl => by have hl : x = _ := hl; have := hok x hx'; omega)
      have F148 := Only.trans F136 f142 (fun i hi hl => by have hl : i = _ := hl; omega)
      have F149 := Blk.only F137 f142 (by show ¬ (_ = _); omega)
      have F150 := Blk.only F138 f142 (by show ¬ (_ = _); omega)
      have F151 := Row.only (by decide) F139 f142 (fun x hx hx' hl => by have hl : x = xb := hl; omega)
      have F152 := Sls.only SL133 f142 (fun hl => hxg hl.symm) (fun j k hk hok' hl => by have h9 := cOk_le hok'; have hl : k = xb := hl; rcases h9.1 with h | h; have := hok k h; omega; exact h.2 hl)
      clear F134 F135 F136 F137 F138 F139
      have B153 : Blk w145 xb #[.int .u64 t.epoch, .slice Au1 t.up.length cu1, .slice (some ⟨g, 0, none⟩) t.hops.length cap] 60 := Blk.lit B143 rfl
      clear B143
      refine ⟨F149, ?_⟩
      refine AG.done (by kernel_rfl) ?_
      refine NW.next ?_
      refine CW.seq ?_
      refine CW.seq ?_
      refine CW.region ?_
      refine WL.y rfl rfl (yi_fieldAddr Try.runUnderlying60 rfl Try.sizeOf58 rfl) ?_
      refine WL.y rfl rfl (yi_loadB Try.isAgg58 rfl B153 rfl) ?_
      refine WL.y rfl rfl (yi_len Try.runUnderlying58 rfl) ?_
      refine WL.y rfl rfl (yi_move rfl) ?_
      refine WL.done ?_
      refine NW.next ?_
      refine CW.block ?_
      refine CW.loop (fun mm x w' => ∃ i : Nat, mm = t.hops.length - i ∧ i ≤ t.hops.length ∧ Same w w' ∧ Blk w' rb #[.int .u64 0, .slice none 0 0, .slice none 0 0] 60 ∧ Blk w' xb #[.int .u64 t.epoch, .slice Au1 t.up.length cu1, .slice (some ⟨g, 0, none⟩) t.hops.length cap] 60 ∧ Row dBool w' (fun k => rb + 1 ≤ k ∧ k ≠ xb ∧ k < g) Au1 t.up ∧ Sls w' g cap 83 (cD i) (cOk (rb + 1) xb ok g i) t.hops ∧ xb < w'.heap.size ∧ Env 32 [] [(2, .pointer (some ⟨rb, 0, none⟩)), (3, .pointer (some ⟨xb, 0, none⟩)), (16, .int .i64 t.hops.length), (17, .int .i64 i)] x) (t.hops.length) ?_ ?_
      · have hxl := (B153).lt
        exact fun x ha => ⟨0, rfl, by omega, F148, F150, B153, Row.mono (fun k hk => ⟨by have := hk.1; have := hk.2; omega, by have := hk.1; have := hk.2; omega, by have := hk.1; have := hk.2; omega⟩) F151, F152, hxl, ha.sub ⟨rfl, rfl, rfl, rfl, trivial⟩⟩
      · rintro mm x w154 ⟨i, rfl, hi, fr, RB, XB, RU1, SL, hxl, ha⟩
        refine CW.at ha ?_
        have hsz := fr.size
        have hgl2 := SL.lt
        refine CW.seq ?_
        refine CW.region ?_
        refine WL.y rfl rfl (yi_lss rfl rfl) ?_
        refine WL.done ?_
        refine NW.next ?_
        refine CW.seq ?_
        refine CW.cond rfl (fun q_L => ?_) (fun q_L => ?_)
        · try replace q_L := of_decide_eq_true q_L
          obtain ⟨l, hl⟩ : ∃ l, t.hops[i]? = some l := ⟨t.hops[i]'(by omega), List.getElem?_eq_getElem (by omega)⟩
          obtain ⟨v, hcell, hK⟩ := SL.cell hl
          have hK2 : dEds.K w154 (cOk (rb + 1) xb ok g i i) l [v] := by have e : cD i i = dEds := if_neg (Nat.lt_irrefl i); rw [e] at hK; exact hK
          obtain ⟨Al, cl, hvl, hcl, hml, RL⟩ := hK2
          injection hvl with hvl
          subst hvl
          refine CW.skip ?_
          refine NW.next ?_
          refine CW.seq ?_
          refine CW.block ?_
          refine CW.seq ?_
          refine CW.region ?_
          refine WL.y rfl rfl (yi_move rfl) ?_
          refine WL.y rfl rfl (yi_assign rfl) ?_
          refine WL.done ?_
          refine NW.next ?_
          have fd155 : Same w154 w154.drew := Only.drew _ _
          obtain ⟨w156, hww156⟩ : ∃ wz, wz = w154.drew := ⟨_, rfl⟩
          rw [← hww156] at fd155
          have F157 := Only.same fr fd155
          have F158 := Blk.same RB fd155
          have F159 := Blk.same XB fd155
          have F160 := Row.same (by decide) RU1 fd155
          have F161 := Sls.same SL fd155
          have F162 := Only.cell fd155 hcell (fun hl => hl)
          have F163 := Row.same (by decide) RL fd155
          have sz164 := fd155.size
          refine CW.draw 10 [(0, true), (1, true), (2, true), (3, true), (4, true), (5, true), (6, true), (7, true), (8, false), (9, true), (10, false)] (fun w' => Blk w' xb _ _ ∧ World.cell? w' ⟨g, i, none⟩ = some (.slice Al l.length cl)) Try_mixed (by kernel_rfl) (fun _ _ _ _ h => h) hww156 ⟨F159, F162⟩ ?_
          refine PL.y rfl rfl rfl (fun w' hS => yi_fieldAddr Try.runUnderlying60 rfl Try.sizeOf58 rfl) ?_
          refine PL.y rfl rfl rfl (fun w' hS => yi_loadB Try.isAgg58 rfl hS.1 rfl) ?_
          refine PL.y rfl rfl rfl (fun w' hS => yi_move rfl) ?_
          refine PL.y rfl rfl rfl (fun w' hS => yi_fieldAddr Try.runUnderlying60 rfl Try.sizeOf58 rfl) ?_
          refine PL.y rfl rfl rfl (fun w' hS => yi_loadB Try.isAgg58 rfl hS.1 rfl) ?_
          refine PL.y rfl rfl rfl (fun w' hS => yi_move rfl) ?_
          refine PL.y rfl rfl rfl (fun w' hS => yi_indexAddr Try.runUnderlying58 Try.sizeOf83 rfl rfl (by omega) (by omega)) ?_
          refine PL.as_ (t := 26) (v' := .pointer (some ⟨g, i, none⟩)) rfl (by rw [Int.toNat_natCast, Nat.mul_one, addr_at, Nat.zero_add]) ?_
          refine PL.y rfl rfl rfl (fun w' hS => yi_load1 Try.isAgg83 rfl hS.2) ?_
          obtain ⟨zk, hzk⟩ : ∃ z, z = w156.heap.size := ⟨_, rfl⟩
          refine PL.e rfl rfl rfl (ef_call Try.call113 rfl (cloneE_c Al cl l _ _ (Row.bound (by decide) F163) (fun k hk => hk.2) (hli l (List.mem_of_getElem? hl)))) ?_
          rintro ue w165 ⟨O167, f166⟩
          have OB168 := (O167).mono (ok' := fun k => zk ≤ k) (fun k hk => by omega)
          obtain ⟨Ae, ce, hve, hce, hme, -, -⟩ := O167.row (by decide)
          subst hve
          have F169 := Only.same F157 f166
          have F170 := Blk.same F158 f166
          have F171 := Blk.same F159 f166
          have F172 := Row.same (by decide) F160 f166
          have F173 := Sls.same F161 f166
          have F174 := Only.cell f166 F162 (fun hl => hl)
          have F175 := Row.same (by decide) F163 f166
          clear F157 F158 F159 F160 F161 F162 F163
          have sz176 := f166.size
          refine ⟨fun _ => ⟨F171, F174⟩, ?_⟩
          refine PL.y rfl rfl rfl (fun w' hS => yi_indexAddr Try.runUnderlying58 Try.sizeOf83 rfl rfl (by omega) (by omega)) ?_
          refine PL.as_ (t := 29) (v' := .pointer (some ⟨g, i, none⟩)) rfl (by rw [Int.toNat_natCast, Nat.mul_one, addr_at, Nat.zero_add]) ?_
          obtain ⟨cs0, hB0, hs0⟩ : ∃ cs0, Blk w165 g cs0 83 ∧ t.hops.length ≤ cs0.size := by obtain ⟨cs, rest, h1, h2, h3, h4, hB, _⟩ := F173; exact ⟨_, hB, by simp [h1]⟩
          refine PL.z rfl rfl rfl rfl rfl (ef_store (b := _) Try.sizeOf83 rfl rfl hB0 rfl (Nat.ble_eq_true_of_le (by show i + 1 ≤ _; omega)) rfl) ?_
          rintro _ w180 ⟨rfl, f177, B178, z179⟩
          have F181 := Only.trans F169 f177 (fun i hi hl => by have hl : i = _ := hl; omega)
          have F182 := Blk.only F170 f177 (fun hl => by have hl : rb = g := hl; omega)
          have F183 := Blk.only F171 f177 (fun hl => hxg hl)
          have F184 := Row.only (by decide) F172 f177 (fun x hx hx' hl => by have hl : x = g := hl; omega)
          have F185 := Own.only OB168 f177 (fun x hx hx' hl => by have hl : x = g := hl; omega)
          clear F169 F170 F171 F172
          have SL2 : Sls w180 g cap 83 (cD (i + 1)) (cOk (rb + 1) xb ok g (i + 1)) (t.hops.set i l) := Sls.put F173 (by omega) f177 hB0 B178 (cur := #[]) (v' := .slice Ae l.length ce) (by rw [cD, if_pos (Nat.lt_succ_self i)]; exact ⟨_, rfl, (F185).mono (fun k hk => ⟨by rw [if_pos (Nat.lt_succ_self i)]; omega, by omega⟩)⟩) (fun j hh => hh.2 rfl) (fun j x v hj hx hk => cK_step hj hk)
          rw [set_same hl] at SL2
          refine PL.done ?_
          refine NW.blockEnd ?_
          refine NW.next ?_
          refine CW.region ?_
          refine WL.y rfl rfl (yi_addI rfl rfl (by omega) (by omega)) ?_
          refine WL.as_ (t := 30) (v' := .int .i64 ((i + 1 : Nat) : Int)) rfl (congrArg (Value.int .i64) (by omega)) ?_
          refine WL.y rfl rfl (yi_move rfl) ?_
          refine WL.done ?_
          refine NW.round (t.hops.length - (i + 1)) (by omega) ?_
          exact fun x ha => ⟨i + 1, rfl, by omega, F181, F182, F183, F184, SL2, by have := (F183).lt; omega, ha.sub ⟨rfl, rfl, rfl, rfl, trivial⟩⟩
        · try replace q_L := of_decide_eq_false q_L
          refine CW.exit ?_
          refine NW.thenExit ?_
          refine NW.thenExit ?_
          refine NW.blockHit ?_
          refine NW.next ?_
          refine CW.seq ?_
          refine CW.region ?_
          refine WL.y rfl rfl (yi_loadW Try.isAgg60 Try.sizeOf60 rfl XB rfl) ?_
          refine WL.e rfl rfl (ef_store (b := rb) Try.sizeOf60 rfl rfl RB rfl rfl rfl) ?_
          rintro _ w189 ⟨rfl, f186, B187, z188⟩
          have F190 := Only.trans fr f186 (fun i hi hl => by have hl : i = _ := hl; omega)
          have F191 := Blk.only XB f186 (fun hl => by have hl : xb = rb := hl; omega)
          have F192 := Row.only (by decide) RU1 f186 (fun x hx hx' hl => by have hl : x = rb := hl; omega)
          have F193 := Sls.only SL f186 (fun hl => by have hl : g = rb := hl; omega) (fun j k hk hok' hl => by have h9 := cOk_le hok'; have hl : k = rb := hl; rcases h9.1 with h | h; have := hok k h; omega; omega)
          have B194 : Blk w189 rb #[.int .u64 t.epoch, .slice Au1 t.up.length cu1, .slice (some ⟨g, 0, none⟩) t.hops.length cap] 60 := Blk.lit B187 rfl
          clear B187
          refine WL.done ?_
          refine NW.next ?_
          refine CW.ret ?_
          refine NW.retC rfl rfl Try.isAgg60 Try.sizeOf60 B194 rfl ?_
          exact ⟨_, rfl, Au1, cu1, g, cap, rfl, hcu1, hmu1, Row.mono (fun k hk => ⟨by have := hk.1; omega, by have := hk.2; omega⟩) F192, by omega, (F193).mono (fun j x v hx hk => cK_all (by have := (List.getElem?_eq_some_iff.1 hx).1; omega) hk (by omega)) (fun j hh => hh.2 rfl), F190⟩
  · refine AGO.e rfl rfl rfl (ef_alloc Try.zeroValue60) ?_
    rintro _ w200 ⟨xb, hb_xb, rfl, f197, B198, z_xb⟩
    have F201 := Row.same (by decide) F26 f197
    have F202 := Row.same (by decide) F27 f197
    have F203 := Only.same F28 f197
    have F204 := Blk.same F29 f197
    have F205 := Blk.same F30 f197
    clear F26 F27 F28 F29 F30
    have sz206 := f197.size
    refine ⟨F204, ?_⟩
    refine AG.one (i := 4) (by kernel_rfl) ?_
    obtain ⟨W0, hW0⟩ : ∃ z, z = w200.heap.size := ⟨_, rfl⟩
    refine AGO.e rfl rfl rfl (ef_call Try.call111 rfl (cloneB_c Au cu t.up _ _ F201 (fun k hk => by have := hok k hk; omega) hlu)) ?_
    rintro uu w207 ⟨hOu, f208⟩
    obtain ⟨Au1, cu1, hvu, hcu1, hmu1, RU1209, -⟩ := (hOu.bound).row (by decide)
    subst hvu
    have F210 := Row.same (by decide) F201 f208
    have F211 := Row.same (by decide) F202 f208
    have F212 := Only.same F203 f208
    have F213 := Blk.same F204 f208
    have F214 := Blk.same F205 f208
    have F215 := Blk.same B198 f208
    clear F201 F202 F203 F204 F205
    have sz216 := f208.size
    refine ⟨F213, ?_⟩
    refine AG.one (i := 7) (by kernel_rfl) ?_
    refine AGO.e rfl rfl rfl (ef_call Try.call112 rfl (cloneH_c Ah ch t.hops _ _ F211 (fun k hk => by have := hok k hk; omega) hlh)) ?_
    rintro uh w217 ⟨hOh, hnh, f218⟩
    have hOhb := hOh.bound
    obtain ⟨g, cap, hvh, -⟩ := hOh.some_of h0
    subst hvh
    have hgn := hnh g rfl
    have hgl := hOh.lt g rfl
    obtain ⟨z1, hz1⟩ : ∃ z, z = xb := ⟨_, rfl⟩
    have SL219 := (Sls.of rfl hOhb).mono (D' := cD 0) (ok' := cOk (rb + 1) z1 ok g 0) (fun j x v hx hk => dEds.mono (fun k hk => ⟨by rw [if_neg (Nat.not_lt_zero j)]; have h8 := hk.1.2; rcases hk.1.1 with h | h; exact .inl h; exact .inr (by omega), hk.2⟩) hk) (fun j hh => hh.2 rfl)
    have F220 := Row.same (by decide) F210 f218
    have F221 := Row.same (by decide) F211 f218
    have F222 := Only.same F212 f218
    have F223 := Blk.same F213 f218
    have F224 := Blk.same F214 f218
    have F225 := Blk.same F215 f218
    have F226 := Row.same (by decide) RU1209 f218
    clear F210 F211 F212 F213 F214 F215
    have sz227 := f218.size
    refine ⟨F223, ?_⟩
    refine AG.y (i := 8) rfl rfl rfl (by kernel_rfl) (fun w' hS => yi_buildS Try.runUnderlying60 Try.zeroValue60 rfl (fun _ => by kernel_rfl)) ?_
    refine AG.one (i := 10) (by kernel_rfl) ?_
    have e9 : z1 = xb := hz1
    rw [e9] at SL219
    have hxg : xb ≠ g := by omega
    refine AGO.e rfl rfl rfl (ef_store (b := xb) Try.sizeOf60 rfl rfl F225 rfl rfl rfl) ?_
    rintro _ w231 ⟨rfl, f228, B229, z230⟩
    have F232 := Row.only (by decide) F220 f228 (fun x hx hx' hl => by have hl : x = _ := hl; have := hok x hx'; omega)
    have F233 := Row.only (by decide) F221 f228 (fun x hx hx' hl => by have hl : x = _ := hl; have := hok x hx'; omega)
    have F234 := Only.trans F222 f228 (fun i hi hl => by have hl : i = _ := hl; omega)
    have F235 := Blk.only F223 f228 (by show ¬ (_ = _); omega)
    have F236 := Blk.only F224 f228 (by show ¬ (_ = _); omega)
    have F237 := Row.only (by decide) F226 f228 (fun x hx hx' hl => by have hl : x = xb := hl; omega)
    have F238 := Sls.only SL219 f228 (fun hl => hxg hl.symm) (fun j k hk hok' hl => by have h9 := cOk_le hok'; have hl : k = xb := hl; rcases h9.1 with h | h; have := hok k h; omega; exact h.2 hl)
    clear F220 F221 F222 F223 F224 F226
    have B239 : Blk w231 xb #[.int .u64 t.epoch, .slice Au1 t.up.length cu1, .slice (some ⟨g, 0, none⟩) t.hops.length cap] 60 := Blk.lit B229 rfl
    clear B229
    refine ⟨F235, ?_⟩
    refine AG.done (by kernel_rfl) ?_
    refine NW.next ?_
    refine CW.seq ?_
    refine CW.seq ?_
    refine CW.region ?_
    refine WL.y rfl rfl (yi_fieldAddr Try.runUnderlying60 rfl Try.sizeOf58 rfl) ?_
    refine WL.y rfl rfl (yi_loadB Try.isAgg58 rfl B239 rfl) ?_
    refine WL.y rfl rfl (yi_len Try.runUnderlying58 rfl) ?_
    refine WL.y rfl rfl (yi_move rfl) ?_
    refine WL.done ?_
    refine NW.next ?_
    refine CW.block ?_
    refine CW.loop (fun mm x w' => ∃ i : Nat, mm = t.hops.length - i ∧ i ≤ t.hops.length ∧ Same w w' ∧ Blk w' rb #[.int .u64 0, .slice none 0 0, .slice none 0 0] 60 ∧ Blk w' xb #[.int .u64 t.epoch, .slice Au1 t.up.length cu1, .slice (some ⟨g, 0, none⟩) t.hops.length cap] 60 ∧ Row dBool w' (fun k => rb + 1 ≤ k ∧ k ≠ xb ∧ k < g) Au1 t.up ∧ Sls w' g cap 83 (cD i) (cOk (rb + 1) xb ok g i) t.hops ∧ xb < w'.heap.size ∧ Env 32 [] [(2, .pointer (some ⟨rb, 0, none⟩)), (3, .pointer (some ⟨xb, 0, none⟩)), (16, .int .i64 t.hops.length), (17, .int .i64 i)] x) (t.hops.length) ?_ ?_
    · have hxl := (B239).lt
      exact fun x ha => ⟨0, rfl, by omega, F234, F236, B239, Row.mono (fun k hk => ⟨by have := hk.1; have := hk.2; omega, by have := hk.1; have := hk.2; omega, by have := hk.1; have := hk.2; omega⟩) F237, F238, hxl, ha.sub ⟨rfl, rfl, rfl, rfl, trivial⟩⟩
    · rintro mm x w240 ⟨i, rfl, hi, fr, RB, XB, RU1, SL, hxl, ha⟩
      refine CW.at ha ?_
      have hsz := fr.size
      have hgl2 := SL.lt
      refine CW.seq ?_
      refine CW.region ?_
      refine WL.y rfl rfl (yi_lss rfl rfl) ?_
      refine WL.done ?_
      refine NW.next ?_
      refine CW.seq ?_
      refine CW.cond rfl (fun q_L => ?_) (fun q_L => ?_)
      · try replace q_L := of_decide_eq_true q_L
        obtain ⟨l, hl⟩ : ∃ l, t.hops[i]? = some l := ⟨t.hops[i]'(by omega), List.getElem?_eq_getElem (by omega)⟩
        obtain ⟨v, hcell, hK⟩ := SL.cell hl
        have hK2 : dEds.K w240 (cOk (rb + 1) xb ok g i i) l [v] := by have e : cD i i = dEds := if_neg (Nat.lt_irrefl i); rw [e] at hK; exact hK
        obtain ⟨Al, cl, hvl, hcl, hml, RL⟩ := hK2
        injection hvl with hvl
        subst hvl
        refine CW.skip ?_
        refine NW.next ?_
        refine CW.seq ?_
        refine CW.block ?_
        refine CW.seq ?_
        refine CW.region ?_
        refine WL.y rfl rfl (yi_move rfl) ?_
        refine WL.y rfl rfl (yi_assign rfl) ?_
        refine WL.done ?_
        refine NW.next ?_
        have fd241 : Same w240 w240.drew := Only.drew _ _
        obtain ⟨w242, hww242⟩ : ∃ wz, wz = w240.drew := ⟨_, rfl⟩
        rw [← hww242] at fd241
        have F243 := Only.same fr fd241
        have F244 := Blk.same RB fd241
        have F245 := Blk.same XB fd241
        have F246 := Row.same (by decide) RU1 fd241
        have F247 := Sls.same SL fd241
        have F248 := Only.cell fd241 hcell (fun hl => hl)
        have F249 := Row.same (by decide) RL fd241
        have sz250 := fd241.size
        refine CW.draw 10 [(0, true), (1, true), (2, true), (3, true), (4, true), (5, true), (6, true), (7, true), (8, false), (9, true), (10, false)] (fun w' => Blk w' xb _ _ ∧ World.cell? w' ⟨g, i, none⟩ = some (.slice Al l.length cl)) Try_mixed (by kernel_rfl) (fun _ _ _ _ h => h) hww242 ⟨F245, F248⟩ ?_
        refine PL.y rfl rfl rfl (fun w' hS => yi_fieldAddr Try.runUnderlying60 rfl Try.sizeOf58 rfl) ?_
        refine PL.y rfl rfl rfl (fun w' hS => yi_loadB Try.isAgg58 rfl hS.1 rfl) ?_
        refine PL.y rfl rfl rfl (fun w' hS => yi_move rfl) ?_
        refine PL.y rfl rfl rfl (fun w' hS => yi_fieldAddr Try.runUnderlying60 rfl Try.sizeOf58 rfl) ?_
        refine PL.y rfl rfl rfl (fun w' hS => yi_loadB Try.isAgg58 rfl hS.1 rfl) ?_
        refine PL.y rfl rfl rfl (fun w' hS => yi_move rfl) ?_
        refine PL.y rfl rfl rfl (fun w' hS => yi_indexAddr Try.runUnderlying58 Try.sizeOf83 rfl rfl (by omega) (by omega)) ?_
        refine PL.as_ (t := 26) (v' := .pointer (some ⟨g, i, none⟩)) rfl (by rw [Int.toNat_natCast, Nat.mul_one, addr_at, Nat.zero_add]) ?_
        refine PL.y rfl rfl rfl (fun w' hS => yi_load1 Try.isAgg83 rfl hS.2) ?_
        obtain ⟨zk, hzk⟩ : ∃ z, z = w242.heap.size := ⟨_, rfl⟩
        refine PL.e rfl rfl rfl (ef_call Try.call113 rfl (cloneE_c Al cl l _ _ (Row.bound (by decide) F249) (fun k hk => hk.2) (hli l (List.mem_of_getElem? hl)))) ?_
        rintro ue w251 ⟨O253, f252⟩
        have OB254 := (O253).mono (ok' := fun k => zk ≤ k) (fun k hk => by omega)
        obtain ⟨Ae, ce, hve, hce, hme, -, -⟩ := O253.row (by decide)
        subst hve
        have F255 := Only.same F243 f252
        have F256 := Blk.same F244 f252
        have F257 := Blk.same F245 f252
        have F258 := Row.same (by decide) F246 f252
        have F259 := Sls.same F247 f252
        have F260 := Only.cell f252 F248 (fun hl => hl)
        have F261 := Row.same (by decide) F249 f252
        clear F243 F244 F245 F246 F247 F248 F249
        have sz262 := f252.size
        refine ⟨fun _ => ⟨F257, F260⟩, ?_⟩
        refine PL.y rfl rfl rfl (fun w' hS => yi_indexAddr Try.runUnderlying58 Try.sizeOf83 rfl rfl (by omega) (by omega)) ?_
        refine PL.as_ (t := 29) (v' := .pointer (some ⟨g, i, none⟩)) rfl (by rw [Int.toNat_natCast, Nat.mul_one, addr_at, Nat.zero_add]) ?_
        obtain ⟨cs0, hB0, hs0⟩ : ∃ cs0, Blk w251 g cs0 83 ∧ t.hops.length ≤ cs0.size := by obtain ⟨cs, rest, h1, h2, h3, h4, hB, _⟩ := F259; exact ⟨_, hB, by simp [h1]⟩
        refine PL.z rfl rfl rfl rfl rfl (ef_store (b := _) Try.sizeOf83 rfl rfl hB0 rfl (Nat.ble_eq_true_of_le (by show i + 1 ≤ _; omega)) rfl) ?_
        rintro _ w266 ⟨rfl, f263, B264, z265⟩
        have F267 := Only.trans F255 f263 (fun i hi hl => by have hl : i = _ := hl; omega)
        have F268 := Blk.only F256 f263 (fun hl => by have hl : rb = g := hl; omega)
        have F269 := Blk.only F257 f263 (fun hl => hxg hl)
        have F270 := Row.only (by decide) F258 f263 (fun x hx hx' hl => by have hl : x = g := hl; omega)
        have F271 := Own.only OB254 f263 (fun x hx hx' hl => by have hl : x = g := hl; omega)
        clear F255 F256 F257 F258
        have SL2 : Sls w266 g cap 83 (cD (i + 1)) (cOk (rb + 1) xb ok g (i + 1)) (t.hops.set i l) := Sls.put F259 (by omega) f263 hB0 B264 (cur := #[]) (v' := .slice Ae l.length ce) (by rw [cD, if_pos (Nat.lt_succ_self i)]; exact ⟨_, rfl, (F271).mono (fun k hk => ⟨by rw [if_pos (Nat.lt_succ_self i)]; omega, by omega⟩)⟩) (fun j hh => hh.2 rfl) (fun j x v hj hx hk => cK_step hj hk)
        rw [set_same hl] at SL2
        refine PL.done ?_
        refine NW.blockEnd ?_
        refine NW.next ?_
        refine CW.region ?_
        refine WL.y rfl rfl (yi_addI rfl rfl (by omega) (by omega)) ?_
        refine WL.as_ (t := 30) (v' := .int .i64 ((i + 1 : Nat) : Int)) rfl (congrArg (Value.int .i64) (by omega)) ?_
        refine WL.y rfl rfl (yi_move rfl) ?_
        refine WL.done ?_
        refine NW.round (t.hops.length - (i + 1)) (by omega) ?_
        exact fun x ha => ⟨i + 1, rfl, by omega, F267, F268, F269, F270, SL2, by have := (F269).lt; omega, ha.sub ⟨rfl, rfl, rfl, rfl, trivial⟩⟩
      · try replace q_L := of_decide_eq_false q_L
        refine CW.exit ?_
        refine NW.thenExit ?_
        refine NW.thenExit ?_
        refine NW.blockHit ?_
        refine NW.next ?_
        refine CW.seq ?_
        refine CW.region ?_
        refine WL.y rfl rfl (yi_loadW Try.isAgg60 Try.sizeOf60 rfl XB rfl) ?_
        refine WL.e rfl rfl (ef_store (b := rb) Try.sizeOf60 rfl rfl RB rfl rfl rfl) ?_
        rintro _ w275 ⟨rfl, f272, B273, z274⟩
        have F276 := Only.trans fr f272 (fun i hi hl => by have hl : i = _ := hl; omega)
        have F277 := Blk.only XB f272 (fun hl => by have hl : xb = rb := hl; omega)
        have F278 := Row.only (by decide) RU1 f272 (fun x hx hx' hl => by have hl : x = rb := hl; omega)
        have F279 := Sls.only SL f272 (fun hl => by have hl : g = rb := hl; omega) (fun j k hk hok' hl => by have h9 := cOk_le hok'; have hl : k = rb := hl; rcases h9.1 with h | h; have := hok k h; omega; omega)
        have B280 : Blk w275 rb #[.int .u64 t.epoch, .slice Au1 t.up.length cu1, .slice (some ⟨g, 0, none⟩) t.hops.length cap] 60 := Blk.lit B273 rfl
        clear B273
        refine WL.done ?_
        refine NW.next ?_
        refine CW.ret ?_
        refine NW.retC rfl rfl Try.isAgg60 Try.sizeOf60 B280 rfl ?_
        exact ⟨_, rfl, Au1, cu1, g, cap, rfl, hcu1, hmu1, Row.mono (fun k hk => ⟨by have := hk.1; omega, by have := hk.2; omega⟩) F278, by omega, (F279).mono (fun j x v hx hk => cK_all (by have := (List.getElem?_eq_some_iff.1 hx).1; omega) hk (by omega)) (fun j hh => hh.2 rfl), F276⟩

end Go.Proofs.YtgmjgdjobkmbgaaN
