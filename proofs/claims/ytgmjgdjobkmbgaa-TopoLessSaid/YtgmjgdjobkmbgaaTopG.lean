/- The order of a topology, walked. -/
import Derived.Test.YtgmjgdjobkmbgaaTopF
set_option linter.unusedVariables false
set_option linter.unusedSimpArgs false
namespace Go.Proofs.YtgmjgdjobkmbgaaN
open Go.Proofs.YtgmjgdjobkmbgaaL Go.RowKit Go.Proofs
attribute [local irreducible] Ef Yi WL PL CW NW Ret
open Go.Lib Go.Sort
def ordRes (t : Tp) (flow : Int) : Option (List Int) := if 0 ≤ flow ∧ flow < t.hops.length then orderOf (edgesOf t flow) else none
theorem two_rows {w : World} {ok : Nat → Prop} {b t : Nat} {xs ys : List Int} {A1 A2 : Option Addr} {c1 c2 : Nat} (hB : Blk w b #[.slice A1 xs.length c1, .slice A2 ys.length c2] t) (hb : ok b) (h1 : xs.length ≤ c1) (h2 : c1 ≤ 9223372036854775807) (R1 : Row dI w ok A1 xs) (h3 : ys.length ≤ c2) (h4 : c2 ≤ 9223372036854775807) (R2 : Row dI w ok A2 ys) : Row dIs w ok (some ⟨b, 0, none⟩) [xs, ys] := by
  refine .inr ⟨_, rfl, hb, fun j x hx => ?_⟩
  match j with
  | 0 =>
    simp at hx; subst hx
    refine ⟨_, ⟨A1, c1, rfl, h1, h2, R1⟩, fun i u hu => ?_⟩
    have hi := (List.getElem?_eq_some_iff.1 hu).1
    have : i = 0 := by simpa using hi
    subst this
    simp at hu; subst hu
    rw [addr_at]
    exact hB.cell rfl
  | 1 =>
    simp at hx; subst hx
    refine ⟨_, ⟨A2, c2, rfl, h3, h4, R2⟩, fun i u hu => ?_⟩
    have hi := (List.getElem?_eq_some_iff.1 hu).1
    have : i = 0 := by simpa using hi
    subst this
    simp at hu; subst hu
    rw [addr_at]
    exact hB.cell rfl
  | j + 2 => simp at hx
theorem own_some {w : World} {ok : Nat → Prop} {v : Value} {zs : List Int} (h : Own dI 3 w ok v zs) (h0 : 0 < zs.length) : ∃ g cap, v = .slice (some ⟨g, 0, none⟩) zs.length cap := by
  rcases ownI_open h with ⟨_, rfl⟩ | ⟨g, cap, _, h, _⟩
  · simp at h0
  · exact ⟨g, cap, h⟩
theorem ends_len (l : List Ed) (g : Ed → Int × Bool) : (endsOf l g).length ≤ l.length := by
  unfold endsOf
  have h1 : (Lib.compact (sortI (collect g l))).length ≤ (sortI (collect g l)).length := by
    unfold Lib.compact compactUpTo
    rw [List.length_map]
    exact Nat.le_trans (List.length_filter_le _ _) (by simp)
  have h2 : (sortI (collect g l)).length = (collect g l).length := List.length_mergeSort _
  have h3 := collect_len g l
  omega
theorem compact_le (zs : List Int) : (Lib.compact zs).length ≤ zs.length := by
  unfold Lib.compact compactUpTo
  rw [List.length_map]
  exact Nat.le_trans (List.length_filter_le _ _) (by simp)
theorem sortI_len (zs : List Int) : (sortI zs).length = zs.length := List.length_mergeSort _

theorem order_c (t : Tp) (Au Ah : Option Addr) (cu ch : Nat) (ok : Nat → Prop) (w : World) (R : Row dEds w ok Ah t.hops) (hc : t.hops.length ≤ ch) (hm : ch ≤ 9223372036854775807) (flow : Int) (hok : ∀ k, ok k → k < w.heap.size) (hL : (edgesOf t flow).length ≤ 500000) :
    Ret Try.prog 34 [.agg #[.int .u64 t.epoch, .slice Au t.up.length cu, .slice Ah t.hops.length ch], .int .i64 flow] w fun u w' => ∃ v e, u = .tuple #[v, .int .i64 e] ∧ Same w w' ∧ ((∃ out, ordRes t flow = some out ∧ e = 0 ∧ Own dI 3 w' (fun k => w.heap.size ≤ k) v out) ∨ (ordRes t flow = none ∧ e = 1 ∧ v = .slice none 0 0)) := by
  have fr0 : Only (fun _ => False) w w := Only.refl _ _
  refine Ret.go Try.func34 rfl Try.ntmps34 rfl ?_
  refine CW.seq ?_
  refine CW.region ?_
  refine WL.e rfl rfl (ef_box rfl) ?_
  rintro _ w6 ⟨tb, hb_tb, rfl, f3, B4, z_tb⟩
  have F7 := Row.same (by decide) R f3
  have F8 := Only.same fr0 f3
  have sz9 := f3.size
  refine WL.y rfl rfl (yi_assign rfl) ?_
  refine WL.y rfl rfl (yi_assign rfl) ?_
  refine WL.done ?_
  refine NW.next ?_
  refine CW.scope ?_
  refine CW.seq ?_
  refine CW.seq ?_
  refine CW.region ?_
  refine WL.y rfl rfl (yi_move rfl) ?_
  refine WL.y rfl rfl (yi_fieldAddr Try.runUnderlying60 rfl Try.sizeOf58 rfl) ?_
  refine WL.y rfl rfl (yi_loadB Try.isAgg58 rfl (by assumption) rfl) ?_
  refine WL.y rfl rfl (yi_len Try.runUnderlying58 rfl) ?_
  refine WL.y rfl rfl (yi_subI rfl rfl (by omega) (by omega)) ?_
  refine WL.e rfl rfl (ef_call Try.call95 rfl (within_c flow 0 _ _)) ?_
  rintro _ w10 ⟨rfl, rfl⟩
  refine WL.y rfl rfl (yi_notP rfl) ?_
  refine WL.done ?_
  refine NW.next ?_
  refine CW.cond rfl (fun q_ => ?_) (fun q_ => ?_)
  · try replace q_ := of_decide_eq_true q_
    refine CW.seq ?_
    refine CW.region ?_
    refine WL.y rfl rfl (yi_assign rfl) ?_
    refine WL.y rfl rfl (yi_assign rfl) ?_
    refine WL.done ?_
    refine NW.next ?_
    refine CW.ret ?_
    refine NW.thenRet ?_
    refine NW.scopeRet ?_
    refine NW.ret2 rfl rfl rfl ?_
    exact ⟨_, rfl, _, _, rfl, F8, .inr ⟨by rw [ordRes, if_neg (by omega)], rfl, rfl⟩⟩
  · try replace q_ := of_decide_eq_false q_
    obtain ⟨j, rfl⟩ := Int.eq_ofNat_of_zero_le (show 0 ≤ flow by omega)
    obtain ⟨l, hl⟩ : ∃ l, t.hops[j]? = some l := ⟨t.hops[j]'(by omega), List.getElem?_eq_getElem (by omega)⟩
    obtain ⟨ad, A', c', hA, hb, hcell, h1, h2, RL⟩ := hop_at F7 hl
    subst hA
    have hn : edgesOf t j = l := by unfold edgesOf; rw [if_pos (by omega), Int.toNat_natCast, List.getD_eq_getElem?_getD, hl]; rfl
    have hres : ordRes t j = orderOf l := by rw [ordRes, if_pos (by omega), hn]
    rw [hn] at hL
    refine CW.skip ?_
    refine NW.next ?_
    refine CW.seq ?_
    refine CW.region ?_
    refine WL.y rfl rfl (yi_fieldAddr Try.runUnderlying60 rfl Try.sizeOf58 rfl) ?_
    refine WL.y rfl rfl (yi_loadB Try.isAgg58 rfl (by assumption) rfl) ?_
    refine WL.y rfl rfl (yi_move rfl) ?_
    refine WL.y rfl rfl (yi_indexAddr Try.runUnderlying58 Try.sizeOf83 rfl rfl (by omega) (by omega)) ?_
    refine WL.as_ (t := 22) (v' := .pointer (some (ad.add j))) rfl (by rw [Int.toNat_natCast, Nat.mul_one]) ?_
    refine WL.y rfl rfl (yi_load1 Try.isAgg83 rfl hcell) ?_
    refine WL.e rfl rfl (ef_alloc Try.zeroValue83) ?_
    rintro _ w17 ⟨lb, hb_lb, rfl, f14, B15, z_lb⟩
    have F18 := Row.same (by decide) F7 f14
    have F19 := Only.same F8 f14
    have F20 := Blk.same B4 f14
    have F21 := Row.same (by decide) RL f14
    have sz22 := f14.size
    refine WL.e rfl rfl (ef_store (b := lb) Try.sizeOf83 rfl rfl B15 rfl rfl rfl) ?_
    rintro _ w26 ⟨rfl, f23, B24, z25⟩
    have F27 := Row.only (by decide) F18 f23 (fun k hk hok' hl => by have hl : k = _ := hl; have := hok k hok'; omega)
    have F28 := Only.trans F19 f23 (fun i hi hl => by have hl : i = _ := hl; omega)
    have F29 := Blk.only F20 f23 (by show ¬ (_ = _); omega)
    have F30 := Row.only (by decide) F21 f23 (fun k hk hok' hl => by have hl : k = _ := hl; have := hok k hok'; omega)
    refine WL.done ?_
    refine NW.next ?_
    refine CW.seq ?_
    refine CW.region ?_
    refine WL.y rfl rfl (yi_makeFunc rfl rfl) ?_
    refine WL.y rfl rfl (yi_assign rfl) ?_
    refine WL.done ?_
    refine NW.next ?_
    refine CW.seq ?_
    refine CW.region ?_
    refine WL.y rfl rfl (yi_move rfl) ?_
    refine WL.e rfl rfl (ef_callv Try.call96 rfl rfl (both_c A' c' l _ lb 100 (fun e => e.frm) _ B24 F30 (fun k hk => by have := hok k hk; omega) (by omega) Try.call100 (fun e w1 => of1_c e w1))) ?_
    rintro u1 w31 ⟨H33, f32⟩
    obtain ⟨B1, d1, hv1, hd1, hm1, -, -⟩ := H33.row (by decide)
    subst hv1
    have F34 := Row.same (by decide) F27 f32
    have F35 := Only.same F28 f32
    have F36 := Blk.same F29 f32
    have F37 := Row.same (by decide) F30 f32
    have F38 := Blk.same B24 f32
    have sz39 := f32.size
    refine WL.y rfl rfl (yi_move rfl) ?_
    refine WL.e rfl rfl (ef_callv Try.call96 rfl rfl (both_c A' c' l _ lb 101 (fun e => e.to) _ F38 F37 (fun k hk => by have := hok k hk; omega) (by omega) Try.call101 (fun e w1 => of2_c e w1))) ?_
    rintro u2 w40 ⟨H42, f41⟩
    obtain ⟨B2, d2, hv2, hd2, hm2, -, -⟩ := H42.row (by decide)
    subst hv2
    have F43 := Row.same (by decide) F34 f41
    have F44 := Only.same F35 f41
    have F45 := Blk.same F36 f41
    have F46 := Row.same (by decide) F37 f41
    have F47 := Blk.same F38 f41
    have F48 := Own.same H33 f41
    have sz49 := f41.size
    refine WL.e rfl rfl (ef_buildSlice Try.runUnderlying168 Try.sizeOf49 Try.zeroValue49 rfl (fun _ => by kernel_rfl)) ?_
    rintro _ w55 ⟨cb, hb_cb, rfl, f52, B53, z_cb⟩
    have F56 := Row.same (by decide) F43 f52
    have F57 := Only.same F44 f52
    have F58 := Blk.same F45 f52
    have F59 := Row.same (by decide) F46 f52
    have F60 := Blk.same F47 f52
    have F61 := Own.same F48 f52
    have F62 := Own.same H42 f52
    have sz63 := f52.size
    obtain ⟨B1', d1', hv1', hd1', hm1', R1, -⟩ := F61.row (by decide)
    obtain ⟨rfl, rfl⟩ : B1 = B1' ∧ d1 = d1' := by simpa using hv1'
    obtain ⟨B2', d2', hv2', hd2', hm2', R2, -⟩ := F62.row (by decide)
    obtain ⟨rfl, rfl⟩ : B2 = B2' ∧ d2 = d2' := by simpa using hv2'
    have he1 := ends_len l (fun e => (e.frm, true))
    have he2 := ends_len l (fun e => (e.to, true))
    have RR := two_rows (ok := fun k => k < w55.heap.size) B53 B53.lt hd1 hm1 (Row.mono (fun k hk => hk.2) (Row.bound (by decide) R1)) hd2 hm2 (Row.mono (fun k hk => hk.2) (Row.bound (by decide) R2))
    refine WL.e rfl rfl (ef_call Try.call99 rfl (concat_c (some ⟨cb, 0, none⟩) 2 [endsOf l (fun e => (e.frm, true)), endsOf l (fun e => (e.to, true))] _ _ RR (fun k hk => hk) (by simp) (by simp [total]; omega))) ?_
    rintro u3 w64 ⟨hO3, f65⟩
    obtain ⟨B3, d3, hv3, hd3, hm3, -, -⟩ := hO3.row (by decide)
    subst hv3
    have hO3b := hO3.bound
    have hown3 := hO3b.ok
    have F66 := Row.same (by decide) F56 f65
    have F67 := Only.same F57 f65
    have F68 := Blk.same F58 f65
    have F69 := Row.same (by decide) F59 f65
    have F70 := Blk.same F60 f65
    have F71 := Own.same F61 f65
    have F72 := Own.same F62 f65
    have F73 := Blk.same B53 f65
    have sz74 := f65.size
    refine WL.e rfl rfl (ef_alloc Try.zeroValue49) ?_
    rintro _ w80 ⟨bb, hb_bb, rfl, f77, B78, z_bb⟩
    have F81 := Row.same (by decide) F66 f77
    have F82 := Only.same F67 f77
    have F83 := Blk.same F68 f77
    have F84 := Row.same (by decide) F69 f77
    have F85 := Blk.same F70 f77
    have F86 := Own.same hO3b f77
    have sz87 := f77.size
    refine WL.e rfl rfl (ef_store (b := bb) Try.sizeOf49 rfl rfl B78 rfl rfl rfl) ?_
    rintro _ w91 ⟨rfl, f88, B89, z90⟩
    have F92 := Row.only (by decide) F81 f88 (fun k hk hok' hl => by have hl : k = _ := hl; have := hok k hok'; omega)
    have F93 := Only.trans F82 f88 (fun i hi hl => by have hl : i = _ := hl; omega)
    have F94 := Blk.only F83 f88 (by show ¬ (_ = _); omega)
    have F95 := Row.only (by decide) F84 f88 (fun k hk hok' hl => by have hl : k = _ := hl; have := hok k hok'; omega)
    have F96 := Blk.only F85 f88 (by show ¬ (_ = _); omega)
    have F97 := Own.only F86 f88 (fun k hk hok hl => by have hl : k = _ := hl; omega)
    refine WL.done ?_
    refine NW.next ?_
    refine CW.seq ?_
    refine CW.region ?_
    refine WL.y rfl rfl (yi_loadB Try.isAgg49 rfl (by assumption) rfl) ?_
    refine WL.e rfl rfl (ef_call Try.call102 rfl (sort_c F97 (by simp; omega))) ?_
    rintro _ w98 ⟨hO4, f99⟩
    have F100 := Only.trans F93 f99 (fun i hi hl => by have := hown3 i hl; omega)
    have F101 := Row.only (by decide) F95 f99 (fun k hk hok' hl => by have := hok k hok'; have := hown3 k hl; omega)
    have F102 := Blk.only F96 f99 (fun hl => by have := hown3 _ hl; omega)
    have F103 := Blk.only B89 f99 (fun hl => by have := hown3 _ hl; omega)
    have sz104 := f99.size
    refine WL.done ?_
    refine NW.next ?_
    refine CW.seq ?_
    refine CW.region ?_
    refine WL.y rfl rfl (yi_loadB Try.isAgg49 rfl (by assumption) rfl) ?_
    refine WL.e rfl rfl (ef_call Try.call103 rfl (compact_c hO4)) ?_
    rintro u5 w105 ⟨hO5, f106, hu5⟩
    have hown5 := fun k hk => hown3 k (hu5 ▸ hk)
    obtain ⟨B5, d5, hv5, hd5, hm5, -, -⟩ := hO5.row (by decide)
    subst hv5
    have F107 := Only.trans F100 f106 (fun i hi hl => by have := hown3 i hl; omega)
    have F108 := Row.only (by decide) F101 f106 (fun k hk hok' hl => by have := hok k hok'; have := hown3 k hl; omega)
    have F109 := Blk.only F102 f106 (fun hl => by have := hown3 _ hl; omega)
    have F110 := Blk.only F103 f106 (fun hl => by have := hown3 _ hl; omega)
    have sz111 := f106.size
    refine WL.e rfl rfl (ef_store (b := bb) Try.sizeOf49 rfl rfl F110 rfl rfl rfl) ?_
    rintro _ w115 ⟨rfl, f112, B113, z114⟩
    have F116 := Only.trans F107 f112 (fun i hi hl => by have hl : i = _ := hl; omega)
    have F117 := Row.only (by decide) F108 f112 (fun k hk hok' hl => by have hl : k = _ := hl; have := hok k hok'; omega)
    have F118 := Blk.only F109 f112 (by show ¬ (_ = _); omega)
    have F119 := Own.only hO5 f112 (fun k hk hok hl => by have hl : k = _ := hl; omega)
    refine WL.done ?_
    refine NW.next ?_
    refine CW.seq ?_
    refine CW.region ?_
    refine WL.y rfl rfl (yi_assign rfl) ?_
    refine WL.done ?_
    refine NW.next ?_
    refine CW.seq ?_
    refine CW.label ?_
    refine NW.next ?_
    refine CW.seq ?_
    refine CW.block ?_
    refine CW.loop (fun mm a w' => ∃ (vl vo : Value) (left out : List Int), mm = left.length ∧ Same w w' ∧ Row dEd w' ok A' l ∧ Blk w' lb #[.slice A' l.length c'] 83 ∧ Blk w' bb #[vl] 49 ∧ Own dI 3 w' (fun k => w.heap.size ≤ k) vl left ∧ Own dI 3 w' (fun k => w.heap.size ≤ k) vo out ∧ (∀ k, vl.ownBlock = some k → k ≠ lb ∧ k ≠ bb) ∧ (∀ k, vo.ownBlock = some k → k ≠ lb ∧ k ≠ bb ∧ vl.ownBlock ≠ some k) ∧ ordLoop l left.length left out = orderOf l ∧ left.length + out.length ≤ 2000000 ∧ Env 60 [] [(6, .pointer (some ⟨lb, 0, none⟩)), (8, .pointer (some ⟨bb, 0, none⟩)), (9, vo)] a) ((nodesOf l).length) ?_ ?_
    · have hnl : ([endsOf l (fun e => (e.frm, true)), endsOf l (fun e => (e.to, true))].flatten) = endsOf l (fun e => (e.frm, true)) ++ endsOf l (fun e => (e.to, true)) := by simp
      have O9 := F119
      rw [hnl] at O9
      have Bbb : Blk w115 bb #[.slice B5 (nodesOf l).length d5] 49 := by have h9 := B113; rw [hnl] at h9; exact h9
      have hlen9 : (nodesOf l).length ≤ 2000000 := by have := compact_le (sortI (endsOf l (fun e => (e.frm, true)) ++ endsOf l (fun e => (e.to, true)))); rw [sortI_len, List.length_append] at this; unfold nodesOf; omega
      exact fun a ha => ⟨.slice B5 (nodesOf l).length d5, _, nodesOf l, [], rfl, F116, F117, F118, Bbb, O9.mono (fun k hk => by omega), Own.nil _ _ _ _, fun k hk => by have := hown5 k (by rw [hnl]; exact hk); omega, fun k hk => by simp [Value.ownBlock] at hk, rfl, by simpa using hlen9, ha.sub ⟨rfl, rfl, rfl, trivial⟩⟩
    · rintro mm a w120 ⟨vl, vo, left, out, rfl, fr, RLx, LBx, BBx, OL, OO, hown1, hown2, hrun, hlen, ha⟩
      refine CW.at ha ?_
      have hsz := fr.size
      have hlbl := LBx.lt
      have hbbl := BBx.lt
      obtain ⟨A7, c7, hv7, hc7, hm7, -, -⟩ := OL.row (by decide)
      subst hv7
      refine CW.seq ?_
      refine CW.seq ?_
      refine CW.region ?_
      refine WL.y rfl rfl (yi_loadB Try.isAgg49 rfl (by assumption) rfl) ?_
      refine WL.y rfl rfl (yi_len Try.runUnderlying49 rfl) ?_
      refine WL.y rfl rfl (yi_gtr rfl rfl) ?_
      refine WL.done ?_
      refine NW.next ?_
      refine CW.cond rfl (fun q_L => ?_) (fun q_L => ?_)
      · try replace q_L := of_decide_eq_true q_L
        refine CW.skip ?_
        refine NW.next ?_
        refine CW.block ?_
        refine CW.seq ?_
        refine CW.seq ?_
        refine CW.region ?_
        refine WL.y rfl rfl (yi_loadB Try.isAgg49 rfl (by assumption) rfl) ?_
        refine WL.y rfl rfl (yi_len Try.runUnderlying49 rfl) ?_
        refine WL.y rfl rfl (yi_move rfl) ?_
        refine WL.done ?_
        refine NW.next ?_
        refine CW.block ?_
        refine CW.loop (fun mm a w' => ∃ (i : Nat), mm = left.length - i ∧ i ≤ left.length ∧ Same w w' ∧ Row dEd w' ok A' l ∧ Blk w' lb #[.slice A' l.length c'] 83 ∧ Blk w' bb #[.slice A7 left.length c7] 49 ∧ Own dI 3 w' (fun k => w.heap.size ≤ k) (.slice A7 left.length c7) left ∧ Own dI 3 w' (fun k => w.heap.size ≤ k) vo out ∧ (∀ j m, j < i → left[j]? = some m → hasAhead l left m = true) ∧ Env 60 [] [(6, .pointer (some ⟨lb, 0, none⟩)), (8, .pointer (some ⟨bb, 0, none⟩)), (9, vo), (38, .slice A7 left.length c7), (39, .int .i64 left.length), (40, .int .i64 i)] a) (left.length) ?_ ?_
        · exact fun a ha => ⟨0, rfl, by omega, fr, RLx, LBx, BBx, OL, OO, fun j m hj => by omega, ha.sub ⟨rfl, rfl, rfl, rfl, rfl, rfl, trivial⟩⟩
        · rintro mm2 a w121 ⟨i, rfl, hi, fr, RLx, LBx, BBx, OL, OO, hall, ha⟩
          refine CW.at ha ?_
          have hsz := fr.size
          have hlbl := LBx.lt
          have hbbl := BBx.lt
          replace OL := OL.bound
          replace OO := OO.bound
          have hokl := OL.ok
          have hoko := OO.ok
          refine CW.seq ?_
          refine CW.region ?_
          refine WL.y rfl rfl (yi_lss rfl rfl) ?_
          refine WL.done ?_
          refine NW.next ?_
          refine CW.seq ?_
          refine CW.cond rfl (fun q_M => ?_) (fun q_M => ?_)
          · try replace q_M := of_decide_eq_true q_M
            obtain ⟨n, hx⟩ : ∃ n, left[i]? = some n := ⟨left[i]'(by omega), List.getElem?_eq_getElem (by omega)⟩
            obtain ⟨g, cap, hgv⟩ := own_some OL (by omega)
            obtain ⟨rfl, rfl⟩ : A7 = some ⟨g, 0, none⟩ ∧ c7 = cap := by simpa using hgv
            obtain ⟨A8, c8, hv8, -, -, R8, -⟩ := OL.row (by decide)
            obtain ⟨adn, hAn, hcelln⟩ := int_at R8 hx
            obtain ⟨rfl, -⟩ : some ⟨g, 0, none⟩ = A8 ∧ c7 = c8 := by simpa using hv8
            obtain rfl : (⟨g, 0, none⟩ : Addr) = adn := by injection hAn
            have hgw := hokl g rfl
            replace OL := own_new (ok' := fun k => k = g) OL (fun k hk => by have hk : some g = some k := hk; injection hk with hk; exact hk.symm)
            replace OO := own_new (ok' := fun k => vo.ownBlock = some k) OO (fun k hk => hk)
            have hg1 := hown1 g rfl
            refine CW.skip ?_
            refine NW.next ?_
            refine CW.seq ?_
            refine CW.block ?_
            refine CW.seq ?_
            refine CW.region ?_
            refine WL.y rfl rfl (yi_move rfl) ?_
            refine WL.y rfl rfl (yi_indexAddr Try.runUnderlying49 Try.sizeOf3 rfl rfl (by omega) (by omega)) ?_
            refine WL.as_ (t := 43) (v' := .pointer (some ((⟨g, 0, none⟩ : Addr).add i))) rfl (by rw [Int.toNat_natCast, Nat.mul_one]) ?_
            refine WL.y rfl rfl (yi_load1 Try.isAgg3 rfl hcelln) ?_
            refine WL.e rfl rfl (ef_alloc Try.zeroValue3) ?_
            rintro _ w127 ⟨nb, hb_nb, rfl, f124, B125, z_nb⟩
            have F128 := Only.same fr f124
            have F129 := Blk.same LBx f124
            have F130 := Blk.same BBx f124
            have F131 := Own.same OL f124
            have F132 := Own.same OO f124
            have F133 := Row.same (by decide) RLx f124
            have sz134 := f124.size
            refine WL.y rfl rfl (yi_assign rfl) ?_
            refine WL.e rfl rfl (ef_store (b := nb) Try.sizeOf3 rfl rfl B125 rfl rfl rfl) ?_
            rintro _ w138 ⟨rfl, f135, B136, z137⟩
            have F139 := Only.trans F128 f135 (fun i hi hl => by have hl : i = _ := hl; omega)
            have F140 := Blk.only F129 f135 (by show ¬ (_ = _); omega)
            have F141 := Blk.only F130 f135 (by show ¬ (_ = _); omega)
            have F142 := Own.only F131 f135 (fun k hk hok' hl => by have hl : k = _ := hl; have hok' : k = g := hok'; omega)
            have F143 := Own.only F132 f135 (fun k hk hok' hl => by have hl : k = _ := hl; have := (hoko k hok').2; omega)
            have F144 := Row.only (by decide) F133 f135 (fun k hk hok' hl => by have hl : k = _ := hl; have := hok k hok'; omega)
            refine WL.done ?_
            refine NW.next ?_
            refine CW.seq ?_
            refine CW.region ?_
            refine WL.y rfl rfl (yi_loadB Try.isAgg83 rfl (by assumption) rfl) ?_
            refine WL.y rfl rfl (yi_makeFunc rfl rfl) ?_
            refine WL.e rfl rfl (ef_call Try.call104 rfl (containsFunc_c A' c' l _ 105 _ (fun e => decide (e.to = n) && decide (e.frm ∈ left)) _ F144 (by omega) Try.call105 (fun e w1 hw => ahead_c e nb bb n _ left _ w1 (B136.same hw) (F141.same hw) (F142.same hw)))) ?_
            rintro _ w145 ⟨rfl, f146⟩
            have F147 := Only.same F139 f146
            have F148 := Blk.same F140 f146
            have F149 := Blk.same F141 f146
            have F150 := Own.same F142 f146
            have F151 := Own.same F143 f146
            have F152 := Row.same (by decide) F144 f146
            have F153 := Blk.same B136 f146
            have sz154 := f146.size
            refine WL.y rfl rfl (yi_not rfl) ?_
            refine WL.done ?_
            refine NW.next ?_
            refine CW.cond rfl (fun q_MT => ?_) (fun q_MT => ?_)
            · try replace q_MT := of_decide_eq_true q_MT
              refine CW.seq ?_
              have fd155 : Same w145 w145.drew := Only.drew _ _
              obtain ⟨w156, hww156⟩ : ∃ wz, wz = w145.drew := ⟨_, rfl⟩
              rw [← hww156] at fd155
              have F157 := Only.same F147 fd155
              have F158 := Blk.same F148 fd155
              have F159 := Blk.same F149 fd155
              have F160 := Own.same F150 fd155
              have F161 := Own.same F151 fd155
              have F162 := Row.same (by decide) F152 fd155
              have F163 := Blk.same F153 fd155
              have sz164 := fd155.size
              refine CW.draw 10 [(0, true), (1, true), (4, true), (5, true), (6, true), (7, true), (2, false), (3, false), (8, false), (9, true), (10, false)] (fun w' => Blk w' lb _ _ ∧ Blk w' bb _ _ ∧ Blk w' nb _ _) Try_mixed (by kernel_rfl) (fun _ _ _ _ h => h) hww156 ⟨F158, F159, F163⟩ ?_
              refine PL.y rfl rfl rfl (fun w' hS => yi_move rfl) ?_
              refine PL.y rfl rfl rfl (fun w' hS => by first | exact yi_loadB Try.isAgg3 rfl hS.2.2 rfl) ?_
              refine PL.y rfl rfl rfl (fun w' hS => by first | exact yi_loadB Try.isAgg49 rfl hS.2.1 rfl) ?_
              refine PL.y rfl rfl rfl (fun w' hS => yi_move rfl) ?_
              refine PL.y rfl rfl rfl (fun w' hS => yi_move rfl) ?_
              refine PL.y rfl rfl rfl (fun w' hS => yi_addI rfl rfl (by omega) (by omega)) ?_
              refine PL.e rfl rfl rfl (ef_buildSlice Try.runUnderlying49 Try.sizeOf3 Try.zeroValue3 rfl (fun _ => by kernel_rfl)) ?_
              rintro _ w170 ⟨xb, hb_xb, rfl, f167, B168, z_xb⟩
              have F171 := Only.same F157 f167
              have F172 := Blk.same F158 f167
              have F173 := Blk.same F159 f167
              have F174 := Own.same F160 f167
              have F175 := Own.same F161 f167
              have F176 := Row.same (by decide) F162 f167
              have F177 := Blk.same F163 f167
              have sz178 := f167.size
              refine ⟨fun _ => ⟨F172, F173, F177⟩, ?_⟩
              have hone : Row dI _ (fun k => k = xb) (some ⟨xb, 0, none⟩) [n] := Row.one B168 rfl rfl
              refine PL.e rfl rfl rfl (ef_appendOwn (k := 1) dI Try.runUnderlying49 (notInt Try.runUnderlying49) Try.typeInfo3 Try.zeroValue3 rfl rfl rfl rfl F175 rfl hone (fun k hk hok he => by have hok : k = xb := hok; have := (hoko k he).2; omega) (by decide) (by omega) (by show (_ + 1) * 8 ≤ _; omega)) ?_
              rintro u9 w179 ⟨hO9, f180, hu9⟩
              have F181 := Only.trans F171 f180 (fun i hi hl => by have := (hoko i hl).1; omega)
              have F182 := Blk.only F172 f180 (fun hl => (hown2 _ hl).1 rfl)
              have F183 := Blk.only F173 f180 (fun hl => (hown2 _ hl).2.1 rfl)
              have F184 := Own.only F174 f180 (fun k hk hok' hl => (hown2 k hl).2.2 (by have hok' : k = g := hok'; rw [hok']; rfl))
              have F185 := Row.only (by decide) F176 f180 (fun k hk hok' hl => by have := hok k hok'; have := (hoko k hl).1; omega)
              have F186 := Blk.only F177 f180 (fun hl => by have := (hoko _ hl).2; omega)
              have sz187 := f180.size
              have hO9b := own_new (ok' := fun k => u9.ownBlock = some k) hO9 (fun k hk => hk)
              have hok9 : ∀ k, u9.ownBlock = some k → w.heap.size ≤ k ∧ k ≠ lb ∧ k ≠ bb ∧ k ≠ g := fun k hk => hu9.elim (fun h => ⟨(hoko k (h ▸ hk)).1, (hown2 k (h ▸ hk)).1, (hown2 k (h ▸ hk)).2.1, fun e => (hown2 k (h ▸ hk)).2.2 (by rw [e]; rfl)⟩) (fun h => by rw [h] at hk; injection hk with hk; omega)
              refine ⟨fun _ => ⟨F182, F183, F186⟩, ?_⟩
              refine PL.e rfl rfl rfl (ef_call Try.call106 rfl (deleteI_c F184 (List.getElem?_eq_some_iff.1 hx).1)) ?_
              rintro _ w188 ⟨rfl, hD, f189⟩
              have F190 := Only.trans F181 f189 (fun i hi hl => by have hl : i = g := hl; omega)
              have F191 := Blk.only F182 f189 (fun hl => hg1.1 hl.symm)
              have F192 := Blk.only F183 f189 (fun hl => hg1.2 hl.symm)
              have F193 := Row.only (by decide) F185 f189 (fun k hk hok' hl => by have hl : k = g := hl; have := hok k hok'; omega)
              have F194 := Blk.only F186 f189 (fun hl => by have hl : nb = g := hl; omega)
              have F195 := Own.only hO9b f189 (fun k hk hok' hl => (hok9 k hok').2.2.2 hl)
              have sz196 := f189.size
              refine ⟨fun _ => ⟨F191, F192, F194⟩, ?_⟩
              refine PL.y rfl rfl rfl (fun w' hS => yi_assign rfl) ?_
              refine PL.z rfl rfl rfl rfl rfl (ef_store (b := bb) Try.sizeOf49 rfl rfl F192 rfl rfl rfl) ?_
              rintro _ w200 ⟨rfl, f197, B198, z199⟩
              have F201 := Only.trans F190 f197 (fun i hi hl => by have hl : i = _ := hl; omega)
              have F202 := Blk.only F191 f197 (fun hl => by have hl : lb = bb := hl; omega)
              have F203 := Row.only (by decide) F193 f197 (fun k hk hok' hl => by have hl : k = _ := hl; have := hok k hok'; omega)
              have F204 := Blk.only F194 f197 (by show ¬ (_ = _); omega)
              have F205 := Own.only F195 f197 (fun k hk hok' hl => (hok9 k hok').2.2.1 hl)
              have F206 := Own.only hD f197 (fun k hk hok' hl => by have hl : k = _ := hl; have hok' : k = g := hok'; exact hg1.2 (hok'.symm.trans hl))
              refine PL.done ?_
              refine NW.next ?_
              refine CW.exit ?_
              refine NW.blockMiss rfl ?_
              refine NW.thenExit ?_
              refine NW.thenExit ?_
              refine NW.blockMiss rfl ?_
              refine NW.thenExit ?_
              refine NW.blockHit ?_
              refine NW.round ((left.eraseIdx i).length) (by rw [List.length_eraseIdx, if_pos (List.getElem?_eq_some_iff.1 hx).1]; omega) ?_
              have hnone : hasAhead l left n = false := by simpa [hasAhead] using q_MT
              exact fun a ha => ⟨_, _, _, _, rfl, F201, F203, F202, B198, F206.mono (fun k hk => by have hk : k = g := hk; omega), F205.mono (fun k hk => (hok9 k hk).1), (fun k hk => by have hk : some g = some k := hk; injection hk with hk; exact hk ▸ hg1), (fun k hk => ⟨(hok9 k hk).2.1, (hok9 k hk).2.2.1, fun e => (hok9 k hk).2.2.2 (by have e : some g = some k := e; injection e with e; exact e.symm)⟩), by rw [← ord_step hx hall hnone]; exact hrun, by rw [List.length_append, List.length_eraseIdx, if_pos (List.getElem?_eq_some_iff.1 hx).1]; simp; omega, ha.sub ⟨rfl, rfl, rfl, trivial⟩⟩
            · try replace q_MT := of_decide_eq_false q_MT
              refine CW.skip ?_
              refine NW.blockEnd ?_
              refine NW.next ?_
              refine CW.region ?_
              refine WL.y rfl rfl (yi_addI rfl rfl (by omega) (by omega)) ?_
              refine WL.y rfl rfl (yi_move rfl) ?_
              refine WL.done ?_
              refine NW.round (left.length - (i + 1)) (by omega) ?_
              exact fun a ha => ⟨i + 1, rfl, by omega, F147, F152, F148, F149, F150.mono (fun k hk => by have hk : k = g := hk; omega), F151.mono (fun k hk => (hoko k hk).1), (fun j m hj h => if h9 : j = i then by subst h9; rw [hx] at h; injection h with h; rw [← h]; simpa [hasAhead] using q_MT else hall j m (by omega) h), ha.sub ⟨rfl, rfl, rfl, rfl, rfl, rfl, trivial⟩⟩
          · try replace q_M := of_decide_eq_false q_M
            refine CW.exit ?_
            refine NW.thenExit ?_
            refine NW.thenExit ?_
            refine NW.blockHit ?_
            refine NW.next ?_
            refine CW.seq ?_
            refine CW.region ?_
            refine WL.y rfl rfl (yi_assign rfl) ?_
            refine WL.y rfl rfl (yi_assign rfl) ?_
            refine WL.done ?_
            refine NW.next ?_
            refine CW.ret ?_
            refine NW.blockRet ?_
            refine NW.thenRet ?_
            refine NW.blockRet ?_
            refine NW.thenRet ?_
            refine NW.scopeRet ?_
            refine NW.ret2 rfl rfl rfl ?_
            have hst := ord_stuck (L := l) (out := out) (left := left) (by omega) (fun m hm => by obtain ⟨j, hj, e⟩ := List.getElem_of_mem hm; exact hall j m (by omega) (by rw [List.getElem?_eq_getElem hj, e]))
            exact ⟨_, rfl, _, _, rfl, fr, .inr ⟨by rw [hres, ← hrun, hst], rfl, rfl⟩⟩
      · try replace q_L := of_decide_eq_false q_L
        refine CW.exit ?_
        refine NW.thenExit ?_
        refine NW.thenExit ?_
        refine NW.blockHit ?_
        refine NW.next ?_
        refine CW.seq ?_
        refine CW.region ?_
        refine WL.y rfl rfl (yi_move rfl) ?_
        refine WL.y rfl rfl (yi_assign rfl) ?_
        refine WL.y rfl rfl (yi_assign rfl) ?_
        refine WL.done ?_
        refine NW.next ?_
        refine CW.ret ?_
        refine NW.scopeRet ?_
        refine NW.ret2 rfl rfl rfl ?_
        have h0 : left = [] := List.eq_nil_of_length_eq_zero (by omega)
        rw [h0] at hrun
        simp only [List.length_nil, ordLoop] at hrun
        exact ⟨_, rfl, _, _, rfl, fr, .inl ⟨out, by rw [hres, ← hrun], rfl, OO⟩⟩

end Go.Proofs.YtgmjgdjobkmbgaaN
