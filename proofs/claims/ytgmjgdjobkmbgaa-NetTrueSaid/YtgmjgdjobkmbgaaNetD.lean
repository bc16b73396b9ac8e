/- The net: a parcel dropped, told, doubled, changed. -/
import Derived.Test.YtgmjgdjobkmbgaaNetC
import Derived.Test.YtgmjgdjobkmbgaaSet
set_option linter.unusedVariables false
set_option linter.unusedSimpArgs false
namespace Go.Proofs.YtgmjgdjobkmbgaaN
open Go.Proofs.YtgmjgdjobkmbgaaL Go.RowKit Go.Proofs
attribute [local irreducible] Ef Yi WL PL CW NW Ret
/-- Of a net with parcels: its row, opened. -/
theorem NetAt.opened {w : World} {b : Nat} {m : Int} {F : Nat → Prop} {L : List Par} (h : NetAt w b m F L) (h0 : 0 < L.length) : ∃ g cap cs rest, Blk w b #[.int .i64 m, .slice (some ⟨g, 0, none⟩) L.length cap] 98 ∧ F b ∧ L.length ≤ 4096 ∧ (∀ p ∈ L, p.bytes.length ≤ 70000) ∧ Opened dPar 35 w (fun k => F k ∧ k ≠ b) g cap L cs rest := by
  obtain ⟨v, B, hF, O, h1, h2⟩ := h
  obtain ⟨g, cap, cs, rest, hv, OO⟩ := O.opened h0
  subst hv
  exact ⟨g, cap, cs, rest, B, hF, h1, h2, OO⟩
theorem par_of {w : World} {ok : Nat → Prop} {g cap : Nat} {L : List Par} {cs rest : List Value} (O : Opened dPar 35 w ok g cap L cs rest) {i : Nat} {p : Par} (hp : L[i]? = some p) :
    ∃ A c, Seg w (some ⟨g, i * 4, none⟩) [.int .i64 p.frm, .int .i64 p.to, .slice A p.bytes.length c, .bool p.whole] ∧ p.bytes.length ≤ c ∧ c ≤ 9223372036854775807 ∧ Row dU8 w (fun k => ok k ∧ k ≠ g) A p.bytes := by
  obtain ⟨c0, hK, hl, hc⟩ := O.cell hp
  obtain ⟨A, c, e, h1, h2, R⟩ := dPar_K hK
  subst e
  exact ⟨A, c, Seg.ofBlk O.hblk _ _ fun j u hu => hc j u hu, h1, h2, R⟩

theorem drop1_c (b nb ib g cap M i : Nat) (m : Int) (F : Nat → Prop) (L : List Par) (x : Value) (w : World) (B : Blk w b #[.int .i64 m, .slice (some ⟨g, 0, none⟩) (M + 1 : Nat) cap] 98) (NB : Blk w nb #[.pointer (some ⟨b, 0, none⟩)] 23) (IB : Blk w ib #[.int .i64 i] 3) (hFb : F b) (O : Own dPar 35 w (fun k => F k ∧ k ≠ b) (.slice (some ⟨g, 0, none⟩) (M + 1) cap) L) (hn : L.length = M + 1) (hi : i ≤ M) (hl : L.length ≤ 4096) (hbs : ∀ p ∈ L, p.bytes.length ≤ 70000) (hgn : g < nb) (hgi : g < ib) (hbn : b < nb) (hbi : b < ib) :
    Ret Try.prog 63 [x, .pointer (some ⟨nb, 0, none⟩), .pointer (some ⟨ib, 0, none⟩)] w fun u w' => u = .int .i64 0 ∧ NetAt w' b m F (L.eraseIdx i) ∧ Only F w w' := by
  have hg : F g ∧ g ≠ b := O.ok g rfl
  have hglt : g < w.heap.size := O.lt g rfl
  have fr0 : Only F w w := Only.refl _ _
  refine Ret.go Try.func63 rfl Try.ntmps63 rfl ?_
  refine CW.seq ?_
  refine CW.region ?_
  refine WL.y rfl rfl (yi_assign rfl) ?_
  refine WL.done ?_
  refine NW.next ?_
  refine CW.seq ?_
  have fd1 : Same w w.drew := Only.drew _ _
  obtain ⟨w2, hww2⟩ : ∃ w1, w1 = w.drew := ⟨_, rfl⟩
  rw [← hww2] at fd1
  have F3 := Blk.same B fd1
  have F4 := Blk.same NB fd1
  have F5 := Blk.same IB fd1
  have F6 := Own.same O fd1
  have F7 := Only.same fr0 fd1
  have sz8 := fd1.size
  refine CW.draw 11 [(0, true), (1, true), (2, true), (3, true), (4, true), (5, true), (6, true), (7, true), (8, false), (9, true), (10, true), (11, false)] (fun w' => Blk w' b _ _ ∧ Blk w' nb _ _ ∧ Blk w' ib _ _) Try_mixed (by kernel_rfl) (fun _ _ _ _ h => h) hww2 ⟨F3, F4, F5⟩ ?_
  refine PL.y rfl rfl rfl (fun w' hS => by first | exact yi_loadB Try.isAgg23 rfl hS.1 rfl | exact yi_loadB Try.isAgg23 rfl hS.2.1 rfl | exact yi_loadB Try.isAgg23 rfl hS.2.2 rfl) ?_
  refine PL.y rfl rfl rfl (fun w' hS => by first | exact yi_loadB Try.isAgg23 rfl hS.1 rfl | exact yi_loadB Try.isAgg23 rfl hS.2.1 rfl | exact yi_loadB Try.isAgg23 rfl hS.2.2 rfl) ?_
  refine PL.y rfl rfl rfl (fun w' hS => yi_nilCheck rfl) ?_
  refine PL.y rfl rfl rfl (fun w' hS => yi_fieldAddr Try.runUnderlying98 rfl Try.sizeOf96 rfl) ?_
  refine PL.y rfl rfl rfl (fun w' hS => by first | exact yi_loadB Try.isAgg96 rfl hS.1 rfl | exact yi_loadB Try.isAgg96 rfl hS.2.1 rfl | exact yi_loadB Try.isAgg96 rfl hS.2.2 rfl) ?_
  refine PL.y rfl rfl rfl (fun w' hS => by first | exact yi_loadB Try.isAgg3 rfl hS.1 rfl | exact yi_loadB Try.isAgg3 rfl hS.2.1 rfl | exact yi_loadB Try.isAgg3 rfl hS.2.2 rfl) ?_
  refine PL.y rfl rfl rfl (fun w' hS => by first | exact yi_loadB Try.isAgg3 rfl hS.1 rfl | exact yi_loadB Try.isAgg3 rfl hS.2.1 rfl | exact yi_loadB Try.isAgg3 rfl hS.2.2 rfl) ?_
  refine PL.y rfl rfl rfl (fun w' hS => yi_addI rfl rfl (by omega) (by omega)) ?_
  refine PL.e rfl rfl rfl (ef_call Try.call64 rfl (delete_c g cap M i L _ _ F6 hn hi)) ?_
  rintro _ w9 ⟨rfl, hO, f10⟩
  have F11 := Blk.only F3 f10 (fun hl => hg.2 hl.symm)
  have F12 := Blk.only F4 f10 (fun hl => by have hl : nb = g := hl; omega)
  have F13 := Blk.only F5 f10 (fun hl => by have hl : ib = g := hl; omega)
  have F14 := Only.trans F7 f10 (fun i hi hl => by have hl : i = g := hl; exact hl ▸ hg.1)
  have sz15 := f10.size
  refine ⟨fun _ => ⟨F11, F12, F13⟩, ?_⟩
  refine PL.y rfl rfl rfl (fun w' hS => yi_nilCheck rfl) ?_
  refine PL.y rfl rfl rfl (fun w' hS => yi_fieldAddr Try.runUnderlying98 rfl Try.sizeOf96 rfl) ?_
  refine PL.z rfl rfl rfl rfl rfl (ef_store (b := b) Try.sizeOf96 rfl rfl F11 rfl rfl rfl) ?_
  rintro _ w19 ⟨rfl, f16, B17, z18⟩
  have F20 := Blk.only F12 f16 (by show ¬ (_ = _); omega)
  have F21 := Blk.only F13 f16 (by show ¬ (_ = _); omega)
  have F22 := Only.trans F14 f16 (fun i hi hl => by have hl : i = _ := hl; subst hl; exact hFb)
  have F23 := Own.only hO f16 (fun k hk hok hl => by have hl : k = _ := hl; subst hl; exact hok.2 rfl)
  refine PL.done ?_
  refine NW.next ?_
  refine CW.seq ?_
  refine CW.region ?_
  refine WL.y rfl rfl (yi_assign rfl) ?_
  refine WL.done ?_
  refine NW.next ?_
  refine CW.ret ?_
  refine NW.ret1 rfl rfl ?_
  have Bn : Blk _ b #[.int .i64 m, .slice (some ⟨g, 0, none⟩) M cap] 98 := B17
  refine ⟨_, rfl, rfl, ⟨_, Bn, hFb, F23, by rw [List.length_eraseIdx]; split <;> omega, fun p hp => hbs p (List.mem_of_mem_eraseIdx hp)⟩, F22⟩

theorem drop_in (b i : Nat) (m : Int) (F : Nat → Prop) (L : List Par) (w : World) (hN : NetAt w b m F L) (hm : 1 ≤ m) (hi : i < L.length) :
    Ret Try.prog 13 [.pointer (some ⟨b, 0, none⟩), .int .i64 i] w fun u w' => u = .int .i64 0 ∧ NetAt w' b m (grow F w) (L.eraseIdx i) ∧ Only F w w' := by
  obtain ⟨g, cap, cs, rest, B, hFb, hl, hbs, OO⟩ := hN.opened (by omega)
  have hBlt := B.lt
  obtain ⟨M, hn⟩ : ∃ M, L.length = M + 1 := ⟨L.length - 1, by omega⟩
  have O := OO.own.bound
  have hg : g < w.heap.size := OO.hblk.lt
  rw [hn] at O B
  have fr0 : Only F w w := Only.refl _ _
  refine Ret.go Try.func13 rfl Try.ntmps13 rfl ?_
  refine CW.seq ?_
  refine CW.region ?_
  refine WL.e rfl rfl (ef_box rfl) ?_
  rintro _ w6 ⟨nb, hb_nb, rfl, f3, B4, z_nb⟩
  have F7 := Blk.same B f3
  have F8 := Own.same O f3
  have F9 := Only.same fr0 f3
  have sz10 := f3.size
  refine WL.e rfl rfl (ef_box rfl) ?_
  rintro _ w16 ⟨ib, hb_ib, rfl, f13, B14, z_ib⟩
  have F17 := Blk.same F7 f13
  have F18 := Own.same F8 f13
  have F19 := Only.same F9 f13
  have F20 := Blk.same B4 f13
  have sz21 := f13.size
  refine WL.y rfl rfl (yi_assign rfl) ?_
  refine WL.done ?_
  refine NW.next ?_
  refine CW.seq ?_
  refine CW.region ?_
  refine WL.y rfl rfl (yi_loadB Try.isAgg23 rfl (by assumption) rfl) ?_
  refine WL.y rfl rfl (yi_loadB Try.isAgg3 rfl (by assumption) rfl) ?_
  refine WL.y rfl rfl (yi_makeFunc rfl rfl) ?_
  refine WL.e rfl rfl (ef_call Try.call62 rfl (at_in b m i ⟨g, 0, none⟩ _ cap 63 _ _ _ _ F17 hm (by omega) (by omega) Try.call63 (drop1_c b nb ib g cap M i m (fun k => F k ∧ k < w.heap.size) L _ _ F17 F20 B14 ⟨hFb, hBlt⟩ (Own.mono (fun k hk => ⟨⟨hk.1.1, hk.2⟩, hk.1.2⟩) F18) hn (by omega) hl hbs (by omega) (by omega) (by omega) (by omega)))) ?_
  rintro _ w22 ⟨rfl, hN', f23⟩
  have F24 := Only.trans F19 f23 (fun i hi hl => hl.1)
  have sz25 := f23.size
  refine WL.y rfl rfl (yi_assign rfl) ?_
  refine WL.done ?_
  refine NW.next ?_
  refine CW.ret ?_
  refine NW.ret1 rfl rfl ?_
  exact ⟨_, rfl, rfl, hN'.mono (fun k hk => .inl hk.1), F24⟩

theorem drop_out (b : Nat) (i m : Int) (F : Nat → Prop) (L : List Par) (w : World) (hN : NetAt w b m F L) (hm : 1 ≤ m) (hi : ¬ (0 ≤ i ∧ i < L.length)) :
    Ret Try.prog 13 [.pointer (some ⟨b, 0, none⟩), .int .i64 i] w fun u w' => u = .int .i64 6 ∧ Same w w' := by
  obtain ⟨v, B, hFb, O, hl, hbs⟩ := hN
  obtain ⟨A0, c0, hv, hc0, hm0, R0, hA0⟩ := O.row (by decide)
  subst hv
  have hBlt := B.lt
  have fr0 : Only (fun _ => False) w w := Only.refl _ _
  refine Ret.go Try.func13 rfl Try.ntmps13 rfl ?_
  refine CW.seq ?_
  refine CW.region ?_
  refine WL.e rfl rfl (ef_box rfl) ?_
  rintro _ w6 ⟨nb, hb_nb, rfl, f3, B4, z_nb⟩
  have F7 := Blk.same B f3
  have F8 := Only.same fr0 f3
  have sz9 := f3.size
  refine WL.e rfl rfl (ef_box rfl) ?_
  rintro _ w15 ⟨ib, hb_ib, rfl, f12, B13, z_ib⟩
  have F16 := Blk.same F7 f12
  have F17 := Only.same F8 f12
  have F18 := Blk.same B4 f12
  have sz19 := f12.size
  refine WL.y rfl rfl (yi_assign rfl) ?_
  refine WL.done ?_
  refine NW.next ?_
  refine CW.seq ?_
  refine CW.region ?_
  refine WL.y rfl rfl (yi_loadB Try.isAgg23 rfl (by assumption) rfl) ?_
  refine WL.y rfl rfl (yi_loadB Try.isAgg3 rfl (by assumption) rfl) ?_
  refine WL.y rfl rfl (yi_makeFunc rfl rfl) ?_
  refine WL.e rfl rfl (ef_call Try.call62 rfl (at_out b m i A0 _ c0 63 _ _ _ F16 hm hi)) ?_
  rintro _ w20 ⟨rfl, rfl⟩
  refine WL.y rfl rfl (yi_assign rfl) ?_
  refine WL.done ?_
  refine NW.next ?_
  refine CW.ret ?_
  refine NW.ret1 rfl rfl ?_
  exact ⟨_, rfl, rfl, F17⟩

theorem at1_c (xb g i : Nat) (p : Par) (A : Option Addr) (c : Nat) (ok : Nat → Prop) (c0 c1 c2 c3 : Value) (w : World) (X : Blk w xb #[c0, c1, c2, c3] 35) (E : Seg w (some ⟨g, i * 4, none⟩) [.int .i64 p.frm, .int .i64 p.to, .slice A p.bytes.length c, .bool p.whole]) (R : Row dU8 w ok A p.bytes) (hc : p.bytes.length ≤ c) (hb : p.bytes.length ≤ 140737488355328) :
    Ret Try.prog 123 [.pointer (some ⟨g, i * 4, none⟩), .pointer (some ⟨xb, 0, none⟩)] w fun u w' => u = .int .i64 0 ∧ ∃ A' c', Blk w' xb #[.int .i64 p.frm, .int .i64 p.to, .slice A' p.bytes.length c', .bool p.whole] 35 ∧ p.bytes.length ≤ c' ∧ c' ≤ 9223372036854775807 ∧ Row dU8 w' (fun k => w.heap.size ≤ k) A' p.bytes ∧ Only (fun k => k = xb) w w' := by
  have hxb := X.lt
  replace R := Row.bound (by decide) R
  have fr0 : Only (fun k => k = xb) w w := Only.refl _ _
  refine Ret.go Try.func123 rfl Try.ntmps123 rfl ?_
  refine CW.seq ?_
  refine CW.region ?_
  refine WL.y rfl rfl (yi_assign rfl) ?_
  refine WL.done ?_
  refine NW.next ?_
  refine CW.seq ?_
  refine CW.region ?_
  refine WL.y rfl rfl (yi_move rfl) ?_
  refine WL.y rfl rfl (yi_nilCheck rfl) ?_
  refine WL.y rfl rfl (yi_loadA (cs := [.int .i64 p.frm, .int .i64 p.to, .slice A p.bytes.length c, .bool p.whole]) Try.isAgg35 Try.sizeOf35 rfl rfl (Seg.get E)) ?_
  refine WL.e rfl rfl (ef_call Try.call122 rfl (apart_c p A c _ _ R hc hb)) ?_
  rintro _ w1 ⟨A', c', rfl, hc', hm', RR3, f2⟩
  have F4 := Blk.same X f2
  have F5 := Seg.same E f2
  have F6 := Row.same (by decide) R f2
  have F7 := Only.same fr0 f2
  have sz8 := f2.size
  refine WL.e rfl rfl (ef_store (b := xb) Try.sizeOf35 rfl rfl F4 rfl rfl rfl) ?_
  rintro _ w12 ⟨rfl, f9, B10, z11⟩
  have F13 := Only.trans F7 f9 (fun i hi hl => hl)
  have F14 := Row.only (by decide) RR3 f9 (fun k hk hok hl => by have hl : k = _ := hl; omega)
  refine WL.done ?_
  refine NW.next ?_
  refine CW.seq ?_
  refine CW.region ?_
  refine WL.y rfl rfl (yi_assign rfl) ?_
  refine WL.done ?_
  refine NW.next ?_
  refine CW.ret ?_
  refine NW.ret1 rfl rfl ?_
  have Xn : Blk _ xb #[.int .i64 p.frm, .int .i64 p.to, .slice A' p.bytes.length c', .bool p.whole] 35 := B10
  exact ⟨_, rfl, rfl, A', c', Xn, hc', hm', Row.mono (fun k hk => by omega) F14, F13⟩

theorem tell_in (b i : Nat) (m : Int) (F : Nat → Prop) (L : List Par) (p : Par) (w : World) (hN : NetAt w b m F L) (hm : 1 ≤ m) (hp : L[i]? = some p) :
    Ret Try.prog 61 [.pointer (some ⟨b, 0, none⟩), .int .i64 i] w fun u w' => ∃ A' c', u = .tuple #[.agg #[.int .i64 p.frm, .int .i64 p.to, .slice A' p.bytes.length c', .bool p.whole], .int .i64 0] ∧ p.bytes.length ≤ c' ∧ c' ≤ 9223372036854775807 ∧ Row dU8 w' (fun k => w.heap.size ≤ k) A' p.bytes ∧ Same w w' := by
  have hi := (List.getElem?_eq_some_iff.1 hp).1
  obtain ⟨g, cap, cs, rest, B, hFb, hl, hbs, OO⟩ := hN.opened (by omega)
  have hBlt := B.lt
  have hg : g < w.heap.size := OO.hblk.lt
  obtain ⟨A, c, E, hc, hm0, R⟩ := par_of OO hp
  have hpb := hbs p (List.mem_of_getElem? hp)
  replace R := Row.bound (by decide) R
  have fr0 : Only (fun _ => False) w w := Only.refl _ _
  refine Ret.go Try.func61 rfl Try.ntmps61 rfl ?_
  refine CW.seq ?_
  refine CW.region ?_
  refine WL.e rfl rfl (ef_alloc Try.zeroValue35) ?_
  rintro _ w6 ⟨xb, hb_xb, rfl, f3, B4, z_xb⟩
  have F7 := Blk.same B f3
  have F8 := Seg.same E f3
  have F9 := Row.same (by decide) R f3
  have F10 := Only.same fr0 f3
  have sz11 := f3.size
  refine WL.y rfl rfl (yi_assign rfl) ?_
  refine WL.done ?_
  refine NW.next ?_
  refine CW.seq ?_
  refine CW.region ?_
  refine WL.y rfl rfl (yi_move rfl) ?_
  refine WL.y rfl rfl (yi_move rfl) ?_
  refine WL.y rfl rfl (yi_makeFunc rfl rfl) ?_
  refine WL.e rfl rfl (ef_call Try.call62 rfl (at_in b m i ⟨g, 0, none⟩ _ cap 123 _ _ _ _ F7 hm (by omega) (by omega) Try.call123 (by rw [addr_at, Int.toNat_natCast, Nat.zero_add]; exact at1_c xb g i p A c _ _ _ _ _ _ B4 F8 F9 hc (by omega)))) ?_
  rintro _ w12 ⟨rfl, A', c', X14, hc', hm', RR15, f13⟩
  have F16 := Blk.only F7 f13 (fun hl => by have hl : b = xb := hl; omega)
  have F17 := Only.trans F10 f13 (fun i hi hl => by have hl : i = xb := hl; omega)
  have sz18 := f13.size
  refine WL.y rfl rfl (yi_assign rfl) ?_
  refine WL.done ?_
  refine NW.next ?_
  refine CW.seq ?_
  refine CW.region ?_
  refine WL.y rfl rfl (yi_loadW Try.isAgg35 Try.sizeOf35 rfl (by assumption) rfl) ?_
  refine WL.y rfl rfl (yi_move rfl) ?_
  refine WL.e rfl rfl (ef_store (b := xb) Try.sizeOf35 rfl rfl X14 rfl rfl rfl) ?_
  rintro _ w22 ⟨rfl, f19, B20, z21⟩
  have F23 := Blk.only F16 f19 (by show ¬ (_ = _); omega)
  have F24 := Only.trans F17 f19 (fun i hi hl => by have hl : i = _ := hl; omega)
  have F25 := Row.only (by decide) RR15 f19 (fun k hk hok hl => by have hl : k = _ := hl; omega)
  refine WL.y rfl rfl (yi_assign rfl) ?_
  refine WL.done ?_
  refine NW.next ?_
  refine CW.ret ?_
  refine NW.retCT rfl rfl rfl Try.isAgg35 Try.sizeOf35 B20 rfl ?_
  exact ⟨_, rfl, A', c', rfl, hc', hm', Row.mono (fun k hk => by omega) F25, F24⟩

theorem tell_out (b : Nat) (i m : Int) (F : Nat → Prop) (L : List Par) (w : World) (hN : NetAt w b m F L) (hm : 1 ≤ m) (hi : ¬ (0 ≤ i ∧ i < L.length)) :
    Ret Try.prog 61 [.pointer (some ⟨b, 0, none⟩), .int .i64 i] w fun u w' => u = .tuple #[.agg #[.int .i64 0, .int .i64 0, .slice none 0 0, .bool false], .int .i64 6] ∧ Same w w' := by
  obtain ⟨v, B, hFb, O, hl, hbs⟩ := hN
  obtain ⟨A0, c0, hv, hc0, hm0, R0, hA0⟩ := O.row (by decide)
  subst hv
  have hBlt := B.lt
  have fr0 : Only (fun _ => False) w w := Only.refl _ _
  refine Ret.go Try.func61 rfl Try.ntmps61 rfl ?_
  refine CW.seq ?_
  refine CW.region ?_
  refine WL.e rfl rfl (ef_alloc Try.zeroValue35) ?_
  rintro _ w6 ⟨xb, hb_xb, rfl, f3, B4, z_xb⟩
  have F7 := Blk.same B f3
  have F8 := Only.same fr0 f3
  have sz9 := f3.size
  refine WL.y rfl rfl (yi_assign rfl) ?_
  refine WL.done ?_
  refine NW.next ?_
  refine CW.seq ?_
  refine CW.region ?_
  refine WL.y rfl rfl (yi_move rfl) ?_
  refine WL.y rfl rfl (yi_move rfl) ?_
  refine WL.y rfl rfl (yi_makeFunc rfl rfl) ?_
  refine WL.e rfl rfl (ef_call Try.call62 rfl (at_out b m i A0 _ c0 123 _ _ _ F7 hm hi)) ?_
  rintro _ w10 ⟨rfl, rfl⟩
  refine WL.y rfl rfl (yi_assign rfl) ?_
  refine WL.done ?_
  refine NW.next ?_
  refine CW.seq ?_
  refine CW.region ?_
  refine WL.y rfl rfl (yi_loadW Try.isAgg35 Try.sizeOf35 rfl (by assumption) rfl) ?_
  refine WL.y rfl rfl (yi_move rfl) ?_
  refine WL.e rfl rfl (ef_store (b := xb) Try.sizeOf35 rfl rfl B4 rfl rfl rfl) ?_
  rintro _ w15 ⟨rfl, f12, B13, z14⟩
  have F16 := Blk.only F7 f12 (by show ¬ (_ = _); omega)
  have F17 := Only.trans F8 f12 (fun i hi hl => by have hl : i = _ := hl; omega)
  refine WL.y rfl rfl (yi_assign rfl) ?_
  refine WL.done ?_
  refine NW.next ?_
  refine CW.ret ?_
  refine NW.retCT rfl rfl rfl Try.isAgg35 Try.sizeOf35 B13 rfl ?_
  exact ⟨_, rfl, rfl, F17⟩

theorem deliver_in (b i : Nat) (m : Int) (F : Nat → Prop) (L : List Par) (p : Par) (w : World) (hN : NetAt w b m F L) (hm : 1 ≤ m) (hp : L[i]? = some p) :
    Ret Try.prog 12 [.pointer (some ⟨b, 0, none⟩), .int .i64 i] w fun u w' => ∃ A' c', u = .tuple #[.agg #[.int .i64 p.frm, .int .i64 p.to, .slice A' p.bytes.length c', .bool p.whole], .int .i64 0] ∧ p.bytes.length ≤ c' ∧ c' ≤ 9223372036854775807 ∧ Row dU8 w' (fun k => w.heap.size ≤ k) A' p.bytes ∧ (∃ z, w.heap.size ≤ z ∧ z ≤ w'.heap.size ∧ Row dU8 w' (fun k => w.heap.size ≤ k ∧ k < z) A' p.bytes ∧ NetAt w' b m (fun k => F k ∨ z ≤ k) (L.eraseIdx i)) ∧ Only F w w' := by
  have hi := (List.getElem?_eq_some_iff.1 hp).1
  have hN0 := hN
  obtain ⟨v, B, hFb, -, -, -⟩ := hN0
  have hBlt := B.lt
  replace hN := hN.bound
  have fr0 : Only F w w := Only.refl _ _
  refine Ret.go Try.func12 rfl Try.ntmps12 rfl ?_
  refine CW.seq ?_
  refine CW.region ?_
  refine WL.e rfl rfl (ef_alloc Try.zeroValue35) ?_
  rintro _ w6 ⟨xb, hb_xb, rfl, f3, B4, z_xb⟩
  have F7 := NetAt.same hN f3
  have F8 := Only.same fr0 f3
  have sz9 := f3.size
  refine WL.y rfl rfl (yi_assign rfl) ?_
  refine WL.done ?_
  refine NW.next ?_
  refine CW.seq ?_
  refine CW.region ?_
  refine WL.y rfl rfl (yi_move rfl) ?_
  refine WL.y rfl rfl (yi_move rfl) ?_
  refine WL.e rfl rfl (ef_call Try.call61 rfl (tell_in b i m _ L p _ F7 hm hp)) ?_
  rintro _ w10 ⟨A', c', rfl, hc', hm', RR12, f11⟩
  have RB13 := Row.bound (by decide) RR12
  have F14 := NetAt.same F7 f11
  have F15 := Only.same F8 f11
  have F16 := Blk.same B4 f11
  have sz17 := f11.size
  refine WL.y rfl rfl (yi_move rfl) ?_
  refine WL.y rfl rfl (yi_extract rfl rfl) ?_
  refine WL.y rfl rfl (yi_extract rfl rfl) ?_
  refine WL.e rfl rfl (ef_alloc Try.zeroValue35) ?_
  rintro _ w23 ⟨yb, hb_yb, rfl, f20, B21, z_yb⟩
  have F24 := NetAt.same F14 f20
  have F25 := Only.same F15 f20
  have F26 := Blk.same F16 f20
  have F27 := Row.same (by decide) RB13 f20
  have sz28 := f20.size
  refine WL.e rfl rfl (ef_store (b := yb) Try.sizeOf35 rfl rfl B21 rfl rfl rfl) ?_
  rintro _ w32 ⟨rfl, f29, B30, z31⟩
  have F33 := NetAt.only F24 f29 (fun k hk hok hl => by have hl : k = _ := hl; have := hok.2; omega)
  have F34 := Only.trans F25 f29 (fun i hi hl => by have hl : i = _ := hl; omega)
  have F35 := Blk.only F26 f29 (by show ¬ (_ = _); omega)
  have F36 := Row.only (by decide) F27 f29 (fun k hk hok hl => by have hl : k = _ := hl; omega)
  refine WL.y rfl rfl (yi_assign rfl) ?_
  refine WL.done ?_
  refine NW.next ?_
  refine CW.seq ?_
  have fd37 : Same w32 w32.drew := Only.drew _ _
  obtain ⟨w38, hww38⟩ : ∃ w1, w1 = w32.drew := ⟨_, rfl⟩
  rw [← hww38] at fd37
  have F39 := NetAt.same F33 fd37
  have F40 := Only.same F34 fd37
  have F41 := Blk.same F35 fd37
  have F42 := Row.same (by decide) F36 fd37
  have F43 := Blk.same B30 fd37
  have sz44 := fd37.size
  refine CW.draw 4 [(0, true), (1, true), (2, true), (3, false), (4, false), (5, false)] (fun w' => Blk w' yb _ _) Try_mixed (by kernel_rfl) (fun _ _ _ _ h => h) hww38 F43 ?_
  refine PL.y rfl rfl rfl (fun w' hS => by first | exact yi_loadW Try.isAgg35 Try.sizeOf35 rfl hS rfl) ?_
  refine PL.y rfl rfl rfl (fun w' hS => yi_move rfl) ?_
  refine PL.y rfl rfl rfl (fun w' hS => yi_move rfl) ?_
  refine PL.e rfl rfl rfl (ef_call Try.call13 rfl (drop_in b i m _ L _ F39 hm hi)) ?_
  rintro _ w45 ⟨rfl, hN', f46⟩
  obtain ⟨z, hz⟩ : ∃ z, z = w38.heap.size := ⟨_, rfl⟩
  have hzz := f46.size
  replace hN' := hN'.mono (F' := fun k => (F k ∧ k < w.heap.size) ∨ z ≤ k) (fun k hk => hk.elim (fun hk => .inl hk) (fun hk => .inr (by omega)))
  have F47 := Only.trans F40 f46 (fun i hi hl => hl.1)
  have F48 := Blk.only F41 f46 (fun hl => by have := hl.2; omega)
  have F49 := Row.only (by decide) F42 f46 (fun k hk hok hl => by have := hl.2; omega)
  have F50 := Blk.only F43 f46 (fun hl => by have := hl.2; omega)
  have sz51 := f46.size
  refine ⟨fun _ => F50, ?_⟩
  refine PL.z rfl rfl rfl rfl rfl (ef_store (b := xb) Try.sizeOf35 rfl rfl F48 rfl rfl rfl) ?_
  rintro _ w55 ⟨rfl, f52, B53, z54⟩
  have F56 := Only.trans F47 f52 (fun i hi hl => by have hl : i = _ := hl; omega)
  have F57 := Row.only (by decide) F49 f52 (fun k hk hok hl => by have hl : k = _ := hl; omega)
  have F58 := Blk.only F50 f52 (by show ¬ (_ = _); omega)
  have F59 := NetAt.only hN' f52 (fun k hk hok hl => by have hl : k = xb := hl; exact hok.elim (fun h => by have := h.2; omega) (fun h => by omega))
  refine PL.zy rfl rfl rfl rfl rfl (yi_assign rfl) ?_
  refine PL.done ?_
  refine NW.next ?_
  refine CW.ret ?_
  refine NW.retCT rfl rfl rfl Try.isAgg35 Try.sizeOf35 B53 rfl ?_
  exact ⟨_, rfl, A', c', rfl, hc', hm', Row.mono (fun k hk => by omega) F57, ⟨z, by omega, by omega, Row.mono (fun j hj => ⟨by omega, by omega⟩) F57, F59.mono (fun k hk => hk.elim (fun h => .inl h.1) .inr)⟩, F56⟩

end Go.Proofs.YtgmjgdjobkmbgaaN
