/- The net: a parcel doubled, changed; how many there are. -/
import Derived.Test.YtgmjgdjobkmbgaaNetD
set_option linter.unusedVariables false
set_option linter.unusedSimpArgs false
namespace Go.Proofs.YtgmjgdjobkmbgaaN
open Go.Proofs.YtgmjgdjobkmbgaaL Go.RowKit Go.Proofs
attribute [local irreducible] Ef Yi WL PL CW NW Ret
theorem double1_c (b nb g i : Nat) (m : Int) (F : Nat → Prop) (L : List Par) (p : Par) (A : Option Addr) (c : Nat) (ok : Nat → Prop) (w : World) (hN : NetAt w b m F L) (NB : Blk w nb #[.pointer (some ⟨b, 0, none⟩)] 23) (E : Seg w (some ⟨g, i * 4, none⟩) [.int .i64 p.frm, .int .i64 p.to, .slice A p.bytes.length c, .bool p.whole]) (R : Row dU8 w ok A p.bytes) (hc : p.bytes.length ≤ c) (hb : p.bytes.length ≤ 70000) :
    Ret Try.prog 65 [.pointer (some ⟨g, i * 4, none⟩), .pointer (some ⟨nb, 0, none⟩)] w fun u w' => u = .int .i64 (layE L) ∧ NetAt w' b m (grow F w) (layL L p) ∧ Only F w w' := by
  have fr0 : Only F w w := Only.refl _ _
  refine Ret.go Try.func65 rfl Try.ntmps65 rfl ?_
  refine CW.seq ?_
  refine CW.region ?_
  refine WL.y rfl rfl (yi_assign rfl) ?_
  refine WL.done ?_
  refine NW.next ?_
  refine CW.seq ?_
  have fd1 : Same w w.drew := Only.drew _ _
  obtain ⟨w2, hww2⟩ : ∃ w1, w1 = w.drew := ⟨_, rfl⟩
  rw [← hww2] at fd1
  have F3 := Blk.same NB fd1
  have F4 := Seg.same E fd1
  have F5 := NetAt.same hN fd1
  have F6 := Row.same (by decide) R fd1
  have F7 := Only.same fr0 fd1
  have sz8 := fd1.size
  refine CW.draw 4 [(0, true), (1, true), (2, true), (3, true), (4, false), (5, false)] (fun w' => Blk w' nb _ _ ∧ Seg w' (some ⟨g, i * 4, none⟩) [.int .i64 p.frm, .int .i64 p.to, .slice A p.bytes.length c, .bool p.whole]) Try_mixed (by kernel_rfl) (fun _ _ _ _ h => h) hww2 ⟨F3, F4⟩ ?_
  refine PL.y rfl rfl rfl (fun w' hS => by first | exact yi_loadB Try.isAgg23 rfl hS.1 rfl) ?_
  refine PL.y rfl rfl rfl (fun w' hS => yi_move rfl) ?_
  refine PL.y rfl rfl rfl (fun w' hS => yi_nilCheck rfl) ?_
  refine PL.y rfl rfl rfl (fun w' hS => yi_loadA (cs := [.int .i64 p.frm, .int .i64 p.to, .slice A p.bytes.length c, .bool p.whole]) Try.isAgg35 Try.sizeOf35 rfl rfl (Seg.get hS.2)) ?_
  refine PL.z rfl rfl rfl rfl rfl (ef_call Try.call60 rfl (lay_c b m _ L p A c _ _ F5 F6 hc hb)) ?_
  rintro _ w9 ⟨rfl, hN', f10⟩
  have F11 := Only.trans F7 f10 (fun i hi hl => hl)
  have sz12 := f10.size
  refine PL.zy rfl rfl rfl rfl rfl (yi_assign rfl) ?_
  refine PL.done ?_
  refine NW.next ?_
  refine CW.ret ?_
  refine NW.ret1 rfl rfl ?_
  exact ⟨_, rfl, rfl, hN'.mono (fun k hk => hk.elim .inl (fun hk => .inr (by omega))), F11⟩

theorem double_in (b i : Nat) (m : Int) (F : Nat → Prop) (L : List Par) (p : Par) (w : World) (hN : NetAt w b m F L) (hm : 1 ≤ m) (hp : L[i]? = some p) :
    Ret Try.prog 14 [.pointer (some ⟨b, 0, none⟩), .int .i64 i] w fun u w' => u = .int .i64 (layE L) ∧ NetAt w' b m (grow F w) (layL L p) ∧ Only F w w' := by
  have hi := (List.getElem?_eq_some_iff.1 hp).1
  obtain ⟨g, cap, cs, rest, B, hFb, hl, hbs, OO⟩ := hN.opened (by omega)
  have hBlt := B.lt
  have hg : g < w.heap.size := OO.hblk.lt
  obtain ⟨A, c, E, hc, hm0, R⟩ := par_of OO hp
  have hpb := hbs p (List.mem_of_getElem? hp)
  replace R := Row.bound (by decide) R
  replace hN := hN.bound
  have fr0 : Only F w w := Only.refl _ _
  refine Ret.go Try.func14 rfl Try.ntmps14 rfl ?_
  refine CW.seq ?_
  refine CW.region ?_
  refine WL.e rfl rfl (ef_box rfl) ?_
  rintro _ w6 ⟨nb, hb_nb, rfl, f3, B4, z_nb⟩
  have F7 := Blk.same B f3
  have F8 := Seg.same E f3
  have F9 := NetAt.same hN f3
  have F10 := Row.same (by decide) R f3
  have F11 := Only.same fr0 f3
  have sz12 := f3.size
  refine WL.y rfl rfl (yi_assign rfl) ?_
  refine WL.done ?_
  refine NW.next ?_
  refine CW.seq ?_
  refine CW.region ?_
  refine WL.y rfl rfl (yi_loadB Try.isAgg23 rfl (by assumption) rfl) ?_
  refine WL.y rfl rfl (yi_move rfl) ?_
  refine WL.y rfl rfl (yi_makeFunc rfl rfl) ?_
  refine WL.e rfl rfl (ef_call Try.call62 rfl (at_in b m i ⟨g, 0, none⟩ _ cap 65 _ _ _ _ F7 hm (by omega) (by omega) Try.call65 (by rw [addr_at, Int.toNat_natCast, Nat.zero_add]; exact double1_c b nb g i m (fun k => F k ∧ k < w.heap.size) L p A c _ _ F9 B4 F8 F10 hc hpb))) ?_
  rintro _ w13 ⟨rfl, hN', f14⟩
  have F15 := Only.trans F11 f14 (fun i hi hl => hl.1)
  have sz16 := f14.size
  refine WL.y rfl rfl (yi_assign rfl) ?_
  refine WL.done ?_
  refine NW.next ?_
  refine CW.ret ?_
  refine NW.ret1 rfl rfl ?_
  exact ⟨_, rfl, rfl, hN'.mono (fun k hk => hk.elim (fun hk => .inl hk.1) (fun hk => .inr (by omega))), F15⟩

theorem double_out (b : Nat) (i m : Int) (F : Nat → Prop) (L : List Par) (w : World) (hN : NetAt w b m F L) (hm : 1 ≤ m) (hi : ¬ (0 ≤ i ∧ i < L.length)) :
    Ret Try.prog 14 [.pointer (some ⟨b, 0, none⟩), .int .i64 i] w fun u w' => u = .int .i64 6 ∧ Same w w' := by
  obtain ⟨v, B, hFb, O, hl, hbs⟩ := hN
  obtain ⟨A0, c0, hv, hc0, hm0, R0, hA0⟩ := O.row (by decide)
  subst hv
  have hBlt := B.lt
  have fr0 : Only (fun _ => False) w w := Only.refl _ _
  refine Ret.go Try.func14 rfl Try.ntmps14 rfl ?_
  refine CW.seq ?_
  refine CW.region ?_
  refine WL.e rfl rfl (ef_box rfl) ?_
  rintro _ w6 ⟨nb, hb_nb, rfl, f3, B4, z_nb⟩
  have F7 := Blk.same B f3
  have F8 := Only.same fr0 f3
  have sz9 := f3.size
  refine WL.y rfl rfl (yi_assign rfl) ?_
  refine WL.done ?_
  refine NW.next ?_
  refine CW.seq ?_
  refine CW.region ?_
  refine WL.y rfl rfl (yi_loadB Try.isAgg23 rfl (by assumption) rfl) ?_
  refine WL.y rfl rfl (yi_move rfl) ?_
  refine WL.y rfl rfl (yi_makeFunc rfl rfl) ?_
  refine WL.e rfl rfl (ef_call Try.call62 rfl (at_out b m i A0 _ c0 65 _ _ _ F7 hm hi)) ?_
  rintro _ w10 ⟨rfl, rfl⟩
  refine WL.y rfl rfl (yi_assign rfl) ?_
  refine WL.done ?_
  refine NW.next ?_
  refine CW.ret ?_
  refine NW.ret1 rfl rfl ?_
  exact ⟨_, rfl, rfl, F8⟩

def corE (bs : List UInt8) : Int := if 70000 < bs.length then 3 else 0
def corL (L : List Par) (i : Nat) (p : Par) (bs : List UInt8) : List Par := if 70000 < bs.length then L else L.set i ⟨p.frm, p.to, bs, false⟩

theorem seg_blk {w : World} {ok : Nat → Prop} {g cap i : Nat} {L : List Par} {p : Par} {cs rest : List Value} {A : Option Addr} {c : Nat} (O : Opened dPar 35 w ok g cap L cs rest) (hp : L[i]? = some p) (E : Seg w (some ⟨g, i * 4, none⟩) [.int .i64 p.frm, .int .i64 p.to, .slice A p.bytes.length c, .bool p.whole]) :
    ∀ j u, [Value.int .i64 p.frm, .int .i64 p.to, .slice A p.bytes.length c, .bool p.whole][j]? = some u → (cs ++ rest).toArray[i * 4 + j]? = some u := by
  intro j u hu
  have h1 := Seg.get E j u hu
  rw [addr_at] at h1
  obtain ⟨c0, hK, hl, hc⟩ := O.cell hp
  have hj : j < c0.length := by
    rw [hl]
    have := (List.getElem?_eq_some_iff.1 hu).1
    exact this
  have h2 := hc j c0[j] (by rw [List.getElem?_eq_getElem hj])
  have h3 := O.hblk.cell h2
  have e : i * dPar.sz + j = i * 4 + j := rfl
  rw [e, h1] at h3
  injection h3 with h3
  rw [h3]
  exact h2
theorem cor_in (cur : Array Value) (i : Nat) (v0 v1 v2 v3 : Value) (h0 : cur[i * 4 + 0]? = some v0) (h1 : cur[i * 4 + 1]? = some v1) (h3 : i * 4 + 3 < cur.size) :
    ∀ j u, [v0, v1, v2, v3][j]? = some u → (putAll (putAll cur (i * 4 + 2) [v2]) (i * 4 + 3) [v3])[i * 4 + j]? = some u := by
  intro j u hu
  simp only [putAll]
  match j with
  | 0 => simp at hu; subst hu; rw [Array.getElem?_setIfInBounds_ne (by omega), Array.getElem?_setIfInBounds_ne (by omega)]; exact h0
  | 1 => simp at hu; subst hu; rw [Array.getElem?_setIfInBounds_ne (by omega), Array.getElem?_setIfInBounds_ne (by omega)]; exact h1
  | 2 => simp at hu; subst hu; rw [Array.getElem?_setIfInBounds_ne (by omega), Array.getElem?_setIfInBounds_self_of_lt (by omega)]
  | 3 => simp at hu; subst hu; rw [Array.getElem?_setIfInBounds_self_of_lt (by rw [Array.size_setIfInBounds]; omega)]
  | j + 4 => simp at hu
theorem cor_out (cur : Array Value) (i : Nat) (v2 v3 : Value) (k : Nat) (hk : k < i * 4 ∨ i * 4 + 4 ≤ k) : (putAll (putAll cur (i * 4 + 2) [v2]) (i * 4 + 3) [v3])[k]? = cur[k]? := by
  simp only [putAll]
  rw [Array.getElem?_setIfInBounds_ne (by omega), Array.getElem?_setIfInBounds_ne (by omega)]

theorem corrupt1_c (b bb g cap i : Nat) (m : Int) (F : Nat → Prop) (L : List Par) (p : Par) (bs : List UInt8) (cs rest : List Value) (A : Option Addr) (c : Nat) (ok : Nat → Prop) (w : World) (B : Blk w b #[.int .i64 m, .slice (some ⟨g, 0, none⟩) L.length cap] 98) (hFb : F b) (hl : L.length ≤ 4096) (hbs : ∀ p ∈ L, p.bytes.length ≤ 70000) (OO : Opened dPar 35 w (fun k => F k ∧ k ≠ b) g cap L cs rest) (hp : L[i]? = some p) (BB : Blk w bb #[.slice A bs.length c] 28) (R : Row dU8 w ok A bs) (hc : bs.length ≤ c) :
    Ret Try.prog 66 [.pointer (some ⟨g, i * 4, none⟩), .pointer (some ⟨bb, 0, none⟩)] w fun u w' => u = .int .i64 (corE bs) ∧ NetAt w' b m (grow F w) (corL L i p bs) ∧ Only F w w' := by
  have hi := (List.getElem?_eq_some_iff.1 hp).1
  have hgo := OO.hok
  have hgb : g ≠ b := hgo.2
  have G := OO.hblk
  have hglt := G.lt
  have hBlt := B.lt
  have hcl : cs.length = L.length * 4 := OO.hlen
  obtain ⟨A0, c0, E, hc0, hm0, R0⟩ := par_of OO hp
  replace R := Row.bound (by decide) R
  have fr0 : Only (fun k => k = g) w w := Only.refl _ _
  refine Ret.go Try.func66 rfl Try.ntmps66 rfl ?_
  refine CW.seq ?_
  refine CW.region ?_
  refine WL.y rfl rfl (yi_assign rfl) ?_
  refine WL.done ?_
  refine NW.next ?_
  refine CW.seq ?_
  refine CW.seq ?_
  refine CW.region ?_
  refine WL.y rfl rfl (yi_loadB Try.isAgg28 rfl (by assumption) rfl) ?_
  refine WL.y rfl rfl (yi_len Try.runUnderlying28 rfl) ?_
  refine WL.y rfl rfl (yi_gtr rfl rfl) ?_
  refine WL.done ?_
  refine NW.next ?_
  refine CW.cond rfl (fun q_ => ?_) (fun q_ => ?_)
  · try replace q_ := of_decide_eq_true q_
    refine CW.seq ?_
    refine CW.region ?_
    refine WL.y rfl rfl (yi_assign rfl) ?_
    refine WL.done ?_
    refine NW.next ?_
    refine CW.ret ?_
    refine NW.thenRet ?_
    refine NW.ret1 rfl rfl ?_
    have h3 : 70000 < bs.length := by omega
    exact ⟨_, rfl, by rw [corE, if_pos h3], by rw [corL, if_pos h3]; exact ⟨_, B, .inl hFb, OO.own.mono (fun k hk => ⟨.inl hk.1, hk.2⟩), hl, hbs⟩, Only.refl _ _⟩
  · try replace q_ := of_decide_eq_false q_
    refine CW.skip ?_
    refine NW.next ?_
    refine CW.seq ?_
    refine CW.region ?_
    refine WL.y rfl rfl (yi_move rfl) ?_
    refine WL.y rfl rfl (yi_move rfl) ?_
    refine WL.y rfl rfl (yi_loadB Try.isAgg28 rfl BB rfl) ?_
    refine WL.e rfl rfl (ef_call Try.call67 rfl (clone_c A c bs _ _ R hc (by omega))) ?_
    rintro _ w1 ⟨A', c', rfl, hc', hm', RR3, f2⟩
    have RB4 := Row.bound (by decide) RR3
    have F5 := Blk.same B f2
    have F6 := Blk.same BB f2
    have F7 := Blk.same G f2
    have F8 := Row.same (by decide) R f2
    have F9 := Only.same fr0 f2
    have sz10 := f2.size
    refine WL.y rfl rfl (yi_nilCheck rfl) ?_
    refine WL.y rfl rfl (yi_fieldAddr Try.runUnderlying35 rfl Try.sizeOf28 rfl) ?_
    refine WL.e rfl rfl (ef_store (b := g) Try.sizeOf28 rfl rfl F7 rfl (Nat.ble_eq_true_of_le (by show i * 4 + 2 + 1 ≤ _; simp only [List.size_toArray, List.length_append]; omega)) rfl) ?_
    rintro _ w14 ⟨rfl, f11, B12, z13⟩
    have F15 := Blk.only F5 f11 (fun hl => hgb hl.symm)
    have F16 := Only.trans F9 f11 (fun i hi hl => hl)
    have F17 := Row.only (by decide) RB4 f11 (fun k hk hok hl => by have hl : k = _ := hl; omega)
    refine WL.y rfl rfl (yi_nilCheck rfl) ?_
    refine WL.y rfl rfl (yi_fieldAddr Try.runUnderlying35 rfl Try.sizeOf4 rfl) ?_
    refine WL.e rfl rfl (ef_store (b := g) Try.sizeOf4 rfl rfl B12 rfl (Nat.ble_eq_true_of_le (by show i * 4 + 3 + 1 ≤ _; rw [putAll_size]; simp only [List.size_toArray, List.length_append]; omega)) rfl) ?_
    rintro _ w21 ⟨rfl, f18, B19, z20⟩
    have F22 := Blk.only F15 f18 (fun hl => hgb hl.symm)
    have F23 := Only.trans F16 f18 (fun i hi hl => hl)
    have F24 := Row.only (by decide) F17 f18 (fun k hk hok hl => by have hl : k = _ := hl; omega)
    refine WL.done ?_
    refine NW.next ?_
    refine CW.seq ?_
    refine CW.region ?_
    refine WL.y rfl rfl (yi_assign rfl) ?_
    refine WL.done ?_
    refine NW.next ?_
    refine CW.ret ?_
    refine NW.ret1 rfl rfl ?_
    have h3 : ¬ 70000 < bs.length := by omega
    refine ⟨_, rfl, by rw [corE, if_neg h3], ?_, F23.mono (fun k hk hl => by have hl : k = g := hl; exact hl ▸ hgo.1)⟩
    rw [corL, if_neg h3]
    have O2 := (OO.mono (ok' := fun k => grow F w k ∧ k ≠ b) (fun k hk => ⟨.inl hk.1, hk.2⟩)).put hi (x' := ⟨p.frm, p.to, bs, false⟩) (dPar_mk (p := ⟨p.frm, p.to, bs, false⟩) hc' hm' (Row.mono (fun k hk => ⟨⟨.inr hk.1, by omega⟩, by omega⟩) F24)) F23 B19 (by rw [putAll_size, putAll_size]; simp) (fun j u hu => ?_) (fun k hk => ?_)
    · refine ⟨_, F22, .inl hFb, ?_, by rw [List.length_set]; exact hl, fun q hq => ?_⟩
      · have O3 := O2.own
        rw [List.length_set] at O3
        exact O3
      · rcases List.mem_or_eq_of_mem_set hq with hq | hq
        · exact hbs q hq
        · rw [hq]; show bs.length ≤ 70000; omega
    · have hcs := seg_blk OO hp E
      exact cor_in (cs ++ rest).toArray i _ _ _ _ (hcs 0 _ rfl) (hcs 1 _ rfl) (by have := (Array.getElem?_eq_some_iff.1 (hcs 3 _ rfl)).1; omega) j u hu
    · exact cor_out (cs ++ rest).toArray i _ _ k hk

theorem corrupt_in (b i : Nat) (m : Int) (F : Nat → Prop) (L : List Par) (p : Par) (bs : List UInt8) (A : Option Addr) (c : Nat) (ok : Nat → Prop) (w : World) (hN : NetAt w b m F L) (hm : 1 ≤ m) (hp : L[i]? = some p) (R : Row dU8 w ok A bs) (hc : bs.length ≤ c) :
    Ret Try.prog 15 [.pointer (some ⟨b, 0, none⟩), .int .i64 i, .slice A bs.length c] w fun u w' => u = .int .i64 (corE bs) ∧ NetAt w' b m (grow F w) (corL L i p bs) ∧ Only F w w' := by
  have hi := (List.getElem?_eq_some_iff.1 hp).1
  replace hN := hN.bound
  have fr0 : Only F w w := Only.refl _ _
  refine Ret.go Try.func15 rfl Try.ntmps15 rfl ?_
  refine CW.seq ?_
  refine CW.region ?_
  refine WL.e rfl rfl (ef_box rfl) ?_
  rintro _ w6 ⟨bb, hb_bb, rfl, f3, B4, z_bb⟩
  have F7 := NetAt.same hN f3
  have F8 := Row.same (by decide) R f3
  have F9 := Only.same fr0 f3
  have sz10 := f3.size
  refine WL.y rfl rfl (yi_assign rfl) ?_
  refine WL.done ?_
  refine NW.next ?_
  refine CW.seq ?_
  refine CW.region ?_
  refine WL.y rfl rfl (yi_move rfl) ?_
  refine WL.y rfl rfl (yi_move rfl) ?_
  refine WL.y rfl rfl (yi_makeFunc rfl rfl) ?_
  have OO2 := (NetAt.bound F7).opened (by omega)
  obtain ⟨g, cap, cs, rest, B2, hFb, hl, hbs, OO⟩ := OO2
  refine WL.e rfl rfl (ef_call Try.call62 rfl (at_in b m i ⟨g, 0, none⟩ _ cap 66 _ _ _ _ B2 hm (by omega) (by omega) Try.call66 (by rw [addr_at, Int.toNat_natCast, Nat.zero_add]; exact corrupt1_c b bb g cap i m _ L p bs cs rest A c _ _ B2 hFb hl hbs OO hp B4 F8 hc))) ?_
  rintro _ w11 ⟨rfl, hN', f12⟩
  have F13 := Only.trans F9 f12 (fun i hi hl => hl.1.1)
  have sz14 := f12.size
  refine WL.y rfl rfl (yi_assign rfl) ?_
  refine WL.done ?_
  refine NW.next ?_
  refine CW.ret ?_
  refine NW.ret1 rfl rfl ?_
  exact ⟨_, rfl, rfl, hN'.mono (fun k hk => hk.elim (fun hk => .inl hk.1.1) (fun hk => .inr (by omega))), F13⟩

theorem corrupt_out (b : Nat) (i m : Int) (F : Nat → Prop) (L : List Par) (x : Value) (w : World) (hN : NetAt w b m F L) (hm : 1 ≤ m) (hi : ¬ (0 ≤ i ∧ i < L.length)) :
    Ret Try.prog 15 [.pointer (some ⟨b, 0, none⟩), .int .i64 i, x] w fun u w' => u = .int .i64 6 ∧ Same w w' := by
  obtain ⟨v, B, hFb, O, hl, hbs⟩ := hN
  obtain ⟨A0, c0, hv, hc0, hm0, R0, hA0⟩ := O.row (by decide)
  subst hv
  have hBlt := B.lt
  have fr0 : Only (fun _ => False) w w := Only.refl _ _
  refine Ret.go Try.func15 rfl Try.ntmps15 rfl ?_
  refine CW.seq ?_
  refine CW.region ?_
  refine WL.e rfl rfl (ef_box rfl) ?_
  rintro _ w6 ⟨bb, hb_bb, rfl, f3, B4, z_bb⟩
  have F7 := Blk.same B f3
  have F8 := Only.same fr0 f3
  have sz9 := f3.size
  refine WL.y rfl rfl (yi_assign rfl) ?_
  refine WL.done ?_
  refine NW.next ?_
  refine CW.seq ?_
  refine CW.region ?_
  refine WL.y rfl rfl (yi_move rfl) ?_
  refine WL.y rfl rfl (yi_move rfl) ?_
  refine WL.y rfl rfl (yi_makeFunc rfl rfl) ?_
  refine WL.e rfl rfl (ef_call Try.call62 rfl (at_out b m i A0 _ c0 66 _ _ _ F7 hm hi)) ?_
  rintro _ w10 ⟨rfl, rfl⟩
  refine WL.y rfl rfl (yi_assign rfl) ?_
  refine WL.done ?_
  refine NW.next ?_
  refine CW.ret ?_
  refine NW.ret1 rfl rfl ?_
  exact ⟨_, rfl, rfl, F8⟩

theorem len_c (b : Nat) (m : Int) (F : Nat → Prop) (L : List Par) (w : World) (hN : NetAt w b m F L) (hm : 1 ≤ m) :
    Ret Try.prog 16 [.pointer (some ⟨b, 0, none⟩)] w fun u w' => u = .int .i64 L.length ∧ w = w' := by
  obtain ⟨v, B, hFb, O, hl, hbs⟩ := hN
  obtain ⟨A0, c0, hv, hc0, hm0, R0, hA0⟩ := O.row (by decide)
  subst hv
  have hBlt := B.lt
  refine Ret.go Try.func16 rfl Try.ntmps16 rfl ?_
  refine CW.seq ?_
  refine CW.region ?_
  refine WL.y rfl rfl (yi_assign rfl) ?_
  refine WL.done ?_
  refine NW.next ?_
  refine CW.seq ?_
  refine CW.seq ?_
  refine CW.region ?_
  refine WL.y rfl rfl (yi_move rfl) ?_
  refine WL.e rfl rfl (ef_call Try.call59 rfl (none_c b m _ _ _ B)) ?_
  rintro _ w1 ⟨rfl, rfl⟩
  refine WL.done ?_
  refine NW.next ?_
  refine CW.cond rfl (fun q_ => ?_) (fun q_ => ?_)
  · try replace q_ := of_decide_eq_true q_
    exact absurd q_ (by omega)
  · try replace q_ := of_decide_eq_false q_
    refine CW.skip ?_
    refine NW.next ?_
    refine CW.seq ?_
    refine CW.region ?_
    refine WL.y rfl rfl (yi_move rfl) ?_
    refine WL.y rfl rfl (yi_nilCheck rfl) ?_
    refine WL.y rfl rfl (yi_fieldAddr Try.runUnderlying98 rfl Try.sizeOf96 rfl) ?_
    refine WL.y rfl rfl (yi_loadB Try.isAgg96 rfl (by assumption) rfl) ?_
    refine WL.y rfl rfl (yi_len Try.runUnderlying96 rfl) ?_
    refine WL.y rfl rfl (yi_assign rfl) ?_
    refine WL.done ?_
    refine NW.next ?_
    refine CW.ret ?_
    refine NW.ret1 rfl rfl ?_
    exact ⟨_, rfl, rfl, rfl⟩

end Go.Proofs.YtgmjgdjobkmbgaaN
