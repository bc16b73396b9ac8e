/- The net's calls at whatever place. -/
import Derived.Test.YtgmjgdjobkmbgaaNetF
set_option linter.unusedVariables false
set_option linter.unusedSimpArgs false
namespace Go.Proofs.YtgmjgdjobkmbgaaN
open Go.Proofs.YtgmjgdjobkmbgaaL Go.RowKit Go.Proofs
attribute [local irreducible] Ef Yi WL PL CW NW Ret

theorem place {i : Int} {n : Nat} (h : 0 ≤ i ∧ i < n) : ∃ j : Nat, i = j ∧ j < n := ⟨i.toNat, by omega, by omega⟩
theorem drop_c (b : Nat) (i m : Int) (F : Nat → Prop) (L : List Par) (w : World) (hN : NetAt w b m F L) (hm : 1 ≤ m) :
    Ret Try.prog 13 [.pointer (some ⟨b, 0, none⟩), .int .i64 i] w fun u w' => ∃ e L2, u = .int .i64 e ∧ NetAt w' b m (grow F w) L2 ∧ Only F w w' ∧ (e = 0 ↔ 0 ≤ i ∧ i < L.length) ∧ (∀ j : Nat, i = j → j < L.length → L2 = L.eraseIdx j) ∧ (¬ (0 ≤ i ∧ i < L.length) → L2 = L) := by
  by_cases h : 0 ≤ i ∧ i < L.length
  · obtain ⟨j, rfl, hj⟩ := place h
    exact (drop_in b j m F L w hN hm hj).mono fun u w' ⟨h1, h2, h3⟩ => ⟨0, _, h1, h2, h3, by simp [hj], fun j' e _ => by rw [Int.ofNat.inj e], fun hn => absurd h hn⟩
  · exact (drop_out b i m F L w hN hm h).mono fun u w' ⟨h1, h2⟩ => ⟨6, _, h1, (hN.same h2).mono (fun k hk => .inl hk), h2.mono (fun _ _ hl => hl.elim), by simp; omega, fun j e hj => absurd (by omega) h, fun _ => rfl⟩
theorem double_c (b : Nat) (i m : Int) (F : Nat → Prop) (L : List Par) (w : World) (hN : NetAt w b m F L) (hm : 1 ≤ m) (h80 : L.length ≤ 80) :
    Ret Try.prog 14 [.pointer (some ⟨b, 0, none⟩), .int .i64 i] w fun u w' => ∃ e L2, u = .int .i64 e ∧ NetAt w' b m (grow F w) L2 ∧ Only F w w' ∧ (e = 0 ↔ 0 ≤ i ∧ i < L.length) ∧ (∀ (j : Nat) p, i = j → L[j]? = some p → L2 = L ++ [p]) ∧ (¬ (0 ≤ i ∧ i < L.length) → L2 = L) := by
  by_cases h : 0 ≤ i ∧ i < L.length
  · obtain ⟨j, rfl, hj⟩ := place h
    exact (double_in b j m F L L[j] w hN hm (List.getElem?_eq_getElem hj)).mono fun u w' ⟨h1, h2, h3⟩ => ⟨0, _, layE_eq h80 ▸ h1, layL_eq h80 ▸ h2, h3, by simp [hj], fun j' p e hp => by
      obtain rfl := Int.ofNat.inj e
      rw [List.getElem?_eq_getElem hj] at hp
      injection hp with hp
      rw [hp], fun hn => absurd h hn⟩
  · exact (double_out b i m F L w hN hm h).mono fun u w' ⟨h1, h2⟩ => ⟨6, _, h1, (hN.same h2).mono (fun k hk => .inl hk), h2.mono (fun _ _ hl => hl.elim), by simp; omega, fun j p e hp => absurd (by have := (List.getElem?_eq_some_iff.1 hp).1; omega) h, fun _ => rfl⟩
theorem corrupt_c (b : Nat) (i m : Int) (F : Nat → Prop) (L : List Par) (bs : List UInt8) (A : Option Addr) (c : Nat) (ok : Nat → Prop) (w : World) (hN : NetAt w b m F L) (hm : 1 ≤ m) (R : Row dU8 w ok A bs) (hc : bs.length ≤ c) :
    Ret Try.prog 15 [.pointer (some ⟨b, 0, none⟩), .int .i64 i, .slice A bs.length c] w fun u w' => ∃ e L2, u = .int .i64 e ∧ NetAt w' b m (grow F w) L2 ∧ Only F w w' ∧ (e = 0 ↔ (0 ≤ i ∧ i < L.length) ∧ bs.length ≤ 70000) ∧ (∀ (j : Nat) p, i = j → L[j]? = some p → bs.length ≤ 70000 → L2 = L.set j ⟨p.frm, p.to, bs, false⟩) ∧ (¬ ((0 ≤ i ∧ i < L.length) ∧ bs.length ≤ 70000) → L2 = L) := by
  by_cases h : 0 ≤ i ∧ i < L.length
  · obtain ⟨j, rfl, hj⟩ := place h
    refine (corrupt_in b j m F L L[j] bs A c ok w hN hm (List.getElem?_eq_getElem hj) R hc).mono fun u w' ⟨h1, h2, h3⟩ => ⟨_, _, h1, h2, h3, ?_, fun j' p e hp hb => ?_, fun hn => ?_⟩
    · unfold corE; split <;> simp [hj] <;> omega
    · obtain rfl := Int.ofNat.inj e
      rw [List.getElem?_eq_getElem hj] at hp
      injection hp with hp
      rw [hp, corL, if_neg (by omega)]
    · rw [corL, if_pos (by omega)]
  · exact (corrupt_out b i m F L _ w hN hm h).mono fun u w' ⟨h1, h2⟩ => ⟨6, _, h1, (hN.same h2).mono (fun k hk => .inl hk), h2.mono (fun _ _ hl => hl.elim), by simp; omega, fun j p e hp => absurd (by have := (List.getElem?_eq_some_iff.1 hp).1; omega) h, fun _ => rfl⟩

theorem deliver_out (b : Nat) (i m : Int) (F : Nat → Prop) (L : List Par) (w : World) (hN : NetAt w b m F L) (hm : 1 ≤ m) (hi : ¬ (0 ≤ i ∧ i < L.length)) :
    Ret Try.prog 12 [.pointer (some ⟨b, 0, none⟩), .int .i64 i] w fun u w' => u = .tuple #[.agg #[.int .i64 0, .int .i64 0, .slice none 0 0, .bool false], .int .i64 6] ∧ Same w w' := by
  have hN0 := hN
  obtain ⟨v, B, hFb, -, -, -⟩ := hN0
  have hBlt := B.lt
  replace hN := hN.bound
  have fr0 : Only (fun _ => False) w w := Only.refl _ _
  refine Ret.go Try.func12 rfl Try.ntmps12 rfl ?_
  refine CW.seq ?_
  refine CW.region ?_
  refine WL.e rfl rfl (ef_alloc Try.zeroValue35) ?_
  rintro _ w6 ⟨xb, hb_xb, rfl, f3, B4, z_xb⟩
  have F7 := NetAt.same hN f3
  have F8 := Only.same fr0 f3
  have sz9 := f3.size
  refine WL.y rfl rfl (yi_assign rfl) ?_
  refine WL.done ?_
  refine NW.next ?_
  refine CW.seq ?_
  refine CW.region ?_
  refine WL.y rfl rfl (yi_move rfl) ?_
  refine WL.y rfl rfl (yi_move rfl) ?_
  refine WL.e rfl rfl (ef_call Try.call61 rfl (tell_out b i m _ L _ F7 hm hi)) ?_
  rintro _ w10 ⟨rfl, f11⟩
  have F12 := NetAt.same F7 f11
  have F13 := Only.same F8 f11
  have F14 := Blk.same B4 f11
  have sz15 := f11.size
  refine WL.y rfl rfl (yi_move rfl) ?_
  refine WL.y rfl rfl (yi_extract rfl rfl) ?_
  refine WL.y rfl rfl (yi_extract rfl rfl) ?_
  refine WL.e rfl rfl (ef_alloc Try.zeroValue35) ?_
  rintro _ w21 ⟨yb, hb_yb, rfl, f18, B19, z_yb⟩
  have F22 := NetAt.same F12 f18
  have F23 := Only.same F13 f18
  have F24 := Blk.same F14 f18
  have sz25 := f18.size
  refine WL.e rfl rfl (ef_store (b := yb) Try.sizeOf35 rfl rfl B19 rfl rfl rfl) ?_
  rintro _ w29 ⟨rfl, f26, B27, z28⟩
  have F30 := NetAt.only F22 f26 (fun k hk hok hl => by have hl : k = _ := hl; have := hok.2; omega)
  have F31 := Only.trans F23 f26 (fun i hi hl => by have hl : i = _ := hl; omega)
  have F32 := Blk.only F24 f26 (by show ¬ (_ = _); omega)
  refine WL.y rfl rfl (yi_assign rfl) ?_
  refine WL.done ?_
  refine NW.next ?_
  refine CW.seq ?_
  have fd33 : Same w29 w29.drew := Only.drew _ _
  obtain ⟨w34, hww34⟩ : ∃ w1, w1 = w29.drew := ⟨_, rfl⟩
  rw [← hww34] at fd33
  have F35 := NetAt.same F30 fd33
  have F36 := Only.same F31 fd33
  have F37 := Blk.same F32 fd33
  have F38 := Blk.same B27 fd33
  have sz39 := fd33.size
  refine CW.draw 4 [(0, true), (1, true), (2, true), (3, false), (4, false), (5, false)] (fun w' => Blk w' yb _ _) Try_mixed (by kernel_rfl) (fun _ _ _ _ h => h) hww34 F38 ?_
  refine PL.y rfl rfl rfl (fun w' hS => by first | exact yi_loadW Try.isAgg35 Try.sizeOf35 rfl hS rfl) ?_
  refine PL.y rfl rfl rfl (fun w' hS => yi_move rfl) ?_
  refine PL.y rfl rfl rfl (fun w' hS => yi_move rfl) ?_
  refine PL.e rfl rfl rfl (ef_call Try.call13 rfl (drop_out b i m _ L _ F35 hm hi)) ?_
  rintro _ w40 ⟨rfl, f41⟩
  have F42 := NetAt.same F35 f41
  have F43 := Only.same F36 f41
  have F44 := Blk.same F37 f41
  have F45 := Blk.same F38 f41
  have sz46 := f41.size
  refine ⟨fun _ => F45, ?_⟩
  refine PL.z rfl rfl rfl rfl rfl (ef_store (b := xb) Try.sizeOf35 rfl rfl F44 rfl rfl rfl) ?_
  rintro _ w50 ⟨rfl, f47, B48, z49⟩
  have F51 := NetAt.only F42 f47 (fun k hk hok hl => by have hl : k = _ := hl; have := hok.2; omega)
  have F52 := Only.trans F43 f47 (fun i hi hl => by have hl : i = _ := hl; omega)
  have F53 := Blk.only F45 f47 (by show ¬ (_ = _); omega)
  refine PL.zy rfl rfl rfl rfl rfl (yi_assign rfl) ?_
  refine PL.done ?_
  refine NW.next ?_
  refine CW.ret ?_
  refine NW.retCT rfl rfl rfl Try.isAgg35 Try.sizeOf35 B48 rfl ?_
  exact ⟨_, rfl, rfl, F52⟩

theorem deliver_c (b : Nat) (i m : Int) (F : Nat → Prop) (L : List Par) (w : World) (hN : NetAt w b m F L) (hm : 1 ≤ m) :
    Ret Try.prog 12 [.pointer (some ⟨b, 0, none⟩), .int .i64 i] w fun u w' => ∃ p A' c' e L2, u = .tuple #[.agg #[.int .i64 p.frm, .int .i64 p.to, .slice A' p.bytes.length c', .bool p.whole], .int .i64 e] ∧ NetAt w' b m (grow F w) L2 ∧ Only F w w' ∧ Row dU8 w' (fun k => w.heap.size ≤ k) A' p.bytes ∧
      (e = 0 ↔ 0 ≤ i ∧ i < L.length) ∧ (∀ (j : Nat) q, i = j → L[j]? = some q → p = q ∧ L2 = L.eraseIdx j) ∧ (¬ (0 ≤ i ∧ i < L.length) → L2 = L) := by
  by_cases h : 0 ≤ i ∧ i < L.length
  · obtain ⟨j, rfl, hj⟩ := place h
    exact (deliver_in b j m F L L[j] w hN hm (List.getElem?_eq_getElem hj)).mono fun u w' ⟨A', c', h1, h2, h3, h4, ⟨z, h5, _, _, h6⟩, h7⟩ => ⟨L[j], A', c', 0, _, h1, h6.mono (fun k hk => hk.elim .inl (fun h => .inr (by omega))), h7, h4, by simp [hj], fun j' p e hp => by
      obtain rfl := Int.ofNat.inj e
      rw [List.getElem?_eq_getElem hj] at hp
      injection hp with hp
      exact ⟨hp, rfl⟩, fun hn => absurd h hn⟩
  · exact (deliver_out b i m F L w hN hm h).mono fun u w' ⟨h1, h2⟩ => ⟨⟨0, 0, [], false⟩, none, 0, 6, _, h1, (hN.same h2).mono (fun k hk => .inl hk), h2.mono (fun _ _ hl => hl.elim), Row.nil _ _ _ _, by simp; omega, fun j p e hp => absurd (by have := (List.getElem?_eq_some_iff.1 hp).1; omega) h, fun _ => rfl⟩
theorem send_any (b : Nat) (F : Nat → Prop) (L : List Par) (i j : Int) (bs : List UInt8) (A : Option Addr) (c : Nat) (ok : Nat → Prop) (w : World) (hN : NetAt w b 4 F L) (R : Row dU8 w ok A bs) (hc : bs.length ≤ c) (hi : 0 ≤ i ∧ i < 4) (hj : 0 ≤ j ∧ j < 4) (h80 : L.length ≤ 80) :
    Ret Try.prog 11 [.pointer (some ⟨b, 0, none⟩), .int .i64 i, .int .i64 j, .slice A bs.length c] w fun u w' => ∃ e L2, u = .int .i64 e ∧ NetAt w' b 4 (grow F w) L2 ∧ Only F w w' ∧ (e = 0 ↔ bs.length ≤ 70000) ∧ (bs.length ≤ 70000 → L2 = L ++ [⟨i, j, bs, true⟩]) ∧ (¬ bs.length ≤ 70000 → L2 = L) :=
  (send_c b 4 F L i j bs A c ok w hN (by decide) R hc).mono fun u w' ⟨h1, h2, h3⟩ => ⟨_, _, h1, h2, h3, by rw [sendE_eq hi hj h80]; split <;> simp <;> omega, fun h => by rw [sendL_eq hi hj h80, if_neg (by omega)], fun h => by rw [sendL_eq hi hj h80, if_pos (by omega)]⟩

end Go.Proofs.YtgmjgdjobkmbgaaN
