/- wakes, of the net's statements. -/
import Derived.Test.YtgmjgdjobkmbgaaNetH
set_option linter.unusedVariables false
set_option linter.unusedSimpArgs false
namespace Go.Proofs.YtgmjgdjobkmbgaaN
open Go.Proofs.YtgmjgdjobkmbgaaL Go.RowKit Go.Proofs
attribute [local irreducible] Ef Yi WL PL CW NW Ret
def pA : Par := ⟨0, 1, [97], true⟩
def pB : Par := ⟨2, 2, [98], true⟩
def pX : Par := ⟨2, 2, [120], false⟩
theorem sA : sendL 3 [] ⟨0, 1, [97], true⟩ = [pA] ∧ sendE 3 [] ⟨0, 1, [97], true⟩ = 0 := by
  unfold sendL sendE layL layE; exact ⟨rfl, rfl⟩
theorem sB : sendL 3 [pA] ⟨2, 2, [98], true⟩ = [pA, pB] ∧ sendE 3 [pA] ⟨2, 2, [98], true⟩ = 0 := by
  unfold sendL sendE layL layE; exact ⟨rfl, rfl⟩
theorem sD : layL [pA, pB] pA = [pA, pB, pA] ∧ layE [pA, pB] = 0 := by unfold layL layE; exact ⟨rfl, rfl⟩
theorem sX : corL [pB, pA] 0 pB [120] = [pX, pA] ∧ corE [120] = 0 := by unfold corL corE; exact ⟨rfl, rfl⟩

theorem wakes_c (w : World) :
    Ret Try.prog 17 [] w fun u w' => u = .bool true ∧ Same w w' := by
  have fr0 : Only (fun _ => False) w w := Only.refl _ _
  refine Ret.go Try.func17 rfl Try.ntmps17 rfl ?_
  refine CW.seq ?_
  refine CW.region ?_
  refine WL.y rfl rfl (yi_assign rfl) ?_
  refine WL.done ?_
  refine NW.next ?_
  refine CW.seq ?_
  refine CW.region ?_
  refine WL.e rfl rfl (ef_call Try.call10 rfl (new_c 3 _ (by decide) (by decide))) ?_
  rintro _ w1 ⟨nb, hnb, rfl, f2, B3, z4⟩
  obtain ⟨F0, hF0, hN0⟩ : ∃ F : Nat → Prop, (∀ x, F x → w.heap.size ≤ x ∧ x < w1.heap.size) ∧ NetAt w1 nb 3 F [] := ⟨fun x => x = nb, fun x hx => by have hx : x = nb := hx; omega, _, B3, rfl, Own.nil _ _ _ _, by simp, by simp⟩
  have F5 := Only.same fr0 f2
  have sz6 := f2.size
  refine WL.y rfl rfl (yi_move rfl) ?_
  refine WL.y rfl rfl (yi_extract rfl rfl) ?_
  refine WL.y rfl rfl (yi_extract rfl rfl) ?_
  refine WL.y rfl rfl (yi_assign rfl) ?_
  refine WL.y rfl rfl (yi_assign rfl) ?_
  refine WL.done ?_
  refine NW.next ?_
  refine CW.seq ?_
  refine CW.seq ?_
  refine CW.region ?_
  refine WL.y rfl rfl (yi_move rfl) ?_
  refine WL.y rfl rfl (yi_neq rfl rfl) ?_
  refine WL.y rfl rfl (yi_move rfl) ?_
  refine WL.split (t := 16) rfl (fun q_ => ?_) (fun q_ => ?_)
  · try replace q_ := of_decide_eq_true q_
    exact absurd rfl q_
  · try replace q_ := of_decide_eq_false q_
    refine WL.gy rfl rfl rfl rfl rfl (yi_move rfl) ?_
    refine WL.ge rfl rfl rfl rfl rfl (ef_buildSlice Try.runUnderlying28 Try.sizeOf5 Try.zeroValue5 rfl (fun _ => by kernel_rfl)) ?_
    rintro _ w12 ⟨a1, hb_a1, rfl, f9, B10, z_a1⟩
    have F13 := Only.same F5 f9
    have F14 := NetAt.same hN0 f9
    have sz15 := f9.size
    refine WL.ge rfl rfl rfl rfl rfl (ef_convBytes (bs := [97]) Try.runUnderlying28 Try.runUnderlying5 rfl B10 rfl) ?_
    rintro _ w16 ⟨rfl, f17, R18⟩
    have F19 := Only.trans F13 f17 (fun i hi hl => by have hl : i = _ := hl; omega)
    have F20 := NetAt.only F14 f17 (fun k hk hok hl => by have hl : k = _ := hl; have := (hF0 k hok).2; omega)
    have sz21 := f17.size
    refine WL.ge rfl rfl rfl rfl rfl (ef_call Try.call11 rfl (send_c nb 3 _ [] 0 1 [97] _ _ _ _ F20 (by decide) R18 (by decide))) ?_
    rintro _ w22 ⟨rfl, hN', f23⟩
    have z24 := f23.size
    rw [sA.1] at hN'
    obtain ⟨F1, hF1d, N25⟩ : ∃ F : Nat → Prop, (F = fun x => grow F0 w16 x ∧ x < w22.heap.size) ∧ NetAt w22 nb 3 F [pA] := ⟨_, rfl, NetAt.bound hN'⟩
    have hF1 : ∀ x, F1 x → w.heap.size ≤ x ∧ x < w22.heap.size := by rw [hF1d]; exact fun x hx => ⟨hx.1.elim (fun h => (hF0 x h).1) (fun h => by omega), hx.2⟩
    have F26 := Only.trans F19 f23 (fun i hi hl => by have := (hF0 i hl).1; omega)
    have sz27 := f23.size
    refine WL.gy rfl rfl rfl rfl rfl (yi_neq rfl rfl) ?_
    refine WL.y rfl rfl (yi_pickF rfl rfl) ?_
    refine WL.y rfl rfl (yi_move rfl) ?_
    refine WL.split (t := 23) rfl (fun q_f => ?_) (fun q_f => ?_)
    · try replace q_f := of_decide_eq_true q_f
      exact absurd rfl q_f
    · try replace q_f := of_decide_eq_false q_f
      refine WL.gy rfl rfl rfl rfl rfl (yi_move rfl) ?_
      refine WL.ge rfl rfl rfl rfl rfl (ef_buildSlice Try.runUnderlying28 Try.sizeOf5 Try.zeroValue5 rfl (fun _ => by kernel_rfl)) ?_
      rintro _ w33 ⟨a2, hb_a2, rfl, f30, B31, z_a2⟩
      have F34 := Only.same F26 f30
      have F35 := NetAt.same N25 f30
      have sz36 := f30.size
      refine WL.ge rfl rfl rfl rfl rfl (ef_convBytes (bs := [98]) Try.runUnderlying28 Try.runUnderlying5 rfl B31 rfl) ?_
      rintro _ w37 ⟨rfl, f38, R39⟩
      have F40 := Only.trans F34 f38 (fun i hi hl => by have hl : i = _ := hl; omega)
      have F41 := NetAt.only F35 f38 (fun k hk hok hl => by have hl : k = _ := hl; have := (hF1 k hok).2; omega)
      have sz42 := f38.size
      refine WL.ge rfl rfl rfl rfl rfl (ef_call Try.call11 rfl (send_c nb 3 _ [pA] 2 2 [98] _ _ _ _ F41 (by decide) R39 (by decide))) ?_
      rintro _ w43 ⟨rfl, hN', f44⟩
      have z45 := f44.size
      rw [sB.1] at hN'
      obtain ⟨F2, hF2d, N46⟩ : ∃ F : Nat → Prop, (F = fun x => grow F1 w37 x ∧ x < w43.heap.size) ∧ NetAt w43 nb 3 F [pA, pB] := ⟨_, rfl, NetAt.bound hN'⟩
      have hF2 : ∀ x, F2 x → w.heap.size ≤ x ∧ x < w43.heap.size := by rw [hF2d]; exact fun x hx => ⟨hx.1.elim (fun h => (hF1 x h).1) (fun h => by omega), hx.2⟩
      have F47 := Only.trans F40 f44 (fun i hi hl => by have := (hF1 i hl).1; omega)
      have sz48 := f44.size
      refine WL.gy rfl rfl rfl rfl rfl (yi_neq rfl rfl) ?_
      refine WL.y rfl rfl (yi_pickF rfl rfl) ?_
      refine WL.y rfl rfl (yi_move rfl) ?_
      refine WL.split (t := 30) rfl (fun q_ff => ?_) (fun q_ff => ?_)
      · try replace q_ff := of_decide_eq_true q_ff
        exact absurd rfl q_ff
      · try replace q_ff := of_decide_eq_false q_ff
        refine WL.gy rfl rfl rfl rfl rfl (yi_move rfl) ?_
        refine WL.ge rfl rfl rfl rfl rfl (ef_call Try.call14 rfl (double_in nb 0 3 _ [pA, pB] pA _ N46 (by decide) rfl)) ?_
        rintro _ w49 ⟨rfl, hN', f50⟩
        have z51 := f50.size
        rw [sD.1] at hN'
        obtain ⟨F3, hF3d, N52⟩ : ∃ F : Nat → Prop, (F = fun x => grow F2 w43 x ∧ x < w49.heap.size) ∧ NetAt w49 nb 3 F [pA, pB, pA] := ⟨_, rfl, NetAt.bound hN'⟩
        have hF3 : ∀ x, F3 x → w.heap.size ≤ x ∧ x < w49.heap.size := by rw [hF3d]; exact fun x hx => ⟨hx.1.elim (fun h => (hF2 x h).1) (fun h => by omega), hx.2⟩
        have F53 := Only.trans F47 f50 (fun i hi hl => by have := (hF2 i hl).1; omega)
        have sz54 := f50.size
        refine WL.gy rfl rfl rfl rfl rfl (yi_neq rfl rfl) ?_
        refine WL.y rfl rfl (yi_pickF rfl rfl) ?_
        refine WL.y rfl rfl (yi_move rfl) ?_
        refine WL.split (t := 35) rfl (fun q_fff => ?_) (fun q_fff => ?_)
        · try replace q_fff := of_decide_eq_true q_fff
          exact absurd rfl q_fff
        · try replace q_fff := of_decide_eq_false q_fff
          refine WL.gy rfl rfl rfl rfl rfl (yi_move rfl) ?_
          refine WL.ge rfl rfl rfl rfl rfl (ef_call Try.call16 rfl (len_c nb 3 _ [pA, pB, pA] _ N52 (by decide))) ?_
          rintro _ w55 ⟨rfl, rfl⟩
          refine WL.gy rfl rfl rfl rfl rfl (yi_neq rfl rfl) ?_
          refine WL.y rfl rfl (yi_pickF rfl rfl) ?_
          refine WL.done ?_
          refine NW.next ?_
          refine CW.cond rfl (fun q_ffff => ?_) (fun q_ffff => ?_)
          · try replace q_ffff := of_decide_eq_true q_ffff
            exact absurd rfl q_ffff
          · try replace q_ffff := of_decide_eq_false q_ffff
            refine CW.skip ?_
            refine NW.next ?_
            refine CW.seq ?_
            refine CW.region ?_
            refine WL.y rfl rfl (yi_move rfl) ?_
            refine WL.e rfl rfl (ef_call Try.call12 rfl (deliver_in nb 0 3 _ [pA, pB, pA] pA _ N52 (by decide) rfl)) ?_
            rintro _ w57 ⟨A1, c1, rfl, hc1, hm1, -, ⟨z1, hz1, hz1b, R59, hN'⟩, f58⟩
            have z60 := f58.size
            obtain ⟨F4, hF4d, N61⟩ : ∃ F : Nat → Prop, (F = fun x => (F3 x ∨ z1 ≤ x) ∧ x < w57.heap.size) ∧ NetAt w57 nb 3 F [pB, pA] := ⟨_, rfl, NetAt.bound hN'⟩
            have hF4 : ∀ x, F4 x → w.heap.size ≤ x ∧ x < w57.heap.size := by rw [hF4d]; exact fun x hx => ⟨hx.1.elim (fun h => (hF3 x h).1) (fun h => by omega), hx.2⟩
            obtain ⟨y1, hy1⟩ : ∃ y, y = w49.heap.size := ⟨_, rfl⟩
            have hG4_1 : ∀ x, F4 x → ¬ (y1 ≤ x ∧ x < z1) := by rw [hF4d]; exact fun x hx => hx.1.elim (fun h => by have := (hF3 x h).2; omega) (fun h => by omega)
            have RR62 := Row.mono (ok' := fun k => y1 ≤ k ∧ k < z1) (fun k hk => ⟨by omega, hk.2⟩) R59
            have F63 := Only.trans F53 f58 (fun i hi hl => by have := (hF3 i hl).1; omega)
            have sz64 := f58.size
            refine WL.y rfl rfl (yi_move rfl) ?_
            refine WL.y rfl rfl (yi_extract rfl rfl) ?_
            refine WL.y rfl rfl (yi_extract rfl rfl) ?_
            refine WL.e rfl rfl (ef_alloc Try.zeroValue35) ?_
            rintro _ w70 ⟨b3, hb_b3, rfl, f67, B68, z_b3⟩
            have F71 := Only.same F63 f67
            have F72 := NetAt.same N61 f67
            have F73 := Row.same (by decide) RR62 f67
            have sz74 := f67.size
            refine WL.e rfl rfl (ef_store (b := b3) Try.sizeOf35 rfl rfl B68 rfl rfl rfl) ?_
            rintro _ w78 ⟨rfl, f75, B76, z77⟩
            have F79 := Only.trans F71 f75 (fun i hi hl => by have hl : i = _ := hl; omega)
            have F80 := NetAt.only F72 f75 (fun k hk hok hl => by have hl : k = _ := hl; have := (hF4 k hok).2; omega)
            have F81 := Row.only (by decide) F73 f75 (fun k hk hok hl => by have hl : k = _ := hl; omega)
            refine WL.y rfl rfl (yi_assign rfl) ?_
            refine WL.done ?_
            refine NW.next ?_
            refine CW.seq ?_
            refine CW.region ?_
            refine WL.y rfl rfl (yi_move rfl) ?_
            refine WL.e rfl rfl (ef_buildSlice Try.runUnderlying28 Try.sizeOf5 Try.zeroValue5 rfl (fun _ => by kernel_rfl)) ?_
            rintro _ w87 ⟨a3, hb_a3, rfl, f84, B85, z_a3⟩
            have F88 := Only.same F79 f84
            have F89 := NetAt.same F80 f84
            have F90 := Row.same (by decide) F81 f84
            have F91 := Blk.same B76 f84
            have sz92 := f84.size
            refine WL.e rfl rfl (ef_convBytes (bs := [120]) Try.runUnderlying28 Try.runUnderlying5 rfl B85 rfl) ?_
            rintro _ w93 ⟨rfl, f94, R95⟩
            have F96 := Only.trans F88 f94 (fun i hi hl => by have hl : i = _ := hl; omega)
            have F97 := NetAt.only F89 f94 (fun k hk hok hl => by have hl : k = _ := hl; have := (hF4 k hok).2; omega)
            have F98 := Row.only (by decide) F90 f94 (fun k hk hok hl => by have hl : k = _ := hl; omega)
            have F99 := Blk.only F91 f94 (fun hl => by have hl : _ = _ := hl; omega)
            have sz100 := f94.size
            refine WL.e rfl rfl (ef_call Try.call15 rfl (corrupt_in nb 0 3 _ [pB, pA] pB [120] _ _ _ _ F97 (by decide) rfl R95 (by decide))) ?_
            rintro _ w101 ⟨rfl, hN', f102⟩
            have z103 := f102.size
            rw [sX.1] at hN'
            obtain ⟨F5, hF5d, N104⟩ : ∃ F : Nat → Prop, (F = fun x => grow F4 w93 x ∧ x < w101.heap.size) ∧ NetAt w101 nb 3 F [pX, pA] := ⟨_, rfl, NetAt.bound hN'⟩
            have hF5 : ∀ x, F5 x → w.heap.size ≤ x ∧ x < w101.heap.size := by rw [hF5d]; exact fun x hx => ⟨hx.1.elim (fun h => (hF4 x h).1) (fun h => by omega), hx.2⟩
            have hG5_1 : ∀ x, F5 x → ¬ (y1 ≤ x ∧ x < z1) := by rw [hF5d]; exact fun x hx => hx.1.elim (fun h => hG4_1 x h) (fun h => by omega)
            have hB5_b3 : ¬ F5 b3 := by rw [hF5d]; exact fun hx => hx.1.elim (fun h => by have := (hF4 _ h).2; omega) (fun h => by omega)
            have F105 := Only.trans F96 f102 (fun i hi hl => by have := (hF4 i hl).1; omega)
            have F106 := Row.only (by decide) F98 f102 (fun k hk hok hl => hG4_1 k hl hok)
            have F107 := Blk.only F99 f102 (fun hl => by have := (hF4 _ hl).2; omega)
            have sz108 := f102.size
            refine WL.y rfl rfl (yi_assign rfl) ?_
            refine WL.done ?_
            refine NW.next ?_
            refine CW.seq ?_
            refine CW.region ?_
            refine WL.y rfl rfl (yi_move rfl) ?_
            refine WL.e rfl rfl (ef_call Try.call12 rfl (deliver_in nb 0 3 _ [pX, pA] pX _ N104 (by decide) rfl)) ?_
            rintro _ w109 ⟨A2, c2, rfl, hc2, hm2, -, ⟨z2, hz2, hz2b, R111, hN'⟩, f110⟩
            have z112 := f110.size
            obtain ⟨F6, hF6d, N113⟩ : ∃ F : Nat → Prop, (F = fun x => (F5 x ∨ z2 ≤ x) ∧ x < w109.heap.size) ∧ NetAt w109 nb 3 F [pA] := ⟨_, rfl, NetAt.bound hN'⟩
            have hF6 : ∀ x, F6 x → w.heap.size ≤ x ∧ x < w109.heap.size := by rw [hF6d]; exact fun x hx => ⟨hx.1.elim (fun h => (hF5 x h).1) (fun h => by omega), hx.2⟩
            obtain ⟨y2, hy2⟩ : ∃ y, y = w101.heap.size := ⟨_, rfl⟩
            have hG6_2 : ∀ x, F6 x → ¬ (y2 ≤ x ∧ x < z2) := by rw [hF6d]; exact fun x hx => hx.1.elim (fun h => by have := (hF5 x h).2; omega) (fun h => by omega)
            have RR114 := Row.mono (ok' := fun k => y2 ≤ k ∧ k < z2) (fun k hk => ⟨by omega, hk.2⟩) R111
            have F115 := Only.trans F105 f110 (fun i hi hl => by have := (hF5 i hl).1; omega)
            have F116 := Row.only (by decide) F106 f110 (fun k hk hok hl => hG5_1 k hl hok)
            have F117 := Blk.only F107 f110 hB5_b3
            have sz118 := f110.size
            refine WL.y rfl rfl (yi_move rfl) ?_
            refine WL.y rfl rfl (yi_extract rfl rfl) ?_
            refine WL.y rfl rfl (yi_extract rfl rfl) ?_
            refine WL.e rfl rfl (ef_alloc Try.zeroValue35) ?_
            rintro _ w124 ⟨b6, hb_b6, rfl, f121, B122, z_b6⟩
            have F125 := Only.same F115 f121
            have F126 := Row.same (by decide) F116 f121
            have F127 := Blk.same F117 f121
            have F128 := NetAt.same N113 f121
            have F129 := Row.same (by decide) RR114 f121
            have sz130 := f121.size
            refine WL.e rfl rfl (ef_store (b := b6) Try.sizeOf35 rfl rfl B122 rfl rfl rfl) ?_
            rintro _ w134 ⟨rfl, f131, B132, z133⟩
            have F135 := Only.trans F125 f131 (fun i hi hl => by have hl : i = _ := hl; omega)
            have F136 := Row.only (by decide) F126 f131 (fun k hk hok hl => by have hl : k = _ := hl; omega)
            have F137 := Blk.only F127 f131 (by show ¬ (_ = _); omega)
            have F138 := NetAt.only F128 f131 (fun k hk hok hl => by have hl : k = _ := hl; have := (hF6 k hok).2; omega)
            have F139 := Row.only (by decide) F129 f131 (fun k hk hok hl => by have hl : k = _ := hl; omega)
            refine WL.y rfl rfl (yi_assign rfl) ?_
            refine WL.done ?_
            refine NW.next ?_
            refine CW.seq ?_
            refine CW.region ?_
            refine WL.y rfl rfl (yi_move rfl) ?_
            refine WL.e rfl rfl (ef_call Try.call61 rfl (tell_out nb 1 3 _ [pA] _ F138 (by decide) (by decide))) ?_
            rintro _ w140 ⟨rfl, f141⟩
            have F142 := Only.same F135 f141
            have F143 := Row.same (by decide) F136 f141
            have F144 := Blk.same F137 f141
            have F145 := NetAt.same F138 f141
            have F146 := Row.same (by decide) F139 f141
            have F147 := Blk.same B132 f141
            have sz148 := f141.size
            refine WL.y rfl rfl (yi_move rfl) ?_
            refine WL.y rfl rfl (yi_extract rfl rfl) ?_
            refine WL.y rfl rfl (yi_extract rfl rfl) ?_
            refine WL.e rfl rfl (ef_alloc Try.zeroValue35) ?_
            rintro _ w154 ⟨b8, hb_b8, rfl, f151, B152, z_b8⟩
            have F155 := Only.same F142 f151
            have F156 := Row.same (by decide) F143 f151
            have F157 := Blk.same F144 f151
            have F158 := NetAt.same F145 f151
            have F159 := Row.same (by decide) F146 f151
            have F160 := Blk.same F147 f151
            have sz161 := f151.size
            refine WL.e rfl rfl (ef_store (b := b8) Try.sizeOf35 rfl rfl B152 rfl rfl rfl) ?_
            rintro _ w165 ⟨rfl, f162, B163, z164⟩
            have F166 := Only.trans F155 f162 (fun i hi hl => by have hl : i = _ := hl; omega)
            have F167 := Row.only (by decide) F156 f162 (fun k hk hok hl => by have hl : k = _ := hl; omega)
            have F168 := Blk.only F157 f162 (by show ¬ (_ = _); omega)
            have F169 := NetAt.only F158 f162 (fun k hk hok hl => by have hl : k = _ := hl; have := (hF6 k hok).2; omega)
            have F170 := Row.only (by decide) F159 f162 (fun k hk hok hl => by have hl : k = _ := hl; omega)
            have F171 := Blk.only F160 f162 (by show ¬ (_ = _); omega)
            refine WL.y rfl rfl (yi_assign rfl) ?_
            refine WL.done ?_
            refine NW.next ?_
            refine CW.seq ?_
            refine CW.region ?_
            refine WL.y rfl rfl (yi_move rfl) ?_
            refine WL.y rfl rfl (yi_eql rfl rfl) ?_
            refine WL.y rfl rfl (yi_move rfl) ?_
            refine WL.split (t := 61) rfl (fun q_ffffF => ?_) (fun q_ffffF => ?_)
            · try replace q_ffffF := of_decide_eq_true q_ffffF
              refine WL.gy rfl rfl rfl rfl rfl (yi_fieldAddr Try.runUnderlying35 rfl Try.sizeOf3 rfl) ?_
              refine WL.gy rfl rfl rfl rfl rfl (yi_loadB Try.isAgg3 rfl (by assumption) rfl) ?_
              refine WL.gy rfl rfl rfl rfl rfl (yi_eql rfl rfl) ?_
              refine WL.y rfl rfl (yi_pickT rfl rfl) ?_
              refine WL.y rfl rfl (yi_move rfl) ?_
              refine WL.split (t := 66) rfl (fun q_ffffFt => ?_) (fun q_ffffFt => ?_)
              · try replace q_ffffFt := of_decide_eq_true q_ffffFt
                refine WL.gy rfl rfl rfl rfl rfl (yi_fieldAddr Try.runUnderlying35 rfl Try.sizeOf3 rfl) ?_
                refine WL.gy rfl rfl rfl rfl rfl (yi_loadB Try.isAgg3 rfl (by assumption) rfl) ?_
                refine WL.gy rfl rfl rfl rfl rfl (yi_eql rfl rfl) ?_
                refine WL.y rfl rfl (yi_pickT rfl rfl) ?_
                refine WL.y rfl rfl (yi_move rfl) ?_
                refine WL.split (t := 71) rfl (fun q_ffffFtt => ?_) (fun q_ffffFtt => ?_)
                · try replace q_ffffFtt := of_decide_eq_true q_ffffFtt
                  refine WL.gy rfl rfl rfl rfl rfl (yi_fieldAddr Try.runUnderlying35 rfl Try.sizeOf28 rfl) ?_
                  refine WL.gy rfl rfl rfl rfl rfl (yi_loadB Try.isAgg28 rfl (by assumption) rfl) ?_
                  refine WL.gy rfl rfl rfl rfl rfl (yi_convStr Try.runUnderlying28 Try.runUnderlying9 Try.runUnderlying5 rfl F167 (bs := [97])) ?_
                  refine WL.gy rfl rfl rfl rfl rfl (yi_eqlS rfl rfl) ?_
                  refine WL.y rfl rfl (yi_pickT rfl rfl) ?_
                  refine WL.y rfl rfl (yi_move rfl) ?_
                  refine WL.split (t := 77) rfl (fun q_ffffFttt => ?_) (fun q_ffffFttt => ?_)
                  · try replace q_ffffFttt := of_decide_eq_true q_ffffFttt
                    refine WL.gy rfl rfl rfl rfl rfl (yi_fieldAddr Try.runUnderlying35 rfl Try.sizeOf4 rfl) ?_
                    refine WL.gy rfl rfl rfl rfl rfl (yi_loadB Try.isAgg4 rfl (by assumption) rfl) ?_
                    refine WL.y rfl rfl (yi_pickT rfl rfl) ?_
                    refine WL.y rfl rfl (yi_move rfl) ?_
                    refine WL.split (t := 81) rfl (fun q_ffffFtttt => ?_) (fun q_ffffFtttt => ?_)
                    · try replace q_ffffFtttt := of_decide_eq_true q_ffffFtttt
                      refine WL.gy rfl rfl rfl rfl rfl (yi_move rfl) ?_
                      refine WL.gy rfl rfl rfl rfl rfl (yi_eql rfl rfl) ?_
                      refine WL.y rfl rfl (yi_pickT rfl rfl) ?_
                      refine WL.y rfl rfl (yi_move rfl) ?_
                      refine WL.split (t := 85) rfl (fun q_ffffFttttt => ?_) (fun q_ffffFttttt => ?_)
                      · try replace q_ffffFttttt := of_decide_eq_true q_ffffFttttt
                        refine WL.gy rfl rfl rfl rfl rfl (yi_move rfl) ?_
                        refine WL.gy rfl rfl rfl rfl rfl (yi_eql rfl rfl) ?_
                        refine WL.y rfl rfl (yi_pickT rfl rfl) ?_
                        refine WL.y rfl rfl (yi_move rfl) ?_
                        refine WL.split (t := 89) rfl (fun q_ffffFtttttt => ?_) (fun q_ffffFtttttt => ?_)
                        · try replace q_ffffFtttttt := of_decide_eq_true q_ffffFtttttt
                          refine WL.gy rfl rfl rfl rfl rfl (yi_fieldAddr Try.runUnderlying35 rfl Try.sizeOf3 rfl) ?_
                          refine WL.gy rfl rfl rfl rfl rfl (yi_loadB Try.isAgg3 rfl (by assumption) rfl) ?_
                          refine WL.gy rfl rfl rfl rfl rfl (yi_eql rfl rfl) ?_
                          refine WL.y rfl rfl (yi_pickT rfl rfl) ?_
                          refine WL.y rfl rfl (yi_move rfl) ?_
                          refine WL.split (t := 94) rfl (fun q_ffffFttttttt => ?_) (fun q_ffffFttttttt => ?_)
                          · try replace q_ffffFttttttt := of_decide_eq_true q_ffffFttttttt
                            refine WL.gy rfl rfl rfl rfl rfl (yi_fieldAddr Try.runUnderlying35 rfl Try.sizeOf3 rfl) ?_
                            refine WL.gy rfl rfl rfl rfl rfl (yi_loadB Try.isAgg3 rfl (by assumption) rfl) ?_
                            refine WL.gy rfl rfl rfl rfl rfl (yi_eql rfl rfl) ?_
                            refine WL.y rfl rfl (yi_pickT rfl rfl) ?_
                            refine WL.y rfl rfl (yi_move rfl) ?_
                            refine WL.split (t := 99) rfl (fun q_ffffFtttttttt => ?_) (fun q_ffffFtttttttt => ?_)
                            · try replace q_ffffFtttttttt := of_decide_eq_true q_ffffFtttttttt
                              refine WL.gy rfl rfl rfl rfl rfl (yi_fieldAddr Try.runUnderlying35 rfl Try.sizeOf28 rfl) ?_
                              refine WL.gy rfl rfl rfl rfl rfl (yi_loadB Try.isAgg28 rfl (by assumption) rfl) ?_
                              refine WL.gy rfl rfl rfl rfl rfl (yi_convStr Try.runUnderlying28 Try.runUnderlying9 Try.runUnderlying5 rfl F170 (bs := [120])) ?_
                              refine WL.gy rfl rfl rfl rfl rfl (yi_eqlS rfl rfl) ?_
                              refine WL.y rfl rfl (yi_pickT rfl rfl) ?_
                              refine WL.y rfl rfl (yi_move rfl) ?_
                              refine WL.split (t := 105) rfl (fun q_ffffFttttttttt => ?_) (fun q_ffffFttttttttt => ?_)
                              · try replace q_ffffFttttttttt := of_decide_eq_true q_ffffFttttttttt
                                refine WL.gy rfl rfl rfl rfl rfl (yi_fieldAddr Try.runUnderlying35 rfl Try.sizeOf4 rfl) ?_
                                refine WL.gy rfl rfl rfl rfl rfl (yi_loadB Try.isAgg4 rfl (by assumption) rfl) ?_
                                refine WL.gy rfl rfl rfl rfl rfl (yi_not rfl) ?_
                                refine WL.y rfl rfl (yi_pickT rfl rfl) ?_
                                refine WL.y rfl rfl (yi_move rfl) ?_
                                refine WL.split (t := 110) rfl (fun q_ffffFtttttttttt => ?_) (fun q_ffffFtttttttttt => ?_)
                                · try replace q_ffffFtttttttttt := of_decide_eq_true q_ffffFtttttttttt
                                  refine WL.gy rfl rfl rfl rfl rfl (yi_move rfl) ?_
                                  refine WL.gy rfl rfl rfl rfl rfl (yi_eql rfl rfl) ?_
                                  refine WL.y rfl rfl (yi_pickT rfl rfl) ?_
                                  refine WL.y rfl rfl (yi_assign rfl) ?_
                                  refine WL.done ?_
                                  refine NW.next ?_
                                  refine CW.ret ?_
                                  refine NW.ret1 rfl rfl ?_
                                  exact ⟨_, rfl, rfl, F166⟩
                                · try replace q_ffffFtttttttttt := of_decide_eq_false q_ffffFtttttttttt
                                  first | exact absurd rfl q_ffffFtttttttttt | cases q_ffffFtttttttttt | simp at q_ffffFtttttttttt
                              · try replace q_ffffFttttttttt := of_decide_eq_false q_ffffFttttttttt
                                first | exact absurd rfl q_ffffFttttttttt | cases q_ffffFttttttttt | simp at q_ffffFttttttttt
                            · try replace q_ffffFtttttttt := of_decide_eq_false q_ffffFtttttttt
                              first | exact absurd rfl q_ffffFtttttttt | cases q_ffffFtttttttt | simp at q_ffffFtttttttt
                          · try replace q_ffffFttttttt := of_decide_eq_false q_ffffFttttttt
                            first | exact absurd rfl q_ffffFttttttt | cases q_ffffFttttttt | simp at q_ffffFttttttt
                        · try replace q_ffffFtttttt := of_decide_eq_false q_ffffFtttttt
                          first | exact absurd rfl q_ffffFtttttt | cases q_ffffFtttttt | simp at q_ffffFtttttt
                      · try replace q_ffffFttttt := of_decide_eq_false q_ffffFttttt
                        first | exact absurd rfl q_ffffFttttt | cases q_ffffFttttt | simp at q_ffffFttttt
                    · try replace q_ffffFtttt := of_decide_eq_false q_ffffFtttt
                      first | exact absurd rfl q_ffffFtttt | cases q_ffffFtttt | simp at q_ffffFtttt
                  · try replace q_ffffFttt := of_decide_eq_false q_ffffFttt
                    first | exact absurd rfl q_ffffFttt | cases q_ffffFttt | simp at q_ffffFttt
                · try replace q_ffffFtt := of_decide_eq_false q_ffffFtt
                  first | exact absurd rfl q_ffffFtt | cases q_ffffFtt | simp at q_ffffFtt
              · try replace q_ffffFt := of_decide_eq_false q_ffffFt
                first | exact absurd rfl q_ffffFt | cases q_ffffFt | simp at q_ffffFt
            · try replace q_ffffF := of_decide_eq_false q_ffffF
              first | exact absurd rfl q_ffffF | cases q_ffffF | simp at q_ffffF

end Go.Proofs.YtgmjgdjobkmbgaaN
