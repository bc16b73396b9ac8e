/- A topology between ten nodes, walked. -/
import Derived.Test.YtgmjgdjobkmbgaaTopG
import Derived.Test.YtgmjgdjobkmbgaaAny
set_option linter.unusedVariables false
set_option linter.unusedSimpArgs false
namespace Go.Proofs.YtgmjgdjobkmbgaaN
open Go.Proofs.YtgmjgdjobkmbgaaL Go.RowKit Go.Proofs
attribute [local irreducible] Ef Yi WL PL CW NW Ret
open Go.Lib Go.Sort
def dPr : Dt (UInt8 × UInt8) := dPair dU8 dU8
def edOf (p : UInt8 × UInt8) : Ed := ⟨((p.1.toNat % 10 : Nat) : Int), ((p.2.toNat % 10 : Nat) : Int)⟩
def betw (l : List (UInt8 × UInt8)) : Tp := ⟨1, List.replicate 10 false, [(l.take 40).map edOf]⟩

theorem pr_at {w : World} {ok : Nat → Prop} {A : Option Addr} {l : List (UInt8 × UInt8)} (R : Row dPr w ok A l) {k : Nat} {p : UInt8 × UInt8} (hp : l[k]? = some p) : ∃ ad, A = some ad ∧ ok ad.block ∧ w.cell? ((ad.add (k * 2)).add 0) = some (.int .u8 (p.1.toNat : Int)) ∧ w.cell? ((ad.add (k * 2)).add 1) = some (.int .u8 (p.2.toNat : Int)) := by
  obtain ⟨ad, cs, hA, hb, ⟨c0, c1, rfl, h0, h1⟩, hl, hc⟩ := R.get hp
  have h0 : c0 = [_] := h0
  have h1 : c1 = [_] := h1
  subst h0
  subst h1
  refine ⟨ad, hA, hb, ?_, ?_⟩
  · rw [add_add]; exact hc 0 _ rfl
  · rw [add_add]; exact hc 1 _ rfl
theorem u8_rem (b : UInt8) : ((b.toNat : Int)).tmod 10 = ((b.toNat % 10 : Nat) : Int) := by
  rw [Int.tmod_eq_emod_of_nonneg (by omega)]; omega
theorem u8_conv (b : UInt8) : IntKind.i64.wrap ((b.toNat % 10 : Nat) : Int) = ((b.toNat % 10 : Nat) : Int) := wrap_i64 (by omega) (by omega)
theorem ownE {w : World} {ok : Nat → Prop} {v : Value} {L : List Ed} (h : Own dEd 86 w ok v L) : Own dEd 86 w (fun k => v.ownBlock = some k) v L := by
  obtain ⟨cs, ho, hb, h1, hK⟩ := h
  refine ⟨cs, ho, fun k hk => hk, h1, fun j x hx => ?_⟩
  have h2 := dEd_K (hK j x hx)
  rw [h2]
  exact dEd_mk

theorem between_c (A : Option Addr) (c : Nat) (l : List (UInt8 × UInt8)) (ok : Nat → Prop) (w : World) (R : Row dPr w ok A l) (hok : ∀ k, ok k → k < w.heap.size) (hc : l.length ≤ c) :
    Ret Try.prog 33 [.slice A l.length c] w fun u w' => ∃ ub hb, u = .agg #[.int .u64 1, .slice (some ⟨ub, 0, none⟩) 10 10, .slice (some ⟨hb, 0, none⟩) 1 1] ∧ Row dEds w' (fun k => w.heap.size ≤ k) (some ⟨hb, 0, none⟩) (betw l).hops ∧ Blk w' ub (Array.replicate 10 (.bool false)) 4 ∧ Same w w' := by
  have fr0 : Only (fun _ => False) w w := Only.refl _ _
  refine Ret.go Try.func33 rfl Try.ntmps33 rfl ?_
  refine CW.seq ?_
  refine CW.region ?_
  refine WL.e rfl rfl (ef_alloc Try.zeroValue60) ?_
  rintro _ w6 ⟨rb, hb_rb, rfl, f3, B4, z_rb⟩
  have F7 := Row.same (by decide) R f3
  have F8 := Only.same fr0 f3
  have sz9 := f3.size
  refine WL.done ?_
  refine NW.next ?_
  refine CW.cut (fun a w' => ∃ ub hb tb, Same w w' ∧ Blk w' (w.heap.size) #[.int .u64 0, .slice none 0 0, .slice none 0 0] 60 ∧ Blk w' ub (Array.replicate 10 (.bool false)) 4 ∧ Blk w' hb #[.slice none 0 0] 83 ∧ Blk w' tb #[.int .u64 1, .slice (some ⟨ub, 0, none⟩) 10 10, .slice (some ⟨hb, 0, none⟩) 1 1] 60 ∧ (w.heap.size < ub ∧ w.heap.size < hb ∧ w.heap.size < tb ∧ ub ≠ hb ∧ ub ≠ tb ∧ hb ≠ tb) ∧ Env 43 [] [(0, .slice A l.length c), (2, .pointer (some ⟨w.heap.size, 0, none⟩)), (3, .pointer (some ⟨tb, 0, none⟩))] a) ?_ ?_
  · have fd10 : Same w6 w6.drew := Only.drew _ _
    obtain ⟨w11, hww11⟩ : ∃ wz, wz = w6.drew := ⟨_, rfl⟩
    rw [← hww11] at fd10
    have F12 := Row.same (by decide) F7 fd10
    have F13 := Only.same F8 fd10
    have F14 := Blk.same B4 fd10
    have sz15 := fd10.size
    refine CW.any Try_mixed hww11 ?_
    refine AN.three (i := 0) (j := 1) (m := 3) (by kernel_rfl) ?_ ?_ ?_
    · refine AO.e rfl rfl rfl (ef_makeSlice1 Try.runUnderlying57 Try.typeInfo4 Try.zeroValue4 rfl rfl (k := 10) rfl rfl (by decide) (by decide) (by decide)) ?_
      rintro _ w16 ⟨ub, hb_ub, rfl, f17, B18, z_ub⟩
      have F19 := Row.same (by decide) F12 f17
      have F20 := Only.same F13 f17
      have F21 := Blk.same F14 f17
      have sz22 := f17.size
      refine AN.two (i := 1) (j := 3) (by kernel_rfl) ?_ ?_
      · refine AO.e rfl rfl rfl (ef_makeSlice1 Try.runUnderlying58 Try.typeInfo83 Try.zeroValue83 rfl rfl (k := 1) rfl rfl (by decide) (by decide) (by decide)) ?_
        rintro _ w23 ⟨hb, hb_hb, rfl, f24, B25, z_hb⟩
        have F26 := Row.same (by decide) F19 f24
        have F27 := Only.same F20 f24
        have F28 := Blk.same F21 f24
        have F29 := Blk.same B18 f24
        have sz30 := f24.size
        refine AN.two (i := 2) (j := 3) (by kernel_rfl) ?_ ?_
        · refine AO.y rfl rfl rfl (yi_buildS Try.runUnderlying60 Try.zeroValue60 rfl (fun _ => by kernel_rfl)) ?_
          refine AN.one (i := 3) (by kernel_rfl) ?_
          refine AO.e rfl rfl rfl (ef_alloc Try.zeroValue60) ?_
          rintro _ w36 ⟨tb, hb_tb, rfl, f33, B34, z_tb⟩
          have F37 := Row.same (by decide) F26 f33
          have F38 := Only.same F27 f33
          have F39 := Blk.same F28 f33
          have F40 := Blk.same F29 f33
          have F41 := Blk.same B25 f33
          have sz42 := f33.size
          refine AN.one (i := 4) (by kernel_rfl) ?_
          refine AO.e rfl rfl rfl (ef_store (b := tb) Try.sizeOf60 rfl rfl B34 rfl rfl rfl) ?_
          rintro _ w46 ⟨rfl, f43, B44, z45⟩
          have F47 := Row.only (by decide) F37 f43 (fun k hk hok' hl => by have hl : k = _ := hl; have := hok k hok'; omega)
          have F48 := Only.trans F38 f43 (fun i hi hl => by have hl : i = _ := hl; omega)
          have F49 := Blk.only F39 f43 (by show ¬ (_ = _); omega)
          have F50 := Blk.only F40 f43 (by show ¬ (_ = _); omega)
          have F51 := Blk.only F41 f43 (by show ¬ (_ = _); omega)
          refine AN.done (by kernel_rfl) ?_
          refine NW.meet ?_
          subst hb_rb
          exact fun a ha => ⟨ub, hb, tb, F48, F49, F50, F51, B44, (by omega), ha.sub ⟨rfl, rfl, rfl, trivial⟩⟩
        · refine AO.e rfl rfl rfl (ef_alloc Try.zeroValue60) ?_
          rintro _ w57 ⟨tb, hb_tb, rfl, f54, B55, z_tb⟩
          have F58 := Row.same (by decide) F26 f54
          have F59 := Only.same F27 f54
          have F60 := Blk.same F28 f54
          have F61 := Blk.same F29 f54
          have F62 := Blk.same B25 f54
          have sz63 := f54.size
          refine AN.one (i := 2) (by kernel_rfl) ?_
          refine AO.y rfl rfl rfl (yi_buildS Try.runUnderlying60 Try.zeroValue60 rfl (fun _ => by kernel_rfl)) ?_
          refine AN.one (i := 4) (by kernel_rfl) ?_
          refine AO.e rfl rfl rfl (ef_store (b := tb) Try.sizeOf60 rfl rfl B55 rfl rfl rfl) ?_
          rintro _ w67 ⟨rfl, f64, B65, z66⟩
          have F68 := Row.only (by decide) F58 f64 (fun k hk hok' hl => by have hl : k = _ := hl; have := hok k hok'; omega)
          have F69 := Only.trans F59 f64 (fun i hi hl => by have hl : i = _ := hl; omega)
          have F70 := Blk.only F60 f64 (by show ¬ (_ = _); omega)
          have F71 := Blk.only F61 f64 (by show ¬ (_ = _); omega)
          have F72 := Blk.only F62 f64 (by show ¬ (_ = _); omega)
          refine AN.done (by kernel_rfl) ?_
          refine NW.meet ?_
          subst hb_rb
          exact fun a ha => ⟨ub, hb, tb, F69, F70, F71, F72, B65, (by omega), ha.sub ⟨rfl, rfl, rfl, trivial⟩⟩
      · refine AO.e rfl rfl rfl (ef_alloc Try.zeroValue60) ?_
        rintro _ w78 ⟨tb, hb_tb, rfl, f75, B76, z_tb⟩
        have F79 := Row.same (by decide) F19 f75
        have F80 := Only.same F20 f75
        have F81 := Blk.same F21 f75
        have F82 := Blk.same B18 f75
        have sz83 := f75.size
        refine AN.one (i := 1) (by kernel_rfl) ?_
        refine AO.e rfl rfl rfl (ef_makeSlice1 Try.runUnderlying58 Try.typeInfo83 Try.zeroValue83 rfl rfl (k := 1) rfl rfl (by decide) (by decide) (by decide)) ?_
        rintro _ w84 ⟨hb, hb_hb, rfl, f85, B86, z_hb⟩
        have F87 := Row.same (by decide) F79 f85
        have F88 := Only.same F80 f85
        have F89 := Blk.same F81 f85
        have F90 := Blk.same F82 f85
        have F91 := Blk.same B76 f85
        have sz92 := f85.size
        refine AN.one (i := 2) (by kernel_rfl) ?_
        refine AO.y rfl rfl rfl (yi_buildS Try.runUnderlying60 Try.zeroValue60 rfl (fun _ => by kernel_rfl)) ?_
        refine AN.one (i := 4) (by kernel_rfl) ?_
        refine AO.e rfl rfl rfl (ef_store (b := tb) Try.sizeOf60 rfl rfl F91 rfl rfl rfl) ?_
        rintro _ w96 ⟨rfl, f93, B94, z95⟩
        have F97 := Row.only (by decide) F87 f93 (fun k hk hok' hl => by have hl : k = _ := hl; have := hok k hok'; omega)
        have F98 := Only.trans F88 f93 (fun i hi hl => by have hl : i = _ := hl; omega)
        have F99 := Blk.only F89 f93 (by show ¬ (_ = _); omega)
        have F100 := Blk.only F90 f93 (by show ¬ (_ = _); omega)
        have F101 := Blk.only B86 f93 (by show ¬ (_ = _); omega)
        refine AN.done (by kernel_rfl) ?_
        refine NW.meet ?_
        subst hb_rb
        exact fun a ha => ⟨ub, hb, tb, F98, F99, F100, F101, B94, (by omega), ha.sub ⟨rfl, rfl, rfl, trivial⟩⟩
    · refine AO.e rfl rfl rfl (ef_makeSlice1 Try.runUnderlying58 Try.typeInfo83 Try.zeroValue83 rfl rfl (k := 1) rfl rfl (by decide) (by decide) (by decide)) ?_
      rintro _ w102 ⟨hb, hb_hb, rfl, f103, B104, z_hb⟩
      have F105 := Row.same (by decide) F12 f103
      have F106 := Only.same F13 f103
      have F107 := Blk.same F14 f103
      have sz108 := f103.size
      refine AN.two (i := 0) (j := 3) (by kernel_rfl) ?_ ?_
      · refine AO.e rfl rfl rfl (ef_makeSlice1 Try.runUnderlying57 Try.typeInfo4 Try.zeroValue4 rfl rfl (k := 10) rfl rfl (by decide) (by decide) (by decide)) ?_
        rintro _ w109 ⟨ub, hb_ub, rfl, f110, B111, z_ub⟩
        have F112 := Row.same (by decide) F105 f110
        have F113 := Only.same F106 f110
        have F114 := Blk.same F107 f110
        have F115 := Blk.same B104 f110
        have sz116 := f110.size
        refine AN.two (i := 2) (j := 3) (by kernel_rfl) ?_ ?_
        · refine AO.y rfl rfl rfl (yi_buildS Try.runUnderlying60 Try.zeroValue60 rfl (fun _ => by kernel_rfl)) ?_
          refine AN.one (i := 3) (by kernel_rfl) ?_
          refine AO.e rfl rfl rfl (ef_alloc Try.zeroValue60) ?_
          rintro _ w122 ⟨tb, hb_tb, rfl, f119, B120, z_tb⟩
          have F123 := Row.same (by decide) F112 f119
          have F124 := Only.same F113 f119
          have F125 := Blk.same F114 f119
          have F126 := Blk.same F115 f119
          have F127 := Blk.same B111 f119
          have sz128 := f119.size
          refine AN.one (i := 4) (by kernel_rfl) ?_
          refine AO.e rfl rfl rfl (ef_store (b := tb) Try.sizeOf60 rfl rfl B120 rfl rfl rfl) ?_
          rintro _ w132 ⟨rfl, f129, B130, z131⟩
          have F133 := Row.only (by decide) F123 f129 (fun k hk hok' hl => by have hl : k = _ := hl; have := hok k hok'; omega)
          have F134 := Only.trans F124 f129 (fun i hi hl => by have hl : i = _ := hl; omega)
          have F135 := Blk.only F125 f129 (by show ¬ (_ = _); omega)
          have F136 := Blk.only F126 f129 (by show ¬ (_ = _); omega)
          have F137 := Blk.only F127 f129 (by show ¬ (_ = _); omega)
          refine AN.done (by kernel_rfl) ?_
          refine NW.meet ?_
          subst hb_rb
          exact fun a ha => ⟨ub, hb, tb, F134, F135, F137, F136, B130, (by omega), ha.sub ⟨rfl, rfl, rfl, trivial⟩⟩
        · refine AO.e rfl rfl rfl (ef_alloc Try.zeroValue60) ?_
          rintro _ w143 ⟨tb, hb_tb, rfl, f140, B141, z_tb⟩
          have F144 := Row.same (by decide) F112 f140
          have F145 := Only.same F113 f140
          have F146 := Blk.same F114 f140
          have F147 := Blk.same F115 f140
          have F148 := Blk.same B111 f140
          have sz149 := f140.size
          refine AN.one (i := 2) (by kernel_rfl) ?_
          refine AO.y rfl rfl rfl (yi_buildS Try.runUnderlying60 Try.zeroValue60 rfl (fun _ => by kernel_rfl)) ?_
          refine AN.one (i := 4) (by kernel_rfl) ?_
          refine AO.e rfl rfl rfl (ef_store (b := tb) Try.sizeOf60 rfl rfl B141 rfl rfl rfl) ?_
          rintro _ w153 ⟨rfl, f150, B151, z152⟩
          have F154 := Row.only (by decide) F144 f150 (fun k hk hok' hl => by have hl : k = _ := hl; have := hok k hok'; omega)
          have F155 := Only.trans F145 f150 (fun i hi hl => by have hl : i = _ := hl; omega)
          have F156 := Blk.only F146 f150 (by show ¬ (_ = _); omega)
          have F157 := Blk.only F147 f150 (by show ¬ (_ = _); omega)
          have F158 := Blk.only F148 f150 (by show ¬ (_ = _); omega)
          refine AN.done (by kernel_rfl) ?_
          refine NW.meet ?_
          subst hb_rb
          exact fun a ha => ⟨ub, hb, tb, F155, F156, F158, F157, B151, (by omega), ha.sub ⟨rfl, rfl, rfl, trivial⟩⟩
      · refine AO.e rfl rfl rfl (ef_alloc Try.zeroValue60) ?_
        rintro _ w164 ⟨tb, hb_tb, rfl, f161, B162, z_tb⟩
        have F165 := Row.same (by decide) F105 f161
        have F166 := Only.same F106 f161
        have F167 := Blk.same F107 f161
        have F168 := Blk.same B104 f161
        have sz169 := f161.size
        refine AN.one (i := 0) (by kernel_rfl) ?_
        refine AO.e rfl rfl rfl (ef_makeSlice1 Try.runUnderlying57 Try.typeInfo4 Try.zeroValue4 rfl rfl (k := 10) rfl rfl (by decide) (by decide) (by decide)) ?_
        rintro _ w170 ⟨ub, hb_ub, rfl, f171, B172, z_ub⟩
        have F173 := Row.same (by decide) F165 f171
        have F174 := Only.same F166 f171
        have F175 := Blk.same F167 f171
        have F176 := Blk.same F168 f171
        have F177 := Blk.same B162 f171
        have sz178 := f171.size
        refine AN.one (i := 2) (by kernel_rfl) ?_
        refine AO.y rfl rfl rfl (yi_buildS Try.runUnderlying60 Try.zeroValue60 rfl (fun _ => by kernel_rfl)) ?_
        refine AN.one (i := 4) (by kernel_rfl) ?_
        refine AO.e rfl rfl rfl (ef_store (b := tb) Try.sizeOf60 rfl rfl F177 rfl rfl rfl) ?_
        rintro _ w182 ⟨rfl, f179, B180, z181⟩
        have F183 := Row.only (by decide) F173 f179 (fun k hk hok' hl => by have hl : k = _ := hl; have := hok k hok'; omega)
        have F184 := Only.trans F174 f179 (fun i hi hl => by have hl : i = _ := hl; omega)
        have F185 := Blk.only F175 f179 (by show ¬ (_ = _); omega)
        have F186 := Blk.only F176 f179 (by show ¬ (_ = _); omega)
        have F187 := Blk.only B172 f179 (by show ¬ (_ = _); omega)
        refine AN.done (by kernel_rfl) ?_
        refine NW.meet ?_
        subst hb_rb
        exact fun a ha => ⟨ub, hb, tb, F184, F185, F187, F186, B180, (by omega), ha.sub ⟨rfl, rfl, rfl, trivial⟩⟩
    · refine AO.e rfl rfl rfl (ef_alloc Try.zeroValue60) ?_
      rintro _ w193 ⟨tb, hb_tb, rfl, f190, B191, z_tb⟩
      have F194 := Row.same (by decide) F12 f190
      have F195 := Only.same F13 f190
      have F196 := Blk.same F14 f190
      have sz197 := f190.size
      refine AN.two (i := 0) (j := 1) (by kernel_rfl) ?_ ?_
      · refine AO.e rfl rfl rfl (ef_makeSlice1 Try.runUnderlying57 Try.typeInfo4 Try.zeroValue4 rfl rfl (k := 10) rfl rfl (by decide) (by decide) (by decide)) ?_
        rintro _ w198 ⟨ub, hb_ub, rfl, f199, B200, z_ub⟩
        have F201 := Row.same (by decide) F194 f199
        have F202 := Only.same F195 f199
        have F203 := Blk.same F196 f199
        have F204 := Blk.same B191 f199
        have sz205 := f199.size
        refine AN.one (i := 1) (by kernel_rfl) ?_
        refine AO.e rfl rfl rfl (ef_makeSlice1 Try.runUnderlying58 Try.typeInfo83 Try.zeroValue83 rfl rfl (k := 1) rfl rfl (by decide) (by decide) (by decide)) ?_
        rintro _ w206 ⟨hb, hb_hb, rfl, f207, B208, z_hb⟩
        have F209 := Row.same (by decide) F201 f207
        have F210 := Only.same F202 f207
        have F211 := Blk.same F203 f207
        have F212 := Blk.same F204 f207
        have F213 := Blk.same B200 f207
        have sz214 := f207.size
        refine AN.one (i := 2) (by kernel_rfl) ?_
        refine AO.y rfl rfl rfl (yi_buildS Try.runUnderlying60 Try.zeroValue60 rfl (fun _ => by kernel_rfl)) ?_
        refine AN.one (i := 4) (by kernel_rfl) ?_
        refine AO.e rfl rfl rfl (ef_store (b := tb) Try.sizeOf60 rfl rfl F212 rfl rfl rfl) ?_
        rintro _ w218 ⟨rfl, f215, B216, z217⟩
        have F219 := Row.only (by decide) F209 f215 (fun k hk hok' hl => by have hl : k = _ := hl; have := hok k hok'; omega)
        have F220 := Only.trans F210 f215 (fun i hi hl => by have hl : i = _ := hl; omega)
        have F221 := Blk.only F211 f215 (by show ¬ (_ = _); omega)
        have F222 := Blk.only F213 f215 (by show ¬ (_ = _); omega)
        have F223 := Blk.only B208 f215 (by show ¬ (_ = _); omega)
        refine AN.done (by kernel_rfl) ?_
        refine NW.meet ?_
        subst hb_rb
        exact fun a ha => ⟨ub, hb, tb, F220, F221, F222, F223, B216, (by omega), ha.sub ⟨rfl, rfl, rfl, trivial⟩⟩
      · refine AO.e rfl rfl rfl (ef_makeSlice1 Try.runUnderlying58 Try.typeInfo83 Try.zeroValue83 rfl rfl (k := 1) rfl rfl (by decide) (by decide) (by decide)) ?_
        rintro _ w224 ⟨hb, hb_hb, rfl, f225, B226, z_hb⟩
        have F227 := Row.same (by decide) F194 f225
        have F228 := Only.same F195 f225
        have F229 := Blk.same F196 f225
        have F230 := Blk.same B191 f225
        have sz231 := f225.size
        refine AN.one (i := 0) (by kernel_rfl) ?_
        refine AO.e rfl rfl rfl (ef_makeSlice1 Try.runUnderlying57 Try.typeInfo4 Try.zeroValue4 rfl rfl (k := 10) rfl rfl (by decide) (by decide) (by decide)) ?_
        rintro _ w232 ⟨ub, hb_ub, rfl, f233, B234, z_ub⟩
        have F235 := Row.same (by decide) F227 f233
        have F236 := Only.same F228 f233
        have F237 := Blk.same F229 f233
        have F238 := Blk.same F230 f233
        have F239 := Blk.same B226 f233
        have sz240 := f233.size
        refine AN.one (i := 2) (by kernel_rfl) ?_
        refine AO.y rfl rfl rfl (yi_buildS Try.runUnderlying60 Try.zeroValue60 rfl (fun _ => by kernel_rfl)) ?_
        refine AN.one (i := 4) (by kernel_rfl) ?_
        refine AO.e rfl rfl rfl (ef_store (b := tb) Try.sizeOf60 rfl rfl F238 rfl rfl rfl) ?_
        rintro _ w244 ⟨rfl, f241, B242, z243⟩
        have F245 := Row.only (by decide) F235 f241 (fun k hk hok' hl => by have hl : k = _ := hl; have := hok k hok'; omega)
        have F246 := Only.trans F236 f241 (fun i hi hl => by have hl : i = _ := hl; omega)
        have F247 := Blk.only F237 f241 (by show ¬ (_ = _); omega)
        have F248 := Blk.only F239 f241 (by show ¬ (_ = _); omega)
        have F249 := Blk.only B234 f241 (by show ¬ (_ = _); omega)
        refine AN.done (by kernel_rfl) ?_
        refine NW.meet ?_
        subst hb_rb
        exact fun a ha => ⟨ub, hb, tb, F246, F247, F249, F248, B242, (by omega), ha.sub ⟨rfl, rfl, rfl, trivial⟩⟩
  · rintro a w250 ⟨ub, hb, tb, fr, RB, UB, HB, TB, hne, ha⟩
    refine CW.at ha ?_
    refine CW.seq ?_
    refine CW.seq ?_
    refine CW.region ?_
    refine WL.y rfl rfl (yi_assign rfl) ?_
    refine WL.done ?_
    refine NW.next ?_
    refine CW.block ?_
    refine CW.loop (fun mm a w' => ∃ (i : Nat) (vh : Value), mm = 40 - i ∧ i ≤ 40 ∧ i ≤ l.length ∧ Same w w' ∧ Blk w' w.heap.size #[.int .u64 0, .slice none 0 0, .slice none 0 0] 60 ∧ Blk w' ub (Array.replicate 10 (.bool false)) 4 ∧ Blk w' hb #[vh] 83 ∧ Blk w' tb #[.int .u64 1, .slice (some ⟨ub, 0, none⟩) 10 10, .slice (some ⟨hb, 0, none⟩) 1 1] 60 ∧ Own dEd 86 w' (fun k => w.heap.size ≤ k) vh ((l.take i).map edOf) ∧ (∀ k, vh.ownBlock = some k → k ≠ w.heap.size ∧ k ≠ ub ∧ k ≠ hb ∧ k ≠ tb) ∧ Env 43 [] [(0, .slice A l.length c), (2, .pointer (some ⟨w.heap.size, 0, none⟩)), (3, .pointer (some ⟨tb, 0, none⟩)), (4, .int .i64 i)] a) (40) ?_ ?_
    · exact fun a ha => ⟨0, _, rfl, by omega, by omega, fr, RB, UB, HB, TB, Own.nil _ _ _ _, fun k hk => by simp [Value.ownBlock] at hk, ha.sub ⟨rfl, rfl, rfl, rfl, trivial⟩⟩
    · rintro mm a w251 ⟨i, vh, rfl, hi, hil, fr, RB, UB, HB, TB, OE, hov, ha⟩
      refine CW.at ha ?_
      have Rk := Row.same (by decide) R fr
      have hsz := fr.size
      have hlu := UB.lt
      have hlh := HB.lt
      have hlt := TB.lt
      have hoe := OE.ok
      have hoel := OE.lt
      obtain ⟨A7, c7, hv7, hc7, hm7, R7, -⟩ := OE.row (by decide)
      have hlen7 : ((l.take i).map edOf).length = i := by simp; omega
      rw [hlen7] at hv7 hc7
      subst hv7
      replace OE := ownE OE
      refine CW.seq ?_
      refine CW.seq ?_
      refine CW.region ?_
      refine WL.y rfl rfl (yi_move rfl) ?_
      refine WL.y rfl rfl (yi_move rfl) ?_
      refine WL.y rfl rfl (yi_len Try.runUnderlying74 rfl) ?_
      refine WL.y rfl rfl (yi_lss rfl rfl) ?_
      refine WL.y rfl rfl (yi_move rfl) ?_
      refine WL.split (t := 12) rfl (fun q_L => ?_) (fun q_L => ?_)
      · try replace q_L := of_decide_eq_true q_L
        refine WL.gy rfl rfl rfl rfl rfl (yi_move rfl) ?_
        refine WL.gy rfl rfl rfl rfl rfl (yi_lss rfl rfl) ?_
        refine WL.y rfl rfl (yi_pickT rfl rfl) ?_
        refine WL.done ?_
        refine NW.next ?_
        refine CW.cond rfl (fun q_Lt => ?_) (fun q_Lt => ?_)
        · try replace q_Lt := of_decide_eq_true q_Lt
          obtain ⟨p, hp⟩ : ∃ p, l[i]? = some p := ⟨l[i]'(by omega), List.getElem?_eq_getElem (by omega)⟩
          obtain ⟨ad, hA, hadb, hp0, hp1⟩ := pr_at Rk hp
          subst hA
          have hadl := hok _ hadb
          have htk : (l.take (i + 1)).map edOf = (l.take i).map edOf ++ [edOf p] := by rw [List.take_add_one, hp]; simp
          refine CW.skip ?_
          refine NW.next ?_
          refine CW.seq ?_
          refine CW.block ?_
          have fd252 : Same w251 w251.drew := Only.drew _ _
          obtain ⟨w253, hww253⟩ : ∃ wz, wz = w251.drew := ⟨_, rfl⟩
          rw [← hww253] at fd252
          have F254 := Only.same fr fd252
          have F255 := Blk.same RB fd252
          have F256 := Blk.same UB fd252
          have F257 := Blk.same HB fd252
          have F258 := Blk.same TB fd252
          have F259 := Own.same OE fd252
          have F260 := Row.same (by decide) Rk fd252
          have F261 := Only.cell fd252 hp0 (fun hl => hl)
          have F262 := Only.cell fd252 hp1 (fun hl => hl)
          have sz263 := fd252.size
          refine CW.draw 24 [(0, true), (1, true), (2, true), (3, true), (4, true), (5, true), (6, true), (7, true), (8, true), (9, true), (10, true), (11, true), (12, true), (13, true), (14, true), (15, true), (16, true), (17, true), (18, true), (19, true), (20, true), (21, false), (22, false), (23, true), (24, false)] (fun w' => Blk w' w.heap.size _ _ ∧ Blk w' ub _ _ ∧ Blk w' hb _ _ ∧ Blk w' tb _ _ ∧ World.cell? w' ((ad.add (i * 2)).add 0) = some (.int .u8 (p.1.toNat : Int)) ∧ World.cell? w' ((ad.add (i * 2)).add 1) = some (.int .u8 (p.2.toNat : Int))) Try_mixed (by kernel_rfl) (fun _ _ _ _ h => h) hww253 ⟨F255, F256, F257, F258, F261, F262⟩ ?_
          refine PL.y rfl rfl rfl (fun w' hS => yi_fieldAddr Try.runUnderlying60 rfl Try.sizeOf58 rfl) ?_
          refine PL.y rfl rfl rfl (fun w' hS => by first | exact yi_loadB Try.isAgg58 rfl hS.2.2.2.1 rfl) ?_
          refine PL.y rfl rfl rfl (fun w' hS => yi_fieldAddr Try.runUnderlying60 rfl Try.sizeOf58 rfl) ?_
          refine PL.y rfl rfl rfl (fun w' hS => by first | exact yi_loadB Try.isAgg58 rfl hS.2.2.2.1 rfl) ?_
          refine PL.y rfl rfl rfl (fun w' hS => yi_indexAddr Try.runUnderlying58 Try.sizeOf83 rfl rfl (by omega) (by omega)) ?_
          refine PL.y rfl rfl rfl (fun w' hS => by first | exact yi_loadB Try.isAgg83 rfl hS.2.2.1 rfl) ?_
          refine PL.y rfl rfl rfl (fun w' hS => yi_move rfl) ?_
          refine PL.y rfl rfl rfl (fun w' hS => yi_move rfl) ?_
          refine PL.y rfl rfl rfl (fun w' hS => yi_indexAddr Try.runUnderlying74 Try.sizeOf44 rfl rfl (by omega) (by omega)) ?_
          refine PL.as_ (t := 26) (v' := .pointer (some (ad.add (i * 2)))) rfl (by rw [Int.toNat_natCast]) ?_
          refine PL.y rfl rfl rfl (fun w' hS => yi_indexAddrArr Try.runUnderlying44 Try.sizeOf5 rfl rfl (by omega) (by omega)) ?_
          refine PL.y rfl rfl rfl (fun w' hS => yi_load1 Try.isAgg5 rfl hS.2.2.2.2.1) ?_
          refine PL.y rfl rfl rfl (fun w' hS => yi_rem (by omega) rfl rfl) ?_
          refine PL.as_ (t := 29) (v' := .int .u8 ((p.1.toNat % 10 : Nat) : Int)) rfl (congrArg (Value.int .u8) (u8_rem p.1)) ?_
          refine PL.y rfl rfl rfl (fun w' hS => yi_convInt Try.runUnderlying5 Try.runUnderlying3 rfl) ?_
          refine PL.as_ (t := 30) (v' := .int .i64 ((p.1.toNat % 10 : Nat) : Int)) rfl (congrArg (Value.int .i64) (u8_conv p.1)) ?_
          refine PL.y rfl rfl rfl (fun w' hS => yi_move rfl) ?_
          refine PL.y rfl rfl rfl (fun w' hS => yi_move rfl) ?_
          refine PL.y rfl rfl rfl (fun w' hS => yi_indexAddr Try.runUnderlying74 Try.sizeOf44 rfl rfl (by omega) (by omega)) ?_
          refine PL.as_ (t := 33) (v' := .pointer (some (ad.add (i * 2)))) rfl (by rw [Int.toNat_natCast]) ?_
          refine PL.y rfl rfl rfl (fun w' hS => yi_indexAddrArr Try.runUnderlying44 Try.sizeOf5 rfl rfl (by omega) (by omega)) ?_
          refine PL.y rfl rfl rfl (fun w' hS => yi_load1 Try.isAgg5 rfl hS.2.2.2.2.2) ?_
          refine PL.y rfl rfl rfl (fun w' hS => yi_rem (by omega) rfl rfl) ?_
          refine PL.as_ (t := 36) (v' := .int .u8 ((p.2.toNat % 10 : Nat) : Int)) rfl (congrArg (Value.int .u8) (u8_rem p.2)) ?_
          refine PL.y rfl rfl rfl (fun w' hS => yi_convInt Try.runUnderlying5 Try.runUnderlying3 rfl) ?_
          refine PL.as_ (t := 37) (v' := .int .i64 ((p.2.toNat % 10 : Nat) : Int)) rfl (congrArg (Value.int .i64) (u8_conv p.2)) ?_
          refine PL.y rfl rfl rfl (fun w' hS => yi_buildS Try.runUnderlying86 Try.zeroValue86 rfl (fun _ => by kernel_rfl)) ?_
          refine PL.e rfl rfl rfl (ef_buildSlice Try.runUnderlying83 Try.sizeOf86 Try.zeroValue86 rfl (fun _ => by kernel_rfl)) ?_
          rintro _ w269 ⟨xb, hb_xb, rfl, f266, B267, z_xb⟩
          have F270 := Only.same F254 f266
          have F271 := Blk.same F255 f266
          have F272 := Blk.same F256 f266
          have F273 := Blk.same F257 f266
          have F274 := Blk.same F258 f266
          have F275 := Own.same F259 f266
          have F276 := Row.same (by decide) F260 f266
          have F277 := Only.cell f266 F261 (fun hl => hl)
          have F278 := Only.cell f266 F262 (fun hl => hl)
          have sz279 := f266.size
          refine ⟨fun _ => ⟨F271, F272, F273, F274, F277, F278⟩, ?_⟩
          have hone : Row dEd _ (fun k => k = xb) (some ⟨xb, 0, none⟩) [edOf p] := Row.one B267 rfl (dEd_mk (e := edOf p))
          refine PL.e rfl rfl rfl (ef_appendOwn (k := 1) dEd Try.runUnderlying83 (notInt Try.runUnderlying83) Try.typeInfo86 Try.zeroValue86 rfl rfl rfl rfl F275 rfl hone (fun k hk hok he => by have hok : k = xb := hok; have := hoel k he; omega) (by decide) (by omega) (by rw [hlen7]; show (i + 1) * 16 ≤ _; omega)) ?_
          rintro u9 w280 ⟨hO9, f281, hu9⟩
          have F282 := Only.trans F270 f281 (fun i hi hl => by have := hoe i hl; omega)
          have F283 := Blk.only F271 f281 (fun hl => (hov _ hl).1 rfl)
          have F284 := Blk.only F272 f281 (fun hl => (hov _ hl).2.1 rfl)
          have F285 := Blk.only F273 f281 (fun hl => (hov _ hl).2.2.1 rfl)
          have F286 := Blk.only F274 f281 (fun hl => (hov _ hl).2.2.2 rfl)
          have F287 := Row.only (by decide) F276 f281 (fun k hk hok' hl => by have := hok k hok'; have := hoe k hl; omega)
          have F288 := Only.cell f281 F277 (fun hl => by rw [Row.add_block, Row.add_block] at hl; have := hoe _ hl; omega)
          have F289 := Only.cell f281 F278 (fun hl => by rw [Row.add_block, Row.add_block] at hl; have := hoe _ hl; omega)
          have sz290 := f281.size
          have hOb : ∀ k, u9.ownBlock = some k → w.heap.size ≤ k ∧ k ≠ w.heap.size ∧ k ≠ ub ∧ k ≠ hb ∧ k ≠ tb := fun k hk => hu9.elim (fun h => ⟨hoe k (h ▸ hk), hov k (h ▸ hk)⟩) (fun h => by rw [h] at hk; injection hk with hk; omega)
          have hov2 := fun k hk => (hOb k hk).2
          have hO9b : Own dEd 86 _ (fun k => u9.ownBlock = some k) u9 _ := ownE hO9
          obtain ⟨A9, c9, hv9, hc9, hm9, -, -⟩ := hO9b.row (by decide)
          subst hv9
          refine ⟨fun _ => ⟨F283, F284, F285, F286, F288, F289⟩, ?_⟩
          refine PL.y rfl rfl rfl (fun w' hS => yi_indexAddr Try.runUnderlying58 Try.sizeOf83 rfl rfl (by omega) (by omega)) ?_
          refine PL.z rfl rfl rfl rfl rfl (ef_store (b := hb) Try.sizeOf83 rfl rfl F285 rfl rfl rfl) ?_
          rintro _ w294 ⟨rfl, f291, B292, z293⟩
          have F295 := Only.trans F282 f291 (fun i hi hl => by have hl : i = _ := hl; omega)
          have F296 := Blk.only F283 f291 (fun hl => by have hl : w.heap.size = hb := hl; omega)
          have F297 := Blk.only F284 f291 (fun hl => hne.2.2.2.1 hl)
          have F298 := Blk.only F286 f291 (fun hl => hne.2.2.2.2.2 hl.symm)
          have F299 := Row.only (by decide) F287 f291 (fun k hk hok' hl => by have hl : k = _ := hl; have := hok k hok'; omega)
          have F300 := Only.cell f291 F288 (fun hl => by rw [Row.add_block, Row.add_block] at hl; have hl : ad.block = _ := hl; omega)
          have F301 := Only.cell f291 F289 (fun hl => by rw [Row.add_block, Row.add_block] at hl; have hl : ad.block = _ := hl; omega)
          have F302 := Own.only hO9b f291 (fun k hk hok' hl => (hov2 k hok').2.2.1 hl)
          refine PL.done ?_
          refine NW.blockEnd ?_
          refine NW.next ?_
          refine CW.region ?_
          refine WL.y rfl rfl (yi_move rfl) ?_
          refine WL.y rfl rfl (yi_addI rfl rfl (by omega) (by omega)) ?_
          refine WL.as_ (t := 17) (v' := .int .i64 ((i + 1 : Nat) : Int)) rfl (congrArg (Value.int .i64) (by omega)) ?_
          refine WL.y rfl rfl (yi_assign rfl) ?_
          refine WL.done ?_
          refine NW.round (40 - (i + 1)) (by omega) ?_
          exact fun a ha => ⟨i + 1, _, rfl, by omega, by omega, F295, F296, F297, B292, F298, by rw [htk]; exact F302.mono (fun k hk => (hOb k hk).1), hov2, ha.sub ⟨rfl, rfl, rfl, rfl, trivial⟩⟩
        · try replace q_Lt := of_decide_eq_false q_Lt
          refine CW.exit ?_
          refine NW.thenExit ?_
          refine NW.thenExit ?_
          refine NW.blockHit ?_
          refine NW.next ?_
          refine CW.seq ?_
          refine CW.region ?_
          refine WL.y rfl rfl (yi_loadW Try.isAgg60 Try.sizeOf60 rfl (by assumption) rfl) ?_
          refine WL.e rfl rfl (ef_store (b := w.heap.size) Try.sizeOf60 rfl rfl RB rfl rfl rfl) ?_
          rintro _ w306 ⟨rfl, f303, B304, z305⟩
          have F307 := Only.trans fr f303 (fun i hi hl => by have hl : i = _ := hl; omega)
          have F308 := Blk.only UB f303 (fun hl => by have hl : ub = w.heap.size := hl; omega)
          have F309 := Blk.only HB f303 (fun hl => by have hl : hb = w.heap.size := hl; omega)
          have F310 := Blk.only TB f303 (fun hl => by have hl : tb = w.heap.size := hl; omega)
          have F311 := Own.only OE f303 (fun k hk hok' hl => (hov k hok').1 hl)
          have F312 := Row.only (by decide) Rk f303 (fun k hk hok' hl => by have hl : k = _ := hl; have := hok k hok'; omega)
          refine WL.done ?_
          refine NW.next ?_
          refine CW.ret ?_
          refine NW.retC rfl rfl Try.isAgg60 Try.sizeOf60 B304 rfl ?_
          have htk : l.take i = l.take 40 := by rw [show i = 40 by omega]
          obtain ⟨A9, c9, hv9, hc9, hm9, R9, -⟩ := F311.row (by decide)
          rw [hlen7] at hv9 hc9
          obtain ⟨rfl, rfl⟩ : A7 = A9 ∧ c7 = c9 := by simpa using hv9
          rw [htk] at R9 hlen7
          have BH : Blk w306 hb #[.slice A7 ((l.take 40).map edOf).length c7] 83 := by rw [hlen7]; exact F309
          refine ⟨_, rfl, ub, hb, rfl, Row.one (d := dEds) BH (by omega) ⟨A7, c7, rfl, by omega, hm7, Row.mono (fun k hk => hoe k hk) R9⟩, F308, F307⟩
      · try replace q_L := of_decide_eq_false q_L
        refine WL.no rfl rfl rfl rfl rfl rfl ?_
        refine WL.no rfl rfl rfl rfl rfl rfl ?_
        refine WL.y rfl rfl (yi_pickF rfl rfl) ?_
        refine WL.done ?_
        refine NW.next ?_
        refine CW.condF rfl ?_
        refine CW.exit ?_
        refine NW.thenExit ?_
        refine NW.thenExit ?_
        refine NW.blockHit ?_
        refine NW.next ?_
        refine CW.seq ?_
        refine CW.region ?_
        refine WL.y rfl rfl (yi_loadW Try.isAgg60 Try.sizeOf60 rfl (by assumption) rfl) ?_
        refine WL.e rfl rfl (ef_store (b := w.heap.size) Try.sizeOf60 rfl rfl RB rfl rfl rfl) ?_
        rintro _ w316 ⟨rfl, f313, B314, z315⟩
        have F317 := Only.trans fr f313 (fun i hi hl => by have hl : i = _ := hl; omega)
        have F318 := Blk.only UB f313 (fun hl => by have hl : ub = w.heap.size := hl; omega)
        have F319 := Blk.only HB f313 (fun hl => by have hl : hb = w.heap.size := hl; omega)
        have F320 := Blk.only TB f313 (fun hl => by have hl : tb = w.heap.size := hl; omega)
        have F321 := Own.only OE f313 (fun k hk hok' hl => (hov k hok').1 hl)
        have F322 := Row.only (by decide) Rk f313 (fun k hk hok' hl => by have hl : k = _ := hl; have := hok k hok'; omega)
        refine WL.done ?_
        refine NW.next ?_
        refine CW.ret ?_
        refine NW.retC rfl rfl Try.isAgg60 Try.sizeOf60 B314 rfl ?_
        have htk : l.take i = l.take 40 := by rw [List.take_of_length_le (by omega), List.take_of_length_le (by omega)]
        obtain ⟨A9, c9, hv9, hc9, hm9, R9, -⟩ := F321.row (by decide)
        rw [hlen7] at hv9 hc9
        obtain ⟨rfl, rfl⟩ : A7 = A9 ∧ c7 = c9 := by simpa using hv9
        rw [htk] at R9 hlen7
        have BH : Blk w316 hb #[.slice A7 ((l.take 40).map edOf).length c7] 83 := by rw [hlen7]; exact F319
        refine ⟨_, rfl, ub, hb, rfl, Row.one (d := dEds) BH (by omega) ⟨A7, c7, rfl, by omega, hm7, Row.mono (fun k hk => hoe k hk) R9⟩, F318, F317⟩

end Go.Proofs.YtgmjgdjobkmbgaaN
