/- The chapter's topology, and its rows, walked. -/
import Derived.Test.YtgmjgdjobkmbgaaTopI
import Derived.Test.YtgmjgdjobkmbgaaTopR
import Derived.Test.YtgmjgdjobkmbgaaFull
set_option linter.unusedVariables false
set_option linter.unusedSimpArgs false
namespace Go.Proofs.YtgmjgdjobkmbgaaN
open Go.Proofs.YtgmjgdjobkmbgaaL Go.RowKit Go.Proofs
attribute [local irreducible] Ef Yi WL PL CW NW Ret
open Go.Lib Go.Sort
def dia : List Ed := [⟨0, 2⟩, ⟨0, 3⟩, ⟨2, 4⟩, ⟨3, 4⟩]
def diaT (more : List Ed) : Tp := ⟨1, [true, true, true, true, true], [dia ++ more]⟩
def edCells (L : List Ed) : List Value := L.flatMap fun e => [.int .i64 e.frm, .int .i64 e.to]
theorem edCells_len : ∀ L : List Ed, (edCells L).length = L.length * 2
  | [] => rfl
  | e :: L => by rw [edCells, List.flatMap_cons, List.length_append, List.length_cons]; have := edCells_len L; rw [edCells] at this; simp [this]; omega
theorem edCells_at : ∀ (L : List Ed) (j : Nat) (e : Ed), L[j]? = some e → ((edCells L).drop (j * 2)).take 2 = [.int .i64 e.frm, .int .i64 e.to]
  | [], _, _, h => by simp at h
  | a :: L, 0, e, h => by simp at h; subst h; simp [edCells]
  | a :: L, j + 1, e, h => by
    have := edCells_at L j e (by simpa using h)
    rw [show (j + 1) * 2 = j * 2 + 1 + 1 by omega]
    exact this
theorem Row.ofEds {w : World} {ok : Nat → Prop} {b t : Nat} {L : List Ed} {cs : Array Value} (hB : Blk w b cs t) (hb : ok b) (hc : cs.toList = edCells L) : Row dEd w ok (some ⟨b, 0, none⟩) L := by
  refine Row.ofSeg (cs := edCells L) (edCells_len L) (Seg.ofBlk hB 0 _ (fun j u hu => by rw [Nat.zero_add, ← Array.getElem?_toList, hc]; exact hu)) (by decide) (fun ad h => by injection h with h; rw [← h]; exact hb) (fun j e he => ?_)
  have := edCells_at L j e he
  rw [show ((edCells L).drop (j * dEd.sz)).take dEd.sz = [.int .i64 e.frm, .int .i64 e.to] from this]
  exact dEd_mk

theorem diamond_c (A : Option Addr) (c : Nat) (L : List Ed) (ok : Nat → Prop) (w : World) (R : Row dEd w ok A L) (hok : ∀ k, ok k → k < w.heap.size) (hL : L.length ≤ 1000) :
    Ret Try.prog 45 [.slice A L.length c] w fun u w' => ∃ ub hb, u = .agg #[.int .u64 1, .slice (some ⟨ub, 0, none⟩) 5 5, .slice (some ⟨hb, 0, none⟩) 1 1] ∧ Row dEds w' (fun k => k < w'.heap.size) (some ⟨hb, 0, none⟩) (diaT L).hops ∧ Row dBool w' (fun k => w.heap.size ≤ k) (some ⟨ub, 0, none⟩) (diaT L).up ∧ Same w w' := by
  have fr0 : Only (fun _ => False) w w := Only.refl _ _
  refine Ret.go Try.func45 rfl Try.ntmps45 rfl ?_
  refine CW.seq ?_
  refine CW.region ?_
  refine WL.e rfl rfl (ef_alloc Try.zeroValue60) ?_
  rintro _ w6 ⟨xb, hb_xb, rfl, f3, B4, z_xb⟩
  have F7 := Row.same (by decide) R f3
  have F8 := Only.same fr0 f3
  have sz9 := f3.size
  refine WL.done ?_
  refine NW.next ?_
  refine CW.seq ?_
  refine CW.region ?_
  refine WL.e rfl rfl (ef_buildSlice Try.runUnderlying57 Try.sizeOf4 Try.zeroValue4 rfl (fun _ => by kernel_rfl)) ?_
  rintro _ w15 ⟨ub, hb_ub, rfl, f12, B13, z_ub⟩
  have F16 := Row.same (by decide) F7 f12
  have F17 := Only.same F8 f12
  have F18 := Blk.same B4 f12
  have sz19 := f12.size
  refine WL.y rfl rfl (yi_buildS Try.runUnderlying86 Try.zeroValue86 rfl (fun _ => by kernel_rfl)) ?_
  refine WL.y rfl rfl (yi_buildS Try.runUnderlying86 Try.zeroValue86 rfl (fun _ => by kernel_rfl)) ?_
  refine WL.y rfl rfl (yi_buildS Try.runUnderlying86 Try.zeroValue86 rfl (fun _ => by kernel_rfl)) ?_
  refine WL.y rfl rfl (yi_buildS Try.runUnderlying86 Try.zeroValue86 rfl (fun _ => by kernel_rfl)) ?_
  refine WL.e rfl rfl (ef_buildSlice Try.runUnderlying83 Try.sizeOf86 Try.zeroValue86 rfl (fun _ => by kernel_rfl)) ?_
  rintro _ w25 ⟨eb, hb_eb, rfl, f22, B23, z_eb⟩
  have F26 := Row.same (by decide) F16 f22
  have F27 := Only.same F17 f22
  have F28 := Blk.same F18 f22
  have F29 := Blk.same B13 f22
  have sz30 := f22.size
  refine WL.y rfl rfl (yi_move rfl) ?_
  have RE : Row dEd w25 (fun k => k = eb) (some ⟨eb, 0, none⟩) dia := Row.ofEds B23 rfl rfl
  refine WL.e rfl rfl (ef_appendFull dEd Try.runUnderlying83 (notInt Try.runUnderlying83) Try.typeInfo86 Try.zeroValue86 Try.sizeOf86 rfl rfl rfl rfl RE rfl rfl F26 (by decide) (by omega) (by show (4 + L.length) * 16 ≤ _; omega)) ?_
  rintro _ w31 ⟨A2, c2, rfl, hc2, hm2, R233, f32⟩
  have F34 := Row.same (by decide) F26 f32
  have F35 := Only.same F27 f32
  have F36 := Blk.same F28 f32
  have F37 := Blk.same F29 f32
  have F38 := Blk.same B23 f32
  have sz39 := f32.size
  obtain ⟨Lx, hLx⟩ : ∃ Lx, Lx = dia ++ L := ⟨_, rfl⟩
  refine WL.e rfl rfl (ef_buildSlice Try.runUnderlying58 Try.sizeOf83 Try.zeroValue83 rfl (fun _ => by kernel_rfl)) ?_
  rintro _ w45 ⟨hb, hb_hb, rfl, f42, B43, z_hb⟩
  have F46 := Row.same (by decide) F34 f42
  have F47 := Only.same F35 f42
  have F48 := Blk.same F36 f42
  have F49 := Blk.same F37 f42
  have F50 := Blk.same F38 f42
  have F51 := Row.same (by decide) R233 f42
  have sz52 := f42.size
  refine WL.y rfl rfl (yi_buildS Try.runUnderlying60 Try.zeroValue60 rfl (fun _ => by kernel_rfl)) ?_
  refine WL.e rfl rfl (ef_store (b := xb) Try.sizeOf60 rfl rfl F48 rfl rfl rfl) ?_
  rintro _ w56 ⟨rfl, f53, B54, z55⟩
  have F57 := Row.only (by decide) F46 f53 (fun k hk hok' hl => by have hl : k = _ := hl; have := hok k hok'; omega)
  have F58 := Only.trans F47 f53 (fun i hi hl => by have hl : i = _ := hl; omega)
  have F59 := Blk.only F49 f53 (by show ¬ (_ = _); omega)
  have F60 := Blk.only F50 f53 (by show ¬ (_ = _); omega)
  have F61 := Row.only (by decide) F51 f53 (fun k hk hok' hl => by have hl : k = xb := hl; rcases hok' with (h | h) | h <;> first | omega | (have := hok k h; omega))
  have F62 := Blk.only B43 f53 (by show ¬ (_ = _); omega)
  refine WL.done ?_
  refine NW.next ?_
  refine CW.ret ?_
  refine NW.retC rfl rfl Try.isAgg60 Try.sizeOf60 B54 rfl ?_
  refine ⟨_, rfl, ub, hb, rfl, ?_, ?_, F58⟩
  · exact Row.mono (fun k hk => hk.2) (Row.bound (by decide) (Row.one (ok := fun _ => True) (d := dEds) F62 trivial ⟨A2, c2, rfl, hc2, hm2, Row.mono (fun k hk => trivial) F61⟩))
  · exact Row.ofBools F59 (by omega) rfl

theorem nodes_dia : nodesOf (dia ++ []) = [0, 2, 3, 4] := nodes_lit (by decide)
theorem nodes_dia1 : nodesOf (dia ++ [⟨4, 0⟩]) = [0, 2, 3, 4] := nodes_lit (by decide)
theorem ord_dia : ordRes (diaT []) 0 = some [0, 2, 3, 4] := by
  show orderOf (dia ++ []) = _
  rw [orderOf, nodes_dia]
  decide
theorem ord_dia1 : ordRes (diaT [⟨4, 0⟩]) 0 = none := by
  show orderOf (dia ++ [⟨4, 0⟩]) = _
  rw [orderOf, nodes_dia1]
  decide
theorem next_dia : nextOf (diaT []) 0 0 = [2, 3] := next_lit (L := dia ++ []) rfl (by decide)
theorem prev_dia : prevOf (diaT []) 0 4 = [2, 3] := prev_lit (L := dia ++ []) rfl (by decide)
theorem reach_dia {zs : List Int} (h : zs.Pairwise (· < ·)) (hm : ∀ x, x ∈ zs ↔ Path (edgesOf (diaT []) 0) 0 x) : zs = [2, 3, 4] := rising_ext h (by decide) fun x => by
  rw [hm]
  refine ⟨fun p => path_in (S := [2, 3, 4]) (by decide) p, fun hx => ?_⟩
  have e1 : (⟨0, 2⟩ : Ed) ∈ edgesOf (diaT []) 0 := by decide
  have e2 : (⟨0, 3⟩ : Ed) ∈ edgesOf (diaT []) 0 := by decide
  have e3 : (⟨2, 4⟩ : Ed) ∈ edgesOf (diaT []) 0 := by decide
  simp only [List.mem_cons, List.not_mem_nil, or_false] at hx
  rcases hx with rfl | rfl | rfl
  · exact .one e1
  · exact .one e2
  · exact .more (.one e1) e3

theorem twakes_c (w : World) :
    Ret Try.prog 37 [] w fun u w' => u = .bool true ∧ Same w w' := by
  have fr0 : Only (fun _ => False) w w := Only.refl _ _
  refine Ret.go Try.func37 rfl Try.ntmps37 rfl ?_
  refine CW.seq ?_
  refine CW.region ?_
  refine WL.y rfl rfl (yi_assign rfl) ?_
  refine WL.done ?_
  refine NW.next ?_
  refine CW.seq ?_
  refine CW.region ?_
  refine WL.e rfl rfl (ef_call Try.call45 rfl (diamond_c none 0 [] _ _ (Row.nil dEd _ (fun k => k < w.heap.size) none) (fun k hk => hk) (by decide))) ?_
  rintro _ w1 ⟨ub1, hb1, rfl, RH3, RU4, f2⟩
  have F5 := Only.same fr0 f2
  have sz6 := f2.size
  refine WL.e rfl rfl (ef_alloc Try.zeroValue60) ?_
  rintro _ w12 ⟨tb, hb_tb, rfl, f9, B10, z_tb⟩
  have F13 := Only.same F5 f9
  have F14 := Row.same (by decide) RH3 f9
  have sz15 := f9.size
  refine WL.e rfl rfl (ef_store (b := tb) Try.sizeOf60 rfl rfl B10 rfl rfl rfl) ?_
  rintro _ w19 ⟨rfl, f16, B17, z18⟩
  have F20 := Only.trans F13 f16 (fun i hi hl => by have hl : i = _ := hl; omega)
  have F21 := Row.only (by decide) F14 f16 (fun k hk hok' hl => by have hl : k = tb := hl; omega)
  refine WL.done ?_
  refine NW.next ?_
  refine CW.seq ?_
  refine CW.region ?_
  refine WL.y rfl rfl (yi_loadW Try.isAgg60 Try.sizeOf60 rfl (by assumption) rfl) ?_
  refine WL.e rfl rfl (ef_call Try.call34 rfl (order_c (diaT []) (some ⟨ub1, 0, none⟩) (some ⟨hb1, 0, none⟩) 5 1 _ _ F21 (by decide) (by decide) 0 (fun k hk => by have hk : k < _ := hk; omega) (by decide))) ?_
  rintro _ w22 ⟨v1, e1, rfl, f23, hres1⟩
  obtain ⟨rfl, hO24⟩ : e1 = 0 ∧ Own dI 3 w22 (fun k => w19.heap.size ≤ k) v1 [0, 2, 3, 4] := by
    rw [ord_dia] at hres1
    rcases hres1 with ⟨out, h1, h2, h3⟩ | ⟨h1, _⟩
    · injection h1 with h1
      subst h1
      exact ⟨h2, h3⟩
    · cases h1
  obtain ⟨Ao, co, hv25, hc26, hm27, RR28, -⟩ := hO24.row (by decide)
  subst hv25
  have F29 := Only.same F20 f23
  have F30 := Row.same (by decide) F21 f23
  have F31 := Blk.same B17 f23
  have sz32 := f23.size
  refine WL.y rfl rfl (yi_move rfl) ?_
  refine WL.y rfl rfl (yi_extract rfl rfl) ?_
  refine WL.y rfl rfl (yi_extract rfl rfl) ?_
  refine WL.y rfl rfl (yi_assign rfl) ?_
  refine WL.y rfl rfl (yi_assign rfl) ?_
  refine WL.done ?_
  refine NW.next ?_
  refine CW.seq ?_
  refine CW.region ?_
  refine WL.y rfl rfl (yi_buildS Try.runUnderlying86 Try.zeroValue86 rfl (fun _ => by kernel_rfl)) ?_
  refine WL.e rfl rfl (ef_buildSlice Try.runUnderlying83 Try.sizeOf86 Try.zeroValue86 rfl (fun _ => by kernel_rfl)) ?_
  rintro _ w38 ⟨lb0, hb_lb0, rfl, f35, B36, z_lb0⟩
  have F39 := Only.same F29 f35
  have F40 := Row.same (by decide) F30 f35
  have F41 := Blk.same F31 f35
  have F42 := Row.same (by decide) RR28 f35
  have sz43 := f35.size
  refine WL.e rfl rfl (ef_call Try.call45 rfl (diamond_c (some ⟨lb0, 0, none⟩) 1 [⟨4, 0⟩] _ _ (Row.ofEds (ok := fun k => k = lb0) B36 rfl rfl) (fun k hk => by have hk : k = lb0 := hk; omega) (by decide))) ?_
  rintro _ w44 ⟨ub2, hb2, rfl, RH46, RU47, f45⟩
  have F48 := Only.same F39 f45
  have F49 := Row.same (by decide) F40 f45
  have F50 := Blk.same F41 f45
  have F51 := Row.same (by decide) F42 f45
  have F52 := Blk.same B36 f45
  have sz53 := f45.size
  refine WL.e rfl rfl (ef_call Try.call34 rfl (order_c (diaT [⟨4, 0⟩]) (some ⟨ub2, 0, none⟩) (some ⟨hb2, 0, none⟩) 5 1 _ _ RH46 (by decide) (by decide) 0 (fun k hk => by have hk : k < _ := hk; omega) (by decide))) ?_
  rintro _ w54 ⟨v2, e2, rfl, f55, hres2⟩
  obtain ⟨rfl, rfl⟩ : e2 = 1 ∧ v2 = .slice none 0 0 := by
    rw [ord_dia1] at hres2
    rcases hres2 with ⟨out, h1, _⟩ | ⟨_, h2, h3⟩
    · cases h1
    · exact ⟨h2, h3⟩
  have F56 := Only.same F48 f55
  have F57 := Row.same (by decide) F49 f55
  have F58 := Blk.same F50 f55
  have F59 := Row.same (by decide) F51 f55
  have F60 := Blk.same F52 f55
  have F61 := Row.same (by decide) RH46 f55
  have sz62 := f55.size
  refine WL.y rfl rfl (yi_move rfl) ?_
  refine WL.y rfl rfl (yi_extract rfl rfl) ?_
  refine WL.y rfl rfl (yi_extract rfl rfl) ?_
  refine WL.y rfl rfl (yi_assign rfl) ?_
  refine WL.y rfl rfl (yi_assign rfl) ?_
  refine WL.done ?_
  refine NW.next ?_
  refine CW.seq ?_
  refine CW.region ?_
  refine WL.y rfl rfl (yi_loadW Try.isAgg60 Try.sizeOf60 rfl (by assumption) rfl) ?_
  refine WL.e rfl rfl (ef_call Try.call38 rfl (next_c (diaT []) (some ⟨ub1, 0, none⟩) (some ⟨hb1, 0, none⟩) 5 1 _ _ F57 (by decide) (by decide) 0 0 (fun k hk => by have hk : k < _ := hk; omega) (by decide))) ?_
  rintro u_n1 w63 ⟨hO65, f64⟩
  rw [next_dia] at hO65
  obtain ⟨An1, cn1, hv66, hc67, hm68, RR69, -⟩ := hO65.row (by decide)
  subst hv66
  have F70 := Only.same F56 f64
  have F71 := Row.same (by decide) F57 f64
  have F72 := Blk.same F58 f64
  have F73 := Row.same (by decide) F59 f64
  have F74 := Blk.same F60 f64
  have F75 := Row.same (by decide) F61 f64
  have sz76 := f64.size
  refine WL.e rfl rfl (ef_buildSlice Try.runUnderlying49 Try.sizeOf3 Try.zeroValue3 rfl (fun _ => by kernel_rfl)) ?_
  rintro _ w82 ⟨lb1, hb_lb1, rfl, f79, B80, z_lb1⟩
  have F83 := Only.same F70 f79
  have F84 := Row.same (by decide) F71 f79
  have F85 := Blk.same F72 f79
  have F86 := Row.same (by decide) F73 f79
  have F87 := Blk.same F74 f79
  have F88 := Row.same (by decide) F75 f79
  have F89 := Row.same (by decide) RR69 f79
  have sz90 := f79.size
  refine WL.e rfl rfl (ef_call Try.call42 rfl (refSame_c An1 (some ⟨lb1, 0, none⟩) cn1 _ [2, 3] [2, 3] _ _ _ F89 (Row.ofInts (ok := fun _ => True) B80 trivial rfl) (by decide) (by decide))) ?_
  rintro _ w91 ⟨rfl, f92⟩
  have F93 := Only.same F83 f92
  have F94 := Row.same (by decide) F84 f92
  have F95 := Blk.same F85 f92
  have F96 := Row.same (by decide) F86 f92
  have F97 := Blk.same F87 f92
  have F98 := Row.same (by decide) F88 f92
  have F99 := Row.same (by decide) F89 f92
  have F100 := Blk.same B80 f92
  have sz101 := f92.size
  refine WL.as_ (t := 22) (v' := .bool true) rfl (congrArg Value.bool (by decide)) ?_
  refine WL.y rfl rfl (yi_move rfl) ?_
  refine WL.gy rfl rfl rfl rfl rfl (yi_loadW Try.isAgg60 Try.sizeOf60 rfl (by assumption) rfl) ?_
  refine WL.ge rfl rfl rfl rfl rfl (ef_call Try.call39 rfl (prev_c (diaT []) (some ⟨ub1, 0, none⟩) (some ⟨hb1, 0, none⟩) 5 1 _ _ F94 (by decide) (by decide) 0 4 (fun k hk => by have hk : k < _ := hk; omega) (by decide))) ?_
  rintro u_n2 w102 ⟨hO104, f103⟩
  rw [prev_dia] at hO104
  obtain ⟨An2, cn2, hv105, hc106, hm107, RR108, -⟩ := hO104.row (by decide)
  subst hv105
  have F109 := Only.same F93 f103
  have F110 := Row.same (by decide) F94 f103
  have F111 := Blk.same F95 f103
  have F112 := Row.same (by decide) F96 f103
  have F113 := Blk.same F97 f103
  have F114 := Row.same (by decide) F98 f103
  have F115 := Row.same (by decide) F99 f103
  have F116 := Blk.same F100 f103
  have sz117 := f103.size
  refine WL.ge rfl rfl rfl rfl rfl (ef_buildSlice Try.runUnderlying49 Try.sizeOf3 Try.zeroValue3 rfl (fun _ => by kernel_rfl)) ?_
  rintro _ w123 ⟨lb2, hb_lb2, rfl, f120, B121, z_lb2⟩
  have F124 := Only.same F109 f120
  have F125 := Row.same (by decide) F110 f120
  have F126 := Blk.same F111 f120
  have F127 := Row.same (by decide) F112 f120
  have F128 := Blk.same F113 f120
  have F129 := Row.same (by decide) F114 f120
  have F130 := Row.same (by decide) F115 f120
  have F131 := Blk.same F116 f120
  have F132 := Row.same (by decide) RR108 f120
  have sz133 := f120.size
  refine WL.ge rfl rfl rfl rfl rfl (ef_call Try.call42 rfl (refSame_c An2 (some ⟨lb2, 0, none⟩) cn2 _ [2, 3] [2, 3] _ _ _ F132 (Row.ofInts (ok := fun _ => True) B121 trivial rfl) (by decide) (by decide))) ?_
  rintro _ w134 ⟨rfl, f135⟩
  have F136 := Only.same F124 f135
  have F137 := Row.same (by decide) F125 f135
  have F138 := Blk.same F126 f135
  have F139 := Row.same (by decide) F127 f135
  have F140 := Blk.same F128 f135
  have F141 := Row.same (by decide) F129 f135
  have F142 := Row.same (by decide) F130 f135
  have F143 := Blk.same F131 f135
  have F144 := Row.same (by decide) F132 f135
  have F145 := Blk.same B121 f135
  have sz146 := f135.size
  refine WL.as_ (t := 27) (v' := .bool true) rfl (congrArg Value.bool (by decide)) ?_
  refine WL.y rfl rfl (yi_pickT rfl rfl) ?_
  refine WL.y rfl rfl (yi_move rfl) ?_
  refine WL.gy rfl rfl rfl rfl rfl (yi_loadW Try.isAgg60 Try.sizeOf60 rfl (by assumption) rfl) ?_
  refine WL.ge rfl rfl rfl rfl rfl (ef_call Try.call36 rfl (reach_c (diaT []) (some ⟨ub1, 0, none⟩) (some ⟨hb1, 0, none⟩) 5 1 _ _ F137 (by decide) (by decide) 0 0 (fun k hk => by have hk : k < _ := hk; omega) (by decide))) ?_
  rintro u_n3 w147 ⟨zs, hO149, hz1, hz2, f148⟩
  obtain rfl := reach_dia hz1 hz2
  obtain ⟨An3, cn3, hv150, hc151, hm152, RR153, -⟩ := hO149.row (by decide)
  subst hv150
  have F154 := Only.same F136 f148
  have F155 := Row.same (by decide) F137 f148
  have F156 := Blk.same F138 f148
  have F157 := Row.same (by decide) F139 f148
  have F158 := Blk.same F140 f148
  have F159 := Row.same (by decide) F141 f148
  have F160 := Row.same (by decide) F142 f148
  have F161 := Blk.same F143 f148
  have F162 := Row.same (by decide) F144 f148
  have F163 := Blk.same F145 f148
  have sz164 := f148.size
  refine WL.ge rfl rfl rfl rfl rfl (ef_buildSlice Try.runUnderlying49 Try.sizeOf3 Try.zeroValue3 rfl (fun _ => by kernel_rfl)) ?_
  rintro _ w170 ⟨lb3, hb_lb3, rfl, f167, B168, z_lb3⟩
  have F171 := Only.same F154 f167
  have F172 := Row.same (by decide) F155 f167
  have F173 := Blk.same F156 f167
  have F174 := Row.same (by decide) F157 f167
  have F175 := Blk.same F158 f167
  have F176 := Row.same (by decide) F159 f167
  have F177 := Row.same (by decide) F160 f167
  have F178 := Blk.same F161 f167
  have F179 := Row.same (by decide) F162 f167
  have F180 := Blk.same F163 f167
  have F181 := Row.same (by decide) RR153 f167
  have sz182 := f167.size
  refine WL.ge rfl rfl rfl rfl rfl (ef_call Try.call42 rfl (refSame_c An3 (some ⟨lb3, 0, none⟩) cn3 _ [2, 3, 4] [2, 3, 4] _ _ _ F181 (Row.ofInts (ok := fun _ => True) B168 trivial rfl) (by decide) (by decide))) ?_
  rintro _ w183 ⟨rfl, f184⟩
  have F185 := Only.same F171 f184
  have F186 := Row.same (by decide) F172 f184
  have F187 := Blk.same F173 f184
  have F188 := Row.same (by decide) F174 f184
  have F189 := Blk.same F175 f184
  have F190 := Row.same (by decide) F176 f184
  have F191 := Row.same (by decide) F177 f184
  have F192 := Blk.same F178 f184
  have F193 := Row.same (by decide) F179 f184
  have F194 := Blk.same F180 f184
  have F195 := Row.same (by decide) F181 f184
  have F196 := Blk.same B168 f184
  have sz197 := f184.size
  refine WL.as_ (t := 33) (v' := .bool true) rfl (congrArg Value.bool (by decide)) ?_
  refine WL.y rfl rfl (yi_pickT rfl rfl) ?_
  refine WL.y rfl rfl (yi_move rfl) ?_
  refine WL.gy rfl rfl rfl rfl rfl (yi_move rfl) ?_
  refine WL.gy rfl rfl rfl rfl rfl (yi_eql rfl rfl) ?_
  refine WL.as_ (t := 37) (v' := .bool true) rfl (congrArg Value.bool (by decide)) ?_
  refine WL.y rfl rfl (yi_pickT rfl rfl) ?_
  refine WL.y rfl rfl (yi_move rfl) ?_
  refine WL.gy rfl rfl rfl rfl rfl (yi_move rfl) ?_
  refine WL.ge rfl rfl rfl rfl rfl (ef_buildSlice Try.runUnderlying49 Try.sizeOf3 Try.zeroValue3 rfl (fun _ => by kernel_rfl)) ?_
  rintro _ w203 ⟨lb4, hb_lb4, rfl, f200, B201, z_lb4⟩
  have F204 := Only.same F185 f200
  have F205 := Row.same (by decide) F186 f200
  have F206 := Blk.same F187 f200
  have F207 := Row.same (by decide) F188 f200
  have F208 := Blk.same F189 f200
  have F209 := Row.same (by decide) F190 f200
  have F210 := Row.same (by decide) F191 f200
  have F211 := Blk.same F192 f200
  have F212 := Row.same (by decide) F193 f200
  have F213 := Blk.same F194 f200
  have F214 := Row.same (by decide) F195 f200
  have F215 := Blk.same F196 f200
  have sz216 := f200.size
  refine WL.ge rfl rfl rfl rfl rfl (ef_call Try.call42 rfl (refSame_c Ao (some ⟨lb4, 0, none⟩) co _ [0, 2, 3, 4] [0, 2, 3, 4] _ _ _ F207 (Row.ofInts (ok := fun _ => True) B201 trivial rfl) (by decide) (by decide))) ?_
  rintro _ w217 ⟨rfl, f218⟩
  have F219 := Only.same F204 f218
  have F220 := Row.same (by decide) F205 f218
  have F221 := Blk.same F206 f218
  have F222 := Row.same (by decide) F207 f218
  have F223 := Blk.same F208 f218
  have F224 := Row.same (by decide) F209 f218
  have F225 := Row.same (by decide) F210 f218
  have F226 := Blk.same F211 f218
  have F227 := Row.same (by decide) F212 f218
  have F228 := Blk.same F213 f218
  have F229 := Row.same (by decide) F214 f218
  have F230 := Blk.same F215 f218
  have F231 := Blk.same B201 f218
  have sz232 := f218.size
  refine WL.as_ (t := 42) (v' := .bool true) rfl (congrArg Value.bool (by decide)) ?_
  refine WL.y rfl rfl (yi_pickT rfl rfl) ?_
  refine WL.y rfl rfl (yi_move rfl) ?_
  refine WL.gy rfl rfl rfl rfl rfl (yi_move rfl) ?_
  refine WL.gy rfl rfl rfl rfl rfl (yi_eql rfl rfl) ?_
  refine WL.as_ (t := 46) (v' := .bool true) rfl (congrArg Value.bool (by decide)) ?_
  refine WL.y rfl rfl (yi_pickT rfl rfl) ?_
  refine WL.y rfl rfl (yi_move rfl) ?_
  refine WL.gy rfl rfl rfl rfl rfl (yi_loadW Try.isAgg60 Try.sizeOf60 rfl (by assumption) rfl) ?_
  refine WL.ge rfl rfl rfl rfl rfl (ef_call Try.call40 rfl (edge_c (diaT []) (some ⟨ub1, 0, none⟩) (some ⟨hb1, 0, none⟩) 5 1 _ _ F220 (by decide) (by decide) 0 2 4 (by decide))) ?_
  rintro _ w233 ⟨rfl, f234⟩
  have F235 := Only.same F219 f234
  have F236 := Row.same (by decide) F220 f234
  have F237 := Blk.same F221 f234
  have F238 := Row.same (by decide) F222 f234
  have F239 := Blk.same F223 f234
  have F240 := Row.same (by decide) F224 f234
  have F241 := Row.same (by decide) F225 f234
  have F242 := Blk.same F226 f234
  have F243 := Row.same (by decide) F227 f234
  have F244 := Blk.same F228 f234
  have F245 := Row.same (by decide) F229 f234
  have F246 := Blk.same F230 f234
  have F247 := Blk.same F231 f234
  have sz248 := f234.size
  refine WL.as_ (t := 50) (v' := .bool true) rfl (congrArg Value.bool (by decide)) ?_
  refine WL.y rfl rfl (yi_pickT rfl rfl) ?_
  refine WL.y rfl rfl (yi_move rfl) ?_
  refine WL.gy rfl rfl rfl rfl rfl (yi_loadW Try.isAgg60 Try.sizeOf60 rfl (by assumption) rfl) ?_
  refine WL.ge rfl rfl rfl rfl rfl (ef_call Try.call40 rfl (edge_c (diaT []) (some ⟨ub1, 0, none⟩) (some ⟨hb1, 0, none⟩) 5 1 _ _ F236 (by decide) (by decide) 0 4 2 (by decide))) ?_
  rintro _ w249 ⟨rfl, f250⟩
  have F251 := Only.same F235 f250
  have F252 := Row.same (by decide) F236 f250
  have F253 := Blk.same F237 f250
  have F254 := Row.same (by decide) F238 f250
  have F255 := Blk.same F239 f250
  have F256 := Row.same (by decide) F240 f250
  have F257 := Row.same (by decide) F241 f250
  have F258 := Blk.same F242 f250
  have F259 := Row.same (by decide) F243 f250
  have F260 := Blk.same F244 f250
  have F261 := Row.same (by decide) F245 f250
  have F262 := Blk.same F246 f250
  have F263 := Blk.same F247 f250
  have sz264 := f250.size
  refine WL.as_ (t := 54) (v' := .bool false) rfl (congrArg Value.bool (by decide)) ?_
  refine WL.gy rfl rfl rfl rfl rfl (yi_not rfl) ?_
  refine WL.y rfl rfl (yi_pickT rfl rfl) ?_
  refine WL.y rfl rfl (yi_assign rfl) ?_
  refine WL.done ?_
  refine NW.next ?_
  refine CW.ret ?_
  refine NW.ret1 rfl rfl ?_
  exact ⟨_, rfl, rfl, F251⟩

end Go.Proofs.YtgmjgdjobkmbgaaN
