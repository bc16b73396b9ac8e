/- TopoLess, walked. -/
import Derived.Test.YtgmjgdjobkmbgaaTopS
import Derived.Test.YtgmjgdjobkmbgaaTopL
set_option linter.unusedVariables false
set_option linter.unusedSimpArgs false
namespace Go.Proofs.YtgmjgdjobkmbgaaN
open Go.Proofs.YtgmjgdjobkmbgaaL Go.RowKit Go.Proofs
attribute [local irreducible] Ef Yi WL PL CW NW Ret
set_option maxHeartbeats 4000000
open Go.Lib Go.Sort
def hop1 (L : List Ed) : Tp := ⟨1, List.replicate 10 false, [L]⟩
theorem edges_hop1 (L : List Ed) : edgesOf (hop1 L) 0 = L := rfl
theorem ordRes_hop1 (L : List Ed) : ordRes (hop1 L) 0 = orderOf L := rfl
/-- A block's first cell: a row of one row. -/
theorem hop_row {w : World} {g t : Nat} {cs : Array Value} {v : Value} {L : List Ed} {ok : Nat → Prop} (hB : Blk w g (putAll cs 0 [v]) t) (hs : 0 < cs.size) (hg : ok g) (hK : dEds.K w ok L [v]) : Row dEds w ok (some ⟨g, 0, none⟩) [L] := by
  refine .inr ⟨_, rfl, hg, fun j y hy => ?_⟩
  cases j with
  | zero =>
    have e : L = y := by simpa using hy
    subst e
    refine ⟨[v], hK, fun i u hu => ?_⟩
    cases i with
    | zero =>
      have e2 : (⟨g, 0, none⟩ : Addr).add (0 * dEds.sz + 0) = ⟨g, 0, none⟩ := rfl
      rw [e2]
      refine hB.cell ?_
      show (cs.setIfInBounds 0 v)[0]? = some u
      rw [Array.getElem?_setIfInBounds_self_of_lt hs]
      simpa using hu
    | succ i => simp at hu
  | succ j => simp at hy
theorem less_sub {L : List Ed} {i : Nat} : ∀ e ∈ L.eraseIdx i, e ∈ L := fun e he => List.mem_of_mem_eraseIdx he
theorem back_iff {L : List Ed} {i : Nat} {x : Ed} (h : L[i]? = some x) : ∀ e, e ∈ L.eraseIdx i ++ [x] ↔ e ∈ L := fun e => by
  obtain ⟨hi, hx⟩ := List.getElem?_eq_some_iff.1 h
  rw [List.eraseIdx_eq_take_drop_succ]
  have hd : L = L.take i ++ (x :: L.drop (i + 1)) := by
    have := List.drop_eq_getElem_cons hi
    rw [hx] at this
    rw [← this, List.take_append_drop]
  constructor
  · intro he
    rw [hd]
    simp only [List.mem_append, List.mem_cons, List.not_mem_nil, or_false] at he ⊢
    rcases he with (he | he) | he
    · exact .inl he
    · exact .inr (.inr he)
    · exact .inr (.inl he)
  · intro he
    rw [hd] at he
    simp only [List.mem_append, List.mem_cons, List.not_mem_nil, or_false] at he ⊢
    rcases he with he | he | he
    · exact .inl (.inl he)
    · exact .inr he
    · exact .inl (.inr he)
theorem hop1_all {L : List Ed} (h : L.length ≤ 40) : ∀ l ∈ (hop1 L).hops, l.length ≤ 1000000 := fun l hl => by
  have hl : l = L := by simpa [hop1] using hl
  rw [hl]; omega
def OrdR (L : List Ed) (e : Int) (out : List Int) : Prop := (orderOf L = some out ∧ e = 0) ∨ (orderOf L = none ∧ e = 1 ∧ out = [])
theorem ordR_e {L : List Ed} {e : Int} {out : List Int} (h : OrdR L e out) : e = 0 ∨ e = 1 := h.elim (fun h => .inl h.2) fun h => .inr h.2.1
theorem ordR_less {L L' : List Ed} {e e' : Int} {o o' : List Int} (hs : ∀ x ∈ L, x ∈ L') (h' : OrdR L' e' o') (h : OrdR L e o) (h0 : e' = 0) : e = 0 := by
  rcases h' with h' | h'
  · obtain ⟨out, ho⟩ := order_less hs ⟨_, h'.1⟩
    rcases h with h | h
    · exact h.2
    · rw [ho] at h; cases h.1
  · omega
theorem ordR_same {L L' : List Ed} {e e' : Int} {o o' : List Int} (hs : ∀ x, x ∈ L ↔ x ∈ L') (h : OrdR L e o) (h' : OrdR L' e' o') : e = e' ∧ o = o' := by
  have hc := orderOf_congr hs
  rcases h with h | h <;> rcases h' with h' | h'
  · exact ⟨h.2.trans h'.2.symm, Option.some.inj (h.1.symm.trans (hc.trans h'.1))⟩
  · exact absurd (h.1.symm.trans (hc.trans h'.1)) (by simp)
  · exact absurd (h.1.symm.trans (hc.trans h'.1)) (by simp)
  · exact ⟨h.2.1.trans h'.2.1.symm, h.2.2.trans h'.2.2.symm⟩
theorem reach_same {L L' : List Ed} {n : Int} {zs zs' : List Int} (hs : ∀ x, x ∈ L ↔ x ∈ L') (h1 : zs.Pairwise (· < ·)) (h2 : ∀ x, x ∈ zs ↔ Path L n x) (h1' : zs'.Pairwise (· < ·)) (h2' : ∀ x, x ∈ zs' ↔ Path L' n x) : zs = zs' :=
  rising_ext h1 h1' fun x => by rw [h2, h2', path_congr hs]
theorem ordR_len {L : List Ed} {e : Int} {out : List Int} (h : OrdR L e out) (hL : ∀ x ∈ L, (0 ≤ x.frm ∧ x.frm < 10) ∧ 0 ≤ x.to ∧ x.to < 10) : out.length ≤ 1000 := by
  rcases h with h | h
  · have hO := order_some h.1
    have := nodup_le (m := (List.range 10).map Int.ofNat) hO.nd (fun x hx => by
      have h9 : 0 ≤ x ∧ x < 10 := by
        obtain ⟨e, he, h | h⟩ := mem_nodes.1 ((hO.all x).2 (.inr hx))
        · exact h ▸ (hL e he).1
        · exact h ▸ (hL e he).2
      obtain ⟨m, rfl⟩ := Int.eq_ofNat_of_zero_le h9.1
      exact List.mem_map.2 ⟨m, List.mem_range.2 (by omega), rfl⟩)
    simp at this
    omega
  · rw [h.2.2]; simp
theorem at_conv {n : Int} (h0 : 0 ≤ n) (h1 : n < 256) : IntKind.i64.wrap n = n := wrap_i64 (by omega) (by omega)

theorem lessLaw_c (A : Option Addr) (c : Nat) (l : List (UInt8 × UInt8)) (ok : Nat → Prop) (n : Int) (w : World) (R : Row dPr w ok A l) (hok : ∀ k, ok k → k < w.heap.size) (hc : l.length ≤ c) (hn : 0 ≤ n ∧ n ≤ 255) :
    Ret Try.prog 7 [.slice A l.length c, .int .u8 n] w fun u w' => u = .bool true ∧ Same w w' := by
  have hn0 := hn.1
  have hn1 : n < 256 := by omega
  have fr0 : Only (fun _ => False) w w := Only.refl _ _
  refine Ret.go Try.func7 rfl Try.ntmps7 rfl ?_
  refine CW.seq ?_
  refine CW.region ?_
  refine WL.y rfl rfl (yi_assign rfl) ?_
  refine WL.done ?_
  refine NW.next ?_
  refine CW.seq ?_
  refine CW.region ?_
  refine WL.y rfl rfl (yi_move rfl) ?_
  refine WL.e rfl rfl (ef_call Try.call33 rfl (between_c A c l _ _ R (fun k hk => by have := hok k hk; omega) hc)) ?_
  rintro _ w1 ⟨ub, hb, rfl, RH3, UB4, f2⟩
  obtain ⟨E, hE⟩ : ∃ E, E = (l.take 40).map edOf := ⟨_, rfl⟩
  have hEl : E.length ≤ 40 := by rw [hE]; simp; omega
  have hE10 : ∀ x ∈ E, (0 ≤ x.frm ∧ x.frm < 10) ∧ 0 ≤ x.to ∧ x.to < 10 := fun x hx => betw_in (l := l) (by rw [betw_0, ← hE]; exact hx)
  have hbt : (betw l).hops = [E] := by rw [hE]; rfl
  rw [hbt] at RH3
  obtain ⟨z1, hz1⟩ : ∃ z, z = w1.heap.size := ⟨_, rfl⟩
  have RB5 := Row.mono (ok' := fun k => k < z1) (fun k hk => by rw [hz1]; exact hk.2) (Row.bound (by decide) RH3)
  obtain ⟨adh, A0, c0, hadh, hhb, CE6, hc0, hm0, RE7⟩ := hop_at RB5 (k := 0) (e := E) rfl
  injection hadh with hadh
  subst hadh
  have hhb : hb < z1 := hhb
  have hub := UB4.lt
  have F8 := Row.same (by decide) R f2
  have F9 := Only.same fr0 f2
  have sz10 := f2.size
  refine WL.e rfl rfl (ef_alloc Try.zeroValue60) ?_
  rintro _ w16 ⟨tb, hb_tb, rfl, f13, B14, z_tb⟩
  have F17 := Row.same (by decide) F8 f13
  have F18 := Only.same F9 f13
  have F19 := Row.same (by decide) RB5 f13
  have F20 := Blk.same UB4 f13
  have F21 := Row.same (by decide) RE7 f13
  have F22 := Only.cell f13 CE6 (fun hl => hl)
  clear F8 F9
  have sz23 := f13.size
  refine WL.e rfl rfl (ef_store (b := tb) Try.sizeOf60 rfl rfl B14 rfl rfl rfl) ?_
  rintro _ w27 ⟨rfl, f24, B25, z26⟩
  have F28 := Row.only (by decide) F17 f24 (fun k hk hok' hl => by have hl : k = _ := hl; have := hok k hok'; omega)
  have F29 := Only.trans F18 f24 (fun i hi hl => by have hl : i = _ := hl; omega)
  have F30 := Row.only (by decide) F19 f24 (fun k hk hok' hl => by have hl : k = _ := hl; have hok' : k < z1 := hok'; omega)
  have F31 := Blk.only F20 f24 (by show ¬ (_ = _); omega)
  have F32 := Row.only (by decide) F21 f24 (fun k hk hok' hl => by have hl : k = _ := hl; have hok' : k < z1 := hok'; omega)
  have F33 := Only.cell f24 F22 (fun hl => by have hl : hb = _ := hl; omega)
  clear F17 F18 F19 F20 F21 F22
  have B34 : Blk w27 tb #[.int .u64 1, .slice (some ⟨ub, 0, none⟩) 10 10, .slice (some ⟨hb, 0, none⟩) 1 1] 60 := Blk.lit B25 rfl
  clear B25
  refine WL.done ?_
  refine NW.next ?_
  refine CW.seq ?_
  refine CW.seq ?_
  refine CW.region ?_
  refine WL.y rfl rfl (yi_fieldAddr Try.runUnderlying60 rfl Try.sizeOf58 rfl) ?_
  refine WL.y rfl rfl (yi_loadB Try.isAgg58 rfl (by assumption) rfl) ?_
  refine WL.y rfl rfl (yi_indexAddr Try.runUnderlying58 Try.sizeOf83 rfl rfl (by omega) (by omega)) ?_
  refine WL.as_ (t := 24) (v' := .pointer (some ⟨hb, 0, none⟩)) rfl (rfl) ?_
  refine WL.y rfl rfl (yi_load1 Try.isAgg83 rfl F33) ?_
  refine WL.y rfl rfl (yi_len Try.runUnderlying83 rfl) ?_
  refine WL.y rfl rfl (yi_eql rfl rfl) ?_
  refine WL.done ?_
  refine NW.next ?_
  refine CW.cond rfl (fun q_ => ?_) (fun q_ => ?_)
  · try replace q_ := of_decide_eq_true q_
    refine CW.seq ?_
    refine CW.region ?_
    refine WL.e rfl rfl (ef_call Try.call37 rfl (twakes_c _)) ?_
    rintro _ w35 ⟨rfl, f36⟩
    have F37 := Row.same (by decide) F28 f36
    have F38 := Only.same F29 f36
    have F39 := Row.same (by decide) F30 f36
    have F40 := Blk.same F31 f36
    have F41 := Row.same (by decide) F32 f36
    have F42 := Only.cell f36 F33 (fun hl => hl)
    have F43 := Blk.same B34 f36
    clear F28 F29 F30 F31 F32 F33
    have sz44 := f36.size
    refine WL.y rfl rfl (yi_assign rfl) ?_
    refine WL.done ?_
    refine NW.next ?_
    refine CW.ret ?_
    refine NW.thenRet ?_
    refine NW.ret1 rfl rfl ?_
    exact ⟨_, rfl, rfl, F38⟩
  · try replace q_ := of_decide_eq_false q_
    have hE0 : 0 < E.length := by omega
    obtain ⟨i, hi⟩ : ∃ i : Nat, n.tmod (E.length : Int) = (i : Nat) := Int.eq_ofNat_of_zero_le (Int.tmod_nonneg _ hn0)
    have hiE : i < E.length := by have := Int.tmod_lt_of_pos n (show (0 : Int) < (E.length : Int) by omega); omega
    obtain ⟨x, hx⟩ : ∃ x, E[i]? = some x := ⟨E[i]'hiE, List.getElem?_eq_getElem hiE⟩
    obtain ⟨adx, hA0, hbx, -⟩ := ed_at F32 hx
    subst hA0
    have CE3 := F33
    have hE1l : (E.eraseIdx i).length + 1 = E.length := by rw [List.length_eraseIdx, if_pos hiE]; omega
    have hE2l : (E.eraseIdx i ++ [x]).length = E.length := by rw [List.length_append, List.length_singleton]; omega
    refine CW.skip ?_
    refine NW.next ?_
    refine CW.seq ?_
    refine CW.region ?_
    refine WL.y rfl rfl (yi_move rfl) ?_
    refine WL.y rfl rfl (yi_convInt Try.runUnderlying5 Try.runUnderlying3 rfl) ?_
    refine WL.as_ (t := 30) (v' := .int .i64 n) rfl (congrArg (Value.int .i64) (at_conv hn0 hn1)) ?_
    refine WL.y rfl rfl (yi_fieldAddr Try.runUnderlying60 rfl Try.sizeOf58 rfl) ?_
    refine WL.y rfl rfl (yi_loadB Try.isAgg58 rfl (by assumption) rfl) ?_
    refine WL.y rfl rfl (yi_indexAddr Try.runUnderlying58 Try.sizeOf83 rfl rfl (by omega) (by omega)) ?_
    refine WL.as_ (t := 33) (v' := .pointer (some ⟨hb, 0, none⟩)) rfl (rfl) ?_
    refine WL.y rfl rfl (yi_load1 Try.isAgg83 rfl F33) ?_
    refine WL.y rfl rfl (yi_len Try.runUnderlying83 rfl) ?_
    refine WL.y rfl rfl (yi_rem (by omega) rfl rfl) ?_
    refine WL.as_ (t := 36) (v' := .int .i64 (i : Nat)) rfl (congrArg (Value.int .i64) hi) ?_
    refine WL.y rfl rfl (yi_assign rfl) ?_
    refine WL.done ?_
    refine NW.next ?_
    refine CW.seq ?_
    refine CW.region ?_
    refine WL.y rfl rfl (yi_loadW Try.isAgg60 Try.sizeOf60 rfl (by assumption) rfl) ?_
    obtain ⟨y1, hy1⟩ : ∃ z, z = w27.heap.size := ⟨_, rfl⟩
    refine WL.e rfl rfl (ef_call Try.call41 rfl (copy_c (hop1 E) (some ⟨ub, 0, none⟩) (some ⟨hb, 0, none⟩) 10 1 (fun k => k < z1) _ (Row.ofBools F31 (by omega) (by simp [hop1])) F30 (fun k hk => by have hk : k < z1 := hk; omega) (by simp [hop1]) (by simp [hop1]) (hop1_all hEl) (by simp [hop1]))) ?_
    rintro _ w45 ⟨Au1, cu1, g1, cap1, rfl, hcu1, hcum1, RU47, hg1, SL48, f46⟩
    rw [← hy1] at RU47 SL48 hg1
    have RUB49 := Row.bound (by decide) RU47
    obtain ⟨w1v, C150, hK1⟩ := SL48.cell (i := 0) (x := E) rfl
    obtain ⟨v1, hv1, O151⟩ := hK1
    injection hv1 with hv1
    subst hv1
    obtain ⟨A1, c1, hv1, hc1, hm1, R152, -⟩ := O151.row (by decide)
    subst hv1
    have R152 := Row.bound (by decide) R152
    have hg1l := SL48.lt
    obtain ⟨cs1, rest1, hcs1, hrest1, hcap1, hcam1, B153, -⟩ := SL48
    have hcs1 : cs1.length = 1 := hcs1
    have hsz1 : 0 < (cs1 ++ rest1).toArray.size := by simp; omega
    have hcap1 : 1 ≤ cap1 := hcap1
    obtain ⟨q1, hq1⟩ : ∃ q, q = (cs1 ++ rest1).toArray := ⟨_, rfl⟩
    rw [← hq1] at B153 hsz1
    have F54 := Row.same (by decide) F28 f46
    have F55 := Only.same F29 f46
    have F56 := Row.same (by decide) F30 f46
    have F57 := Blk.same F31 f46
    have F58 := Row.same (by decide) F32 f46
    have F59 := Only.cell f46 F33 (fun hl => hl)
    have F60 := Blk.same B34 f46
    have F61 := Only.cell f46 CE3 (fun hl => hl)
    clear F28 F29 F30 F31 F32 F33
    have sz62 := f46.size
    refine WL.e rfl rfl (ef_alloc Try.zeroValue60) ?_
    rintro _ w68 ⟨lb, hb_lb, rfl, f65, B66, z_lb⟩
    have F69 := Row.same (by decide) F54 f65
    have F70 := Only.same F55 f65
    have F71 := Row.same (by decide) F56 f65
    have F72 := Blk.same F57 f65
    have F73 := Row.same (by decide) F58 f65
    have F74 := Only.cell f65 F59 (fun hl => hl)
    have F75 := Blk.same F60 f65
    have F76 := Only.cell f65 F61 (fun hl => hl)
    have F77 := Row.same (by decide) RUB49 f65
    have F78 := Blk.same B153 f65
    have F79 := Row.same (by decide) R152 f65
    have F80 := Only.cell f65 C150 (fun hl => hl)
    clear F54 F55 F56 F57 F58 F59 F60 F61
    have sz81 := f65.size
    refine WL.e rfl rfl (ef_store (b := lb) Try.sizeOf60 rfl rfl B66 rfl rfl rfl) ?_
    rintro _ w85 ⟨rfl, f82, B83, z84⟩
    have F86 := Row.only (by decide) F69 f82 (fun k hk hok' hl => by have hl : k = _ := hl; have := hok k hok'; omega)
    have F87 := Only.trans F70 f82 (fun i hi hl => by have hl : i = _ := hl; omega)
    have F88 := Row.only (by decide) F71 f82 (fun k hk hok' hl => by have hl : k = _ := hl; have hok' : k < z1 := hok'; omega)
    have F89 := Blk.only F72 f82 (by show ¬ (_ = _); omega)
    have F90 := Row.only (by decide) F73 f82 (fun k hk hok' hl => by have hl : k = _ := hl; have hok' : k < z1 := hok'; omega)
    have F91 := Only.cell f82 F74 (fun hl => by have hl : hb = _ := hl; omega)
    have F92 := Blk.only F75 f82 (by show ¬ (_ = _); omega)
    have F93 := Only.cell f82 F76 (fun hl => by have hl : hb = _ := hl; omega)
    have F94 := Row.only (by decide) F77 f82 (fun k hk hok' hl => by have hl : k = lb := hl; have := hok'.2; omega)
    have F95 := Blk.only F78 f82 (by show ¬ (_ = _); omega)
    have F96 := Row.only (by decide) F79 f82 (fun k hk hok' hl => by have hl : k = lb := hl; omega)
    have F97 := Only.cell f82 F80 (fun hl => by have hl : g1 = _ := hl; omega)
    clear F69 F70 F71 F72 F73 F74 F75 F76 F77 F78 F79 F80
    have B98 : Blk w85 lb #[.int .u64 1, .slice Au1 10 cu1, .slice (some ⟨g1, 0, none⟩) 1 cap1] 60 := Blk.lit B83 rfl
    clear B83
    refine WL.done ?_
    refine NW.next ?_
    refine CW.seq ?_
    refine CW.seq ?_
    refine CW.region ?_
    refine WL.y rfl rfl (yi_fieldAddr Try.runUnderlying60 rfl Try.sizeOf58 rfl) ?_
    refine WL.y rfl rfl (yi_loadB Try.isAgg58 rfl (by assumption) rfl) ?_
    refine WL.y rfl rfl (yi_len Try.runUnderlying58 rfl) ?_
    refine WL.y rfl rfl (yi_eql rfl rfl) ?_
    refine WL.as_ (t := 42) (v' := .bool false) rfl (congrArg Value.bool (by decide)) ?_
    refine WL.y rfl rfl (yi_move rfl) ?_
    refine WL.as_ (t := 43) (v' := .bool false) rfl (rfl) ?_
    refine WL.gy rfl rfl rfl rfl rfl (yi_fieldAddr Try.runUnderlying60 rfl Try.sizeOf58 rfl) ?_
    refine WL.gy rfl rfl rfl rfl rfl (yi_loadB Try.isAgg58 rfl (by assumption) rfl) ?_
    refine WL.gy rfl rfl rfl rfl rfl (yi_indexAddr Try.runUnderlying58 Try.sizeOf83 rfl rfl (by omega) (by omega)) ?_
    refine WL.as_ (t := 46) (v' := .pointer (some ⟨g1, 0, none⟩)) rfl (rfl) ?_
    refine WL.gy rfl rfl rfl rfl rfl (yi_load1 Try.isAgg83 rfl F97) ?_
    refine WL.gy rfl rfl rfl rfl rfl (yi_len Try.runUnderlying83 rfl) ?_
    refine WL.gy rfl rfl rfl rfl rfl (yi_move rfl) ?_
    refine WL.gy rfl rfl rfl rfl rfl (yi_leq rfl rfl) ?_
    refine WL.as_ (t := 50) (v' := .bool false) rfl (congrArg Value.bool (decide_eq_false (by omega))) ?_
    refine WL.y rfl rfl (yi_pickF rfl rfl) ?_
    refine WL.as_ (t := 51) (v' := .bool false) rfl (rfl) ?_
    refine WL.done ?_
    refine NW.next ?_
    refine CW.condF rfl ?_
    refine CW.skip ?_
    refine NW.next ?_
    refine CW.seq ?_
    have fd99 : Same w85 w85.drew := Only.drew _ _
    obtain ⟨w100, hww100⟩ : ∃ wz, wz = w85.drew := ⟨_, rfl⟩
    rw [← hww100] at fd99
    have F101 := Row.same (by decide) F86 fd99
    have F102 := Only.same F87 fd99
    have F103 := Row.same (by decide) F88 fd99
    have F104 := Blk.same F89 fd99
    have F105 := Row.same (by decide) F90 fd99
    have F106 := Only.cell fd99 F91 (fun hl => hl)
    have F107 := Blk.same F92 fd99
    have F108 := Only.cell fd99 F93 (fun hl => hl)
    have F109 := Row.same (by decide) F94 fd99
    have F110 := Blk.same F95 fd99
    have F111 := Row.same (by decide) F96 fd99
    have F112 := Only.cell fd99 F97 (fun hl => hl)
    have F113 := Blk.same B98 fd99
    clear F86 F87 F88 F89 F90 F91 F92 F93 F94 F95 F96 F97
    have sz114 := fd99.size
    refine CW.draw 18 [(0, true), (1, true), (2, true), (3, true), (4, true), (5, true), (6, true), (7, true), (8, true), (9, true), (10, true), (11, true), (12, true), (13, true), (14, true), (15, true), (16, false), (17, true), (18, false)] (fun w' => Blk w' ub _ _ ∧ Blk w' tb _ _ ∧ World.cell? w' ⟨hb, 0, none⟩ = some (.slice (some adx) E.length c0) ∧ World.cell? w' ⟨g1, 0, none⟩ = some (.slice A1 E.length c1) ∧ Blk w' lb _ _) Try_mixed (by kernel_rfl) (fun _ _ _ _ h => h) hww100 ⟨F104, F107, F108, F112, F113⟩ ?_
    refine PL.y rfl rfl rfl (fun w' hS => yi_fieldAddr Try.runUnderlying60 rfl Try.sizeOf58 rfl) ?_
    refine PL.y rfl rfl rfl (fun w' hS => yi_loadB Try.isAgg58 rfl hS.2.2.2.2 rfl) ?_
    refine PL.y rfl rfl rfl (fun w' hS => yi_fieldAddr Try.runUnderlying60 rfl Try.sizeOf58 rfl) ?_
    refine PL.y rfl rfl rfl (fun w' hS => yi_loadB Try.isAgg58 rfl hS.2.2.2.2 rfl) ?_
    refine PL.y rfl rfl rfl (fun w' hS => yi_indexAddr Try.runUnderlying58 Try.sizeOf83 rfl rfl (by omega) (by omega)) ?_
    refine PL.as_ (t := 56) (v' := .pointer (some ⟨g1, 0, none⟩)) rfl (rfl) ?_
    refine PL.y rfl rfl rfl (fun w' hS => yi_load1 Try.isAgg83 rfl hS.2.2.2.1) ?_
    refine PL.y rfl rfl rfl (fun w' hS => yi_move rfl) ?_
    refine PL.y rfl rfl rfl (fun w' hS => yi_move rfl) ?_
    refine PL.y rfl rfl rfl (fun w' hS => yi_slice011 Try.runUnderlying83 Try.sizeOf86 rfl rfl rfl (by omega) (by omega) (by omega)) ?_
    refine PL.as_ (t := 60) (v' := .slice A1 i i) rfl (by rw [Int.toNat_natCast]) ?_
    refine PL.y rfl rfl rfl (fun w' hS => yi_fieldAddr Try.runUnderlying60 rfl Try.sizeOf58 rfl) ?_
    refine PL.y rfl rfl rfl (fun w' hS => yi_loadB Try.isAgg58 rfl hS.2.2.2.2 rfl) ?_
    refine PL.y rfl rfl rfl (fun w' hS => yi_indexAddr Try.runUnderlying58 Try.sizeOf83 rfl rfl (by omega) (by omega)) ?_
    refine PL.as_ (t := 63) (v' := .pointer (some ⟨g1, 0, none⟩)) rfl (rfl) ?_
    refine PL.y rfl rfl rfl (fun w' hS => yi_load1 Try.isAgg83 rfl hS.2.2.2.1) ?_
    refine PL.y rfl rfl rfl (fun w' hS => yi_move rfl) ?_
    refine PL.y rfl rfl rfl (fun w' hS => yi_addI rfl rfl (by omega) (by omega)) ?_
    refine PL.as_ (t := 66) (v' := .int .i64 ((i + 1 : Nat) : Int)) rfl (congrArg (Value.int .i64) (by omega)) ?_
    refine PL.y rfl rfl rfl (fun w' hS => yi_slice100 Try.runUnderlying83 Try.sizeOf86 rfl rfl (by omega) (by omega)) ?_
    refine PL.as_ (t := 67) (v' := .slice (cutA A1 (i + 1) c1 2) (E.length - (i + 1)) (c1 - (i + 1))) rfl (by rw [Int.toNat_natCast]) ?_
    refine PL.e rfl rfl rfl (ef_appendOut dEd (W0 := 0) Try.runUnderlying83 (notInt Try.runUnderlying83) Try.typeInfo86 Try.zeroValue86 Try.sizeOf86 rfl rfl rfl rfl F111 hiE hc1 (Nat.zero_le _) (by decide) (by omega) (by show E.length * 16 ≤ _; omega)) ?_
    rintro u3 w115 ⟨hSl, f116⟩
    obtain ⟨A3, c3, hu3, hc3, hm3, R3117⟩ := hSl.row (by decide)
    subst hu3
    have R3117 := Row.mono (ok' := fun k => y1 ≤ k ∧ k ≠ g1) (fun k hk => by rcases hk with hk | hk <;> omega) R3117
    have F118 := Row.same (by decide) F101 f116
    have F119 := Only.same F102 f116
    have F120 := Row.same (by decide) F103 f116
    have F121 := Blk.same F104 f116
    have F122 := Row.same (by decide) F105 f116
    have F123 := Only.cell f116 F106 (fun hl => hl)
    have F124 := Blk.same F107 f116
    have F125 := Only.cell f116 F108 (fun hl => hl)
    have F126 := Row.same (by decide) F109 f116
    have F127 := Blk.same F110 f116
    have F128 := Row.same (by decide) F111 f116
    have F129 := Only.cell f116 F112 (fun hl => hl)
    have F130 := Blk.same F113 f116
    clear F101 F102 F103 F104 F105 F106 F107 F108 F109 F110 F111 F112 F113
    have sz131 := f116.size
    refine ⟨fun _ => ⟨F121, F124, F125, F129, F130⟩, ?_⟩
    refine PL.y rfl rfl rfl (fun w' hS => yi_indexAddr Try.runUnderlying58 Try.sizeOf83 rfl rfl (by omega) (by omega)) ?_
    refine PL.as_ (t := 69) (v' := .pointer (some ⟨g1, 0, none⟩)) rfl (rfl) ?_
    refine PL.z rfl rfl rfl rfl rfl (ef_store (b := g1) Try.sizeOf83 rfl rfl F127 rfl (Nat.ble_eq_true_of_le (by show 0 + 1 ≤ _; omega)) rfl) ?_
    rintro _ w135 ⟨rfl, f132, B133, z134⟩
    have F136 := Row.only (by decide) F118 f132 (fun k hk hok' hl => by have hl : k = _ := hl; have := hok k hok'; omega)
    have F137 := Only.trans F119 f132 (fun i hi hl => by have hl : i = _ := hl; omega)
    have F138 := Row.only (by decide) F120 f132 (fun k hk hok' hl => by have hl : k = _ := hl; have hok' : k < z1 := hok'; omega)
    have F139 := Blk.only F121 f132 (by show ¬ (_ = _); omega)
    have F140 := Row.only (by decide) F122 f132 (fun k hk hok' hl => by have hl : k = _ := hl; have hok' : k < z1 := hok'; omega)
    have F141 := Only.cell f132 F123 (fun hl => by have hl : hb = _ := hl; omega)
    have F142 := Blk.only F124 f132 (by show ¬ (_ = _); omega)
    have F143 := Only.cell f132 F125 (fun hl => by have hl : hb = _ := hl; omega)
    have F144 := Row.only (by decide) F126 f132 (fun k hk hok' hl => by have hl : k = g1 := hl; exact hok'.1.2 hl)
    have F145 := Blk.only F130 f132 (by show ¬ (_ = _); omega)
    have F146 := Row.only (by decide) R3117 f132 (fun k hk hok' hl => by have hl : k = g1 := hl; exact hok'.2 hl)
    clear F118 F119 F120 F121 F122 F123 F124 F125 F126 F130
    obtain ⟨z3, hz3⟩ : ∃ z, z = w135.heap.size := ⟨_, rfl⟩
    have RL := Row.mono (ok' := fun k => k < z3) (fun k hk => by have := hk.2; omega) (Row.bound (by decide) (hop_row (ok := fun k => y1 ≤ k) B133 hsz1 hg1 ⟨A3, c3, rfl, hc3, hm3, Row.mono (fun k hk => hk.1) F146⟩))
    have RU3 : Row dBool w135 (fun k => k < z3) Au1 (List.replicate 10 false) := Row.mono (fun k hk => by have := hk.2; omega) F144
    refine PL.done ?_
    refine NW.next ?_
    refine CW.seq ?_
    refine CW.seq ?_
    refine CW.region ?_
    refine WL.y rfl rfl (yi_assign rfl) ?_
    refine WL.done ?_
    refine NW.next ?_
    refine CW.block ?_
    refine CW.loop (fun mm a w' => ∃ n : Nat, mm = 10 - n ∧ n ≤ 10 ∧ Same w w' ∧ Blk w' tb #[.int .u64 1, .slice (some ⟨ub, 0, none⟩) 10 10, .slice (some ⟨hb, 0, none⟩) 1 1] 60 ∧ Row dEds w' (fun k => k < z1) (some ⟨hb, 0, none⟩) [E] ∧ Blk w' lb #[.int .u64 1, .slice Au1 10 cu1, .slice (some ⟨g1, 0, none⟩) 1 cap1] 60 ∧ Row dEds w' (fun k => k < z3) (some ⟨g1, 0, none⟩) [E.eraseIdx i] ∧ Row dBool w' (fun k => k < z3) Au1 (List.replicate 10 false) ∧ Row dEd w' (fun k => k < z1) (some adx) E ∧ World.cell? w' ⟨hb, 0, none⟩ = some (.slice (some adx) E.length c0) ∧ z3 ≤ w'.heap.size ∧ Env 160 [] [(5, .pointer (some ⟨tb, 0, none⟩)), (6, .int .i64 i), (7, .pointer (some ⟨lb, 0, none⟩)), (8, .int .i64 n)] a) (10) ?_ ?_
    · exact fun a ha => ⟨0, rfl, by omega, F137, F142, F138, F145, RL, RU3, F140, F143, (by omega), ha.sub ⟨rfl, rfl, rfl, rfl, trivial⟩⟩
    · rintro mm a w147 ⟨n, rfl, hnn, fr, TB, RH, LB, RL, RU, RE, CE, hz3, ha⟩
      refine CW.at ha ?_
      refine CW.seq ?_
      refine CW.seq ?_
      refine CW.region ?_
      refine WL.y rfl rfl (yi_move rfl) ?_
      refine WL.y rfl rfl (yi_lss rfl rfl) ?_
      refine WL.done ?_
      refine NW.next ?_
      refine CW.cond rfl (fun q_A => ?_) (fun q_A => ?_)
      · try replace q_A := of_decide_eq_true q_A
        refine CW.skip ?_
        refine NW.next ?_
        refine CW.seq ?_
        refine CW.block ?_
        refine CW.seq ?_
        have fd148 : Same w147 w147.drew := Only.drew _ _
        obtain ⟨w149, hww149⟩ : ∃ wz, wz = w147.drew := ⟨_, rfl⟩
        rw [← hww149] at fd148
        have F150 := Only.same fr fd148
        have F151 := Blk.same TB fd148
        have F152 := Row.same (by decide) RH fd148
        have F153 := Blk.same LB fd148
        have F154 := Row.same (by decide) RL fd148
        have F155 := Row.same (by decide) RU fd148
        have F156 := Row.same (by decide) RE fd148
        have F157 := Only.cell fd148 CE (fun hl => hl)
        have sz158 := fd148.size
        refine CW.draw 5 [(0, true), (1, true), (3, true), (4, true), (2, false), (5, false), (6, false), (7, false)] (fun w' => Blk w' tb _ _ ∧ Blk w' lb _ _ ∧ World.cell? w' ⟨hb, 0, none⟩ = some (.slice (some adx) E.length c0)) Try_mixed (by kernel_rfl) (fun _ _ _ _ h => h) hww149 ⟨F151, F153, F157⟩ ?_
        refine PL.y rfl rfl rfl (fun w' hS => by first | exact yi_loadW Try.isAgg60 Try.sizeOf60 rfl hS.1 rfl | exact yi_loadW Try.isAgg60 Try.sizeOf60 rfl hS.2.1 rfl) ?_
        refine PL.y rfl rfl rfl (fun w' hS => yi_move rfl) ?_
        refine PL.y rfl rfl rfl (fun w' hS => by first | exact yi_loadW Try.isAgg60 Try.sizeOf60 rfl hS.1 rfl | exact yi_loadW Try.isAgg60 Try.sizeOf60 rfl hS.2.1 rfl) ?_
        refine PL.y rfl rfl rfl (fun w' hS => yi_move rfl) ?_
        refine PL.e rfl rfl rfl (ef_call Try.call36 rfl (reach_c (hop1 E) (some ⟨ub, 0, none⟩) (some ⟨hb, 0, none⟩) 10 1 _ _ F152 (Nat.le_refl 1) (by decide) 0 n (fun k hk => by have hk : k < z1 := hk; omega) (by show E.length ≤ _; omega))) ?_
        rintro u_m w159 ⟨ms, hO161, hm1_, hm2_, f160⟩
        have hlm := zs_len hm1_ hm2_ hEl
        obtain ⟨Am, cm, hv162, hc163, hm164, RR165, -⟩ := hO161.row (by decide)
        subst hv162
        have F166 := Only.same F150 f160
        have F167 := Blk.same F151 f160
        have F168 := Row.same (by decide) F152 f160
        have F169 := Blk.same F153 f160
        have F170 := Row.same (by decide) F154 f160
        have F171 := Row.same (by decide) F155 f160
        have F172 := Row.same (by decide) F156 f160
        have F173 := Only.cell f160 F157 (fun hl => hl)
        clear F150 F151 F152 F153 F154 F155 F156 F157
        have sz174 := f160.size
        refine ⟨fun _ => ⟨F167, F169, F173⟩, ?_⟩
        refine PL.z rfl rfl rfl rfl rfl (ef_call Try.call36 rfl (reach_c (hop1 (E.eraseIdx i)) Au1 (some ⟨g1, 0, none⟩) cu1 cap1 _ _ F170 hcap1 hcam1 0 n (fun k hk => by have hk : k < z3 := hk; omega) (by show (E.eraseIdx i).length ≤ _; omega))) ?_
        rintro u_f w175 ⟨fs, hO177, hf1_, hf2_, f176⟩
        have hlf := zs_len (m := 40) hf1_ hf2_ (by show (E.eraseIdx i).length ≤ 40; omega)
        obtain ⟨Af, cf, hv178, hc179, hm180, RR181, -⟩ := hO177.row (by decide)
        subst hv178
        have F182 := Only.same F166 f176
        have F183 := Blk.same F167 f176
        have F184 := Row.same (by decide) F168 f176
        have F185 := Blk.same F169 f176
        have F186 := Row.same (by decide) F170 f176
        have F187 := Row.same (by decide) F171 f176
        have F188 := Row.same (by decide) F172 f176
        have F189 := Only.cell f176 F173 (fun hl => hl)
        have F190 := Row.same (by decide) RR165 f176
        clear F166 F167 F168 F169 F170 F171 F172 F173
        have sz191 := f176.size
        obtain ⟨z4, hz4⟩ : ∃ z, z = w175.heap.size := ⟨_, rfl⟩
        have N1192 := Row.mono (ok' := fun k => k < z4) (fun k hk => by rw [hz4]; exact hk.2) (Row.bound (by decide) F190)
        have N2193 := Row.mono (ok' := fun k => k < z4) (fun k hk => by rw [hz4]; exact hk.2) (Row.bound (by decide) RR181)
        refine PL.zy rfl rfl rfl rfl rfl (yi_assign rfl) ?_
        refine PL.zy rfl rfl rfl rfl rfl (yi_assign rfl) ?_
        refine PL.done ?_
        refine NW.next ?_
        refine CW.seq ?_
        refine CW.region ?_
        refine WL.y rfl rfl (yi_assign rfl) ?_
        refine WL.done ?_
        refine NW.next ?_
        refine CW.block ?_
        refine CW.loop (fun mm a w' => ∃ j : Nat, mm = fs.length - j ∧ j ≤ fs.length ∧ Same w w' ∧ Blk w' tb #[.int .u64 1, .slice (some ⟨ub, 0, none⟩) 10 10, .slice (some ⟨hb, 0, none⟩) 1 1] 60 ∧ Row dEds w' (fun k => k < z1) (some ⟨hb, 0, none⟩) [E] ∧ Blk w' lb #[.int .u64 1, .slice Au1 10 cu1, .slice (some ⟨g1, 0, none⟩) 1 cap1] 60 ∧ Row dEds w' (fun k => k < z3) (some ⟨g1, 0, none⟩) [E.eraseIdx i] ∧ Row dBool w' (fun k => k < z3) Au1 (List.replicate 10 false) ∧ Row dEd w' (fun k => k < z1) (some adx) E ∧ World.cell? w' ⟨hb, 0, none⟩ = some (.slice (some adx) E.length c0) ∧ z3 ≤ w'.heap.size ∧ Row dI w' (fun k => k < z4) Am ms ∧ Row dI w' (fun k => k < z4) Af fs ∧ z4 ≤ w'.heap.size ∧ Env 160 [] [(5, .pointer (some ⟨tb, 0, none⟩)), (6, .int .i64 i), (7, .pointer (some ⟨lb, 0, none⟩)), (8, .int .i64 n), (9, .slice Am ms.length cm), (10, .slice Af fs.length cf), (11, .int .i64 j)] a) (fs.length) ?_ ?_
        · exact fun a ha => ⟨0, rfl, by omega, F182, F183, F184, F185, F186, F187, F188, F189, (by omega), N1192, N2193, (by omega), ha.sub ⟨rfl, rfl, rfl, rfl, rfl, rfl, rfl, trivial⟩⟩
        · rintro mm a w194 ⟨j, rfl, hjj, fr, TB, RH, LB, RL, RU, RE, CE, hz3, RM, RF_, hz4, ha⟩
          refine CW.at ha ?_
          refine CW.seq ?_
          refine CW.seq ?_
          refine CW.region ?_
          refine WL.y rfl rfl (yi_move rfl) ?_
          refine WL.y rfl rfl (yi_move rfl) ?_
          refine WL.y rfl rfl (yi_len Try.runUnderlying49 rfl) ?_
          refine WL.y rfl rfl (yi_lss rfl rfl) ?_
          refine WL.done ?_
          refine NW.next ?_
          refine CW.cond rfl (fun q_B => ?_) (fun q_B => ?_)
          · try replace q_B := of_decide_eq_true q_B
            obtain ⟨y, hy⟩ : ∃ y, fs[j]? = some y := ⟨fs[j]'(by omega), List.getElem?_eq_getElem (by omega)⟩
            obtain ⟨ad, hA, hcell⟩ := int_at RF_ hy
            subst hA
            have hym : y ∈ ms := (hm2_ y).2 (path_mono less_sub ((hf2_ y).1 (List.mem_of_getElem? hy)))
            refine CW.skip ?_
            refine NW.next ?_
            refine CW.seq ?_
            refine CW.block ?_
            refine CW.seq ?_
            refine CW.region ?_
            refine WL.y rfl rfl (yi_move rfl) ?_
            refine WL.y rfl rfl (yi_move rfl) ?_
            refine WL.y rfl rfl (yi_move rfl) ?_
            refine WL.y rfl rfl (yi_indexAddr Try.runUnderlying49 Try.sizeOf3 rfl rfl (by omega) (by omega)) ?_
            refine WL.as_ (t := 89) (v' := .pointer (some (ad.add j))) rfl (by rw [Int.toNat_natCast, Nat.mul_one]) ?_
            refine WL.y rfl rfl (yi_load1 Try.isAgg3 rfl hcell) ?_
            refine WL.e rfl rfl (ef_call Try.call35 rfl (has_c Am cm ms y _ _ RM (by omega))) ?_
            rintro _ w195 ⟨rfl, rfl⟩
            refine WL.as_ (t := 91) (v' := .bool true) rfl (congrArg Value.bool (decide_eq_true hym)) ?_
            refine WL.y rfl rfl (yi_not rfl) ?_
            refine WL.as_ (t := 92) (v' := .bool false) rfl (rfl) ?_
            refine WL.done ?_
            refine NW.next ?_
            refine CW.condF rfl ?_
            refine CW.skip ?_
            refine NW.blockEnd ?_
            refine NW.next ?_
            refine CW.region ?_
            refine WL.y rfl rfl (yi_move rfl) ?_
            refine WL.y rfl rfl (yi_addI rfl rfl (by omega) (by omega)) ?_
            refine WL.as_ (t := 85) (v' := .int .i64 ((j + 1 : Nat) : Int)) rfl (congrArg (Value.int .i64) (by omega)) ?_
            refine WL.y rfl rfl (yi_assign rfl) ?_
            refine WL.done ?_
            refine NW.round (fs.length - (j + 1)) (by omega) ?_
            exact fun a ha => ⟨j + 1, rfl, by omega, fr, TB, RH, LB, RL, RU, RE, CE, (by omega), RM, RF_, (by omega), ha.sub ⟨rfl, rfl, rfl, rfl, rfl, rfl, rfl, trivial⟩⟩
          · try replace q_B := of_decide_eq_false q_B
            refine CW.exit ?_
            refine NW.thenExit ?_
            refine NW.thenExit ?_
            refine NW.blockHit ?_
            refine NW.blockEnd ?_
            refine NW.next ?_
            refine CW.region ?_
            refine WL.y rfl rfl (yi_move rfl) ?_
            refine WL.y rfl rfl (yi_addI rfl rfl (by omega) (by omega)) ?_
            refine WL.as_ (t := 73) (v' := .int .i64 ((n + 1 : Nat) : Int)) rfl (congrArg (Value.int .i64) (by omega)) ?_
            refine WL.y rfl rfl (yi_assign rfl) ?_
            refine WL.done ?_
            refine NW.round (10 - (n + 1)) (by omega) ?_
            exact fun a ha => ⟨n + 1, rfl, by omega, fr, TB, RH, LB, RL, RU, RE, CE, (by omega), ha.sub ⟨rfl, rfl, rfl, rfl, trivial⟩⟩
      · try replace q_A := of_decide_eq_false q_A
        refine CW.exit ?_
        refine NW.thenExit ?_
        refine NW.thenExit ?_
        refine NW.blockHit ?_
        refine NW.next ?_
        refine CW.seq ?_
        refine CW.region ?_
        refine WL.y rfl rfl (yi_loadW Try.isAgg60 Try.sizeOf60 rfl (by assumption) rfl) ?_
        refine WL.e rfl rfl (ef_call Try.call34 rfl (order_c (hop1 E) (some ⟨ub, 0, none⟩) (some ⟨hb, 0, none⟩) 10 1 _ _ RH (Nat.le_refl 1) (by decide) 0 (fun k hk => by have hk : k < z1 := hk; omega) (by show E.length ≤ _; omega))) ?_
        rintro _ w197 ⟨vp, e1, rfl, f198, hresp⟩
        obtain ⟨Ap, cp, op, rfl, RO199, hp⟩ : ∃ A c out, vp = .slice A out.length c ∧ Row dI w197 (fun k => w147.heap.size ≤ k) A out ∧ OrdR E e1 out := by
            rcases hresp with ⟨out, h1, h2, h3⟩ | ⟨h1, h2, h3⟩
            · obtain ⟨A', c', h4, _, _, h5, _⟩ := h3.row (by decide)
              exact ⟨A', c', out, h4, h5, .inl ⟨h1, h2⟩⟩
            · exact ⟨none, 0, [], h3, Row.nil _ _ _ _, .inr ⟨h1, h2, rfl⟩⟩
        have hlp := ordR_len hp hE10
        have F200 := Only.same fr f198
        have F201 := Blk.same TB f198
        have F202 := Row.same (by decide) RH f198
        have F203 := Blk.same LB f198
        have F204 := Row.same (by decide) RL f198
        have F205 := Row.same (by decide) RU f198
        have F206 := Row.same (by decide) RE f198
        have F207 := Only.cell f198 CE (fun hl => hl)
        have sz208 := f198.size
        refine WL.y rfl rfl (yi_move rfl) ?_
        refine WL.y rfl rfl (yi_extract rfl rfl) ?_
        refine WL.y rfl rfl (yi_extract rfl rfl) ?_
        refine WL.y rfl rfl (yi_assign rfl) ?_
        refine WL.y rfl rfl (yi_assign rfl) ?_
        refine WL.done ?_
        refine NW.next ?_
        refine CW.seq ?_
        refine CW.region ?_
        refine WL.y rfl rfl (yi_loadW Try.isAgg60 Try.sizeOf60 rfl (by assumption) rfl) ?_
        refine WL.e rfl rfl (ef_call Try.call34 rfl (order_c (hop1 (E.eraseIdx i)) Au1 (some ⟨g1, 0, none⟩) cu1 cap1 _ _ F204 hcap1 hcam1 0 (fun k hk => by have hk : k < z3 := hk; omega) (by show (E.eraseIdx i).length ≤ _; omega))) ?_
        rintro _ w209 ⟨vq, e2, rfl, f210, hresq⟩
        obtain ⟨Aq, cq, oq, rfl, RO211, hq⟩ : ∃ A c out, vq = .slice A out.length c ∧ Row dI w209 (fun k => w197.heap.size ≤ k) A out ∧ OrdR (E.eraseIdx i) e2 out := by
            rcases hresq with ⟨out, h1, h2, h3⟩ | ⟨h1, h2, h3⟩
            · obtain ⟨A', c', h4, _, _, h5, _⟩ := h3.row (by decide)
              exact ⟨A', c', out, h4, h5, .inl ⟨h1, h2⟩⟩
            · exact ⟨none, 0, [], h3, Row.nil _ _ _ _, .inr ⟨h1, h2, rfl⟩⟩
        have hlq := ordR_len hq (fun x hx => hE10 x (less_sub x hx))
        have F212 := Only.same F200 f210
        have F213 := Blk.same F201 f210
        have F214 := Row.same (by decide) F202 f210
        have F215 := Blk.same F203 f210
        have F216 := Row.same (by decide) F204 f210
        have F217 := Row.same (by decide) F205 f210
        have F218 := Row.same (by decide) F206 f210
        have F219 := Only.cell f210 F207 (fun hl => hl)
        clear F200 F201 F202 F203 F204 F205 F206 F207
        have sz220 := f210.size
        refine WL.y rfl rfl (yi_move rfl) ?_
        refine WL.y rfl rfl (yi_extract rfl rfl) ?_
        refine WL.y rfl rfl (yi_extract rfl rfl) ?_
        refine WL.y rfl rfl (yi_assign rfl) ?_
        refine WL.y rfl rfl (yi_assign rfl) ?_
        refine WL.done ?_
        refine NW.next ?_
        refine CW.seq ?_
        refine CW.seq ?_
        refine CW.region ?_
        refine WL.y rfl rfl (yi_move rfl) ?_
        refine WL.y rfl rfl (yi_eql rfl rfl) ?_
        refine WL.y rfl rfl (yi_move rfl) ?_
        refine WL.split (t := 105) rfl (fun q_AF => ?_) (fun q_AF => ?_)
        · try replace q_AF := of_decide_eq_true q_AF
          refine WL.gy rfl rfl rfl rfl rfl (yi_move rfl) ?_
          refine WL.gy rfl rfl rfl rfl rfl (yi_neq rfl rfl) ?_
          refine WL.as_ (t := 107) (v' := .bool false) rfl (congrArg Value.bool (by have := ordR_less less_sub hp hq (by assumption); simp [this])) ?_
          refine WL.y rfl rfl (yi_pickT rfl rfl) ?_
          refine WL.as_ (t := 108) (v' := .bool false) rfl (rfl) ?_
          refine WL.done ?_
          refine NW.next ?_
          refine CW.condF rfl ?_
          refine CW.skip ?_
          refine NW.next ?_
          refine CW.seq ?_
          refine CW.region ?_
          refine WL.y rfl rfl (yi_loadW Try.isAgg60 Try.sizeOf60 rfl (by assumption) rfl) ?_
          obtain ⟨y2, hy2⟩ : ∃ z, z = w209.heap.size := ⟨_, rfl⟩
          refine WL.e rfl rfl (ef_call Try.call41 rfl (copy_c (hop1 (E.eraseIdx i)) Au1 (some ⟨g1, 0, none⟩) cu1 cap1 (fun k => k < z3) _ F217 F216 (fun k hk => by have hk : k < z3 := hk; omega) (by simp [hop1]) (by simp [hop1]) (hop1_all (by omega)) (by simp [hop1]))) ?_
          rintro _ w221 ⟨Au2, cu2, g2, cap2, rfl, hcu2, hcum2, RU223, hg2, SL224, f222⟩
          rw [← hy2] at RU223 SL224 hg2
          obtain ⟨w2v, C2225, hK2⟩ := SL224.cell (i := 0) (x := E.eraseIdx i) rfl
          obtain ⟨v2, hv2, O2226⟩ := hK2
          injection hv2 with hv2
          subst hv2
          have O2226 := O2226.bound
          obtain ⟨A2, c2, hv2, hc2, hm2, -, -⟩ := O2226.row (by decide)
          subst hv2
          have hg2l := SL224.lt
          obtain ⟨cs2, rest2, hcs2, hrest2, hcap2, hcam2, B2227, -⟩ := SL224
          have hcs2 : cs2.length = 1 := hcs2
          have hsz2 : 0 < (cs2 ++ rest2).toArray.size := by simp; omega
          have hcap2 : 1 ≤ cap2 := hcap2
          obtain ⟨q2, hq2⟩ : ∃ q, q = (cs2 ++ rest2).toArray := ⟨_, rfl⟩
          rw [← hq2] at B2227 hsz2
          have F228 := Only.same F212 f222
          have F229 := Blk.same F213 f222
          have F230 := Row.same (by decide) F214 f222
          have F231 := Blk.same F215 f222
          have F232 := Row.same (by decide) F216 f222
          have F233 := Row.same (by decide) F217 f222
          have F234 := Row.same (by decide) F218 f222
          have F235 := Only.cell f222 F219 (fun hl => hl)
          clear F212 F213 F214 F215 F216 F217 F218 F219
          have sz236 := f222.size
          refine WL.e rfl rfl (ef_alloc Try.zeroValue60) ?_
          rintro _ w242 ⟨kb, hb_kb, rfl, f239, B240, z_kb⟩
          have F243 := Only.same F228 f239
          have F244 := Blk.same F229 f239
          have F245 := Row.same (by decide) F230 f239
          have F246 := Blk.same F231 f239
          have F247 := Row.same (by decide) F232 f239
          have F248 := Row.same (by decide) F233 f239
          have F249 := Row.same (by decide) F234 f239
          have F250 := Only.cell f239 F235 (fun hl => hl)
          have F251 := Blk.same B2227 f239
          have F252 := Own.same O2226 f239
          have F253 := Only.cell f239 C2225 (fun hl => hl)
          clear F228 F229 F230 F231 F232 F233 F234 F235
          have sz254 := f239.size
          refine WL.e rfl rfl (ef_store (b := kb) Try.sizeOf60 rfl rfl B240 rfl rfl rfl) ?_
          rintro _ w258 ⟨rfl, f255, B256, z257⟩
          have F259 := Only.trans F243 f255 (fun i hi hl => by have hl : i = _ := hl; omega)
          have F260 := Blk.only F244 f255 (by show ¬ (_ = _); omega)
          have F261 := Row.only (by decide) F245 f255 (fun k hk hok' hl => by have hl : k = _ := hl; have hok' : k < z1 := hok'; omega)
          have F262 := Blk.only F246 f255 (by show ¬ (_ = _); omega)
          have F263 := Row.only (by decide) F247 f255 (fun k hk hok' hl => by have hl : k = _ := hl; have hok' : k < z3 := hok'; omega)
          have F264 := Row.only (by decide) F248 f255 (fun k hk hok' hl => by have hl : k = _ := hl; have hok' : k < z3 := hok'; omega)
          have F265 := Row.only (by decide) F249 f255 (fun k hk hok' hl => by have hl : k = _ := hl; have hok' : k < z1 := hok'; omega)
          have F266 := Only.cell f255 F250 (fun hl => by have hl : hb = _ := hl; omega)
          have F267 := Blk.only F251 f255 (by show ¬ (_ = _); omega)
          have F268 := Own.only F252 f255 (fun k hk hok' hl => by have hl : k = kb := hl; omega)
          have F269 := Only.cell f255 F253 (fun hl => by have hl : g2 = _ := hl; omega)
          clear F243 F244 F245 F246 F247 F248 F249 F250 F251 F252 F253
          obtain ⟨adx2, hA0, hbx2, XE⟩ := ed_at F265 hx
          injection hA0 with hA0
          subst hA0
          have B270 : Blk w258 kb #[.int .u64 1, .slice Au2 10 cu2, .slice (some ⟨g2, 0, none⟩) 1 cap2] 60 := Blk.lit B256 rfl
          clear B256
          refine WL.done ?_
          refine NW.next ?_
          refine CW.seq ?_
          have fd271 : Same w258 w258.drew := Only.drew _ _
          obtain ⟨w272, hww272⟩ : ∃ wz, wz = w258.drew := ⟨_, rfl⟩
          rw [← hww272] at fd271
          have F273 := Only.same F259 fd271
          have F274 := Blk.same F260 fd271
          have F275 := Row.same (by decide) F261 fd271
          have F276 := Blk.same F262 fd271
          have F277 := Row.same (by decide) F263 fd271
          have F278 := Row.same (by decide) F264 fd271
          have F279 := Row.same (by decide) F265 fd271
          have F280 := Only.cell fd271 F266 (fun hl => hl)
          have F281 := Blk.same F267 fd271
          have F282 := Own.same F268 fd271
          have F283 := Only.cell fd271 F269 (fun hl => hl)
          have F284 := Blk.same B270 fd271
          have F285 := Seg.same XE fd271
          clear F259 F260 F261 F262 F263 F264 F265 F266 F267 F268 F269
          have sz286 := fd271.size
          refine CW.draw 16 [(0, true), (1, true), (2, true), (3, true), (4, true), (5, true), (6, true), (7, true), (8, true), (9, true), (10, true), (11, true), (12, true), (13, false), (14, false), (15, true), (16, false)] (fun w' => Blk w' tb _ _ ∧ Blk w' lb _ _ ∧ World.cell? w' ⟨hb, 0, none⟩ = some (.slice (some adx) E.length c0) ∧ World.cell? w' ⟨g2, 0, none⟩ = some (.slice A2 (E.eraseIdx i).length c2) ∧ Blk w' kb _ _ ∧ Seg w' (some (adx.add (i * 2))) [.int .i64 x.frm, .int .i64 x.to]) Try_mixed (by kernel_rfl) (fun _ _ _ _ h => h) hww272 ⟨F274, F276, F280, F283, F284, F285⟩ ?_
          refine PL.y rfl rfl rfl (fun w' hS => yi_fieldAddr Try.runUnderlying60 rfl Try.sizeOf58 rfl) ?_
          refine PL.y rfl rfl rfl (fun w' hS => yi_loadB Try.isAgg58 rfl hS.2.2.2.2.1 rfl) ?_
          refine PL.y rfl rfl rfl (fun w' hS => yi_fieldAddr Try.runUnderlying60 rfl Try.sizeOf58 rfl) ?_
          refine PL.y rfl rfl rfl (fun w' hS => yi_loadB Try.isAgg58 rfl hS.2.2.2.2.1 rfl) ?_
          refine PL.y rfl rfl rfl (fun w' hS => yi_indexAddr Try.runUnderlying58 Try.sizeOf83 rfl rfl (by omega) (by omega)) ?_
          refine PL.as_ (t := 115) (v' := .pointer (some ⟨g2, 0, none⟩)) rfl (rfl) ?_
          refine PL.y rfl rfl rfl (fun w' hS => yi_load1 Try.isAgg83 rfl hS.2.2.2.1) ?_
          refine PL.y rfl rfl rfl (fun w' hS => yi_fieldAddr Try.runUnderlying60 rfl Try.sizeOf58 rfl) ?_
          refine PL.y rfl rfl rfl (fun w' hS => yi_loadB Try.isAgg58 rfl hS.1 rfl) ?_
          refine PL.y rfl rfl rfl (fun w' hS => yi_indexAddr Try.runUnderlying58 Try.sizeOf83 rfl rfl (by omega) (by omega)) ?_
          refine PL.as_ (t := 119) (v' := .pointer (some ⟨hb, 0, none⟩)) rfl (rfl) ?_
          refine PL.y rfl rfl rfl (fun w' hS => yi_load1 Try.isAgg83 rfl hS.2.2.1) ?_
          refine PL.y rfl rfl rfl (fun w' hS => yi_move rfl) ?_
          refine PL.y rfl rfl rfl (fun w' hS => yi_indexAddr Try.runUnderlying83 Try.sizeOf86 rfl rfl (by omega) (by omega)) ?_
          refine PL.as_ (t := 122) (v' := .pointer (some (adx.add (i * 2)))) rfl (by rw [Int.toNat_natCast]) ?_
          refine PL.y rfl rfl rfl (fun w' hS => yi_loadA (cs := [.int .i64 x.frm, .int .i64 x.to]) Try.isAgg86 Try.sizeOf86 rfl rfl (Seg.get hS.2.2.2.2.2)) ?_
          refine PL.e rfl rfl rfl (ef_buildSlice Try.runUnderlying83 Try.sizeOf86 Try.zeroValue86 rfl (fun _ => by kernel_rfl)) ?_
          rintro _ w292 ⟨xb, hb_xb, rfl, f289, B290, z_xb⟩
          have F293 := Only.same F273 f289
          have F294 := Blk.same F274 f289
          have F295 := Row.same (by decide) F275 f289
          have F296 := Blk.same F276 f289
          have F297 := Row.same (by decide) F277 f289
          have F298 := Row.same (by decide) F278 f289
          have F299 := Row.same (by decide) F279 f289
          have F300 := Only.cell f289 F280 (fun hl => hl)
          have F301 := Blk.same F281 f289
          have F302 := Own.same F282 f289
          have F303 := Only.cell f289 F283 (fun hl => hl)
          have F304 := Blk.same F284 f289
          have F305 := Seg.same F285 f289
          clear F273 F274 F275 F276 F277 F278 F279 F280 F281 F282 F283 F284 F285
          have sz306 := f289.size
          refine ⟨fun _ => ⟨F294, F296, F300, F303, F304, F305⟩, ?_⟩
          have hone : Row dEd _ (fun k => k = xb) (some ⟨xb, 0, none⟩) [x] := Row.one B290 rfl (dEd_mk (e := x))
          have hownok := F302.ok
          refine PL.e rfl rfl rfl (ef_appendOwn (k := 1) dEd Try.runUnderlying83 (notInt Try.runUnderlying83) Try.typeInfo86 Try.zeroValue86 rfl rfl rfl rfl F302 rfl hone (fun k hk hok he => by have hok : k = xb := hok; have := hownok k he; omega) (by decide) (by omega) (by show ((E.eraseIdx i).length + 1) * 16 ≤ _; omega)) ?_
          rintro u9 w307 ⟨hO9, f308, hu9⟩
          obtain ⟨A9, c9, hv9, hc9, hm9, R9309, -⟩ := hO9.row (by decide)
          subst hv9
          have R9309 := Row.mono (ok' := fun k => y2 ≤ k ∧ k ≠ g2) (fun k hk => by rcases hk with (hk | hk) | hk <;> omega) R9309
          have F310 := Only.trans F293 f308 (fun i hi hl => by have := hownok i hl; omega)
          have F311 := Blk.only F294 f308 (fun hl => by have := hownok _ hl; omega)
          have F312 := Row.only (by decide) F295 f308 (fun k hk hok' hl => by have hok' : k < z1 := hok'; have := hownok k hl; omega)
          have F313 := Blk.only F296 f308 (fun hl => by have := hownok _ hl; omega)
          have F314 := Row.only (by decide) F297 f308 (fun k hk hok' hl => by have hok' : k < z3 := hok'; have := hownok k hl; omega)
          have F315 := Row.only (by decide) F298 f308 (fun k hk hok' hl => by have hok' : k < z3 := hok'; have := hownok k hl; omega)
          have F316 := Row.only (by decide) F299 f308 (fun k hk hok' hl => by have hok' : k < z1 := hok'; have := hownok k hl; omega)
          have F317 := Only.cell f308 F300 (fun hl => by have := hownok _ hl; omega)
          have F318 := Blk.only F301 f308 (fun hl => by have := hownok _ hl; omega)
          have F319 := Only.cell f308 F303 (fun hl => (hownok _ hl).1.2 rfl)
          have F320 := Blk.only F304 f308 (fun hl => by have := hownok _ hl; omega)
          have F321 := Seg.only F305 f308 (fun ad had hl => by injection had with had; rw [← had, Row.add_block] at hl; have := hownok _ hl; have hbx := (hbx : adx.block < z1); omega)
          clear F293 F294 F295 F296 F297 F298 F299 F300 F301 F303 F304 F305
          have sz322 := f308.size
          refine ⟨fun _ => ⟨F311, F313, F317, F319, F320, F321⟩, ?_⟩
          refine PL.y rfl rfl rfl (fun w' hS => yi_indexAddr Try.runUnderlying58 Try.sizeOf83 rfl rfl (by omega) (by omega)) ?_
          refine PL.as_ (t := 126) (v' := .pointer (some ⟨g2, 0, none⟩)) rfl (rfl) ?_
          refine PL.z rfl rfl rfl rfl rfl (ef_store (b := g2) Try.sizeOf83 rfl rfl F318 rfl (Nat.ble_eq_true_of_le (by show 0 + 1 ≤ _; omega)) rfl) ?_
          rintro _ w326 ⟨rfl, f323, B324, z325⟩
          have F327 := Only.trans F310 f323 (fun i hi hl => by have hl : i = _ := hl; omega)
          have F328 := Blk.only F311 f323 (by show ¬ (_ = _); omega)
          have F329 := Row.only (by decide) F312 f323 (fun k hk hok' hl => by have hl : k = _ := hl; have hok' : k < z1 := hok'; omega)
          have F330 := Blk.only F313 f323 (by show ¬ (_ = _); omega)
          have F331 := Row.only (by decide) F314 f323 (fun k hk hok' hl => by have hl : k = _ := hl; have hok' : k < z3 := hok'; omega)
          have F332 := Row.only (by decide) F315 f323 (fun k hk hok' hl => by have hl : k = _ := hl; have hok' : k < z3 := hok'; omega)
          have F333 := Row.only (by decide) F316 f323 (fun k hk hok' hl => by have hl : k = _ := hl; have hok' : k < z1 := hok'; omega)
          have F334 := Only.cell f323 F317 (fun hl => by have hl : hb = _ := hl; omega)
          have F335 := Blk.only F320 f323 (by show ¬ (_ = _); omega)
          have F336 := Row.only (by decide) R9309 f323 (fun k hk hok' hl => by have hl : k = g2 := hl; exact hok'.2 hl)
          clear F310 F311 F312 F313 F314 F315 F316 F317 F320
          obtain ⟨z5, hz5⟩ : ∃ z, z = w326.heap.size := ⟨_, rfl⟩
          have RK := Row.mono (ok' := fun k => k < z5) (fun k hk => by have := hk.2; omega) (Row.bound (by decide) (hop_row (ok := fun k => y2 ≤ k) B324 hsz2 hg2 ⟨A9, c9, rfl, hc9, hm9, Row.mono (fun k hk => hk.1) F336⟩))
          refine PL.done ?_
          refine NW.next ?_
          refine CW.seq ?_
          refine CW.region ?_
          refine WL.y rfl rfl (yi_loadW Try.isAgg60 Try.sizeOf60 rfl (by assumption) rfl) ?_
          refine WL.e rfl rfl (ef_call Try.call34 rfl (order_c (hop1 E) (some ⟨ub, 0, none⟩) (some ⟨hb, 0, none⟩) 10 1 _ _ F329 (Nat.le_refl 1) (by decide) 0 (fun k hk => by have hk : k < z1 := hk; omega) (by show E.length ≤ _; omega))) ?_
          rintro _ w337 ⟨vga, ea, rfl, f338, hresga⟩
          obtain ⟨Aga, cga, oga, rfl, RO339, hga⟩ : ∃ A c out, vga = .slice A out.length c ∧ Row dI w337 (fun k => w326.heap.size ≤ k) A out ∧ OrdR E ea out := by
              rcases hresga with ⟨out, h1, h2, h3⟩ | ⟨h1, h2, h3⟩
              · obtain ⟨A', c', h4, _, _, h5, _⟩ := h3.row (by decide)
                exact ⟨A', c', out, h4, h5, .inl ⟨h1, h2⟩⟩
              · exact ⟨none, 0, [], h3, Row.nil _ _ _ _, .inr ⟨h1, h2, rfl⟩⟩
          have hlga := ordR_len hga hE10
          have F340 := Only.same F327 f338
          have F341 := Blk.same F328 f338
          have F342 := Row.same (by decide) F329 f338
          have F343 := Blk.same F330 f338
          have F344 := Row.same (by decide) F331 f338
          have F345 := Row.same (by decide) F332 f338
          have F346 := Row.same (by decide) F333 f338
          have F347 := Only.cell f338 F334 (fun hl => hl)
          have F348 := Blk.same F335 f338
          have F349 := Row.same (by decide) F336 f338
          have F350 := Row.same (by decide) RK f338
          clear F327 F328 F329 F330 F331 F332 F333 F334 F335 F336
          have sz351 := f338.size
          refine WL.y rfl rfl (yi_move rfl) ?_
          refine WL.y rfl rfl (yi_extract rfl rfl) ?_
          refine WL.y rfl rfl (yi_extract rfl rfl) ?_
          refine WL.y rfl rfl (yi_assign rfl) ?_
          refine WL.y rfl rfl (yi_assign rfl) ?_
          refine WL.done ?_
          refine NW.next ?_
          refine CW.seq ?_
          refine CW.region ?_
          refine WL.y rfl rfl (yi_loadW Try.isAgg60 Try.sizeOf60 rfl (by assumption) rfl) ?_
          refine WL.e rfl rfl (ef_call Try.call34 rfl (order_c (hop1 (E.eraseIdx i ++ [x])) Au2 (some ⟨g2, 0, none⟩) cu2 cap2 _ _ F350 hcap2 hcam2 0 (fun k hk => by have hk : k < z5 := hk; omega) (by show (E.eraseIdx i ++ [x]).length ≤ _; omega))) ?_
          rintro _ w352 ⟨vgb, eb, rfl, f353, hresgb⟩
          obtain ⟨Agb, cgb, ogb, rfl, RO354, hgb⟩ : ∃ A c out, vgb = .slice A out.length c ∧ Row dI w352 (fun k => w337.heap.size ≤ k) A out ∧ OrdR (E.eraseIdx i ++ [x]) eb out := by
              rcases hresgb with ⟨out, h1, h2, h3⟩ | ⟨h1, h2, h3⟩
              · obtain ⟨A', c', h4, _, _, h5, _⟩ := h3.row (by decide)
                exact ⟨A', c', out, h4, h5, .inl ⟨h1, h2⟩⟩
              · exact ⟨none, 0, [], h3, Row.nil _ _ _ _, .inr ⟨h1, h2, rfl⟩⟩
          have hlgb := ordR_len hgb (fun y hy => hE10 y ((back_iff hx y).1 hy))
          have F355 := Only.same F340 f353
          have F356 := Blk.same F341 f353
          have F357 := Row.same (by decide) F342 f353
          have F358 := Blk.same F343 f353
          have F359 := Row.same (by decide) F344 f353
          have F360 := Row.same (by decide) F345 f353
          have F361 := Row.same (by decide) F346 f353
          have F362 := Only.cell f353 F347 (fun hl => hl)
          have F363 := Blk.same F348 f353
          have F364 := Row.same (by decide) F349 f353
          have F365 := Row.same (by decide) F350 f353
          have F366 := Row.same (by decide) RO339 f353
          clear F340 F341 F342 F343 F344 F345 F346 F347 F348 F349 F350
          have sz367 := f353.size
          obtain ⟨z6, hz6⟩ : ∃ z, z = w352.heap.size := ⟨_, rfl⟩
          have N1368 := Row.mono (ok' := fun k => k < z6) (fun k hk => by rw [hz6]; exact hk.2) (Row.bound (by decide) F366)
          have N2369 := Row.mono (ok' := fun k => k < z6) (fun k hk => by rw [hz6]; exact hk.2) (Row.bound (by decide) RO354)
          refine WL.y rfl rfl (yi_move rfl) ?_
          refine WL.y rfl rfl (yi_extract rfl rfl) ?_
          refine WL.y rfl rfl (yi_extract rfl rfl) ?_
          refine WL.y rfl rfl (yi_assign rfl) ?_
          refine WL.y rfl rfl (yi_assign rfl) ?_
          refine WL.done ?_
          refine NW.next ?_
          refine CW.seq ?_
          refine CW.seq ?_
          refine CW.region ?_
          refine WL.y rfl rfl (yi_assign rfl) ?_
          refine WL.done ?_
          refine NW.next ?_
          refine CW.block ?_
          refine CW.loop (fun mm a w' => ∃ n : Nat, mm = 10 - n ∧ n ≤ 10 ∧ Same w w' ∧ Blk w' tb #[.int .u64 1, .slice (some ⟨ub, 0, none⟩) 10 10, .slice (some ⟨hb, 0, none⟩) 1 1] 60 ∧ Row dEds w' (fun k => k < z1) (some ⟨hb, 0, none⟩) [E] ∧ Blk w' kb #[.int .u64 1, .slice Au2 10 cu2, .slice (some ⟨g2, 0, none⟩) 1 cap2] 60 ∧ Row dEds w' (fun k => k < z5) (some ⟨g2, 0, none⟩) [E.eraseIdx i ++ [x]] ∧ Row dI w' (fun k => k < z6) Aga oga ∧ Row dI w' (fun k => k < z6) Agb ogb ∧ z5 ≤ w'.heap.size ∧ z6 ≤ w'.heap.size ∧ Env 160 [] [(5, .pointer (some ⟨tb, 0, none⟩)), (16, .pointer (some ⟨kb, 0, none⟩)), (13, .int .i64 ea), (15, .int .i64 eb), (17, .slice Aga oga.length cga), (18, .slice Agb ogb.length cgb), (19, .int .i64 n)] a) (10) ?_ ?_
          · exact fun a ha => ⟨0, rfl, by omega, F355, F356, F357, F363, F365, N1368, N2369, (by omega), (by omega), ha.sub ⟨rfl, rfl, rfl, rfl, rfl, rfl, rfl, trivial⟩⟩
          · rintro mm a w370 ⟨n, rfl, hnn, fr, TB, RH, KB, RK, RA, RB, hz5, hz6, ha⟩
            refine CW.at ha ?_
            refine CW.seq ?_
            refine CW.seq ?_
            refine CW.region ?_
            refine WL.y rfl rfl (yi_move rfl) ?_
            refine WL.y rfl rfl (yi_lss rfl rfl) ?_
            refine WL.done ?_
            refine NW.next ?_
            refine CW.cond rfl (fun q_D => ?_) (fun q_D => ?_)
            · try replace q_D := of_decide_eq_true q_D
              refine CW.skip ?_
              refine NW.next ?_
              refine CW.seq ?_
              refine CW.block ?_
              refine CW.seq ?_
              have fd371 : Same w370 w370.drew := Only.drew _ _
              obtain ⟨w372, hww372⟩ : ∃ wz, wz = w370.drew := ⟨_, rfl⟩
              rw [← hww372] at fd371
              have F373 := Only.same fr fd371
              have F374 := Blk.same TB fd371
              have F375 := Row.same (by decide) RH fd371
              have F376 := Blk.same KB fd371
              have F377 := Row.same (by decide) RK fd371
              have F378 := Row.same (by decide) RA fd371
              have F379 := Row.same (by decide) RB fd371
              have sz380 := fd371.size
              refine CW.draw 6 [(0, true), (1, true), (3, true), (4, true), (2, false), (5, false), (6, false), (7, false)] (fun w' => Blk w' tb _ _ ∧ Blk w' kb _ _) Try_mixed (by kernel_rfl) (fun _ _ _ _ h => h) hww372 ⟨F374, F376⟩ ?_
              refine PL.y rfl rfl rfl (fun w' hS => by first | exact yi_loadW Try.isAgg60 Try.sizeOf60 rfl hS.1 rfl | exact yi_loadW Try.isAgg60 Try.sizeOf60 rfl hS.2 rfl) ?_
              refine PL.y rfl rfl rfl (fun w' hS => yi_move rfl) ?_
              refine PL.y rfl rfl rfl (fun w' hS => by first | exact yi_loadW Try.isAgg60 Try.sizeOf60 rfl hS.1 rfl | exact yi_loadW Try.isAgg60 Try.sizeOf60 rfl hS.2 rfl) ?_
              refine PL.y rfl rfl rfl (fun w' hS => yi_move rfl) ?_
              refine PL.e rfl rfl rfl (ef_call Try.call36 rfl (reach_c (hop1 (E.eraseIdx i ++ [x])) Au2 (some ⟨g2, 0, none⟩) cu2 cap2 _ _ F377 hcap2 hcam2 0 n (fun k hk => by have hk : k < z5 := hk; omega) (by show (E.eraseIdx i ++ [x]).length ≤ _; omega))) ?_
              rintro u_s w381 ⟨ss, hO383, hs1, hs2, f382⟩
              have hls := zs_len (m := 40) hs1 hs2 (by show (E.eraseIdx i ++ [x]).length ≤ 40; omega)
              obtain ⟨As, cs, hv384, hc385, hm386, RR387, -⟩ := hO383.row (by decide)
              subst hv384
              have F388 := Only.same F373 f382
              have F389 := Blk.same F374 f382
              have F390 := Row.same (by decide) F375 f382
              have F391 := Blk.same F376 f382
              have F392 := Row.same (by decide) F377 f382
              have F393 := Row.same (by decide) F378 f382
              have F394 := Row.same (by decide) F379 f382
              clear F373 F374 F375 F376 F377 F378 F379
              have sz395 := f382.size
              refine ⟨fun _ => ⟨F389, F391⟩, ?_⟩
              refine PL.e rfl rfl rfl (ef_call Try.call36 rfl (reach_c (hop1 E) (some ⟨ub, 0, none⟩) (some ⟨hb, 0, none⟩) 10 1 _ _ F390 (Nat.le_refl 1) (by decide) 0 n (fun k hk => by have hk : k < z1 := hk; omega) (by show E.length ≤ _; omega))) ?_
              rintro u_t w396 ⟨ts, hO398, ht1, ht2, f397⟩
              have hlt := zs_len ht1 ht2 hEl
              obtain ⟨At, ct, hv399, hc400, hm401, RR402, -⟩ := hO398.row (by decide)
              subst hv399
              have F403 := Only.same F388 f397
              have F404 := Blk.same F389 f397
              have F405 := Row.same (by decide) F390 f397
              have F406 := Blk.same F391 f397
              have F407 := Row.same (by decide) F392 f397
              have F408 := Row.same (by decide) F393 f397
              have F409 := Row.same (by decide) F394 f397
              have F410 := Row.same (by decide) RR387 f397
              clear F388 F389 F390 F391 F392 F393 F394
              have sz411 := f397.size
              refine ⟨fun _ => ⟨F404, F406⟩, ?_⟩
              refine PL.z rfl rfl rfl rfl rfl (ef_call Try.call42 rfl (refSame_c As At cs ct ss ts _ _ _ F410 RR402 (by omega) (by omega))) ?_
              rintro _ w412 ⟨rfl, f413⟩
              have F414 := Only.same F403 f413
              have F415 := Blk.same F404 f413
              have F416 := Row.same (by decide) F405 f413
              have F417 := Blk.same F406 f413
              have F418 := Row.same (by decide) F407 f413
              have F419 := Row.same (by decide) F408 f413
              have F420 := Row.same (by decide) F409 f413
              have F421 := Row.same (by decide) F410 f413
              have F422 := Row.same (by decide) RR402 f413
              clear F403 F404 F405 F406 F407 F408 F409 F410
              have sz423 := f413.size
              refine PL.as_ (t := 147) (v' := .bool true) rfl (congrArg Value.bool (decide_eq_true (reach_same (back_iff hx) hs1 hs2 ht1 ht2))) ?_
              refine PL.zy rfl rfl rfl rfl rfl (yi_not rfl) ?_
              refine PL.as_ (t := 148) (v' := .bool false) rfl (rfl) ?_
              refine PL.done ?_
              refine NW.next ?_
              refine CW.condF rfl ?_
              refine CW.skip ?_
              refine NW.blockEnd ?_
              refine NW.next ?_
              refine CW.region ?_
              refine WL.y rfl rfl (yi_move rfl) ?_
              refine WL.y rfl rfl (yi_addI rfl rfl (by omega) (by omega)) ?_
              refine WL.as_ (t := 140) (v' := .int .i64 ((n + 1 : Nat) : Int)) rfl (congrArg (Value.int .i64) (by omega)) ?_
              refine WL.y rfl rfl (yi_assign rfl) ?_
              refine WL.done ?_
              refine NW.round (10 - (n + 1)) (by omega) ?_
              exact fun a ha => ⟨n + 1, rfl, by omega, F414, F415, F416, F417, F418, F419, F420, (by omega), (by omega), ha.sub ⟨rfl, rfl, rfl, rfl, rfl, rfl, rfl, trivial⟩⟩
            · try replace q_D := of_decide_eq_false q_D
              refine CW.exit ?_
              refine NW.thenExit ?_
              refine NW.thenExit ?_
              refine NW.blockHit ?_
              refine NW.next ?_
              refine CW.seq ?_
              refine CW.region ?_
              refine WL.y rfl rfl (yi_move rfl) ?_
              refine WL.y rfl rfl (yi_move rfl) ?_
              refine WL.y rfl rfl (yi_eql rfl rfl) ?_
              refine WL.as_ (t := 151) (v' := .bool true) rfl (congrArg Value.bool (decide_eq_true (ordR_same (back_iff hx) hgb hga).1.symm)) ?_
              refine WL.y rfl rfl (yi_move rfl) ?_
              refine WL.as_ (t := 152) (v' := .bool true) rfl (rfl) ?_
              refine WL.gy rfl rfl rfl rfl rfl (yi_move rfl) ?_
              refine WL.gy rfl rfl rfl rfl rfl (yi_move rfl) ?_
              refine WL.ge rfl rfl rfl rfl rfl (ef_call Try.call42 rfl (refSame_c Aga Agb cga cgb oga ogb _ _ _ RA RB (by omega) (by omega))) ?_
              rintro _ w424 ⟨rfl, f425⟩
              have F426 := Only.same fr f425
              have F427 := Blk.same TB f425
              have F428 := Row.same (by decide) RH f425
              have F429 := Blk.same KB f425
              have F430 := Row.same (by decide) RK f425
              have F431 := Row.same (by decide) RA f425
              have F432 := Row.same (by decide) RB f425
              have sz433 := f425.size
              refine WL.as_ (t := 155) (v' := .bool true) rfl (congrArg Value.bool (decide_eq_true (ordR_same (back_iff hx) hgb hga).2.symm)) ?_
              refine WL.y rfl rfl (yi_pickT rfl rfl) ?_
              refine WL.as_ (t := 156) (v' := .bool true) rfl (rfl) ?_
              refine WL.y rfl rfl (yi_move rfl) ?_
              refine WL.as_ (t := 157) (v' := .bool true) rfl (rfl) ?_
              refine WL.ge rfl rfl rfl rfl rfl (ef_call Try.call37 rfl (twakes_c _)) ?_
              rintro _ w434 ⟨rfl, f435⟩
              have F436 := Only.same F426 f435
              have F437 := Blk.same F427 f435
              have F438 := Row.same (by decide) F428 f435
              have F439 := Blk.same F429 f435
              have F440 := Row.same (by decide) F430 f435
              have F441 := Row.same (by decide) F431 f435
              have F442 := Row.same (by decide) F432 f435
              clear F426 F427 F428 F429 F430 F431 F432
              have sz443 := f435.size
              refine WL.y rfl rfl (yi_pickT rfl rfl) ?_
              refine WL.y rfl rfl (yi_assign rfl) ?_
              refine WL.done ?_
              refine NW.next ?_
              refine CW.ret ?_
              refine NW.ret1 rfl rfl ?_
              exact ⟨_, rfl, rfl, F436⟩
        · try replace q_AF := of_decide_eq_false q_AF
          refine WL.no rfl rfl rfl rfl rfl rfl ?_
          refine WL.no rfl rfl rfl rfl rfl rfl ?_
          refine WL.y rfl rfl (yi_pickF rfl rfl) ?_
          refine WL.as_ (t := 108) (v' := .bool false) rfl (rfl) ?_
          refine WL.done ?_
          refine NW.next ?_
          refine CW.condF rfl ?_
          refine CW.skip ?_
          refine NW.next ?_
          refine CW.seq ?_
          refine CW.region ?_
          refine WL.y rfl rfl (yi_loadW Try.isAgg60 Try.sizeOf60 rfl (by assumption) rfl) ?_
          obtain ⟨y2, hy2⟩ : ∃ z, z = w209.heap.size := ⟨_, rfl⟩
          refine WL.e rfl rfl (ef_call Try.call41 rfl (copy_c (hop1 (E.eraseIdx i)) Au1 (some ⟨g1, 0, none⟩) cu1 cap1 (fun k => k < z3) _ F217 F216 (fun k hk => by have hk : k < z3 := hk; omega) (by simp [hop1]) (by simp [hop1]) (hop1_all (by omega)) (by simp [hop1]))) ?_
          rintro _ w444 ⟨Au2, cu2, g2, cap2, rfl, hcu2, hcum2, RU446, hg2, SL447, f445⟩
          rw [← hy2] at RU446 SL447 hg2
          obtain ⟨w2v, C2448, hK2⟩ := SL447.cell (i := 0) (x := E.eraseIdx i) rfl
          obtain ⟨v2, hv2, O2449⟩ := hK2
          injection hv2 with hv2
          subst hv2
          have O2449 := O2449.bound
          obtain ⟨A2, c2, hv2, hc2, hm2, -, -⟩ := O2449.row (by decide)
          subst hv2
          have hg2l := SL447.lt
          obtain ⟨cs2, rest2, hcs2, hrest2, hcap2, hcam2, B2450, -⟩ := SL447
          have hcs2 : cs2.length = 1 := hcs2
          have hsz2 : 0 < (cs2 ++ rest2).toArray.size := by simp; omega
          have hcap2 : 1 ≤ cap2 := hcap2
          obtain ⟨q2, hq2⟩ : ∃ q, q = (cs2 ++ rest2).toArray := ⟨_, rfl⟩
          rw [← hq2] at B2450 hsz2
          have F451 := Only.same F212 f445
          have F452 := Blk.same F213 f445
          have F453 := Row.same (by decide) F214 f445
          have F454 := Blk.same F215 f445
          have F455 := Row.same (by decide) F216 f445
          have F456 := Row.same (by decide) F217 f445
          have F457 := Row.same (by decide) F218 f445
          have F458 := Only.cell f445 F219 (fun hl => hl)
          clear F212 F213 F214 F215 F216 F217 F218 F219
          have sz459 := f445.size
          refine WL.e rfl rfl (ef_alloc Try.zeroValue60) ?_
          rintro _ w465 ⟨kb, hb_kb, rfl, f462, B463, z_kb⟩
          have F466 := Only.same F451 f462
          have F467 := Blk.same F452 f462
          have F468 := Row.same (by decide) F453 f462
          have F469 := Blk.same F454 f462
          have F470 := Row.same (by decide) F455 f462
          have F471 := Row.same (by decide) F456 f462
          have F472 := Row.same (by decide) F457 f462
          have F473 := Only.cell f462 F458 (fun hl => hl)
          have F474 := Blk.same B2450 f462
          have F475 := Own.same O2449 f462
          have F476 := Only.cell f462 C2448 (fun hl => hl)
          clear F451 F452 F453 F454 F455 F456 F457 F458
          have sz477 := f462.size
          refine WL.e rfl rfl (ef_store (b := kb) Try.sizeOf60 rfl rfl B463 rfl rfl rfl) ?_
          rintro _ w481 ⟨rfl, f478, B479, z480⟩
          have F482 := Only.trans F466 f478 (fun i hi hl => by have hl : i = _ := hl; omega)
          have F483 := Blk.only F467 f478 (by show ¬ (_ = _); omega)
          have F484 := Row.only (by decide) F468 f478 (fun k hk hok' hl => by have hl : k = _ := hl; have hok' : k < z1 := hok'; omega)
          have F485 := Blk.only F469 f478 (by show ¬ (_ = _); omega)
          have F486 := Row.only (by decide) F470 f478 (fun k hk hok' hl => by have hl : k = _ := hl; have hok' : k < z3 := hok'; omega)
          have F487 := Row.only (by decide) F471 f478 (fun k hk hok' hl => by have hl : k = _ := hl; have hok' : k < z3 := hok'; omega)
          have F488 := Row.only (by decide) F472 f478 (fun k hk hok' hl => by have hl : k = _ := hl; have hok' : k < z1 := hok'; omega)
          have F489 := Only.cell f478 F473 (fun hl => by have hl : hb = _ := hl; omega)
          have F490 := Blk.only F474 f478 (by show ¬ (_ = _); omega)
          have F491 := Own.only F475 f478 (fun k hk hok' hl => by have hl : k = kb := hl; omega)
          have F492 := Only.cell f478 F476 (fun hl => by have hl : g2 = _ := hl; omega)
          clear F466 F467 F468 F469 F470 F471 F472 F473 F474 F475 F476
          obtain ⟨adx2, hA0, hbx2, XE⟩ := ed_at F488 hx
          injection hA0 with hA0
          subst hA0
          have B493 : Blk w481 kb #[.int .u64 1, .slice Au2 10 cu2, .slice (some ⟨g2, 0, none⟩) 1 cap2] 60 := Blk.lit B479 rfl
          clear B479
          refine WL.done ?_
          refine NW.next ?_
          refine CW.seq ?_
          have fd494 : Same w481 w481.drew := Only.drew _ _
          obtain ⟨w495, hww495⟩ : ∃ wz, wz = w481.drew := ⟨_, rfl⟩
          rw [← hww495] at fd494
          have F496 := Only.same F482 fd494
          have F497 := Blk.same F483 fd494
          have F498 := Row.same (by decide) F484 fd494
          have F499 := Blk.same F485 fd494
          have F500 := Row.same (by decide) F486 fd494
          have F501 := Row.same (by decide) F487 fd494
          have F502 := Row.same (by decide) F488 fd494
          have F503 := Only.cell fd494 F489 (fun hl => hl)
          have F504 := Blk.same F490 fd494
          have F505 := Own.same F491 fd494
          have F506 := Only.cell fd494 F492 (fun hl => hl)
          have F507 := Blk.same B493 fd494
          have F508 := Seg.same XE fd494
          clear F482 F483 F484 F485 F486 F487 F488 F489 F490 F491 F492
          have sz509 := fd494.size
          refine CW.draw 16 [(0, true), (1, true), (2, true), (3, true), (4, true), (5, true), (6, true), (7, true), (8, true), (9, true), (10, true), (11, true), (12, true), (13, false), (14, false), (15, true), (16, false)] (fun w' => Blk w' tb _ _ ∧ Blk w' lb _ _ ∧ World.cell? w' ⟨hb, 0, none⟩ = some (.slice (some adx) E.length c0) ∧ World.cell? w' ⟨g2, 0, none⟩ = some (.slice A2 (E.eraseIdx i).length c2) ∧ Blk w' kb _ _ ∧ Seg w' (some (adx.add (i * 2))) [.int .i64 x.frm, .int .i64 x.to]) Try_mixed (by kernel_rfl) (fun _ _ _ _ h => h) hww495 ⟨F497, F499, F503, F506, F507, F508⟩ ?_
          refine PL.y rfl rfl rfl (fun w' hS => yi_fieldAddr Try.runUnderlying60 rfl Try.sizeOf58 rfl) ?_
          refine PL.y rfl rfl rfl (fun w' hS => yi_loadB Try.isAgg58 rfl hS.2.2.2.2.1 rfl) ?_
          refine PL.y rfl rfl rfl (fun w' hS => yi_fieldAddr Try.runUnderlying60 rfl Try.sizeOf58 rfl) ?_
          refine PL.y rfl rfl rfl (fun w' hS => yi_loadB Try.isAgg58 rfl hS.2.2.2.2.1 rfl) ?_
          refine PL.y rfl rfl rfl (fun w' hS => yi_indexAddr Try.runUnderlying58 Try.sizeOf83 rfl rfl (by omega) (by omega)) ?_
          refine PL.as_ (t := 115) (v' := .pointer (some ⟨g2, 0, none⟩)) rfl (rfl) ?_
          refine PL.y rfl rfl rfl (fun w' hS => yi_load1 Try.isAgg83 rfl hS.2.2.2.1) ?_
          refine PL.y rfl rfl rfl (fun w' hS => yi_fieldAddr Try.runUnderlying60 rfl Try.sizeOf58 rfl) ?_
          refine PL.y rfl rfl rfl (fun w' hS => yi_loadB Try.isAgg58 rfl hS.1 rfl) ?_
          refine PL.y rfl rfl rfl (fun w' hS => yi_indexAddr Try.runUnderlying58 Try.sizeOf83 rfl rfl (by omega) (by omega)) ?_
          refine PL.as_ (t := 119) (v' := .pointer (some ⟨hb, 0, none⟩)) rfl (rfl) ?_
          refine PL.y rfl rfl rfl (fun w' hS => yi_load1 Try.isAgg83 rfl hS.2.2.1) ?_
          refine PL.y rfl rfl rfl (fun w' hS => yi_move rfl) ?_
          refine PL.y rfl rfl rfl (fun w' hS => yi_indexAddr Try.runUnderlying83 Try.sizeOf86 rfl rfl (by omega) (by omega)) ?_
          refine PL.as_ (t := 122) (v' := .pointer (some (adx.add (i * 2)))) rfl (by rw [Int.toNat_natCast]) ?_
          refine PL.y rfl rfl rfl (fun w' hS => yi_loadA (cs := [.int .i64 x.frm, .int .i64 x.to]) Try.isAgg86 Try.sizeOf86 rfl rfl (Seg.get hS.2.2.2.2.2)) ?_
          refine PL.e rfl rfl rfl (ef_buildSlice Try.runUnderlying83 Try.sizeOf86 Try.zeroValue86 rfl (fun _ => by kernel_rfl)) ?_
          rintro _ w515 ⟨xb, hb_xb, rfl, f512, B513, z_xb⟩
          have F516 := Only.same F496 f512
          have F517 := Blk.same F497 f512
          have F518 := Row.same (by decide) F498 f512
          have F519 := Blk.same F499 f512
          have F520 := Row.same (by decide) F500 f512
          have F521 := Row.same (by decide) F501 f512
          have F522 := Row.same (by decide) F502 f512
          have F523 := Only.cell f512 F503 (fun hl => hl)
          have F524 := Blk.same F504 f512
          have F525 := Own.same F505 f512
          have F526 := Only.cell f512 F506 (fun hl => hl)
          have F527 := Blk.same F507 f512
          have F528 := Seg.same F508 f512
          clear F496 F497 F498 F499 F500 F501 F502 F503 F504 F505 F506 F507 F508
          have sz529 := f512.size
          refine ⟨fun _ => ⟨F517, F519, F523, F526, F527, F528⟩, ?_⟩
          have hone : Row dEd _ (fun k => k = xb) (some ⟨xb, 0, none⟩) [x] := Row.one B513 rfl (dEd_mk (e := x))
          have hownok := F525.ok
          refine PL.e rfl rfl rfl (ef_appendOwn (k := 1) dEd Try.runUnderlying83 (notInt Try.runUnderlying83) Try.typeInfo86 Try.zeroValue86 rfl rfl rfl rfl F525 rfl hone (fun k hk hok he => by have hok : k = xb := hok; have := hownok k he; omega) (by decide) (by omega) (by show ((E.eraseIdx i).length + 1) * 16 ≤ _; omega)) ?_
          rintro u9 w530 ⟨hO9, f531, hu9⟩
          obtain ⟨A9, c9, hv9, hc9, hm9, R9532, -⟩ := hO9.row (by decide)
          subst hv9
          have R9532 := Row.mono (ok' := fun k => y2 ≤ k ∧ k ≠ g2) (fun k hk => by rcases hk with (hk | hk) | hk <;> omega) R9532
          have F533 := Only.trans F516 f531 (fun i hi hl => by have := hownok i hl; omega)
          have F534 := Blk.only F517 f531 (fun hl => by have := hownok _ hl; omega)
          have F535 := Row.only (by decide) F518 f531 (fun k hk hok' hl => by have hok' : k < z1 := hok'; have := hownok k hl; omega)
          have F536 := Blk.only F519 f531 (fun hl => by have := hownok _ hl; omega)
          have F537 := Row.only (by decide) F520 f531 (fun k hk hok' hl => by have hok' : k < z3 := hok'; have := hownok k hl; omega)
          have F538 := Row.only (by decide) F521 f531 (fun k hk hok' hl => by have hok' : k < z3 := hok'; have := hownok k hl; omega)
          have F539 := Row.only (by decide) F522 f531 (fun k hk hok' hl => by have hok' : k < z1 := hok'; have := hownok k hl; omega)
          have F540 := Only.cell f531 F523 (fun hl => by have := hownok _ hl; omega)
          have F541 := Blk.only F524 f531 (fun hl => by have := hownok _ hl; omega)
          have F542 := Only.cell f531 F526 (fun hl => (hownok _ hl).1.2 rfl)
          have F543 := Blk.only F527 f531 (fun hl => by have := hownok _ hl; omega)
          have F544 := Seg.only F528 f531 (fun ad had hl => by injection had with had; rw [← had, Row.add_block] at hl; have := hownok _ hl; have hbx := (hbx : adx.block < z1); omega)
          clear F516 F517 F518 F519 F520 F521 F522 F523 F524 F526 F527 F528
          have sz545 := f531.size
          refine ⟨fun _ => ⟨F534, F536, F540, F542, F543, F544⟩, ?_⟩
          refine PL.y rfl rfl rfl (fun w' hS => yi_indexAddr Try.runUnderlying58 Try.sizeOf83 rfl rfl (by omega) (by omega)) ?_
          refine PL.as_ (t := 126) (v' := .pointer (some ⟨g2, 0, none⟩)) rfl (rfl) ?_
          refine PL.z rfl rfl rfl rfl rfl (ef_store (b := g2) Try.sizeOf83 rfl rfl F541 rfl (Nat.ble_eq_true_of_le (by show 0 + 1 ≤ _; omega)) rfl) ?_
          rintro _ w549 ⟨rfl, f546, B547, z548⟩
          have F550 := Only.trans F533 f546 (fun i hi hl => by have hl : i = _ := hl; omega)
          have F551 := Blk.only F534 f546 (by show ¬ (_ = _); omega)
          have F552 := Row.only (by decide) F535 f546 (fun k hk hok' hl => by have hl : k = _ := hl; have hok' : k < z1 := hok'; omega)
          have F553 := Blk.only F536 f546 (by show ¬ (_ = _); omega)
          have F554 := Row.only (by decide) F537 f546 (fun k hk hok' hl => by have hl : k = _ := hl; have hok' : k < z3 := hok'; omega)
          have F555 := Row.only (by decide) F538 f546 (fun k hk hok' hl => by have hl : k = _ := hl; have hok' : k < z3 := hok'; omega)
          have F556 := Row.only (by decide) F539 f546 (fun k hk hok' hl => by have hl : k = _ := hl; have hok' : k < z1 := hok'; omega)
          have F557 := Only.cell f546 F540 (fun hl => by have hl : hb = _ := hl; omega)
          have F558 := Blk.only F543 f546 (by show ¬ (_ = _); omega)
          have F559 := Row.only (by decide) R9532 f546 (fun k hk hok' hl => by have hl : k = g2 := hl; exact hok'.2 hl)
          clear F533 F534 F535 F536 F537 F538 F539 F540 F543
          obtain ⟨z5, hz5⟩ : ∃ z, z = w549.heap.size := ⟨_, rfl⟩
          have RK := Row.mono (ok' := fun k => k < z5) (fun k hk => by have := hk.2; omega) (Row.bound (by decide) (hop_row (ok := fun k => y2 ≤ k) B547 hsz2 hg2 ⟨A9, c9, rfl, hc9, hm9, Row.mono (fun k hk => hk.1) F559⟩))
          refine PL.done ?_
          refine NW.next ?_
          refine CW.seq ?_
          refine CW.region ?_
          refine WL.y rfl rfl (yi_loadW Try.isAgg60 Try.sizeOf60 rfl (by assumption) rfl) ?_
          refine WL.e rfl rfl (ef_call Try.call34 rfl (order_c (hop1 E) (some ⟨ub, 0, none⟩) (some ⟨hb, 0, none⟩) 10 1 _ _ F552 (Nat.le_refl 1) (by decide) 0 (fun k hk => by have hk : k < z1 := hk; omega) (by show E.length ≤ _; omega))) ?_
          rintro _ w560 ⟨vga, ea, rfl, f561, hresga⟩
          obtain ⟨Aga, cga, oga, rfl, RO562, hga⟩ : ∃ A c out, vga = .slice A out.length c ∧ Row dI w560 (fun k => w549.heap.size ≤ k) A out ∧ OrdR E ea out := by
              rcases hresga with ⟨out, h1, h2, h3⟩ | ⟨h1, h2, h3⟩
              · obtain ⟨A', c', h4, _, _, h5, _⟩ := h3.row (by decide)
                exact ⟨A', c', out, h4, h5, .inl ⟨h1, h2⟩⟩
              · exact ⟨none, 0, [], h3, Row.nil _ _ _ _, .inr ⟨h1, h2, rfl⟩⟩
          have hlga := ordR_len hga hE10
          have F563 := Only.same F550 f561
          have F564 := Blk.same F551 f561
          have F565 := Row.same (by decide) F552 f561
          have F566 := Blk.same F553 f561
          have F567 := Row.same (by decide) F554 f561
          have F568 := Row.same (by decide) F555 f561
          have F569 := Row.same (by decide) F556 f561
          have F570 := Only.cell f561 F557 (fun hl => hl)
          have F571 := Blk.same F558 f561
          have F572 := Row.same (by decide) F559 f561
          have F573 := Row.same (by decide) RK f561
          clear F550 F551 F552 F553 F554 F555 F556 F557 F558 F559
          have sz574 := f561.size
          refine WL.y rfl rfl (yi_move rfl) ?_
          refine WL.y rfl rfl (yi_extract rfl rfl) ?_
          refine WL.y rfl rfl (yi_extract rfl rfl) ?_
          refine WL.y rfl rfl (yi_assign rfl) ?_
          refine WL.y rfl rfl (yi_assign rfl) ?_
          refine WL.done ?_
          refine NW.next ?_
          refine CW.seq ?_
          refine CW.region ?_
          refine WL.y rfl rfl (yi_loadW Try.isAgg60 Try.sizeOf60 rfl (by assumption) rfl) ?_
          refine WL.e rfl rfl (ef_call Try.call34 rfl (order_c (hop1 (E.eraseIdx i ++ [x])) Au2 (some ⟨g2, 0, none⟩) cu2 cap2 _ _ F573 hcap2 hcam2 0 (fun k hk => by have hk : k < z5 := hk; omega) (by show (E.eraseIdx i ++ [x]).length ≤ _; omega))) ?_
          rintro _ w575 ⟨vgb, eb, rfl, f576, hresgb⟩
          obtain ⟨Agb, cgb, ogb, rfl, RO577, hgb⟩ : ∃ A c out, vgb = .slice A out.length c ∧ Row dI w575 (fun k => w560.heap.size ≤ k) A out ∧ OrdR (E.eraseIdx i ++ [x]) eb out := by
              rcases hresgb with ⟨out, h1, h2, h3⟩ | ⟨h1, h2, h3⟩
              · obtain ⟨A', c', h4, _, _, h5, _⟩ := h3.row (by decide)
                exact ⟨A', c', out, h4, h5, .inl ⟨h1, h2⟩⟩
              · exact ⟨none, 0, [], h3, Row.nil _ _ _ _, .inr ⟨h1, h2, rfl⟩⟩
          have hlgb := ordR_len hgb (fun y hy => hE10 y ((back_iff hx y).1 hy))
          have F578 := Only.same F563 f576
          have F579 := Blk.same F564 f576
          have F580 := Row.same (by decide) F565 f576
          have F581 := Blk.same F566 f576
          have F582 := Row.same (by decide) F567 f576
          have F583 := Row.same (by decide) F568 f576
          have F584 := Row.same (by decide) F569 f576
          have F585 := Only.cell f576 F570 (fun hl => hl)
          have F586 := Blk.same F571 f576
          have F587 := Row.same (by decide) F572 f576
          have F588 := Row.same (by decide) F573 f576
          have F589 := Row.same (by decide) RO562 f576
          clear F563 F564 F565 F566 F567 F568 F569 F570 F571 F572 F573
          have sz590 := f576.size
          obtain ⟨z6, hz6⟩ : ∃ z, z = w575.heap.size := ⟨_, rfl⟩
          have N1591 := Row.mono (ok' := fun k => k < z6) (fun k hk => by rw [hz6]; exact hk.2) (Row.bound (by decide) F589)
          have N2592 := Row.mono (ok' := fun k => k < z6) (fun k hk => by rw [hz6]; exact hk.2) (Row.bound (by decide) RO577)
          refine WL.y rfl rfl (yi_move rfl) ?_
          refine WL.y rfl rfl (yi_extract rfl rfl) ?_
          refine WL.y rfl rfl (yi_extract rfl rfl) ?_
          refine WL.y rfl rfl (yi_assign rfl) ?_
          refine WL.y rfl rfl (yi_assign rfl) ?_
          refine WL.done ?_
          refine NW.next ?_
          refine CW.seq ?_
          refine CW.seq ?_
          refine CW.region ?_
          refine WL.y rfl rfl (yi_assign rfl) ?_
          refine WL.done ?_
          refine NW.next ?_
          refine CW.block ?_
          refine CW.loop (fun mm a w' => ∃ n : Nat, mm = 10 - n ∧ n ≤ 10 ∧ Same w w' ∧ Blk w' tb #[.int .u64 1, .slice (some ⟨ub, 0, none⟩) 10 10, .slice (some ⟨hb, 0, none⟩) 1 1] 60 ∧ Row dEds w' (fun k => k < z1) (some ⟨hb, 0, none⟩) [E] ∧ Blk w' kb #[.int .u64 1, .slice Au2 10 cu2, .slice (some ⟨g2, 0, none⟩) 1 cap2] 60 ∧ Row dEds w' (fun k => k < z5) (some ⟨g2, 0, none⟩) [E.eraseIdx i ++ [x]] ∧ Row dI w' (fun k => k < z6) Aga oga ∧ Row dI w' (fun k => k < z6) Agb ogb ∧ z5 ≤ w'.heap.size ∧ z6 ≤ w'.heap.size ∧ Env 160 [] [(5, .pointer (some ⟨tb, 0, none⟩)), (16, .pointer (some ⟨kb, 0, none⟩)), (13, .int .i64 ea), (15, .int .i64 eb), (17, .slice Aga oga.length cga), (18, .slice Agb ogb.length cgb), (19, .int .i64 n)] a) (10) ?_ ?_
          · exact fun a ha => ⟨0, rfl, by omega, F578, F579, F580, F586, F588, N1591, N2592, (by omega), (by omega), ha.sub ⟨rfl, rfl, rfl, rfl, rfl, rfl, rfl, trivial⟩⟩
          · rintro mm a w593 ⟨n, rfl, hnn, fr, TB, RH, KB, RK, RA, RB, hz5, hz6, ha⟩
            refine CW.at ha ?_
            refine CW.seq ?_
            refine CW.seq ?_
            refine CW.region ?_
            refine WL.y rfl rfl (yi_move rfl) ?_
            refine WL.y rfl rfl (yi_lss rfl rfl) ?_
            refine WL.done ?_
            refine NW.next ?_
            refine CW.cond rfl (fun q_D => ?_) (fun q_D => ?_)
            · try replace q_D := of_decide_eq_true q_D
              refine CW.skip ?_
              refine NW.next ?_
              refine CW.seq ?_
              refine CW.block ?_
              refine CW.seq ?_
              have fd594 : Same w593 w593.drew := Only.drew _ _
              obtain ⟨w595, hww595⟩ : ∃ wz, wz = w593.drew := ⟨_, rfl⟩
              rw [← hww595] at fd594
              have F596 := Only.same fr fd594
              have F597 := Blk.same TB fd594
              have F598 := Row.same (by decide) RH fd594
              have F599 := Blk.same KB fd594
              have F600 := Row.same (by decide) RK fd594
              have F601 := Row.same (by decide) RA fd594
              have F602 := Row.same (by decide) RB fd594
              have sz603 := fd594.size
              refine CW.draw 6 [(0, true), (1, true), (3, true), (4, true), (2, false), (5, false), (6, false), (7, false)] (fun w' => Blk w' tb _ _ ∧ Blk w' kb _ _) Try_mixed (by kernel_rfl) (fun _ _ _ _ h => h) hww595 ⟨F597, F599⟩ ?_
              refine PL.y rfl rfl rfl (fun w' hS => by first | exact yi_loadW Try.isAgg60 Try.sizeOf60 rfl hS.1 rfl | exact yi_loadW Try.isAgg60 Try.sizeOf60 rfl hS.2 rfl) ?_
              refine PL.y rfl rfl rfl (fun w' hS => yi_move rfl) ?_
              refine PL.y rfl rfl rfl (fun w' hS => by first | exact yi_loadW Try.isAgg60 Try.sizeOf60 rfl hS.1 rfl | exact yi_loadW Try.isAgg60 Try.sizeOf60 rfl hS.2 rfl) ?_
              refine PL.y rfl rfl rfl (fun w' hS => yi_move rfl) ?_
              refine PL.e rfl rfl rfl (ef_call Try.call36 rfl (reach_c (hop1 (E.eraseIdx i ++ [x])) Au2 (some ⟨g2, 0, none⟩) cu2 cap2 _ _ F600 hcap2 hcam2 0 n (fun k hk => by have hk : k < z5 := hk; omega) (by show (E.eraseIdx i ++ [x]).length ≤ _; omega))) ?_
              rintro u_s w604 ⟨ss, hO606, hs1, hs2, f605⟩
              have hls := zs_len (m := 40) hs1 hs2 (by show (E.eraseIdx i ++ [x]).length ≤ 40; omega)
              obtain ⟨As, cs, hv607, hc608, hm609, RR610, -⟩ := hO606.row (by decide)
              subst hv607
              have F611 := Only.same F596 f605
              have F612 := Blk.same F597 f605
              have F613 := Row.same (by decide) F598 f605
              have F614 := Blk.same F599 f605
              have F615 := Row.same (by decide) F600 f605
              have F616 := Row.same (by decide) F601 f605
              have F617 := Row.same (by decide) F602 f605
              clear F596 F597 F598 F599 F600 F601 F602
              have sz618 := f605.size
              refine ⟨fun _ => ⟨F612, F614⟩, ?_⟩
              refine PL.e rfl rfl rfl (ef_call Try.call36 rfl (reach_c (hop1 E) (some ⟨ub, 0, none⟩) (some ⟨hb, 0, none⟩) 10 1 _ _ F613 (Nat.le_refl 1) (by decide) 0 n (fun k hk => by have hk : k < z1 := hk; omega) (by show E.length ≤ _; omega))) ?_
              rintro u_t w619 ⟨ts, hO621, ht1, ht2, f620⟩
              have hlt := zs_len ht1 ht2 hEl
              obtain ⟨At, ct, hv622, hc623, hm624, RR625, -⟩ := hO621.row (by decide)
              subst hv622
              have F626 := Only.same F611 f620
              have F627 := Blk.same F612 f620
              have F628 := Row.same (by decide) F613 f620
              have F629 := Blk.same F614 f620
              have F630 := Row.same (by decide) F615 f620
              have F631 := Row.same (by decide) F616 f620
              have F632 := Row.same (by decide) F617 f620
              have F633 := Row.same (by decide) RR610 f620
              clear F611 F612 F613 F614 F615 F616 F617
              have sz634 := f620.size
              refine ⟨fun _ => ⟨F627, F629⟩, ?_⟩
              refine PL.z rfl rfl rfl rfl rfl (ef_call Try.call42 rfl (refSame_c As At cs ct ss ts _ _ _ F633 RR625 (by omega) (by omega))) ?_
              rintro _ w635 ⟨rfl, f636⟩
              have F637 := Only.same F626 f636
              have F638 := Blk.same F627 f636
              have F639 := Row.same (by decide) F628 f636
              have F640 := Blk.same F629 f636
              have F641 := Row.same (by decide) F630 f636
              have F642 := Row.same (by decide) F631 f636
              have F643 := Row.same (by decide) F632 f636
              have F644 := Row.same (by decide) F633 f636
              have F645 := Row.same (by decide) RR625 f636
              clear F626 F627 F628 F629 F630 F631 F632 F633
              have sz646 := f636.size
              refine PL.as_ (t := 147) (v' := .bool true) rfl (congrArg Value.bool (decide_eq_true (reach_same (back_iff hx) hs1 hs2 ht1 ht2))) ?_
              refine PL.zy rfl rfl rfl rfl rfl (yi_not rfl) ?_
              refine PL.as_ (t := 148) (v' := .bool false) rfl (rfl) ?_
              refine PL.done ?_
              refine NW.next ?_
              refine CW.condF rfl ?_
              refine CW.skip ?_
              refine NW.blockEnd ?_
              refine NW.next ?_
              refine CW.region ?_
              refine WL.y rfl rfl (yi_move rfl) ?_
              refine WL.y rfl rfl (yi_addI rfl rfl (by omega) (by omega)) ?_
              refine WL.as_ (t := 140) (v' := .int .i64 ((n + 1 : Nat) : Int)) rfl (congrArg (Value.int .i64) (by omega)) ?_
              refine WL.y rfl rfl (yi_assign rfl) ?_
              refine WL.done ?_
              refine NW.round (10 - (n + 1)) (by omega) ?_
              exact fun a ha => ⟨n + 1, rfl, by omega, F637, F638, F639, F640, F641, F642, F643, (by omega), (by omega), ha.sub ⟨rfl, rfl, rfl, rfl, rfl, rfl, rfl, trivial⟩⟩
            · try replace q_D := of_decide_eq_false q_D
              refine CW.exit ?_
              refine NW.thenExit ?_
              refine NW.thenExit ?_
              refine NW.blockHit ?_
              refine NW.next ?_
              refine CW.seq ?_
              refine CW.region ?_
              refine WL.y rfl rfl (yi_move rfl) ?_
              refine WL.y rfl rfl (yi_move rfl) ?_
              refine WL.y rfl rfl (yi_eql rfl rfl) ?_
              refine WL.as_ (t := 151) (v' := .bool true) rfl (congrArg Value.bool (decide_eq_true (ordR_same (back_iff hx) hgb hga).1.symm)) ?_
              refine WL.y rfl rfl (yi_move rfl) ?_
              refine WL.as_ (t := 152) (v' := .bool true) rfl (rfl) ?_
              refine WL.gy rfl rfl rfl rfl rfl (yi_move rfl) ?_
              refine WL.gy rfl rfl rfl rfl rfl (yi_move rfl) ?_
              refine WL.ge rfl rfl rfl rfl rfl (ef_call Try.call42 rfl (refSame_c Aga Agb cga cgb oga ogb _ _ _ RA RB (by omega) (by omega))) ?_
              rintro _ w647 ⟨rfl, f648⟩
              have F649 := Only.same fr f648
              have F650 := Blk.same TB f648
              have F651 := Row.same (by decide) RH f648
              have F652 := Blk.same KB f648
              have F653 := Row.same (by decide) RK f648
              have F654 := Row.same (by decide) RA f648
              have F655 := Row.same (by decide) RB f648
              have sz656 := f648.size
              refine WL.as_ (t := 155) (v' := .bool true) rfl (congrArg Value.bool (decide_eq_true (ordR_same (back_iff hx) hgb hga).2.symm)) ?_
              refine WL.y rfl rfl (yi_pickT rfl rfl) ?_
              refine WL.as_ (t := 156) (v' := .bool true) rfl (rfl) ?_
              refine WL.y rfl rfl (yi_move rfl) ?_
              refine WL.as_ (t := 157) (v' := .bool true) rfl (rfl) ?_
              refine WL.ge rfl rfl rfl rfl rfl (ef_call Try.call37 rfl (twakes_c _)) ?_
              rintro _ w657 ⟨rfl, f658⟩
              have F659 := Only.same F649 f658
              have F660 := Blk.same F650 f658
              have F661 := Row.same (by decide) F651 f658
              have F662 := Blk.same F652 f658
              have F663 := Row.same (by decide) F653 f658
              have F664 := Row.same (by decide) F654 f658
              have F665 := Row.same (by decide) F655 f658
              clear F649 F650 F651 F652 F653 F654 F655
              have sz666 := f658.size
              refine WL.y rfl rfl (yi_pickT rfl rfl) ?_
              refine WL.y rfl rfl (yi_assign rfl) ?_
              refine WL.done ?_
              refine NW.next ?_
              refine CW.ret ?_
              refine NW.ret1 rfl rfl ?_
              exact ⟨_, rfl, rfl, F659⟩

end Go.Proofs.YtgmjgdjobkmbgaaN
