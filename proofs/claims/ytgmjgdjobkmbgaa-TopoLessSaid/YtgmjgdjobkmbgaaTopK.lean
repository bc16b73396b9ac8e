/- TopoHops, walked. -/
import Derived.Test.YtgmjgdjobkmbgaaTopJ
import Derived.Test.YtgmjgdjobkmbgaaPlg
set_option linter.unusedVariables false
set_option linter.unusedSimpArgs false
namespace Go.Proofs.YtgmjgdjobkmbgaaN
open Go.Proofs.YtgmjgdjobkmbgaaL Go.RowKit Go.Proofs
attribute [local irreducible] Ef Yi WL PL CW NW Ret
open Go.Lib Go.Sort
theorem betw_len (l : List (UInt8 × UInt8)) (flow : Int) : (edgesOf (betw l) flow).length ≤ 40 := by
  unfold edgesOf betw
  split
  · cases flow.toNat with
    | zero => simp; omega
    | succ n => simp
  · simp
theorem betw_0 (l : List (UInt8 × UInt8)) : edgesOf (betw l) 0 = (l.take 40).map edOf := rfl
theorem betw_1 (l : List (UInt8 × UInt8)) : edgesOf (betw l) 1 = [] := rfl
theorem betw_m (l : List (UInt8 × UInt8)) : edgesOf (betw l) (-1) = [] := rfl
theorem next_none {t : Tp} {flow : Int} (h : edgesOf t flow = []) (n : Int) : nextOf t flow n = [] := next_lit h (by simp)
theorem reach_none {t : Tp} {flow n : Int} {zs : List Int} (h : edgesOf t flow = []) (hm : ∀ x, x ∈ zs ↔ Path (edgesOf t flow) n x) : zs = [] := by
  cases zs with
  | nil => rfl
  | cons x r =>
    have := (hm x).1 (by simp)
    rw [h] at this
    exact absurd (path_in (S := []) (by simp) this) (by simp)
theorem hop_iff {L : List Ed} {a b : Int} {nx : List Int} (hn : ∀ x, x ∈ nx ↔ (⟨a, x⟩ : Ed) ∈ L) : ((⟨a, b⟩ : Ed) ∈ L ∨ ∃ (j : Nat) (x : Int), j < nx.length ∧ nx[j]? = some x ∧ Path L x b) ↔ Path L a b := by
  constructor
  · rintro (h | ⟨j, x, _, hx, hp⟩)
    · exact .one h
    · exact (Path.one ((hn x).1 (List.mem_of_getElem? hx))).trans hp
  · intro h
    rcases h.head with h | ⟨x, hx, hp⟩
    · exact .inl h
    · obtain ⟨j, hj, e⟩ := List.getElem_of_mem ((hn x).2 hx)
      exact .inr ⟨j, x, hj, by rw [List.getElem?_eq_getElem hj, e], hp⟩

theorem zs_len {L : List Ed} {a : Int} {zs : List Int} {m : Nat} (h1 : zs.Pairwise (· < ·)) (h2 : ∀ x, x ∈ zs ↔ Path L a x) (hm : L.length ≤ m) : zs.length ≤ m := by
  have := nodup_le (m := L.map (·.to)) (rising_nodup h1) (fun x hx => by
    have hp := (h2 x).1 hx
    cases hp with
    | one h1 => exact List.mem_map.2 ⟨_, h1, rfl⟩
    | more _ h1 => exact List.mem_map.2 ⟨_, h1, rfl⟩)
  simp at this
  omega
theorem rise_at {zs : List Int} (h : zs.Pairwise (· < ·)) {i j : Nat} {x y : Int} (hx : zs[i]? = some x) (hy : zs[j]? = some y) (hij : i < j) : x < y := by
  obtain ⟨h1, h2⟩ := List.getElem?_eq_some_iff.1 hx
  obtain ⟨h3, h4⟩ := List.getElem?_eq_some_iff.1 hy
  have := List.pairwise_iff_getElem.1 h i j h1 h3 hij
  rw [h2, h4] at this
  exact this
theorem over_step {L : List Ed} {nx zy : List Int} {a b y : Int} {i : Nat} {ov : Bool} (hov : ov = true ↔ ((⟨a, b⟩ : Ed) ∈ L ∨ ∃ (j : Nat) (x : Int), j < i ∧ nx[j]? = some x ∧ Path L x b)) (h0 : ov = false) (hy : nx[i]? = some y) (hz : b ∈ zy ↔ Path L y b) :
    decide (b ∈ zy) = true ↔ ((⟨a, b⟩ : Ed) ∈ L ∨ ∃ (j : Nat) (x : Int), j < i + 1 ∧ nx[j]? = some x ∧ Path L x b) := by
  rw [decide_eq_true_eq, hz]
  subst h0
  constructor
  · intro h; exact .inr ⟨i, y, by omega, hy, h⟩
  · rintro (h | ⟨j, x, h1, h2, h3⟩)
    · exact absurd (hov.2 (.inl h)) (by simp)
    · by_cases e : j = i
      · subst e; rw [hy] at h2; injection h2 with h2; exact h2 ▸ h3
      · exact absurd (hov.2 (.inr ⟨j, x, by omega, h2, h3⟩)) (by simp)

theorem hopsLaw_c (A : Option Addr) (c : Nat) (l : List (UInt8 × UInt8)) (ok : Nat → Prop) (w : World) (R : Row dPr w ok A l) (hok : ∀ k, ok k → k < w.heap.size) (hc : l.length ≤ c) :
    Ret Try.prog 6 [.slice A l.length c] w fun u w' => u = .bool true ∧ Same w w' := by
  have fr0 : Only (fun _ => False) w w := Only.refl _ _
  refine Ret.go Try.func6 rfl Try.ntmps6 rfl ?_
  refine CW.seq ?_
  refine CW.region ?_
  refine WL.y rfl rfl (yi_assign rfl) ?_
  refine WL.done ?_
  refine NW.next ?_
  refine CW.seq ?_
  refine CW.region ?_
  refine WL.y rfl rfl (yi_move rfl) ?_
  refine WL.e rfl rfl (ef_call Try.call33 rfl (between_c A c l _ _ R (fun k hk => by have := hok k hk; omega) hc)) ?_
  rintro _ w1 ⟨ub, hb, rfl, RH3, UB4, f2⟩
  obtain ⟨z1, hz1⟩ : ∃ z, z = w1.heap.size := ⟨_, rfl⟩
  have RB5 := Row.mono (ok' := fun k => k < z1) (fun k hk => by rw [hz1]; exact hk.2) (Row.bound (by decide) RH3)
  have F6 := Row.same (by decide) R f2
  have F7 := Only.same fr0 f2
  have sz8 := f2.size
  refine WL.e rfl rfl (ef_alloc Try.zeroValue60) ?_
  rintro _ w14 ⟨tb, hb_tb, rfl, f11, B12, z_tb⟩
  have F15 := Row.same (by decide) F6 f11
  have F16 := Only.same F7 f11
  have F17 := Row.same (by decide) RB5 f11
  clear F6 F7
  have sz18 := f11.size
  refine WL.e rfl rfl (ef_store (b := tb) Try.sizeOf60 rfl rfl B12 rfl rfl rfl) ?_
  rintro _ w22 ⟨rfl, f19, B20, z21⟩
  have F23 := Row.only (by decide) F15 f19 (fun k hk hok' hl => by have hl : k = _ := hl; have := hok k hok'; omega)
  have F24 := Only.trans F16 f19 (fun i hi hl => by have hl : i = _ := hl; omega)
  have F25 := Row.only (by decide) F17 f19 (fun k hk hok' hl => by have hl : k = _ := hl; have hok' : k < z1 := hok'; omega)
  clear F15 F16 F17
  refine WL.done ?_
  refine NW.next ?_
  refine CW.seq ?_
  refine CW.seq ?_
  refine CW.region ?_
  refine WL.y rfl rfl (yi_assign rfl) ?_
  refine WL.done ?_
  refine NW.next ?_
  refine CW.block ?_
  refine CW.loop (fun mm x w' => ∃ a : Nat, mm = 10 - a ∧ a ≤ 10 ∧ Same w w' ∧ Blk w' tb #[.int .u64 1, .slice (some ⟨ub, 0, none⟩) 10 10, .slice (some ⟨hb, 0, none⟩) 1 1] 60 ∧ Row dEds w' (fun k => k < z1) (some ⟨hb, 0, none⟩) (betw l).hops ∧ z1 ≤ w'.heap.size ∧ Env 103 [] [(3, .pointer (some ⟨tb, 0, none⟩)), (4, .int .i64 a)] x) (10) ?_ ?_
  · exact fun x ha => ⟨0, rfl, by omega, F24, B20, F25, (by omega), ha.sub ⟨rfl, rfl, trivial⟩⟩
  · rintro mm x w26 ⟨a, rfl, hi, fr, TB, RH, hz1, ha⟩
    refine CW.at ha ?_
    refine CW.seq ?_
    refine CW.seq ?_
    refine CW.region ?_
    refine WL.y rfl rfl (yi_move rfl) ?_
    refine WL.y rfl rfl (yi_lss rfl rfl) ?_
    refine WL.done ?_
    refine NW.next ?_
    refine CW.cond rfl (fun q_A => ?_) (fun q_A => ?_)
    · try replace q_A := of_decide_eq_true q_A
      refine CW.skip ?_
      refine NW.next ?_
      refine CW.seq ?_
      refine CW.block ?_
      refine CW.seq ?_
      have fd27 : Same w26 w26.drew := Only.drew _ _
      obtain ⟨w28, hww28⟩ : ∃ wz, wz = w26.drew := ⟨_, rfl⟩
      rw [← hww28] at fd27
      have F29 := Only.same fr fd27
      have F30 := Blk.same TB fd27
      have F31 := Row.same (by decide) RH fd27
      have sz32 := fd27.size
      refine CW.draw 5 [(0, true), (1, true), (3, true), (4, true), (2, false), (5, false), (6, false), (7, false)] (fun w' => Blk w' tb _ _) Try_mixed (by kernel_rfl) (fun _ _ _ _ h => h) hww28 F30 ?_
      refine PL.y rfl rfl rfl (fun w' hS => by first | exact yi_loadW Try.isAgg60 Try.sizeOf60 rfl hS rfl) ?_
      refine PL.y rfl rfl rfl (fun w' hS => yi_move rfl) ?_
      refine PL.y rfl rfl rfl (fun w' hS => by first | exact yi_loadW Try.isAgg60 Try.sizeOf60 rfl hS rfl) ?_
      refine PL.y rfl rfl rfl (fun w' hS => yi_move rfl) ?_
      refine PL.e rfl rfl rfl (ef_call Try.call38 rfl (next_c (betw l) (some ⟨ub, 0, none⟩) (some ⟨hb, 0, none⟩) 10 1 _ _ F31 (Nat.le_refl 1) (by decide) 0 a (fun k hk => by have hk : k < z1 := hk; omega) (Nat.le_trans (betw_len l _) (by decide)))) ?_
      rintro u_n w33 ⟨hO35, f34⟩
      obtain ⟨nx, hnxd⟩ : ∃ nx, nx = nextOf (betw l) 0 a := ⟨_, rfl⟩
      rw [← hnxd] at hO35
      obtain ⟨An, cn, hv36, hc37, hm38, RR39, -⟩ := hO35.row (by decide)
      subst hv36
      have F40 := Only.same F29 f34
      have F41 := Blk.same F30 f34
      have F42 := Row.same (by decide) F31 f34
      clear F29 F30 F31
      have sz43 := f34.size
      refine ⟨fun _ => F41, ?_⟩
      refine PL.z rfl rfl rfl rfl rfl (ef_call Try.call36 rfl (reach_c (betw l) (some ⟨ub, 0, none⟩) (some ⟨hb, 0, none⟩) 10 1 _ _ F42 (Nat.le_refl 1) (by decide) 0 a (fun k hk => by have hk : k < z1 := hk; omega) (Nat.le_trans (betw_len l _) (by decide)))) ?_
      rintro u_r w44 ⟨zs, hO46, hzs1, hzs2, f45⟩
      obtain ⟨Ar, cr, hv47, hc48, hm49, RR50, -⟩ := hO46.row (by decide)
      subst hv47
      have F51 := Only.same F40 f45
      have F52 := Blk.same F41 f45
      have F53 := Row.same (by decide) F42 f45
      have F54 := Row.same (by decide) RR39 f45
      clear F40 F41 F42
      have sz55 := f45.size
      obtain ⟨z2, hz2⟩ : ∃ z, z = w44.heap.size := ⟨_, rfl⟩
      have N256 := Row.mono (ok' := fun k => k < z2) (fun k hk => by rw [hz2]; exact hk.2) (Row.bound (by decide) F54)
      have R257 := Row.mono (ok' := fun k => k < z2) (fun k hk => by rw [hz2]; exact hk.2) (Row.bound (by decide) RR50)
      have hnx : ∀ x, x ∈ nx ↔ (⟨a, x⟩ : Ed) ∈ edgesOf (betw l) 0 := fun x => by rw [hnxd]; exact mem_next
      have hlen_n : nx.length ≤ 40 := by rw [hnxd]; exact Nat.le_trans (ends_len _ _) (betw_len l 0)
      have hlen_r := zs_len hzs1 hzs2 (betw_len l 0)
      refine PL.zy rfl rfl rfl rfl rfl (yi_assign rfl) ?_
      refine PL.zy rfl rfl rfl rfl rfl (yi_assign rfl) ?_
      refine PL.done ?_
      refine NW.next ?_
      refine CW.seq ?_
      refine CW.seq ?_
      refine CW.region ?_
      refine WL.y rfl rfl (yi_assign rfl) ?_
      refine WL.done ?_
      refine NW.next ?_
      refine CW.block ?_
      refine CW.loop (fun mm x w' => ∃ b : Nat, mm = 10 - b ∧ b ≤ 10 ∧ Same w w' ∧ Blk w' tb #[.int .u64 1, .slice (some ⟨ub, 0, none⟩) 10 10, .slice (some ⟨hb, 0, none⟩) 1 1] 60 ∧ Row dEds w' (fun k => k < z1) (some ⟨hb, 0, none⟩) (betw l).hops ∧ z1 ≤ w'.heap.size ∧ Row dI w' (fun k => k < z2) An nx ∧ Row dI w' (fun k => k < z2) Ar zs ∧ z2 ≤ w'.heap.size ∧ Env 103 [] [(3, .pointer (some ⟨tb, 0, none⟩)), (4, .int .i64 a), (5, .slice An nx.length cn), (6, .slice Ar zs.length cr), (7, .int .i64 b)] x) (10) ?_ ?_
      · exact fun x ha => ⟨0, rfl, by omega, F51, F52, F53, (by omega), N256, R257, (by omega), ha.sub ⟨rfl, rfl, rfl, rfl, rfl, trivial⟩⟩
      · rintro mm x w58 ⟨b, rfl, hib, fr, TB, RH, hz1, RN, RR, hz2, ha⟩
        refine CW.at ha ?_
        refine CW.seq ?_
        refine CW.seq ?_
        refine CW.region ?_
        refine WL.y rfl rfl (yi_move rfl) ?_
        refine WL.y rfl rfl (yi_lss rfl rfl) ?_
        refine WL.done ?_
        refine NW.next ?_
        refine CW.cond rfl (fun q_B => ?_) (fun q_B => ?_)
        · try replace q_B := of_decide_eq_true q_B
          refine CW.skip ?_
          refine NW.next ?_
          refine CW.seq ?_
          refine CW.block ?_
          refine CW.seq ?_
          refine CW.region ?_
          refine WL.y rfl rfl (yi_loadW Try.isAgg60 Try.sizeOf60 rfl (by assumption) rfl) ?_
          refine WL.y rfl rfl (yi_move rfl) ?_
          refine WL.y rfl rfl (yi_move rfl) ?_
          refine WL.e rfl rfl (ef_call Try.call40 rfl (edge_c (betw l) (some ⟨ub, 0, none⟩) (some ⟨hb, 0, none⟩) 10 1 _ _ RH (Nat.le_refl 1) (by decide) 0 a b (Nat.le_trans (betw_len l _) (by decide)))) ?_
          rintro _ w59 ⟨rfl, f60⟩
          have F61 := Only.same fr f60
          have F62 := Blk.same TB f60
          have F63 := Row.same (by decide) RH f60
          have F64 := Row.same (by decide) RN f60
          have F65 := Row.same (by decide) RR f60
          have sz66 := f60.size
          refine WL.y rfl rfl (yi_assign rfl) ?_
          refine WL.done ?_
          refine NW.next ?_
          refine CW.seq ?_
          refine CW.seq ?_
          refine CW.region ?_
          refine WL.y rfl rfl (yi_move rfl) ?_
          refine WL.y rfl rfl (yi_move rfl) ?_
          refine WL.y rfl rfl (yi_move rfl) ?_
          refine WL.e rfl rfl (ef_call Try.call35 rfl (has_c An cn nx b _ _ F64 (by omega))) ?_
          rintro _ w67 ⟨rfl, rfl⟩
          refine WL.y rfl rfl (yi_neqB Try.runUnderlying4 rfl rfl) ?_
          refine WL.as_ (t := 36) (v' := .bool false) rfl (congrArg Value.bool (by have := hnx b; simp [this])) ?_
          refine WL.y rfl rfl (yi_move rfl) ?_
          refine WL.gy rfl rfl rfl rfl rfl (yi_move rfl) ?_
          refine WL.gy rfl rfl rfl rfl rfl (yi_loadW Try.isAgg60 Try.sizeOf60 rfl (by assumption) rfl) ?_
          refine WL.gy rfl rfl rfl rfl rfl (yi_move rfl) ?_
          refine WL.ge rfl rfl rfl rfl rfl (ef_call Try.call39 rfl (prev_c (betw l) (some ⟨ub, 0, none⟩) (some ⟨hb, 0, none⟩) 10 1 _ _ F63 (Nat.le_refl 1) (by decide) 0 b (fun k hk => by have hk : k < z1 := hk; omega) (Nat.le_trans (betw_len l _) (by decide)))) ?_
          rintro u_p w69 ⟨hO71, f70⟩
          have hpl : (prevOf (betw l) 0 b).length ≤ 1000 := Nat.le_trans (ends_len _ _) (Nat.le_trans (betw_len l 0) (by decide))
          obtain ⟨Ap, cp, hv72, hc73, hm74, RR75, -⟩ := hO71.row (by decide)
          subst hv72
          have F76 := Only.same F61 f70
          have F77 := Blk.same F62 f70
          have F78 := Row.same (by decide) F63 f70
          have F79 := Row.same (by decide) F64 f70
          have F80 := Row.same (by decide) F65 f70
          clear F61 F62 F63 F64 F65
          have sz81 := f70.size
          refine WL.gy rfl rfl rfl rfl rfl (yi_move rfl) ?_
          refine WL.ge rfl rfl rfl rfl rfl (ef_call Try.call35 rfl (has_c Ap cp _ a _ _ RR75 (by omega))) ?_
          rintro _ w82 ⟨rfl, rfl⟩
          refine WL.gy rfl rfl rfl rfl rfl (yi_neqB Try.runUnderlying4 rfl rfl) ?_
          refine WL.as_ (t := 44) (v' := .bool false) rfl (congrArg Value.bool (by have := mem_prev (t := betw l) (flow := 0) (a := b) (x := a); simp [this])) ?_
          refine WL.y rfl rfl (yi_pickF rfl rfl) ?_
          refine WL.done ?_
          refine NW.next ?_
          refine CW.condF rfl ?_
          refine CW.skip ?_
          refine NW.next ?_
          refine CW.seq ?_
          refine CW.region ?_
          refine WL.y rfl rfl (yi_move rfl) ?_
          refine WL.y rfl rfl (yi_assign rfl) ?_
          refine WL.done ?_
          refine NW.next ?_
          refine CW.seq ?_
          refine CW.seq ?_
          refine CW.region ?_
          refine WL.y rfl rfl (yi_assign rfl) ?_
          refine WL.done ?_
          refine NW.next ?_
          refine CW.block ?_
          refine CW.loop (fun mm x w' => ∃ (i : Nat) (ov : Bool), mm = nx.length - i ∧ i ≤ nx.length ∧ (ov = true ↔ ((⟨a, b⟩ : Ed) ∈ edgesOf (betw l) 0 ∨ ∃ (j : Nat) (x : Int), j < i ∧ nx[j]? = some x ∧ Path (edgesOf (betw l) 0) x b)) ∧ Same w w' ∧ Blk w' tb #[.int .u64 1, .slice (some ⟨ub, 0, none⟩) 10 10, .slice (some ⟨hb, 0, none⟩) 1 1] 60 ∧ Row dEds w' (fun k => k < z1) (some ⟨hb, 0, none⟩) (betw l).hops ∧ z1 ≤ w'.heap.size ∧ Row dI w' (fun k => k < z2) An nx ∧ Row dI w' (fun k => k < z2) Ar zs ∧ z2 ≤ w'.heap.size ∧ Env 103 [] [(3, .pointer (some ⟨tb, 0, none⟩)), (4, .int .i64 a), (5, .slice An nx.length cn), (6, .slice Ar zs.length cr), (7, .int .i64 b), (9, .bool ov), (10, .int .i64 i)] x) (nx.length) ?_ ?_
          · exact fun x ha => ⟨0, _, rfl, by omega, by simp, F76, F77, F78, (by omega), F79, F80, (by omega), ha.sub ⟨rfl, rfl, rfl, rfl, rfl, rfl, rfl, trivial⟩⟩
          · rintro mm x w84 ⟨i, ov, rfl, hii, hov, fr, TB, RH, hz1, RN, RR, hz2, ha⟩
            refine CW.at ha ?_
            refine CW.seq ?_
            refine CW.seq ?_
            refine CW.region ?_
            refine WL.y rfl rfl (yi_move rfl) ?_
            refine WL.y rfl rfl (yi_move rfl) ?_
            refine WL.y rfl rfl (yi_len Try.runUnderlying49 rfl) ?_
            refine WL.y rfl rfl (yi_lss rfl rfl) ?_
            refine WL.done ?_
            refine NW.next ?_
            refine CW.cond rfl (fun q_C => ?_) (fun q_C => ?_)
            · try replace q_C := of_decide_eq_true q_C
              obtain ⟨y, hy⟩ : ∃ y, nx[i]? = some y := ⟨nx[i]'(by omega), List.getElem?_eq_getElem (by omega)⟩
              obtain ⟨ad, hA, hcell⟩ := int_at RN hy
              subst hA
              refine CW.skip ?_
              refine NW.next ?_
              refine CW.seq ?_
              refine CW.block ?_
              have fd85 : Same w84 w84.drew := Only.drew _ _
              obtain ⟨w86, hww86⟩ : ∃ wz, wz = w84.drew := ⟨_, rfl⟩
              rw [← hww86] at fd85
              have F87 := Only.same fr fd85
              have F88 := Blk.same TB fd85
              have F89 := Row.same (by decide) RH fd85
              have F90 := Row.same (by decide) RN fd85
              have F91 := Row.same (by decide) RR fd85
              have F92 := Only.cell fd85 hcell (fun hl => hl)
              have sz93 := fd85.size
              refine CW.draw 9 [(0, true), (1, true), (2, true), (3, true), (4, true), (5, true), (6, true), (8, true), (7, false), (9, false), (10, false), (11, false)] (fun w' => Blk w' tb _ _ ∧ World.cell? w' (ad.add i) = some (.int .i64 y)) Try_mixed (by kernel_rfl) (fun _ _ _ _ h => h) hww86 ⟨F88, F92⟩ ?_
              refine PL.y rfl rfl rfl (fun w' hS => yi_move rfl) ?_
              refine PL.y rfl rfl rfl (fun w' hS => yi_move rfl) ?_
              refine PL.split (t := 54) rfl (fun q_CT => ?_) (fun q_CT => ?_)
              · try replace q_CT := of_decide_eq_true q_CT
                refine PL.no rfl rfl rfl rfl rfl rfl rfl ?_
                refine PL.no rfl rfl rfl rfl rfl rfl rfl ?_
                refine PL.no rfl rfl rfl rfl rfl rfl rfl ?_
                refine PL.no rfl rfl rfl rfl rfl rfl rfl ?_
                refine PL.no rfl rfl rfl rfl rfl rfl rfl ?_
                refine PL.no rfl rfl rfl rfl rfl rfl rfl ?_
                refine PL.noe rfl rfl rfl rfl rfl rfl rfl (fun _ => ⟨F88, F92⟩) ?_
                refine PL.noe rfl rfl rfl rfl rfl rfl rfl (fun hh => by rcases hh with hh | hh <;> exact absurd hh (by decide)) ?_
                refine PL.zy rfl rfl rfl rfl rfl (yi_pickT rfl rfl) ?_
                refine PL.zy rfl rfl rfl rfl rfl (yi_assign rfl) ?_
                refine PL.done ?_
                refine NW.blockEnd ?_
                refine NW.next ?_
                refine CW.region ?_
                refine WL.y rfl rfl (yi_move rfl) ?_
                refine WL.y rfl rfl (yi_addI rfl rfl (by omega) (by omega)) ?_
                refine WL.as_ (t := 52) (v' := .int .i64 ((i + 1 : Nat) : Int)) rfl (congrArg (Value.int .i64) (by omega)) ?_
                refine WL.y rfl rfl (yi_assign rfl) ?_
                refine WL.done ?_
                refine NW.round (nx.length - (i + 1)) (by omega) ?_
                exact fun x ha => ⟨i + 1, true, rfl, by omega, ⟨fun _ => (hov.1 q_CT).imp id (fun ⟨j, x, h1, h2⟩ => ⟨j, x, by omega, h2⟩), fun _ => rfl⟩, F87, F88, F89, (by omega), F90, F91, (by omega), ha.sub ⟨rfl, rfl, rfl, rfl, rfl, rfl, rfl, trivial⟩⟩
              · try replace q_CT := of_decide_eq_false q_CT
                refine PL.gy rfl rfl rfl rfl rfl rfl (fun w' hS => by first | exact yi_loadW Try.isAgg60 Try.sizeOf60 rfl hS.1 rfl) ?_
                refine PL.gy rfl rfl rfl rfl rfl rfl (fun w' hS => yi_move rfl) ?_
                refine PL.gy rfl rfl rfl rfl rfl rfl (fun w' hS => yi_move rfl) ?_
                refine PL.gy rfl rfl rfl rfl rfl rfl (fun w' hS => yi_indexAddr Try.runUnderlying49 Try.sizeOf3 rfl rfl (by omega) (by omega)) ?_
                refine PL.as_ (t := 58) (v' := .pointer (some (ad.add i))) rfl (by rw [Int.toNat_natCast, Nat.mul_one]) ?_
                refine PL.gy rfl rfl rfl rfl rfl rfl (fun w' hS => yi_load1 Try.isAgg3 rfl hS.2) ?_
                refine PL.gy rfl rfl rfl rfl rfl rfl (fun w' hS => yi_move rfl) ?_
                refine PL.ge rfl rfl rfl rfl rfl rfl (ef_call Try.call36 rfl (reach_c (betw l) (some ⟨ub, 0, none⟩) (some ⟨hb, 0, none⟩) 10 1 _ _ F89 (Nat.le_refl 1) (by decide) 0 y (fun k hk => by have hk : k < z1 := hk; omega) (Nat.le_trans (betw_len l _) (by decide)))) ?_
                rintro u_y w94 ⟨zy, hO96, hz1y, hz2y, f95⟩
                have hlen_y := zs_len hz1y hz2y (betw_len l 0)
                obtain ⟨Ay, cy, hv97, hc98, hm99, RR100, -⟩ := hO96.row (by decide)
                subst hv97
                have F101 := Only.same F87 f95
                have F102 := Blk.same F88 f95
                have F103 := Row.same (by decide) F89 f95
                have F104 := Row.same (by decide) F90 f95
                have F105 := Row.same (by decide) F91 f95
                have F106 := Only.cell f95 F92 (fun hl => hl)
                clear F87 F88 F89 F90 F91 F92
                have sz107 := f95.size
                refine ⟨fun _ => ⟨F102, F106⟩, ?_⟩
                refine PL.gz rfl rfl rfl rfl rfl rfl rfl rfl (ef_call Try.call35 rfl (has_c Ay cy zy b _ _ RR100 (by omega))) ?_
                rintro _ w108 ⟨rfl, rfl⟩
                refine PL.zy rfl rfl rfl rfl rfl (yi_pickF rfl rfl) ?_
                refine PL.zy rfl rfl rfl rfl rfl (yi_assign rfl) ?_
                refine PL.done ?_
                refine NW.blockEnd ?_
                refine NW.next ?_
                refine CW.region ?_
                refine WL.y rfl rfl (yi_move rfl) ?_
                refine WL.y rfl rfl (yi_addI rfl rfl (by omega) (by omega)) ?_
                refine WL.as_ (t := 52) (v' := .int .i64 ((i + 1 : Nat) : Int)) rfl (congrArg (Value.int .i64) (by omega)) ?_
                refine WL.y rfl rfl (yi_assign rfl) ?_
                refine WL.done ?_
                refine NW.round (nx.length - (i + 1)) (by omega) ?_
                exact fun x ha => ⟨i + 1, _, rfl, by omega, over_step hov q_CT hy (hz2y b), F101, F102, F103, (by omega), F104, F105, (by omega), ha.sub ⟨rfl, rfl, rfl, rfl, rfl, rfl, rfl, trivial⟩⟩
            · try replace q_C := of_decide_eq_false q_C
              refine CW.exit ?_
              refine NW.thenExit ?_
              refine NW.thenExit ?_
              refine NW.blockHit ?_
              refine NW.next ?_
              refine CW.seq ?_
              refine CW.region ?_
              refine WL.y rfl rfl (yi_move rfl) ?_
              refine WL.y rfl rfl (yi_move rfl) ?_
              refine WL.y rfl rfl (yi_move rfl) ?_
              have hinx : i = nx.length := by omega
              subst hinx
              refine WL.e rfl rfl (ef_call Try.call35 rfl (has_c Ar cr zs b _ _ RR (by omega))) ?_
              rintro _ w110 ⟨rfl, rfl⟩
              refine WL.y rfl rfl (yi_neqB Try.runUnderlying4 rfl rfl) ?_
              refine WL.as_ (t := 68) (v' := .bool false) rfl (congrArg Value.bool (by have h1 := hov.trans (hop_iff hnx); have h2 := hzs2 b; rw [← h1] at h2; cases ov <;> simp [h2])) ?_
              refine WL.done ?_
              refine NW.next ?_
              refine CW.condF rfl ?_
              refine CW.skip ?_
              refine NW.blockEnd ?_
              refine NW.next ?_
              refine CW.region ?_
              refine WL.y rfl rfl (yi_move rfl) ?_
              refine WL.y rfl rfl (yi_addI rfl rfl (by omega) (by omega)) ?_
              refine WL.as_ (t := 27) (v' := .int .i64 ((b + 1 : Nat) : Int)) rfl (congrArg (Value.int .i64) (by omega)) ?_
              refine WL.y rfl rfl (yi_assign rfl) ?_
              refine WL.done ?_
              refine NW.round (10 - (b + 1)) (by omega) ?_
              exact fun x ha => ⟨b + 1, rfl, by omega, fr, TB, RH, (by omega), RN, RR, (by omega), ha.sub ⟨rfl, rfl, rfl, rfl, rfl, trivial⟩⟩
        · try replace q_B := of_decide_eq_false q_B
          refine CW.exit ?_
          refine NW.thenExit ?_
          refine NW.thenExit ?_
          refine NW.blockHit ?_
          refine NW.next ?_
          refine CW.seq ?_
          refine CW.region ?_
          refine WL.y rfl rfl (yi_assign rfl) ?_
          refine WL.done ?_
          refine NW.next ?_
          refine CW.block ?_
          refine CW.loop (fun mm x w' => ∃ i : Nat, mm = zs.length + 1 - i ∧ 1 ≤ i ∧ i ≤ zs.length + 1 ∧ Same w w' ∧ Blk w' tb #[.int .u64 1, .slice (some ⟨ub, 0, none⟩) 10 10, .slice (some ⟨hb, 0, none⟩) 1 1] 60 ∧ Row dEds w' (fun k => k < z1) (some ⟨hb, 0, none⟩) (betw l).hops ∧ z1 ≤ w'.heap.size ∧ Row dI w' (fun k => k < z2) An nx ∧ Row dI w' (fun k => k < z2) Ar zs ∧ z2 ≤ w'.heap.size ∧ Env 103 [] [(3, .pointer (some ⟨tb, 0, none⟩)), (4, .int .i64 a), (5, .slice An nx.length cn), (6, .slice Ar zs.length cr), (11, .int .i64 i)] x) (zs.length + 1 - 1) ?_ ?_
          · exact fun x ha => ⟨1, rfl, by omega, by omega, fr, TB, RH, (by omega), RN, RR, (by omega), ha.sub ⟨rfl, rfl, rfl, rfl, rfl, trivial⟩⟩
          · rintro mm x w112 ⟨i, rfl, hi1, hii, fr, TB, RH, hz1, RN, RR, hz2, ha⟩
            refine CW.at ha ?_
            refine CW.seq ?_
            refine CW.seq ?_
            refine CW.region ?_
            refine WL.y rfl rfl (yi_move rfl) ?_
            refine WL.y rfl rfl (yi_move rfl) ?_
            refine WL.y rfl rfl (yi_len Try.runUnderlying49 rfl) ?_
            refine WL.y rfl rfl (yi_lss rfl rfl) ?_
            refine WL.done ?_
            refine NW.next ?_
            refine CW.cond rfl (fun q_D => ?_) (fun q_D => ?_)
            · try replace q_D := of_decide_eq_true q_D
              obtain ⟨y, hy⟩ : ∃ y, zs[i - 1]? = some y := ⟨zs[i - 1]'(by omega), List.getElem?_eq_getElem (by omega)⟩
              obtain ⟨y2, hy2⟩ : ∃ y, zs[i]? = some y := ⟨zs[i]'(by omega), List.getElem?_eq_getElem (by omega)⟩
              obtain ⟨ad, hA, hcell⟩ := int_at RR hy
              subst hA
              obtain ⟨ad2, hA, hcell2⟩ := int_at RR hy2
              injection hA with hA
              subst hA
              have hlt := rise_at hzs1 hy hy2 (by omega)
              refine CW.skip ?_
              refine NW.next ?_
              refine CW.seq ?_
              refine CW.block ?_
              refine CW.seq ?_
              have fd113 : Same w112 w112.drew := Only.drew _ _
              obtain ⟨w114, hww114⟩ : ∃ wz, wz = w112.drew := ⟨_, rfl⟩
              rw [← hww114] at fd113
              have F115 := Only.same fr fd113
              have F116 := Blk.same TB fd113
              have F117 := Row.same (by decide) RH fd113
              have F118 := Row.same (by decide) RN fd113
              have F119 := Row.same (by decide) RR fd113
              have F120 := Only.cell fd113 hcell (fun hl => hl)
              have F121 := Only.cell fd113 hcell2 (fun hl => hl)
              have sz122 := fd113.size
              refine CW.draw 10 [(0, true), (1, true), (2, true), (3, true), (4, true), (5, true), (6, true), (7, true), (8, true), (9, true)] (fun w' => Blk w' tb _ _ ∧ World.cell? w' (ad.add (i - 1)) = some (.int .i64 y) ∧ World.cell? w' (ad.add i) = some (.int .i64 y2)) Try_mixed (by kernel_rfl) (fun _ _ _ _ h => h) hww114 ⟨F116, F120, F121⟩ ?_
              refine PL.y rfl rfl rfl (fun w' hS => yi_move rfl) ?_
              refine PL.y rfl rfl rfl (fun w' hS => yi_move rfl) ?_
              refine PL.y rfl rfl rfl (fun w' hS => yi_subI rfl rfl (by omega) (by omega)) ?_
              refine PL.as_ (t := 77) (v' := .int .i64 ((i - 1 : Nat) : Int)) rfl (congrArg (Value.int .i64) (by omega)) ?_
              refine PL.y rfl rfl rfl (fun w' hS => yi_indexAddr Try.runUnderlying49 Try.sizeOf3 rfl rfl (by omega) (by omega)) ?_
              refine PL.as_ (t := 78) (v' := .pointer (some (ad.add (i - 1)))) rfl (by rw [Int.toNat_natCast, Nat.mul_one]) ?_
              refine PL.y rfl rfl rfl (fun w' hS => yi_load1 Try.isAgg3 rfl hS.2.1) ?_
              refine PL.y rfl rfl rfl (fun w' hS => yi_move rfl) ?_
              refine PL.y rfl rfl rfl (fun w' hS => yi_move rfl) ?_
              refine PL.y rfl rfl rfl (fun w' hS => yi_indexAddr Try.runUnderlying49 Try.sizeOf3 rfl rfl (by omega) (by omega)) ?_
              refine PL.as_ (t := 82) (v' := .pointer (some (ad.add i))) rfl (by rw [Int.toNat_natCast, Nat.mul_one]) ?_
              refine PL.y rfl rfl rfl (fun w' hS => yi_load1 Try.isAgg3 rfl hS.2.2) ?_
              refine PL.y rfl rfl rfl (fun w' hS => yi_geq rfl rfl) ?_
              refine PL.as_ (t := 84) (v' := .bool false) rfl (congrArg Value.bool (by simp; omega)) ?_
              refine PL.done ?_
              refine NW.next ?_
              refine CW.condF rfl ?_
              refine CW.skip ?_
              refine NW.blockEnd ?_
              refine NW.next ?_
              refine CW.region ?_
              refine WL.y rfl rfl (yi_move rfl) ?_
              refine WL.y rfl rfl (yi_addI rfl rfl (by omega) (by omega)) ?_
              refine WL.as_ (t := 74) (v' := .int .i64 ((i + 1 : Nat) : Int)) rfl (congrArg (Value.int .i64) (by omega)) ?_
              refine WL.y rfl rfl (yi_assign rfl) ?_
              refine WL.done ?_
              refine NW.round (zs.length + 1 - (i + 1)) (by omega) ?_
              exact fun x ha => ⟨i + 1, rfl, by omega, by omega, F115, F116, F117, (by omega), F118, F119, (by omega), ha.sub ⟨rfl, rfl, rfl, rfl, rfl, trivial⟩⟩
            · try replace q_D := of_decide_eq_false q_D
              refine CW.exit ?_
              refine NW.thenExit ?_
              refine NW.thenExit ?_
              refine NW.blockHit ?_
              refine NW.blockEnd ?_
              refine NW.next ?_
              refine CW.region ?_
              refine WL.y rfl rfl (yi_move rfl) ?_
              refine WL.y rfl rfl (yi_addI rfl rfl (by omega) (by omega)) ?_
              refine WL.as_ (t := 17) (v' := .int .i64 ((a + 1 : Nat) : Int)) rfl (congrArg (Value.int .i64) (by omega)) ?_
              refine WL.y rfl rfl (yi_assign rfl) ?_
              refine WL.done ?_
              refine NW.round (10 - (a + 1)) (by omega) ?_
              exact fun x ha => ⟨a + 1, rfl, by omega, fr, TB, RH, (by omega), ha.sub ⟨rfl, rfl, trivial⟩⟩
    · try replace q_A := of_decide_eq_false q_A
      refine CW.exit ?_
      refine NW.thenExit ?_
      refine NW.thenExit ?_
      refine NW.blockHit ?_
      refine NW.next ?_
      refine CW.seq ?_
      refine CW.region ?_
      refine WL.y rfl rfl (yi_loadW Try.isAgg60 Try.sizeOf60 rfl (by assumption) rfl) ?_
      refine WL.e rfl rfl (ef_call Try.call38 rfl (next_c (betw l) (some ⟨ub, 0, none⟩) (some ⟨hb, 0, none⟩) 10 1 _ _ RH (Nat.le_refl 1) (by decide) 1 0 (fun k hk => by have hk : k < z1 := hk; omega) (Nat.le_trans (betw_len l _) (by decide)))) ?_
      rintro u_e1 w123 ⟨hO125, f124⟩
      rw [next_none (betw_1 l)] at hO125
      obtain ⟨Ae1, ce1, hv126, hc127, hm128, RR129, -⟩ := hO125.row (by decide)
      subst hv126
      have F130 := Only.same fr f124
      have F131 := Blk.same TB f124
      have F132 := Row.same (by decide) RH f124
      have sz133 := f124.size
      refine WL.y rfl rfl (yi_len Try.runUnderlying49 rfl) ?_
      refine WL.y rfl rfl (yi_eql rfl rfl) ?_
      refine WL.as_ (t := 88) (v' := .bool true) rfl (congrArg Value.bool (by decide)) ?_
      refine WL.y rfl rfl (yi_move rfl) ?_
      refine WL.gy rfl rfl rfl rfl rfl (yi_loadW Try.isAgg60 Try.sizeOf60 rfl (by assumption) rfl) ?_
      refine WL.ge rfl rfl rfl rfl rfl (ef_call Try.call36 rfl (reach_c (betw l) (some ⟨ub, 0, none⟩) (some ⟨hb, 0, none⟩) 10 1 _ _ F132 (Nat.le_refl 1) (by decide) (-1) 0 (fun k hk => by have hk : k < z1 := hk; omega) (Nat.le_trans (betw_len l _) (by decide)))) ?_
      rintro u_e2 w134 ⟨ze, hO136, hz1e, hz2e, f135⟩
      obtain rfl := reach_none (betw_m l) hz2e
      obtain ⟨Ae2, ce2, hv137, hc138, hm139, RR140, -⟩ := hO136.row (by decide)
      subst hv137
      have F141 := Only.same F130 f135
      have F142 := Blk.same F131 f135
      have F143 := Row.same (by decide) F132 f135
      have F144 := Row.same (by decide) RR129 f135
      clear F130 F131 F132
      have sz145 := f135.size
      refine WL.gy rfl rfl rfl rfl rfl (yi_len Try.runUnderlying49 rfl) ?_
      refine WL.gy rfl rfl rfl rfl rfl (yi_eql rfl rfl) ?_
      refine WL.as_ (t := 93) (v' := .bool true) rfl (congrArg Value.bool (by decide)) ?_
      refine WL.y rfl rfl (yi_pickT rfl rfl) ?_
      refine WL.y rfl rfl (yi_move rfl) ?_
      refine WL.gy rfl rfl rfl rfl rfl (yi_loadW Try.isAgg60 Try.sizeOf60 rfl (by assumption) rfl) ?_
      refine WL.ge rfl rfl rfl rfl rfl (ef_call Try.call40 rfl (edge_c (betw l) (some ⟨ub, 0, none⟩) (some ⟨hb, 0, none⟩) 10 1 _ _ F143 (Nat.le_refl 1) (by decide) 1 0 1 (Nat.le_trans (betw_len l _) (by decide)))) ?_
      rintro _ w146 ⟨rfl, f147⟩
      have F148 := Only.same F141 f147
      have F149 := Blk.same F142 f147
      have F150 := Row.same (by decide) F143 f147
      have F151 := Row.same (by decide) F144 f147
      have F152 := Row.same (by decide) RR140 f147
      clear F141 F142 F143 F144
      have sz153 := f147.size
      refine WL.as_ (t := 97) (v' := .bool false) rfl (congrArg Value.bool (by rw [betw_1]; simp)) ?_
      refine WL.gy rfl rfl rfl rfl rfl (yi_not rfl) ?_
      refine WL.y rfl rfl (yi_pickT rfl rfl) ?_
      refine WL.y rfl rfl (yi_move rfl) ?_
      refine WL.ge rfl rfl rfl rfl rfl (ef_call Try.call37 rfl (twakes_c _)) ?_
      rintro _ w154 ⟨rfl, f155⟩
      have F156 := Only.same F148 f155
      have F157 := Blk.same F149 f155
      have F158 := Row.same (by decide) F150 f155
      have F159 := Row.same (by decide) F151 f155
      have F160 := Row.same (by decide) F152 f155
      clear F148 F149 F150 F151 F152
      have sz161 := f155.size
      refine WL.as_ (t := 101) (v' := .bool true) rfl (rfl) ?_
      refine WL.y rfl rfl (yi_pickT rfl rfl) ?_
      refine WL.y rfl rfl (yi_assign rfl) ?_
      refine WL.done ?_
      refine NW.next ?_
      refine CW.ret ?_
      refine NW.ret1 rfl rfl ?_
      exact ⟨_, rfl, rfl, F156⟩

end Go.Proofs.YtgmjgdjobkmbgaaN
