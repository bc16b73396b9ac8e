/- TopoOrder, walked. -/
import Derived.Test.YtgmjgdjobkmbgaaTopK
set_option linter.unusedVariables false
set_option linter.unusedSimpArgs false
namespace Go.Proofs.YtgmjgdjobkmbgaaN
open Go.Proofs.YtgmjgdjobkmbgaaL Go.RowKit Go.Proofs
attribute [local irreducible] Ef Yi WL PL CW NW Ret
open Go.Lib Go.Sort
def pos (xs : List Int) (n : Int) : Int := match xs.findIdx? (fun x => decide (x = n)) with
  | some j => (j : Int)
  | none => -1
theorem pos_none {xs : List Int} {n : Int} (h : ¬ n ∈ xs) : pos xs n = -1 := by
  unfold pos
  have : xs.findIdx? (fun x => decide (x = n)) = none := by
    rw [List.findIdx?_eq_none_iff]
    intro x hx
    simp only [decide_eq_false_iff_not]
    rintro rfl
    exact h hx
  rw [this]
theorem pos_some {xs : List Int} (hn : xs.Nodup) {j : Nat} {n : Int} (h : xs[j]? = some n) : pos xs n = j := by
  obtain ⟨hj, e⟩ := List.getElem?_eq_some_iff.1 h
  unfold pos
  have : xs.findIdx? (fun x => decide (x = n)) = some j := by
    rw [List.findIdx?_eq_some_iff_getElem]
    refine ⟨hj, by simp [e], fun k hk => ?_⟩
    simp only [decide_eq_true_eq]
    intro h2
    have := List.pairwise_iff_getElem.1 hn k j (by omega) hj hk
    rw [e] at this
    exact this h2
  rw [this]
theorem pos_mem {xs : List Int} (hn : xs.Nodup) {n : Int} : 0 ≤ pos xs n ↔ n ∈ xs := by
  constructor
  · intro h
    apply Classical.byContradiction
    intro h2
    rw [pos_none h2] at h
    omega
  · intro h
    obtain ⟨j, hj, e⟩ := List.getElem_of_mem h
    rw [pos_some hn (j := j) (by rw [List.getElem?_eq_getElem hj, e])]
    omega
theorem pos_step {xs : List Int} (hn : xs.Nodup) {i : Nat} {x : Int} (hx : xs[i]? = some x) (n : Int) : pos (xs.take (i + 1)) n = if n = x then (i : Int) else pos (xs.take i) n := by
  obtain ⟨hi, e⟩ := List.getElem?_eq_some_iff.1 hx
  have ht : xs.take (i + 1) = xs.take i ++ [x] := by rw [List.take_add_one, hx]; rfl
  have hn1 : (xs.take (i + 1)).Nodup := hn.sublist (List.take_sublist _ _)
  split
  · rename_i h
    rw [h]
    refine pos_some hn1 (by rw [List.getElem?_take_of_lt (by omega)]; exact hx)
  · rename_i h
    unfold pos
    have : (xs.take (i + 1)).findIdx? (fun y => decide (y = n)) = (xs.take i).findIdx? (fun y => decide (y = n)) := by
      rw [ht, List.findIdx?_append]
      have h2 : ([x] : List Int).findIdx? (fun y => decide (y = n)) = none := by
        rw [List.findIdx?_eq_none_iff]
        intro y hy
        rw [List.mem_singleton.1 hy]
        simp
        exact fun h3 => h h3.symm
      rw [h2]
      cases (xs.take i).findIdx? (fun y => decide (y = n)) <;> rfl
    rw [this]
def arr (xs : List Int) : Array Value := ((List.range 10).map fun k => Value.int .i64 (pos xs (k : Nat))).toArray
theorem arr_get (xs : List Int) {k : Nat} (hk : k < 10) : (arr xs)[k]? = some (.int .i64 (pos xs (k : Nat))) := by
  unfold arr
  rw [List.getElem?_toArray, List.getElem?_map, List.getElem?_range hk]
  rfl
theorem arr_set {xs : List Int} (hn : xs.Nodup) {i x : Nat} (hx : xs[i]? = some (x : Int)) (hk : x < 10) : putAll (arr (xs.take i)) x [.int .i64 (i : Nat)] = arr (xs.take (i + 1)) := by
  apply Array.ext_getElem?
  intro j
  show ((arr (xs.take i)).setIfInBounds x (.int .i64 (i : Nat)))[j]? = _
  have hsz : ∀ ys : List Int, (arr ys).size = 10 := fun ys => by unfold arr; simp
  by_cases hj : j < 10
  · rw [arr_get _ hj, pos_step hn hx]
    by_cases e : x = j
    · subst e
      rw [Array.getElem?_setIfInBounds_self_of_lt (by rw [hsz]; exact hk), if_pos rfl]
    · rw [Array.getElem?_setIfInBounds_ne e, arr_get _ hj, if_neg (by omega)]
  · rw [Array.getElem?_eq_none (by rw [Array.size_setIfInBounds, hsz]; omega), Array.getElem?_eq_none (by rw [hsz]; omega)]
theorem betw_in {l : List (UInt8 × UInt8)} {e : Ed} (h : e ∈ edgesOf (betw l) 0) : (0 ≤ e.frm ∧ e.frm < 10) ∧ 0 ≤ e.to ∧ e.to < 10 := by
  rw [betw_0] at h
  obtain ⟨p, _, rfl⟩ := List.mem_map.1 h
  simp only [edOf]
  omega
theorem betw_path {l : List (UInt8 × UInt8)} {a b : Int} (h : Path (edgesOf (betw l) 0) a b) : 0 ≤ b ∧ b < 10 := by
  cases h with
  | one h => exact (betw_in h).2
  | more _ h => exact (betw_in h).2
theorem betw_node {l : List (UInt8 × UInt8)} {a : Int} (h : a ∈ nodesOf (edgesOf (betw l) 0)) : 0 ≤ a ∧ a < 10 := by
  obtain ⟨e, he, h | h⟩ := mem_nodes.1 h
  · exact h ▸ (betw_in he).1
  · exact h ▸ (betw_in he).2
theorem ordRes_0 (l : List (UInt8 × UInt8)) : ordRes (betw l) 0 = orderOf (edgesOf (betw l) 0) := rfl
/-- What Order tells, in one form. -/
def OrdIs (l : List (UInt8 × UInt8)) (e : Int) (out : List Int) : Prop := (ordRes (betw l) 0 = some out ∧ e = 0) ∨ (ordRes (betw l) 0 = none ∧ e = 1 ∧ out = [])
theorem circ_iff {l : List (UInt8 × UInt8)} {e : Int} {out : List Int} (h : OrdIs l e out) {cv : Bool} (hc : cv = true ↔ ∃ n : Nat, n < 10 ∧ Path (edgesOf (betw l) 0) n n) : decide ((decide (e = 0)) = cv) = false := by
  have key : (∃ n : Nat, n < 10 ∧ Path (edgesOf (betw l) 0) n n) ↔ ∃ n, Path (edgesOf (betw l) 0) n n := by
    constructor
    · rintro ⟨n, _, h⟩; exact ⟨_, h⟩
    · rintro ⟨n, h⟩
      obtain ⟨h0, h1⟩ := betw_path h
      obtain ⟨m, rfl⟩ := Int.eq_ofNat_of_zero_le h0
      exact ⟨m, by omega, h⟩
  rw [key] at hc
  have ho := order_iff (L := edgesOf (betw l) 0)
  rcases h with ⟨h1, rfl⟩ | ⟨h1, rfl, _⟩
  · have h2 : ∀ n, ¬ Path (edgesOf (betw l) 0) n n := ho.1 ⟨out, h1⟩
    have : cv = false := by
      cases cv with
      | false => rfl
      | true => obtain ⟨n, hn⟩ := hc.1 rfl; exact absurd hn (h2 n)
    subst this
    rfl
  · have : cv = true := hc.2 (Classical.byContradiction fun hh => by
      obtain ⟨o, h3⟩ := ho.2 (fun n hn => hh ⟨n, hn⟩)
      rw [ordRes_0, h3] at h1
      cases h1)
    subst this
    rfl
theorem circ_step {L : List Ed} {i : Nat} {zs : List Int} (hz : ∀ x, x ∈ zs ↔ Path L i x) {cv : Bool} (hc : cv = true ↔ ∃ n : Nat, n < i ∧ Path L n n) (h0 : cv = false) : decide ((i : Int) ∈ zs) = true ↔ ∃ n : Nat, n < i + 1 ∧ Path L n n := by
  rw [decide_eq_true_eq, hz]
  subst h0
  constructor
  · intro h; exact ⟨i, by omega, h⟩
  · rintro ⟨n, hn, h⟩
    by_cases e : n = i
    · subst e; exact h
    · exact absurd (hc.2 ⟨n, by omega, h⟩) (by simp)
theorem there_iff {l : List (UInt8 × UInt8)} {out nx pv : List Int} (hO : OI (edgesOf (betw l) 0) [] out) {n : Nat} (hn : nx = nextOf (betw l) 0 n) (hp : pv = prevOf (betw l) 0 n) : decide (decide (0 ≤ pos out n) ≠ decide (0 < ((nx.length : Nat) : Int) + ((pv.length : Nat) : Int))) = false := by
  have h1 : (n : Int) ∈ out ↔ 0 < nx.length + pv.length := by
    have h2 := hO.all n
    simp only [List.not_mem_nil, false_or] at h2
    rw [← h2, mem_nodes]
    constructor
    · rintro ⟨⟨f, t⟩, he, h | h⟩
      · simp at h; subst h
        have : t ∈ nx := by rw [hn]; exact mem_next.2 he
        have := List.length_pos_of_mem this
        omega
      · simp at h; subst h
        have : f ∈ pv := by rw [hp]; exact mem_prev.2 he
        have := List.length_pos_of_mem this
        omega
    · intro h
      cases hx : nx with
      | cons a r =>
        have : a ∈ nx := by rw [hx]; simp
        rw [hn] at this
        exact ⟨_, mem_next.1 this, .inl rfl⟩
      | nil =>
        cases hy : pv with
        | cons a r =>
          have : a ∈ pv := by rw [hy]; simp
          rw [hp] at this
          exact ⟨_, mem_prev.1 this, .inr rfl⟩
        | nil => rw [hx, hy] at h; simp at h
  have h3 := pos_mem hO.nd (n := (n : Int))
  simp only [ne_eq, decide_eq_false_iff_not, Classical.not_not, decide_eq_decide]
  rw [h3, h1]
  omega
theorem fwd_lt {L : List Ed} {out : List Int} (hO : OI L [] out) {a b : Int} (he : (⟨a, b⟩ : Ed) ∈ L) : pos out a < pos out b := by
  have hb : b ∈ out := ((hO.all b).1 (mem_nodes.2 ⟨_, he, .inr rfl⟩)).elim (fun h => by simp at h) id
  obtain ⟨j, hj⟩ := List.mem_iff_getElem?.1 hb
  obtain ⟨i, hi, hia⟩ := hO.fwd a b he j hj
  rw [pos_some hO.nd hj, pos_some hO.nd hia]
  omega

theorem nodup_at {xs : List Int} (hn : xs.Nodup) {i j : Nat} {x : Int} (hi : xs[i]? = some x) (hj : xs[j]? = some x) (h : i < j) : False := by
  obtain ⟨h1, h2⟩ := List.getElem?_eq_some_iff.1 hi
  obtain ⟨h3, h4⟩ := List.getElem?_eq_some_iff.1 hj
  exact List.pairwise_iff_getElem.1 hn i j h1 h3 h (by rw [h2, h4])
theorem row_block {w : World} {z : Nat} {ad : Addr} {A : Option Addr} {L : List Int} {k : Nat} {x : Int} (R : Row dI w (fun k => k < z) A L) (hx : L[k]? = some x) (hA : A = some ad) : ad.block < z := by
  obtain ⟨ad', cs, h1, h2, _⟩ := R.get hx
  rw [h1] at hA
  injection hA with hA
  exact hA ▸ h2
theorem ord_len {l : List (UInt8 × UInt8)} {out : List Int} (h : ordRes (betw l) 0 = some out) : out.length ≤ 1000 := by
  have hO := order_some (h : orderOf (edgesOf (betw l) 0) = some out)
  have := nodup_le (m := (List.range 10).map Int.ofNat) hO.nd (fun x hx => by
    obtain ⟨h0, h1⟩ := betw_node ((hO.all x).2 (.inr hx))
    obtain ⟨m, rfl⟩ := Int.eq_ofNat_of_zero_le h0
    exact List.mem_map.2 ⟨m, List.mem_range.2 (by omega), rfl⟩)
  simp at this
  omega

theorem orderLaw_c (A : Option Addr) (c : Nat) (l : List (UInt8 × UInt8)) (ok : Nat → Prop) (w : World) (R : Row dPr w ok A l) (hok : ∀ k, ok k → k < w.heap.size) (hc : l.length ≤ c) :
    Ret Try.prog 5 [.slice A l.length c] w fun u w' => u = .bool true ∧ Same w w' := by
  have fr0 : Only (fun _ => False) w w := Only.refl _ _
  refine Ret.go Try.func5 rfl Try.ntmps5 rfl ?_
  refine CW.seq ?_
  refine CW.region ?_
  refine WL.y rfl rfl (yi_assign rfl) ?_
  refine WL.done ?_
  refine NW.next ?_
  refine CW.seq ?_
  refine CW.region ?_
  refine WL.y rfl rfl (yi_move rfl) ?_
  refine WL.e rfl rfl (ef_call Try.call33 rfl (between_c A c l _ _ R (fun k hk => by have := hok k hk; omega) hc)) ?_
  rintro _ w1 ⟨ub, hb, rfl, RH3, UB4, f2⟩
  obtain ⟨z1, hz1⟩ : ∃ z, z = w1.heap.size := ⟨_, rfl⟩
  have RB5 := Row.mono (ok' := fun k => k < z1) (fun k hk => by rw [hz1]; exact hk.2) (Row.bound (by decide) RH3)
  have F6 := Row.same (by decide) R f2
  have F7 := Only.same fr0 f2
  have sz8 := f2.size
  refine WL.e rfl rfl (ef_alloc Try.zeroValue60) ?_
  rintro _ w14 ⟨tb, hb_tb, rfl, f11, B12, z_tb⟩
  have F15 := Row.same (by decide) F6 f11
  have F16 := Only.same F7 f11
  have F17 := Row.same (by decide) RB5 f11
  clear F6 F7
  have sz18 := f11.size
  refine WL.e rfl rfl (ef_store (b := tb) Try.sizeOf60 rfl rfl B12 rfl rfl rfl) ?_
  rintro _ w22 ⟨rfl, f19, B20, z21⟩
  have F23 := Row.only (by decide) F15 f19 (fun k hk hok' hl => by have hl : k = _ := hl; have := hok k hok'; omega)
  have F24 := Only.trans F16 f19 (fun i hi hl => by have hl : i = _ := hl; omega)
  have F25 := Row.only (by decide) F17 f19 (fun k hk hok' hl => by have hl : k = _ := hl; have hok' : k < z1 := hok'; omega)
  clear F15 F16 F17
  refine WL.done ?_
  refine NW.next ?_
  refine CW.seq ?_
  refine CW.region ?_
  refine WL.y rfl rfl (yi_loadW Try.isAgg60 Try.sizeOf60 rfl (by assumption) rfl) ?_
  refine WL.e rfl rfl (ef_call Try.call34 rfl (order_c (betw l) (some ⟨ub, 0, none⟩) (some ⟨hb, 0, none⟩) 10 1 _ _ F25 (Nat.le_refl 1) (by decide) 0 (fun k hk => by have hk : k < z1 := hk; omega) (Nat.le_trans (betw_len l _) (by decide)))) ?_
  rintro _ w26 ⟨v, e, rfl, f27, hres⟩
  obtain ⟨Ao, co, out, rfl, hOl, RO28, hOI⟩ : ∃ Ao co out, v = .slice Ao out.length co ∧ out.length ≤ 1000 ∧ Row dI w26 (fun k => w22.heap.size ≤ k) Ao out ∧ OrdIs l e out := by
      rcases hres with ⟨out, h1, h2, h3⟩ | ⟨h1, h2, h3⟩
      · obtain ⟨A', c', h4, _, _, h5, _⟩ := h3.row (by decide)
        exact ⟨A', c', out, h4, ord_len h1, h5, .inl ⟨h1, h2⟩⟩
      · exact ⟨none, 0, [], h3, by simp, Row.nil _ _ _ _, .inr ⟨h1, h2, rfl⟩⟩
  obtain ⟨z2, hz2⟩ : ∃ z, z = w26.heap.size := ⟨_, rfl⟩
  have RO229 := Row.mono (ok' := fun k => k < z2) (fun k hk => by rw [hz2]; exact hk.2) (Row.bound (by decide) RO28)
  have F30 := Row.same (by decide) F23 f27
  have F31 := Only.same F24 f27
  have F32 := Row.same (by decide) F25 f27
  have F33 := Blk.same B20 f27
  clear F23 F24 F25
  have sz34 := f27.size
  refine WL.y rfl rfl (yi_move rfl) ?_
  refine WL.y rfl rfl (yi_extract rfl rfl) ?_
  refine WL.y rfl rfl (yi_extract rfl rfl) ?_
  refine WL.y rfl rfl (yi_assign rfl) ?_
  refine WL.y rfl rfl (yi_assign rfl) ?_
  refine WL.done ?_
  refine NW.next ?_
  refine CW.seq ?_
  refine CW.region ?_
  refine WL.y rfl rfl (yi_assign rfl) ?_
  refine WL.done ?_
  refine NW.next ?_
  refine CW.seq ?_
  refine CW.seq ?_
  refine CW.region ?_
  refine WL.y rfl rfl (yi_assign rfl) ?_
  refine WL.done ?_
  refine NW.next ?_
  refine CW.block ?_
  refine CW.loop (fun mm x w' => ∃ (i : Nat) (cv : Bool), mm = 10 - i ∧ i ≤ 10 ∧ (cv = true ↔ ∃ n : Nat, n < i ∧ Path (edgesOf (betw l) 0) n n) ∧ Same w w' ∧ Blk w' tb #[.int .u64 1, .slice (some ⟨ub, 0, none⟩) 10 10, .slice (some ⟨hb, 0, none⟩) 1 1] 60 ∧ Row dEds w' (fun k => k < z1) (some ⟨hb, 0, none⟩) (betw l).hops ∧ z1 ≤ w'.heap.size ∧ Row dI w' (fun k => k < z2) Ao out ∧ z2 ≤ w'.heap.size ∧ Env 150 [] [(3, .pointer (some ⟨tb, 0, none⟩)), (4, .slice Ao out.length co), (5, .int .i64 e), (6, .bool cv), (7, .int .i64 i)] x) (10) ?_ ?_
  · exact fun x ha => ⟨0, _, rfl, by omega, by simp, F31, F33, F32, (by omega), RO229, (by omega), ha.sub ⟨rfl, rfl, rfl, rfl, rfl, trivial⟩⟩
  · rintro mm x w35 ⟨i, cv, rfl, hi, hcv, fr, TB, RH, hz1, RO, hz2, ha⟩
    refine CW.at ha ?_
    refine CW.seq ?_
    refine CW.seq ?_
    refine CW.region ?_
    refine WL.y rfl rfl (yi_move rfl) ?_
    refine WL.y rfl rfl (yi_lss rfl rfl) ?_
    refine WL.done ?_
    refine NW.next ?_
    refine CW.cond rfl (fun q_A => ?_) (fun q_A => ?_)
    · try replace q_A := of_decide_eq_true q_A
      refine CW.skip ?_
      refine NW.next ?_
      refine CW.seq ?_
      refine CW.block ?_
      refine CW.region ?_
      refine WL.y rfl rfl (yi_move rfl) ?_
      refine WL.y rfl rfl (yi_move rfl) ?_
      refine WL.split (t := 27) rfl (fun q_AT => ?_) (fun q_AT => ?_)
      · try replace q_AT := of_decide_eq_true q_AT
        refine WL.no rfl rfl rfl rfl rfl rfl ?_
        refine WL.no rfl rfl rfl rfl rfl rfl ?_
        refine WL.no rfl rfl rfl rfl rfl rfl ?_
        refine WL.no rfl rfl rfl rfl rfl rfl ?_
        refine WL.no rfl rfl rfl rfl rfl rfl ?_
        refine WL.y rfl rfl (yi_pickT rfl rfl) ?_
        refine WL.y rfl rfl (yi_assign rfl) ?_
        refine WL.done ?_
        refine NW.blockEnd ?_
        refine NW.next ?_
        refine CW.region ?_
        refine WL.y rfl rfl (yi_move rfl) ?_
        refine WL.y rfl rfl (yi_addI rfl rfl (by omega) (by omega)) ?_
        refine WL.as_ (t := 25) (v' := .int .i64 ((i + 1 : Nat) : Int)) rfl (congrArg (Value.int .i64) (by omega)) ?_
        refine WL.y rfl rfl (yi_assign rfl) ?_
        refine WL.done ?_
        refine NW.round (10 - (i + 1)) (by omega) ?_
        exact fun x ha => ⟨i + 1, true, rfl, by omega, ⟨fun _ => by obtain ⟨n, h1, h2⟩ := hcv.1 q_AT; exact ⟨n, by omega, h2⟩, fun _ => rfl⟩, fr, TB, RH, (by omega), RO, (by omega), ha.sub ⟨rfl, rfl, rfl, rfl, rfl, trivial⟩⟩
      · try replace q_AT := of_decide_eq_false q_AT
        refine WL.gy rfl rfl rfl rfl rfl (yi_loadW Try.isAgg60 Try.sizeOf60 rfl (by assumption) rfl) ?_
        refine WL.gy rfl rfl rfl rfl rfl (yi_move rfl) ?_
        refine WL.ge rfl rfl rfl rfl rfl (ef_call Try.call36 rfl (reach_c (betw l) (some ⟨ub, 0, none⟩) (some ⟨hb, 0, none⟩) 10 1 _ _ RH (Nat.le_refl 1) (by decide) 0 i (fun k hk => by have hk : k < z1 := hk; omega) (Nat.le_trans (betw_len l _) (by decide)))) ?_
        rintro u_r w36 ⟨zs, hO38, hzs1, hzs2, f37⟩
        have hlen_r := zs_len hzs1 hzs2 (betw_len l 0)
        obtain ⟨Ar, cr, hv39, hc40, hm41, RR42, -⟩ := hO38.row (by decide)
        subst hv39
        have F43 := Only.same fr f37
        have F44 := Blk.same TB f37
        have F45 := Row.same (by decide) RH f37
        have F46 := Row.same (by decide) RO f37
        have sz47 := f37.size
        refine WL.gy rfl rfl rfl rfl rfl (yi_move rfl) ?_
        refine WL.ge rfl rfl rfl rfl rfl (ef_call Try.call35 rfl (has_c Ar cr zs i _ _ RR42 (by omega))) ?_
        rintro _ w48 ⟨rfl, rfl⟩
        refine WL.y rfl rfl (yi_pickF rfl rfl) ?_
        refine WL.y rfl rfl (yi_assign rfl) ?_
        refine WL.done ?_
        refine NW.blockEnd ?_
        refine NW.next ?_
        refine CW.region ?_
        refine WL.y rfl rfl (yi_move rfl) ?_
        refine WL.y rfl rfl (yi_addI rfl rfl (by omega) (by omega)) ?_
        refine WL.as_ (t := 25) (v' := .int .i64 ((i + 1 : Nat) : Int)) rfl (congrArg (Value.int .i64) (by omega)) ?_
        refine WL.y rfl rfl (yi_assign rfl) ?_
        refine WL.done ?_
        refine NW.round (10 - (i + 1)) (by omega) ?_
        exact fun x ha => ⟨i + 1, _, rfl, by omega, circ_step hzs2 hcv q_AT, F43, F44, F45, (by omega), F46, (by omega), ha.sub ⟨rfl, rfl, rfl, rfl, rfl, trivial⟩⟩
    · try replace q_A := of_decide_eq_false q_A
      refine CW.exit ?_
      refine NW.thenExit ?_
      refine NW.thenExit ?_
      refine NW.blockHit ?_
      refine NW.next ?_
      refine CW.seq ?_
      refine CW.seq ?_
      refine CW.region ?_
      refine WL.y rfl rfl (yi_move rfl) ?_
      refine WL.y rfl rfl (yi_eql rfl rfl) ?_
      refine WL.y rfl rfl (yi_move rfl) ?_
      refine WL.y rfl rfl (yi_eqlB Try.runUnderlying4 rfl rfl) ?_
      refine WL.as_ (t := 37) (v' := .bool false) rfl (congrArg Value.bool (circ_iff hOI (by have hi10 : i = 10 := (by omega); rw [hi10] at hcv; exact hcv))) ?_
      refine WL.done ?_
      refine NW.next ?_
      refine CW.condF rfl ?_
      refine CW.skip ?_
      refine NW.next ?_
      refine CW.seq ?_
      refine CW.seq ?_
      refine CW.region ?_
      refine WL.y rfl rfl (yi_move rfl) ?_
      refine WL.y rfl rfl (yi_neq rfl rfl) ?_
      refine WL.done ?_
      refine NW.next ?_
      refine CW.cond rfl (fun q_AF => ?_) (fun q_AF => ?_)
      · try replace q_AF := of_decide_eq_true q_AF
        obtain ⟨he1, hout⟩ : e = 1 ∧ out = [] := hOI.elim (fun h => absurd h.2 q_AF) (fun h => h.2)
        subst he1
        subst hout
        refine CW.seq ?_
        refine CW.region ?_
        refine WL.y rfl rfl (yi_move rfl) ?_
        refine WL.y rfl rfl (yi_eql rfl rfl) ?_
        refine WL.as_ (t := 41) (v' := .bool true) rfl (congrArg Value.bool (by decide)) ?_
        refine WL.y rfl rfl (yi_move rfl) ?_
        refine WL.gy rfl rfl rfl rfl rfl (yi_move rfl) ?_
        refine WL.gy rfl rfl rfl rfl rfl (yi_len Try.runUnderlying49 rfl) ?_
        refine WL.gy rfl rfl rfl rfl rfl (yi_eql rfl rfl) ?_
        refine WL.as_ (t := 45) (v' := .bool true) rfl (congrArg Value.bool (by decide)) ?_
        refine WL.y rfl rfl (yi_pickT rfl rfl) ?_
        refine WL.y rfl rfl (yi_move rfl) ?_
        refine WL.ge rfl rfl rfl rfl rfl (ef_call Try.call37 rfl (twakes_c _)) ?_
        rintro _ w50 ⟨rfl, f51⟩
        have F52 := Only.same fr f51
        have F53 := Blk.same TB f51
        have F54 := Row.same (by decide) RH f51
        have F55 := Row.same (by decide) RO f51
        have sz56 := f51.size
        refine WL.as_ (t := 48) (v' := .bool true) rfl (rfl) ?_
        refine WL.y rfl rfl (yi_pickT rfl rfl) ?_
        refine WL.y rfl rfl (yi_assign rfl) ?_
        refine WL.done ?_
        refine NW.next ?_
        refine CW.ret ?_
        refine NW.thenRet ?_
        refine NW.ret1 rfl rfl ?_
        exact ⟨_, rfl, rfl, F52⟩
      · try replace q_AF := of_decide_eq_false q_AF
        have he0 : e = 0 := Classical.not_not.1 q_AF
        subst he0
        have hO : OI (edgesOf (betw l) 0) [] out := hOI.elim (fun h => order_some h.1) (fun h => absurd h.2.1 (by decide))
        have hin : ∀ (j : Nat) x, out[j]? = some x → ∃ m : Nat, x = m ∧ m < 10 := fun j x hx => by
              obtain ⟨h0, h1⟩ := betw_node ((hO.all x).2 (.inr (List.mem_of_getElem? hx)))
              obtain ⟨m, rfl⟩ := Int.eq_ofNat_of_zero_le h0
              exact ⟨m, rfl, by omega⟩
        refine CW.skip ?_
        refine NW.next ?_
        refine CW.seq ?_
        refine CW.region ?_
        refine WL.y rfl rfl (yi_buildArr Try.runUnderlying80 Try.sizeOf3 Try.zeroValue80 rfl (fun _ => by kernel_rfl)) ?_
        refine WL.e rfl rfl (ef_alloc Try.zeroValue80) ?_
        rintro _ w62 ⟨ab, hb_ab, rfl, f59, B60, z_ab⟩
        have F63 := Only.same fr f59
        have F64 := Blk.same TB f59
        have F65 := Row.same (by decide) RH f59
        have F66 := Row.same (by decide) RO f59
        have sz67 := f59.size
        refine WL.e rfl rfl (ef_store (b := ab) Try.sizeOf80 rfl rfl B60 rfl rfl rfl) ?_
        rintro _ w71 ⟨rfl, f68, B69, z70⟩
        have F72 := Only.trans F63 f68 (fun i hi hl => by have hl : i = _ := hl; omega)
        have F73 := Blk.only F64 f68 (by show ¬ (_ = _); omega)
        have F74 := Row.only (by decide) F65 f68 (fun k hk hok' hl => by have hl : k = _ := hl; have hok' : k < z1 := hok'; omega)
        have F75 := Row.only (by decide) F66 f68 (fun k hk hok' hl => by have hl : k = _ := hl; have hok' : k < z2 := hok'; omega)
        clear F63 F64 F65 F66
        refine WL.done ?_
        refine NW.next ?_
        refine CW.seq ?_
        refine CW.seq ?_
        refine CW.region ?_
        refine WL.y rfl rfl (yi_assign rfl) ?_
        refine WL.done ?_
        refine NW.next ?_
        refine CW.block ?_
        refine CW.loop (fun mm x w' => ∃ (i : Nat), mm = out.length - i ∧ i ≤ out.length ∧ Same w w' ∧ Blk w' tb #[.int .u64 1, .slice (some ⟨ub, 0, none⟩) 10 10, .slice (some ⟨hb, 0, none⟩) 1 1] 60 ∧ Row dEds w' (fun k => k < z1) (some ⟨hb, 0, none⟩) (betw l).hops ∧ z1 ≤ w'.heap.size ∧ Row dI w' (fun k => k < z2) Ao out ∧ z2 ≤ w'.heap.size ∧ Blk w' ab (arr (out.take i)) 80 ∧ z2 ≤ ab ∧ z1 ≤ ab ∧ tb < ab ∧ Env 150 [] [(3, .pointer (some ⟨tb, 0, none⟩)), (4, .slice Ao out.length co), (5, .int .i64 0), (8, .pointer (some ⟨ab, 0, none⟩)), (9, .int .i64 i)] x) (out.length) ?_ ?_
        · exact fun x ha => ⟨0, rfl, by omega, F72, F73, F74, (by omega), F75, (by omega), B69, (by omega), (by omega), (by omega), ha.sub ⟨rfl, rfl, rfl, rfl, rfl, trivial⟩⟩
        · rintro mm x w76 ⟨i, rfl, hi2, fr, TB, RH, hz1, RO, hz2, AB, hab1, hab2, hab3, ha⟩
          refine CW.at ha ?_
          have habl := AB.lt
          refine CW.seq ?_
          refine CW.seq ?_
          refine CW.region ?_
          refine WL.y rfl rfl (yi_move rfl) ?_
          refine WL.y rfl rfl (yi_move rfl) ?_
          refine WL.y rfl rfl (yi_len Try.runUnderlying49 rfl) ?_
          refine WL.y rfl rfl (yi_lss rfl rfl) ?_
          refine WL.done ?_
          refine NW.next ?_
          refine CW.cond rfl (fun q_B => ?_) (fun q_B => ?_)
          · try replace q_B := of_decide_eq_true q_B
            obtain ⟨y, hy⟩ : ∃ y, out[i]? = some y := ⟨out[i]'(by omega), List.getElem?_eq_getElem (by omega)⟩
            obtain ⟨m, rfl, hm10⟩ := hin i y hy
            obtain ⟨ad, hA, hcell⟩ := int_at RO hy
            subst hA
            have hnew : pos (out.take i) m = -1 := pos_none (fun hh => by obtain ⟨j, hj⟩ := List.mem_iff_getElem?.1 hh; rw [List.getElem?_take] at hj; split at hj; exact nodup_at hO.nd hj hy (by omega); cases hj)
            have hbo : ad.block < z2 := row_block RO hy rfl
            refine CW.skip ?_
            refine NW.next ?_
            refine CW.seq ?_
            refine CW.block ?_
            refine CW.seq ?_
            refine CW.seq ?_
            refine CW.region ?_
            refine WL.y rfl rfl (yi_move rfl) ?_
            refine WL.y rfl rfl (yi_move rfl) ?_
            refine WL.y rfl rfl (yi_indexAddr Try.runUnderlying49 Try.sizeOf3 rfl rfl (by omega) (by omega)) ?_
            refine WL.as_ (t := 59) (v' := .pointer (some (ad.add i))) rfl (by rw [Int.toNat_natCast, Nat.mul_one]) ?_
            refine WL.y rfl rfl (yi_load1 Try.isAgg3 rfl hcell) ?_
            refine WL.y rfl rfl (yi_lss rfl rfl) ?_
            refine WL.as_ (t := 61) (v' := .bool false) rfl (congrArg Value.bool (decide_eq_false (by omega))) ?_
            refine WL.y rfl rfl (yi_move rfl) ?_
            refine WL.gy rfl rfl rfl rfl rfl (yi_move rfl) ?_
            refine WL.gy rfl rfl rfl rfl rfl (yi_move rfl) ?_
            refine WL.gy rfl rfl rfl rfl rfl (yi_indexAddr Try.runUnderlying49 Try.sizeOf3 rfl rfl (by omega) (by omega)) ?_
            refine WL.as_ (t := 65) (v' := .pointer (some (ad.add i))) rfl (by rw [Int.toNat_natCast, Nat.mul_one]) ?_
            refine WL.gy rfl rfl rfl rfl rfl (yi_load1 Try.isAgg3 rfl hcell) ?_
            refine WL.gy rfl rfl rfl rfl rfl (yi_gtr rfl rfl) ?_
            refine WL.as_ (t := 67) (v' := .bool false) rfl (congrArg Value.bool (decide_eq_false (by omega))) ?_
            refine WL.y rfl rfl (yi_pickF rfl rfl) ?_
            refine WL.y rfl rfl (yi_move rfl) ?_
            refine WL.gy rfl rfl rfl rfl rfl (yi_move rfl) ?_
            refine WL.gy rfl rfl rfl rfl rfl (yi_move rfl) ?_
            refine WL.gy rfl rfl rfl rfl rfl (yi_indexAddr Try.runUnderlying49 Try.sizeOf3 rfl rfl (by omega) (by omega)) ?_
            refine WL.as_ (t := 72) (v' := .pointer (some (ad.add i))) rfl (by rw [Int.toNat_natCast, Nat.mul_one]) ?_
            refine WL.gy rfl rfl rfl rfl rfl (yi_load1 Try.isAgg3 rfl hcell) ?_
            refine WL.gy rfl rfl rfl rfl rfl (yi_indexAddrArr Try.runUnderlying80 Try.sizeOf3 rfl rfl (by omega) (by omega)) ?_
            refine WL.as_ (t := 74) (v' := .pointer (some ⟨ab, m, none⟩)) rfl (by rw [Int.toNat_natCast, Nat.mul_one, addr_at, Nat.zero_add]) ?_
            refine WL.gy rfl rfl rfl rfl rfl (yi_loadB Try.isAgg3 rfl AB (arr_get _ hm10)) ?_
            refine WL.gy rfl rfl rfl rfl rfl (yi_geq rfl rfl) ?_
            refine WL.as_ (t := 76) (v' := .bool false) rfl (congrArg Value.bool (by rw [hnew]; decide)) ?_
            refine WL.y rfl rfl (yi_pickF rfl rfl) ?_
            refine WL.done ?_
            refine NW.next ?_
            refine CW.condF rfl ?_
            refine CW.skip ?_
            refine NW.next ?_
            refine CW.region ?_
            refine WL.y rfl rfl (yi_move rfl) ?_
            refine WL.y rfl rfl (yi_move rfl) ?_
            refine WL.y rfl rfl (yi_indexAddr Try.runUnderlying49 Try.sizeOf3 rfl rfl (by omega) (by omega)) ?_
            refine WL.as_ (t := 80) (v' := .pointer (some (ad.add i))) rfl (by rw [Int.toNat_natCast, Nat.mul_one]) ?_
            refine WL.y rfl rfl (yi_load1 Try.isAgg3 rfl hcell) ?_
            refine WL.y rfl rfl (yi_move rfl) ?_
            refine WL.y rfl rfl (yi_indexAddrArr Try.runUnderlying80 Try.sizeOf3 rfl rfl (by omega) (by omega)) ?_
            refine WL.as_ (t := 83) (v' := .pointer (some ⟨ab, m, none⟩)) rfl (by rw [Int.toNat_natCast, Nat.mul_one, addr_at, Nat.zero_add]) ?_
            refine WL.e rfl rfl (ef_store (b := ab) Try.sizeOf3 rfl rfl AB rfl (Nat.ble_eq_true_of_le (by unfold arr; simp; omega)) rfl) ?_
            rintro _ w80 ⟨rfl, f77, B78, z79⟩
            have F81 := Only.trans fr f77 (fun i hi hl => by have hl : i = _ := hl; omega)
            have F82 := Blk.only TB f77 (by show ¬ (_ = _); omega)
            have F83 := Row.only (by decide) RH f77 (fun k hk hok' hl => by have hl : k = _ := hl; have hok' : k < z1 := hok'; omega)
            have F84 := Row.only (by decide) RO f77 (fun k hk hok' hl => by have hl : k = _ := hl; have hok' : k < z2 := hok'; omega)
            have F85 := Only.cell f77 hcell (fun hl => by rw [Row.add_block] at hl; have hl : ad.block = ab := hl; have := hbo; omega)
            refine WL.done ?_
            refine NW.blockEnd ?_
            refine NW.next ?_
            refine CW.region ?_
            refine WL.y rfl rfl (yi_move rfl) ?_
            refine WL.y rfl rfl (yi_addI rfl rfl (by omega) (by omega)) ?_
            refine WL.as_ (t := 56) (v' := .int .i64 ((i + 1 : Nat) : Int)) rfl (congrArg (Value.int .i64) (by omega)) ?_
            refine WL.y rfl rfl (yi_assign rfl) ?_
            refine WL.done ?_
            refine NW.round (out.length - (i + 1)) (by omega) ?_
            exact fun x ha => ⟨i + 1, rfl, by omega, F81, F82, F83, (by omega), F84, (by omega), (by have h9 : Blk w80 ab (putAll (arr (out.take i)) m [.int .i64 (i : Nat)]) 80 := B78; rw [arr_set hO.nd hy hm10] at h9; exact h9), (by omega), (by omega), (by omega), ha.sub ⟨rfl, rfl, rfl, rfl, rfl, trivial⟩⟩
          · try replace q_B := of_decide_eq_false q_B
            refine CW.exit ?_
            refine NW.thenExit ?_
            refine NW.thenExit ?_
            refine NW.blockHit ?_
            refine NW.next ?_
            refine CW.seq ?_
            refine CW.seq ?_
            refine CW.region ?_
            refine WL.y rfl rfl (yi_assign rfl) ?_
            refine WL.done ?_
            refine NW.next ?_
            refine CW.block ?_
            refine CW.loop (fun mm x w' => ∃ (n : Nat), mm = 10 - n ∧ n ≤ 10 ∧ Same w w' ∧ Blk w' tb #[.int .u64 1, .slice (some ⟨ub, 0, none⟩) 10 10, .slice (some ⟨hb, 0, none⟩) 1 1] 60 ∧ Row dEds w' (fun k => k < z1) (some ⟨hb, 0, none⟩) (betw l).hops ∧ z1 ≤ w'.heap.size ∧ Row dI w' (fun k => k < z2) Ao out ∧ z2 ≤ w'.heap.size ∧ Blk w' ab (arr (out)) 80 ∧ z2 ≤ ab ∧ z1 ≤ ab ∧ tb < ab ∧ Env 150 [] [(3, .pointer (some ⟨tb, 0, none⟩)), (4, .slice Ao out.length co), (5, .int .i64 0), (8, .pointer (some ⟨ab, 0, none⟩)), (10, .int .i64 n)] x) (10) ?_ ?_
            · have hio : out.take i = out := List.take_of_length_le (by omega)
              exact fun x ha => ⟨0, rfl, by omega, fr, TB, RH, (by omega), RO, (by omega), (by have h9 := AB; rw [hio] at h9; exact h9), (by omega), (by omega), (by omega), ha.sub ⟨rfl, rfl, rfl, rfl, rfl, trivial⟩⟩
            · rintro mm x w86 ⟨n, rfl, hn10, fr, TB, RH, hz1, RO, hz2, AB, hab1, hab2, hab3, ha⟩
              refine CW.at ha ?_
              have habl := AB.lt
              refine CW.seq ?_
              refine CW.seq ?_
              refine CW.region ?_
              refine WL.y rfl rfl (yi_move rfl) ?_
              refine WL.y rfl rfl (yi_lss rfl rfl) ?_
              refine WL.done ?_
              refine NW.next ?_
              refine CW.cond rfl (fun q_C => ?_) (fun q_C => ?_)
              · try replace q_C := of_decide_eq_true q_C
                refine CW.skip ?_
                refine NW.next ?_
                refine CW.seq ?_
                refine CW.block ?_
                refine CW.seq ?_
                have fd87 : Same w86 w86.drew := Only.drew _ _
                obtain ⟨w88, hww88⟩ : ∃ wz, wz = w86.drew := ⟨_, rfl⟩
                rw [← hww88] at fd87
                have F89 := Only.same fr fd87
                have F90 := Blk.same TB fd87
                have F91 := Row.same (by decide) RH fd87
                have F92 := Row.same (by decide) RO fd87
                have F93 := Blk.same AB fd87
                have sz94 := fd87.size
                refine CW.draw 5 [(0, true), (1, true), (3, true), (4, true), (2, false), (5, false), (6, false), (7, false)] (fun w' => Blk w' tb _ _ ∧ Blk w' ab _ _) Try_mixed (by kernel_rfl) (fun _ _ _ _ h => h) hww88 ⟨F90, F93⟩ ?_
                refine PL.y rfl rfl rfl (fun w' hS => by first | exact yi_loadW Try.isAgg60 Try.sizeOf60 rfl hS.1 rfl | exact yi_loadW Try.isAgg60 Try.sizeOf60 rfl hS.2 rfl) ?_
                refine PL.y rfl rfl rfl (fun w' hS => yi_move rfl) ?_
                refine PL.y rfl rfl rfl (fun w' hS => by first | exact yi_loadW Try.isAgg60 Try.sizeOf60 rfl hS.1 rfl | exact yi_loadW Try.isAgg60 Try.sizeOf60 rfl hS.2 rfl) ?_
                refine PL.y rfl rfl rfl (fun w' hS => yi_move rfl) ?_
                refine PL.e rfl rfl rfl (ef_call Try.call38 rfl (next_c (betw l) (some ⟨ub, 0, none⟩) (some ⟨hb, 0, none⟩) 10 1 _ _ F91 (Nat.le_refl 1) (by decide) 0 n (fun k hk => by have hk : k < z1 := hk; omega) (Nat.le_trans (betw_len l _) (by decide)))) ?_
                rintro u_n w95 ⟨hO97, f96⟩
                obtain ⟨nx, hnxd⟩ : ∃ nx, nx = nextOf (betw l) 0 n := ⟨_, rfl⟩
                rw [← hnxd] at hO97
                obtain ⟨An, cn, hv98, hc99, hm100, RR101, -⟩ := hO97.row (by decide)
                subst hv98
                have F102 := Only.same F89 f96
                have F103 := Blk.same F90 f96
                have F104 := Row.same (by decide) F91 f96
                have F105 := Row.same (by decide) F92 f96
                have F106 := Blk.same F93 f96
                clear F89 F90 F91 F92 F93
                have sz107 := f96.size
                refine ⟨fun _ => ⟨F103, F106⟩, ?_⟩
                refine PL.z rfl rfl rfl rfl rfl (ef_call Try.call39 rfl (prev_c (betw l) (some ⟨ub, 0, none⟩) (some ⟨hb, 0, none⟩) 10 1 _ _ F104 (Nat.le_refl 1) (by decide) 0 n (fun k hk => by have hk : k < z1 := hk; omega) (Nat.le_trans (betw_len l _) (by decide)))) ?_
                rintro u_p w108 ⟨hO110, f109⟩
                obtain ⟨pv, hpvd⟩ : ∃ pv, pv = prevOf (betw l) 0 n := ⟨_, rfl⟩
                rw [← hpvd] at hO110
                obtain ⟨Ap, cp, hv111, hc112, hm113, RR114, -⟩ := hO110.row (by decide)
                subst hv111
                have F115 := Only.same F102 f109
                have F116 := Blk.same F103 f109
                have F117 := Row.same (by decide) F104 f109
                have F118 := Row.same (by decide) F105 f109
                have F119 := Blk.same F106 f109
                have F120 := Row.same (by decide) RR101 f109
                clear F102 F103 F104 F105 F106
                have sz121 := f109.size
                obtain ⟨z3, hz3⟩ : ∃ z, z = w108.heap.size := ⟨_, rfl⟩
                have N2122 := Row.mono (ok' := fun k => k < z3) (fun k hk => by rw [hz3]; exact hk.2) (Row.bound (by decide) F120)
                have hlen_n : nx.length ≤ 40 := by rw [hnxd]; exact Nat.le_trans (ends_len _ _) (betw_len l 0)
                have hlen_p : pv.length ≤ 40 := by rw [hpvd]; exact Nat.le_trans (ends_len _ _) (betw_len l 0)
                refine PL.zy rfl rfl rfl rfl rfl (yi_assign rfl) ?_
                refine PL.zy rfl rfl rfl rfl rfl (yi_assign rfl) ?_
                refine PL.done ?_
                refine NW.next ?_
                refine CW.seq ?_
                refine CW.seq ?_
                refine CW.region ?_
                refine WL.y rfl rfl (yi_move rfl) ?_
                refine WL.y rfl rfl (yi_indexAddrArr Try.runUnderlying80 Try.sizeOf3 rfl rfl (by omega) (by omega)) ?_
                refine WL.as_ (t := 95) (v' := .pointer (some ⟨ab, n, none⟩)) rfl (by rw [Int.toNat_natCast, Nat.mul_one, addr_at, Nat.zero_add]) ?_
                refine WL.y rfl rfl (yi_loadB Try.isAgg3 rfl F119 (arr_get _ (by omega))) ?_
                refine WL.y rfl rfl (yi_geq rfl rfl) ?_
                refine WL.y rfl rfl (yi_move rfl) ?_
                refine WL.y rfl rfl (yi_len Try.runUnderlying49 rfl) ?_
                refine WL.y rfl rfl (yi_move rfl) ?_
                refine WL.y rfl rfl (yi_len Try.runUnderlying49 rfl) ?_
                refine WL.y rfl rfl (yi_addI rfl rfl (by omega) (by omega)) ?_
                refine WL.y rfl rfl (yi_gtr rfl rfl) ?_
                refine WL.y rfl rfl (yi_neqB Try.runUnderlying4 rfl rfl) ?_
                refine WL.as_ (t := 104) (v' := .bool false) rfl (congrArg Value.bool (there_iff hO hnxd hpvd)) ?_
                refine WL.done ?_
                refine NW.next ?_
                refine CW.condF rfl ?_
                refine CW.skip ?_
                refine NW.next ?_
                refine CW.seq ?_
                refine CW.region ?_
                refine WL.y rfl rfl (yi_assign rfl) ?_
                refine WL.done ?_
                refine NW.next ?_
                refine CW.block ?_
                refine CW.loop (fun mm x w' => ∃ (i : Nat), mm = nx.length - i ∧ i ≤ nx.length ∧ Same w w' ∧ Blk w' tb #[.int .u64 1, .slice (some ⟨ub, 0, none⟩) 10 10, .slice (some ⟨hb, 0, none⟩) 1 1] 60 ∧ Row dEds w' (fun k => k < z1) (some ⟨hb, 0, none⟩) (betw l).hops ∧ z1 ≤ w'.heap.size ∧ Row dI w' (fun k => k < z2) Ao out ∧ z2 ≤ w'.heap.size ∧ Blk w' ab (arr (out)) 80 ∧ z2 ≤ ab ∧ z1 ≤ ab ∧ tb < ab ∧ Row dI w' (fun k => k < z3) An nx ∧ z3 ≤ w'.heap.size ∧ Env 150 [] [(3, .pointer (some ⟨tb, 0, none⟩)), (4, .slice Ao out.length co), (5, .int .i64 0), (8, .pointer (some ⟨ab, 0, none⟩)), (10, .int .i64 n), (11, .slice An nx.length cn), (13, .int .i64 i)] x) (nx.length) ?_ ?_
                · exact fun x ha => ⟨0, rfl, by omega, F115, F116, F117, (by omega), F118, (by omega), F119, (by omega), (by omega), (by omega), N2122, (by omega), ha.sub ⟨rfl, rfl, rfl, rfl, rfl, rfl, rfl, trivial⟩⟩
                · rintro mm x w123 ⟨i, rfl, hi3, fr, TB, RH, hz1, RO, hz2, AB, hab1, hab2, hab3, RN, hz3, ha⟩
                  refine CW.at ha ?_
                  have habl := AB.lt
                  refine CW.seq ?_
                  refine CW.seq ?_
                  refine CW.region ?_
                  refine WL.y rfl rfl (yi_move rfl) ?_
                  refine WL.y rfl rfl (yi_move rfl) ?_
                  refine WL.y rfl rfl (yi_len Try.runUnderlying49 rfl) ?_
                  refine WL.y rfl rfl (yi_lss rfl rfl) ?_
                  refine WL.done ?_
                  refine NW.next ?_
                  refine CW.cond rfl (fun q_D => ?_) (fun q_D => ?_)
                  · try replace q_D := of_decide_eq_true q_D
                    obtain ⟨y, hy⟩ : ∃ y, nx[i]? = some y := ⟨nx[i]'(by omega), List.getElem?_eq_getElem (by omega)⟩
                    have hed : (⟨n, y⟩ : Ed) ∈ edgesOf (betw l) 0 := mem_next.1 (hnxd ▸ List.mem_of_getElem? hy)
                    obtain ⟨m, rfl⟩ := Int.eq_ofNat_of_zero_le (betw_in hed).2.1
                    have hm10 : m < 10 := by have h9 := (betw_in hed).2.2; have h9 : (m : Int) < 10 := h9; omega
                    obtain ⟨ad, hA, hcell⟩ := int_at RN hy
                    subst hA
                    have hfwd := fwd_lt hO hed
                    refine CW.skip ?_
                    refine NW.next ?_
                    refine CW.seq ?_
                    refine CW.block ?_
                    refine CW.seq ?_
                    have fd124 : Same w123 w123.drew := Only.drew _ _
                    obtain ⟨w125, hww125⟩ : ∃ wz, wz = w123.drew := ⟨_, rfl⟩
                    rw [← hww125] at fd124
                    have F126 := Only.same fr fd124
                    have F127 := Blk.same TB fd124
                    have F128 := Row.same (by decide) RH fd124
                    have F129 := Row.same (by decide) RO fd124
                    have F130 := Blk.same AB fd124
                    have F131 := Row.same (by decide) RN fd124
                    have F132 := Only.cell fd124 hcell (fun hl => hl)
                    have sz133 := fd124.size
                    refine CW.draw 10 [(0, true), (1, true), (2, true), (3, true), (4, true), (5, true), (6, true), (7, true), (8, true), (9, true)] (fun w' => Blk w' tb _ _ ∧ Blk w' ab _ _ ∧ World.cell? w' (ad.add i) = some (.int .i64 m)) Try_mixed (by kernel_rfl) (fun _ _ _ _ h => h) hww125 ⟨F127, F130, F132⟩ ?_
                    refine PL.y rfl rfl rfl (fun w' hS => yi_move rfl) ?_
                    refine PL.y rfl rfl rfl (fun w' hS => yi_move rfl) ?_
                    refine PL.y rfl rfl rfl (fun w' hS => yi_indexAddr Try.runUnderlying49 Try.sizeOf3 rfl rfl (by omega) (by omega)) ?_
                    refine PL.as_ (t := 113) (v' := .pointer (some (ad.add i))) rfl (by rw [Int.toNat_natCast, Nat.mul_one]) ?_
                    refine PL.y rfl rfl rfl (fun w' hS => yi_load1 Try.isAgg3 rfl hS.2.2) ?_
                    refine PL.y rfl rfl rfl (fun w' hS => yi_indexAddrArr Try.runUnderlying80 Try.sizeOf3 rfl rfl (by omega) (by omega)) ?_
                    refine PL.as_ (t := 115) (v' := .pointer (some ⟨ab, m, none⟩)) rfl (by rw [Int.toNat_natCast, Nat.mul_one, addr_at, Nat.zero_add]) ?_
                    refine PL.y rfl rfl rfl (fun w' hS => yi_loadB Try.isAgg3 rfl hS.2.1 (arr_get _ hm10)) ?_
                    refine PL.y rfl rfl rfl (fun w' hS => yi_move rfl) ?_
                    refine PL.y rfl rfl rfl (fun w' hS => yi_indexAddrArr Try.runUnderlying80 Try.sizeOf3 rfl rfl (by omega) (by omega)) ?_
                    refine PL.as_ (t := 118) (v' := .pointer (some ⟨ab, n, none⟩)) rfl (by rw [Int.toNat_natCast, Nat.mul_one, addr_at, Nat.zero_add]) ?_
                    refine PL.y rfl rfl rfl (fun w' hS => yi_loadB Try.isAgg3 rfl hS.2.1 (arr_get _ (by omega))) ?_
                    refine PL.y rfl rfl rfl (fun w' hS => yi_leq rfl rfl) ?_
                    refine PL.as_ (t := 120) (v' := .bool false) rfl (congrArg Value.bool (decide_eq_false (by omega))) ?_
                    refine PL.done ?_
                    refine NW.next ?_
                    refine CW.condF rfl ?_
                    refine CW.skip ?_
                    refine NW.blockEnd ?_
                    refine NW.next ?_
                    refine CW.region ?_
                    refine WL.y rfl rfl (yi_move rfl) ?_
                    refine WL.y rfl rfl (yi_addI rfl rfl (by omega) (by omega)) ?_
                    refine WL.as_ (t := 110) (v' := .int .i64 ((i + 1 : Nat) : Int)) rfl (congrArg (Value.int .i64) (by omega)) ?_
                    refine WL.y rfl rfl (yi_assign rfl) ?_
                    refine WL.done ?_
                    refine NW.round (nx.length - (i + 1)) (by omega) ?_
                    exact fun x ha => ⟨i + 1, rfl, by omega, F126, F127, F128, (by omega), F129, (by omega), F130, (by omega), (by omega), (by omega), F131, (by omega), ha.sub ⟨rfl, rfl, rfl, rfl, rfl, rfl, rfl, trivial⟩⟩
                  · try replace q_D := of_decide_eq_false q_D
                    refine CW.exit ?_
                    refine NW.thenExit ?_
                    refine NW.thenExit ?_
                    refine NW.blockHit ?_
                    refine NW.blockEnd ?_
                    refine NW.next ?_
                    refine CW.region ?_
                    refine WL.y rfl rfl (yi_move rfl) ?_
                    refine WL.y rfl rfl (yi_addI rfl rfl (by omega) (by omega)) ?_
                    refine WL.as_ (t := 87) (v' := .int .i64 ((n + 1 : Nat) : Int)) rfl (congrArg (Value.int .i64) (by omega)) ?_
                    refine WL.y rfl rfl (yi_assign rfl) ?_
                    refine WL.done ?_
                    refine NW.round (10 - (n + 1)) (by omega) ?_
                    exact fun x ha => ⟨n + 1, rfl, by omega, fr, TB, RH, (by omega), RO, (by omega), AB, (by omega), (by omega), (by omega), ha.sub ⟨rfl, rfl, rfl, rfl, rfl, trivial⟩⟩
              · try replace q_C := of_decide_eq_false q_C
                refine CW.exit ?_
                refine NW.thenExit ?_
                refine NW.thenExit ?_
                refine NW.blockHit ?_
                refine NW.next ?_
                refine CW.seq ?_
                refine CW.seq ?_
                refine CW.region ?_
                refine WL.y rfl rfl (yi_assign rfl) ?_
                refine WL.done ?_
                refine NW.next ?_
                refine CW.block ?_
                refine CW.loop (fun mm x w' => ∃ (i : Nat), mm = out.length + 1 - i ∧ 1 ≤ i ∧ i ≤ out.length + 1 ∧ Same w w' ∧ Blk w' tb #[.int .u64 1, .slice (some ⟨ub, 0, none⟩) 10 10, .slice (some ⟨hb, 0, none⟩) 1 1] 60 ∧ Row dEds w' (fun k => k < z1) (some ⟨hb, 0, none⟩) (betw l).hops ∧ z1 ≤ w'.heap.size ∧ Row dI w' (fun k => k < z2) Ao out ∧ z2 ≤ w'.heap.size ∧ Env 150 [] [(3, .pointer (some ⟨tb, 0, none⟩)), (4, .slice Ao out.length co), (5, .int .i64 0), (14, .int .i64 i)] x) (out.length + 1 - 1) ?_ ?_
                · exact fun x ha => ⟨1, rfl, by omega, by omega, fr, TB, RH, (by omega), RO, (by omega), ha.sub ⟨rfl, rfl, rfl, rfl, trivial⟩⟩
                · rintro mm x w134 ⟨i, rfl, hi1, hi3, fr, TB, RH, hz1, RO, hz2, ha⟩
                  refine CW.at ha ?_
                  refine CW.seq ?_
                  refine CW.seq ?_
                  refine CW.region ?_
                  refine WL.y rfl rfl (yi_move rfl) ?_
                  refine WL.y rfl rfl (yi_move rfl) ?_
                  refine WL.y rfl rfl (yi_len Try.runUnderlying49 rfl) ?_
                  refine WL.y rfl rfl (yi_lss rfl rfl) ?_
                  refine WL.done ?_
                  refine NW.next ?_
                  refine CW.cond rfl (fun q_E => ?_) (fun q_E => ?_)
                  · try replace q_E := of_decide_eq_true q_E
                    obtain ⟨y, hy⟩ : ∃ y, out[i - 1]? = some y := ⟨out[i - 1]'(by omega), List.getElem?_eq_getElem (by omega)⟩
                    obtain ⟨y2, hy2⟩ : ∃ y, out[i]? = some y := ⟨out[i]'(by omega), List.getElem?_eq_getElem (by omega)⟩
                    obtain ⟨ad, hA, hcell⟩ := int_at RO hy
                    subst hA
                    obtain ⟨ad2, hA, hcell2⟩ := int_at RO hy2
                    injection hA with hA
                    subst hA
                    have hleast := hO.least (i - 1) y y2 hy (by rw [show i - 1 + 1 = i by omega]; exact hy2)
                    refine CW.skip ?_
                    refine NW.next ?_
                    refine CW.seq ?_
                    refine CW.block ?_
                    refine CW.seq ?_
                    refine CW.seq ?_
                    have fd135 : Same w134 w134.drew := Only.drew _ _
                    obtain ⟨w136, hww136⟩ : ∃ wz, wz = w134.drew := ⟨_, rfl⟩
                    rw [← hww136] at fd135
                    have F137 := Only.same fr fd135
                    have F138 := Blk.same TB fd135
                    have F139 := Row.same (by decide) RH fd135
                    have F140 := Row.same (by decide) RO fd135
                    have F141 := Only.cell fd135 hcell (fun hl => hl)
                    have F142 := Only.cell fd135 hcell2 (fun hl => hl)
                    have sz143 := fd135.size
                    refine CW.draw 10 [(0, true), (1, true), (2, true), (3, true), (4, true), (5, true), (6, true), (7, true), (8, true), (9, true)] (fun w' => Blk w' tb _ _ ∧ World.cell? w' (ad.add (i - 1)) = some (.int .i64 y) ∧ World.cell? w' (ad.add i) = some (.int .i64 y2)) Try_mixed (by kernel_rfl) (fun _ _ _ _ h => h) hww136 ⟨F138, F141, F142⟩ ?_
                    refine PL.y rfl rfl rfl (fun w' hS => yi_move rfl) ?_
                    refine PL.y rfl rfl rfl (fun w' hS => yi_move rfl) ?_
                    refine PL.y rfl rfl rfl (fun w' hS => yi_indexAddr Try.runUnderlying49 Try.sizeOf3 rfl rfl (by omega) (by omega)) ?_
                    refine PL.as_ (t := 129) (v' := .pointer (some (ad.add i))) rfl (by rw [Int.toNat_natCast, Nat.mul_one]) ?_
                    refine PL.y rfl rfl rfl (fun w' hS => yi_load1 Try.isAgg3 rfl hS.2.2) ?_
                    refine PL.y rfl rfl rfl (fun w' hS => yi_move rfl) ?_
                    refine PL.y rfl rfl rfl (fun w' hS => yi_move rfl) ?_
                    refine PL.y rfl rfl rfl (fun w' hS => yi_subI rfl rfl (by omega) (by omega)) ?_
                    refine PL.as_ (t := 133) (v' := .int .i64 ((i - 1 : Nat) : Int)) rfl (congrArg (Value.int .i64) (by omega)) ?_
                    refine PL.y rfl rfl rfl (fun w' hS => yi_indexAddr Try.runUnderlying49 Try.sizeOf3 rfl rfl (by omega) (by omega)) ?_
                    refine PL.as_ (t := 134) (v' := .pointer (some (ad.add (i - 1)))) rfl (by rw [Int.toNat_natCast, Nat.mul_one]) ?_
                    refine PL.y rfl rfl rfl (fun w' hS => yi_load1 Try.isAgg3 rfl hS.2.1) ?_
                    refine PL.y rfl rfl rfl (fun w' hS => yi_gtr rfl rfl) ?_
                    refine PL.done ?_
                    refine NW.next ?_
                    refine CW.cond rfl (fun q_ET => ?_) (fun q_ET => ?_)
                    · try replace q_ET := of_decide_eq_true q_ET
                      refine CW.exit ?_
                      refine NW.thenExit ?_
                      refine NW.blockHit ?_
                      refine NW.next ?_
                      refine CW.region ?_
                      refine WL.y rfl rfl (yi_move rfl) ?_
                      refine WL.y rfl rfl (yi_addI rfl rfl (by omega) (by omega)) ?_
                      refine WL.as_ (t := 126) (v' := .int .i64 ((i + 1 : Nat) : Int)) rfl (congrArg (Value.int .i64) (by omega)) ?_
                      refine WL.y rfl rfl (yi_assign rfl) ?_
                      refine WL.done ?_
                      refine NW.round (out.length + 1 - (i + 1)) (by omega) ?_
                      exact fun x ha => ⟨i + 1, rfl, by omega, by omega, F137, F138, F139, (by omega), F140, (by omega), ha.sub ⟨rfl, rfl, rfl, rfl, trivial⟩⟩
                    · try replace q_ET := of_decide_eq_false q_ET
                      refine CW.skip ?_
                      refine NW.next ?_
                      refine CW.seq ?_
                      have fd144 : Same w136 w136.drew := Only.drew _ _
                      obtain ⟨w145, hww145⟩ : ∃ wz, wz = w136.drew := ⟨_, rfl⟩
                      rw [← hww145] at fd144
                      have F146 := Only.same F137 fd144
                      have F147 := Blk.same F138 fd144
                      have F148 := Row.same (by decide) F139 fd144
                      have F149 := Row.same (by decide) F140 fd144
                      have F150 := Only.cell fd144 F141 (fun hl => hl)
                      have F151 := Only.cell fd144 F142 (fun hl => hl)
                      clear F137 F138 F139 F140 F141 F142
                      have sz152 := fd144.size
                      refine CW.draw 10 [(0, true), (1, true), (2, true), (3, true), (4, true), (5, true), (6, true), (7, true), (8, true), (9, true), (10, false), (11, false)] (fun w' => Blk w' tb _ _ ∧ World.cell? w' (ad.add (i - 1)) = some (.int .i64 y) ∧ World.cell? w' (ad.add i) = some (.int .i64 y2)) Try_mixed (by kernel_rfl) (fun _ _ _ _ h => h) hww145 ⟨F147, F150, F151⟩ ?_
                      refine PL.y rfl rfl rfl (fun w' hS => by first | exact yi_loadW Try.isAgg60 Try.sizeOf60 rfl hS.1 rfl) ?_
                      refine PL.y rfl rfl rfl (fun w' hS => yi_move rfl) ?_
                      refine PL.y rfl rfl rfl (fun w' hS => yi_move rfl) ?_
                      refine PL.y rfl rfl rfl (fun w' hS => yi_subI rfl rfl (by omega) (by omega)) ?_
                      refine PL.as_ (t := 140) (v' := .int .i64 ((i - 1 : Nat) : Int)) rfl (congrArg (Value.int .i64) (by omega)) ?_
                      refine PL.y rfl rfl rfl (fun w' hS => yi_indexAddr Try.runUnderlying49 Try.sizeOf3 rfl rfl (by omega) (by omega)) ?_
                      refine PL.as_ (t := 141) (v' := .pointer (some (ad.add (i - 1)))) rfl (by rw [Int.toNat_natCast, Nat.mul_one]) ?_
                      refine PL.y rfl rfl rfl (fun w' hS => yi_load1 Try.isAgg3 rfl hS.2.1) ?_
                      refine PL.y rfl rfl rfl (fun w' hS => yi_move rfl) ?_
                      refine PL.y rfl rfl rfl (fun w' hS => yi_move rfl) ?_
                      refine PL.y rfl rfl rfl (fun w' hS => yi_indexAddr Try.runUnderlying49 Try.sizeOf3 rfl rfl (by omega) (by omega)) ?_
                      refine PL.as_ (t := 145) (v' := .pointer (some (ad.add i))) rfl (by rw [Int.toNat_natCast, Nat.mul_one]) ?_
                      refine PL.y rfl rfl rfl (fun w' hS => yi_load1 Try.isAgg3 rfl hS.2.2) ?_
                      refine PL.z rfl rfl rfl rfl rfl (ef_call Try.call40 rfl (edge_c (betw l) (some ⟨ub, 0, none⟩) (some ⟨hb, 0, none⟩) 10 1 _ _ F148 (Nat.le_refl 1) (by decide) 0 y y2 (Nat.le_trans (betw_len l _) (by decide)))) ?_
                      rintro _ w153 ⟨rfl, f154⟩
                      have F155 := Only.same F146 f154
                      have F156 := Blk.same F147 f154
                      have F157 := Row.same (by decide) F148 f154
                      have F158 := Row.same (by decide) F149 f154
                      have F159 := Only.cell f154 F150 (fun hl => hl)
                      have F160 := Only.cell f154 F151 (fun hl => hl)
                      clear F146 F147 F148 F149 F150 F151
                      have sz161 := f154.size
                      refine PL.as_ (t := 147) (v' := .bool true) rfl (congrArg Value.bool (by have : ¬ y < y2 := q_ET; simp [hleast.resolve_left this])) ?_
                      refine PL.zy rfl rfl rfl rfl rfl (yi_not rfl) ?_
                      refine PL.done ?_
                      refine NW.next ?_
                      refine CW.condF rfl ?_
                      refine CW.skip ?_
                      refine NW.blockEnd ?_
                      refine NW.next ?_
                      refine CW.region ?_
                      refine WL.y rfl rfl (yi_move rfl) ?_
                      refine WL.y rfl rfl (yi_addI rfl rfl (by omega) (by omega)) ?_
                      refine WL.as_ (t := 126) (v' := .int .i64 ((i + 1 : Nat) : Int)) rfl (congrArg (Value.int .i64) (by omega)) ?_
                      refine WL.y rfl rfl (yi_assign rfl) ?_
                      refine WL.done ?_
                      refine NW.round (out.length + 1 - (i + 1)) (by omega) ?_
                      exact fun x ha => ⟨i + 1, rfl, by omega, by omega, F155, F156, F157, (by omega), F158, (by omega), ha.sub ⟨rfl, rfl, rfl, rfl, trivial⟩⟩
                  · try replace q_E := of_decide_eq_false q_E
                    refine CW.exit ?_
                    refine NW.thenExit ?_
                    refine NW.thenExit ?_
                    refine NW.blockHit ?_
                    refine NW.next ?_
                    refine CW.seq ?_
                    refine CW.region ?_
                    refine WL.e rfl rfl (ef_call Try.call37 rfl (twakes_c _)) ?_
                    rintro _ w162 ⟨rfl, f163⟩
                    have F164 := Only.same fr f163
                    have F165 := Blk.same TB f163
                    have F166 := Row.same (by decide) RH f163
                    have F167 := Row.same (by decide) RO f163
                    have sz168 := f163.size
                    refine WL.y rfl rfl (yi_assign rfl) ?_
                    refine WL.done ?_
                    refine NW.next ?_
                    refine CW.ret ?_
                    refine NW.ret1 rfl rfl ?_
                    exact ⟨_, rfl, rfl, F164⟩

end Go.Proofs.YtgmjgdjobkmbgaaN
