/- Rows of integers: the library's sort, compact, contains, delete; the data of a topology. -/
import Derived.Sort.OwnSortedInts
import Derived.Test.YtgmjgdjobkmbgaaSl
import Derived.Test.YtgmjgdjobkmbgaaShelf
set_option linter.unusedVariables false
set_option linter.unusedSimpArgs false
namespace Go.Proofs.YtgmjgdjobkmbgaaN
open Go.Proofs.YtgmjgdjobkmbgaaL Go.RowKit Go.Proofs
attribute [local irreducible] Ef Yi WL PL CW NW
open Go.Lib Go.Sort
def dI : Dt Int := dInt .i64
theorem Try_mixed : Try.prog.follows .mixedOrders = true := by kernel_rfl
abbrev enI : Int → Value := Value.int .i64
theorem ownI_open {e : Nat} {w : World} {ok : Nat → Prop} {v : Value} {zs : List Int} (h : Own dI e w ok v zs) : (v = .slice none 0 0 ∧ zs = []) ∨
    ∃ g cap rest, v = .slice (some ⟨g, 0, none⟩) zs.length cap ∧ ok g ∧ zs.length ≤ cap ∧ cap ≤ 9223372036854775807 ∧ rest.length = cap - zs.length ∧ Blk w g (zs.map enI ++ rest).toArray e := by
  obtain ⟨cs, ho, hb, h1, hK⟩ := h
  obtain ⟨hl, ho⟩ := ho
  have hl : cs.length = zs.length * 1 := hl
  have hcs : cs = zs.map enI := by
    apply List.ext_getElem?
    intro j
    by_cases hj : j < zs.length
    · have h2 : (cs.drop (j * 1)).take 1 = [enI zs[j]] := hK j zs[j] (List.getElem?_eq_getElem hj)
      rw [Nat.mul_one, List.drop_eq_getElem_cons (by omega)] at h2
      simp only [List.take_succ_cons, List.take_zero] at h2
      injection h2 with h2
      rw [List.getElem?_eq_getElem (by omega), h2, List.getElem?_map, List.getElem?_eq_getElem hj]
      rfl
    · rw [List.getElem?_eq_none (by omega), List.getElem?_eq_none (by simp; omega)]
  subst hcs
  rcases ho with ⟨h2, h3⟩ | ⟨g, cap, rest, h2, h3, h4, h5, hB⟩
  · exact .inl ⟨h2, List.eq_nil_of_length_eq_zero h3⟩
  · refine .inr ⟨g, cap, rest, h2, hb g (by rw [h2]; rfl), h3, h4, ?_, hB⟩
    have h5 : rest.length = (cap - zs.length) * 1 := h5
    omega
theorem ownI_mk {e : Nat} {w : World} {ok : Nat → Prop} {g cap : Nat} {zs : List Int} {rest : List Value} (hg : ok g) (h1 : zs.length ≤ cap) (h2 : cap ≤ 9223372036854775807) (h3 : rest.length = cap - zs.length) (hB : Blk w g (zs.map enI ++ rest).toArray e) :
    Own dI e w ok (.slice (some ⟨g, 0, none⟩) zs.length cap) zs := by
  refine ⟨zs.map enI, ⟨by show _ = _ * 1; simp, .inr ⟨g, cap, rest, rfl, h1, h2, by show _ = _ * 1; omega, hB⟩⟩, fun k hk => ?_, fun u hu => ?_, fun j x hx => ?_⟩
  · have : g = k := by simpa [Value.ownBlock] using hk
    exact this ▸ hg
  · obtain ⟨x, _, rfl⟩ := List.mem_map.1 hu
    rfl
  · have hj := (List.getElem?_eq_some_iff.1 hx)
    obtain ⟨hj, hx⟩ := hj
    show ((zs.map enI).drop (j * 1)).take 1 = [_]
    rw [Nat.mul_one, List.drop_eq_getElem_cons (by simpa using hj)]
    simp [hx]
theorem put_blk {w : World} {g n e : Nat} {os : Array Obj} {zs ts : List Int} {rest : List Value} (hB : Blk w g (zs.map enI ++ rest).toArray e) (hl : ts.length = zs.length) :
    Blk (grow (putRow enI (Sort.ahead w n) g 0 ts.toArray) os) g (ts.map enI ++ rest).toArray e := by
  have h := heap_sortedI (n := n) (os := os) ts.toArray hB
  have hc : putCells enI 0 ts.toArray (zs.map enI ++ rest).toArray = (ts.map enI ++ rest).toArray := by
    apply Array.ext_getElem?
    intro j
    simp only [putCells, Array.getElem?_mapIdx, List.getElem?_toArray]
    by_cases hj : j < ts.length
    · rw [List.getElem?_append_left (by simp; omega), List.getElem?_append_left (by simpa using hj), List.getElem?_eq_getElem (by simp; omega)]
      simp [hj]
    · rw [List.getElem?_append_right (by simp; omega), List.getElem?_append_right (by simp; omega)]
      simp only [List.length_map, hl]
      cases rest[j - zs.length]? <;> simp [hj]
  rw [hc] at h
  exact h
theorem holdsI {w : World} {g e : Nat} {zs : List Int} {rest : List Value} (hB : Blk w g (zs.map enI ++ rest).toArray e) : Holds enI w g 0 zs.toArray := by
  intro j hj
  have hj : j < zs.length := by simpa using hj
  refine ⟨?_, hB.frozen _⟩
  rw [Nat.zero_add]
  refine hB.cell ?_
  rw [List.getElem?_toArray, List.getElem?_append_left (by simpa using hj), List.getElem?_map, List.getElem?_eq_getElem hj]
  simp [hj]
theorem put_only {w : World} {g n : Nat} {os : Array Obj} {ts : List Int} : Only (fun k => k = g) w (grow (putRow enI (Sort.ahead w n) g 0 ts.toArray) os) :=
  (Only.grown (grownBy_sortedI _)).mono fun k _ hk => by injection hk with hk; exact hk.symm
def sortI (zs : List Int) : List Int := zs.mergeSort fun x y => decide (x ≤ y)
theorem sort_c {w : World} {ok : Nat → Prop} {v : Value} {zs : List Int} (O : Own dI 3 w ok v zs) (hz : zs.length < 4611686018427387904) : Ret Try.prog 102 [v] w fun u w' => Own dI 3 w' ok v (sortI zs) ∧ Only (fun k => v.ownBlock = some k) w w' := by
  rcases ownI_open O with ⟨rfl, rfl⟩ | ⟨g, cap, rest, rfl, hg, h1, h2, h3, hB⟩
  · exact Calls.mono (Try.slices_Sort_int_none none 0 w) fun e w' ⟨he, hw⟩ => ⟨_, he, by subst hw; rw [show sortI [] = [] from List.mergeSort_nil]; exact ⟨Own.nil _ _ _ _, Only.refl _ _⟩⟩
  · refine Calls.mono (Try.slices_Sort_int g 0 cap zs w (holdsI hB) hB.lt hz) fun e w' ⟨he, n, os, hw⟩ => ⟨_, he, ?_⟩
    subst hw
    have hl : (sortI zs).length = zs.length := List.length_mergeSort _
    refine ⟨?_, put_only.mono fun k _ hk => by rw [hk]; rfl⟩
    have := ownI_mk (ok := ok) (cap := cap) (rest := rest) hg (by rw [hl]; exact h1) h2 (by rw [hl]; exact h3) (put_blk (n := n) (os := os) (ts := sortI zs) hB hl)
    rw [hl] at this
    exact this
theorem compact_c {w : World} {ok : Nat → Prop} {v : Value} {zs : List Int} (O : Own dI 3 w ok v zs) : Ret Try.prog 103 [v] w fun u w' => Own dI 3 w' ok u (Lib.compact zs) ∧ Only (fun k => v.ownBlock = some k) w w' ∧ u.ownBlock = v.ownBlock := by
  rcases ownI_open O with ⟨rfl, rfl⟩ | ⟨g, cap, rest, rfl, hg, h1, h2, h3, hB⟩
  · exact Calls.mono (Try.slices_Compact_int_empty none 0 w) fun e w' ⟨he, hw⟩ => ⟨_, he, by subst hw; exact ⟨Own.nil _ _ _ _, Only.refl _ _, rfl⟩⟩
  · refine Calls.mono (Try.slices_Compact_int g 0 cap zs w (holdsI hB) (by omega) h1) fun e w' ⟨he, n, hw⟩ => ⟨_, he, ?_⟩
    subst hw
    have hle : (Lib.compact zs).length ≤ zs.length := by
      unfold Lib.compact compactUpTo
      rw [List.length_map]
      exact Nat.le_trans (List.length_filter_le _ _) (by simp)
    have hl : (Lib.compact zs ++ List.replicate (zs.length - (Lib.compact zs).length) 0).length = zs.length := by simp; omega
    have hB2 := put_blk (n := n) (os := #[]) (ts := Lib.compact zs ++ List.replicate (zs.length - (Lib.compact zs).length) 0) hB hl
    have ho := put_only (w := w) (g := g) (n := n) (os := #[]) (ts := Lib.compact zs ++ List.replicate (zs.length - (Lib.compact zs).length) 0)
    rw [grow_empty] at hB2 ho
    refine ⟨?_, ho.mono fun k _ hk => by rw [hk]; rfl, rfl⟩
    rw [List.map_append, List.append_assoc] at hB2
    exact ownI_mk hg (by omega) h2 (by simp; omega) hB2
theorem deleteI_c {w : World} {ok : Nat → Prop} {g n cap i : Nat} {zs : List Int} (O : Own dI 3 w ok (.slice (some ⟨g, 0, none⟩) n cap) zs) (hi : i < zs.length) : Ret Try.prog 106 [.slice (some ⟨g, 0, none⟩) n cap, .int .i64 i, .int .i64 (i + 1)] w fun u w' => u = .slice (some ⟨g, 0, none⟩) (zs.eraseIdx i).length cap ∧ Own dI 3 w' ok u (zs.eraseIdx i) ∧ Only (fun k => k = g) w w' := by
  rcases ownI_open O with ⟨h0, _⟩ | ⟨g', cap', rest, h0, hg, h1, h2, h3, hB⟩
  · cases h0
  · injection h0 with e1 e2 e3
    injection e1 with e1
    injection e1 with e1
    subst e1
    subst e2
    subst e3
    have hc := Try.slices_Delete_int g 0 cap i (i + 1) zs w (holdsI hB) h1 h2 (by omega) (by omega)
    refine Calls.mono hc fun e w' ⟨he, n, hw⟩ => ⟨_, he, ?_⟩
    subst hw
    have hl0 : (zs.eraseIdx i).length = zs.length - 1 := by rw [List.length_eraseIdx, if_pos hi]
    have he2 : zs.take i ++ zs.drop (i + 1) = zs.eraseIdx i := by rw [List.eraseIdx_eq_take_drop_succ]
    rw [he2]
    have hl : (zs.eraseIdx i ++ List.replicate (i + 1 - i) 0).length = zs.length := by simp [hl0]; omega
    have hB2 := put_blk (n := n) (os := #[]) (ts := zs.eraseIdx i ++ List.replicate (i + 1 - i) 0) hB hl
    have ho := put_only (w := w) (g := g) (n := n) (os := #[]) (ts := zs.eraseIdx i ++ List.replicate (i + 1 - i) 0)
    rw [grow_empty] at hB2 ho
    have e3 : zs.length - (i + 1 - i) = (zs.eraseIdx i).length := by rw [hl0]; omega
    rw [e3]
    refine ⟨rfl, ?_, ho⟩
    rw [List.map_append, List.append_assoc] at hB2
    exact ownI_mk hg (by omega) h2 (by simp; omega) hB2
theorem contains_c {w : World} {ok : Nat → Prop} {v : Value} {zs : List Int} {x : Int} (O : Own dI 3 w ok v zs) : Ret Try.prog 78 [v, .int .i64 x] w fun u w' => u = .bool (decide (x ∈ zs)) ∧ w = w' := by
  rcases ownI_open O with ⟨rfl, rfl⟩ | ⟨g, cap, rest, rfl, hg, h1, h2, h3, hB⟩
  · exact Calls.mono (Try.slices_Contains_int_empty none 0 x w) fun e w' ⟨he, hw⟩ => ⟨_, he, by simp, hw.symm⟩
  · have hh := holdsI hB
    refine Calls.mono (Try.slices_Contains_int g 0 zs.length cap zs x w (Nat.le_refl _) (by omega) (fun j hj => ?_)) fun e w' ⟨he, hw⟩ => ⟨_, he, by simp, hw.symm⟩
    have := (hh j (by simpa using hj)).1
    rw [this]
    simp [List.getD, hj]

end Go.Proofs.YtgmjgdjobkmbgaaN
