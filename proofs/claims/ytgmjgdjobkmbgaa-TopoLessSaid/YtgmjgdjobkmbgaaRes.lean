/- Results that lie in variables; a few further forms. -/
import Derived.Test.YtgmjgdjobkmbgaaData
set_option linter.unusedVariables false
set_option linter.unusedSimpArgs false
namespace Go.Proofs.YtgmjgdjobkmbgaaL
open Go.RowKit
section
variable {P : Program} {fn : Func} {R : Ending → World → Prop} {n : Nat} {l : List (Nat × Value)} {w : World}
theorem run_loadVar_blk {t ty : TypeId} {b k : Nat} {cs : Array Value} (hA : ∀ w, (isAgg ty).run P w = .ok true w) (hz : ∀ w, (sizeOf ty).run P w = .ok k w) (hB : Blk w b cs t) (hk : cs.size = k) :
    (loadVar ty ⟨b, 0, none⟩).run P w = .ok (.agg cs) w := by
  subst hk
  have hl := run_loadCells_list (P := P) w ⟨b, 0, none⟩ cs.toList (fun j u hu => by
    have e : (⟨b, 0, none⟩ : Addr).add j = ⟨b, j, none⟩ := by unfold Addr.add; split <;> simp_all
    rw [e]
    exact hB.cell (by simpa using hu))
  simp only [Array.length_toList] at hl
  simp [loadVar, hA, hz, hl]
theorem run_loadVar_blk1 {t ty : TypeId} {b : Nat} {v : Value} {cs : Array Value} (hA : ∀ w, (isAgg ty).run P w = .ok false w) (hB : Blk w b cs t) (hv : cs[0]? = some v) :
    (loadVar ty ⟨b, 0, none⟩).run P w = .ok v w := by
  simp [loadVar, hA, hB.cell hv]
theorem NW.retC {t ty t' : TypeId} {b k : Nat} {cs : Array Value} (hr : fn.results = #[.cell t ty]) (ht : lk l t = some (.pointer (some ⟨b, 0, none⟩))) (hA : ∀ w, (isAgg ty).run P w = .ok true w) (hz : ∀ w, (sizeOf ty).run P w = .ok k w)
    (hB : Blk w b cs t') (hk : cs.size = k) (h : R (.returned (.agg cs)) w) : NW (bodyQ P fn R) n [] .ret l w := NW.retBy (v := .agg cs) (fun a ha => by
  have h1 := run_loadVar_blk (P := P) (w := w) hA hz hB hk
  have h2 := ha.has t _ ht
  rw [Array.getD_eq_getD_getElem?] at h2
  simp [results, hr, h2, asAddr, h1]) h
theorem NW.retC1 {t ty t' : TypeId} {b : Nat} {v : Value} {cs : Array Value} (hr : fn.results = #[.cell t ty]) (ht : lk l t = some (.pointer (some ⟨b, 0, none⟩))) (hA : ∀ w, (isAgg ty).run P w = .ok false w)
    (hB : Blk w b cs t') (hv : cs[0]? = some v) (h : R (.returned v) w) : NW (bodyQ P fn R) n [] .ret l w := NW.retBy (v := v) (fun a ha => by
  have h1 := run_loadVar_blk1 (P := P) (w := w) hA hB hv
  have h2 := ha.has t _ ht
  rw [Array.getD_eq_getD_getElem?] at h2
  simp [results, hr, h2, asAddr, h1]) h
theorem NW.retCT {t ty t' : TypeId} {u : Nat} {b k : Nat} {cs : Array Value} {v : Value} (hr : fn.results = #[.cell t ty, .tmp u]) (ht : lk l t = some (.pointer (some ⟨b, 0, none⟩))) (hu : lk l u = some v) (hA : ∀ w, (isAgg ty).run P w = .ok true w) (hz : ∀ w, (sizeOf ty).run P w = .ok k w)
    (hB : Blk w b cs t') (hk : cs.size = k) (h : R (.returned (.tuple #[.agg cs, v])) w) : NW (bodyQ P fn R) n [] .ret l w := NW.retBy (v := .tuple #[.agg cs, v]) (fun a ha => by
  have h1 := run_loadVar_blk (P := P) (w := w) hA hz hB hk
  have h2 := ha.has t _ ht
  rw [Array.getD_eq_getD_getElem?] at h2
  have h3 := ha.has u _ hu
  rw [Array.getD_eq_getD_getElem?] at h3
  simp [results, hr, h2, h3, asAddr, h1]) h
theorem NW.retC1T {t ty t' : TypeId} {u : Nat} {b : Nat} {cs : Array Value} {v v0 : Value} (hr : fn.results = #[.cell t ty, .tmp u]) (ht : lk l t = some (.pointer (some ⟨b, 0, none⟩))) (hu : lk l u = some v) (hA : ∀ w, (isAgg ty).run P w = .ok false w)
    (hB : Blk w b cs t') (hv : cs[0]? = some v0) (h : R (.returned (.tuple #[v0, v])) w) : NW (bodyQ P fn R) n [] .ret l w := NW.retBy (v := .tuple #[v0, v]) (fun a ha => by
  have h1 := run_loadVar_blk1 (P := P) (w := w) hA hB hv
  have h2 := ha.has t _ ht
  rw [Array.getD_eq_getD_getElem?] at h2
  have h3 := ha.has u _ hu
  rw [Array.getD_eq_getD_getElem?] at h3
  simp [results, hr, h2, h3, asAddr, h1]) h
end
theorem CW.at {P : Program} {Q : Exit → Act → World → Prop} {n : Nat} {ds : List Deferred} {c : Code} {l : List (Nat × Value)} {w : World} {a : Act} (ha : Env n ds l a) (h : CW P Q n ds c l w) : c.wp P Q a w := h a ha
/-- A type that is a slice, as a source of append. -/
theorem notInt {P : Program} {t e : TypeId} (h : ∀ w, (underlying t).run P w = .ok (.slice e) w) : ∀ w, ∃ dd, (underlying t).run P w = .ok dd w ∧ ∀ k, dd ≠ .int k := fun w => ⟨_, h w, fun _ e => by cases e⟩
def grow (F : Nat → Prop) (w : World) : Nat → Prop := fun k => F k ∨ w.heap.size ≤ k
/-- bytes, as cells -/
def u8s (bs : List UInt8) : List Value := bs.map fun b => .int .u8 (b.toNat : Int)
theorem u8s_one (bs : List UInt8) : ∀ u ∈ u8s bs, u.oneCell' = true := by
  intro u hu
  obtain ⟨b, _, rfl⟩ := List.mem_map.1 hu
  rfl
theorem Row.u8 {w : World} {ok : Nat → Prop} {A : Option Addr} {bs : List UInt8} (h : Row dU8 w ok A bs) : Seg w A (u8s bs) := by
  rcases h with rfl | ⟨ad, rfl, hb, h⟩
  · exact .inl rfl
  · refine .inr ⟨ad, rfl, fun j u hu => ?_⟩
    rw [u8s, List.getElem?_map] at hu
    cases hx : bs[j]? with
    | none => rw [hx] at hu; simp at hu
    | some b =>
      rw [hx] at hu
      injection hu with hu
      subst hu
      obtain ⟨cs, hK, hc⟩ := h j b hx
      have hK' : cs = [.int .u8 (b.toNat : Int)] := hK
      subst hK'
      have := hc 0 _ (by simp; rfl)
      have e : j * dU8.sz + 0 = j := by show j * 1 + 0 = j; omega
      rwa [e] at this
theorem Row.ofU8 {w : World} {ok : Nat → Prop} {A : Option Addr} {bs : List UInt8} (h : Seg w A (u8s bs)) (hb : ∀ ad, A = some ad → ok ad.block) : Row dU8 w ok A bs := by
  refine Row.ofSeg (cs := u8s bs) (by show _ = _ * 1; simp [u8s]) h (by show 0 < 1; omega) hb fun j x hx => ?_
  show ((u8s bs).drop (j * 1)).take 1 = [_]
  have hj := (List.getElem?_eq_some_iff.1 hx).1
  have : (u8s bs)[j]? = some (.int .u8 (x.toNat : Int)) := by simp [u8s, hx]
  rw [Nat.mul_one, List.drop_eq_getElem_cons (by simpa [u8s] using hj)]
  simp only [List.take_succ_cons, List.take_zero]
  rw [List.getElem?_eq_getElem (by simpa [u8s] using hj)] at this
  injection this with this
  rw [this]
end Go.Proofs.YtgmjgdjobkmbgaaL
