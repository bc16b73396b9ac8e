/- What reads as a datum lies in cells as my data say: for the arguments. -/
import Derived.Test.YtgmjgdjobkmbgaaSet
import Derived.ProofKit
import Derived.OpenShut
set_option linter.unusedVariables false
set_option linter.unusedSimpArgs false
namespace Go.Proofs.YtgmjgdjobkmbgaaL
open Go.RowKit
/-- Data of which more is known. -/
def dWith {α : Type} (d : Dt α) (p : α → Prop) : Dt α where
  sz := d.sz
  K := fun w ok x cs => d.K w ok x cs ∧ p x
  len := fun h => d.len h.1
  one := fun h => d.one h.1
  move := fun hm h => ⟨d.move hm h.1, h.2⟩
  mono := fun hm h => ⟨d.mono hm h.1, h.2⟩
  bound := fun h => ⟨d.bound h.1, h.2⟩
def Reads {α : Type} (P : Program) (d : Dt α) (t : TypeId) : Prop :=
  ∀ {H : Type} (enc : TypeId × Value → H) (w : World) (base : Nat) (spare : Nat → Bool) (held : Bool) (fuel : Nat) (cs : List Value) (x : DataW H × List MemPlace), DataW.trod enc P w base spare held fuel t cs = some x → ∃ y, d.K w (fun _ => True) y cs
section
variable {P : Program} {t e : TypeId}
theorem reads_int {k : IntKind} (ht : P.underlying t = some (.int k)) : Reads P (dInt k) t := by
  intro H enc w base spare held fuel cs x h
  obtain ⟨n, rfl, _, _⟩ := DataW.trod_int ht h
  exact ⟨n, rfl⟩
theorem reads_intW {k : IntKind} (ht : P.underlying t = some (.int k)) : Reads P (dWith (dInt k) fun n => (Lit.int k n).wf = true) t := by
  intro H enc w base spare held fuel cs x h
  obtain ⟨n, rfl, _, hw⟩ := DataW.trod_int ht h
  exact ⟨n, rfl, hw⟩
theorem reads_bool (ht : P.underlying t = some .bool) : Reads P dBool t := by
  intro H enc w base spare held fuel cs x h
  obtain ⟨n, rfl, _⟩ := DataW.trod_bool ht h
  exact ⟨n, rfl⟩
theorem reads_u8 (ht : P.underlying t = some (.int .u8)) : Reads P dU8 t := by
  intro H enc w base spare held fuel cs x h
  obtain ⟨n, rfl, _, hw⟩ := DataW.trod_int ht h
  have hb := bounds_u8 hw
  refine ⟨UInt8.ofNat n.toNat, ?_⟩
  show [Value.int .u8 n] = [Value.int .u8 ((UInt8.ofNat n.toNat).toNat : Int)]
  have : ((UInt8.ofNat n.toNat).toNat : Int) = n := by
    rw [UInt8.toNat_ofNat']
    omega
  rw [this]
theorem reads_slice {α : Type} {d : Dt α} (ht : P.underlying t = some (.slice e)) (hr : Reads P d e) (hc : P.cellsOf e = d.sz) (hz : 0 < d.sz) : Reads P (dWith (dSlice d hz) fun xs => xs.length ≤ maxLen) t := by
  intro H enc w base spare held fuel cs x h
  rcases DataW.trod_slice ht h with ⟨rfl, _⟩ | ⟨a, len, cap, elems, rest, n, _, rfl, _, hb, hl, hm, hlen, hel, _, _⟩
  · exact ⟨[], ⟨none, 0, rfl, Nat.le_refl _, by omega, Row.nil _ _ _ _⟩, by simp⟩
  · have hx : ∀ i : Fin len, ∃ y c, d.K w (fun _ => True) y c ∧ ∀ j u, c[j]? = some u → w.cell? (a.add (i.1 * d.sz + j)) = some u := by
      intro i
      have h1 := hel i.1 i.2
      rw [List.getElem?_eq_getElem (by rw [hlen]; exact i.2)] at h1
      obtain ⟨c, h2, h3⟩ := Option.bind_eq_some_iff.1 h1
      obtain ⟨y, hy⟩ := hr enc w base spare held n c _ h3
      obtain ⟨_, hcl, hcell⟩ := World.cells?_some h2
      refine ⟨y, c, hy, fun j u hu => ?_⟩
      have hj := (List.getElem?_eq_some_iff.1 hu).1
      have h4 := hcell j (by omega)
      rw [add_add, hc] at h4
      rw [h4, hu]
    refine ⟨List.ofFn fun i => Classical.choose (hx i), ⟨some a, cap, by rw [List.length_ofFn], by rw [List.length_ofFn]; exact hl, ?_, ?_⟩, by show (List.ofFn _).length ≤ _; rw [List.length_ofFn]; omega⟩
    · have : maxLen ≤ 9223372036854775807 := by decide
      omega
    · refine .inr ⟨a, rfl, trivial, fun j y hy => ?_⟩
      have hj : j < len := by simpa using (List.getElem?_eq_some_iff.1 hy).1
      have e1 : Classical.choose (hx ⟨j, hj⟩) = y := by simpa [hj] using hy
      obtain ⟨c, h1, h2⟩ := Classical.choose_spec (hx ⟨j, hj⟩)
      rw [e1] at h1
      exact ⟨c, h1, h2⟩
/-- Fields, from a place on. -/
def ReadsF {α : Type} (P : Program) (fs : List Field) (off : Nat) (d : Dt α) : Prop :=
  ∀ {H : Type} (enc : TypeId × Value → H) (w : World) (base : Nat) (spare : Nat → Bool) (held : Bool) (fuel : Nat) (cs : List Value), (∀ f ∈ fs, ∃ x, DataW.trod enc P w base spare held fuel f.type ((cs.drop f.offset).take (P.cellsOf f.type)) = some x) → cs.length = off + d.sz → ∃ y, d.K w (fun _ => True) y (cs.drop off)
theorem readsF_one {α : Type} {d : Dt α} {f : Field} {off : Nat} (ho : f.offset = off) (hr : Reads P d f.type) (hc : P.cellsOf f.type = d.sz) : ReadsF P [f] off d := by
  intro H enc w base spare held fuel cs h hl
  obtain ⟨x, hx⟩ := h f (by simp)
  rw [ho, hc, List.take_of_length_le (by rw [List.length_drop]; omega)] at hx
  exact hr enc w base spare held fuel _ _ hx
theorem readsF_cons {α β : Type} {a : Dt α} {b : Dt β} {f : Field} {fs : List Field} {off : Nat} (ho : f.offset = off) (hr : Reads P a f.type) (hc : P.cellsOf f.type = a.sz) (hF : ReadsF P fs (off + a.sz) b) : ReadsF P (f :: fs) off (dPair a b) := by
  intro H enc w base spare held fuel cs h hl
  have hl' : cs.length = off + (a.sz + b.sz) := hl
  obtain ⟨x, hx⟩ := h f (by simp)
  rw [ho, hc] at hx
  obtain ⟨y, hy⟩ := hr enc w base spare held fuel _ _ hx
  obtain ⟨z, hz⟩ := hF enc w base spare held fuel cs (fun g hg => h g (by simp [hg])) (by omega)
  refine ⟨(y, z), (cs.drop off).take a.sz, cs.drop (off + a.sz), ?_, hy, hz⟩
  rw [← List.drop_drop, List.take_append_drop]
theorem reads_struct {α : Type} {d : Dt α} {fs : Array Field} (ht : P.underlying t = some (.struct fs)) (hc : P.cellsOf t = d.sz) (hF : ReadsF P fs.toList 0 d) : Reads P d t := by
  intro H enc w base spare held fuel cs x h
  obtain ⟨xs, n, _, _, hl, hxl, hf⟩ := DataW.trod_struct ht h
  have := hF enc w base spare held n cs (fun f hf' => by
    obtain ⟨i, hi, e⟩ := List.getElem_of_mem hf'
    have h1 := hf i f (by rw [← e]; simp)
    rw [h1]
    exact ⟨xs[i]'(by simpa [hxl] using hi), by rw [List.getElem?_eq_getElem]⟩) (by omega)
  simpa using this
theorem reads_arr2 {α : Type} {a : Dt α} (ht : P.underlying t = some (.array 2 e)) (hr : Reads P a e) (hc : P.cellsOf e = a.sz) (hct : P.cellsOf t = a.sz + a.sz) : Reads P (dPair a a) t := by
  intro H enc w base spare held fuel cs x h
  cases fuel with
  | zero => simp [DataW.trod] at h
  | succ n =>
    unfold DataW.trod at h
    rw [ht] at h
    simp only at h
    split at h
    · rename_i hl
      rw [hct] at hl
      obtain ⟨xs, hxs, _⟩ := Option.map_eq_some_iff.1 h
      simp only [show List.range 2 = [0, 1] from rfl, List.mapM_cons, List.mapM_nil, hc] at hxs
      obtain ⟨x0, h0, hxs⟩ := Option.bind_eq_some_iff.1 hxs
      obtain ⟨r, h1, hxs⟩ := Option.bind_eq_some_iff.1 hxs
      obtain ⟨x1, h1, _⟩ := Option.bind_eq_some_iff.1 h1
      obtain ⟨y0, k0⟩ := hr enc w base spare held n _ _ h0
      obtain ⟨y1, k1⟩ := hr enc w base spare held n _ _ h1
      rw [Nat.zero_mul, List.drop_zero] at k0
      rw [Nat.one_mul, List.take_of_length_le (by rw [List.length_drop]; omega)] at k1
      exact ⟨(y0, y1), cs.take a.sz, cs.drop a.sz, (List.take_append_drop _ _).symm, k0, k1⟩
    · cases h
theorem reads_iso {α β : Type} {d : Dt α} {f : β → α} (g : α → β) (hg : ∀ x, f (g x) = x) (h : Reads P d t) : Reads P (dIso d f) t := by
  intro H enc w base spare held fuel cs x hx
  obtain ⟨y, hy⟩ := h enc w base spare held fuel cs x hx
  refine ⟨g y, ?_⟩
  show d.K w _ (f (g y)) cs
  rw [hg]
  exact hy
end
end Go.Proofs.YtgmjgdjobkmbgaaL
