/- append, from whatever source; rows of cells. -/
import Derived.Test.YtgmjgdjobkmbgaaMore
set_option linter.unusedVariables false
set_option linter.unusedSimpArgs false
namespace Go.Proofs.YtgmjgdjobkmbgaaL
open Go.RowKit

/-- The cells cs lie from A on. -/
def Seg (w : World) (A : Option Addr) (cs : List Value) : Prop := cs = [] ∨ ∃ ad, A = some ad ∧ ∀ j u, cs[j]? = some u → w.cell? (ad.add j) = some u
theorem Seg.nil (w : World) (A : Option Addr) : Seg w A [] := .inl rfl
theorem Seg.ofBlk {w : World} {b : Nat} {cur : Array Value} {t : TypeId} (h : Blk w b cur t) (o : Nat) (cs : List Value) (hc : ∀ j u, cs[j]? = some u → cur[o + j]? = some u) : Seg w (some ⟨b, o, none⟩) cs :=
  .inr ⟨_, rfl, fun j u hu => by
    have e : (⟨b, o, none⟩ : Addr).add j = ⟨b, o + j, none⟩ := by unfold Addr.add; split <;> simp_all
    rw [e]
    exact h.cell (hc j u hu)⟩
theorem Seg.only {w w1 : World} {A : Option Addr} {cs : List Value} {L : Nat → Prop} (h : Seg w A cs) (f : Only L w w1) (hn : ∀ ad, A = some ad → ¬ L ad.block) : Seg w1 A cs := by
  rcases h with h | ⟨ad, rfl, h⟩
  · exact .inl h
  · refine .inr ⟨ad, rfl, fun j u hu => f.cell (h j u hu) ?_⟩
    have : (ad.add j).block = ad.block := by unfold Addr.add; split <;> rfl
    rw [this]
    exact hn ad rfl
theorem Seg.drew {w : World} {A : Option Addr} {cs : List Value} (h : Seg w A cs) : Seg w.drew A cs := h
theorem Seg.cut {w : World} {A : Option Addr} {cs : List Value} (h : Seg w A cs) (lo cap z : Nat) (hc : cs.length ≤ cap * z) : Seg w (cutA A lo cap z) (cs.drop (lo * z)) := by
  rcases h with rfl | ⟨ad, rfl, h⟩
  · exact .inl (by simp)
  · unfold cutA
    split
    · rename_i e
      subst e
      exact .inl (List.drop_eq_nil_of_le hc)
    · refine .inr ⟨_, rfl, fun j u hu => ?_⟩
      rw [List.getElem?_drop] at hu
      have := h _ u hu
      have e2 : (ad.add (lo * z)).add j = ad.add (lo * z + j) := by
        unfold Addr.add
        split <;> split <;> split <;> simp_all <;> omega
      rw [e2]
      exact this
theorem Seg.take {w : World} {A : Option Addr} {cs : List Value} (h : Seg w A cs) (m : Nat) : Seg w A (cs.take m) := by
  rcases h with rfl | ⟨ad, rfl, h⟩
  · exact .inl (by simp)
  · refine .inr ⟨ad, rfl, fun j u hu => h j u ?_⟩
    rw [List.getElem?_take] at hu
    split at hu
    · exact hu
    · cases hu
theorem add_add (ad : Addr) (m j : Nat) : (ad.add m).add j = ad.add (m + j) := by
  unfold Addr.add
  split <;> split <;> split <;> simp_all <;> omega

section
variable {P : Program} {n : Nat} {ds : List Deferred} {l : List (Nat × Value)} {w : World} {d : Option Tmp} {ty : TypeId} {p : String} {af : Array Edge} {g : Option (Nat × Bool)}
theorem run_first {w : World} {A : Option Addr} {z m k c : Nat} {cs : List Value} (hl : cs.length = m * z) (h : Seg w A cs) : (Builtin.firstCells z m (.slice A k c)).run P w = .ok cs.toArray w := by
  cases A with
  | none =>
    rcases h with rfl | ⟨ad, h, _⟩
    · simp [Builtin.firstCells]
    · cases h
  | some a =>
    refine run_firstCells_some w z m a k c cs hl ?_
    rcases h with rfl | ⟨ad, h, hc⟩
    · intro j v hv; simp at hv
    · injection h with h; subst h; exact hc
/-- There is no room: a new row. -/
theorem run_append_new {t tx ty e : TypeId} {i : TypeInfo} {zv : Value} (ht : ∀ w, (underlying t).run P w = .ok (.slice e) w) (hx : ∀ w, ∃ dd, (underlying tx).run P w = .ok dd w ∧ ∀ k, dd ≠ .int k)
    (hi : ∀ w, (typeInfo e).run P w = .ok i w) (hz : ∀ w, (zeroValue e).run P w = .ok zv w)
    {A A' : Option Addr} {m k c c' : Nat} {olds news : List Value} (hlo : olds.length = m * i.size) (ho : Seg w A olds) (hln : news.length = k * i.size) (hn : Seg w A' news)
    (hg : c < m + k) (h63 : m + k ≤ 9223372036854775807) (hfit : (m + k) * i.bytes ≤ 140737488355328) :
    ∃ cap rest, m + k ≤ cap ∧ cap ≤ 9223372036854775807 ∧ rest.length = (cap - (m + k)) * zv.cells.size ∧ (Builtin.append_ #[t, tx] ty #[.slice A m c, .slice A' k c']).run P w =
      .ok (.slice (some ⟨w.heap.size, 0, none⟩) (m + k) cap) (w.drew.alloc (.cells (olds ++ news ++ rest).toArray e)) := by
  have hq : ∃ cap, m + k ≤ cap ∧ cap ≤ 9223372036854775807 ∧ cap = (Question.appendCap (m + k) c e).cut (w.tape w.drawn (.appendCap (m + k) c e)) := by
    refine ⟨_, ?_, ?_, rfl⟩
    · simp [Question.cut]
    · have hlt := Nat.mod_lt (w.tape w.drawn (.appendCap (m + k) c e)) (show 9223372036854775808 - (m + k) > 0 by omega)
      show (m + k) + (w.tape w.drawn (.appendCap (m + k) c e)) % (2 ^ 63 - (m + k)) ≤ 9223372036854775807
      simp only [show (2 : Nat) ^ 63 = 9223372036854775808 from rfl]
      omega
  obtain ⟨cap, hc1, hc2, hcap⟩ := hq
  obtain ⟨dd, hdd, hne⟩ := hx w
  have hsz : ∀ w, (sizeOf e).run P w = .ok i.size w := fun w => by simp [sizeOf, hi]
  have hnc : ¬ (m + k ≤ c) := by omega
  have h63' : ¬ (9223372036854775807 < ((m : Int) + (k : Int))) := by omega
  have h48' : ¬ (281474976710656 < Builtin.nextslicecap (m + k) c * i.bytes) := by
    have := growslice_fits (need := m + k) (old := c) (bytes := i.bytes) (by omega) hfit
    omega
  have hf := run_first (P := P) (w := w.drew) (k := k) (c := c') hln hn.drew
  have hfo := run_first (P := P) (w := w.drew) (k := m) (c := c) hlo ho.drew
  have hm : (match dd with | .int _ => true | _ => false) = false := by
    cases dd <;> first | rfl | (rename_i k0; exact absurd rfl (hne k0))
  refine ⟨cap, (Builtin.zeroCells zv.cells (cap - (m + k))).toList, hc1, hc2, by simp [Builtin.zeroCells], ?_⟩
  simp only [Builtin.append_]
  simp [ht, hdd, hsz, hi, hz, hm, Builtin.lenOf, hnc, h63', h48', Question.forced, hf, hfo, newRow, ← hcap]
  have ea : olds.toArray ++ (news.toArray ++ Builtin.zeroCells zv.cells (cap - (m + k))) = (olds ++ (news ++ (Builtin.zeroCells zv.cells (cap - (m + k))).toList)).toArray := by
    apply Array.toList_inj.1
    simp
  rw [ea]
/-- Nothing is appended. -/
theorem run_append_none {t tx ty e : TypeId} {z : Nat} (ht : ∀ w, (underlying t).run P w = .ok (.slice e) w) (hx : ∀ w, ∃ dd, (underlying tx).run P w = .ok dd w ∧ ∀ k, dd ≠ .int k)
    (hz : ∀ w, (sizeOf e).run P w = .ok z w) {A A' : Option Addr} {m c c' : Nat} (hm : m ≤ c) : (Builtin.append_ #[t, tx] ty #[.slice A m c, .slice A' 0 c']).run P w = .ok (.slice A m c) w := by
  obtain ⟨dd, hdd, hne⟩ := hx w
  have hb : (match dd with | .int _ => true | _ => false) = false := by
    cases dd <;> first | rfl | (rename_i k0; exact absurd rfl (hne k0))
  have hf := run_first (P := P) (w := w) (A := A') (z := z) (m := 0) (k := 0) (c := c') (cs := []) (by simp) (Seg.nil _ _)
  simp only [Builtin.append_]
  cases A <;> simp [ht, hdd, hz, hb, Builtin.lenOf, hm, hf, storeCells]
/-- There is room. -/
theorem run_append_room {t tx ty e : TypeId} {z : Nat} (ht : ∀ w, (underlying t).run P w = .ok (.slice e) w) (hx : ∀ w, ∃ dd, (underlying tx).run P w = .ok dd w ∧ ∀ k, dd ≠ .int k)
    (hz : ∀ w, (sizeOf e).run P w = .ok z w) {b o : Nat} {A' : Option Addr} {m k c c' : Nat} {news : List Value} {cur : Array Value} (hB : Blk w b cur e) (hln : news.length = k * z) (hn : Seg w A' news)
    (h1 : ∀ u ∈ news, u.oneCell' = true) (hm : m + k ≤ c) (hs : o + m * z + news.length ≤ cur.size) :
    ∃ w', (Builtin.append_ #[t, tx] ty #[.slice (some ⟨b, o, none⟩) m c, .slice A' k c']).run P w = .ok (.slice (some ⟨b, o, none⟩) (m + k) c) w' ∧ IsSet w b (putAll cur (o + m * z) news) e w' := by
  obtain ⟨dd, hdd, hne⟩ := hx w
  have hb : (match dd with | .int _ => true | _ => false) = false := by
    cases dd <;> first | rfl | (rename_i k0; exact absurd rfl (hne k0))
  have hf := run_first (P := P) (w := w) (k := k) (c := c') hln hn
  obtain ⟨w', hr, hS⟩ := run_storeCells_blk (P := P) news (o + m * z) 0 cur w b e hB (by omega) h1
  have ea : (⟨b, o, none⟩ : Addr).add (m * z) = ⟨b, o + m * z, none⟩ := by unfold Addr.add; split <;> simp_all
  refine ⟨w', ?_, by simpa using hS⟩
  simp only [Builtin.append_]
  simp [ht, hdd, hz, hb, Builtin.lenOf, hm, hf, ea, hr]
theorem putAll_append (news rest xs : List Value) : ∀ (pre : List Value), pre = xs → news.length ≤ rest.length → putAll (xs ++ rest).toArray xs.length news = (xs ++ news ++ rest.drop news.length).toArray := by
  induction news generalizing rest xs with
  | nil => intro pre _ _; simp [putAll]
  | cons u r ih =>
    intro pre hp hl
    cases rest with
    | nil => simp at hl
    | cons v s =>
      have h := ih s (xs ++ [u]) _ rfl (by simpa using hl)
      have e : (xs ++ v :: s).toArray.setIfInBounds xs.length u = (xs ++ [u] ++ s).toArray := by
        apply Array.toList_inj.1
        simp
      simp only [putAll, e]
      have e2 : xs.length + 1 = (xs ++ [u]).length := by simp
      rw [e2, h]
      simp
/-- A slice that owns its row: n elements, their cells xs. -/
def OwnC (w : World) (e z : Nat) (v : Value) (n : Nat) (xs : List Value) : Prop :=
  xs.length = n * z ∧ ((v = .slice none 0 0 ∧ n = 0) ∨ ∃ b cap rest, v = .slice (some ⟨b, 0, none⟩) n cap ∧ n ≤ cap ∧ cap ≤ 9223372036854775807 ∧ rest.length = (cap - n) * z ∧ Blk w b (xs ++ rest).toArray e)
namespace OwnC
variable {w1 : World} {e z : Nat} {v : Value} {xs : List Value} {k : Nat}
theorem nil (w : World) (e z : Nat) : OwnC w e z (.slice none 0 0) 0 [] := ⟨by simp, .inl ⟨rfl, rfl⟩⟩
theorem move (h : OwnC w e z v k xs) (hm : ∀ b, v.ownBlock = some b → w1.heap[b]? = w.heap[b]?) : OwnC w1 e z v k xs := by
  refine ⟨h.1, ?_⟩
  rcases h.2 with h2 | ⟨b, cap, rest, rfl, h3, h4, h5, hB⟩
  · exact .inl h2
  · exact .inr ⟨b, cap, rest, rfl, h3, h4, h5, (hm b rfl).trans hB⟩
theorem lt (h : OwnC w e z v k xs) {b : Nat} (hb : v.ownBlock = some b) : b < w.heap.size := by
  rcases h.2 with ⟨rfl, _⟩ | ⟨b', cap, rest, rfl, _, _, _, hB⟩
  · simp [Value.ownBlock] at hb
  · simp [Value.ownBlock] at hb
    subst hb
    exact hB.lt
theorem typed (h : OwnC w e z v k xs) {b : Nat} (hb : v.ownBlock = some b) : ∃ cs, Blk w b cs e := by
  rcases h.2 with ⟨rfl, _⟩ | ⟨b', cap, rest, rfl, _, _, _, hB⟩
  · simp [Value.ownBlock] at hb
  · simp [Value.ownBlock] at hb
    subst hb
    exact ⟨_, hB⟩
theorem slice (h : OwnC w e z v k xs) : ∃ A c, v = .slice A k c ∧ k ≤ c ∧ c ≤ 9223372036854775807 ∧ Seg w A xs ∧ (∀ ad, A = some ad → v.ownBlock = some ad.block) := by
  rcases h.2 with ⟨rfl, h0⟩ | ⟨b, cap, rest, rfl, h3, h4, h5, hB⟩
  · subst h0
    have : xs = [] := by have := h.1; simpa using this
    subst this
    exact ⟨none, 0, rfl, Nat.le_refl _, by omega, Seg.nil _ _, by simp⟩
  · exact ⟨_, cap, rfl, h3, h4, Seg.ofBlk hB 0 xs (fun j u hu => by
      have hj := (List.getElem?_eq_some_iff.1 hu).1
      simp [List.getElem?_append_left hj, hu]), by simp [Value.ownBlock]⟩
end OwnC
/-- What an append to a slice that owns its row leaves. -/
def IsApp (w : World) (e z : Nat) (v : Value) (m : Nat) (xs : List Value) (u : Value) (w' : World) : Prop :=
  OwnC w' e z u m xs ∧ Only (fun b => v.ownBlock = some b) w w' ∧ (u.ownBlock = v.ownBlock ∨ u.ownBlock = some w.heap.size)
theorem ef_append {t tx e : TypeId} {z k c : Nat} {i : TypeInfo} {zv : Value} {x y : Operand} {v : Value} {m : Nat} {xs news : List Value} {A : Option Addr} (ht : ∀ w, (underlying t).run P w = .ok (.slice e) w) (hx : ∀ w, ∃ dd, (underlying tx).run P w = .ok dd w ∧ ∀ k, dd ≠ .int k)
    (hi : ∀ w, (typeInfo e).run P w = .ok i w) (hz : ∀ w, (zeroValue e).run P w = .ok zv w) (hiz : i.size = z) (hzz : zv.cells.size = z)
    (hv : ev l x = some v) (hy : ev l y = some (.slice A k c)) (hown : OwnC w e z v m xs) (hln : news.length = k * z) (hn : Seg w A news) (h1 : ∀ u ∈ news, u.oneCell' = true)
    (h63 : m + k ≤ 9223372036854775807) (hfit : (m + k) * i.bytes ≤ 140737488355328) :
    Ef P n ds ⟨d, .call { callee := .builtin .append, args := #[x, y], argTypes := #[t, tx] }, ty, p, af, g⟩ l w (IsApp w e z v (m + k) (xs ++ news)) := fun a ha K Q h => by
  have hsz : ∀ w, (sizeOf e).run P w = .ok z w := fun w => by simp [sizeOf, hi, hiz]
  have key : ∃ u w', (Builtin.append_ #[t, tx] ty #[v, .slice A k c]).run P w = .ok u w' ∧ IsApp w e z v (m + k) (xs ++ news) u w' := by
    obtain ⟨A0, c0, hv0, hmc, hc63, hseg, hblk⟩ := hown.slice
    have hlen : (xs ++ news).length = (m + k) * z := by rw [List.length_append, hown.1, hln, Nat.add_mul]
    by_cases hroom : m + k ≤ c0
    · rcases hown.2 with ⟨rfl, h0⟩ | ⟨b, cap, rest, rfl, h3, h4, h5, hB⟩
      · injection hv0 with e1 e2 e3
        subst e3
        have hk : k = 0 := by omega
        subst hk
        have hnn : news = [] := by simpa using hln
        subst hnn
        exact ⟨_, _, run_append_none ht hx hsz (by omega), ⟨hlen, .inl ⟨rfl, by omega⟩⟩, Only.refl _ _, .inl rfl⟩
      · injection hv0 with e1 e2 e3
        subst e3
        have hrl : news.length ≤ rest.length := by
          rw [hln, h5]
          exact Nat.mul_le_mul_right _ (by omega)
        obtain ⟨w', hr, hS⟩ := run_append_room (P := P) (ty := ty) (c' := c) (o := 0) ht hx hsz hB hln hn h1 hroom (by simp [hown.1]; omega)
        refine ⟨_, w', hr, ⟨hlen, .inr ⟨b, cap, rest.drop news.length, rfl, hroom, h4, ?_, ?_⟩⟩, hS.1.mono (fun i _ hb => by subst hb; rfl), .inl rfl⟩
        · rw [List.length_drop, h5, hln, ← Nat.mul_sub_right_distrib]
          congr 1
          omega
        · have h6 := hS.2.1
          rw [Nat.zero_add, ← hown.1, putAll_append news rest xs xs rfl hrl] at h6
          exact h6
    · subst hv0
      obtain ⟨cap, rest, hc1, hc2, hrest, hr⟩ := run_append_new (P := P) (ty := ty) (w := w) (c := c0) (c' := c) (A := A0) (m := m) ht hx hi hz (by rw [hown.1, hiz]) hseg (by rw [hln, hiz]) hn (by omega) h63 hfit
      have hB : Blk (w.drew.alloc (.cells (xs ++ news ++ rest).toArray e)) w.heap.size (xs ++ news ++ rest).toArray e := Blk.new w.drew _ e
      refine ⟨.slice (some ⟨w.heap.size, 0, none⟩) (m + k) cap, w.drew.alloc (.cells (xs ++ news ++ rest).toArray e), hr, ⟨hlen, .inr ⟨w.heap.size, cap, rest, rfl, hc1, hc2, by rw [hrest, hzz], hB⟩⟩, ?_, .inr rfl⟩
      · exact ((Only.drew (fun _ => False) w).then_ (Only.alloc _ w.drew _)).mono (fun _ _ hf => hf.elim)
  obtain ⟨u, w', hr, hp⟩ := key
  have hr' : (execOp a.eval ⟨d, .call { callee := .builtin .append, args := #[x, y], argTypes := #[t, tx] }, ty, p, af, g⟩).run P w = .ok (.value u) w' := by
    simp only [execOp, resolve, invoke, builtin]
    simp [ha.eval hv, ha.eval hy, invoke, builtin, hr]
  simp only [Oper.wp, hr', Oper.upon]
  exact h _ _ hp
/-- What an append that has no room, or appends nothing, leaves: the elder row is left alone. -/
def IsNewRow (w : World) (e z : Nat) (v : Value) (m : Nat) (xs : List Value) (u : Value) (w' : World) : Prop :=
  Same w w' ∧ OwnC w' e z u m xs ∧ u.ownBlock = some w.heap.size
theorem ef_appendNew {t tx e : TypeId} {z k c m c0 : Nat} {i : TypeInfo} {zv : Value} {x y : Operand} {xs news : List Value} {A A0 : Option Addr} (ht : ∀ w, (underlying t).run P w = .ok (.slice e) w) (hx : ∀ w, ∃ dd, (underlying tx).run P w = .ok dd w ∧ ∀ k, dd ≠ .int k)
    (hi : ∀ w, (typeInfo e).run P w = .ok i w) (hz : ∀ w, (zeroValue e).run P w = .ok zv w) (hiz : i.size = z) (hzz : zv.cells.size = z)
    (hv : ev l x = some (.slice A0 m c0)) (hy : ev l y = some (.slice A k c)) (hlo : xs.length = m * z) (ho : Seg w A0 xs) (hln : news.length = k * z) (hn : Seg w A news)
    (hg : c0 < m + k) (h63 : m + k ≤ 9223372036854775807) (hfit : (m + k) * i.bytes ≤ 140737488355328) :
    Ef P n ds ⟨d, .call { callee := .builtin .append, args := #[x, y], argTypes := #[t, tx] }, ty, p, af, g⟩ l w (IsNewRow w e z (.slice A0 m c0) (m + k) (xs ++ news)) := fun a ha K Q h => by
  obtain ⟨cap, rest, hc1, hc2, hrest, hr⟩ := run_append_new (P := P) (ty := ty) (w := w) (c' := c) ht hx hi hz (by rw [hlo, hiz]) ho (by rw [hln, hiz]) hn hg h63 hfit
  have hr' : (execOp a.eval ⟨d, .call { callee := .builtin .append, args := #[x, y], argTypes := #[t, tx] }, ty, p, af, g⟩).run P w = .ok (.value (.slice (some ⟨w.heap.size, 0, none⟩) (m + k) cap)) (w.drew.alloc (.cells (xs ++ news ++ rest).toArray e)) := by
    simp only [execOp, resolve, invoke, builtin]
    simp only [Array.map, ha.eval hv, ha.eval hy, List.map_toArray] at *
    simp [ha.eval hv, ha.eval hy, invoke, builtin, hr]
  simp only [Oper.wp, hr', Oper.upon]
  have hlen : (xs ++ news).length = (m + k) * z := by rw [List.length_append, hlo, hln, Nat.add_mul]
  have hB : Blk (w.drew.alloc (.cells (xs ++ news ++ rest).toArray e)) w.heap.size (xs ++ news ++ rest).toArray e := Blk.new w.drew _ e
  exact h _ _ ⟨(Only.drew (fun _ => False) w).then_ (Only.alloc _ w.drew _), ⟨hlen, .inr ⟨w.heap.size, cap, rest, rfl, hc1, hc2, by rw [hrest, hzz], hB⟩⟩, rfl⟩
end
end Go.Proofs.YtgmjgdjobkmbgaaL
