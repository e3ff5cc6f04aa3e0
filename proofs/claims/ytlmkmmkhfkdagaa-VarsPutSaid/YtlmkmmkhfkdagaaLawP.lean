/- Laws of the model: one value put. Plain Lean. -/
import Derived.Test.YtlmkmmkhfkdagaaLawM
set_option linter.unusedVariables false
set_option linter.unusedSimpArgs false
namespace Go.Abs
open Go.RowKit

theorem findIdx_congr {α : Type} (p : α → Bool) : ∀ (l l' : List α), l.map p = l'.map p → l.findIdx? p = l'.findIdx? p
  | [], [], _ => rfl
  | [], _ :: _, h => by simp at h
  | _ :: _, [], h => by simp at h
  | a :: l, b :: l', h => by
    simp only [List.map_cons, List.cons.injEq] at h
    rw [List.findIdx?_cons, List.findIdx?_cons, h.1, findIdx_congr p l l' h.2]

theorem map_set_same {α β : Type} (f : α → β) : ∀ (l : List α) (i : Nat) (a b : α), l[i]? = some a → f b = f a → (l.set i b).map f = l.map f
  | [], _, _, _, h, _ => by simp at h
  | x :: l, 0, a, b, h, he => by simp at h; subst h; simp [he]
  | x :: l, i + 1, a, b, h, he => by
    simp only [List.set_cons_succ, List.map_cons]
    rw [map_set_same f l i a b (by simpa using h) he]

theorem isCell_v (id : Int) (nm : ByteArray) (c : CellM) (v : ValM) : isCell id nm { c with v := v } = isCell id nm c := rfl

theorem spot_setCell {s : StM} {i : Nat} {c : CellM} {v : ValM} (hc : s.cells[i]? = some c) (scope : Int) (nm : ByteArray) : (s.setCell i v).spot scope nm = s.spot scope nm := by
  unfold StM.spot
  rw [way_congr (t := s.setCell i v) (s := s) rfl]
  congr 1
  funext id
  refine findIdx_congr _ _ _ ?_
  unfold StM.setCell
  refine map_set_same _ _ _ c _ hc ?_
  rw [cAt_of hc]
  rfl

theorem spot_find {s : StM} {scope : Int} {nm : ByteArray} {i : Nat} (h : s.spot scope nm = some i) : ∃ c, s.cells[i]? = some c ∧ c.name = nm ∧ s.cells.findIdx? (isCell c.scope nm) = some i := by
  unfold StM.spot at h
  obtain ⟨id, _, h1⟩ := List.exists_of_findSome?_eq_some h
  have h0 := h1
  rw [List.findIdx?_eq_some_iff_getElem] at h1
  obtain ⟨hi, h2, _⟩ := h1
  simp only [isCell, Bool.and_eq_true, decide_eq_true_eq] at h2
  exact ⟨_, List.getElem?_eq_getElem hi, h2.2, by rw [h2.1]; exact h0⟩

/-- What is seen behind one value put. -/
theorem seen_setCell {s : StM} {i : Nat} {c : CellM} {v : ValM} (hc : s.cells[i]? = some c) (scope : Int) (nm : ByteArray) :
    (s.setCell i v).seen scope nm = if s.spot scope nm = some i then some { c with v := v } else s.seen scope nm := by
  unfold StM.seen
  rw [spot_setCell hc]
  have hil := (List.getElem?_eq_some_iff.1 hc).1
  cases hs : s.spot scope nm with
  | none => simp
  | some j =>
    simp only [Option.bind_some, StM.setCell, List.getElem?_set, Option.some.injEq]
    by_cases e : j = i
    · subst e; simp [hil, cAt_of hc]
    · have : ¬ i = j := fun x => e x.symm
      simp [e, this]

theorem seen_some {s : StM} {scope : Int} {nm : ByteArray} {c : CellM} (h : s.seen scope nm = some c) : ∃ i, s.spot scope nm = some i ∧ s.cells[i]? = some c ∧ c.name = nm ∧ s.cells.findIdx? (isCell c.scope nm) = some i := by
  unfold StM.seen at h
  cases hs : s.spot scope nm with
  | none => simp [hs] at h
  | some i =>
    rw [hs] at h
    obtain ⟨d, h1, h2, h3⟩ := spot_find hs
    simp only [Option.bind_some] at h
    rw [h] at h1
    cases h1
    exact ⟨i, rfl, h, h2, h3⟩

theorem put_one (s : StM) (scope : Int) (nm : ByteArray) (v : ValM) :
    (s.seen scope nm = none ∧ s.put scope [⟨nm, v⟩] = (s, 22)) ∨
    (∃ i c, s.spot scope nm = some i ∧ s.cells[i]? = some c ∧ s.seen scope nm = some c ∧ c.name = nm ∧ ((s.put scope [⟨nm, v⟩] = (s, 23)) ∨ (s.put scope [⟨nm, v⟩] = (s.setCell i v, 0) ∧ v.kind = c.v.kind))) := by
  unfold StM.put
  simp only [StM.putGo]
  cases hs : s.spot scope nm with
  | none => exact .inl ⟨by simp [StM.seen, hs], rfl⟩
  | some i =>
    obtain ⟨c, h1, h2, h3⟩ := spot_find hs
    refine .inr ⟨i, c, rfl, h1, by simp [StM.seen, hs, h1], h2, ?_⟩
    simp only [cAt_of h1]
    split
    · rename_i h
      simp only [Bool.and_eq_true, decide_eq_true_eq] at h
      exact .inr ⟨rfl, h.1⟩
    · exact .inl rfl
end Go.Abs
