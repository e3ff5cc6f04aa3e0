/- What dropping scopes makes of the cells, in plain Lean. -/
import Derived.Test.YtlmkmmkhfkdagaaWorksM
set_option linter.unusedVariables false
set_option linter.unusedSimpArgs false
set_option maxRecDepth 8000
namespace Go.Abs
open Go.RowKit

/-- The state without all cells of some scopes. -/
def StM.drop (s : StM) (vs : List Int) : StM := { s with cells := s.cells.filter fun c => !decide (c.scope ∈ vs) }

/-- A row without those that are struck, as the program makes it: what stands ahead of place i is what stays of the first j. -/
def Struck (p : CellM → Bool) (L L' : List CellM) (i j : Nat) : Prop :=
  L'.length = L.length ∧ L'.take i = (L.take j).filter (fun c => !p c) ∧ L'.drop j = L.drop j ∧ i = ((L.take j).filter fun c => !p c).length

theorem Struck.at {p : CellM → Bool} {L L' : List CellM} {i j : Nat} (s : Struck p L L' i j) (hj : j < L.length) : cAt L' j = cAt L j := by
  have h := congrArg (fun l => l[0]?) s.2.2.1
  simp only [List.getElem?_drop, Nat.add_zero] at h
  rw [cAt_eq hj, cAt_eq (by rw [s.1]; exact hj)] at h
  exact Option.some.inj h

theorem Struck.le {p : CellM → Bool} {L L' : List CellM} {i j : Nat} (s : Struck p L L' i j) : i ≤ j := by
  rw [s.2.2.2]
  exact Nat.le_trans (List.length_filter_le _ _) (List.length_take_le _ _)

theorem Struck.gone {p : CellM → Bool} {L L' : List CellM} {i j : Nat} (s : Struck p L L' i j) (hj : j < L.length) (hp : p (cAt L j) = true) : Struck p L L' i (j + 1) := by
  have ht : (L.take (j + 1)).filter (fun c => !p c) = (L.take j).filter fun c => !p c := by
    rw [List.take_add_one, cAt_eq hj, List.filter_append]
    simp [hp]
  refine ⟨s.1, by rw [ht]; exact s.2.1, ?_, by rw [ht]; exact s.2.2.2⟩
  have h := congrArg (fun l => l.drop 1) s.2.2.1
  simpa [List.drop_drop] using h

theorem Struck.kept {p : CellM → Bool} {L L' : List CellM} {i j : Nat} (s : Struck p L L' i j) (hj : j < L.length) (hij : i < j) (hp : p (cAt L j) = false) : Struck p L (L'.set i (cAt L j)) (i + 1) (j + 1) := by
  have hll := s.1
  have ht : (L.take (j + 1)).filter (fun c => !p c) = (L.take j).filter (fun c => !p c) ++ [cAt L j] := by
    rw [List.take_add_one, cAt_eq hj, List.filter_append]
    simp [hp]
  refine ⟨by simp [hll], ?_, ?_, ?_⟩
  · rw [ht, ← s.2.1, List.take_add_one, List.take_set_of_le (Nat.le_refl i), List.getElem?_set_self (by omega)]
    rfl
  · have h := congrArg (fun l => l.drop 1) s.2.2.1
    rw [List.drop_set_of_lt (by omega)]
    simpa [List.drop_drop] using h
  · rw [ht, List.length_append, ← s.2.2.2]; rfl

theorem Struck.start {p : CellM → Bool} {L : List CellM} {i : Nat} (h : L.findIdx? p = some i) : Struck p L L i (i + 1) := by
  rw [List.findIdx?_eq_some_iff_getElem] at h
  obtain ⟨hi, h1, h2⟩ := h
  have hall : (L.take i).filter (fun c => !p c) = L.take i := by
    rw [List.filter_eq_self]
    intro c hc
    obtain ⟨k, hk⟩ := List.getElem?_of_mem hc
    rw [List.getElem?_take] at hk
    split at hk
    · rename_i hki
      have := h2 k hki
      have hkl := (List.getElem?_eq_some_iff.1 hk).2
      rw [← hkl]
      simpa using this
    · cases hk
  have ht : (L.take (i + 1)).filter (fun c => !p c) = L.take i := by
    rw [List.take_add_one, List.filter_append, hall, List.getElem?_eq_getElem hi]
    simp [h1]
  exact ⟨rfl, ht.symm, rfl, by rw [ht, List.length_take]; omega⟩

theorem Struck.all {p : CellM → Bool} {L L' : List CellM} {i j : Nat} (s : Struck p L L' i j) (hj : L.length ≤ j) : L'.take i = L.filter fun c => !p c := by
  rw [s.2.1, List.take_of_length_le hj]

theorem none_struck {p : CellM → Bool} {L : List CellM} (h : L.findIdx? p = none) : L.filter (fun c => !p c) = L := by
  rw [List.findIdx?_eq_none_iff] at h
  rw [List.filter_eq_self]
  intro c hc
  simp [h c hc]
end Go.Abs
