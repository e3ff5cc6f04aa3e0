/- The law VarsDropped of states, in plain Lean. -/
import Derived.Test.YtlmkmmkhfkdagaaNearP
import Derived.Test.YtlmkmmkhfkdagaaDropM
set_option linter.unusedVariables false
set_option linter.unusedSimpArgs false
namespace Go.Abs
open Go.RowKit

theorem strGe (a b : ByteArray) : (strLt a b || decide (a = b)) = !strLt b a := by
  cases h1 : strLt b a with
  | true =>
    have h2 := strLt_asymm h1
    have h3 : a ≠ b := fun e => by rw [e, strLt_irrefl] at h1; cases h1
    simp [h2, h3]
  | false =>
    cases h2 : strLt a b with
    | true => rfl
    | false => simp [strLt_total h2 h1]

theorem drop_own (s : StM) (scope : Int) : (s.drop [scope]).own scope = [] := by
  unfold StM.drop StM.own
  simp only [List.filter_filter]
  rw [List.filter_eq_nil_iff]
  intro c _
  simp

theorem drop_count (s : StM) (scope : Int) : (s.drop [scope]).cells.length + (s.own scope).length = s.cells.length := by
  unfold StM.drop StM.own
  simp only
  generalize s.cells = L
  induction L with
  | nil => rfl
  | cons c L ih =>
    simp only [List.filter_cons]
    by_cases e : c.scope = scope
    · simp [e] at ih ⊢; omega
    · simp [e] at ih ⊢; omega

theorem drop_scope {s : StM} {scope : Int} : ∀ c ∈ (s.drop [scope]).cells, c.scope ≠ scope := by
  intro c hc
  have := (List.mem_filter.1 hc).2
  simpa using this

theorem open_drop {t : StM} {scope : Int} {vs : List VarM} (ht : Sorted t.cells) (hno : ∀ c ∈ t.cells, c.scope ≠ scope) : (t.open_ scope vs).drop [scope] = t := by
  have hc : t.cells = ((t.open_ scope vs).drop [scope]).cells := by
    refine sort_unique _ _ ht (List.Pairwise.filter _ (isortM_sorted _)) fun k n => ?_
    show ((isortM (t.pre scope vs)).filter fun c => !decide (c.scope ∈ [scope])).filter (isCell k n) = _
    rw [List.filter_filter]
    by_cases e : k = scope
    · have h1 : (isortM (t.pre scope vs)).filter (fun c => isCell k n c && !decide (c.scope ∈ [scope])) = [] := by
        rw [List.filter_eq_nil_iff]
        intro c _
        by_cases h : c.scope = scope <;> simp [isCell, h, e]
      rw [h1, eq_comm, List.filter_eq_nil_iff]
      intro c hc
      have := hno c hc
      simp [isCell, e, this]
    · have h1 : (isortM (t.pre scope vs)).filter (fun c => isCell k n c && !decide (c.scope ∈ [scope])) = (isortM (t.pre scope vs)).filter (isCell k n) := by
        apply List.filter_congr
        intro c _
        by_cases h : c.scope = k
        · simp [isCell, h, e]
        · simp [isCell, h]
      rw [h1, isortM_keys]
      unfold StM.pre
      rw [List.filter_append]
      have h2 : (openVars scope vs []).filter (isCell k n) = [] := by
        rw [List.filter_eq_nil_iff]
        intro c hc
        have := openVars_scope scope vs [] (by simp) c hc
        simp [isCell, this, Ne.symm e]
      rw [h2, List.nil_append, List.filter_filter]
      apply List.filter_congr
      intro c hc
      simp [keepC, hno c hc]
  have : (t.open_ scope vs).drop [scope] = { t with cells := ((t.open_ scope vs).drop [scope]).cells } := rfl
  rw [this, ← hc]

/-- No cell is behind the one that follows it, as the program looks: the row rises. -/
theorem rise_sorted {L : List CellM} (h : ∀ i, i + 1 < L.length → keyLt (cAt L (i + 1)) (cAt L i) = false) : Sorted L := by
  apply sortedAt_pairwise
  intro p q _ hpq hq
  obtain ⟨d, rfl⟩ : ∃ d, q = p + 1 + d := ⟨q - (p + 1), by omega⟩
  induction d with
  | zero => exact h p (by omega)
  | succ d ih => exact keyLe_trans (ih (by omega) (by omega)) (h (p + 1 + d) (by omega))
end Go.Abs
