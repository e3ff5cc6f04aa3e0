/- Laws of the model: what is opened is seen. Plain Lean. -/
import Derived.Test.YtlmkmmkhfkdagaaLawM
set_option linter.unusedVariables false
set_option linter.unusedSimpArgs false
namespace Go.Abs
open Go.RowKit

theorem hasCell_any (L : List CellM) (id : Int) (nm : ByteArray) : hasCell L id nm = L.any (isCell id nm) := by
  unfold hasCell
  rw [List.findIdx?_isSome]

theorem openVars_scope (scope : Int) : ∀ (vs : List VarM) (own : List CellM), (∀ c ∈ own, c.scope = scope) → ∀ c ∈ openVars scope vs own, c.scope = scope
  | [], own, h => h
  | v :: vs, own, h => by
    simp only [openVars]
    refine openVars_scope scope vs _ fun c hc => ?_
    split at hc
    · exact h c hc
    · rcases List.mem_append.1 hc with g | g
      · exact h c g
      · simp only [List.mem_singleton] at g
        rw [g]

/-- The first of a name is what is opened. -/
theorem openVars_find (scope : Int) (nm : ByteArray) : ∀ (vs : List VarM) (own : List CellM), (openVars scope vs own).find? (isCell scope nm) = ((own.find? (isCell scope nm)).or ((vs.find? fun v => decide (v.name = nm)).map fun v => ⟨scope, v.name, v.init⟩))
  | [], own => by simp [openVars]
  | v :: vs, own => by
    simp only [openVars]
    rw [openVars_find scope nm vs]
    by_cases hn : v.name = nm
    · rw [List.find?_cons_of_pos (by simp [hn])]
      rw [hasCell_any]
      cases ha : own.any (isCell scope v.name) with
      | true =>
        simp only [if_true]
        rw [hn] at ha
        rw [List.any_eq_true] at ha
        have := List.find?_isSome.2 ha
        cases hf : own.find? (isCell scope nm) with
        | none => rw [hf] at this; cases this
        | some c => simp
      | false =>
        simp only [Bool.false_eq_true, if_false, List.find?_append]
        rw [hn] at ha
        have hf : own.find? (isCell scope nm) = none := List.find?_eq_none.2 fun c hc => by
          rw [List.any_eq_false] at ha
          exact ha c hc
        rw [hf]
        simp [List.find?_cons, isCell, hn]
    · rw [List.find?_cons_of_neg (by simp [hn])]
      cases hasCell own scope v.name with
      | true => rfl
      | false =>
        simp only [Bool.false_eq_true, if_false, List.find?_append]
        have : List.find? (isCell scope nm) [(⟨scope, v.name, v.init⟩ : CellM)] = none := by simp [List.find?_cons, isCell, hn]
        rw [this]
        simp

theorem open_find (s : StM) (scope : Int) (vs : List VarM) (k : Int) (n : ByteArray) : (s.open_ scope vs).cells.find? (isCell k n) = (s.pre scope vs).find? (isCell k n) := by
  show (isortM (s.pre scope vs)).find? _ = _
  rw [← List.head?_filter, ← List.head?_filter, isortM_keys]

/-- What is opened in a scope is seen from it. -/
theorem open_seen {s : StM} {scope : Int} {vs : List VarM} {nm : ByteArray} {v : VarM} (hw : s.way scope ≠ []) (hv : (vs.find? fun v => decide (v.name = nm)) = some v) : (s.open_ scope vs).seen scope nm = some ⟨scope, nm, v.init⟩ := by
  obtain ⟨it, rest, _, _, hway, _⟩ := way_head hw
  rw [seen_find, way_congr (t := s.open_ scope vs) (s := s) rfl, hway, List.findSome?_cons, open_find]
  unfold StM.pre
  rw [List.find?_append, openVars_find, hv]
  have hn : v.name = nm := by simpa using List.find?_some hv
  simp [hn]

/-- Of scopes that do not see it nothing is another one. -/
theorem open_other {s : StM} {scope other : Int} {vs : List VarM} (nm : ByteArray) (hn : scope ∉ s.way other) : (s.open_ scope vs).seen other nm = s.seen other nm := by
  rw [seen_find, seen_find, way_congr (t := s.open_ scope vs) (s := s) rfl]
  have : ∀ l : List Int, scope ∉ l → (l.findSome? fun id => (s.open_ scope vs).cells.find? (isCell id nm)) = l.findSome? fun id => s.cells.find? (isCell id nm) := by
    intro l
    induction l with
    | nil => intro _; rfl
    | cons a l ih =>
      intro h
      simp only [List.mem_cons, not_or] at h
      rw [List.findSome?_cons, List.findSome?_cons, ih h.2]
      have : (s.open_ scope vs).cells.find? (isCell a nm) = s.cells.find? (isCell a nm) := by
        rw [open_find]
        unfold StM.pre
        have h1 : (openVars scope vs []).find? (isCell a nm) = none := List.find?_eq_none.2 fun c hc => by
          have := openVars_scope scope vs [] (by simp) c hc
          simp only [isCell, Bool.and_eq_true, decide_eq_true_eq, not_and]
          intro e
          exact absurd (this.symm.trans e) h.1
        rw [List.find?_append, h1, Option.none_or, List.find?_filter]
        congr 1
        funext c
        rw [Bool.eq_iff_iff]
        simp only [keepC, isCell, Bool.and_eq_true, Bool.or_eq_true, Bool.not_eq_true', decide_eq_false_iff_not, decide_eq_true_eq]
        constructor
        · exact fun g => g.2
        · intro g
          refine ⟨.inl fun e => h.1 (e.symm.trans g.1), g⟩
      rw [this]
  exact this _ hn

theorem insM_length (c : CellM) : ∀ L : List CellM, (insM c L).length = L.length + 1
  | [] => rfl
  | d :: L => by
    simp only [insM]
    split
    · rw [List.length_cons, insM_length c L, List.length_cons]
    · rfl
theorem isortM_length : ∀ L : List CellM, (isortM L).length = L.length
  | [] => rfl
  | c :: L => by
    show (insM c (isortM L)).length = _
    rw [insM_length, isortM_length L, List.length_cons]

theorem pre_len (s : StM) (scope : Int) (vs : List VarM) : (s.pre scope vs).length ≤ vs.length + s.cells.length := by
  unfold StM.pre
  rw [List.length_append]
  have h1 := openVars_length scope vs []
  have h2 := List.length_filter_le (keepC (openVars scope vs []) scope) s.cells
  simp only [List.length_nil] at h1
  omega
theorem open_len (s : StM) (scope : Int) (vs : List VarM) : (s.open_ scope vs).cells.length = (s.pre scope vs).length := isortM_length _
end Go.Abs
