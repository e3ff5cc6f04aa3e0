/- Rows of cells in the order of scopes and names: plain Lean. -/
import Derived.Test.YtlmkmmkhfkdagaaModel
import Derived.Test.YtlmkmmkhfkdagaaKe
set_option linter.unusedVariables false
set_option linter.unusedSimpArgs false
namespace Go.Abs
open Go.RowKit

theorem bytesLess_irrefl : ∀ x, Op.bytesLess x x = false
  | [] => rfl
  | a :: x => by simp [Op.bytesLess, bytesLess_irrefl x]

theorem bytesLess_trans : ∀ x y z, Op.bytesLess x y = true → Op.bytesLess y z = true → Op.bytesLess x z = true
  | x, y, [], _, h => by cases y <;> simp [Op.bytesLess] at h
  | [], _, _ :: _, _, _ => rfl
  | a :: x, [], c :: z, h, _ => by simp [Op.bytesLess] at h
  | a :: x, b :: y, c :: z, h1, h2 => by
    simp only [Op.bytesLess, Bool.or_eq_true, Bool.and_eq_true, decide_eq_true_eq, beq_iff_eq] at *
    rcases h1 with h1 | ⟨rfl, h1⟩ <;> rcases h2 with h2 | ⟨rfl, h2⟩
    · exact .inl (UInt8.lt_trans h1 h2)
    · exact .inl h1
    · exact .inl h2
    · exact .inr ⟨rfl, bytesLess_trans x y z h1 h2⟩

theorem bytesLess_total : ∀ x y, Op.bytesLess x y = false → Op.bytesLess y x = false → x = y
  | [], [], _, _ => rfl
  | [], _ :: _, h, _ => by simp [Op.bytesLess] at h
  | _ :: _, [], _, h => by simp [Op.bytesLess] at h
  | a :: x, b :: y, h1, h2 => by
    simp only [Op.bytesLess, Bool.or_eq_false_iff, Bool.and_eq_false_iff, decide_eq_false_iff_not, beq_eq_false_iff_ne] at h1 h2
    have hab : a = b := by
      rcases UInt8.lt_or_eq_of_le (UInt8.not_lt.1 h1.1) with h | h
      · exact absurd h h2.1
      · exact h.symm
    subst hab
    have h3 := h1.2.resolve_left fun h => h rfl
    have h4 := h2.2.resolve_left fun h => h rfl
    rw [bytesLess_total x y h3 h4]

theorem strLt_irrefl (x : ByteArray) : strLt x x = false := bytesLess_irrefl _
theorem strLt_trans {x y z : ByteArray} (h1 : strLt x y = true) (h2 : strLt y z = true) : strLt x z = true := bytesLess_trans _ _ _ h1 h2
theorem strLt_total {x y : ByteArray} (h1 : strLt x y = false) (h2 : strLt y x = false) : x = y := by
  have h := toList_eq_iff x y
  rw [bytesLess_total _ _ h1 h2] at h
  simpa using h.symm
theorem strLt_asymm {x y : ByteArray} (h1 : strLt x y = true) : strLt y x = false := by
  cases h : strLt y x with
  | false => rfl
  | true => have := strLt_trans h1 h; rw [strLt_irrefl] at this; cases this

/-- Is a cell ahead of another one, by its scope and its name? -/
def keyLt (a b : CellM) : Bool := decide (a.scope < b.scope) || (decide (a.scope = b.scope) && strLt a.name b.name)

theorem keyLt_irrefl (a : CellM) : keyLt a a = false := by simp [keyLt, strLt_irrefl]
theorem keyLt_trans {a b c : CellM} (h1 : keyLt a b = true) (h2 : keyLt b c = true) : keyLt a c = true := by
  simp only [keyLt, Bool.or_eq_true, Bool.and_eq_true, decide_eq_true_eq] at *
  rcases h1 with h1 | ⟨h1, h3⟩ <;> rcases h2 with h2 | ⟨h2, h4⟩
  · exact .inl (by omega)
  · exact .inl (by omega)
  · exact .inl (by omega)
  · exact .inr ⟨by omega, strLt_trans h3 h4⟩
theorem keyLt_total {a b : CellM} (h1 : keyLt a b = false) (h2 : keyLt b a = false) : a.scope = b.scope ∧ a.name = b.name := by
  simp only [keyLt, Bool.or_eq_false_iff, Bool.and_eq_false_iff, decide_eq_false_iff_not] at *
  have hs : a.scope = b.scope := by omega
  exact ⟨hs, strLt_total (h1.2.resolve_left fun h => h hs) (h2.2.resolve_left fun h => h hs.symm)⟩
theorem keyLt_asymm {a b : CellM} (h : keyLt a b = true) : keyLt b a = false := by
  cases h2 : keyLt b a with
  | false => rfl
  | true => have := keyLt_trans h h2; rw [keyLt_irrefl] at this; cases this
theorem keyLt_congr {a a' b b' : CellM} (h1 : a.scope = a'.scope) (h2 : a.name = a'.name) (h3 : b.scope = b'.scope) (h4 : b.name = b'.name) : keyLt a b = keyLt a' b' := by
  simp [keyLt, h1, h2, h3, h4]
/-- From a row that does not fall. -/
theorem keyLe_trans {a b c : CellM} (h1 : keyLt b a = false) (h2 : keyLt c b = false) : keyLt c a = false := by
  cases h : keyLt c a with
  | false => rfl
  | true =>
    cases h3 : keyLt a b with
    | true => rw [keyLt_trans h h3] at h2; cases h2
    | false =>
      obtain ⟨e1, e2⟩ := keyLt_total h3 h1
      rw [keyLt_congr rfl rfl e1 e2] at h
      rw [h] at h2
      cases h2

def cmpM (a b : CellM) : Int := if a.scope < b.scope then -1 else if b.scope < a.scope then 1 else if strLt a.name b.name then -1 else if strLt b.name a.name then 1 else 0
theorem cmpM_lt (a b : CellM) : decide (cmpM a b < 0) = keyLt a b := by
  unfold cmpM keyLt
  by_cases h1 : a.scope < b.scope
  · simp [h1]
  · by_cases h2 : b.scope < a.scope
    · have : a.scope ≠ b.scope := by omega
      simp [h1, h2, this]
    · have h3 : a.scope = b.scope := by omega
      simp only [h1, h2, h3, if_false, decide_false, decide_true, Bool.true_and, Bool.false_or]
      cases h4 : strLt a.name b.name with
      | true => simp
      | false =>
        cases h5 : strLt b.name a.name <;> simp

/-- The same cells of each scope and name, in the same row. -/
def SameKeys (L L' : List CellM) : Prop := ∀ k n, L'.filter (isCell k n) = L.filter (isCell k n)
theorem SameKeys.refl (L : List CellM) : SameKeys L L := fun _ _ => rfl
theorem SameKeys.trans {L L' L'' : List CellM} (h1 : SameKeys L L') (h2 : SameKeys L' L'') : SameKeys L L'' := fun k n => (h2 k n).trans (h1 k n)

def cAt (L : List CellM) (i : Nat) : CellM := L.getD i zCell
theorem cAt_eq {L : List CellM} {i : Nat} (h : i < L.length) : L[i]? = some (cAt L i) := by simp [cAt, List.getD_eq_getElem?_getD, h]
theorem cAt_of {L : List CellM} {i : Nat} {c : CellM} (h : L[i]? = some c) : cAt L i = c := by simp [cAt, List.getD_eq_getElem?_getD, h]
theorem cAt_set {L : List CellM} {i : Nat} {c : CellM} (j : Nat) (h : i < L.length) : cAt (L.set i c) j = if i = j then c else cAt L j := by
  unfold cAt
  simp only [List.getD_eq_getElem?_getD, List.getElem?_set]
  by_cases e : i = j
  · subst e; simp [h]
  · simp [e]

/-- Two that stand side by side, and are not of one key, change places. -/
def swapL (L : List CellM) (i : Nat) : List CellM := (L.set (i + 1) (cAt L i)).set i (cAt L (i + 1))
theorem swapL_length (L : List CellM) (i : Nat) : (swapL L i).length = L.length := by simp [swapL]
theorem swapL_at {L : List CellM} {i : Nat} (h : i + 1 < L.length) (j : Nat) : cAt (swapL L i) j = if j = i then cAt L (i + 1) else if j = i + 1 then cAt L i else cAt L j := by
  unfold swapL
  rw [cAt_set j (by simp; omega), cAt_set j h]
  by_cases e : i = j
  · subst e; simp
  · have e' : ¬ j = i := fun x => e x.symm
    simp only [e, e', if_false]
    by_cases e2 : i + 1 = j
    · subst e2; simp
    · have e3 : ¬ j = i + 1 := fun x => e2 x.symm
      simp [e2, e3]

theorem split2 {L : List CellM} {i : Nat} (h : i + 1 < L.length) : ∃ A B, A.length = i ∧ L = A ++ cAt L i :: cAt L (i + 1) :: B ∧ swapL L i = A ++ cAt L (i + 1) :: cAt L i :: B := by
  refine ⟨L.take i, L.drop (i + 2), by simp; omega, ?_, ?_⟩
  · have h1 : L[i]? = some (cAt L i) := cAt_eq (by omega)
    have h2 : L[i + 1]? = some (cAt L (i + 1)) := cAt_eq h
    have e1 := (List.getElem?_eq_some_iff.1 h1).2
    have e2 := (List.getElem?_eq_some_iff.1 h2).2
    rw [← e1, ← e2, List.getElem_cons_drop, List.getElem_cons_drop, List.take_append_drop]
  · apply List.ext_getElem?
    intro j
    have hlen : (L.take i).length = i := by simp; omega
    rcases Nat.lt_or_ge j i with q | q
    · rw [List.getElem?_append_left (by omega), List.getElem?_take]
      simp only [swapL, List.getElem?_set]
      have a1 : ¬ i = j := by omega
      have a2 : ¬ i + 1 = j := by omega
      simp [a1, a2, q]
    · rw [List.getElem?_append_right (by omega), hlen]
      simp only [swapL, List.getElem?_set]
      by_cases e : i = j
      · subst e
        simp
        omega
      · by_cases e2 : i + 1 = j
        · subst e2
          simp [h]
        · obtain ⟨d, rfl⟩ : ∃ d, j = i + 2 + d := ⟨j - (i + 2), by omega⟩
          have a3 : i + 2 + d - i = d + 2 := by omega
          have a4 : ¬ i = i + 2 + d := by omega
          have a5 : ¬ i + 1 = i + 2 + d := by omega
          simp [a3, a4, a5, List.getElem?_drop]

theorem swapL_keys {L : List CellM} {i : Nat} (h : i + 1 < L.length) (hk : keyLt (cAt L (i + 1)) (cAt L i) = true) : SameKeys L (swapL L i) := by
  obtain ⟨A, B, _, e1, e2⟩ := split2 h
  intro k n
  rw [e2]
  conv => rhs; rw [e1]
  simp only [List.filter_append, List.filter_cons]
  generalize cAt L i = x at *
  generalize cAt L (i + 1) = y at *
  have : ¬ (isCell k n x = true ∧ isCell k n y = true) := by
    rintro ⟨h1, h2⟩
    simp only [isCell, Bool.and_eq_true, decide_eq_true_eq] at h1 h2
    rw [keyLt_congr (a' := x) (b' := x) (h2.1.trans h1.1.symm) (h2.2.trans h1.2.symm) rfl rfl, keyLt_irrefl] at hk
    cases hk
  cases hx : isCell k n x <;> cases hy : isCell k n y <;> simp_all

/-- From one place to another one the row does not fall. -/
def SortedAt (L : List CellM) (a b : Nat) : Prop := ∀ p q, a ≤ p → p < q → q < b → keyLt (cAt L q) (cAt L p) = false

/-- What sorting a part of a row does. -/
structure SortOk (L L' : List CellM) (a b : Nat) : Prop where
  len : L'.length = L.length
  keys : SameKeys L L'
  out : ∀ i, (i < a ∨ b ≤ i) → cAt L' i = cAt L i
  sorted : SortedAt L' a b
theorem SortOk.trans20 {L L1 L2 : List CellM} {b : Nat} (h1 : SortOk L L1 0 b) (h2 : SortOk L1 L2 b b) : SortOk L L2 0 b := by
  refine ⟨h2.len.trans h1.len, h1.keys.trans h2.keys, fun i hi => ?_, fun p q hp hpq hq => ?_⟩
  · rw [h2.out i (by omega), h1.out i hi]
  · rw [h2.out q (by omega), h2.out p (by omega)]
    exact h1.sorted p q hp hpq hq

end Go.Abs
