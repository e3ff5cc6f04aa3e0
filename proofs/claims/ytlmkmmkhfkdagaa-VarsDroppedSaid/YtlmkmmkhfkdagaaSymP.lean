/- Two sorted parts merged in place: plain Lean. -/
import Derived.Test.YtlmkmmkhfkdagaaWorksM
set_option linter.unusedVariables false
set_option linter.unusedSimpArgs false
set_option maxRecDepth 8000
namespace Go.Abs
open Go.RowKit

/-- A row in three parts. -/
theorem three {L : List CellM} {a b : Nat} (hab : a ≤ b) (hb : b ≤ L.length) : L = L.take a ++ ((L.drop a).take (b - a) ++ L.drop b) := by
  have h1 : (L.drop a).take (b - a) ++ L.drop b = L.drop a := by
    have : L.drop b = (L.drop a).drop (b - a) := by rw [List.drop_drop]; congr 1; omega
    rw [this, List.take_append_drop]
  rw [h1, List.take_append_drop]

theorem take_eq {L L' : List CellM} {a : Nat} (hl : L'.length = L.length) (h : ∀ i, i < a → cAt L' i = cAt L i) : L'.take a = L.take a := by
  apply List.ext_getElem?
  intro i
  rw [List.getElem?_take, List.getElem?_take]
  by_cases hi : i < a
  · simp only [hi, if_true]
    rcases Nat.lt_or_ge i L.length with q | q
    · rw [cAt_eq q, cAt_eq (by omega), h i hi]
    · rw [List.getElem?_eq_none q, List.getElem?_eq_none (by omega)]
  · simp [hi]

theorem drop_eq {L L' : List CellM} {b : Nat} (hl : L'.length = L.length) (h : ∀ i, b ≤ i → cAt L' i = cAt L i) : L'.drop b = L.drop b := by
  apply List.ext_getElem?
  intro i
  rw [List.getElem?_drop, List.getElem?_drop]
  rcases Nat.lt_or_ge (b + i) L.length with q | q
  · rw [cAt_eq q, cAt_eq (by omega), h (b + i) (by omega)]
  · rw [List.getElem?_eq_none q, List.getElem?_eq_none (by omega)]

/-- What stands in the sorted part stood there before, by its key. -/
theorem SortOk.mem {L L' : List CellM} {a b : Nat} (ok : SortOk L L' a b) (hab : a ≤ b) (hb : b ≤ L.length) {p : Nat} (hp : a ≤ p) (hpb : p < b) : ∃ q, a ≤ q ∧ q < b ∧ (cAt L' p).scope = (cAt L q).scope ∧ (cAt L' p).name = (cAt L q).name := by
  have h1 := three hab hb
  have h2 := three (L := L') hab (by rw [ok.len]; exact hb)
  rw [take_eq ok.len fun i hi => ok.out i (.inl hi), drop_eq ok.len fun i hi => ok.out i (.inr hi)] at h2
  have hk := ok.keys (cAt L' p).scope (cAt L' p).name
  generalize hS : (cAt L' p).scope = S at hk ⊢
  generalize hN : (cAt L' p).name = N at hk ⊢
  rw [h1, h2] at hk
  simp only [List.filter_append] at hk
  have hk2 := List.append_cancel_right (List.append_cancel_left hk)
  have hmem : cAt L' p ∈ ((L'.drop a).take (b - a)).filter (isCell S N) := by
    refine List.mem_filter.2 ⟨?_, by simp [isCell, hS, hN]⟩
    refine List.mem_of_getElem? (i := p - a) ?_
    rw [List.getElem?_take, if_pos (by omega), List.getElem?_drop, show a + (p - a) = p by omega]
    exact cAt_eq (by rw [ok.len]; omega)
  rw [hk2] at hmem
  obtain ⟨h3, h4⟩ := List.mem_filter.1 hmem
  obtain ⟨i, hi⟩ := List.getElem?_of_mem h3
  rw [List.getElem?_take] at hi
  split at hi
  · rw [List.getElem?_drop] at hi
    refine ⟨a + i, by omega, by omega, ?_⟩
    rw [cAt_of hi]
    exact ⟨hS.symm, hN.symm⟩
  · cases hi

/-- Two parts turned about, where all of the one are behind all of the other. -/
theorem rot_keys {L L' : List CellM} {s m e : Nat} (hsm : s ≤ m) (hme : m ≤ e) (he : e ≤ L.length) (hl : L'.length = L.length)
    (hr : ∀ p, cAt L' p = if s ≤ p ∧ p < s + (e - m) then cAt L (m + (p - s)) else if s + (e - m) ≤ p ∧ p < e then cAt L (s + (p - (s + (e - m)))) else cAt L p)
    (hlt : ∀ x y, s ≤ x → x < m → m ≤ y → y < e → keyLt (cAt L y) (cAt L x) = true) : SameKeys L L' := by
  have h1 := three (L := L) (a := s) (b := e) (by omega) he
  have h2 := three (L := L') (a := s) (b := e) (by omega) (by omega)
  have h3 : (L.drop s).take (e - s) = (L.drop s).take (m - s) ++ (L.drop m).take (e - m) := by
    apply List.ext_getElem?
    intro i
    rw [List.getElem?_take]
    by_cases hi : i < m - s
    · rw [List.getElem?_append_left (by simp; omega), List.getElem?_take, if_pos hi, if_pos (by omega)]
    · rw [List.getElem?_append_right (by simp; omega), List.getElem?_take, List.getElem?_drop, List.getElem?_drop]
      have : ((L.drop s).take (m - s)).length = m - s := by simp; omega
      rw [this]
      by_cases hi2 : i < e - s
      · rw [if_pos hi2, if_pos (by omega)]
        congr 1
        omega
      · rw [if_neg hi2, if_neg (by omega)]
  have h4 : (L'.drop s).take (e - s) = (L.drop m).take (e - m) ++ (L.drop s).take (m - s) := by
    apply List.ext_getElem?
    intro i
    rw [List.getElem?_take]
    have hlen : ((L.drop m).take (e - m)).length = e - m := by simp; omega
    by_cases hi : i < e - s
    · rw [if_pos hi, List.getElem?_drop, cAt_eq (by omega), hr (s + i)]
      by_cases hi2 : i < e - m
      · rw [if_pos (show s ≤ s + i ∧ s + i < s + (e - m) by omega), List.getElem?_append_left (by omega), List.getElem?_take, if_pos hi2, List.getElem?_drop, show m + (s + i - s) = m + i by omega]
        exact (cAt_eq (by omega)).symm
      · rw [if_neg (show ¬ (s ≤ s + i ∧ s + i < s + (e - m)) by omega), if_pos (show s + (e - m) ≤ s + i ∧ s + i < e by omega), List.getElem?_append_right (by omega), hlen, List.getElem?_take, if_pos (by omega), List.getElem?_drop, show s + (s + i - (s + (e - m))) = s + (i - (e - m)) by omega]
        exact (cAt_eq (by omega)).symm
    · rw [if_neg hi, List.getElem?_append_right (by omega), hlen, List.getElem?_take, if_neg (by omega)]
  have h5 : L'.take s = L.take s := take_eq hl fun i hi => by rw [hr i, if_neg (by omega), if_neg (by omega)]
  have h6 : L'.drop e = L.drop e := drop_eq hl fun i hi => by rw [hr i, if_neg (by omega), if_neg (by omega)]
  intro k n
  rw [h2, h4, h5, h6]
  conv => rhs; rw [h1, h3]
  simp only [List.filter_append]
  congr 1
  congr 1
  have hx : ∀ c ∈ ((L.drop s).take (m - s)).filter (isCell k n), ∃ x, s ≤ x ∧ x < m ∧ c = cAt L x ∧ isCell k n c = true := fun c hc => by
    obtain ⟨g1, g2⟩ := List.mem_filter.1 hc
    obtain ⟨i, hi⟩ := List.getElem?_of_mem g1
    rw [List.getElem?_take] at hi
    split at hi
    · rw [List.getElem?_drop] at hi
      exact ⟨s + i, by omega, by omega, (cAt_of hi).symm, g2⟩
    · cases hi
  have hy : ∀ c ∈ ((L.drop m).take (e - m)).filter (isCell k n), ∃ y, m ≤ y ∧ y < e ∧ c = cAt L y ∧ isCell k n c = true := fun c hc => by
    obtain ⟨g1, g2⟩ := List.mem_filter.1 hc
    obtain ⟨i, hi⟩ := List.getElem?_of_mem g1
    rw [List.getElem?_take] at hi
    split at hi
    · rw [List.getElem?_drop] at hi
      exact ⟨m + i, by omega, by omega, (cAt_of hi).symm, g2⟩
    · cases hi
  cases hA : ((L.drop s).take (m - s)).filter (isCell k n) with
  | nil => simp
  | cons c1 r1 =>
    cases hB : ((L.drop m).take (e - m)).filter (isCell k n) with
    | nil => simp
    | cons c2 r2 =>
      exfalso
      obtain ⟨x, x1, x2, rfl, x3⟩ := hx c1 (by rw [hA]; simp)
      obtain ⟨y, y1, y2, rfl, y3⟩ := hy c2 (by rw [hB]; simp)
      have := hlt x y x1 x2 y1 y2
      simp only [isCell, Bool.and_eq_true, decide_eq_true_eq] at x3 y3
      rw [keyLt_congr (a' := cAt L x) (b' := cAt L x) (y3.1.trans x3.1.symm) (y3.2.trans x3.2.symm) rfl rfl, keyLt_irrefl] at this
      cases this

theorem lt_down {a b c : CellM} (h1 : keyLt c a = true) (h2 : keyLt c b = false) : keyLt b a = true := by
  cases h : keyLt b a with
  | true => rfl
  | false => rw [keyLe_trans h h2] at h1; cases h1
theorem lt_up {h p m : CellM} (h1 : keyLt m h = true) (h2 : keyLt p h = false) : keyLt m p = true := by
  cases h3 : keyLt m p with
  | true => rfl
  | false => rw [keyLe_trans h2 h3] at h1; cases h1
theorem SortedAt.le {L : List CellM} {a b p q : Nat} (h : SortedAt L a b) (h1 : a ≤ p) (h2 : p ≤ q) (h3 : q < b) : keyLt (cAt L q) (cAt L p) = false := by
  rcases Nat.lt_or_eq_of_le h2 with h4 | h4
  · exact h p q h1 h4 h3
  · rw [h4]; exact keyLt_irrefl _

/-- Where two sorted parts are cut: s to the left of m, e to its right. -/
structure Cut (L : List CellM) (a m b mid s e : Nat) : Prop where
  am : a < m
  mb : m < b
  hmid : mid = (a + b) / 2
  se : s + e = mid + m
  als : a ≤ s
  sm : s ≤ m
  smid : s ≤ mid
  eb : e ≤ b
  lo : a < s → e < b → keyLt (cAt L e) (cAt L (s - 1)) = false
  hi : s < m → m < e → keyLt (cAt L (e - 1)) (cAt L s) = true

theorem cut_of {L : List CellM} {a m b mid s S0 R0 : Nat} (am : a < m) (mb : m < b) (hmid : mid = (a + b) / 2) (hSR : (S0 = mid + m - b ∧ R0 = mid ∧ mid < m) ∨ (S0 = a ∧ R0 = m ∧ m ≤ mid)) (h1 : S0 ≤ s) (h2 : s ≤ R0)
    (lo : ∀ c, S0 ≤ c → c < s → keyLt (cAt L (mid + m - 1 - c)) (cAt L c) = false) (hi : ∀ c, s ≤ c → c < R0 → keyLt (cAt L (mid + m - 1 - c)) (cAt L c) = true) : Cut L a m b mid s (mid + m - s) := by
  rcases hSR with ⟨rfl, rfl, h3⟩ | ⟨rfl, rfl, h3⟩
  · refine ⟨am, mb, hmid, by omega, by omega, by omega, by omega, by omega, fun g1 g2 => ?_, fun g1 g2 => ?_⟩
    · have := lo (s - 1) (by omega) (by omega)
      rwa [show R0 + m - 1 - (s - 1) = R0 + m - s by omega] at this
    · have := hi s (Nat.le_refl _) (by omega)
      rwa [show R0 + m - 1 - s = R0 + m - s - 1 by omega] at this
  · refine ⟨am, mb, hmid, by omega, by omega, by omega, by omega, by omega, fun g1 g2 => ?_, fun g1 g2 => ?_⟩
    · have := lo (s - 1) (by omega) (by omega)
      rwa [show mid + R0 - 1 - (s - 1) = mid + R0 - s by omega] at this
    · have := hi s (Nat.le_refl _) (by omega)
      rwa [show mid + R0 - 1 - s = mid + R0 - s - 1 by omega] at this

/-- The row, its middle turned about. -/
def Turned (L L1 : List CellM) (s m e : Nat) : Prop := L1.length = L.length ∧ ∀ p, cAt L1 p = if s ≤ p ∧ p < s + (e - m) then cAt L (m + (p - s)) else if s + (e - m) ≤ p ∧ p < e then cAt L (s + (p - (s + (e - m)))) else cAt L p

theorem turned_id {L : List CellM} {s m e : Nat} (h : s = m ∨ e = m) : Turned L L s m e := by
  refine ⟨rfl, fun p => ?_⟩
  rcases h with rfl | rfl
  · split
    · congr 1; omega
    · rw [if_neg (by omega)]
  · rw [if_neg (by omega)]
    split
    · congr 1; omega
    · rfl

section
variable {L L1 : List CellM} {a m b mid s e : Nat}
theorem Cut.lt (c : Cut L a m b mid s e) (h1 : SortedAt L a m) (h2 : SortedAt L m b) : ∀ x y, s ≤ x → x < m → m ≤ y → y < e → keyLt (cAt L y) (cAt L x) = true := by
  intro x y hx hxm hy hye
  obtain ⟨am, mb, hmid, se, als, sm, smid, eb, lo, hi⟩ := c
  have h3 := hi (by omega) (by omega)
  have h4 := h1.le (p := s) (q := x) (by omega) hx hxm
  have h5 := h2.le (p := y) (q := e - 1) (by omega) (by omega) (by omega)
  exact lt_up (lt_down h3 h5) h4

theorem Cut.keys (c : Cut L a m b mid s e) (hb : b ≤ L.length) (t : Turned L L1 s m e) (h1 : SortedAt L a m) (h2 : SortedAt L m b) : SameKeys L L1 := by
  have := c.am; have := c.mb; have := c.sm; have := c.eb; have := c.se; have := c.smid; have := c.hmid
  exact rot_keys c.sm (by omega) (by omega) t.1 t.2 (c.lt h1 h2)

/-- The four runs behind the turn. -/
theorem Cut.run1 (c : Cut L a m b mid s e) (t : Turned L L1 s m e) (h1 : SortedAt L a m) : SortedAt L1 a s := by
  have := c.sm
  intro p q hp hpq hq
  rw [t.2 p, t.2 q, if_neg (by omega), if_neg (by omega), if_neg (by omega), if_neg (by omega)]
  exact h1 p q hp hpq (by omega)
theorem Cut.run2 (c : Cut L a m b mid s e) (t : Turned L L1 s m e) (h2 : SortedAt L m b) : SortedAt L1 s mid := by
  have := c.sm; have := c.se; have := c.smid; have := c.eb
  intro p q hp hpq hq
  rw [t.2 p, t.2 q, if_pos (by omega), if_pos (by omega)]
  exact h2 _ _ (by omega) (by omega) (by omega)
theorem Cut.run3 (c : Cut L a m b mid s e) (t : Turned L L1 s m e) (h1 : SortedAt L a m) : SortedAt L1 mid e := by
  have := c.sm; have := c.se; have := c.smid; have := c.eb; have := c.als
  intro p q hp hpq hq
  rw [t.2 p, t.2 q, if_neg (by omega), if_pos (by omega), if_neg (by omega), if_pos (by omega)]
  exact h1 _ _ (by omega) (by omega) (by omega)
theorem Cut.run4 (c : Cut L a m b mid s e) (t : Turned L L1 s m e) (h2 : SortedAt L m b) : SortedAt L1 e b := by
  have := c.sm; have := c.se; have := c.smid; have := c.eb; have := c.als
  intro p q hp hpq hq
  rw [t.2 p, t.2 q, if_neg (by omega), if_neg (by omega), if_neg (by omega), if_neg (by omega)]
  exact h2 p q (by omega) hpq hq

theorem Cut.cross (c : Cut L a m b mid s e) (t : Turned L L1 s m e) (h1 : SortedAt L a m) (h2 : SortedAt L m b) : ∀ p q, a ≤ p → p < mid → mid ≤ q → q < b → keyLt (cAt L1 q) (cAt L1 p) = false := by
  have hlt := c.lt h1 h2
  obtain ⟨am, mb, hmid, se, als, sm, smid, eb, lo, hi⟩ := c
  intro p q hp hpm hq hqb
  rw [t.2 p, t.2 q]
  by_cases p1 : p < s
  · rw [if_neg (show ¬ (s ≤ p ∧ p < s + (e - m)) by omega), if_neg (show ¬ (s + (e - m) ≤ p ∧ p < e) by omega), if_neg (show ¬ (s ≤ q ∧ q < s + (e - m)) by omega)]
    by_cases q1 : q < e
    · rw [if_pos (show s + (e - m) ≤ q ∧ q < e by omega)]
      exact h1.le hp (by omega) (by omega)
    · rw [if_neg (show ¬ (s + (e - m) ≤ q ∧ q < e) by omega)]
      have h3 := lo (by omega) (by omega)
      have h4 := h1.le (p := p) (q := s - 1) hp (by omega) (by omega)
      have h5 := h2.le (p := e) (q := q) (by omega) (by omega) hqb
      exact keyLe_trans (keyLe_trans h4 h3) h5
  · rw [if_pos (show s ≤ p ∧ p < s + (e - m) by omega), if_neg (show ¬ (s ≤ q ∧ q < s + (e - m)) by omega)]
    by_cases q1 : q < e
    · rw [if_pos (show s + (e - m) ≤ q ∧ q < e by omega)]
      exact keyLt_asymm (hlt _ _ (by omega) (by omega) (by omega) (by omega))
    · rw [if_neg (show ¬ (s + (e - m) ≤ q ∧ q < e) by omega)]
      exact h2.le (by omega) (by omega) hqb
end

theorem SortOk.self {L : List CellM} {a b : Nat} (h : SortedAt L a b) : SortOk L L a b := ⟨rfl, SameKeys.refl L, fun _ _ => rfl, h⟩

/-- Both halves sorted, and the one ahead of the other: the whole is sorted. -/
theorem sort_join {L L1 L2 L3 : List CellM} {a mid b : Nat} (ham : a ≤ mid) (hmb : mid ≤ b) (hb : b ≤ L1.length) (hl : L1.length = L.length) (hk : SameKeys L L1) (ho : ∀ i, (i < a ∨ b ≤ i) → cAt L1 i = cAt L i)
    (hx : ∀ p q, a ≤ p → p < mid → mid ≤ q → q < b → keyLt (cAt L1 q) (cAt L1 p) = false) (s1 : SortOk L1 L2 a mid) (s2 : SortOk L2 L3 mid b) : SortOk L L3 a b := by
  refine ⟨s2.len.trans (s1.len.trans hl), (hk.trans s1.keys).trans s2.keys, fun i hi => ?_, fun p q hp hpq hq => ?_⟩
  · rw [s2.out i (by omega), s1.out i (by omega), ho i hi]
  · by_cases hpm : p < mid
    · by_cases hqm : q < mid
      · rw [s2.out p (by omega), s2.out q (by omega)]
        exact s1.sorted p q hp hpq hqm
      · obtain ⟨q', g1, g2, g3, g4⟩ := s2.mem hmb (by rw [s1.len]; exact hb) (p := q) (by omega) hq
        obtain ⟨p', k1, k2, k3, k4⟩ := s1.mem ham (by omega) (p := p) hp hpm
        rw [s2.out p (by omega), keyLt_congr g3 g4 k3 k4, s1.out q' (by omega)]
        exact hx p' q' k1 k2 g1 g2
    · exact s2.sorted p q (by omega) hpq hq
end Go.Abs
