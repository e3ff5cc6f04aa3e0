/- A row sorted block by block: plain Lean. -/
import Derived.Test.YtlmkmmkhfkdagaaSymP
set_option linter.unusedVariables false
set_option linter.unusedSimpArgs false
namespace Go.Abs
open Go.RowKit

theorem dvd_sep {bs x a : Nat} (hx : bs ∣ x) (ha : bs ∣ a) : x + bs ≤ a ∨ x = a ∨ a + bs ≤ x := by
  obtain ⟨i, rfl⟩ := hx
  obtain ⟨j, rfl⟩ := ha
  rcases Nat.lt_trichotomy i j with h | h | h
  · have := Nat.mul_le_mul_left bs (Nat.succ_le_of_lt h)
    rw [Nat.mul_succ] at this
    exact .inl this
  · exact .inr (.inl (by rw [h]))
  · have := Nat.mul_le_mul_left bs (Nat.succ_le_of_lt h)
    rw [Nat.mul_succ] at this
    exact .inr (.inr this)

theorem SortedAt.nil {L : List CellM} {a b : Nat} (h : b ≤ a) : SortedAt L a b := fun p q hp hpq hq => by omega
theorem SortedAt.congr {L L' : List CellM} {a b : Nat} (h : ∀ p, a ≤ p → p < b → cAt L' p = cAt L p) (hs : SortedAt L a b) : SortedAt L' a b := fun p q hp hpq hq => by
  rw [h p hp (by omega), h q (by omega) hq]
  exact hs p q hp hpq hq
theorem SortedAt.sub {L : List CellM} {a b c : Nat} (hs : SortedAt L a b) (h : c ≤ b) : SortedAt L a c := fun p q hp hpq hq => hs p q hp hpq (by omega)

/-- The blocks ahead of a place are sorted, each for itself. -/
def BlkLo (L : List CellM) (n bs hi : Nat) : Prop := ∀ x, bs ∣ x → x < hi → SortedAt L x (min (x + bs) n)
/-- The blocks from a place on. -/
def BlkHi (L : List CellM) (n bs lo : Nat) : Prop := ∀ x, bs ∣ x → lo ≤ x → SortedAt L x (min (x + bs) n)

theorem blk_step {L' L2 : List CellM} {n bs a b : Nat} (ok : SortOk L' L2 a b) (ha : bs ∣ a) (hb : b = min (a + bs) n) (h : BlkLo L' n bs a) : BlkLo L2 n bs (a + bs) := by
  intro x hx hxa
  rcases dvd_sep hx ha with h1 | h1 | h1
  · by_cases h0 : x < a
    · exact .congr (fun p hp hp2 => ok.out p (by omega)) (h x hx h0)
    · exact .nil (by omega)
  · subst h1
    rw [← hb]
    exact ok.sorted
  · omega

theorem blk_hi {L' L2 : List CellM} {n bs a b c : Nat} (ok : SortOk L' L2 a b) (hac : a ≤ c) (hb : b ≤ c) (h : BlkHi L' n bs a) : BlkHi L2 n bs c := by
  intro x hx hxa
  exact .congr (fun p hp hp2 => ok.out p (by omega)) (h x hx (by omega))

theorem blk_all {L : List CellM} {n bs a : Nat} (ha : n ≤ a) (h : BlkLo L n bs a) : BlkHi L n bs 0 := by
  intro x hx _
  by_cases h1 : x < a
  · exact h x hx h1
  · exact .nil (by omega)

/-- Nothing is left to be merged. -/
theorem blk_last {L : List CellM} {n bs a : Nat} (ha : 2 * bs ∣ a) (hn : n ≤ a + bs) (h1 : BlkLo L n (2 * bs) a) (h2 : BlkHi L n bs a) : BlkLo L n (2 * bs) (a + 2 * bs) := by
  intro x hx hxa
  rcases dvd_sep hx ha with g | g | g
  · by_cases h0 : x < a
    · exact h1 x hx h0
    · exact .nil (by omega)
  · subst g
    have := h2 x (Nat.dvd_trans (Nat.dvd_mul_left bs 2) ha) (Nat.le_refl _)
    rw [show min (x + 2 * bs) n = min (x + bs) n by omega]
    exact this
  · omega

theorem blk_one {L : List CellM} {n bs : Nat} (hn : n ≤ bs) (h : BlkHi L n bs 0) : SortedAt L 0 n := by
  have := h 0 (Nat.dvd_zero bs) (Nat.le_refl _)
  rwa [show min (0 + bs) n = n by omega] at this

theorem SortOk.whole {L L' : List CellM} (hl : L'.length = L.length) (hk : SameKeys L L') (hs : SortedAt L' 0 L.length) : SortOk L L' 0 L.length := by
  refine ⟨hl, hk, fun i hi => ?_, hs⟩
  unfold cAt
  rw [List.getD_eq_getElem?_getD, List.getD_eq_getElem?_getD, List.getElem?_eq_none (by omega), List.getElem?_eq_none (by omega)]
end Go.Abs
