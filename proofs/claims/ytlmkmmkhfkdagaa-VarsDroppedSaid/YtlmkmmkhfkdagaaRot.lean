/- Contracts: two parts of a row change places. -/
import Derived.Test.YtlmkmmkhfkdagaaSort
set_option linter.unusedVariables false
set_option linter.unusedSimpArgs false
set_option maxHeartbeats 4000000
set_option maxRecDepth 8000
namespace Go.Abs.Try
open Go Go.Abs Go.Proofs

/-- What two parts of one length are, once they have changed places. -/
def swapAt (f : Nat → CellM) (a b n p : Nat) : CellM := if a ≤ p ∧ p < a + n then f (b + (p - a)) else if b ≤ p ∧ p < b + n then f (a + (p - b)) else f p

theorem swapAt_succ {L L2 : List CellM} {a b n i : Nat} (hab : a + n ≤ b) (hbn : b + n ≤ L.length) (hi : i < n) (hl : L2.length = L.length) (h : ∀ p, cAt L2 p = swapAt (cAt L) a b i p) :
    ∀ p, cAt ((L2.set (a + i) (cAt L2 (b + i))).set (b + i) (cAt L2 (a + i))) p = swapAt (cAt L) a b (i + 1) p := by
  intro p
  rw [cAt_set p (by simp; omega), cAt_set p (by omega)]
  by_cases e1 : b + i = p
  · subst e1
    rw [if_pos rfl, h (a + i)]
    unfold swapAt
    rw [if_neg (by omega), if_neg (by omega), if_neg (by omega), if_pos (by omega)]
    congr 1
    omega
  · rw [if_neg e1]
    by_cases e2 : a + i = p
    · subst e2
      rw [if_pos rfl, h (b + i)]
      unfold swapAt
      rw [if_neg (by omega), if_neg (by omega), if_pos (by omega)]
      congr 1
      omega
    · rw [if_neg e2, h p]
      unfold swapAt
      by_cases c1 : a ≤ p ∧ p < a + i
      · rw [if_pos c1, if_pos (show a ≤ p ∧ p < a + (i + 1) by omega)]
      · rw [if_neg c1, if_neg (show ¬ (a ≤ p ∧ p < a + (i + 1)) by omega)]
        by_cases c2 : b ≤ p ∧ p < b + i
        · rw [if_pos c2, if_pos (show b ≤ p ∧ p < b + (i + 1) by omega)]
        · rw [if_neg c2, if_neg (show ¬ (b ≤ p ∧ p < b + (i + 1)) by omega)]

theorem swapR {h : Heap} {nx : Nat} {K : AV → Heap → Nat → Prop} {id g : Nat} {L : List CellM} {a b n : Nat} {f : AV} (hl : look id h = some (.arr g 5 (L.map flCell))) (hid : id < nx) (hlen : L.length ≤ 900000) (hab : a + n ≤ b) (hbn : b + n ≤ L.length)
    (hk : ∀ L' nx', nx ≤ nx' → L'.length = L.length → (∀ p, cAt L' p = swapAt (cAt L) a b n p) → K (.tup []) (upd id (.arr g 5 (L'.map flCell)) h) nx') :
    ACall Try.prog 64 [.own id g 0, .sc (.int .i64 a), .sc (.int .i64 b), .sc (.int .i64 n), f] h nx K := by
  refine ACall.of_body (c := Try.f64.body.getD .skip) mixed Try.func64 rfl (by kernel_rfl) (by rw [Try.ntmps64]; simp) (by kernel_rfl) ?_
  simp -implicitDefEqProofs only [Try.f64, Option.getD_some, Array.toList]
  simp -implicitDefEqProofs (disch := omega) only [natNe, wk, indexAddrA, lenA, Nat.reduceAdd, Nat.reduceLeDiff, Nat.reduceEqDiff, if_true, if_false, reduceIte, reduceCtorEq, exists_eq_left', implies_true, forall_const, Int.reduceLT, Int.reduceLE, Int.reduceEq, Int.reduceNeg, bindT, Nat.reduceMul, tis]
  refine loopX_ind (fun m σ => ∃ T H NX i L2, σ = ⟨T, H, NX, []⟩ ∧ H = upd id (.arr g 5 (L2.map flCell)) h ∧ nx ≤ NX ∧ look 0 T = some (.own id g 0) ∧ look 1 T = some (.sc (.int .i64 a)) ∧ look 2 T = some (.sc (.int .i64 b)) ∧ look 3 T = some (.sc (.int .i64 n)) ∧
      look 10 T = some (.sc (.int .i64 (i : Nat))) ∧ m + i = n ∧ L2.length = L.length ∧ ∀ p, cAt L2 p = swapAt (cAt L) a b i p) n ⟨_, _, _, 0, L, rfl, (upd_self hl).symm, Nat.le_refl _, rfl, rfl, rfl, rfl, rfl, by omega, rfl, fun p => ?_⟩ ?_
  · unfold swapAt
    rw [if_neg (by omega), if_neg (by omega)]
  rintro m σ' ⟨T, _, NX, i, L2, rfl, rfl, hNX, t0, t1, t2, t3, t10, hm, hll, hp⟩
  simp -implicitDefEqProofs (disch := omega) only [natNe, wk, indexAddrA, lenA, Nat.reduceAdd, Nat.reduceLeDiff, Nat.reduceEqDiff, if_true, if_false, reduceIte, reduceCtorEq, exists_eq_left', implies_true, forall_const, Int.reduceLT, Int.reduceLE, Int.reduceEq, Int.reduceNeg, bindT, Nat.reduceMul, tis, t0, t1, t2, t3, t10]
  refine ⟨fun hi => ?_, fun hi => ?_⟩
  · refine drawL (fun _ => 2) [0, 0, 0, 0, 0, 0, 0, 1, 0, 0, 0, 0, 0, 0, 0, 0, 0, 1, 0, 0, 0, 2] [] (by kernel_rfl) ?_
    have e1 : ((a : Int) + (i : Int)).toNat = a + i := by omega
    have e2 : ((b : Int) + (i : Int)).toNat = b + i := by omega
    have e3 : (0 : Int) ≤ (a : Int) + (i : Int) := by omega
    have e4 : (0 : Int) ≤ (b : Int) + (i : Int) := by omega
    have e5 : a + i < L2.length := by omega
    have e6 : b + i < L2.length := by omega
    have hla := map_at (L := L2) (i := a + i) e5
    have hlb := map_at (L := L2) (i := b + i) e6
    have hne : a + i ≠ b + i := by omega
    have eset : ((L2.map flCell).set (a + i) (flCell (cAt L2 (b + i)))).set (b + i) (flCell (cAt L2 (a + i))) = ((L2.set (a + i) (cAt L2 (b + i))).set (b + i) (cAt L2 (a + i))).map flCell := by
      rw [List.map_set, List.map_set]
    simp only [flCell] at eset
    simp -implicitDefEqProofs (maxSteps := 2000000) (disch := omega) only [natNe, wk, indexAddrA, lenA, Nat.reduceAdd, Nat.reduceLeDiff, Nat.reduceEqDiff, if_true, if_false, reduceIte, reduceCtorEq, exists_eq_left', implies_true, forall_const, Int.reduceLT, Int.reduceLE, Int.reduceEq, Int.reduceNeg, bindT, Nat.reduceMul, tis, t0, t1, t2, t3, t10, wrap_i64, e1, e2, e3, e4, e5, e6, hla, hlb, hl, flCell, List.length_map, List.length_set, List.getElem?_set_ne, upd_upd]
    rw [eset]
    refine ⟨m - 1, by omega, _, _, _, i + 1, _, rfl, rfl, by omega, ?_, ?_, ?_, ?_, ?_, by omega, by simpa using hll, swapAt_succ hab hbn (by omega) hll hp⟩
    · simp -implicitDefEqProofs (disch := omega) only [natNe, wk, indexAddrA, lenA, Nat.reduceAdd, Nat.reduceLeDiff, Nat.reduceEqDiff, if_true, if_false, reduceIte, reduceCtorEq, exists_eq_left', implies_true, forall_const, Int.reduceLT, Int.reduceLE, Int.reduceEq, Int.reduceNeg, bindT, Nat.reduceMul, tis, t0]
    · simp -implicitDefEqProofs (disch := omega) only [natNe, wk, indexAddrA, lenA, Nat.reduceAdd, Nat.reduceLeDiff, Nat.reduceEqDiff, if_true, if_false, reduceIte, reduceCtorEq, exists_eq_left', implies_true, forall_const, Int.reduceLT, Int.reduceLE, Int.reduceEq, Int.reduceNeg, bindT, Nat.reduceMul, tis, t1]
    · simp -implicitDefEqProofs (disch := omega) only [natNe, wk, indexAddrA, lenA, Nat.reduceAdd, Nat.reduceLeDiff, Nat.reduceEqDiff, if_true, if_false, reduceIte, reduceCtorEq, exists_eq_left', implies_true, forall_const, Int.reduceLT, Int.reduceLE, Int.reduceEq, Int.reduceNeg, bindT, Nat.reduceMul, tis, t2]
    · simp -implicitDefEqProofs (disch := omega) only [natNe, wk, indexAddrA, lenA, Nat.reduceAdd, Nat.reduceLeDiff, Nat.reduceEqDiff, if_true, if_false, reduceIte, reduceCtorEq, exists_eq_left', implies_true, forall_const, Int.reduceLT, Int.reduceLE, Int.reduceEq, Int.reduceNeg, bindT, Nat.reduceMul, tis, t3]
    · simp -implicitDefEqProofs (disch := omega) only [natNe, wk, indexAddrA, lenA, Nat.reduceAdd, Nat.reduceLeDiff, Nat.reduceEqDiff, if_true, if_false, reduceIte, reduceCtorEq, exists_eq_left', implies_true, forall_const, Int.reduceLT, Int.reduceLE, Int.reduceEq, Int.reduceNeg, bindT, Nat.reduceMul, tis, wrap_i64]
      rfl
  · have hin : i = n := by omega
    subst hin
    exact .keep (hk L2 NX hNX hll hp)

/-- What a part of a row is, once it is turned about a place in it. -/
def rotAt (f : Nat → CellM) (lo mid hi p : Nat) : CellM := if lo ≤ p ∧ p < lo + (hi - mid) then f (mid + (p - lo)) else if lo + (hi - mid) ≤ p ∧ p < hi then f (lo + (p - (lo + (hi - mid)))) else f p

theorem rot_step1 {f f2 : Nat → CellM} {m i j : Nat} (him : i ≤ m) (hij : j < i) (h : ∀ p, f2 p = swapAt f (m - i) m j p) (p : Nat) : rotAt f2 (m - (i - j)) m (m + j) p = rotAt f (m - i) m (m + j) p := by
  unfold rotAt
  simp only [h]
  unfold swapAt
  have e1 : m + j - m = j := by omega
  simp only [e1]
  by_cases c0 : p < m - i
  · simp only [show ¬ (m - (i - j) ≤ p ∧ p < m - (i - j) + j) by omega, show ¬ (m - (i - j) + j ≤ p ∧ p < m + j) by omega, show ¬ (m - i ≤ p ∧ p < m - i + j) by omega, show ¬ (m ≤ p ∧ p < m + j) by omega, show ¬ (m - i + j ≤ p ∧ p < m + j) by omega, if_false]
  · by_cases c1 : p < m - i + j
    · simp only [show ¬ (m - (i - j) ≤ p ∧ p < m - (i - j) + j) by omega, show ¬ (m - (i - j) + j ≤ p ∧ p < m + j) by omega, show (m - i ≤ p ∧ p < m - i + j) by omega, and_self, if_false, if_true]
    · by_cases c2 : p < m - (i - j) + j
      · simp only [show (m - (i - j) ≤ p ∧ p < m - (i - j) + j) by omega, show ¬ (m - i ≤ p ∧ p < m - i + j) by omega, show (m - i + j ≤ p ∧ p < m + j) by omega, show ¬ (m - i ≤ m + (p - (m - (i - j))) ∧ m + (p - (m - (i - j))) < m - i + j) by omega, show (m ≤ m + (p - (m - (i - j))) ∧ m + (p - (m - (i - j))) < m + j) by omega, and_self, if_false, if_true]
        congr 1
        omega
      · by_cases c3 : p < m + j
        · simp only [show ¬ (m - (i - j) ≤ p ∧ p < m - (i - j) + j) by omega, show (m - (i - j) + j ≤ p ∧ p < m + j) by omega, show ¬ (m - i ≤ p ∧ p < m - i + j) by omega, show (m - i + j ≤ p ∧ p < m + j) by omega,
            show ¬ (m - i ≤ m - (i - j) + (p - (m - (i - j) + j)) ∧ m - (i - j) + (p - (m - (i - j) + j)) < m - i + j) by omega, show ¬ (m ≤ m - (i - j) + (p - (m - (i - j) + j)) ∧ m - (i - j) + (p - (m - (i - j) + j)) < m + j) by omega, and_self, if_false, if_true]
          congr 1
          omega
        · simp only [show ¬ (m - (i - j) ≤ p ∧ p < m - (i - j) + j) by omega, show ¬ (m - (i - j) + j ≤ p ∧ p < m + j) by omega, show ¬ (m - i ≤ p ∧ p < m - i + j) by omega, show ¬ (m ≤ p ∧ p < m + j) by omega, show ¬ (m - i + j ≤ p ∧ p < m + j) by omega, if_false]

theorem rot_step2 {f f2 : Nat → CellM} {m i j : Nat} (him : i ≤ m) (hij : i < j) (h : ∀ p, f2 p = swapAt f (m - i) (m + j - i) i p) (p : Nat) : rotAt f2 (m - i) m (m + (j - i)) p = rotAt f (m - i) m (m + j) p := by
  unfold rotAt
  simp only [h]
  unfold swapAt
  have e1 : m + j - m = j := by omega
  have e2 : m + (j - i) - m = j - i := by omega
  simp only [e1, e2]
  by_cases c0 : p < m - i
  · simp only [show ¬ (m - i ≤ p ∧ p < m - i + (j - i)) by omega, show ¬ (m - i + (j - i) ≤ p ∧ p < m + (j - i)) by omega, show ¬ (m - i ≤ p ∧ p < m - i + i) by omega, show ¬ (m + j - i ≤ p ∧ p < m + j - i + i) by omega, show ¬ (m - i ≤ p ∧ p < m - i + j) by omega, show ¬ (m - i + j ≤ p ∧ p < m + j) by omega, if_false]
  · by_cases c1 : p < m - i + (j - i)
    · simp only [show (m - i ≤ p ∧ p < m - i + (j - i)) by omega, show (m - i ≤ p ∧ p < m - i + j) by omega, show ¬ (m - i ≤ m + (p - (m - i)) ∧ m + (p - (m - i)) < m - i + i) by omega, show ¬ (m + j - i ≤ m + (p - (m - i)) ∧ m + (p - (m - i)) < m + j - i + i) by omega, and_self, if_false, if_true]
    · by_cases c2 : p < m + (j - i)
      · have hx : m - i + (p - (m - i + (j - i))) < m - i + i := by omega
        rw [if_neg (show ¬ (m - i ≤ p ∧ p < m - i + (j - i)) by omega), if_pos (show m - i + (j - i) ≤ p ∧ p < m + (j - i) by omega), if_pos (show m - i ≤ m - i + (p - (m - i + (j - i))) ∧ m - i + (p - (m - i + (j - i))) < m - i + i by omega), if_pos (show m - i ≤ p ∧ p < m - i + j by omega)]
        congr 1
        omega
      · by_cases c3 : p < m + j
        · simp only [show ¬ (m - i ≤ p ∧ p < m - i + (j - i)) by omega, show ¬ (m - i + (j - i) ≤ p ∧ p < m + (j - i)) by omega, show ¬ (m - i ≤ p ∧ p < m - i + i) by omega, show (m + j - i ≤ p ∧ p < m + j - i + i) by omega, show ¬ (m - i ≤ p ∧ p < m - i + j) by omega, show (m - i + j ≤ p ∧ p < m + j) by omega, and_self, if_false, if_true]
          congr 1
          omega
        · simp only [show ¬ (m - i ≤ p ∧ p < m - i + (j - i)) by omega, show ¬ (m - i + (j - i) ≤ p ∧ p < m + (j - i)) by omega, show ¬ (m - i ≤ p ∧ p < m - i + i) by omega, show ¬ (m + j - i ≤ p ∧ p < m + j - i + i) by omega, show ¬ (m - i ≤ p ∧ p < m - i + j) by omega, show ¬ (m - i + j ≤ p ∧ p < m + j) by omega, if_false]

theorem rot_end {f f2 : Nat → CellM} {m i : Nat} (him : i ≤ m) (h : ∀ p, f2 p = swapAt f (m - i) m i p) (p : Nat) : f2 p = rotAt f (m - i) m (m + i) p := by
  rw [h p]
  unfold rotAt swapAt
  have e1 : m + i - m = i := by omega
  have e2 : m - i + i = m := by omega
  simp only [e1, e2]

theorem rotate {h : Heap} {nx : Nat} {K : AV → Heap → Nat → Prop} {id g : Nat} {L : List CellM} {a m b : Nat} {f : AV} (hl : look id h = some (.arr g 5 (L.map flCell))) (hid : id < nx) (hlen : L.length ≤ 900000) (ham : a < m) (hmb : m < b) (hb : b ≤ L.length)
    (hk : ∀ L' nx', nx ≤ nx' → L'.length = L.length → (∀ p, cAt L' p = rotAt (cAt L) a m b p) → K (.tup []) (upd id (.arr g 5 (L'.map flCell)) h) nx') :
    ACall Try.prog 61 [.own id g 0, .sc (.int .i64 a), .sc (.int .i64 m), .sc (.int .i64 b), f] h nx K := by
  refine ACall.of_body (c := Try.f61.body.getD .skip) mixed Try.func61 rfl (by kernel_rfl) (by rw [Try.ntmps61]; simp) (by kernel_rfl) ?_
  simp -implicitDefEqProofs only [Try.f61, Option.getD_some, Array.toList]
  simp -implicitDefEqProofs (disch := omega) only [natNe, wk, indexAddrA, lenA, Nat.reduceAdd, Nat.reduceLeDiff, Nat.reduceEqDiff, if_true, if_false, reduceIte, reduceCtorEq, exists_eq_left', implies_true, forall_const, Int.reduceLT, Int.reduceLE, Int.reduceEq, Int.reduceNeg, bindT, Nat.reduceMul, tis, wrap_i64]
  refine loopX_ind (fun k σ => ∃ T H NX i j L2, σ = ⟨T, H, NX, []⟩ ∧ H = upd id (.arr g 5 (L2.map flCell)) h ∧ nx ≤ NX ∧ look 0 T = some (.own id g 0) ∧ look 2 T = some (.sc (.int .i64 m)) ∧ look 4 T = some f ∧
      look 10 T = some (.sc (.int .i64 (i : Nat))) ∧ look 11 T = some (.sc (.int .i64 (j : Nat))) ∧ k = i + j ∧ 0 < i ∧ 0 < j ∧ a + i ≤ m ∧ m + j ≤ b ∧ L2.length = L.length ∧ ∀ p, rotAt (cAt L2) (m - i) m (m + j) p = rotAt (cAt L) a m b p)
    ((m - a) + (b - m)) ⟨_, _, _, m - a, b - m, L, rfl, (upd_self hl).symm, Nat.le_refl _, rfl, rfl, rfl, ?_, ?_, rfl, by omega, by omega, by omega, by omega, rfl, fun p => ?_⟩ ?_
  · simp -implicitDefEqProofs (disch := omega) only [natNe, wk, indexAddrA, lenA, Nat.reduceAdd, Nat.reduceLeDiff, Nat.reduceEqDiff, if_true, if_false, reduceIte, reduceCtorEq, exists_eq_left', implies_true, forall_const, Int.reduceLT, Int.reduceLE, Int.reduceEq, Int.reduceNeg, bindT, Nat.reduceMul, tis]
    simp only [Option.some.injEq, AV.sc.injEq, Value.int.injEq, true_and]
    omega
  · simp -implicitDefEqProofs (disch := omega) only [natNe, wk, indexAddrA, lenA, Nat.reduceAdd, Nat.reduceLeDiff, Nat.reduceEqDiff, if_true, if_false, reduceIte, reduceCtorEq, exists_eq_left', implies_true, forall_const, Int.reduceLT, Int.reduceLE, Int.reduceEq, Int.reduceNeg, bindT, Nat.reduceMul, tis]
    simp only [Option.some.injEq, AV.sc.injEq, Value.int.injEq, true_and]
    omega
  · rw [show m - (m - a) = a by omega, show m + (b - m) = b by omega]
  rintro k σ' ⟨T, _, NX, i, j, L2, rfl, rfl, hNX, t0, t2, t4, t10, t11, hkk, hi0, hj0, hi, hj, hll, hp⟩
  simp -implicitDefEqProofs (disch := omega) only [natNe, wk, indexAddrA, lenA, Nat.reduceAdd, Nat.reduceLeDiff, Nat.reduceEqDiff, if_true, if_false, reduceIte, reduceCtorEq, exists_eq_left', implies_true, forall_const, Int.reduceLT, Int.reduceLE, Int.reduceEq, Int.reduceNeg, bindT, Nat.reduceMul, tis, t0, t2, t4, t10, t11, Int.natCast_inj]
  refine ⟨fun hne => ?_, fun heq => ?_⟩
  · refine ⟨fun hgt => ?_, fun hle => ?_⟩
    · simp -implicitDefEqProofs (disch := omega) only [natNe, wk, indexAddrA, lenA, Nat.reduceAdd, Nat.reduceLeDiff, Nat.reduceEqDiff, if_true, if_false, reduceIte, reduceCtorEq, exists_eq_left', implies_true, forall_const, Int.reduceLT, Int.reduceLE, Int.reduceEq, Int.reduceNeg, bindT, Nat.reduceMul, tis, t0, t2, t4, t10, t11, wrap_i64]
      rw [show (m : Int) - (i : Int) = ((m - i : Nat) : Int) by omega]
      refine callX_fn (swapR (a := m - i) (b := m) (n := j) (L := L2) (g := g) (look_updS hl) (by dsimp only; omega) (by omega) (by omega) (by omega) fun L3 nx' hnx hl3 hp3 => ?_)
      rw [upd_upd]
      simp -implicitDefEqProofs (disch := omega) only [natNe, wk, indexAddrA, lenA, Nat.reduceAdd, Nat.reduceLeDiff, Nat.reduceEqDiff, if_true, if_false, reduceIte, reduceCtorEq, exists_eq_left', implies_true, forall_const, Int.reduceLT, Int.reduceLE, Int.reduceEq, Int.reduceNeg, bindT, Nat.reduceMul, tis, t0, t2, t4, t10, t11, wrap_i64]
      refine ⟨i - j + j, by omega, _, _, _, i - j, j, L3, rfl, rfl, by dsimp only at hnx; omega, ?_, ?_, ?_, ?_, ?_, rfl, by omega, by omega, by omega, by omega, by omega, fun p => ?_⟩
      · simp -implicitDefEqProofs (disch := omega) only [natNe, wk, indexAddrA, lenA, Nat.reduceAdd, Nat.reduceLeDiff, Nat.reduceEqDiff, if_true, if_false, reduceIte, reduceCtorEq, exists_eq_left', implies_true, forall_const, Int.reduceLT, Int.reduceLE, Int.reduceEq, Int.reduceNeg, bindT, Nat.reduceMul, tis, t0]
      · simp -implicitDefEqProofs (disch := omega) only [natNe, wk, indexAddrA, lenA, Nat.reduceAdd, Nat.reduceLeDiff, Nat.reduceEqDiff, if_true, if_false, reduceIte, reduceCtorEq, exists_eq_left', implies_true, forall_const, Int.reduceLT, Int.reduceLE, Int.reduceEq, Int.reduceNeg, bindT, Nat.reduceMul, tis, t2]
      · simp -implicitDefEqProofs (disch := omega) only [natNe, wk, indexAddrA, lenA, Nat.reduceAdd, Nat.reduceLeDiff, Nat.reduceEqDiff, if_true, if_false, reduceIte, reduceCtorEq, exists_eq_left', implies_true, forall_const, Int.reduceLT, Int.reduceLE, Int.reduceEq, Int.reduceNeg, bindT, Nat.reduceMul, tis, t4]
      · simp -implicitDefEqProofs (disch := omega) only [natNe, wk, indexAddrA, lenA, Nat.reduceAdd, Nat.reduceLeDiff, Nat.reduceEqDiff, if_true, if_false, reduceIte, reduceCtorEq, exists_eq_left', implies_true, forall_const, Int.reduceLT, Int.reduceLE, Int.reduceEq, Int.reduceNeg, bindT, Nat.reduceMul, tis]
        simp only [Option.some.injEq, AV.sc.injEq, Value.int.injEq, true_and]
        omega
      · simp -implicitDefEqProofs (disch := omega) only [natNe, wk, indexAddrA, lenA, Nat.reduceAdd, Nat.reduceLeDiff, Nat.reduceEqDiff, if_true, if_false, reduceIte, reduceCtorEq, exists_eq_left', implies_true, forall_const, Int.reduceLT, Int.reduceLE, Int.reduceEq, Int.reduceNeg, bindT, Nat.reduceMul, tis, t11]
      · rw [rot_step1 (by omega) (by omega) hp3, hp p]
    · simp -implicitDefEqProofs (disch := omega) only [natNe, wk, indexAddrA, lenA, Nat.reduceAdd, Nat.reduceLeDiff, Nat.reduceEqDiff, if_true, if_false, reduceIte, reduceCtorEq, exists_eq_left', implies_true, forall_const, Int.reduceLT, Int.reduceLE, Int.reduceEq, Int.reduceNeg, bindT, Nat.reduceMul, tis, t0, t2, t4, t10, t11, wrap_i64]
      rw [show (m : Int) - (i : Int) = ((m - i : Nat) : Int) by omega, show (m : Int) + (j : Int) - (i : Int) = ((m + j - i : Nat) : Int) by omega]
      refine callX_fn (swapR (a := m - i) (b := m + j - i) (n := i) (L := L2) (g := g) (look_updS hl) (by dsimp only; omega) (by omega) (by omega) (by omega) fun L3 nx' hnx hl3 hp3 => ?_)
      rw [upd_upd]
      simp -implicitDefEqProofs (disch := omega) only [natNe, wk, indexAddrA, lenA, Nat.reduceAdd, Nat.reduceLeDiff, Nat.reduceEqDiff, if_true, if_false, reduceIte, reduceCtorEq, exists_eq_left', implies_true, forall_const, Int.reduceLT, Int.reduceLE, Int.reduceEq, Int.reduceNeg, bindT, Nat.reduceMul, tis, t0, t2, t4, t10, t11, wrap_i64]
      refine ⟨i + (j - i), by omega, _, _, _, i, j - i, L3, rfl, rfl, by dsimp only at hnx; omega, ?_, ?_, ?_, ?_, ?_, rfl, by omega, by omega, by omega, by omega, by omega, fun p => ?_⟩
      · simp -implicitDefEqProofs (disch := omega) only [natNe, wk, indexAddrA, lenA, Nat.reduceAdd, Nat.reduceLeDiff, Nat.reduceEqDiff, if_true, if_false, reduceIte, reduceCtorEq, exists_eq_left', implies_true, forall_const, Int.reduceLT, Int.reduceLE, Int.reduceEq, Int.reduceNeg, bindT, Nat.reduceMul, tis, t0]
      · simp -implicitDefEqProofs (disch := omega) only [natNe, wk, indexAddrA, lenA, Nat.reduceAdd, Nat.reduceLeDiff, Nat.reduceEqDiff, if_true, if_false, reduceIte, reduceCtorEq, exists_eq_left', implies_true, forall_const, Int.reduceLT, Int.reduceLE, Int.reduceEq, Int.reduceNeg, bindT, Nat.reduceMul, tis, t2]
      · simp -implicitDefEqProofs (disch := omega) only [natNe, wk, indexAddrA, lenA, Nat.reduceAdd, Nat.reduceLeDiff, Nat.reduceEqDiff, if_true, if_false, reduceIte, reduceCtorEq, exists_eq_left', implies_true, forall_const, Int.reduceLT, Int.reduceLE, Int.reduceEq, Int.reduceNeg, bindT, Nat.reduceMul, tis, t4]
      · simp -implicitDefEqProofs (disch := omega) only [natNe, wk, indexAddrA, lenA, Nat.reduceAdd, Nat.reduceLeDiff, Nat.reduceEqDiff, if_true, if_false, reduceIte, reduceCtorEq, exists_eq_left', implies_true, forall_const, Int.reduceLT, Int.reduceLE, Int.reduceEq, Int.reduceNeg, bindT, Nat.reduceMul, tis, t10]
      · simp -implicitDefEqProofs (disch := omega) only [natNe, wk, indexAddrA, lenA, Nat.reduceAdd, Nat.reduceLeDiff, Nat.reduceEqDiff, if_true, if_false, reduceIte, reduceCtorEq, exists_eq_left', implies_true, forall_const, Int.reduceLT, Int.reduceLE, Int.reduceEq, Int.reduceNeg, bindT, Nat.reduceMul, tis]
        simp only [Option.some.injEq, AV.sc.injEq, Value.int.injEq, true_and]
        omega
      · rw [rot_step2 (by omega) (by omega) hp3, hp p]
  · have hij : i = j := by omega
    subst hij
    simp -implicitDefEqProofs (disch := omega) only [natNe, wk, indexAddrA, lenA, Nat.reduceAdd, Nat.reduceLeDiff, Nat.reduceEqDiff, if_true, if_false, reduceIte, reduceCtorEq, exists_eq_left', implies_true, forall_const, Int.reduceLT, Int.reduceLE, Int.reduceEq, Int.reduceNeg, bindT, Nat.reduceMul, tis, t0, t2, t4, t10, t11, wrap_i64]
    rw [show (m : Int) - (i : Int) = ((m - i : Nat) : Int) by omega]
    refine callX_fn (swapR (a := m - i) (b := m) (n := i) (L := L2) (g := g) (look_updS hl) (by dsimp only; omega) (by omega) (by omega) (by omega) fun L3 nx' hnx hl3 hp3 => ?_)
    rw [upd_upd]
    simp -implicitDefEqProofs (disch := omega) only [natNe, wk, indexAddrA, lenA, Nat.reduceAdd, Nat.reduceLeDiff, Nat.reduceEqDiff, if_true, if_false, reduceIte, reduceCtorEq, exists_eq_left', implies_true, forall_const, Int.reduceLT, Int.reduceLE, Int.reduceEq, Int.reduceNeg, bindT, Nat.reduceMul, tis]
    exact .keep (hk L3 nx' (by dsimp only at hnx; omega) (by omega) fun p => by rw [rot_end (by omega) hp3 p, hp p])
end Go.Abs.Try
