/- Contracts: two sorted parts merged in place, where one of them is of one cell. -/
import Derived.Test.YtlmkmmkhfkdagaaRot
import Derived.Test.YtlmkmmkhfkdagaaSymP
set_option linter.unusedVariables false
set_option linter.unusedSimpArgs false
set_option maxHeartbeats 400000000
set_option maxRecDepth 8000
namespace Go.Abs.Try
open Go Go.Abs Go.Proofs

theorem half (a b : Nat) (h : a + b ≤ 2000000) : IntKind.i64.wrap ((IntKind.u64.wrap ((a : Int) + (b : Int))).fdiv (2 ^ (min (Int.toNat 1) IntKind.u64.bits))) = (((a + b) / 2 : Nat) : Int) := by
  have h1 : IntKind.u64.wrap ((a : Int) + (b : Int)) = ((a + b : Nat) : Int) := by
    simp only [IntKind.wrap, IntKind.signed, IntKind.bits]
    simp
    omega
  rw [h1]
  have h2 : (2 : Int) ^ (min (Int.toNat 1) IntKind.u64.bits) = 2 := by decide
  rw [h2]
  have h3 : Int.fdiv ((a + b : Nat) : Int) 2 = (((a + b) / 2 : Nat) : Int) := by
    rw [Int.fdiv_eq_ediv_of_nonneg _ (by omega)]
    omega
  rw [h3, wrap_i64 (by omega) (by omega)]

theorem symM1 {h : Heap} {nx : Nat} {K : AV → Heap → Nat → Prop} {id g : Nat} {L : List CellM} {a m b : Nat} (hl : look id h = some (.arr g 5 (L.map flCell))) (hid : id < nx) (hlen : L.length ≤ 900000) (ham : m = a + 1) (hmb : m < b) (hb : b ≤ L.length) (hs2 : SortedAt L m b)
    (hk : ∀ L' nx', nx ≤ nx' → SortOk L L' a b → K (.tup []) (upd id (.arr g 5 (L'.map flCell)) h) nx') :
    ACall Try.prog 55 [.own id g 0, .sc (.int .i64 a), .sc (.int .i64 m), .sc (.int .i64 b), .fn (.func 30) []] h nx K := by
  refine ACall.of_body (c := Try.f55.body.getD .skip) mixed Try.func55 rfl (by kernel_rfl) (by rw [Try.ntmps55]; simp) (by kernel_rfl) ?_
  simp -implicitDefEqProofs only [Try.f55, Option.getD_some, Array.toList]
  have c1 : (m : Int) - (a : Int) = 1 := by omega
  have hla := map_at (L := L) (i := a) (by omega)
  have hal : a < L.length := by omega
  simp -implicitDefEqProofs (disch := omega) only [natNe, wk, indexAddrA, lenA, Nat.reduceAdd, Nat.reduceLeDiff, Nat.reduceEqDiff, if_true, if_false, reduceIte, reduceCtorEq, exists_eq_left', implies_true, forall_const, Int.reduceLT, Int.reduceLE, Int.reduceEq, Int.reduceNeg, bindT, Nat.reduceMul, tis, c1, wrap_i64, eq_self, decide_true]
  refine loopX_cut (fun σ => ∃ T NX i, σ = ⟨T, h, NX, []⟩ ∧ nx ≤ NX ∧ look 0 T = some (.own id g 0) ∧ look 1 T = some (.sc (.int .i64 a)) ∧ look 10 T = some (.sc (.int .i64 (i : Nat))) ∧ m ≤ i ∧ i ≤ b ∧ (∀ p, m ≤ p → p < i → keyLt (cAt L p) (cAt L a) = true) ∧ ∀ p, i ≤ p → p < b → keyLt (cAt L p) (cAt L a) = false) ?_ ?_
  · rintro σ' ⟨T, NX, i, rfl, hNX, t0, t1, t10, hmi, hib, hlo, hhi⟩
    simp -implicitDefEqProofs (disch := omega) only [natNe, wk, indexAddrA, lenA, Nat.reduceAdd, Nat.reduceLeDiff, Nat.reduceEqDiff, if_true, if_false, reduceIte, reduceCtorEq, exists_eq_left', implies_true, forall_const, Int.reduceLT, Int.reduceLE, Int.reduceEq, Int.reduceNeg, bindT, Nat.reduceMul, tis, t0, t1, t10]
    refine loopX_ind (fun n σ => ∃ T H NX k L2, σ = ⟨T, H, NX, []⟩ ∧ H = upd id (.arr g 5 (L2.map flCell)) h ∧ nx ≤ NX ∧ look 0 T = some (.own id g 0) ∧ look 10 T = some (.sc (.int .i64 (i : Nat))) ∧ look 13 T = some (.sc (.int .i64 (k : Nat))) ∧ n + k + 1 = i ∧ a ≤ k ∧
      L2.length = L.length ∧ SameKeys L L2 ∧ ∀ p, cAt L2 p = if a ≤ p ∧ p < k then cAt L (p + 1) else if p = k then cAt L a else cAt L p) (i - 1 - a) ⟨_, _, _, a, L, rfl, (upd_self hl).symm, hNX, ?_, ?_, ?_, by omega, Nat.le_refl _, rfl, SameKeys.refl L, fun p => ?_⟩ ?_
    · simp -implicitDefEqProofs (disch := omega) only [natNe, wk, indexAddrA, lenA, Nat.reduceAdd, Nat.reduceLeDiff, Nat.reduceEqDiff, if_true, if_false, reduceIte, reduceCtorEq, exists_eq_left', implies_true, forall_const, Int.reduceLT, Int.reduceLE, Int.reduceEq, Int.reduceNeg, bindT, Nat.reduceMul, tis, t0]
    · simp -implicitDefEqProofs (disch := omega) only [natNe, wk, indexAddrA, lenA, Nat.reduceAdd, Nat.reduceLeDiff, Nat.reduceEqDiff, if_true, if_false, reduceIte, reduceCtorEq, exists_eq_left', implies_true, forall_const, Int.reduceLT, Int.reduceLE, Int.reduceEq, Int.reduceNeg, bindT, Nat.reduceMul, tis, t10]
    · simp -implicitDefEqProofs (disch := omega) only [natNe, wk, indexAddrA, lenA, Nat.reduceAdd, Nat.reduceLeDiff, Nat.reduceEqDiff, if_true, if_false, reduceIte, reduceCtorEq, exists_eq_left', implies_true, forall_const, Int.reduceLT, Int.reduceLE, Int.reduceEq, Int.reduceNeg, bindT, Nat.reduceMul, tis]
    · rw [if_neg (show ¬ (a ≤ p ∧ p < a) by omega)]
      split
      · rename_i e; rw [e]
      · rfl
    clear t0 t1 t10 hNX
    rintro n σ' ⟨T, _, NX, k, L2, rfl, rfl, hNX, t0, t10, t13, hnk, hak, hll, hkeys, hp⟩
    simp -implicitDefEqProofs (disch := omega) only [natNe, wk, indexAddrA, lenA, Nat.reduceAdd, Nat.reduceLeDiff, Nat.reduceEqDiff, if_true, if_false, reduceIte, reduceCtorEq, exists_eq_left', implies_true, forall_const, Int.reduceLT, Int.reduceLE, Int.reduceEq, Int.reduceNeg, bindT, Nat.reduceMul, tis, t0, t10, t13, wrap_i64]
    refine ⟨fun hlt => ?_, fun hge => ?_⟩
    · refine drawL (fun _ => 2) [0, 0, 0, 0, 1, 0, 0, 0, 0, 0, 0, 0, 0, 0, 0, 2] [] (by kernel_rfl) ?_
      have e1 : ((k : Int) + 1).toNat = k + 1 := by omega
      have e3 : (0 : Int) ≤ (k : Int) + 1 := by omega
      have e5 : k < L2.length := by omega
      have e6 : k + 1 < L2.length := by omega
      have hl1 := map_at (L := L2) (i := k) e5
      have hl2 := map_at (L := L2) (i := k + 1) e6
      have hne : k ≠ k + 1 := by omega
      have eset : ((L2.map flCell).set k (flCell (cAt L2 (k + 1)))).set (k + 1) (flCell (cAt L2 k)) = (swapL L2 k).map flCell := by
        unfold swapL
        rw [← List.map_set, ← List.map_set, List.set_comm _ _ (by omega)]
      simp only [flCell] at eset
      simp -implicitDefEqProofs (maxSteps := 2000000) (disch := omega) only [natNe, wk, indexAddrA, lenA, Nat.reduceAdd, Nat.reduceLeDiff, Nat.reduceEqDiff, if_true, if_false, reduceIte, reduceCtorEq, exists_eq_left', implies_true, forall_const, Int.reduceLT, Int.reduceLE, Int.reduceEq, Int.reduceNeg, bindT, Nat.reduceMul, tis, t0, t10, t13, wrap_i64, e1, e3, e5, e6, hl1, hl2, hl, flCell, List.length_map, List.length_set, List.getElem?_set_ne, upd_upd]
      rw [eset]
      have hat := swapL_at e6
      refine ⟨n - 1, by omega, _, _, _, k + 1, swapL L2 k, rfl, rfl, by omega, ?_, ?_, ?_, by omega, by omega, by rw [swapL_length]; exact hll, hkeys.trans (swapL_keys e6 ?_), fun p => ?_⟩
      · simp -implicitDefEqProofs (disch := omega) only [natNe, wk, indexAddrA, lenA, Nat.reduceAdd, Nat.reduceLeDiff, Nat.reduceEqDiff, if_true, if_false, reduceIte, reduceCtorEq, exists_eq_left', implies_true, forall_const, Int.reduceLT, Int.reduceLE, Int.reduceEq, Int.reduceNeg, bindT, Nat.reduceMul, tis, t0]
      · simp -implicitDefEqProofs (disch := omega) only [natNe, wk, indexAddrA, lenA, Nat.reduceAdd, Nat.reduceLeDiff, Nat.reduceEqDiff, if_true, if_false, reduceIte, reduceCtorEq, exists_eq_left', implies_true, forall_const, Int.reduceLT, Int.reduceLE, Int.reduceEq, Int.reduceNeg, bindT, Nat.reduceMul, tis, t10]
      · simp -implicitDefEqProofs (disch := omega) only [natNe, wk, indexAddrA, lenA, Nat.reduceAdd, Nat.reduceLeDiff, Nat.reduceEqDiff, if_true, if_false, reduceIte, reduceCtorEq, exists_eq_left', implies_true, forall_const, Int.reduceLT, Int.reduceLE, Int.reduceEq, Int.reduceNeg, bindT, Nat.reduceMul, tis, wrap_i64]
        rfl
      · rw [hp (k + 1), hp k, if_neg (show ¬ (a ≤ k + 1 ∧ k + 1 < k) by omega), if_neg (show ¬ k + 1 = k by omega), if_neg (show ¬ (a ≤ k ∧ k < k) by omega), if_pos rfl]
        exact hlo (k + 1) (by omega) (by omega)
      · rw [hat p, hp p, hp k, hp (k + 1), if_neg (show ¬ (a ≤ k + 1 ∧ k + 1 < k) by omega), if_neg (show ¬ k + 1 = k by omega), if_neg (show ¬ (a ≤ k ∧ k < k) by omega), if_pos rfl]
        by_cases q1 : p = k
        · subst q1
          rw [if_pos rfl, if_pos (show a ≤ p ∧ p < p + 1 by omega)]
        · rw [if_neg q1]
          by_cases q2 : p = k + 1
          · subst q2
            rw [if_pos rfl, if_neg (show ¬ (a ≤ k + 1 ∧ k + 1 < k + 1) by omega), if_pos rfl]
          · rw [if_neg q2]
            by_cases q3 : a ≤ p ∧ p < k
            · rw [if_pos q3, if_pos (show a ≤ p ∧ p < k + 1 by omega)]
            · rw [if_neg q3, if_neg q1, if_neg (show ¬ (a ≤ p ∧ p < k + 1) by omega), if_neg q2]
    · have hki : k + 1 = i := by omega
      refine .keep (hk L2 NX hNX ⟨hll, hkeys, fun p hpo => ?_, fun p q hpa hpq hq => ?_⟩)
      · rw [hp p, if_neg (show ¬ (a ≤ p ∧ p < k) by omega)]
        split
        · rename_i e
          rcases hpo with h1 | h1
          · omega
          · omega
        · rfl
      · rw [hp p, hp q]
        by_cases q1 : q < k
        · rw [if_pos (show a ≤ q ∧ q < k by omega), if_pos (show a ≤ p ∧ p < k by omega)]
          exact hs2 (p + 1) (q + 1) (by omega) (by omega) (by omega)
        · by_cases q2 : q = k
          · subst q2
            rw [if_neg (show ¬ (a ≤ q ∧ q < q) by omega), if_pos rfl, if_pos (show a ≤ p ∧ p < q by omega)]
            exact keyLt_asymm (hlo (p + 1) (by omega) (by omega))
          · rw [if_neg (show ¬ (a ≤ q ∧ q < k) by omega), if_neg q2]
            by_cases p1 : p < k
            · rw [if_pos (show a ≤ p ∧ p < k by omega)]
              exact hs2 (p + 1) q (by omega) (by omega) (by omega)
            · rw [if_neg (show ¬ (a ≤ p ∧ p < k) by omega)]
              by_cases p2 : p = k
              · rw [if_pos p2]
                exact hhi q (by omega) hq
              · rw [if_neg p2]
                exact hs2 p q (by omega) (by omega) (by omega)
  · refine loopX_ind (fun n σ => ∃ T NX i j, σ = ⟨T, h, NX, []⟩ ∧ nx ≤ NX ∧ look 0 T = some (.own id g 0) ∧ look 1 T = some (.sc (.int .i64 a)) ∧ look 4 T = some (.fn (.func 30) []) ∧ look 10 T = some (.sc (.int .i64 (i : Nat))) ∧ look 11 T = some (.sc (.int .i64 (j : Nat))) ∧ n + i = j ∧ m ≤ i ∧ i ≤ j ∧ j ≤ b ∧
      (∀ p, m ≤ p → p < i → keyLt (cAt L p) (cAt L a) = true) ∧ ∀ p, j ≤ p → p < b → keyLt (cAt L p) (cAt L a) = false) (b - m) ⟨_, _, m, b, rfl, Nat.le_refl _, rfl, rfl, rfl, rfl, rfl, by omega, by omega, by omega, by omega, fun p h1 h2 => by omega, fun p h1 h2 => by omega⟩ ?_
    rintro n σ' ⟨T, NX, i, j, rfl, hNX, t0, t1, t4, t10, t11, hn, hmi, hij, hjb, hlo, hhi⟩
    simp -implicitDefEqProofs (disch := omega) only [natNe, wk, indexAddrA, lenA, Nat.reduceAdd, Nat.reduceLeDiff, Nat.reduceEqDiff, if_true, if_false, reduceIte, reduceCtorEq, exists_eq_left', implies_true, forall_const, Int.reduceLT, Int.reduceLE, Int.reduceEq, Int.reduceNeg, bindT, Nat.reduceMul, tis, t0, t1, t4, t10, t11, wrap_i64, cutE_exit, cutE_ret]
    refine ⟨fun hlt => ?_, fun hge => ?_⟩
    · have hhf := half i j (by omega)
      simp -implicitDefEqProofs (disch := omega) only [natNe, wk, indexAddrA, lenA, Nat.reduceAdd, Nat.reduceLeDiff, Nat.reduceEqDiff, if_true, if_false, reduceIte, reduceCtorEq, exists_eq_left', implies_true, forall_const, Int.reduceLT, Int.reduceLE, Int.reduceEq, Int.reduceNeg, bindT, Nat.reduceMul, tis, t0, t1, t4, t10, t11, wrap_i64, convA, hhf, Int.reduceLE, cutE_exit, cutE_ret]
      refine draw0 (by kernel_rfl) ?_
      have e5 : (i + j) / 2 < L.length := by omega
      have hlh := map_at (L := L) (i := (i + j) / 2) e5
      simp -implicitDefEqProofs (disch := omega) only [natNe, wk, indexAddrA, lenA, Nat.reduceAdd, Nat.reduceLeDiff, Nat.reduceEqDiff, if_true, if_false, reduceIte, reduceCtorEq, exists_eq_left', implies_true, forall_const, Int.reduceLT, Int.reduceLE, Int.reduceEq, Int.reduceNeg, bindT, Nat.reduceMul, tis, t0, t1, t4, t10, t11, wrap_i64, hla, hlh, hl, hal, e5, flCell, List.length_map, cutE_exit, cutE_ret]
      refine callD_fn (.sc (.int .i64 (cmpM (cAt L ((i + j) / 2)) (cAt L a)))) (.noRef rfl) (fun h nx K hk => cmpCell (a := cAt L ((i + j) / 2)) (b := cAt L a) hk) ?_
      have hlt2 := cmpM_lt (cAt L ((i + j) / 2)) (cAt L a)
      cases hkl : keyLt (cAt L ((i + j) / 2)) (cAt L a) with
      | true =>
        rw [hkl, decide_eq_true_eq] at hlt2
        simp -implicitDefEqProofs (disch := omega) only [natNe, wk, indexAddrA, lenA, Nat.reduceAdd, Nat.reduceLeDiff, Nat.reduceEqDiff, if_true, if_false, reduceIte, reduceCtorEq, exists_eq_left', implies_true, forall_const, Int.reduceLT, Int.reduceLE, Int.reduceEq, Int.reduceNeg, bindT, Nat.reduceMul, tis, t0, t1, t4, t10, t11, hlt2, wrap_i64, cutE_exit, cutE_ret]
        refine ⟨j - ((i + j) / 2 + 1), by omega, _, _, (i + j) / 2 + 1, j, rfl, by omega, ?_, ?_, ?_, ?_, ?_, by omega, by omega, by omega, hjb, fun p h1 h2 => ?_, hhi⟩
        · simp -implicitDefEqProofs (disch := omega) only [natNe, wk, indexAddrA, lenA, Nat.reduceAdd, Nat.reduceLeDiff, Nat.reduceEqDiff, if_true, if_false, reduceIte, reduceCtorEq, exists_eq_left', implies_true, forall_const, Int.reduceLT, Int.reduceLE, Int.reduceEq, Int.reduceNeg, bindT, Nat.reduceMul, tis, t0]
        · simp -implicitDefEqProofs (disch := omega) only [natNe, wk, indexAddrA, lenA, Nat.reduceAdd, Nat.reduceLeDiff, Nat.reduceEqDiff, if_true, if_false, reduceIte, reduceCtorEq, exists_eq_left', implies_true, forall_const, Int.reduceLT, Int.reduceLE, Int.reduceEq, Int.reduceNeg, bindT, Nat.reduceMul, tis, t1]
        · simp -implicitDefEqProofs (disch := omega) only [natNe, wk, indexAddrA, lenA, Nat.reduceAdd, Nat.reduceLeDiff, Nat.reduceEqDiff, if_true, if_false, reduceIte, reduceCtorEq, exists_eq_left', implies_true, forall_const, Int.reduceLT, Int.reduceLE, Int.reduceEq, Int.reduceNeg, bindT, Nat.reduceMul, tis, t4]
        · simp -implicitDefEqProofs (disch := omega) only [natNe, wk, indexAddrA, lenA, Nat.reduceAdd, Nat.reduceLeDiff, Nat.reduceEqDiff, if_true, if_false, reduceIte, reduceCtorEq, exists_eq_left', implies_true, forall_const, Int.reduceLT, Int.reduceLE, Int.reduceEq, Int.reduceNeg, bindT, Nat.reduceMul, tis]
          rfl
        · simp -implicitDefEqProofs (disch := omega) only [natNe, wk, indexAddrA, lenA, Nat.reduceAdd, Nat.reduceLeDiff, Nat.reduceEqDiff, if_true, if_false, reduceIte, reduceCtorEq, exists_eq_left', implies_true, forall_const, Int.reduceLT, Int.reduceLE, Int.reduceEq, Int.reduceNeg, bindT, Nat.reduceMul, tis, t11]
        · by_cases hpi : p < i
          · exact hlo p h1 hpi
          · exact lt_down hkl (hs2.le h1 (by omega) (by omega))
      | false =>
        rw [hkl, decide_eq_false_iff_not] at hlt2
        simp -implicitDefEqProofs (disch := omega) only [natNe, wk, indexAddrA, lenA, Nat.reduceAdd, Nat.reduceLeDiff, Nat.reduceEqDiff, if_true, if_false, reduceIte, reduceCtorEq, exists_eq_left', implies_true, forall_const, Int.reduceLT, Int.reduceLE, Int.reduceEq, Int.reduceNeg, bindT, Nat.reduceMul, tis, t0, t1, t4, t10, t11, hlt2, wrap_i64, cutE_exit, cutE_ret]
        refine ⟨(i + j) / 2 - i, by omega, _, _, i, (i + j) / 2, rfl, by omega, ?_, ?_, ?_, ?_, ?_, by omega, hmi, by omega, by omega, hlo, fun p h1 h2 => ?_⟩
        · simp -implicitDefEqProofs (disch := omega) only [natNe, wk, indexAddrA, lenA, Nat.reduceAdd, Nat.reduceLeDiff, Nat.reduceEqDiff, if_true, if_false, reduceIte, reduceCtorEq, exists_eq_left', implies_true, forall_const, Int.reduceLT, Int.reduceLE, Int.reduceEq, Int.reduceNeg, bindT, Nat.reduceMul, tis, t0]
        · simp -implicitDefEqProofs (disch := omega) only [natNe, wk, indexAddrA, lenA, Nat.reduceAdd, Nat.reduceLeDiff, Nat.reduceEqDiff, if_true, if_false, reduceIte, reduceCtorEq, exists_eq_left', implies_true, forall_const, Int.reduceLT, Int.reduceLE, Int.reduceEq, Int.reduceNeg, bindT, Nat.reduceMul, tis, t1]
        · simp -implicitDefEqProofs (disch := omega) only [natNe, wk, indexAddrA, lenA, Nat.reduceAdd, Nat.reduceLeDiff, Nat.reduceEqDiff, if_true, if_false, reduceIte, reduceCtorEq, exists_eq_left', implies_true, forall_const, Int.reduceLT, Int.reduceLE, Int.reduceEq, Int.reduceNeg, bindT, Nat.reduceMul, tis, t4]
        · simp -implicitDefEqProofs (disch := omega) only [natNe, wk, indexAddrA, lenA, Nat.reduceAdd, Nat.reduceLeDiff, Nat.reduceEqDiff, if_true, if_false, reduceIte, reduceCtorEq, exists_eq_left', implies_true, forall_const, Int.reduceLT, Int.reduceLE, Int.reduceEq, Int.reduceNeg, bindT, Nat.reduceMul, tis, t10]
        · simp -implicitDefEqProofs (disch := omega) only [natNe, wk, indexAddrA, lenA, Nat.reduceAdd, Nat.reduceLeDiff, Nat.reduceEqDiff, if_true, if_false, reduceIte, reduceCtorEq, exists_eq_left', implies_true, forall_const, Int.reduceLT, Int.reduceLE, Int.reduceEq, Int.reduceNeg, bindT, Nat.reduceMul, tis]
        · exact keyLe_trans hkl (hs2.le (by omega) h1 h2)
    · exact ⟨_, _, i, rfl, hNX, by simp -implicitDefEqProofs (disch := omega) only [natNe, wk, indexAddrA, lenA, Nat.reduceAdd, Nat.reduceLeDiff, Nat.reduceEqDiff, if_true, if_false, reduceIte, reduceCtorEq, exists_eq_left', implies_true, forall_const, Int.reduceLT, Int.reduceLE, Int.reduceEq, Int.reduceNeg, bindT, Nat.reduceMul, tis, t0], by simp -implicitDefEqProofs (disch := omega) only [natNe, wk, indexAddrA, lenA, Nat.reduceAdd, Nat.reduceLeDiff, Nat.reduceEqDiff, if_true, if_false, reduceIte, reduceCtorEq, exists_eq_left', implies_true, forall_const, Int.reduceLT, Int.reduceLE, Int.reduceEq, Int.reduceNeg, bindT, Nat.reduceMul, tis, t1], by simp -implicitDefEqProofs (disch := omega) only [natNe, wk, indexAddrA, lenA, Nat.reduceAdd, Nat.reduceLeDiff, Nat.reduceEqDiff, if_true, if_false, reduceIte, reduceCtorEq, exists_eq_left', implies_true, forall_const, Int.reduceLT, Int.reduceLE, Int.reduceEq, Int.reduceNeg, bindT, Nat.reduceMul, tis, t10], hmi, by omega, hlo, fun p h1 h2 => hhi p (by omega) h2⟩
end Go.Abs.Try
