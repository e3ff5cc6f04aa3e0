/- Contracts: two sorted parts merged in place, where the second one is of one cell. -/
import Derived.Test.YtlmkmmkhfkdagaaSymA
set_option linter.unusedVariables false
set_option linter.unusedSimpArgs false
set_option maxHeartbeats 400000000
set_option maxRecDepth 8000
namespace Go.Abs.Try
open Go Go.Abs Go.Proofs

theorem symM2 {h : Heap} {nx : Nat} {K : AV → Heap → Nat → Prop} {id g : Nat} {L : List CellM} {a m b : Nat} (hl : look id h = some (.arr g 5 (L.map flCell))) (hid : id < nx) (hlen : L.length ≤ 900000) (ham : a + 1 < m) (hmb : b = m + 1) (hb : b ≤ L.length) (hs1 : SortedAt L a m)
    (hk : ∀ L' nx', nx ≤ nx' → SortOk L L' a b → K (.tup []) (upd id (.arr g 5 (L'.map flCell)) h) nx') :
    ACall Try.prog 55 [.own id g 0, .sc (.int .i64 a), .sc (.int .i64 m), .sc (.int .i64 b), .fn (.func 30) []] h nx K := by
  refine ACall.of_body (c := Try.f55.body.getD .skip) mixed Try.func55 rfl (by kernel_rfl) (by rw [Try.ntmps55]; simp) (by kernel_rfl) ?_
  simp -implicitDefEqProofs only [Try.f55, Option.getD_some, Array.toList]
  have c1 : ¬ ((m : Int) - (a : Int) = 1) := by omega
  have c2 : (b : Int) - (m : Int) = 1 := by omega
  have hla := map_at (L := L) (i := m) (by omega)
  have hal : m < L.length := by omega
  simp -implicitDefEqProofs (maxSteps := 2000000) (disch := omega) only [natNe, wk, indexAddrA, lenA, Nat.reduceAdd, Nat.reduceLeDiff, Nat.reduceEqDiff, if_true, if_false, reduceIte, reduceCtorEq, exists_eq_left', implies_true, forall_const, Int.reduceLT, Int.reduceLE, Int.reduceEq, Int.reduceNeg, bindT, Nat.reduceMul, tis, c1, c2, wrap_i64, eq_self, decide_true]
  refine loopX_cut (fun σ => ∃ T NX i, σ = ⟨T, h, NX, []⟩ ∧ nx ≤ NX ∧ look 0 T = some (.own id g 0) ∧ look 2 T = some (.sc (.int .i64 m)) ∧ look 14 T = some (.sc (.int .i64 (i : Nat))) ∧ a ≤ i ∧ i ≤ m ∧ (∀ p, a ≤ p → p < i → keyLt (cAt L m) (cAt L p) = false) ∧ ∀ p, i ≤ p → p < m → keyLt (cAt L m) (cAt L p) = true) ?_ ?_
  · rintro σ' ⟨T, NX, i, rfl, hNX, t0, t2, t14, hai, him, hlo, hhi⟩
    simp -implicitDefEqProofs (disch := omega) only [natNe, wk, indexAddrA, lenA, Nat.reduceAdd, Nat.reduceLeDiff, Nat.reduceEqDiff, if_true, if_false, reduceIte, reduceCtorEq, exists_eq_left', implies_true, forall_const, Int.reduceLT, Int.reduceLE, Int.reduceEq, Int.reduceNeg, bindT, Nat.reduceMul, tis, t0, t2, t14]
    refine loopX_ind (fun n σ => ∃ T H NX k L2, σ = ⟨T, H, NX, []⟩ ∧ H = upd id (.arr g 5 (L2.map flCell)) h ∧ nx ≤ NX ∧ look 0 T = some (.own id g 0) ∧ look 14 T = some (.sc (.int .i64 (i : Nat))) ∧ look 17 T = some (.sc (.int .i64 (k : Nat))) ∧ n + i = k ∧ k ≤ m ∧
      L2.length = L.length ∧ SameKeys L L2 ∧ ∀ p, cAt L2 p = if k < p ∧ p ≤ m then cAt L (p - 1) else if p = k then cAt L m else cAt L p) (m - i) ⟨_, _, _, m, L, rfl, (upd_self hl).symm, hNX, ?_, ?_, ?_, by omega, Nat.le_refl _, rfl, SameKeys.refl L, fun p => ?_⟩ ?_
    · simp -implicitDefEqProofs (disch := omega) only [natNe, wk, indexAddrA, lenA, Nat.reduceAdd, Nat.reduceLeDiff, Nat.reduceEqDiff, if_true, if_false, reduceIte, reduceCtorEq, exists_eq_left', implies_true, forall_const, Int.reduceLT, Int.reduceLE, Int.reduceEq, Int.reduceNeg, bindT, Nat.reduceMul, tis, t0]
    · simp -implicitDefEqProofs (disch := omega) only [natNe, wk, indexAddrA, lenA, Nat.reduceAdd, Nat.reduceLeDiff, Nat.reduceEqDiff, if_true, if_false, reduceIte, reduceCtorEq, exists_eq_left', implies_true, forall_const, Int.reduceLT, Int.reduceLE, Int.reduceEq, Int.reduceNeg, bindT, Nat.reduceMul, tis, t14]
    · simp -implicitDefEqProofs (disch := omega) only [natNe, wk, indexAddrA, lenA, Nat.reduceAdd, Nat.reduceLeDiff, Nat.reduceEqDiff, if_true, if_false, reduceIte, reduceCtorEq, exists_eq_left', implies_true, forall_const, Int.reduceLT, Int.reduceLE, Int.reduceEq, Int.reduceNeg, bindT, Nat.reduceMul, tis]
    · rw [if_neg (show ¬ (m < p ∧ p ≤ m) by omega)]
      split
      · rename_i e; rw [e]
      · rfl
    clear t0 t2 t14 hNX
    rintro n σ' ⟨T, _, NX, k, L2, rfl, rfl, hNX, t0, t14, t17, hnk, hkm, hll, hkeys, hp⟩
    simp -implicitDefEqProofs (disch := omega) only [natNe, wk, indexAddrA, lenA, Nat.reduceAdd, Nat.reduceLeDiff, Nat.reduceEqDiff, if_true, if_false, reduceIte, reduceCtorEq, exists_eq_left', implies_true, forall_const, Int.reduceLT, Int.reduceLE, Int.reduceEq, Int.reduceNeg, bindT, Nat.reduceMul, tis, t0, t14, t17, wrap_i64]
    refine ⟨fun hlt => ?_, fun hge => ?_⟩
    · refine drawL (fun _ => 2) [0, 0, 0, 0, 1, 0, 0, 0, 0, 0, 0, 0, 0, 0, 0, 2] [] (by kernel_rfl) ?_
      have e1 : ((k : Int) - 1).toNat = k - 1 := by omega
      have e3 : (0 : Int) ≤ (k : Int) - 1 := by omega
      have e5 : k < L2.length := by omega
      have e6 : k - 1 < L2.length := by omega
      have hl1 := map_at (L := L2) (i := k) e5
      have hl2 := map_at (L := L2) (i := k - 1) e6
      have hne : k ≠ k - 1 := by omega
      have ek : k - 1 + 1 = k := by omega
      have eset : ((L2.map flCell).set k (flCell (cAt L2 (k - 1)))).set (k - 1) (flCell (cAt L2 k)) = (swapL L2 (k - 1)).map flCell := by
        unfold swapL
        rw [ek, List.map_set, List.map_set]
      simp only [flCell] at eset
      simp -implicitDefEqProofs (maxSteps := 2000000) (disch := omega) only [natNe, wk, indexAddrA, lenA, Nat.reduceAdd, Nat.reduceLeDiff, Nat.reduceEqDiff, if_true, if_false, reduceIte, reduceCtorEq, exists_eq_left', implies_true, forall_const, Int.reduceLT, Int.reduceLE, Int.reduceEq, Int.reduceNeg, bindT, Nat.reduceMul, tis, t0, t14, t17, wrap_i64, e1, e3, e5, e6, hl1, hl2, hl, flCell, List.length_map, List.length_set, List.getElem?_set_ne, upd_upd]
      rw [eset]
      have e7 : k - 1 + 1 < L2.length := by omega
      have hat := swapL_at e7
      simp only [ek] at hat
      refine ⟨n - 1, by omega, _, _, _, k - 1, swapL L2 (k - 1), rfl, rfl, by omega, ?_, ?_, ?_, by omega, by omega, by rw [swapL_length]; exact hll, hkeys.trans (swapL_keys e7 ?_), fun p => ?_⟩
      · simp -implicitDefEqProofs (disch := omega) only [natNe, wk, indexAddrA, lenA, Nat.reduceAdd, Nat.reduceLeDiff, Nat.reduceEqDiff, if_true, if_false, reduceIte, reduceCtorEq, exists_eq_left', implies_true, forall_const, Int.reduceLT, Int.reduceLE, Int.reduceEq, Int.reduceNeg, bindT, Nat.reduceMul, tis, t0]
      · simp -implicitDefEqProofs (disch := omega) only [natNe, wk, indexAddrA, lenA, Nat.reduceAdd, Nat.reduceLeDiff, Nat.reduceEqDiff, if_true, if_false, reduceIte, reduceCtorEq, exists_eq_left', implies_true, forall_const, Int.reduceLT, Int.reduceLE, Int.reduceEq, Int.reduceNeg, bindT, Nat.reduceMul, tis, t14]
      · simp -implicitDefEqProofs (disch := omega) only [natNe, wk, indexAddrA, lenA, Nat.reduceAdd, Nat.reduceLeDiff, Nat.reduceEqDiff, if_true, if_false, reduceIte, reduceCtorEq, exists_eq_left', implies_true, forall_const, Int.reduceLT, Int.reduceLE, Int.reduceEq, Int.reduceNeg, bindT, Nat.reduceMul, tis, wrap_i64]
        simp only [Option.some.injEq, AV.sc.injEq, Value.int.injEq, true_and]
        omega
      · rw [ek, hp k, hp (k - 1), if_neg (show ¬ (k < k ∧ k ≤ m) by omega), if_pos rfl, if_neg (show ¬ (k < k - 1 ∧ k - 1 ≤ m) by omega), if_neg (show ¬ k - 1 = k by omega)]
        exact hhi (k - 1) (by omega) (by omega)
      · rw [hat p, hp p, hp k, hp (k - 1), if_neg (show ¬ (k < k ∧ k ≤ m) by omega), if_pos rfl, if_neg (show ¬ (k < k - 1 ∧ k - 1 ≤ m) by omega), if_neg (show ¬ k - 1 = k by omega)]
        by_cases q1 : p = k - 1
        · rw [if_pos q1, if_neg (show ¬ (k - 1 < p ∧ p ≤ m) by omega), if_pos q1]
        · rw [if_neg q1]
          by_cases q2 : p = k
          · rw [if_pos q2, if_pos (show k - 1 < p ∧ p ≤ m by omega), q2]
          · rw [if_neg q2]
            by_cases q3 : k < p ∧ p ≤ m
            · rw [if_pos q3, if_pos (show k - 1 < p ∧ p ≤ m by omega)]
            · rw [if_neg q3, if_neg q2, if_neg (show ¬ (k - 1 < p ∧ p ≤ m) by omega), if_neg q1]
    · have hki : k = i := by omega
      refine .keep (hk L2 NX hNX ⟨hll, hkeys, fun p hpo => ?_, fun p q hpa hpq hq => ?_⟩)
      · rw [hp p, if_neg (show ¬ (k < p ∧ p ≤ m) by omega)]
        split
        · rename_i e
          rcases hpo with h1 | h1
          · omega
          · omega
        · rfl
      · rw [hp p, hp q]
        by_cases p1 : k < p
        · rw [if_pos (show k < p ∧ p ≤ m by omega), if_pos (show k < q ∧ q ≤ m by omega)]
          exact hs1 (p - 1) (q - 1) (by omega) (by omega) (by omega)
        · rw [if_neg (show ¬ (k < p ∧ p ≤ m) by omega)]
          by_cases p2 : p = k
          · rw [if_pos p2, if_pos (show k < q ∧ q ≤ m by omega)]
            exact keyLt_asymm (hhi (q - 1) (by omega) (by omega))
          · rw [if_neg p2]
            by_cases q1 : k < q
            · rw [if_pos (show k < q ∧ q ≤ m by omega)]
              rcases Nat.lt_or_eq_of_le (show p ≤ q - 1 by omega) with h4 | h4
              · exact hs1 p (q - 1) (by omega) h4 (by omega)
              · rw [h4]; exact keyLt_irrefl _
            · rw [if_neg (show ¬ (k < q ∧ q ≤ m) by omega)]
              by_cases q2 : q = k
              · rw [if_pos q2]
                exact hlo p hpa (by omega)
              · rw [if_neg q2]
                exact hs1 p q hpa hpq (by omega)
  · refine loopX_ind (fun n σ => ∃ T NX i j, σ = ⟨T, h, NX, []⟩ ∧ nx ≤ NX ∧ look 0 T = some (.own id g 0) ∧ look 2 T = some (.sc (.int .i64 m)) ∧ look 4 T = some (.fn (.func 30) []) ∧ look 14 T = some (.sc (.int .i64 (i : Nat))) ∧ look 15 T = some (.sc (.int .i64 (j : Nat))) ∧ n + i = j ∧ a ≤ i ∧ i ≤ j ∧ j ≤ m ∧
      (∀ p, a ≤ p → p < i → keyLt (cAt L m) (cAt L p) = false) ∧ ∀ p, j ≤ p → p < m → keyLt (cAt L m) (cAt L p) = true) (m - a) ⟨_, _, a, m, rfl, Nat.le_refl _, rfl, rfl, rfl, rfl, rfl, by omega, by omega, by omega, by omega, fun p h1 h2 => by omega, fun p h1 h2 => by omega⟩ ?_
    rintro n σ' ⟨T, NX, i, j, rfl, hNX, t0, t2, t4, t14, t15, hn, hai, hij, hjm, hlo, hhi⟩
    simp -implicitDefEqProofs (disch := omega) only [natNe, wk, indexAddrA, lenA, Nat.reduceAdd, Nat.reduceLeDiff, Nat.reduceEqDiff, if_true, if_false, reduceIte, reduceCtorEq, exists_eq_left', implies_true, forall_const, Int.reduceLT, Int.reduceLE, Int.reduceEq, Int.reduceNeg, bindT, Nat.reduceMul, tis, t0, t2, t4, t14, t15, wrap_i64, cutE_exit, cutE_ret]
    refine ⟨fun hlt => ?_, fun hge => ?_⟩
    · have hhf := half i j (by omega)
      simp -implicitDefEqProofs (disch := omega) only [natNe, wk, indexAddrA, lenA, Nat.reduceAdd, Nat.reduceLeDiff, Nat.reduceEqDiff, if_true, if_false, reduceIte, reduceCtorEq, exists_eq_left', implies_true, forall_const, Int.reduceLT, Int.reduceLE, Int.reduceEq, Int.reduceNeg, bindT, Nat.reduceMul, tis, t0, t2, t4, t14, t15, wrap_i64, convA, hhf, Int.reduceLE, cutE_exit, cutE_ret]
      refine draw0 (by kernel_rfl) ?_
      have e5 : (i + j) / 2 < L.length := by omega
      have hlh := map_at (L := L) (i := (i + j) / 2) e5
      simp -implicitDefEqProofs (disch := omega) only [natNe, wk, indexAddrA, lenA, Nat.reduceAdd, Nat.reduceLeDiff, Nat.reduceEqDiff, if_true, if_false, reduceIte, reduceCtorEq, exists_eq_left', implies_true, forall_const, Int.reduceLT, Int.reduceLE, Int.reduceEq, Int.reduceNeg, bindT, Nat.reduceMul, tis, t0, t2, t4, t14, t15, wrap_i64, hla, hlh, hl, hal, e5, flCell, List.length_map, cutE_exit, cutE_ret]
      refine callD_fn (.sc (.int .i64 (cmpM (cAt L m) (cAt L ((i + j) / 2))))) (.noRef rfl) (fun h nx K hk => cmpCell (a := cAt L m) (b := cAt L ((i + j) / 2)) hk) ?_
      have hlt2 := cmpM_lt (cAt L m) (cAt L ((i + j) / 2))
      cases hkl : keyLt (cAt L m) (cAt L ((i + j) / 2)) with
      | false =>
        rw [hkl, decide_eq_false_iff_not] at hlt2
        simp -implicitDefEqProofs (disch := omega) only [natNe, wk, indexAddrA, lenA, Nat.reduceAdd, Nat.reduceLeDiff, Nat.reduceEqDiff, if_true, if_false, reduceIte, reduceCtorEq, exists_eq_left', implies_true, forall_const, Int.reduceLT, Int.reduceLE, Int.reduceEq, Int.reduceNeg, bindT, Nat.reduceMul, tis, t0, t2, t4, t14, t15, hlt2, wrap_i64, cutE_exit, cutE_ret]
        refine ⟨j - ((i + j) / 2 + 1), by omega, _, _, (i + j) / 2 + 1, j, rfl, by omega, ?_, ?_, ?_, ?_, ?_, by omega, by omega, by omega, hjm, fun p h1 h2 => ?_, hhi⟩
        · simp -implicitDefEqProofs (disch := omega) only [natNe, wk, indexAddrA, lenA, Nat.reduceAdd, Nat.reduceLeDiff, Nat.reduceEqDiff, if_true, if_false, reduceIte, reduceCtorEq, exists_eq_left', implies_true, forall_const, Int.reduceLT, Int.reduceLE, Int.reduceEq, Int.reduceNeg, bindT, Nat.reduceMul, tis, t0]
        · simp -implicitDefEqProofs (disch := omega) only [natNe, wk, indexAddrA, lenA, Nat.reduceAdd, Nat.reduceLeDiff, Nat.reduceEqDiff, if_true, if_false, reduceIte, reduceCtorEq, exists_eq_left', implies_true, forall_const, Int.reduceLT, Int.reduceLE, Int.reduceEq, Int.reduceNeg, bindT, Nat.reduceMul, tis, t2]
        · simp -implicitDefEqProofs (disch := omega) only [natNe, wk, indexAddrA, lenA, Nat.reduceAdd, Nat.reduceLeDiff, Nat.reduceEqDiff, if_true, if_false, reduceIte, reduceCtorEq, exists_eq_left', implies_true, forall_const, Int.reduceLT, Int.reduceLE, Int.reduceEq, Int.reduceNeg, bindT, Nat.reduceMul, tis, t4]
        · simp -implicitDefEqProofs (disch := omega) only [natNe, wk, indexAddrA, lenA, Nat.reduceAdd, Nat.reduceLeDiff, Nat.reduceEqDiff, if_true, if_false, reduceIte, reduceCtorEq, exists_eq_left', implies_true, forall_const, Int.reduceLT, Int.reduceLE, Int.reduceEq, Int.reduceNeg, bindT, Nat.reduceMul, tis]
          rfl
        · simp -implicitDefEqProofs (disch := omega) only [natNe, wk, indexAddrA, lenA, Nat.reduceAdd, Nat.reduceLeDiff, Nat.reduceEqDiff, if_true, if_false, reduceIte, reduceCtorEq, exists_eq_left', implies_true, forall_const, Int.reduceLT, Int.reduceLE, Int.reduceEq, Int.reduceNeg, bindT, Nat.reduceMul, tis, t15]
        · exact keyLe_trans (hs1.le h1 (by omega) (by omega)) hkl
      | true =>
        rw [hkl, decide_eq_true_eq] at hlt2
        simp -implicitDefEqProofs (disch := omega) only [natNe, wk, indexAddrA, lenA, Nat.reduceAdd, Nat.reduceLeDiff, Nat.reduceEqDiff, if_true, if_false, reduceIte, reduceCtorEq, exists_eq_left', implies_true, forall_const, Int.reduceLT, Int.reduceLE, Int.reduceEq, Int.reduceNeg, bindT, Nat.reduceMul, tis, t0, t2, t4, t14, t15, hlt2, wrap_i64, cutE_exit, cutE_ret]
        refine ⟨(i + j) / 2 - i, by omega, _, _, i, (i + j) / 2, rfl, by omega, ?_, ?_, ?_, ?_, ?_, by omega, hai, by omega, by omega, hlo, fun p h1 h2 => ?_⟩
        · simp -implicitDefEqProofs (disch := omega) only [natNe, wk, indexAddrA, lenA, Nat.reduceAdd, Nat.reduceLeDiff, Nat.reduceEqDiff, if_true, if_false, reduceIte, reduceCtorEq, exists_eq_left', implies_true, forall_const, Int.reduceLT, Int.reduceLE, Int.reduceEq, Int.reduceNeg, bindT, Nat.reduceMul, tis, t0]
        · simp -implicitDefEqProofs (disch := omega) only [natNe, wk, indexAddrA, lenA, Nat.reduceAdd, Nat.reduceLeDiff, Nat.reduceEqDiff, if_true, if_false, reduceIte, reduceCtorEq, exists_eq_left', implies_true, forall_const, Int.reduceLT, Int.reduceLE, Int.reduceEq, Int.reduceNeg, bindT, Nat.reduceMul, tis, t2]
        · simp -implicitDefEqProofs (disch := omega) only [natNe, wk, indexAddrA, lenA, Nat.reduceAdd, Nat.reduceLeDiff, Nat.reduceEqDiff, if_true, if_false, reduceIte, reduceCtorEq, exists_eq_left', implies_true, forall_const, Int.reduceLT, Int.reduceLE, Int.reduceEq, Int.reduceNeg, bindT, Nat.reduceMul, tis, t4]
        · simp -implicitDefEqProofs (disch := omega) only [natNe, wk, indexAddrA, lenA, Nat.reduceAdd, Nat.reduceLeDiff, Nat.reduceEqDiff, if_true, if_false, reduceIte, reduceCtorEq, exists_eq_left', implies_true, forall_const, Int.reduceLT, Int.reduceLE, Int.reduceEq, Int.reduceNeg, bindT, Nat.reduceMul, tis, t14]
        · simp -implicitDefEqProofs (disch := omega) only [natNe, wk, indexAddrA, lenA, Nat.reduceAdd, Nat.reduceLeDiff, Nat.reduceEqDiff, if_true, if_false, reduceIte, reduceCtorEq, exists_eq_left', implies_true, forall_const, Int.reduceLT, Int.reduceLE, Int.reduceEq, Int.reduceNeg, bindT, Nat.reduceMul, tis]
        · exact lt_up hkl (hs1.le (by omega) h1 h2)
    · exact ⟨_, _, i, rfl, hNX, by simp -implicitDefEqProofs (disch := omega) only [natNe, wk, indexAddrA, lenA, Nat.reduceAdd, Nat.reduceLeDiff, Nat.reduceEqDiff, if_true, if_false, reduceIte, reduceCtorEq, exists_eq_left', implies_true, forall_const, Int.reduceLT, Int.reduceLE, Int.reduceEq, Int.reduceNeg, bindT, Nat.reduceMul, tis, t0], by simp -implicitDefEqProofs (disch := omega) only [natNe, wk, indexAddrA, lenA, Nat.reduceAdd, Nat.reduceLeDiff, Nat.reduceEqDiff, if_true, if_false, reduceIte, reduceCtorEq, exists_eq_left', implies_true, forall_const, Int.reduceLT, Int.reduceLE, Int.reduceEq, Int.reduceNeg, bindT, Nat.reduceMul, tis, t2], by simp -implicitDefEqProofs (disch := omega) only [natNe, wk, indexAddrA, lenA, Nat.reduceAdd, Nat.reduceLeDiff, Nat.reduceEqDiff, if_true, if_false, reduceIte, reduceCtorEq, exists_eq_left', implies_true, forall_const, Int.reduceLT, Int.reduceLE, Int.reduceEq, Int.reduceNeg, bindT, Nat.reduceMul, tis, t14], hai, by omega, hlo, fun p h1 h2 => hhi p (by omega) h2⟩
end Go.Abs.Try
