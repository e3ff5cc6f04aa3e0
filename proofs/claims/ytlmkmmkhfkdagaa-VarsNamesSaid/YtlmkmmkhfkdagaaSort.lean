/- Contracts: sorting by insertion. -/
import Derived.Test.YtlmkmmkhfkdagaaCmp
set_option linter.unusedVariables false
set_option linter.unusedSimpArgs false
set_option maxHeartbeats 4000000
set_option maxRecDepth 8000
namespace Go.Abs.Try
open Go Go.Abs Go.Proofs

theorem upd_upd {i : Nat} (x y : AObj) (h : Heap) : upd i x (upd i y h) = upd i x h := by
  funext j
  change look j (upd i x (upd i y h)) = look j (upd i x h)
  simp only [look_upd]
  by_cases e : j = i
  · subst e; cases look j h <;> simp
  · simp [e]

theorem upd_self {i : Nat} {x : AObj} {h : Heap} (hl : look i h = some x) : upd i x h = h := by
  funext j
  change look j (upd i x h) = look j h
  simp only [look_upd]
  by_cases e : j = i
  · subst e; simp [hl]
  · simp [e]

theorem look_updS {i : Nat} {x y : AObj} {h : Heap} (hl : look i h = some x) : look i (upd i y h) = some y := by simp [look_upd, hl]

theorem map_at {L : List CellM} {i : Nat} (h : i < L.length) : (L.map flCell)[i]? = some (flCell (cAt L i)) := by rw [List.getElem?_map, cAt_eq h]; rfl

theorem insSort {h : Heap} {nx : Nat} {K : AV → Heap → Nat → Prop} {id g : Nat} {L : List CellM} {a b : Nat} (hl : look id h = some (.arr g 5 (L.map flCell))) (hid : id < nx) (hb : b ≤ L.length) (hlen : L.length ≤ 900000) (hab : a ≤ b)
    (hk : ∀ L' nx', nx ≤ nx' → SortOk L L' a b → K (.tup []) (upd id (.arr g 5 (L'.map flCell)) h) nx') :
    ACall Try.prog 54 [.own id g 0, .sc (.int .i64 a), .sc (.int .i64 b), .fn (.func 30) []] h nx K := by
  refine ACall.of_body (c := Try.f54.body.getD .skip) mixed Try.func54 rfl (by kernel_rfl) (by rw [Try.ntmps54]; simp) (by kernel_rfl) ?_
  simp -implicitDefEqProofs only [Try.f54, Option.getD_some, Array.toList]
  simp -implicitDefEqProofs (disch := omega) only [natNe, wk, indexAddrA, lenA, Nat.reduceAdd, Nat.reduceLeDiff, Nat.reduceEqDiff, if_true, if_false, reduceIte, reduceCtorEq, exists_eq_left', implies_true, forall_const, Int.reduceLT, Int.reduceLE, Int.reduceEq, Int.reduceNeg, bindT, Nat.reduceMul, tis, wrap_i64]
  refine loopX_ind (fun m σ => ∃ T H NX i L', σ = ⟨T, H, NX, []⟩ ∧ H = upd id (.arr g 5 (L'.map flCell)) h ∧ nx ≤ NX ∧ look 0 T = some (.own id g 0) ∧ look 1 T = some (.sc (.int .i64 a)) ∧ look 2 T = some (.sc (.int .i64 b)) ∧ look 3 T = some (.fn (.func 30) []) ∧
      look 8 T = some (.sc (.int .i64 (i : Nat))) ∧ b ≤ m + i ∧ a < i ∧ (i ≤ b ∨ L' = L) ∧ SortOk L L' a i) (b + 1) ⟨_, _, _, a + 1, L, rfl, (upd_self hl).symm, Nat.le_refl _, rfl, rfl, rfl, rfl, ?_, by omega, by omega, .inr rfl, ⟨rfl, SameKeys.refl L, fun _ _ => rfl, fun p q hp hpq hq => by omega⟩⟩ ?_
  · simp -implicitDefEqProofs (disch := omega) only [natNe, wk, indexAddrA, lenA, Nat.reduceAdd, Nat.reduceLeDiff, Nat.reduceEqDiff, if_true, if_false, reduceIte, reduceCtorEq, exists_eq_left', implies_true, forall_const, Int.reduceLT, Int.reduceLE, Int.reduceEq, Int.reduceNeg, bindT, Nat.reduceMul, tis]
    rfl
  rintro m σ' ⟨T, _, NX, i, L', rfl, rfl, hNX, t0, t1, t2, t3, t8, hm, hai, hib, ok⟩
  simp -implicitDefEqProofs (disch := omega) only [natNe, wk, indexAddrA, lenA, Nat.reduceAdd, Nat.reduceLeDiff, Nat.reduceEqDiff, if_true, if_false, reduceIte, reduceCtorEq, exists_eq_left', implies_true, forall_const, Int.reduceLT, Int.reduceLE, Int.reduceEq, Int.reduceNeg, bindT, Nat.reduceMul, tis, t0, t1, t2, t3, t8, wrap_i64]
  refine ⟨fun hi => ?_, fun hi => ?_⟩
  · have hll := ok.len
    refine loopX_ind (fun m2 σ => ∃ T H NX j L2, σ = ⟨T, H, NX, []⟩ ∧ H = upd id (.arr g 5 (L2.map flCell)) h ∧ nx ≤ NX ∧ look 0 T = some (.own id g 0) ∧ look 1 T = some (.sc (.int .i64 a)) ∧ look 2 T = some (.sc (.int .i64 b)) ∧ look 3 T = some (.fn (.func 30) []) ∧
      look 8 T = some (.sc (.int .i64 (i : Nat))) ∧ look 9 T = some (.sc (.int .i64 (j : Nat))) ∧ m2 + a = j ∧ j ≤ i ∧ L2.length = L.length ∧ SameKeys L L2 ∧ (∀ p, (p < a ∨ i + 1 ≤ p) → cAt L2 p = cAt L p) ∧
      (∀ p q, a ≤ p → p < q → q ≤ i → p ≠ j → q ≠ j → keyLt (cAt L2 q) (cAt L2 p) = false) ∧ ∀ q, j < q → q ≤ i → keyLt (cAt L2 j) (cAt L2 q) = true)
      (i - a) ⟨_, _, _, i, L', rfl, rfl, hNX, ?_, ?_, ?_, ?_, ?_, ?_, by omega, by omega, hll, ok.keys, fun p hp => ok.out p (by omega), fun p q hp hpq hq hpj hqj => ok.sorted p q hp hpq (by omega), fun q hq hq2 => by omega⟩ ?_
    · simp -implicitDefEqProofs (disch := omega) only [natNe, wk, indexAddrA, lenA, Nat.reduceAdd, Nat.reduceLeDiff, Nat.reduceEqDiff, if_true, if_false, reduceIte, reduceCtorEq, exists_eq_left', implies_true, forall_const, Int.reduceLT, Int.reduceLE, Int.reduceEq, Int.reduceNeg, bindT, Nat.reduceMul, tis, t0]
    · simp -implicitDefEqProofs (disch := omega) only [natNe, wk, indexAddrA, lenA, Nat.reduceAdd, Nat.reduceLeDiff, Nat.reduceEqDiff, if_true, if_false, reduceIte, reduceCtorEq, exists_eq_left', implies_true, forall_const, Int.reduceLT, Int.reduceLE, Int.reduceEq, Int.reduceNeg, bindT, Nat.reduceMul, tis, t1]
    · simp -implicitDefEqProofs (disch := omega) only [natNe, wk, indexAddrA, lenA, Nat.reduceAdd, Nat.reduceLeDiff, Nat.reduceEqDiff, if_true, if_false, reduceIte, reduceCtorEq, exists_eq_left', implies_true, forall_const, Int.reduceLT, Int.reduceLE, Int.reduceEq, Int.reduceNeg, bindT, Nat.reduceMul, tis, t2]
    · simp -implicitDefEqProofs (disch := omega) only [natNe, wk, indexAddrA, lenA, Nat.reduceAdd, Nat.reduceLeDiff, Nat.reduceEqDiff, if_true, if_false, reduceIte, reduceCtorEq, exists_eq_left', implies_true, forall_const, Int.reduceLT, Int.reduceLE, Int.reduceEq, Int.reduceNeg, bindT, Nat.reduceMul, tis, t3]
    · simp -implicitDefEqProofs (disch := omega) only [natNe, wk, indexAddrA, lenA, Nat.reduceAdd, Nat.reduceLeDiff, Nat.reduceEqDiff, if_true, if_false, reduceIte, reduceCtorEq, exists_eq_left', implies_true, forall_const, Int.reduceLT, Int.reduceLE, Int.reduceEq, Int.reduceNeg, bindT, Nat.reduceMul, tis, t8]
    · simp -implicitDefEqProofs (disch := omega) only [natNe, wk, indexAddrA, lenA, Nat.reduceAdd, Nat.reduceLeDiff, Nat.reduceEqDiff, if_true, if_false, reduceIte, reduceCtorEq, exists_eq_left', implies_true, forall_const, Int.reduceLT, Int.reduceLE, Int.reduceEq, Int.reduceNeg, bindT, Nat.reduceMul, tis]
    clear ok t0 t1 t2 t3 t8
    rintro m2 σ' ⟨T, _, NX, j, L2, rfl, rfl, hNX, t0, t1, t2, t3, t8, t9, hm2, hji, hl2, hkeys, hout, hs1, hs2⟩
    simp -implicitDefEqProofs (disch := omega) only [natNe, wk, indexAddrA, lenA, Nat.reduceAdd, Nat.reduceLeDiff, Nat.reduceEqDiff, if_true, if_false, reduceIte, reduceCtorEq, exists_eq_left', implies_true, forall_const, Int.reduceLT, Int.reduceLE, Int.reduceEq, Int.reduceNeg, bindT, Nat.reduceMul, tis, t0, t1, t2, t3, t8, t9, wrap_i64]
    refine draw0 (by kernel_rfl) ?_
    by_cases haj : a < j
    · have e1 : ((j : Int) - 1).toNat = j - 1 := by omega
      have hla := map_at (L := L2) (i := j) (by omega)
      have hlb := map_at (L := L2) (i := j - 1) (by omega)
      have hlk := look_updS (y := .arr g 5 (L2.map flCell)) hl
      have e2 : j < L2.length := by omega
      have e3 : (0 : Int) ≤ (j : Int) - 1 := by omega
      have e4 : j - 1 < L2.length := by omega
      simp -implicitDefEqProofs (disch := omega) only [natNe, wk, indexAddrA, lenA, Nat.reduceAdd, Nat.reduceLeDiff, Nat.reduceEqDiff, if_true, if_false, reduceIte, reduceCtorEq, exists_eq_left', implies_true, forall_const, Int.reduceLT, Int.reduceLE, Int.reduceEq, Int.reduceNeg, bindT, Nat.reduceMul, tis, t0, t1, t2, t3, t8, t9, wrap_i64, haj, e1, e2, e3, e4, hla, hlb, hlk, flCell, List.length_map]
      refine callD_fn (.sc (.int .i64 (cmpM (cAt L2 j) (cAt L2 (j - 1))))) (.noRef rfl) (fun h nx K hk => cmpCell (a := cAt L2 j) (b := cAt L2 (j - 1)) hk) ?_
      have hlt := cmpM_lt (cAt L2 j) (cAt L2 (j - 1))
      cases hkl : keyLt (cAt L2 j) (cAt L2 (j - 1)) with
      | true =>
        rw [hkl, decide_eq_true_eq] at hlt
        simp -implicitDefEqProofs (disch := omega) only [natNe, wk, indexAddrA, lenA, Nat.reduceAdd, Nat.reduceLeDiff, Nat.reduceEqDiff, if_true, if_false, reduceIte, reduceCtorEq, exists_eq_left', implies_true, forall_const, Int.reduceLT, Int.reduceLE, Int.reduceEq, Int.reduceNeg, bindT, Nat.reduceMul, tis, t0, t1, t2, t3, t8, t9, hlt]
        refine drawL (fun _ => 2) [0, 0, 0, 0, 1, 0, 0, 0, 0, 0, 0, 0, 0, 0, 0, 2] [] (by kernel_rfl) ?_
        have hlk2 : ∀ (y z : AObj), look id (upd id y (upd id z h)) = some y := fun y z => by simp [look_upd, hl]
        have eset : ((L2.map flCell).set j (flCell (cAt L2 (j - 1)))).set (j - 1) (flCell (cAt L2 j)) = (swapL L2 (j - 1)).map flCell := by
          have : j - 1 + 1 = j := by omega
          unfold swapL
          rw [this, List.map_set, List.map_set]
        simp only [flCell] at eset
        simp -implicitDefEqProofs (disch := omega) only [natNe, wk, indexAddrA, lenA, Nat.reduceAdd, Nat.reduceLeDiff, Nat.reduceEqDiff, if_true, if_false, reduceIte, reduceCtorEq, exists_eq_left', implies_true, forall_const, Int.reduceLT, Int.reduceLE, Int.reduceEq, Int.reduceNeg, bindT, Nat.reduceMul, tis, t0, t1, t2, t3, t8, t9, wrap_i64, haj, e1, e2, e3, e4, hla, hlb, hl, flCell, List.length_map, List.length_set, List.getElem?_set_ne, upd_upd]
        rw [eset]
        have e5 : j - 1 + 1 = j := by omega
        have e6 : j - 1 + 1 < L2.length := by omega
        have hat := swapL_at e6
        simp only [e5] at hat
        refine ⟨m2 - 1, by omega, _, _, _, j - 1, swapL L2 (j - 1), rfl, rfl, by omega, ?_, ?_, ?_, ?_, ?_, ?_, by omega, by omega, by rw [swapL_length]; exact hl2, hkeys.trans (swapL_keys e6 (by rw [e5]; exact hkl)), ?_, ?_, ?_⟩
        · simp -implicitDefEqProofs (disch := omega) only [natNe, wk, indexAddrA, lenA, Nat.reduceAdd, Nat.reduceLeDiff, Nat.reduceEqDiff, if_true, if_false, reduceIte, reduceCtorEq, exists_eq_left', implies_true, forall_const, Int.reduceLT, Int.reduceLE, Int.reduceEq, Int.reduceNeg, bindT, Nat.reduceMul, tis, t0]
        · simp -implicitDefEqProofs (disch := omega) only [natNe, wk, indexAddrA, lenA, Nat.reduceAdd, Nat.reduceLeDiff, Nat.reduceEqDiff, if_true, if_false, reduceIte, reduceCtorEq, exists_eq_left', implies_true, forall_const, Int.reduceLT, Int.reduceLE, Int.reduceEq, Int.reduceNeg, bindT, Nat.reduceMul, tis, t1]
        · simp -implicitDefEqProofs (disch := omega) only [natNe, wk, indexAddrA, lenA, Nat.reduceAdd, Nat.reduceLeDiff, Nat.reduceEqDiff, if_true, if_false, reduceIte, reduceCtorEq, exists_eq_left', implies_true, forall_const, Int.reduceLT, Int.reduceLE, Int.reduceEq, Int.reduceNeg, bindT, Nat.reduceMul, tis, t2]
        · simp -implicitDefEqProofs (disch := omega) only [natNe, wk, indexAddrA, lenA, Nat.reduceAdd, Nat.reduceLeDiff, Nat.reduceEqDiff, if_true, if_false, reduceIte, reduceCtorEq, exists_eq_left', implies_true, forall_const, Int.reduceLT, Int.reduceLE, Int.reduceEq, Int.reduceNeg, bindT, Nat.reduceMul, tis, t3]
        · simp -implicitDefEqProofs (disch := omega) only [natNe, wk, indexAddrA, lenA, Nat.reduceAdd, Nat.reduceLeDiff, Nat.reduceEqDiff, if_true, if_false, reduceIte, reduceCtorEq, exists_eq_left', implies_true, forall_const, Int.reduceLT, Int.reduceLE, Int.reduceEq, Int.reduceNeg, bindT, Nat.reduceMul, tis, t8]
        · simp -implicitDefEqProofs (disch := omega) only [natNe, wk, indexAddrA, lenA, Nat.reduceAdd, Nat.reduceLeDiff, Nat.reduceEqDiff, if_true, if_false, reduceIte, reduceCtorEq, exists_eq_left', implies_true, forall_const, Int.reduceLT, Int.reduceLE, Int.reduceEq, Int.reduceNeg, bindT, Nat.reduceMul, tis, wrap_i64]
          simp only [Option.some.injEq, AV.sc.injEq, Value.int.injEq, true_and]
          omega
        · intro p hp
          have a1 : p ≠ j := by omega
          have a2 : p ≠ j - 1 := by omega
          rw [hat p, if_neg a2, if_neg a1]
          exact hout p hp
        · intro p q hp hpq hq hpj hqj
          rw [hat p, if_neg hpj, hat q, if_neg hqj]
          by_cases b1 : p = j
          · subst b1
            rw [if_pos rfl, if_neg (by omega)]
            have := hs1 (p - 1) q (by omega) (by omega) hq (by omega) (by omega)
            exact this
          · rw [if_neg b1]
            by_cases b2 : q = j
            · subst b2
              rw [if_pos rfl]
              exact hs1 p (q - 1) hp (by omega) (by omega) b1 (by omega)
            · rw [if_neg b2]
              exact hs1 p q hp hpq hq b1 b2
        · intro q hq hq2
          rw [hat (j - 1), if_pos rfl, hat q, if_neg (by omega)]
          by_cases b2 : q = j
          · rw [if_pos b2]; exact hkl
          · rw [if_neg b2]; exact hs2 q (by omega) hq2
      | false =>
        rw [hkl, decide_eq_false_iff_not] at hlt
        simp -implicitDefEqProofs (disch := omega) only [natNe, wk, indexAddrA, lenA, Nat.reduceAdd, Nat.reduceLeDiff, Nat.reduceEqDiff, if_true, if_false, reduceIte, reduceCtorEq, exists_eq_left', implies_true, forall_const, Int.reduceLT, Int.reduceLE, Int.reduceEq, Int.reduceNeg, bindT, Nat.reduceMul, tis, t0, t1, t2, t3, t8, t9, hlt]
        refine ⟨m - 1, by omega, _, _, _, i + 1, L2, rfl, rfl, by omega, ?_, ?_, ?_, ?_, ?_, by omega, by omega, .inl (by omega), ⟨hl2, hkeys, fun p hp => hout p (by omega), ?_⟩⟩
        · simp -implicitDefEqProofs (disch := omega) only [natNe, wk, indexAddrA, lenA, Nat.reduceAdd, Nat.reduceLeDiff, Nat.reduceEqDiff, if_true, if_false, reduceIte, reduceCtorEq, exists_eq_left', implies_true, forall_const, Int.reduceLT, Int.reduceLE, Int.reduceEq, Int.reduceNeg, bindT, Nat.reduceMul, tis, t0]
        · simp -implicitDefEqProofs (disch := omega) only [natNe, wk, indexAddrA, lenA, Nat.reduceAdd, Nat.reduceLeDiff, Nat.reduceEqDiff, if_true, if_false, reduceIte, reduceCtorEq, exists_eq_left', implies_true, forall_const, Int.reduceLT, Int.reduceLE, Int.reduceEq, Int.reduceNeg, bindT, Nat.reduceMul, tis, t1]
        · simp -implicitDefEqProofs (disch := omega) only [natNe, wk, indexAddrA, lenA, Nat.reduceAdd, Nat.reduceLeDiff, Nat.reduceEqDiff, if_true, if_false, reduceIte, reduceCtorEq, exists_eq_left', implies_true, forall_const, Int.reduceLT, Int.reduceLE, Int.reduceEq, Int.reduceNeg, bindT, Nat.reduceMul, tis, t2]
        · simp -implicitDefEqProofs (disch := omega) only [natNe, wk, indexAddrA, lenA, Nat.reduceAdd, Nat.reduceLeDiff, Nat.reduceEqDiff, if_true, if_false, reduceIte, reduceCtorEq, exists_eq_left', implies_true, forall_const, Int.reduceLT, Int.reduceLE, Int.reduceEq, Int.reduceNeg, bindT, Nat.reduceMul, tis, t3]
        · simp -implicitDefEqProofs (disch := omega) only [natNe, wk, indexAddrA, lenA, Nat.reduceAdd, Nat.reduceLeDiff, Nat.reduceEqDiff, if_true, if_false, reduceIte, reduceCtorEq, exists_eq_left', implies_true, forall_const, Int.reduceLT, Int.reduceLE, Int.reduceEq, Int.reduceNeg, bindT, Nat.reduceMul, tis, wrap_i64]
          rfl
        · intro p q hp hpq hq
          by_cases b1 : q = j
          · subst b1
            by_cases b2 : p = q - 1
            · rw [b2]; exact hkl
            · exact keyLe_trans (hs1 p (q - 1) hp (by omega) (by omega) (by omega) (by omega)) hkl
          · by_cases b2 : p = j
            · subst b2
              exact keyLt_asymm (hs2 q hpq (by omega))
            · exact hs1 p q hp hpq (by omega) b2 b1
    · have b0 : j = a := by omega
      simp -implicitDefEqProofs (disch := omega) only [natNe, wk, indexAddrA, lenA, Nat.reduceAdd, Nat.reduceLeDiff, Nat.reduceEqDiff, if_true, if_false, reduceIte, reduceCtorEq, exists_eq_left', implies_true, forall_const, Int.reduceLT, Int.reduceLE, Int.reduceEq, Int.reduceNeg, bindT, Nat.reduceMul, tis, t0, t1, t2, t3, t8, t9, haj]
      refine ⟨m - 1, by omega, _, _, _, i + 1, L2, rfl, rfl, by omega, ?_, ?_, ?_, ?_, ?_, by omega, by omega, .inl (by omega), ⟨hl2, hkeys, fun p hp => hout p (by omega), ?_⟩⟩
      · simp -implicitDefEqProofs (disch := omega) only [natNe, wk, indexAddrA, lenA, Nat.reduceAdd, Nat.reduceLeDiff, Nat.reduceEqDiff, if_true, if_false, reduceIte, reduceCtorEq, exists_eq_left', implies_true, forall_const, Int.reduceLT, Int.reduceLE, Int.reduceEq, Int.reduceNeg, bindT, Nat.reduceMul, tis, t0]
      · simp -implicitDefEqProofs (disch := omega) only [natNe, wk, indexAddrA, lenA, Nat.reduceAdd, Nat.reduceLeDiff, Nat.reduceEqDiff, if_true, if_false, reduceIte, reduceCtorEq, exists_eq_left', implies_true, forall_const, Int.reduceLT, Int.reduceLE, Int.reduceEq, Int.reduceNeg, bindT, Nat.reduceMul, tis, t1]
      · simp -implicitDefEqProofs (disch := omega) only [natNe, wk, indexAddrA, lenA, Nat.reduceAdd, Nat.reduceLeDiff, Nat.reduceEqDiff, if_true, if_false, reduceIte, reduceCtorEq, exists_eq_left', implies_true, forall_const, Int.reduceLT, Int.reduceLE, Int.reduceEq, Int.reduceNeg, bindT, Nat.reduceMul, tis, t2]
      · simp -implicitDefEqProofs (disch := omega) only [natNe, wk, indexAddrA, lenA, Nat.reduceAdd, Nat.reduceLeDiff, Nat.reduceEqDiff, if_true, if_false, reduceIte, reduceCtorEq, exists_eq_left', implies_true, forall_const, Int.reduceLT, Int.reduceLE, Int.reduceEq, Int.reduceNeg, bindT, Nat.reduceMul, tis, t3]
      · simp -implicitDefEqProofs (disch := omega) only [natNe, wk, indexAddrA, lenA, Nat.reduceAdd, Nat.reduceLeDiff, Nat.reduceEqDiff, if_true, if_false, reduceIte, reduceCtorEq, exists_eq_left', implies_true, forall_const, Int.reduceLT, Int.reduceLE, Int.reduceEq, Int.reduceNeg, bindT, Nat.reduceMul, tis, wrap_i64]
        rfl
      · intro p q hp hpq hq
        by_cases b2 : p = j
        · subst b2
          exact keyLt_asymm (hs2 q hpq (by omega))
        · exact hs1 p q hp hpq (by omega) b2 (by omega)
  · refine .keep (hk L' NX hNX ⟨ok.len, ok.keys, fun p hp => (by rcases hib with h1 | h1; (· exact ok.out p (by omega)); (· rw [h1])), fun p q hp hpq hq => ok.sorted p q hp hpq (by omega)⟩)
end Go.Abs.Try
