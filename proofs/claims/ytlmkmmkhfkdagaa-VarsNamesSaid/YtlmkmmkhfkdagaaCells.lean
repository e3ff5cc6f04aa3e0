/- Contracts: the cells of a scope. -/
import Derived.Test.YtlmkmmkhfkdagaaLawBits
set_option linter.unusedVariables false
set_option linter.unusedSimpArgs false
set_option maxHeartbeats 4000000
set_option maxRecDepth 8000
namespace Go.Abs.Try
open Go Go.Abs Go.Proofs

theorem vcells {h : Heap} {nx : Nat} {K : AV → Heap → Nat → Prop} {s : StM} {scope : Int} (hcl : s.cells.length ≤ 900000)
    (hk : K (.lst 5 ((s.own scope).map flCell)) h nx) : ACall Try.prog 19 [.agg (flSt s), .sc (.int .i64 scope)] h nx K := by
  refine ACall.of_body (c := Try.f19.body.getD .skip) mixed Try.func19 rfl (by kernel_rfl) (by rw [Try.ntmps19]; simp) (by kernel_rfl) ?_
  simp -implicitDefEqProofs only [Try.f19, Option.getD_some, Array.toList]
  simp -implicitDefEqProofs only [wk, indexAddrA, lenA, Nat.reduceAdd, Nat.reduceLeDiff, Nat.reduceEqDiff, if_true, if_false, reduceIte, reduceCtorEq, exists_eq_left', implies_true, forall_const, Int.reduceLT, Int.reduceLE, Int.reduceEq, Int.reduceNeg, bindT, Nat.reduceMul, tis, flSt, List.length_map]
  refine loopX_ind (fun m σ => ∃ T H NX i v, σ = ⟨T, H, NX, []⟩ ∧ nx < NX ∧ (∀ k, k < nx → look k H = look k h) ∧ look 1 T = some (.sc (.int .i64 scope)) ∧ look 5 T = some v ∧ look 9 T = some (.lst 5 (s.cells.map flCell)) ∧
      look 10 T = some (.sc (.int .i64 s.cells.length)) ∧ look 11 T = some (.sc (.int .i64 (i : Nat))) ∧ m + i = s.cells.length ∧
      (((s.cells.take i).filter (fun c => decide (c.scope = scope)) = [] ∧ v = .emp) ∨ (∃ a g, v = .own a g 0 ∧ nx < a ∧ a < NX ∧ look a H = some (.arr g 5 (((s.cells.take i).filter (fun c => decide (c.scope = scope))).map flCell)))))
    s.cells.length ⟨_, _, _, 0, .emp, rfl, by omega, ?_, rfl, rfl, rfl, rfl, rfl, rfl, .inl ⟨rfl, rfl⟩⟩ ?_
  · repeat (first | exact over_refl | refine over_hc (by omega) ?_ | refine over_upd (by omega) ?_ | refine over_del (by omega) ?_)
  rintro m σ' ⟨T, H, NX, i, v, rfl, hnx, hov, t1, t5, t9, t10, t11, hm, hv⟩
  simp -implicitDefEqProofs only [wk, indexAddrA, lenA, Nat.reduceAdd, Nat.reduceLeDiff, Nat.reduceEqDiff, if_true, if_false, reduceIte, reduceCtorEq, exists_eq_left', implies_true, forall_const, Int.reduceLT, Int.reduceLE, Int.reduceEq, Int.reduceNeg, bindT, Nat.reduceMul, tis, t1, t5, t9, t10, t11]
  refine ⟨fun hi => ?_, fun hi => ?_⟩
  · obtain ⟨c, hc⟩ : ∃ c, s.cells[i]? = some c := ⟨s.cells[i], List.getElem?_eq_getElem hi⟩
    have hc' : (s.cells.map flCell)[i]? = some (flCell c) := by simp [hc]
    have htk : s.cells.take (i + 1) = s.cells.take i ++ [c] := by rw [List.take_add_one, hc]; rfl
    simp -implicitDefEqProofs (disch := omega) only [natNe, wk, indexAddrA, lenA, Nat.reduceAdd, Nat.reduceLeDiff, Nat.reduceEqDiff, if_true, if_false, reduceIte, reduceCtorEq, exists_eq_left', implies_true, forall_const, Int.reduceLT, Int.reduceLE, Int.reduceEq, Int.reduceNeg, bindT, Nat.reduceMul, tis, hc', flCell, t1, t5, t9, t10, t11]
    have hcnt : ((s.cells.take i).filter (fun c => decide (c.scope = scope))).length ≤ 900000 := by
      have h1 := List.length_filter_le (fun c : CellM => decide (c.scope = scope)) (s.cells.take i)
      have h2 := List.length_take_le i s.cells
      have h3 : (s.cells.take i).length ≤ s.cells.length := by rw [List.length_take]; omega
      omega
    refine ⟨fun hs => ?_, fun hs => ?_⟩
    · have hfl : (s.cells.take (i + 1)).filter (fun c => decide (c.scope = scope)) = (s.cells.take i).filter (fun c => decide (c.scope = scope)) ++ [c] := by
        rw [htk, List.filter_append]; simp [hs]
      rcases hv with ⟨hnil, rfl⟩ | ⟨a, g, rfl, ha1, ha2, ha3⟩
      · simp -implicitDefEqProofs (disch := omega) only [natNe, wk, indexAddrA, lenA, Nat.reduceAdd, Nat.reduceLeDiff, Nat.reduceEqDiff, if_true, if_false, reduceIte, reduceCtorEq, exists_eq_left', implies_true, forall_const, Int.reduceLT, Int.reduceLE, Int.reduceEq, Int.reduceNeg, bindT, Nat.reduceMul, tis, hc', flCell, t1, t5, t9, t10, t11]
        refine ⟨m - 1, by omega, _, _, _, i + 1, .own (NX + 2) 0 0, rfl, by omega, ?_, ?_, ?_, ?_, ?_, ?_, by omega, .inr ⟨NX + 2, 0, rfl, by omega, by omega, ?_⟩⟩
        · intro k hk
          have := hov k hk
          simp -implicitDefEqProofs (disch := omega) only [natNe, wk, indexAddrA, lenA, Nat.reduceAdd, Nat.reduceLeDiff, Nat.reduceEqDiff, if_true, if_false, reduceIte, reduceCtorEq, exists_eq_left', implies_true, forall_const, Int.reduceLT, Int.reduceLE, Int.reduceEq, Int.reduceNeg, bindT, Nat.reduceMul, tis, this]
        · simp -implicitDefEqProofs (disch := omega) only [natNe, wk, indexAddrA, lenA, Nat.reduceAdd, Nat.reduceLeDiff, Nat.reduceEqDiff, if_true, if_false, reduceIte, reduceCtorEq, exists_eq_left', implies_true, forall_const, Int.reduceLT, Int.reduceLE, Int.reduceEq, Int.reduceNeg, bindT, Nat.reduceMul, tis, t1]
        · simp -implicitDefEqProofs (disch := omega) only [natNe, wk, indexAddrA, lenA, Nat.reduceAdd, Nat.reduceLeDiff, Nat.reduceEqDiff, if_true, if_false, reduceIte, reduceCtorEq, exists_eq_left', implies_true, forall_const, Int.reduceLT, Int.reduceLE, Int.reduceEq, Int.reduceNeg, bindT, Nat.reduceMul, tis]
        · simp -implicitDefEqProofs (disch := omega) only [natNe, wk, indexAddrA, lenA, Nat.reduceAdd, Nat.reduceLeDiff, Nat.reduceEqDiff, if_true, if_false, reduceIte, reduceCtorEq, exists_eq_left', implies_true, forall_const, Int.reduceLT, Int.reduceLE, Int.reduceEq, Int.reduceNeg, bindT, Nat.reduceMul, tis, t9, flCell]
        · simp -implicitDefEqProofs (disch := omega) only [natNe, wk, indexAddrA, lenA, Nat.reduceAdd, Nat.reduceLeDiff, Nat.reduceEqDiff, if_true, if_false, reduceIte, reduceCtorEq, exists_eq_left', implies_true, forall_const, Int.reduceLT, Int.reduceLE, Int.reduceEq, Int.reduceNeg, bindT, Nat.reduceMul, tis, t10]
        · simp -implicitDefEqProofs (disch := omega) only [natNe, wk, indexAddrA, lenA, Nat.reduceAdd, Nat.reduceLeDiff, Nat.reduceEqDiff, if_true, if_false, reduceIte, reduceCtorEq, exists_eq_left', implies_true, forall_const, Int.reduceLT, Int.reduceLE, Int.reduceEq, Int.reduceNeg, bindT, Nat.reduceMul, tis]
          rw [wrap_i64 (by omega) (by omega)]
          rfl
        · rw [hfl, hnil]
          simp -implicitDefEqProofs (disch := omega) only [natNe, wk, indexAddrA, lenA, Nat.reduceAdd, Nat.reduceLeDiff, Nat.reduceEqDiff, if_true, if_false, reduceIte, reduceCtorEq, exists_eq_left', implies_true, forall_const, Int.reduceLT, Int.reduceLE, Int.reduceEq, Int.reduceNeg, bindT, Nat.reduceMul, tis, flCell]
      · simp -implicitDefEqProofs (disch := omega) only [natNe, wk, indexAddrA, lenA, Nat.reduceAdd, Nat.reduceLeDiff, Nat.reduceEqDiff, if_true, if_false, reduceIte, reduceCtorEq, exists_eq_left', implies_true, forall_const, Int.reduceLT, Int.reduceLE, Int.reduceEq, Int.reduceNeg, bindT, Nat.reduceMul, tis, hc', flCell, t1, t5, t9, t10, t11, ha3]
        refine ⟨⟨by simp only [List.length_map]; omega, by simp only [List.length_map]; omega⟩, m - 1, by omega, _, _, _, i + 1, .own a (g + 1) 0, rfl, by omega, ?_, ?_, ?_, ?_, ?_, ?_, by omega, .inr ⟨a, g + 1, rfl, by omega, by omega, ?_⟩⟩
        · intro k hk
          have := hov k hk
          simp -implicitDefEqProofs (disch := omega) only [natNe, wk, indexAddrA, lenA, Nat.reduceAdd, Nat.reduceLeDiff, Nat.reduceEqDiff, if_true, if_false, reduceIte, reduceCtorEq, exists_eq_left', implies_true, forall_const, Int.reduceLT, Int.reduceLE, Int.reduceEq, Int.reduceNeg, bindT, Nat.reduceMul, tis, this]
        · simp -implicitDefEqProofs (disch := omega) only [natNe, wk, indexAddrA, lenA, Nat.reduceAdd, Nat.reduceLeDiff, Nat.reduceEqDiff, if_true, if_false, reduceIte, reduceCtorEq, exists_eq_left', implies_true, forall_const, Int.reduceLT, Int.reduceLE, Int.reduceEq, Int.reduceNeg, bindT, Nat.reduceMul, tis, t1]
        · simp -implicitDefEqProofs (disch := omega) only [natNe, wk, indexAddrA, lenA, Nat.reduceAdd, Nat.reduceLeDiff, Nat.reduceEqDiff, if_true, if_false, reduceIte, reduceCtorEq, exists_eq_left', implies_true, forall_const, Int.reduceLT, Int.reduceLE, Int.reduceEq, Int.reduceNeg, bindT, Nat.reduceMul, tis]
        · simp -implicitDefEqProofs (disch := omega) only [natNe, wk, indexAddrA, lenA, Nat.reduceAdd, Nat.reduceLeDiff, Nat.reduceEqDiff, if_true, if_false, reduceIte, reduceCtorEq, exists_eq_left', implies_true, forall_const, Int.reduceLT, Int.reduceLE, Int.reduceEq, Int.reduceNeg, bindT, Nat.reduceMul, tis, t9, flCell]
        · simp -implicitDefEqProofs (disch := omega) only [natNe, wk, indexAddrA, lenA, Nat.reduceAdd, Nat.reduceLeDiff, Nat.reduceEqDiff, if_true, if_false, reduceIte, reduceCtorEq, exists_eq_left', implies_true, forall_const, Int.reduceLT, Int.reduceLE, Int.reduceEq, Int.reduceNeg, bindT, Nat.reduceMul, tis, t10]
        · simp -implicitDefEqProofs (disch := omega) only [natNe, wk, indexAddrA, lenA, Nat.reduceAdd, Nat.reduceLeDiff, Nat.reduceEqDiff, if_true, if_false, reduceIte, reduceCtorEq, exists_eq_left', implies_true, forall_const, Int.reduceLT, Int.reduceLE, Int.reduceEq, Int.reduceNeg, bindT, Nat.reduceMul, tis]
          rw [wrap_i64 (by omega) (by omega)]
          rfl
        · rw [hfl, List.map_append]
          simp -implicitDefEqProofs (disch := omega) only [natNe, wk, indexAddrA, lenA, Nat.reduceAdd, Nat.reduceLeDiff, Nat.reduceEqDiff, if_true, if_false, reduceIte, reduceCtorEq, exists_eq_left', implies_true, forall_const, Int.reduceLT, Int.reduceLE, Int.reduceEq, Int.reduceNeg, bindT, Nat.reduceMul, tis, ha3, flCell]
    · have hfl : (s.cells.take (i + 1)).filter (fun c => decide (c.scope = scope)) = (s.cells.take i).filter (fun c => decide (c.scope = scope)) := by
        rw [htk, List.filter_append]; simp [hs]
      refine ⟨m - 1, by omega, _, _, _, i + 1, v, rfl, by omega, ?_, ?_, ?_, ?_, ?_, ?_, by omega, ?_⟩
      · intro k hk
        have := hov k hk
        simp -implicitDefEqProofs (disch := omega) only [natNe, wk, indexAddrA, lenA, Nat.reduceAdd, Nat.reduceLeDiff, Nat.reduceEqDiff, if_true, if_false, reduceIte, reduceCtorEq, exists_eq_left', implies_true, forall_const, Int.reduceLT, Int.reduceLE, Int.reduceEq, Int.reduceNeg, bindT, Nat.reduceMul, tis, this]
      · simp -implicitDefEqProofs (disch := omega) only [natNe, wk, indexAddrA, lenA, Nat.reduceAdd, Nat.reduceLeDiff, Nat.reduceEqDiff, if_true, if_false, reduceIte, reduceCtorEq, exists_eq_left', implies_true, forall_const, Int.reduceLT, Int.reduceLE, Int.reduceEq, Int.reduceNeg, bindT, Nat.reduceMul, tis, t1]
      · simp -implicitDefEqProofs (disch := omega) only [natNe, wk, indexAddrA, lenA, Nat.reduceAdd, Nat.reduceLeDiff, Nat.reduceEqDiff, if_true, if_false, reduceIte, reduceCtorEq, exists_eq_left', implies_true, forall_const, Int.reduceLT, Int.reduceLE, Int.reduceEq, Int.reduceNeg, bindT, Nat.reduceMul, tis, t5]
      · simp -implicitDefEqProofs (disch := omega) only [natNe, wk, indexAddrA, lenA, Nat.reduceAdd, Nat.reduceLeDiff, Nat.reduceEqDiff, if_true, if_false, reduceIte, reduceCtorEq, exists_eq_left', implies_true, forall_const, Int.reduceLT, Int.reduceLE, Int.reduceEq, Int.reduceNeg, bindT, Nat.reduceMul, tis, t9, flCell]
      · simp -implicitDefEqProofs (disch := omega) only [natNe, wk, indexAddrA, lenA, Nat.reduceAdd, Nat.reduceLeDiff, Nat.reduceEqDiff, if_true, if_false, reduceIte, reduceCtorEq, exists_eq_left', implies_true, forall_const, Int.reduceLT, Int.reduceLE, Int.reduceEq, Int.reduceNeg, bindT, Nat.reduceMul, tis, t10]
      · simp -implicitDefEqProofs (disch := omega) only [natNe, wk, indexAddrA, lenA, Nat.reduceAdd, Nat.reduceLeDiff, Nat.reduceEqDiff, if_true, if_false, reduceIte, reduceCtorEq, exists_eq_left', implies_true, forall_const, Int.reduceLT, Int.reduceLE, Int.reduceEq, Int.reduceNeg, bindT, Nat.reduceMul, tis]
        rw [wrap_i64 (by omega) (by omega)]
        rfl
      · rw [hfl]
        rcases hv with hv | ⟨a, g, e, ha1, ha2, ha3⟩
        · exact .inl hv
        · refine .inr ⟨a, g, e, ha1, by omega, ?_⟩
          simp -implicitDefEqProofs (disch := omega) only [natNe, wk, indexAddrA, lenA, Nat.reduceAdd, Nat.reduceLeDiff, Nat.reduceEqDiff, if_true, if_false, reduceIte, reduceCtorEq, exists_eq_left', implies_true, forall_const, Int.reduceLT, Int.reduceLE, Int.reduceEq, Int.reduceNeg, bindT, Nat.reduceMul, tis, ha3]
  · have hall : s.cells.take i = s.cells := List.take_of_length_le (by omega)
    rcases hv with ⟨hnil, rfl⟩ | ⟨a, g, rfl, ha1, ha2, ha3⟩
    · refine .pure _ hov (.emp 5) ?_
      rw [hall] at hnil
      unfold StM.own at hk
      rw [hnil] at hk
      exact hk
    · rw [hall] at ha3
      refine .pure _ hov (.own (by omega) ha3 (fun cs hcs c hc => ?_) rfl) hk
      obtain ⟨d, _, rfl⟩ := List.mem_map.1 hcs
      simp [flCell] at hc
      rcases hc with rfl | rfl | rfl | rfl | rfl <;> rfl
end Go.Abs.Try
