/- Contracts: a copy of a row. -/
import Derived.Test.YtlmkmmkhfkdagaaSort2
import Derived.Test.YtlmkmmkhfkdagaaEnv
set_option linter.unusedVariables false
set_option linter.unusedSimpArgs false
set_option maxHeartbeats 4000000
set_option maxRecDepth 8000
namespace Go.Abs.Try
open Go Go.Abs Go.Proofs

theorem flCell_noRef (L : List CellM) : ∀ cs ∈ L.map flCell, ∀ c ∈ cs, c.noRef = true := fun cs hcs c hc => by
  obtain ⟨d, _, rfl⟩ := List.mem_map.1 hcs
  simp [flCell] at hc
  rcases hc with rfl | rfl | rfl | rfl | rfl <;> rfl

theorem cloneLst {h : Heap} {nx : Nat} {K : AV → Heap → Nat → Prop} {L : List CellM} (hlen : L.length ≤ 900000)
    (hk : ∀ v H NX, nx ≤ NX → (∀ k, k < nx → look k H = look k h) → RowsAt 5 (fun a => nx ≤ a ∧ a < NX) H (L.map flCell) v → K v H NX) :
    ACall Try.prog 28 [.lst 5 (L.map flCell)] h nx K := by
  refine ACall.of_body (c := Try.f28.body.getD .skip) mixed Try.func28 rfl (by kernel_rfl) (by rw [Try.ntmps28]; simp) (by kernel_rfl) ?_
  simp -implicitDefEqProofs only [Try.f28, Option.getD_some, Array.toList]
  simp -implicitDefEqProofs (disch := omega) only [natNe, wk, indexAddrA, lenA, Nat.reduceAdd, Nat.reduceLeDiff, Nat.reduceEqDiff, if_true, if_false, reduceIte, reduceCtorEq, exists_eq_left', implies_true, forall_const, Int.reduceLT, Int.reduceLE, Int.reduceEq, Int.reduceNeg, bindT, Nat.reduceMul, tis]
  refine nilX_eq (fun hnil => ?_) ?_
  · simp -implicitDefEqProofs (disch := omega) only [natNe, wk, indexAddrA, lenA, Nat.reduceAdd, Nat.reduceLeDiff, Nat.reduceEqDiff, if_true, if_false, reduceIte, reduceCtorEq, exists_eq_left', implies_true, forall_const, Int.reduceLT, Int.reduceLE, Int.reduceEq, Int.reduceNeg, bindT, Nat.reduceMul, tis]
    exact .keep (hk .emp h nx (Nat.le_refl _) (fun _ _ => rfl) (.inl ⟨hnil, rfl⟩))
  · simp -implicitDefEqProofs (disch := omega) only [natNe, wk, indexAddrA, lenA, Nat.reduceAdd, Nat.reduceLeDiff, Nat.reduceEqDiff, if_true, if_false, reduceIte, reduceCtorEq, exists_eq_left', implies_true, forall_const, Int.reduceLT, Int.reduceLE, Int.reduceEq, Int.reduceNeg, bindT, Nat.reduceMul, tis, List.length_map]
    refine ⟨⟨by omega, by omega⟩, .keep (hk _ _ _ (by omega) (fun k hk => ?_) (.inr ⟨nx, 1, rfl, ⟨Nat.le_refl _, by omega⟩, ?_⟩))⟩
    · simp -implicitDefEqProofs (disch := omega) only [natNe, wk, indexAddrA, lenA, Nat.reduceAdd, Nat.reduceLeDiff, Nat.reduceEqDiff, if_true, if_false, reduceIte, reduceCtorEq, exists_eq_left', implies_true, forall_const, Int.reduceLT, Int.reduceLE, Int.reduceEq, Int.reduceNeg, bindT, Nat.reduceMul, tis]
    · simp -implicitDefEqProofs (disch := omega) only [natNe, wk, indexAddrA, lenA, Nat.reduceAdd, Nat.reduceLeDiff, Nat.reduceEqDiff, if_true, if_false, reduceIte, reduceCtorEq, exists_eq_left', implies_true, forall_const, Int.reduceLT, Int.reduceLE, Int.reduceEq, Int.reduceNeg, bindT, Nat.reduceMul, tis]

theorem cloneOwn {h : Heap} {nx : Nat} {K : AV → Heap → Nat → Prop} {L : List CellM} {v : AV} {A : Nat → Prop} (hv : RowsAt 5 A h (L.map flCell) v) (hA : ∀ k, A k → k < nx) (hlen : L.length ≤ 900000)
    (hk : K (.lst 5 (L.map flCell)) h nx) :
    ACall Try.prog 28 [v] h nx K := by
  refine ACall.of_body (c := Try.f28.body.getD .skip) mixed Try.func28 rfl (by kernel_rfl) (by rw [Try.ntmps28]; simp) (by kernel_rfl) ?_
  simp -implicitDefEqProofs only [Try.f28, Option.getD_some, Array.toList]
  rcases hv with ⟨hnil, rfl⟩ | ⟨a, g, rfl, ha, hl⟩
  · simp -implicitDefEqProofs (disch := omega) only [natNe, wk, indexAddrA, lenA, Nat.reduceAdd, Nat.reduceLeDiff, Nat.reduceEqDiff, if_true, if_false, reduceIte, reduceCtorEq, exists_eq_left', implies_true, forall_const, Int.reduceLT, Int.reduceLE, Int.reduceEq, Int.reduceNeg, bindT, Nat.reduceMul, tis]
    refine nilX_eq (fun hn => ?_) ?_
    · simp -implicitDefEqProofs (disch := omega) only [natNe, wk, indexAddrA, lenA, Nat.reduceAdd, Nat.reduceLeDiff, Nat.reduceEqDiff, if_true, if_false, reduceIte, reduceCtorEq, exists_eq_left', implies_true, forall_const, Int.reduceLT, Int.reduceLE, Int.reduceEq, Int.reduceNeg, bindT, Nat.reduceMul, tis]
      exact .pure _ (fun _ _ => rfl) (.emp 5) (by rw [hnil] at hk; exact hk)
    · simp -implicitDefEqProofs (disch := omega) only [natNe, wk, indexAddrA, lenA, Nat.reduceAdd, Nat.reduceLeDiff, Nat.reduceEqDiff, if_true, if_false, reduceIte, reduceCtorEq, exists_eq_left', implies_true, forall_const, Int.reduceLT, Int.reduceLE, Int.reduceEq, Int.reduceNeg, bindT, Nat.reduceMul, tis]
      refine .pure _ ?_ (.own (sz := 5) (L := []) (Nat.le_refl _) (by simp -implicitDefEqProofs (disch := omega) only [natNe, wk, indexAddrA, lenA, Nat.reduceAdd, Nat.reduceLeDiff, Nat.reduceEqDiff, if_true, if_false, reduceIte, reduceCtorEq, exists_eq_left', implies_true, forall_const, Int.reduceLT, Int.reduceLE, Int.reduceEq, Int.reduceNeg, bindT, Nat.reduceMul, tis]) (by simp) rfl) (by rw [hnil] at hk; exact hk)
      repeat (first | exact over_refl | refine over_hc (by omega) ?_ | refine over_upd (by omega) ?_ | refine over_del (by omega) ?_)
  · simp -implicitDefEqProofs (disch := omega) only [natNe, wk, indexAddrA, lenA, Nat.reduceAdd, Nat.reduceLeDiff, Nat.reduceEqDiff, if_true, if_false, reduceIte, reduceCtorEq, exists_eq_left', implies_true, forall_const, Int.reduceLT, Int.reduceLE, Int.reduceEq, Int.reduceNeg, bindT, Nat.reduceMul, tis, hl]
    refine nilX_eq (fun hn => ?_) ?_
    · simp -implicitDefEqProofs (disch := omega) only [natNe, wk, indexAddrA, lenA, Nat.reduceAdd, Nat.reduceLeDiff, Nat.reduceEqDiff, if_true, if_false, reduceIte, reduceCtorEq, exists_eq_left', implies_true, forall_const, Int.reduceLT, Int.reduceLE, Int.reduceEq, Int.reduceNeg, bindT, Nat.reduceMul, tis]
      exact .pure _ (fun _ _ => rfl) (.emp 5) (by rw [hn] at hk; exact hk)
    · have e := hA a ha
      simp -implicitDefEqProofs (disch := omega) only [natNe, wk, indexAddrA, lenA, Nat.reduceAdd, Nat.reduceLeDiff, Nat.reduceEqDiff, if_true, if_false, reduceIte, reduceCtorEq, exists_eq_left', implies_true, forall_const, Int.reduceLT, Int.reduceLE, Int.reduceEq, Int.reduceNeg, bindT, Nat.reduceMul, tis, hl, List.length_map]
      refine ⟨⟨by omega, by omega⟩, .pure _ ?_ (.own (sz := 5) (Nat.le_refl _) (by simp -implicitDefEqProofs (disch := omega) only [natNe, wk, indexAddrA, lenA, Nat.reduceAdd, Nat.reduceLeDiff, Nat.reduceEqDiff, if_true, if_false, reduceIte, reduceCtorEq, exists_eq_left', implies_true, forall_const, Int.reduceLT, Int.reduceLE, Int.reduceEq, Int.reduceNeg, bindT, Nat.reduceMul, tis]) (flCell_noRef L) rfl) hk⟩
      repeat (first | exact over_refl | refine over_hc (by omega) ?_ | refine over_upd (by omega) ?_ | refine over_del (by omega) ?_)
end Go.Abs.Try
