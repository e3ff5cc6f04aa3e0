/- Contracts: what compares two cells. -/
import Derived.Test.YtlmkmmkhfkdagaaSortM
import Derived.Test.YtlmkmmkhfkdagaaLibIdx
set_option linter.unusedVariables false
set_option linter.unusedSimpArgs false
set_option maxHeartbeats 4000000
set_option maxRecDepth 8000
namespace Go.Abs.Try
open Go Go.Abs Go.Proofs

theorem nanInt {h : Heap} {nx : Nat} {K : AV → Heap → Nat → Prop} {a : Int} (hk : K (.sc (.bool false)) h nx) : ACall Try.prog 44 [.sc (.int .i64 a)] h nx K := by
  refine ACall.of_body (c := Try.f44.body.getD .skip) mixed Try.func44 rfl (by kernel_rfl) (by rw [Try.ntmps44]; simp) (by kernel_rfl) ?_
  simp -implicitDefEqProofs only [Try.f44, Option.getD_some, Array.toList]
  simp -implicitDefEqProofs only [wk, indexAddrA, lenA, Nat.reduceAdd, Nat.reduceLeDiff, Nat.reduceEqDiff, if_true, if_false, reduceIte, reduceCtorEq, exists_eq_left', implies_true, forall_const, Int.reduceLT, Int.reduceLE, Int.reduceEq, Int.reduceNeg, bindT, Nat.reduceMul, tis]
  exact .keep hk

theorem nanStr {h : Heap} {nx : Nat} {K : AV → Heap → Nat → Prop} {a : ByteArray} (hk : K (.sc (.bool false)) h nx) : ACall Try.prog 45 [.sc (.string a)] h nx K := by
  refine ACall.of_body (c := Try.f45.body.getD .skip) mixed Try.func45 rfl (by kernel_rfl) (by rw [Try.ntmps45]; simp) (by kernel_rfl) ?_
  simp -implicitDefEqProofs only [Try.f45, Option.getD_some, Array.toList]
  simp -implicitDefEqProofs only [wk, indexAddrA, lenA, Nat.reduceAdd, Nat.reduceLeDiff, Nat.reduceEqDiff, if_true, if_false, reduceIte, reduceCtorEq, exists_eq_left', implies_true, forall_const, Int.reduceLT, Int.reduceLE, Int.reduceEq, Int.reduceNeg, bindT, Nat.reduceMul, tis]
  exact .keep hk

theorem cmpInt {h : Heap} {nx : Nat} {K : AV → Heap → Nat → Prop} {a b : Int} (hk : K (.sc (.int .i64 (if a < b then -1 else if b < a then 1 else 0))) h nx) : ACall Try.prog 32 [.sc (.int .i64 a), .sc (.int .i64 b)] h nx K := by
  refine ACall.of_body (c := Try.f32.body.getD .skip) mixed Try.func32 rfl (by kernel_rfl) (by rw [Try.ntmps32]; simp) (by kernel_rfl) ?_
  simp -implicitDefEqProofs only [Try.f32, Option.getD_some, Array.toList]
  simp -implicitDefEqProofs only [wk, indexAddrA, lenA, Nat.reduceAdd, Nat.reduceLeDiff, Nat.reduceEqDiff, if_true, if_false, reduceIte, reduceCtorEq, exists_eq_left', implies_true, forall_const, Int.reduceLT, Int.reduceLE, Int.reduceEq, Int.reduceNeg, bindT, Nat.reduceMul, tis]
  refine callX_fn (nanInt ?_)
  simp -implicitDefEqProofs only [wk, indexAddrA, lenA, Nat.reduceAdd, Nat.reduceLeDiff, Nat.reduceEqDiff, if_true, if_false, reduceIte, reduceCtorEq, exists_eq_left', implies_true, forall_const, Int.reduceLT, Int.reduceLE, Int.reduceEq, Int.reduceNeg, bindT, Nat.reduceMul, tis]
  refine callX_fn (nanInt ?_)
  simp -implicitDefEqProofs only [wk, indexAddrA, lenA, Nat.reduceAdd, Nat.reduceLeDiff, Nat.reduceEqDiff, if_true, if_false, reduceIte, reduceCtorEq, exists_eq_left', implies_true, forall_const, Int.reduceLT, Int.reduceLE, Int.reduceEq, Int.reduceNeg, bindT, Nat.reduceMul, tis]
  refine ⟨fun h1 => ?_, fun h1 => ⟨fun h2 => ?_, fun h2 => ?_⟩⟩
  · rw [if_pos h1] at hk; exact .keep hk
  · rw [if_neg h1, if_pos h2] at hk; exact .keep hk
  · rw [if_neg h1, if_neg h2] at hk; exact .keep hk

theorem cmpStr {h : Heap} {nx : Nat} {K : AV → Heap → Nat → Prop} {a b : ByteArray} (hk : K (.sc (.int .i64 (if strLt a b then -1 else if strLt b a then 1 else 0))) h nx) : ACall Try.prog 33 [.sc (.string a), .sc (.string b)] h nx K := by
  refine ACall.of_body (c := Try.f33.body.getD .skip) mixed Try.func33 rfl (by kernel_rfl) (by rw [Try.ntmps33]; simp) (by kernel_rfl) ?_
  simp -implicitDefEqProofs only [Try.f33, Option.getD_some, Array.toList]
  simp -implicitDefEqProofs only [wk, indexAddrA, lenA, Nat.reduceAdd, Nat.reduceLeDiff, Nat.reduceEqDiff, if_true, if_false, reduceIte, reduceCtorEq, exists_eq_left', implies_true, forall_const, Int.reduceLT, Int.reduceLE, Int.reduceEq, Int.reduceNeg, bindT, Nat.reduceMul, tis]
  refine callX_fn (nanStr ?_)
  simp -implicitDefEqProofs only [wk, indexAddrA, lenA, Nat.reduceAdd, Nat.reduceLeDiff, Nat.reduceEqDiff, if_true, if_false, reduceIte, reduceCtorEq, exists_eq_left', implies_true, forall_const, Int.reduceLT, Int.reduceLE, Int.reduceEq, Int.reduceNeg, bindT, Nat.reduceMul, tis]
  refine callX_fn (nanStr ?_)
  simp -implicitDefEqProofs only [wk, indexAddrA, lenA, Nat.reduceAdd, Nat.reduceLeDiff, Nat.reduceEqDiff, if_true, if_false, reduceIte, reduceCtorEq, exists_eq_left', implies_true, forall_const, Int.reduceLT, Int.reduceLE, Int.reduceEq, Int.reduceNeg, bindT, Nat.reduceMul, tis]
  refine ⟨fun h1 => ?_, fun h1 => ⟨fun h2 => ?_, fun h2 => ?_⟩⟩
  · rw [if_pos h1] at hk; exact .keep hk
  · have h3 : strLt b a = true := by
      cases h4 : strLt b a with
      | true => rfl
      | false => have := strLt_total h1 h4; simp [h1, this] at h2
    rw [if_neg (by simp [h1]), if_pos h3] at hk; exact .keep hk
  · have h3 : strLt b a = false := by
      rw [h1, Bool.false_or, decide_eq_true_eq] at h2
      rw [h2]; exact strLt_irrefl b
    rw [if_neg (by simp [h1]), if_neg (by simp [h3])] at hk; exact .keep hk

theorem orInt {h : Heap} {nx : Nat} {K : AV → Heap → Nat → Prop} {a b : Int} (hk : K (.sc (.int .i64 (if a = 0 then b else a))) h nx) : ACall Try.prog 31 [.lst 1 [[.sc (.int .i64 a)], [.sc (.int .i64 b)]]] h nx K := by
  refine ACall.of_body (c := Try.f31.body.getD .skip) mixed Try.func31 rfl (by kernel_rfl) (by rw [Try.ntmps31]; simp) (by kernel_rfl) ?_
  simp -implicitDefEqProofs only [Try.f31, Option.getD_some, Array.toList]
  simp -implicitDefEqProofs only [wk, indexAddrA, lenA, Nat.reduceAdd, Nat.reduceLeDiff, Nat.reduceEqDiff, if_true, if_false, reduceIte, reduceCtorEq, exists_eq_left', implies_true, forall_const, Int.reduceLT, Int.reduceLE, Int.reduceEq, Int.reduceNeg, bindT, Nat.reduceMul, tis]
  refine loopX_ind (fun m σ => ∃ T i, σ = ⟨T, h, nx, []⟩ ∧ look 3 T = some (.sc (.int .i64 0)) ∧ look 6 T = some (.lst 1 [[.sc (.int .i64 a)], [.sc (.int .i64 b)]]) ∧ look 7 T = some (.sc (.int .i64 2)) ∧ look 8 T = some (.sc (.int .i64 (i : Nat))) ∧
      ((i = 0 ∧ m = 2) ∨ (i = 1 ∧ m = 1 ∧ a = 0) ∨ (i = 2 ∧ m = 0 ∧ a = 0 ∧ b = 0))) 2 ⟨_, 0, rfl, rfl, rfl, rfl, rfl, .inl ⟨rfl, rfl⟩⟩ ?_
  rintro m σ' ⟨T, i, rfl, t3, t6, t7, t8, hi⟩
  rcases hi with ⟨rfl, rfl⟩ | ⟨rfl, rfl, h1⟩ | ⟨rfl, rfl, h1, h2⟩
  · simp -implicitDefEqProofs (disch := omega) only [natNe, wk, indexAddrA, lenA, Nat.reduceAdd, Nat.reduceLeDiff, Nat.reduceEqDiff, if_true, if_false, reduceIte, reduceCtorEq, exists_eq_left', implies_true, forall_const, Int.reduceLT, Int.reduceLE, Int.reduceEq, Int.reduceNeg, bindT, Nat.reduceMul, tis, t3, t6, t7, t8, Int.cast_ofNat_Int, Int.reduceAdd, Int.reduceToNat]
    refine ⟨fun h1 => ?_, fun h1 => ?_⟩
    · rw [if_neg h1] at hk
      exact .keep hk
    · refine ⟨1, by omega, _, 1, rfl, ?_, ?_, ?_, ?_, .inr (.inl ⟨rfl, rfl, h1⟩)⟩
      · simp -implicitDefEqProofs (disch := omega) only [natNe, wk, indexAddrA, lenA, Nat.reduceAdd, Nat.reduceLeDiff, Nat.reduceEqDiff, if_true, if_false, reduceIte, reduceCtorEq, exists_eq_left', implies_true, forall_const, Int.reduceLT, Int.reduceLE, Int.reduceEq, Int.reduceNeg, bindT, Nat.reduceMul, tis, t3]
      · simp -implicitDefEqProofs (disch := omega) only [natNe, wk, indexAddrA, lenA, Nat.reduceAdd, Nat.reduceLeDiff, Nat.reduceEqDiff, if_true, if_false, reduceIte, reduceCtorEq, exists_eq_left', implies_true, forall_const, Int.reduceLT, Int.reduceLE, Int.reduceEq, Int.reduceNeg, bindT, Nat.reduceMul, tis, t6]
      · simp -implicitDefEqProofs (disch := omega) only [natNe, wk, indexAddrA, lenA, Nat.reduceAdd, Nat.reduceLeDiff, Nat.reduceEqDiff, if_true, if_false, reduceIte, reduceCtorEq, exists_eq_left', implies_true, forall_const, Int.reduceLT, Int.reduceLE, Int.reduceEq, Int.reduceNeg, bindT, Nat.reduceMul, tis, t7]
      · simp -implicitDefEqProofs (disch := omega) only [natNe, wk, indexAddrA, lenA, Nat.reduceAdd, Nat.reduceLeDiff, Nat.reduceEqDiff, if_true, if_false, reduceIte, reduceCtorEq, exists_eq_left', implies_true, forall_const, Int.reduceLT, Int.reduceLE, Int.reduceEq, Int.reduceNeg, bindT, Nat.reduceMul, tis, wrap_i64]
        rfl
  · simp -implicitDefEqProofs (disch := omega) only [natNe, wk, indexAddrA, lenA, Nat.reduceAdd, Nat.reduceLeDiff, Nat.reduceEqDiff, if_true, if_false, reduceIte, reduceCtorEq, exists_eq_left', implies_true, forall_const, Int.reduceLT, Int.reduceLE, Int.reduceEq, Int.reduceNeg, bindT, Nat.reduceMul, tis, t3, t6, t7, t8, Int.cast_ofNat_Int, Int.reduceAdd, Int.reduceToNat]
    refine ⟨fun h2 => ?_, fun h2 => ?_⟩
    · rw [if_pos h1] at hk
      exact .keep hk
    · refine ⟨0, by omega, _, 2, rfl, ?_, ?_, ?_, ?_, .inr (.inr ⟨rfl, rfl, h1, h2⟩)⟩
      · simp -implicitDefEqProofs (disch := omega) only [natNe, wk, indexAddrA, lenA, Nat.reduceAdd, Nat.reduceLeDiff, Nat.reduceEqDiff, if_true, if_false, reduceIte, reduceCtorEq, exists_eq_left', implies_true, forall_const, Int.reduceLT, Int.reduceLE, Int.reduceEq, Int.reduceNeg, bindT, Nat.reduceMul, tis, t3]
      · simp -implicitDefEqProofs (disch := omega) only [natNe, wk, indexAddrA, lenA, Nat.reduceAdd, Nat.reduceLeDiff, Nat.reduceEqDiff, if_true, if_false, reduceIte, reduceCtorEq, exists_eq_left', implies_true, forall_const, Int.reduceLT, Int.reduceLE, Int.reduceEq, Int.reduceNeg, bindT, Nat.reduceMul, tis, t6]
      · simp -implicitDefEqProofs (disch := omega) only [natNe, wk, indexAddrA, lenA, Nat.reduceAdd, Nat.reduceLeDiff, Nat.reduceEqDiff, if_true, if_false, reduceIte, reduceCtorEq, exists_eq_left', implies_true, forall_const, Int.reduceLT, Int.reduceLE, Int.reduceEq, Int.reduceNeg, bindT, Nat.reduceMul, tis, t7]
      · simp -implicitDefEqProofs (disch := omega) only [natNe, wk, indexAddrA, lenA, Nat.reduceAdd, Nat.reduceLeDiff, Nat.reduceEqDiff, if_true, if_false, reduceIte, reduceCtorEq, exists_eq_left', implies_true, forall_const, Int.reduceLT, Int.reduceLE, Int.reduceEq, Int.reduceNeg, bindT, Nat.reduceMul, tis, wrap_i64]
        rfl
  · simp -implicitDefEqProofs (disch := omega) only [natNe, wk, indexAddrA, lenA, Nat.reduceAdd, Nat.reduceLeDiff, Nat.reduceEqDiff, if_true, if_false, reduceIte, reduceCtorEq, exists_eq_left', implies_true, forall_const, Int.reduceLT, Int.reduceLE, Int.reduceEq, Int.reduceNeg, bindT, Nat.reduceMul, tis, t3, t6, t7, t8, Int.cast_ofNat_Int, Int.reduceAdd, Int.reduceToNat]
    rw [if_pos h1, h2] at hk
    exact .keep hk

theorem cmpCell {h : Heap} {nx : Nat} {K : AV → Heap → Nat → Prop} {a b : CellM} (hk : K (.sc (.int .i64 (cmpM a b))) h nx) : ACall Try.prog 30 [.agg (flCell a), .agg (flCell b)] h nx K := by
  refine ACall.of_body (c := Try.f30.body.getD .skip) mixed Try.func30 rfl (by kernel_rfl) (by rw [Try.ntmps30]; simp) (by kernel_rfl) ?_
  simp -implicitDefEqProofs only [Try.f30, Option.getD_some, Array.toList]
  simp -implicitDefEqProofs (disch := omega) only [natNe, wk, indexAddrA, lenA, Nat.reduceAdd, Nat.reduceLeDiff, Nat.reduceEqDiff, if_true, if_false, reduceIte, reduceCtorEq, exists_eq_left', implies_true, forall_const, Int.reduceLT, Int.reduceLE, Int.reduceEq, Int.reduceNeg, bindT, Nat.reduceMul, tis, flCell]
  refine draw0 (by kernel_rfl) ?_
  simp -implicitDefEqProofs (disch := omega) only [natNe, wk, indexAddrA, lenA, Nat.reduceAdd, Nat.reduceLeDiff, Nat.reduceEqDiff, if_true, if_false, reduceIte, reduceCtorEq, exists_eq_left', implies_true, forall_const, Int.reduceLT, Int.reduceLE, Int.reduceEq, Int.reduceNeg, bindT, Nat.reduceMul, tis, flCell]
  refine callD_fn (.sc (.int .i64 _)) (.noRef rfl) (fun h nx K hk => cmpInt hk) ?_
  simp -implicitDefEqProofs (disch := omega) only [natNe, wk, indexAddrA, lenA, Nat.reduceAdd, Nat.reduceLeDiff, Nat.reduceEqDiff, if_true, if_false, reduceIte, reduceCtorEq, exists_eq_left', implies_true, forall_const, Int.reduceLT, Int.reduceLE, Int.reduceEq, Int.reduceNeg, bindT, Nat.reduceMul, tis, flCell]
  refine callD_fn (.sc (.int .i64 _)) (.noRef rfl) (fun h nx K hk => cmpStr hk) ?_
  simp -implicitDefEqProofs (disch := omega) only [natNe, wk, indexAddrA, lenA, Nat.reduceAdd, Nat.reduceLeDiff, Nat.reduceEqDiff, if_true, if_false, reduceIte, reduceCtorEq, exists_eq_left', implies_true, forall_const, Int.reduceLT, Int.reduceLE, Int.reduceEq, Int.reduceNeg, bindT, Nat.reduceMul, tis, flCell]
  refine callD_lend (.int .i64 (if (if a.scope < b.scope then -1 else if b.scope < a.scope then 1 else 0 : Int) = 0 then (if strLt a.name b.name then -1 else if strLt b.name a.name then 1 else 0) else (if a.scope < b.scope then -1 else if b.scope < a.scope then 1 else 0)))
    (sz := 1) (L := [[.sc (.int .i64 (if a.scope < b.scope then -1 else if b.scope < a.scope then 1 else 0))], [.sc (.int .i64 (if strLt a.name b.name then -1 else if strLt b.name a.name then 1 else 0))]]) ?_ (by simp [AV.noRef]) (fun h nx K hk => orInt hk) ?_
  · simp -implicitDefEqProofs (disch := omega) only [natNe, wk, indexAddrA, lenA, Nat.reduceAdd, Nat.reduceLeDiff, Nat.reduceEqDiff, if_true, if_false, reduceIte, reduceCtorEq, exists_eq_left', implies_true, forall_const, Int.reduceLT, Int.reduceLE, Int.reduceEq, Int.reduceNeg, bindT, Nat.reduceMul, tis]
  simp -implicitDefEqProofs (disch := omega) only [natNe, wk, indexAddrA, lenA, Nat.reduceAdd, Nat.reduceLeDiff, Nat.reduceEqDiff, if_true, if_false, reduceIte, reduceCtorEq, exists_eq_left', implies_true, forall_const, Int.reduceLT, Int.reduceLE, Int.reduceEq, Int.reduceNeg, bindT, Nat.reduceMul, tis]
  have e : (if (if a.scope < b.scope then -1 else if b.scope < a.scope then 1 else 0 : Int) = 0 then (if strLt a.name b.name then -1 else if strLt b.name a.name then 1 else 0) else (if a.scope < b.scope then -1 else if b.scope < a.scope then 1 else 0)) = cmpM a b := by
    unfold cmpM
    by_cases h1 : a.scope < b.scope
    · simp [h1]
    · by_cases h2 : b.scope < a.scope
      · simp [h1, h2]
      · simp [h1, h2]
  refine .pure _ ?_ (.same rfl) (e ▸ hk)
  repeat (first | exact over_refl | refine over_hc (by omega) ?_ | refine over_upd (by omega) ?_ | refine over_del (by omega) ?_)
end Go.Abs.Try
