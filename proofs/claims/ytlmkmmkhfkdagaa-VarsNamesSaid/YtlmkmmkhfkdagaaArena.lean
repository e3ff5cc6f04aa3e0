/- Contracts: the place of an item; the item of a number. -/
import Derived.Test.YtlmkmmkhfkdagaaLibIdx
import Derived.Test.YtlmkmmkhfkdagaaModel
set_option linter.unusedVariables false
set_option linter.unusedSimpArgs false
set_option maxRecDepth 8000
set_option maxHeartbeats 1000000
namespace Go.Abs.Try
open Go Go.Abs Go.Proofs

theorem arenaPlace {h : Heap} {nx : Nat} {K : AV → Heap → Nat → Prop} {s : StM} {id : Int} (hlen : s.items.length ≤ 4611686018427387904)
    (hk : K (.sc (.int .i64 (idxI (s.place id)))) h nx) : ACall Try.prog 56 [.agg (flSt s), .sc (.int .i64 id)] h nx K := by
  refine ACall.of_body (c := Try.f56.body.getD .skip) mixed Try.func56 rfl (by kernel_rfl) (by rw [Try.ntmps56]; simp) (by kernel_rfl) ?_
  simp -implicitDefEqProofs only [Try.f56, Option.getD_some, Array.toList]
  simp -implicitDefEqProofs only [wk, indexAddrA, lenA, Nat.reduceAdd, Nat.reduceLeDiff, Nat.reduceEqDiff, if_true, if_false, reduceIte, reduceCtorEq, exists_eq_left', implies_true, forall_const, Int.reduceLT, Int.reduceLE, Int.reduceEq, Int.reduceNeg, bindT, Nat.reduceMul, tis, flSt]
  refine callX_fn (indexItem (p := fun cs => match cs with | .sc (.int .i64 a) :: _ => decide (a = id) | _ => false) (by simpa using hlen) (fun cs hcs => ?_) (fun cs hcs K' hK' => ?_) ?_)
  · obtain ⟨it, _, rfl⟩ := List.mem_map.1 hcs
    simp [flItem]
  · obtain ⟨it, _, rfl⟩ := List.mem_map.1 hcs
    simp only [flItem, List.take_succ_cons, List.take_zero]
    refine ACallV.of_fn (place1 (id := id) ?_ (by omega) hK')
    simp -implicitDefEqProofs only [wk, indexAddrA, lenA, Nat.reduceAdd, Nat.reduceLeDiff, Nat.reduceEqDiff, if_true, if_false, reduceIte, reduceCtorEq, exists_eq_left', implies_true, forall_const, Int.reduceLT, Int.reduceLE, Int.reduceEq, Int.reduceNeg, bindT, Nat.reduceMul, tis]
  · simp -implicitDefEqProofs only [wk, indexAddrA, lenA, Nat.reduceAdd, Nat.reduceLeDiff, Nat.reduceEqDiff, if_true, if_false, reduceIte, reduceCtorEq, exists_eq_left', implies_true, forall_const, Int.reduceLT, Int.reduceLE, Int.reduceEq, Int.reduceNeg, bindT, Nat.reduceMul, tis]
    refine .pure _ ?_ (.same rfl) ?_
    · repeat (first | exact over_refl | refine over_hc (by omega) ?_ | refine over_upd (by omega) ?_ | refine over_del (by omega) ?_)
    · rw [findIdx_map]
      exact hk

theorem arenaFind {h : Heap} {nx : Nat} {K : AV → Heap → Nat → Prop} {s : StM} {id : Int} (hlen : s.items.length ≤ 4611686018427387904)
    (hk : K (.tup [.agg (flItem ((s.find id).getD zItem)), .sc (.bool (s.find id).isSome)]) h nx) : ACall Try.prog 48 [.agg (flSt s), .sc (.int .i64 id)] h nx K := by
  refine ACall.of_body (c := Try.f48.body.getD .skip) mixed Try.func48 rfl (by kernel_rfl) (by rw [Try.ntmps48]; simp) (by kernel_rfl) ?_
  simp -implicitDefEqProofs only [Try.f48, Option.getD_some, Array.toList]
  simp -implicitDefEqProofs only [wk, indexAddrA, lenA, Nat.reduceAdd, Nat.reduceLeDiff, Nat.reduceEqDiff, if_true, if_false, reduceIte, reduceCtorEq, exists_eq_left', implies_true, forall_const, Int.reduceLT, Int.reduceLE, Int.reduceEq, Int.reduceNeg, bindT, Nat.reduceMul, tis, flSt]
  refine callX_fn (arenaPlace (s := s) hlen ?_)
  cases hp : s.place id with
  | none =>
    rw [StM.find_none hp] at hk
    simp -implicitDefEqProofs only [wk, indexAddrA, lenA, Nat.reduceAdd, Nat.reduceLeDiff, Nat.reduceEqDiff, if_true, if_false, reduceIte, reduceCtorEq, exists_eq_left', implies_true, forall_const, Int.reduceLT, Int.reduceLE, Int.reduceEq, Int.reduceNeg, bindT, Nat.reduceMul, tis, idxI]
    refine .pure _ ?_ ?_ hk
    · repeat (first | exact over_refl | refine over_hc (by omega) ?_ | refine over_upd (by omega) ?_ | refine over_del (by omega) ?_)
    · repeat (first | exact Fz.same rfl | exact FzL.nil _ _ | refine Fz.tup' ?_ | refine Fz.agg' ?_ | refine FzL.cons ?_ ?_)
  | some i =>
    obtain ⟨it, hi, _⟩ := StM.place_lt hp
    rw [StM.find_some hp hi] at hk
    have hi' : (s.items.map flItem)[i]? = some (flItem it) := by simp [hi]
    have hni : ¬ ((i : Int) < 0) := by omega
    simp -implicitDefEqProofs only [wk, indexAddrA, lenA, Nat.reduceAdd, Nat.reduceLeDiff, Nat.reduceEqDiff, if_true, if_false, reduceIte, reduceCtorEq, exists_eq_left', implies_true, forall_const, Int.reduceLT, Int.reduceLE, Int.reduceEq, Int.reduceNeg, bindT, Nat.reduceMul, tis, idxI, hni]
    simp -implicitDefEqProofs only [wk, indexAddrA, lenA, Nat.reduceAdd, Nat.reduceLeDiff, Nat.reduceEqDiff, if_true, if_false, reduceIte, reduceCtorEq, exists_eq_left', implies_true, forall_const, Int.reduceLT, Int.reduceLE, Int.reduceEq, Int.reduceNeg, bindT, Nat.reduceMul, tis, hi', flItem]
    refine .pure _ ?_ ?_ hk
    · repeat (first | exact over_refl | refine over_hc (by omega) ?_ | refine over_upd (by omega) ?_ | refine over_del (by omega) ?_)
    · repeat (first | exact Fz.same rfl | exact FzL.nil _ _ | refine Fz.tup' ?_ | refine Fz.agg' ?_ | refine FzL.cons ?_ ?_)
end Go.Abs.Try
