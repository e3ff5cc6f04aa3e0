/- Contracts: what is seen; the cells of a scope; equal lists of numbers. -/
import Derived.Test.YtlmkmmkhfkdagaaPlace
set_option linter.unusedVariables false
set_option linter.unusedSimpArgs false
set_option maxHeartbeats 4000000
set_option maxRecDepth 8000
namespace Go.Abs.Try
open Go Go.Abs Go.Proofs

theorem vseen {h : Heap} {nx : Nat} {K : AV → Heap → Nat → Prop} {s : StM} {scope : Int} {name : ByteArray} (hlen : s.items.length ≤ 900000) (hcl : s.cells.length ≤ 900000)
    (hk : K (.tup [.agg (flCell ((s.seen scope name).getD zCell)), .sc (.bool (s.seen scope name).isSome)]) h nx) : ACall Try.prog 13 [.agg (flSt s), .sc (.int .i64 scope), .sc (.string name)] h nx K := by
  refine ACall.of_body (c := Try.f13.body.getD .skip) mixed Try.func13 rfl (by kernel_rfl) (by rw [Try.ntmps13]; simp) (by kernel_rfl) ?_
  simp -implicitDefEqProofs only [Try.f13, Option.getD_some, Array.toList]
  simp -implicitDefEqProofs only [wk, indexAddrA, lenA, Nat.reduceAdd, Nat.reduceLeDiff, Nat.reduceEqDiff, if_true, if_false, reduceIte, reduceCtorEq, exists_eq_left', implies_true, forall_const, Int.reduceLT, Int.reduceLE, Int.reduceEq, Int.reduceNeg, bindT, Nat.reduceMul, tis, flSt]
  refine callX_fn (vplace (s := s) hlen hcl ?_)
  unfold StM.seen at hk
  cases hp : s.spot scope name with
  | none =>
    rw [hp] at hk
    simp -implicitDefEqProofs only [wk, indexAddrA, lenA, Nat.reduceAdd, Nat.reduceLeDiff, Nat.reduceEqDiff, if_true, if_false, reduceIte, reduceCtorEq, exists_eq_left', implies_true, forall_const, Int.reduceLT, Int.reduceLE, Int.reduceEq, Int.reduceNeg, bindT, Nat.reduceMul, tis, idxI]
    refine .pure _ ?_ ?_ hk
    · repeat (first | exact over_refl | refine over_hc (by omega) ?_ | refine over_upd (by omega) ?_ | refine over_del (by omega) ?_)
    · repeat (first | exact Fz.same rfl | exact FzL.nil _ _ | refine Fz.tup' ?_ | refine Fz.agg' ?_ | refine FzL.cons ?_ ?_)
  | some i =>
    obtain ⟨c, hc⟩ := StM.spot_lt hp
    rw [hp] at hk
    simp only [Option.bind_some, hc] at hk
    have hi' : (s.cells.map flCell)[i]? = some (flCell c) := by simp [hc]
    have hni : ¬ ((i : Int) < 0) := by omega
    simp -implicitDefEqProofs only [wk, indexAddrA, lenA, Nat.reduceAdd, Nat.reduceLeDiff, Nat.reduceEqDiff, if_true, if_false, reduceIte, reduceCtorEq, exists_eq_left', implies_true, forall_const, Int.reduceLT, Int.reduceLE, Int.reduceEq, Int.reduceNeg, bindT, Nat.reduceMul, tis, idxI, hni]
    simp -implicitDefEqProofs only [wk, indexAddrA, lenA, Nat.reduceAdd, Nat.reduceLeDiff, Nat.reduceEqDiff, if_true, if_false, reduceIte, reduceCtorEq, exists_eq_left', implies_true, forall_const, Int.reduceLT, Int.reduceLE, Int.reduceEq, Int.reduceNeg, bindT, Nat.reduceMul, tis, hi', flCell]
    refine .pure _ ?_ ?_ hk
    · repeat (first | exact over_refl | refine over_hc (by omega) ?_ | refine over_upd (by omega) ?_ | refine over_del (by omega) ?_)
    · repeat (first | exact Fz.same rfl | exact FzL.nil _ _ | refine Fz.tup' ?_ | refine Fz.agg' ?_ | refine FzL.cons ?_ ?_)

/-- The same rows? -/
theorem ints {h : Heap} {nx : Nat} {K : AV → Heap → Nat → Prop} {a b : List Int} (ha : a.length ≤ 4000000) (hb : b.length ≤ 4000000) (hk : K (.sc (.bool (decide (a = b)))) h nx) :
    ACall Try.prog 15 [.lst 1 (a.map fun k => [.sc (.int .i64 k)]), .lst 1 (b.map fun k => [.sc (.int .i64 k)])] h nx K := by
  refine ACall.of_body (c := Try.f15.body.getD .skip) mixed Try.func15 rfl (by kernel_rfl) (by rw [Try.ntmps15]; simp) (by kernel_rfl) ?_
  simp -implicitDefEqProofs only [Try.f15, Option.getD_some, Array.toList]
  simp -implicitDefEqProofs only [wk, indexAddrA, lenA, Nat.reduceAdd, Nat.reduceLeDiff, Nat.reduceEqDiff, if_true, if_false, reduceIte, reduceCtorEq, exists_eq_left', implies_true, forall_const, Int.reduceLT, Int.reduceLE, Int.reduceEq, Int.reduceNeg, bindT, Nat.reduceMul, tis, List.length_map, Int.natCast_inj]
  refine ⟨fun hne => ?_, fun heq => ?_⟩
  · have : a ≠ b := fun e => by simp [e] at hne
    rw [decide_eq_false this] at hk
    exact .keep hk
  · have hlen : a.length = b.length := by simpa using heq
    refine loopX_ind (fun m σ => ∃ T NX i, σ = ⟨T, h, NX, []⟩ ∧ nx ≤ NX ∧ look 0 T = some (.lst 1 (a.map fun k => [.sc (.int .i64 k)])) ∧ look 1 T = some (.lst 1 (b.map fun k => [.sc (.int .i64 k)])) ∧ look 5 T = some (.sc (.int .i64 (i : Nat))) ∧ m + i = a.length ∧
      a.take i = b.take i) a.length ⟨_, nx, 0, rfl, Nat.le_refl _, rfl, rfl, rfl, rfl, rfl⟩ ?_
    rintro m σ' ⟨T, NX, i, rfl, hNX, h0, h1, h5, hm, htk⟩
    simp -implicitDefEqProofs only [wk, indexAddrA, lenA, Nat.reduceAdd, Nat.reduceLeDiff, Nat.reduceEqDiff, if_true, if_false, reduceIte, reduceCtorEq, exists_eq_left', implies_true, forall_const, Int.reduceLT, Int.reduceLE, Int.reduceEq, Int.reduceNeg, bindT, Nat.reduceMul, tis, h0, h1, h5, List.length_map]
    refine ⟨fun hi => ?_, fun hi => ?_⟩
    · obtain ⟨x, hx⟩ : ∃ x, a[i]? = some x := ⟨a[i], List.getElem?_eq_getElem hi⟩
      obtain ⟨y, hy⟩ : ∃ y, b[i]? = some y := ⟨b[i], List.getElem?_eq_getElem (by omega)⟩
      have hx' : (a.map fun k => [AV.sc (.int .i64 k)])[i]? = some [.sc (.int .i64 x)] := by simp [hx]
      have hy' : (b.map fun k => [AV.sc (.int .i64 k)])[i]? = some [.sc (.int .i64 y)] := by simp [hy]
      refine draw0 (by kernel_rfl) ?_
      simp -implicitDefEqProofs only [wk, indexAddrA, lenA, Nat.reduceAdd, Nat.reduceLeDiff, Nat.reduceEqDiff, if_true, if_false, reduceIte, reduceCtorEq, exists_eq_left', implies_true, forall_const, Int.reduceLT, Int.reduceLE, Int.reduceEq, Int.reduceNeg, bindT, Nat.reduceMul, tis, hx', hy', h0, h1, h5]
      refine ⟨fun hne => ?_, fun heq => ?_⟩
      · have : a ≠ b := fun e => by subst e; rw [hx] at hy; cases hy; simp at hne
        rw [decide_eq_false this] at hk
        exact .pure _ over_refl (.same rfl) hk
      · refine ⟨m - 1, by omega, _, _, i + 1, rfl, by omega, ?_, ?_, ?_, by omega, ?_⟩
        · simp -implicitDefEqProofs only [wk, indexAddrA, lenA, Nat.reduceAdd, Nat.reduceLeDiff, Nat.reduceEqDiff, if_true, if_false, reduceIte, reduceCtorEq, exists_eq_left', implies_true, forall_const, Int.reduceLT, Int.reduceLE, Int.reduceEq, Int.reduceNeg, bindT, Nat.reduceMul, tis, h0]
        · simp -implicitDefEqProofs only [wk, indexAddrA, lenA, Nat.reduceAdd, Nat.reduceLeDiff, Nat.reduceEqDiff, if_true, if_false, reduceIte, reduceCtorEq, exists_eq_left', implies_true, forall_const, Int.reduceLT, Int.reduceLE, Int.reduceEq, Int.reduceNeg, bindT, Nat.reduceMul, tis, h1]
        · simp -implicitDefEqProofs only [wk, indexAddrA, lenA, Nat.reduceAdd, Nat.reduceLeDiff, Nat.reduceEqDiff, if_true, if_false, reduceIte, reduceCtorEq, exists_eq_left', implies_true, forall_const, Int.reduceLT, Int.reduceLE, Int.reduceEq, Int.reduceNeg, bindT, Nat.reduceMul, tis]
          rw [wrap_i64 (by omega) (by omega)]
          rfl
        · have : x = y := by simpa using heq
          rw [List.take_add_one, List.take_add_one, htk, hx, hy, this]
    · have : a = b := by
        rw [List.take_of_length_le (by omega), List.take_of_length_le (by omega)] at htk
        exact htk
      rw [decide_eq_true this] at hk
      exact .pure _ over_refl (.same rfl) hk
end Go.Abs.Try
