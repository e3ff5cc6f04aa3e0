/- Contracts: the small functions of the laws. -/
import Derived.Test.YtlmkmmkhfkdagaaSeen
set_option linter.unusedVariables false
set_option linter.unusedSimpArgs false
set_option maxHeartbeats 4000000
set_option maxRecDepth 8000
namespace Go.Abs.Try
open Go Go.Abs Go.Proofs

theorem num {h : Heap} {nx : Nat} {K : AV → Heap → Nat → Prop} {n : Int} (hk : K (.agg (flVal ⟨1, n, ⟨#[]⟩⟩)) h nx) : ACall Try.prog 22 [.sc (.int .i64 n)] h nx K := by
  refine ACall.of_body (c := Try.f22.body.getD .skip) mixed Try.func22 rfl (by kernel_rfl) (by rw [Try.ntmps22]; simp) (by kernel_rfl) ?_
  simp -implicitDefEqProofs only [Try.f22, Option.getD_some, Array.toList]
  simp -implicitDefEqProofs only [wk, indexAddrA, lenA, Nat.reduceAdd, Nat.reduceLeDiff, Nat.reduceEqDiff, if_true, if_false, reduceIte, reduceCtorEq, exists_eq_left', implies_true, forall_const, Int.reduceLT, Int.reduceLE, Int.reduceEq, Int.reduceNeg, bindT, Nat.reduceMul, tis]
  refine .pure _ ?_ ?_ hk
  · repeat (first | exact over_refl | refine over_hc (by omega) ?_ | refine over_upd (by omega) ?_ | refine over_del (by omega) ?_)
  · repeat (first | exact Fz.same rfl | exact FzL.nil _ _ | refine Fz.tup' ?_ | refine Fz.agg' ?_ | refine FzL.cons ?_ ?_)

theorem inList {h : Heap} {nx : Nat} {K : AV → Heap → Nat → Prop} {a : List Int} {n : Int} (ha : a.length ≤ 4000000) (hk : K (.sc (.bool (decide (n ∈ a)))) h nx) :
    ACall Try.prog 14 [.lst 1 (a.map fun k => [.sc (.int .i64 k)]), .sc (.int .i64 n)] h nx K := by
  refine ACall.of_body (c := Try.f14.body.getD .skip) mixed Try.func14 rfl (by kernel_rfl) (by rw [Try.ntmps14]; simp) (by kernel_rfl) ?_
  simp -implicitDefEqProofs only [Try.f14, Option.getD_some, Array.toList]
  simp -implicitDefEqProofs only [wk, indexAddrA, lenA, Nat.reduceAdd, Nat.reduceLeDiff, Nat.reduceEqDiff, if_true, if_false, reduceIte, reduceCtorEq, exists_eq_left', implies_true, forall_const, Int.reduceLT, Int.reduceLE, Int.reduceEq, Int.reduceNeg, bindT, Nat.reduceMul, tis]
  refine loopX_ind (fun m σ => ∃ T i, σ = ⟨T, h, nx, []⟩ ∧ look 0 T = some (.lst 1 (a.map fun k => [.sc (.int .i64 k)])) ∧ look 1 T = some (.sc (.int .i64 n)) ∧ look 5 T = some (.sc (.int .i64 (i : Nat))) ∧ m + i = a.length ∧
      (∀ j x, j < i → a[j]? = some x → x ≠ n)) a.length ⟨_, 0, rfl, rfl, rfl, rfl, rfl, fun j x hj => by omega⟩ ?_
  rintro m σ' ⟨T, i, rfl, h0, h1, h5, hm, hno⟩
  simp -implicitDefEqProofs only [wk, indexAddrA, lenA, Nat.reduceAdd, Nat.reduceLeDiff, Nat.reduceEqDiff, if_true, if_false, reduceIte, reduceCtorEq, exists_eq_left', implies_true, forall_const, Int.reduceLT, Int.reduceLE, Int.reduceEq, Int.reduceNeg, bindT, Nat.reduceMul, tis, h0, h1, h5, List.length_map]
  refine ⟨fun hi => ?_, fun hi => ?_⟩
  · obtain ⟨x, hx⟩ : ∃ x, a[i]? = some x := ⟨a[i], List.getElem?_eq_getElem hi⟩
    have hx' : (a.map fun k => [AV.sc (.int .i64 k)])[i]? = some [.sc (.int .i64 x)] := by simp [hx]
    simp -implicitDefEqProofs only [wk, indexAddrA, lenA, Nat.reduceAdd, Nat.reduceLeDiff, Nat.reduceEqDiff, if_true, if_false, reduceIte, reduceCtorEq, exists_eq_left', implies_true, forall_const, Int.reduceLT, Int.reduceLE, Int.reduceEq, Int.reduceNeg, bindT, Nat.reduceMul, tis, hx', h0, h1, h5]
    refine ⟨fun he => ?_, fun hne => ?_⟩
    · rw [decide_eq_true (he ▸ List.mem_of_getElem? hx)] at hk
      exact .keep hk
    · refine ⟨m - 1, by omega, _, i + 1, rfl, ?_, ?_, ?_, by omega, fun j y hj hy => ?_⟩
      · simp -implicitDefEqProofs only [wk, indexAddrA, lenA, Nat.reduceAdd, Nat.reduceLeDiff, Nat.reduceEqDiff, if_true, if_false, reduceIte, reduceCtorEq, exists_eq_left', implies_true, forall_const, Int.reduceLT, Int.reduceLE, Int.reduceEq, Int.reduceNeg, bindT, Nat.reduceMul, tis, h0]
      · simp -implicitDefEqProofs only [wk, indexAddrA, lenA, Nat.reduceAdd, Nat.reduceLeDiff, Nat.reduceEqDiff, if_true, if_false, reduceIte, reduceCtorEq, exists_eq_left', implies_true, forall_const, Int.reduceLT, Int.reduceLE, Int.reduceEq, Int.reduceNeg, bindT, Nat.reduceMul, tis, h1]
      · simp -implicitDefEqProofs only [wk, indexAddrA, lenA, Nat.reduceAdd, Nat.reduceLeDiff, Nat.reduceEqDiff, if_true, if_false, reduceIte, reduceCtorEq, exists_eq_left', implies_true, forall_const, Int.reduceLT, Int.reduceLE, Int.reduceEq, Int.reduceNeg, bindT, Nat.reduceMul, tis]
        rw [wrap_i64 (by omega) (by omega)]
        rfl
      · by_cases e : j = i
        · subst e; rw [hx] at hy; cases hy; exact hne
        · exact hno j y (by omega) hy
  · have : n ∉ a := fun hmem => by
      obtain ⟨j, hj⟩ := List.getElem?_of_mem hmem
      have := (List.getElem?_eq_some_iff.1 hj).1
      exact hno j n (by omega) hj rfl
    rw [decide_eq_false this] at hk
    exact .keep hk

/-- Has a state more than a statement goes through? -/
def bigSt (s : StM) (nd nw : Nat) : Bool := decide (120 < s.items.length) || decide (120 < s.cells.length) || decide (200 < nw) || decide (12 < nd)

theorem large {h : Heap} {nx : Nat} {K : AV → Heap → Nat → Prop} {s : StM} {sd sw : Nat} {ld lw : List (List AV)} (hd : s.defs = .lst sd ld) (hw : s.watches = .lst sw lw) (hk : K (.sc (.bool (bigSt s ld.length lw.length))) h nx) :
    ACall Try.prog 10 [.agg (flSt s)] h nx K := by
  refine ACall.of_body (c := Try.f10.body.getD .skip) mixed Try.func10 rfl (by kernel_rfl) (by rw [Try.ntmps10]; simp) (by kernel_rfl) ?_
  simp -implicitDefEqProofs only [Try.f10, Option.getD_some, Array.toList]
  unfold bigSt at hk
  have fin : ∀ (b : Bool) (H : Heap) (N : Nat), (∀ j, j < nx → look j H = look j h) → b = (decide (120 < s.items.length) || decide (120 < s.cells.length) || decide (200 < lw.length) || decide (12 < ld.length)) → Fin nx h K (.sc (.bool b)) H N := fun b H N ho hb => by
    rw [← hb] at hk
    exact .pure _ ho (.same rfl) hk
  by_cases h1 : (120 : Int) < (s.items.length : Int)
  · simp -implicitDefEqProofs only [wk, indexAddrA, lenA, Nat.reduceAdd, Nat.reduceLeDiff, Nat.reduceEqDiff, if_true, if_false, reduceIte, reduceCtorEq, exists_eq_left', implies_true, forall_const, Int.reduceLT, Int.reduceLE, Int.reduceEq, Int.reduceNeg, bindT, Nat.reduceMul, tis, flSt, List.length_map, h1, hd, hw]
    refine fin _ _ _ ?_ (by have : 120 < s.items.length := by omega
                            simp [this])
    repeat (first | exact over_refl | refine over_hc (by omega) ?_ | refine over_upd (by omega) ?_ | refine over_del (by omega) ?_)
  · have n1 : ¬ 120 < s.items.length := by omega
    by_cases h2 : (120 : Int) < (s.cells.length : Int)
    · simp -implicitDefEqProofs only [wk, indexAddrA, lenA, Nat.reduceAdd, Nat.reduceLeDiff, Nat.reduceEqDiff, if_true, if_false, reduceIte, reduceCtorEq, exists_eq_left', implies_true, forall_const, Int.reduceLT, Int.reduceLE, Int.reduceEq, Int.reduceNeg, bindT, Nat.reduceMul, tis, flSt, List.length_map, h1, h2, hd, hw]
      refine fin _ _ _ ?_ (by have : 120 < s.cells.length := by omega
                              simp [this])
      repeat (first | exact over_refl | refine over_hc (by omega) ?_ | refine over_upd (by omega) ?_ | refine over_del (by omega) ?_)
    · have n2 : ¬ 120 < s.cells.length := by omega
      by_cases h3 : (200 : Int) < (lw.length : Int)
      · simp -implicitDefEqProofs only [wk, indexAddrA, lenA, Nat.reduceAdd, Nat.reduceLeDiff, Nat.reduceEqDiff, if_true, if_false, reduceIte, reduceCtorEq, exists_eq_left', implies_true, forall_const, Int.reduceLT, Int.reduceLE, Int.reduceEq, Int.reduceNeg, bindT, Nat.reduceMul, tis, flSt, List.length_map, h1, h2, h3, hd, hw]
        refine fin _ _ _ ?_ (by have : 200 < lw.length := by omega
                                simp [this])
        repeat (first | exact over_refl | refine over_hc (by omega) ?_ | refine over_upd (by omega) ?_ | refine over_del (by omega) ?_)
      · have n3 : ¬ 200 < lw.length := by omega
        simp -implicitDefEqProofs only [wk, indexAddrA, lenA, Nat.reduceAdd, Nat.reduceLeDiff, Nat.reduceEqDiff, if_true, if_false, reduceIte, reduceCtorEq, exists_eq_left', implies_true, forall_const, Int.reduceLT, Int.reduceLE, Int.reduceEq, Int.reduceNeg, bindT, Nat.reduceMul, tis, flSt, List.length_map, h1, h2, h3, hd, hw]
        refine fin _ _ _ ?_ ?_
        · repeat (first | exact over_refl | refine over_hc (by omega) ?_ | refine over_upd (by omega) ?_ | refine over_del (by omega) ?_)
        · simp only [n1, n2, n3, decide_false, Bool.false_or]
          exact decide_eq_decide.2 (by omega)
end Go.Abs.Try
