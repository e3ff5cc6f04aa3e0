/- Contracts: the place of an item, of a cell. -/
import Derived.Test.YtlmkmmkhfkdagaaAbsWk
import Derived.Test.YtlmkmmkhfkdagaaSeatT
set_option linter.unusedVariables false
set_option linter.unusedSimpArgs false
set_option maxRecDepth 8000
set_option maxHeartbeats 1000000
namespace Go.Abs.Try
open Go Go.Abs Go.Proofs

theorem place1 {h : Heap} {nx : Nat} {K : AV → Heap → Nat → Prop} {i : Nat} {id a : Int} {rest : List AV} (hl : look i h = some (.box [.sc (.int .i64 id)])) (hi : i < nx)
    (hk : K (.sc (.bool (decide (a = id)))) h nx) : ACall Try.prog 63 [.agg (.sc (.int .i64 a) :: rest), .ptr i 0] h nx K := by
  refine ACall.of_body (c := Try.f63.body.getD .skip) mixed Try.func63 rfl (by kernel_rfl) (by rw [Try.ntmps63]; simp) (by kernel_rfl) ?_
  simp -implicitDefEqProofs only [Try.f63, Option.getD_some, Array.toList]
  have h1 : ¬ nx = i := by omega
  simp -implicitDefEqProofs only [wk, indexAddrA, lenA, Nat.reduceAdd, Nat.reduceLeDiff, Nat.reduceEqDiff, if_true, if_false, reduceIte, reduceCtorEq, exists_eq_left', implies_true, forall_const, Int.reduceLT, Int.reduceLE, Int.reduceEq, Int.reduceNeg, bindT, Nat.reduceMul, tis, h1, hl]
  refine .pure _ ?_ (.same rfl) hk
  repeat (first | exact over_refl | refine over_hc (by omega) ?_ | refine over_upd (by omega) ?_ | refine over_del (by omega) ?_)

theorem indexItem {h : Heap} {nx : Nat} {K : AV → Heap → Nat → Prop} {L : List (List AV)} {fv : AV} {p : List AV → Bool} (hlen : L.length ≤ 4611686018427387904) (hsz : ∀ cs ∈ L, 8 ≤ cs.length)
    (hp : ∀ cs ∈ L, ∀ K' : AV → Heap → Nat → Prop, K' (.sc (.bool (p cs))) h nx → ACallV Try.prog fv [.agg (cs.take 8)] h nx K')
    (hk : K (.sc (.int .i64 (idxI (L.findIdx? p)))) h nx) : ACall Try.prog 62 [.lst 8 L, fv] h nx K := by
  refine ACall.of_body (c := Try.f62.body.getD .skip) mixed Try.func62 rfl (by kernel_rfl) (by rw [Try.ntmps62]; simp) (by kernel_rfl) ?_
  simp -implicitDefEqProofs only [Try.f62, Option.getD_some, Array.toList]
  simp -implicitDefEqProofs only [wk, indexAddrA, lenA, Nat.reduceAdd, Nat.reduceLeDiff, Nat.reduceEqDiff, if_true, if_false, reduceIte, reduceCtorEq, exists_eq_left', implies_true, forall_const, Int.reduceLT, Int.reduceLE, Int.reduceEq, Int.reduceNeg, bindT, Nat.reduceMul, tis]
  refine loopX_ind (fun m σ => ∃ T i, σ = ⟨T, h, nx, []⟩ ∧ look 0 T = some (.lst 8 L) ∧ look 1 T = some fv ∧ look 7 T = some (.sc (.int .i64 L.length)) ∧ look 8 T = some (.sc (.int .i64 (i : Nat))) ∧ m + i = L.length ∧
    (∀ j cs, j < i → L[j]? = some cs → p cs = false)) L.length ⟨_, 0, rfl, rfl, rfl, rfl, rfl, rfl, fun j cs hj => by omega⟩ ?_
  rintro m σ' ⟨T, i, rfl, h0, h1, h7, h8, hm, hno⟩
  simp -implicitDefEqProofs only [wk, indexAddrA, lenA, Nat.reduceAdd, Nat.reduceLeDiff, Nat.reduceEqDiff, if_true, if_false, reduceIte, reduceCtorEq, exists_eq_left', implies_true, forall_const, Int.reduceLT, Int.reduceLE, Int.reduceEq, Int.reduceNeg, bindT, Nat.reduceMul, tis, h0, h1, h7, h8]
  refine ⟨fun hi => ?_, fun hi => ?_⟩
  · obtain ⟨cs, hcs⟩ : ∃ cs, L[i]? = some cs := ⟨L[i], List.getElem?_eq_getElem hi⟩
    have hmem := List.mem_of_getElem? hcs
    simp -implicitDefEqProofs only [wk, indexAddrA, lenA, Nat.reduceAdd, Nat.reduceLeDiff, Nat.reduceEqDiff, if_true, if_false, reduceIte, reduceCtorEq, exists_eq_left', implies_true, forall_const, Int.reduceLT, Int.reduceLE, Int.reduceEq, Int.reduceNeg, bindT, Nat.reduceMul, tis, hcs, hsz cs hmem]
    refine callX_v (hp cs hmem _ ?_)
    simp -implicitDefEqProofs only [wk, indexAddrA, lenA, Nat.reduceAdd, Nat.reduceLeDiff, Nat.reduceEqDiff, if_true, if_false, reduceIte, reduceCtorEq, exists_eq_left', implies_true, forall_const, Int.reduceLT, Int.reduceLE, Int.reduceEq, Int.reduceNeg, bindT, Nat.reduceMul, tis]
    cases hpc : p cs with
    | true =>
      simp -implicitDefEqProofs only [wk, indexAddrA, lenA, Nat.reduceAdd, Nat.reduceLeDiff, Nat.reduceEqDiff, if_true, if_false, reduceIte, reduceCtorEq, exists_eq_left', implies_true, forall_const, Int.reduceLT, Int.reduceLE, Int.reduceEq, Int.reduceNeg, bindT, Nat.reduceMul, tis]
      have hf : L.findIdx? p = some i := by
        rw [List.findIdx?_eq_some_iff_getElem]
        refine ⟨hi, ?_, fun j hj => ?_⟩
        · have := List.getElem?_eq_getElem hi
          rw [this] at hcs
          cases hcs
          exact hpc
        · have := hno j _ hj (List.getElem?_eq_getElem (by omega))
          simp [this]
      rw [hf] at hk
      exact .keep hk
    | false =>
      simp -implicitDefEqProofs only [wk, indexAddrA, lenA, Nat.reduceAdd, Nat.reduceLeDiff, Nat.reduceEqDiff, if_true, if_false, reduceIte, reduceCtorEq, exists_eq_left', implies_true, forall_const, Int.reduceLT, Int.reduceLE, Int.reduceEq, Int.reduceNeg, bindT, Nat.reduceMul, tis, h7, h8]
      refine ⟨m - 1, by omega, _, i + 1, rfl, ?_, ?_, ?_, ?_, by omega, fun j ds hj hds => ?_⟩
      · simp -implicitDefEqProofs only [wk, indexAddrA, lenA, Nat.reduceAdd, Nat.reduceLeDiff, Nat.reduceEqDiff, if_true, if_false, reduceIte, reduceCtorEq, exists_eq_left', implies_true, forall_const, Int.reduceLT, Int.reduceLE, Int.reduceEq, Int.reduceNeg, bindT, Nat.reduceMul, tis, h0]
      · simp -implicitDefEqProofs only [wk, indexAddrA, lenA, Nat.reduceAdd, Nat.reduceLeDiff, Nat.reduceEqDiff, if_true, if_false, reduceIte, reduceCtorEq, exists_eq_left', implies_true, forall_const, Int.reduceLT, Int.reduceLE, Int.reduceEq, Int.reduceNeg, bindT, Nat.reduceMul, tis, h1]
      · simp -implicitDefEqProofs only [wk, indexAddrA, lenA, Nat.reduceAdd, Nat.reduceLeDiff, Nat.reduceEqDiff, if_true, if_false, reduceIte, reduceCtorEq, exists_eq_left', implies_true, forall_const, Int.reduceLT, Int.reduceLE, Int.reduceEq, Int.reduceNeg, bindT, Nat.reduceMul, tis, h7]
      · simp -implicitDefEqProofs only [wk, indexAddrA, lenA, Nat.reduceAdd, Nat.reduceLeDiff, Nat.reduceEqDiff, if_true, if_false, reduceIte, reduceCtorEq, exists_eq_left', implies_true, forall_const, Int.reduceLT, Int.reduceLE, Int.reduceEq, Int.reduceNeg, bindT, Nat.reduceMul, tis]
        rw [wrap_i64 (by omega) (by omega)]
        rfl
      · by_cases e : j = i
        · subst e; rw [hcs] at hds; cases hds; exact hpc
        · exact hno j ds (by omega) hds
  · have hf : L.findIdx? p = none := by
      rw [List.findIdx?_eq_none_iff]
      intro x hx
      obtain ⟨j, hj⟩ := List.getElem?_of_mem hx
      have hjl := (List.getElem?_eq_some_iff.1 hj).1
      exact hno j x (by omega) hj
    rw [hf] at hk
    exact .keep hk

theorem indexCell {h : Heap} {nx : Nat} {K : AV → Heap → Nat → Prop} {L : List (List AV)} {fv : AV} {p : List AV → Bool} (hlen : L.length ≤ 4611686018427387904) (hsz : ∀ cs ∈ L, 5 ≤ cs.length)
    (hp : ∀ cs ∈ L, ∀ K' : AV → Heap → Nat → Prop, K' (.sc (.bool (p cs))) h nx → ACallV Try.prog fv [.agg (cs.take 5)] h nx K')
    (hk : K (.sc (.int .i64 (idxI (L.findIdx? p)))) h nx) : ACall Try.prog 42 [.lst 5 L, fv] h nx K := by
  refine ACall.of_body (c := Try.f42.body.getD .skip) mixed Try.func42 rfl (by kernel_rfl) (by rw [Try.ntmps42]; simp) (by kernel_rfl) ?_
  simp -implicitDefEqProofs only [Try.f42, Option.getD_some, Array.toList]
  simp -implicitDefEqProofs only [wk, indexAddrA, lenA, Nat.reduceAdd, Nat.reduceLeDiff, Nat.reduceEqDiff, if_true, if_false, reduceIte, reduceCtorEq, exists_eq_left', implies_true, forall_const, Int.reduceLT, Int.reduceLE, Int.reduceEq, Int.reduceNeg, bindT, Nat.reduceMul, tis]
  refine loopX_ind (fun m σ => ∃ T i, σ = ⟨T, h, nx, []⟩ ∧ look 0 T = some (.lst 5 L) ∧ look 1 T = some fv ∧ look 7 T = some (.sc (.int .i64 L.length)) ∧ look 8 T = some (.sc (.int .i64 (i : Nat))) ∧ m + i = L.length ∧
    (∀ j cs, j < i → L[j]? = some cs → p cs = false)) L.length ⟨_, 0, rfl, rfl, rfl, rfl, rfl, rfl, fun j cs hj => by omega⟩ ?_
  rintro m σ' ⟨T, i, rfl, h0, h1, h7, h8, hm, hno⟩
  simp -implicitDefEqProofs only [wk, indexAddrA, lenA, Nat.reduceAdd, Nat.reduceLeDiff, Nat.reduceEqDiff, if_true, if_false, reduceIte, reduceCtorEq, exists_eq_left', implies_true, forall_const, Int.reduceLT, Int.reduceLE, Int.reduceEq, Int.reduceNeg, bindT, Nat.reduceMul, tis, h0, h1, h7, h8]
  refine ⟨fun hi => ?_, fun hi => ?_⟩
  · obtain ⟨cs, hcs⟩ : ∃ cs, L[i]? = some cs := ⟨L[i], List.getElem?_eq_getElem hi⟩
    have hmem := List.mem_of_getElem? hcs
    simp -implicitDefEqProofs only [wk, indexAddrA, lenA, Nat.reduceAdd, Nat.reduceLeDiff, Nat.reduceEqDiff, if_true, if_false, reduceIte, reduceCtorEq, exists_eq_left', implies_true, forall_const, Int.reduceLT, Int.reduceLE, Int.reduceEq, Int.reduceNeg, bindT, Nat.reduceMul, tis, hcs, hsz cs hmem]
    refine callX_v (hp cs hmem _ ?_)
    simp -implicitDefEqProofs only [wk, indexAddrA, lenA, Nat.reduceAdd, Nat.reduceLeDiff, Nat.reduceEqDiff, if_true, if_false, reduceIte, reduceCtorEq, exists_eq_left', implies_true, forall_const, Int.reduceLT, Int.reduceLE, Int.reduceEq, Int.reduceNeg, bindT, Nat.reduceMul, tis]
    cases hpc : p cs with
    | true =>
      simp -implicitDefEqProofs only [wk, indexAddrA, lenA, Nat.reduceAdd, Nat.reduceLeDiff, Nat.reduceEqDiff, if_true, if_false, reduceIte, reduceCtorEq, exists_eq_left', implies_true, forall_const, Int.reduceLT, Int.reduceLE, Int.reduceEq, Int.reduceNeg, bindT, Nat.reduceMul, tis]
      have hf : L.findIdx? p = some i := by
        rw [List.findIdx?_eq_some_iff_getElem]
        refine ⟨hi, ?_, fun j hj => ?_⟩
        · have := List.getElem?_eq_getElem hi
          rw [this] at hcs
          cases hcs
          exact hpc
        · have := hno j _ hj (List.getElem?_eq_getElem (by omega))
          simp [this]
      rw [hf] at hk
      exact .keep hk
    | false =>
      simp -implicitDefEqProofs only [wk, indexAddrA, lenA, Nat.reduceAdd, Nat.reduceLeDiff, Nat.reduceEqDiff, if_true, if_false, reduceIte, reduceCtorEq, exists_eq_left', implies_true, forall_const, Int.reduceLT, Int.reduceLE, Int.reduceEq, Int.reduceNeg, bindT, Nat.reduceMul, tis, h7, h8]
      refine ⟨m - 1, by omega, _, i + 1, rfl, ?_, ?_, ?_, ?_, by omega, fun j ds hj hds => ?_⟩
      · simp -implicitDefEqProofs only [wk, indexAddrA, lenA, Nat.reduceAdd, Nat.reduceLeDiff, Nat.reduceEqDiff, if_true, if_false, reduceIte, reduceCtorEq, exists_eq_left', implies_true, forall_const, Int.reduceLT, Int.reduceLE, Int.reduceEq, Int.reduceNeg, bindT, Nat.reduceMul, tis, h0]
      · simp -implicitDefEqProofs only [wk, indexAddrA, lenA, Nat.reduceAdd, Nat.reduceLeDiff, Nat.reduceEqDiff, if_true, if_false, reduceIte, reduceCtorEq, exists_eq_left', implies_true, forall_const, Int.reduceLT, Int.reduceLE, Int.reduceEq, Int.reduceNeg, bindT, Nat.reduceMul, tis, h1]
      · simp -implicitDefEqProofs only [wk, indexAddrA, lenA, Nat.reduceAdd, Nat.reduceLeDiff, Nat.reduceEqDiff, if_true, if_false, reduceIte, reduceCtorEq, exists_eq_left', implies_true, forall_const, Int.reduceLT, Int.reduceLE, Int.reduceEq, Int.reduceNeg, bindT, Nat.reduceMul, tis, h7]
      · simp -implicitDefEqProofs only [wk, indexAddrA, lenA, Nat.reduceAdd, Nat.reduceLeDiff, Nat.reduceEqDiff, if_true, if_false, reduceIte, reduceCtorEq, exists_eq_left', implies_true, forall_const, Int.reduceLT, Int.reduceLE, Int.reduceEq, Int.reduceNeg, bindT, Nat.reduceMul, tis]
        rw [wrap_i64 (by omega) (by omega)]
        rfl
      · by_cases e : j = i
        · subst e; rw [hcs] at hds; cases hds; exact hpc
        · exact hno j ds (by omega) hds
  · have hf : L.findIdx? p = none := by
      rw [List.findIdx?_eq_none_iff]
      intro x hx
      obtain ⟨j, hj⟩ := List.getElem?_of_mem hx
      have hjl := (List.getElem?_eq_some_iff.1 hj).1
      exact hno j x (by omega) hj
    rw [hf] at hk
    exact .keep hk

end Go.Abs.Try
