/- Contracts: what is held against itself is the same. -/
import Derived.Test.YtlmkmmkhfkdagaaLibIdx
import Derived.Test.YtlmkmmkhfkdagaaDeepM
import Derived.Test.YtlmkmmkhfkdagaaKe
set_option linter.unusedVariables false
set_option linter.unusedSimpArgs false
set_option maxHeartbeats 4000000
set_option maxRecDepth 8000
namespace Go.Abs.Try
open Go Go.Abs Go.Proofs

theorem varsRefl {h : Heap} {nx : Nat} {K : AV → Heap → Nat → Prop} {L : List VarM} (hl : L.length ≤ 9223372036854775807) (hk : K (.sc (.bool true)) h nx) : ACall Try.prog 51 [.lst 4 (L.map flVar), .lst 4 (L.map flVar)] h nx K := by
  refine ACall.of_body (c := Try.f51.body.getD .skip) mixed Try.func51 rfl (by kernel_rfl) (by rw [Try.ntmps51]; simp) (by kernel_rfl) ?_
  simp -implicitDefEqProofs only [Try.f51, Option.getD_some, Array.toList]
  simp -implicitDefEqProofs (disch := omega) only [natNe, wk, indexAddrA, lenA, Nat.reduceAdd, Nat.reduceLeDiff, Nat.reduceEqDiff, if_true, if_false, reduceIte, reduceCtorEq, exists_eq_left', implies_true, forall_const, Int.reduceLT, Int.reduceLE, Int.reduceEq, Int.reduceNeg, bindT, Nat.reduceMul, tis, List.length_map, eq_self, decide_true]
  refine loopX_ind (fun m σ => ∃ T NX i, σ = ⟨T, h, NX, []⟩ ∧ nx ≤ NX ∧ look 0 T = some (.lst 4 (L.map flVar)) ∧ look 1 T = some (.lst 4 (L.map flVar)) ∧ look 5 T = some (.sc (.int .i64 (i : Nat))) ∧ m + i = L.length) L.length ⟨_, _, 0, rfl, Nat.le_refl _, rfl, rfl, rfl, by omega⟩ ?_
  rintro m σ' ⟨T, NX, i, rfl, hNX, t0, t1, t5, hm⟩
  simp -implicitDefEqProofs (disch := omega) only [natNe, wk, indexAddrA, lenA, Nat.reduceAdd, Nat.reduceLeDiff, Nat.reduceEqDiff, if_true, if_false, reduceIte, reduceCtorEq, exists_eq_left', implies_true, forall_const, Int.reduceLT, Int.reduceLE, Int.reduceEq, Int.reduceNeg, bindT, Nat.reduceMul, tis, t0, t1, t5, List.length_map]
  refine ⟨fun hi => ?_, fun hi => ?_⟩
  · obtain ⟨x, hx⟩ : ∃ x, L[i]? = some x := ⟨L[i], List.getElem?_eq_getElem hi⟩
    have hx' : (L.map flVar)[i]? = some (flVar x) := by simp [hx]
    refine draw0 (by kernel_rfl) ?_
    simp -implicitDefEqProofs (disch := omega) only [natNe, wk, indexAddrA, lenA, Nat.reduceAdd, Nat.reduceLeDiff, Nat.reduceEqDiff, if_true, if_false, reduceIte, reduceCtorEq, exists_eq_left', implies_true, forall_const, Int.reduceLT, Int.reduceLE, Int.reduceEq, Int.reduceNeg, bindT, Nat.reduceMul, tis, t0, t1, t5, hx', flVar, eq_self, decide_true]
    refine ⟨m - 1, by omega, _, _, i + 1, rfl, by omega, ?_, ?_, ?_, by omega⟩
    · simp -implicitDefEqProofs (disch := omega) only [natNe, wk, indexAddrA, lenA, Nat.reduceAdd, Nat.reduceLeDiff, Nat.reduceEqDiff, if_true, if_false, reduceIte, reduceCtorEq, exists_eq_left', implies_true, forall_const, Int.reduceLT, Int.reduceLE, Int.reduceEq, Int.reduceNeg, bindT, Nat.reduceMul, tis, t0]
    · simp -implicitDefEqProofs (disch := omega) only [natNe, wk, indexAddrA, lenA, Nat.reduceAdd, Nat.reduceLeDiff, Nat.reduceEqDiff, if_true, if_false, reduceIte, reduceCtorEq, exists_eq_left', implies_true, forall_const, Int.reduceLT, Int.reduceLE, Int.reduceEq, Int.reduceNeg, bindT, Nat.reduceMul, tis, t1]
    · simp -implicitDefEqProofs (disch := omega) only [natNe, wk, indexAddrA, lenA, Nat.reduceAdd, Nat.reduceLeDiff, Nat.reduceEqDiff, if_true, if_false, reduceIte, reduceCtorEq, exists_eq_left', implies_true, forall_const, Int.reduceLT, Int.reduceLE, Int.reduceEq, Int.reduceNeg, bindT, Nat.reduceMul, tis, wrap_i64]
      rfl
  · exact .pure _ (fun _ _ => rfl) (.same rfl) hk

theorem textsRefl {h : Heap} {nx : Nat} {K : AV → Heap → Nat → Prop} {L : List ByteArray} (hl : L.length ≤ 9223372036854775807) (hk : K (.sc (.bool true)) h nx) : ACall Try.prog 52 [.lst 1 (L.map flText), .lst 1 (L.map flText)] h nx K := by
  refine ACall.of_body (c := Try.f52.body.getD .skip) mixed Try.func52 rfl (by kernel_rfl) (by rw [Try.ntmps52]; simp) (by kernel_rfl) ?_
  simp -implicitDefEqProofs only [Try.f52, Option.getD_some, Array.toList]
  simp -implicitDefEqProofs (disch := omega) only [natNe, wk, indexAddrA, lenA, Nat.reduceAdd, Nat.reduceLeDiff, Nat.reduceEqDiff, if_true, if_false, reduceIte, reduceCtorEq, exists_eq_left', implies_true, forall_const, Int.reduceLT, Int.reduceLE, Int.reduceEq, Int.reduceNeg, bindT, Nat.reduceMul, tis, List.length_map, eq_self, decide_true]
  refine loopX_ind (fun m σ => ∃ T NX i, σ = ⟨T, h, NX, []⟩ ∧ nx ≤ NX ∧ look 0 T = some (.lst 1 (L.map flText)) ∧ look 1 T = some (.lst 1 (L.map flText)) ∧ look 5 T = some (.sc (.int .i64 (i : Nat))) ∧ m + i = L.length) L.length ⟨_, _, 0, rfl, Nat.le_refl _, rfl, rfl, rfl, by omega⟩ ?_
  rintro m σ' ⟨T, NX, i, rfl, hNX, t0, t1, t5, hm⟩
  simp -implicitDefEqProofs (disch := omega) only [natNe, wk, indexAddrA, lenA, Nat.reduceAdd, Nat.reduceLeDiff, Nat.reduceEqDiff, if_true, if_false, reduceIte, reduceCtorEq, exists_eq_left', implies_true, forall_const, Int.reduceLT, Int.reduceLE, Int.reduceEq, Int.reduceNeg, bindT, Nat.reduceMul, tis, t0, t1, t5, List.length_map]
  refine ⟨fun hi => ?_, fun hi => ?_⟩
  · obtain ⟨x, hx⟩ : ∃ x, L[i]? = some x := ⟨L[i], List.getElem?_eq_getElem hi⟩
    have hx' : (L.map flText)[i]? = some (flText x) := by simp [hx]
    refine draw0 (by kernel_rfl) ?_
    simp -implicitDefEqProofs (disch := omega) only [natNe, wk, indexAddrA, lenA, Nat.reduceAdd, Nat.reduceLeDiff, Nat.reduceEqDiff, if_true, if_false, reduceIte, reduceCtorEq, exists_eq_left', implies_true, forall_const, Int.reduceLT, Int.reduceLE, Int.reduceEq, Int.reduceNeg, bindT, Nat.reduceMul, tis, t0, t1, t5, hx', flText, eq_self, decide_true]
    refine ⟨m - 1, by omega, _, _, i + 1, rfl, by omega, ?_, ?_, ?_, by omega⟩
    · simp -implicitDefEqProofs (disch := omega) only [natNe, wk, indexAddrA, lenA, Nat.reduceAdd, Nat.reduceLeDiff, Nat.reduceEqDiff, if_true, if_false, reduceIte, reduceCtorEq, exists_eq_left', implies_true, forall_const, Int.reduceLT, Int.reduceLE, Int.reduceEq, Int.reduceNeg, bindT, Nat.reduceMul, tis, t0]
    · simp -implicitDefEqProofs (disch := omega) only [natNe, wk, indexAddrA, lenA, Nat.reduceAdd, Nat.reduceLeDiff, Nat.reduceEqDiff, if_true, if_false, reduceIte, reduceCtorEq, exists_eq_left', implies_true, forall_const, Int.reduceLT, Int.reduceLE, Int.reduceEq, Int.reduceNeg, bindT, Nat.reduceMul, tis, t1]
    · simp -implicitDefEqProofs (disch := omega) only [natNe, wk, indexAddrA, lenA, Nat.reduceAdd, Nat.reduceLeDiff, Nat.reduceEqDiff, if_true, if_false, reduceIte, reduceCtorEq, exists_eq_left', implies_true, forall_const, Int.reduceLT, Int.reduceLE, Int.reduceEq, Int.reduceNeg, bindT, Nat.reduceMul, tis, wrap_i64]
      rfl
  · exact .pure _ (fun _ _ => rfl) (.same rfl) hk

theorem procRefl {h : Heap} {nx : Nat} {K : AV → Heap → Nat → Prop} {p : ProcM} (hp0 : p.fits) (hk : K (.sc (.bool true)) h nx) : ACall Try.prog 38 [.agg (flProc p), .agg (flProc p)] h nx K := by
  obtain ⟨hp1, hp2, hp3, hp4⟩ := hp0
  refine ACall.of_body (c := Try.f38.body.getD .skip) mixed Try.func38 rfl (by kernel_rfl) (by rw [Try.ntmps38]; simp) (by kernel_rfl) ?_
  simp -implicitDefEqProofs only [Try.f38, Option.getD_some, Array.toList]
  simp -implicitDefEqProofs (disch := omega) only [natNe, wk, indexAddrA, lenA, Nat.reduceAdd, Nat.reduceLeDiff, Nat.reduceEqDiff, if_true, if_false, reduceIte, reduceCtorEq, exists_eq_left', implies_true, forall_const, Int.reduceLT, Int.reduceLE, Int.reduceEq, Int.reduceNeg, bindT, Nat.reduceMul, tis, flProc, eq_self, decide_true]
  refine callX_fn (varsRefl hp1 ?_)
  simp -implicitDefEqProofs (maxSteps := 2000000) (disch := omega) only [natNe, wk, indexAddrA, lenA, Nat.reduceAdd, Nat.reduceLeDiff, Nat.reduceEqDiff, if_true, if_false, reduceIte, reduceCtorEq, exists_eq_left', implies_true, forall_const, Int.reduceLT, Int.reduceLE, Int.reduceEq, Int.reduceNeg, bindT, Nat.reduceMul, tis, flProc, List.length_map, eq_self, decide_true]
  refine loopX_cut (fun σ => ∃ T H NX, σ = ⟨T, H, NX, []⟩ ∧ nx + 2 ≤ NX ∧ (∀ k, k < nx → look k H = look k h) ∧ look nx H = some (.box (flProc p)) ∧ look (nx + 1) H = some (.box (flProc p)) ∧ look 2 T = some (.ptr nx 0) ∧ look 3 T = some (.ptr (nx + 1) 0)) ?_ ?_
  · rintro σ' ⟨T, H, NX, rfl, hNX, hov, b0, b1, t2, t3⟩
    simp -implicitDefEqProofs (disch := omega) only [natNe, wk, indexAddrA, lenA, Nat.reduceAdd, Nat.reduceLeDiff, Nat.reduceEqDiff, if_true, if_false, reduceIte, reduceCtorEq, exists_eq_left', implies_true, forall_const, Int.reduceLT, Int.reduceLE, Int.reduceEq, Int.reduceNeg, bindT, Nat.reduceMul, tis, b0, b1, t2, t3, flProc, List.length_map]
    refine loopX_ind (fun m σ => ∃ T H NX i, σ = ⟨T, H, NX, []⟩ ∧ nx + 2 ≤ NX ∧ (∀ k, k < nx → look k H = look k h) ∧ look nx H = some (.box (flProc p)) ∧ look (nx + 1) H = some (.box (flProc p)) ∧ look 2 T = some (.ptr nx 0) ∧ look 3 T = some (.ptr (nx + 1) 0) ∧ look 8 T = some (.sc (.int .i64 (i : Nat))) ∧ m + i = p.flows.length)
      p.flows.length ⟨_, _, _, 0, rfl, hNX, hov, b0, b1, ?_, ?_, rfl, by omega⟩ ?_
    · simp -implicitDefEqProofs (disch := omega) only [natNe, wk, indexAddrA, lenA, Nat.reduceAdd, Nat.reduceLeDiff, Nat.reduceEqDiff, if_true, if_false, reduceIte, reduceCtorEq, exists_eq_left', implies_true, forall_const, Int.reduceLT, Int.reduceLE, Int.reduceEq, Int.reduceNeg, bindT, Nat.reduceMul, tis, t2]
    · simp -implicitDefEqProofs (disch := omega) only [natNe, wk, indexAddrA, lenA, Nat.reduceAdd, Nat.reduceLeDiff, Nat.reduceEqDiff, if_true, if_false, reduceIte, reduceCtorEq, exists_eq_left', implies_true, forall_const, Int.reduceLT, Int.reduceLE, Int.reduceEq, Int.reduceNeg, bindT, Nat.reduceMul, tis, t3]
    clear hov b0 b1 t2 t3 hNX
    rintro m σ' ⟨T, H, NX, i, rfl, hNX, hov, b0, b1, t2, t3, t8, hm⟩
    simp -implicitDefEqProofs (disch := omega) only [natNe, wk, indexAddrA, lenA, Nat.reduceAdd, Nat.reduceLeDiff, Nat.reduceEqDiff, if_true, if_false, reduceIte, reduceCtorEq, exists_eq_left', implies_true, forall_const, Int.reduceLT, Int.reduceLE, Int.reduceEq, Int.reduceNeg, bindT, Nat.reduceMul, tis, b0, b1, t2, t3, t8, flProc, List.length_map]
    refine ⟨fun hi => ?_, fun hi => ?_⟩
    · obtain ⟨x, hx⟩ : ∃ x, p.flows[i]? = some x := ⟨p.flows[i], List.getElem?_eq_getElem hi⟩
      have hx' : (p.flows.map flFlow)[i]? = some (flFlow x) := by simp [hx]
      refine draw0 (by kernel_rfl) ?_
      simp -implicitDefEqProofs (disch := omega) only [natNe, wk, indexAddrA, lenA, Nat.reduceAdd, Nat.reduceLeDiff, Nat.reduceEqDiff, if_true, if_false, reduceIte, reduceCtorEq, exists_eq_left', implies_true, forall_const, Int.reduceLT, Int.reduceLE, Int.reduceEq, Int.reduceNeg, bindT, Nat.reduceMul, tis, b0, b1, t2, t3, t8, flProc, hx', flFlow, eq_self, decide_true, beq_self_eq_true]
      refine ⟨m - 1, by omega, _, _, _, i + 1, rfl, by omega, ?_, ?_, ?_, ?_, ?_, ?_, by omega⟩
      · exact hov
      · simp -implicitDefEqProofs (disch := omega) only [natNe, wk, indexAddrA, lenA, Nat.reduceAdd, Nat.reduceLeDiff, Nat.reduceEqDiff, if_true, if_false, reduceIte, reduceCtorEq, exists_eq_left', implies_true, forall_const, Int.reduceLT, Int.reduceLE, Int.reduceEq, Int.reduceNeg, bindT, Nat.reduceMul, tis, b0, flProc]
      · simp -implicitDefEqProofs (disch := omega) only [natNe, wk, indexAddrA, lenA, Nat.reduceAdd, Nat.reduceLeDiff, Nat.reduceEqDiff, if_true, if_false, reduceIte, reduceCtorEq, exists_eq_left', implies_true, forall_const, Int.reduceLT, Int.reduceLE, Int.reduceEq, Int.reduceNeg, bindT, Nat.reduceMul, tis, b1, flProc]
      · simp -implicitDefEqProofs (disch := omega) only [natNe, wk, indexAddrA, lenA, Nat.reduceAdd, Nat.reduceLeDiff, Nat.reduceEqDiff, if_true, if_false, reduceIte, reduceCtorEq, exists_eq_left', implies_true, forall_const, Int.reduceLT, Int.reduceLE, Int.reduceEq, Int.reduceNeg, bindT, Nat.reduceMul, tis, t2]
      · simp -implicitDefEqProofs (disch := omega) only [natNe, wk, indexAddrA, lenA, Nat.reduceAdd, Nat.reduceLeDiff, Nat.reduceEqDiff, if_true, if_false, reduceIte, reduceCtorEq, exists_eq_left', implies_true, forall_const, Int.reduceLT, Int.reduceLE, Int.reduceEq, Int.reduceNeg, bindT, Nat.reduceMul, tis, t3]
      · simp -implicitDefEqProofs (disch := omega) only [natNe, wk, indexAddrA, lenA, Nat.reduceAdd, Nat.reduceLeDiff, Nat.reduceEqDiff, if_true, if_false, reduceIte, reduceCtorEq, exists_eq_left', implies_true, forall_const, Int.reduceLT, Int.reduceLE, Int.reduceEq, Int.reduceNeg, bindT, Nat.reduceMul, tis, wrap_i64]
        rfl
    · refine .pure _ ?_ (.same rfl) hk
      exact hov
  · refine loopX_ind (fun m σ => ∃ T H NX i, σ = ⟨T, H, NX, []⟩ ∧ nx + 2 ≤ NX ∧ (∀ k, k < nx → look k H = look k h) ∧ look nx H = some (.box (flProc p)) ∧ look (nx + 1) H = some (.box (flProc p)) ∧ look 2 T = some (.ptr nx 0) ∧ look 3 T = some (.ptr (nx + 1) 0) ∧ look 5 T = some (.sc (.int .i64 (i : Nat))) ∧ m + i = p.nodes.length)
      p.nodes.length ⟨_, _, _, 0, rfl, by omega, ?_, ?_, ?_, rfl, rfl, rfl, by omega⟩ ?_
    · repeat (first | exact over_refl | refine over_hc (by omega) ?_ | refine over_upd (by omega) ?_ | refine over_del (by omega) ?_)
    · simp -implicitDefEqProofs (disch := omega) only [natNe, wk, indexAddrA, lenA, Nat.reduceAdd, Nat.reduceLeDiff, Nat.reduceEqDiff, if_true, if_false, reduceIte, reduceCtorEq, exists_eq_left', implies_true, forall_const, Int.reduceLT, Int.reduceLE, Int.reduceEq, Int.reduceNeg, bindT, Nat.reduceMul, tis, flProc]
    · simp -implicitDefEqProofs (disch := omega) only [natNe, wk, indexAddrA, lenA, Nat.reduceAdd, Nat.reduceLeDiff, Nat.reduceEqDiff, if_true, if_false, reduceIte, reduceCtorEq, exists_eq_left', implies_true, forall_const, Int.reduceLT, Int.reduceLE, Int.reduceEq, Int.reduceNeg, bindT, Nat.reduceMul, tis, flProc]
    rintro m σ' ⟨T, H, NX, i, rfl, hNX, hov, b0, b1, t2, t3, t5, hm⟩
    simp -implicitDefEqProofs (disch := omega) only [natNe, wk, indexAddrA, lenA, Nat.reduceAdd, Nat.reduceLeDiff, Nat.reduceEqDiff, if_true, if_false, reduceIte, reduceCtorEq, exists_eq_left', implies_true, forall_const, Int.reduceLT, Int.reduceLE, Int.reduceEq, Int.reduceNeg, bindT, Nat.reduceMul, tis, b0, b1, t2, t3, t5, flProc, List.length_map, cutE_exit, cutE_ret]
    refine ⟨fun hi => ?_, fun hi => ?_⟩
    · obtain ⟨x, hx⟩ : ∃ x, p.nodes[i]? = some x := ⟨p.nodes[i], List.getElem?_eq_getElem hi⟩
      have hx' : (p.nodes.map flNode)[i]? = some (flNode x) := by simp [hx]
      have hfx := hp4 x (List.mem_of_getElem? hx)
      refine drawL (fun k => if k = NX + 10 then 1 else 2) [0, 0, 0, 0, 0, 2, 2, 0, 2, 2, 0, 0, 1, 0] [] (by kernel_rfl) ?_
      simp -implicitDefEqProofs (maxSteps := 2000000) (disch := omega) only [natNe, wk, indexAddrA, lenA, Nat.reduceAdd, Nat.reduceLeDiff, Nat.reduceEqDiff, if_true, if_false, reduceIte, reduceCtorEq, exists_eq_left', implies_true, forall_const, Int.reduceLT, Int.reduceLE, Int.reduceEq, Int.reduceNeg, bindT, Nat.reduceMul, tis, b0, b1, t2, t3, t5, flProc, hx', flNode, eq_self, decide_true, cutE_exit, cutE_ret, List.append, beq_self_eq_true]
      refine callX_fn (varsRefl hfx.1 ?_)
      simp -implicitDefEqProofs (maxSteps := 2000000) (disch := omega) only [natNe, wk, indexAddrA, lenA, Nat.reduceAdd, Nat.reduceLeDiff, Nat.reduceEqDiff, if_true, if_false, reduceIte, reduceCtorEq, exists_eq_left', implies_true, forall_const, Int.reduceLT, Int.reduceLE, Int.reduceEq, Int.reduceNeg, bindT, Nat.reduceMul, tis, b0, b1, t2, t3, t5, flProc, hx', flNode, eq_self, decide_true, cutE_exit, cutE_ret, List.append, beq_self_eq_true]
      refine callX_fn (textsRefl hfx.2 ?_)
      simp -implicitDefEqProofs (maxSteps := 2000000) (disch := omega) only [natNe, wk, indexAddrA, lenA, Nat.reduceAdd, Nat.reduceLeDiff, Nat.reduceEqDiff, if_true, if_false, reduceIte, reduceCtorEq, exists_eq_left', implies_true, forall_const, Int.reduceLT, Int.reduceLE, Int.reduceEq, Int.reduceNeg, bindT, Nat.reduceMul, tis, b0, b1, t2, t3, t5, flProc, hx', flNode, eq_self, decide_true, cutE_exit, cutE_ret, List.append, beq_self_eq_true]
      refine ⟨m - 1, by omega, _, _, _, i + 1, rfl, by omega, ?_, ?_, ?_, ?_, ?_, ?_, by omega⟩
      · intro k hk
        have := hov k hk
        simp -implicitDefEqProofs (disch := omega) only [natNe, wk, indexAddrA, lenA, Nat.reduceAdd, Nat.reduceLeDiff, Nat.reduceEqDiff, if_true, if_false, reduceIte, reduceCtorEq, exists_eq_left', implies_true, forall_const, Int.reduceLT, Int.reduceLE, Int.reduceEq, Int.reduceNeg, bindT, Nat.reduceMul, tis, this]
      · simp -implicitDefEqProofs (disch := omega) only [natNe, wk, indexAddrA, lenA, Nat.reduceAdd, Nat.reduceLeDiff, Nat.reduceEqDiff, if_true, if_false, reduceIte, reduceCtorEq, exists_eq_left', implies_true, forall_const, Int.reduceLT, Int.reduceLE, Int.reduceEq, Int.reduceNeg, bindT, Nat.reduceMul, tis, b0, flProc]
      · simp -implicitDefEqProofs (disch := omega) only [natNe, wk, indexAddrA, lenA, Nat.reduceAdd, Nat.reduceLeDiff, Nat.reduceEqDiff, if_true, if_false, reduceIte, reduceCtorEq, exists_eq_left', implies_true, forall_const, Int.reduceLT, Int.reduceLE, Int.reduceEq, Int.reduceNeg, bindT, Nat.reduceMul, tis, b1, flProc]
      · simp -implicitDefEqProofs (disch := omega) only [natNe, wk, indexAddrA, lenA, Nat.reduceAdd, Nat.reduceLeDiff, Nat.reduceEqDiff, if_true, if_false, reduceIte, reduceCtorEq, exists_eq_left', implies_true, forall_const, Int.reduceLT, Int.reduceLE, Int.reduceEq, Int.reduceNeg, bindT, Nat.reduceMul, tis, t2]
      · simp -implicitDefEqProofs (disch := omega) only [natNe, wk, indexAddrA, lenA, Nat.reduceAdd, Nat.reduceLeDiff, Nat.reduceEqDiff, if_true, if_false, reduceIte, reduceCtorEq, exists_eq_left', implies_true, forall_const, Int.reduceLT, Int.reduceLE, Int.reduceEq, Int.reduceNeg, bindT, Nat.reduceMul, tis, t3]
      · simp -implicitDefEqProofs (disch := omega) only [natNe, wk, indexAddrA, lenA, Nat.reduceAdd, Nat.reduceLeDiff, Nat.reduceEqDiff, if_true, if_false, reduceIte, reduceCtorEq, exists_eq_left', implies_true, forall_const, Int.reduceLT, Int.reduceLE, Int.reduceEq, Int.reduceNeg, bindT, Nat.reduceMul, tis, wrap_i64]
        rfl
    · refine ⟨_, _, _, rfl, hNX, hov, b0, b1, ?_, ?_⟩
      · simp -implicitDefEqProofs (disch := omega) only [natNe, wk, indexAddrA, lenA, Nat.reduceAdd, Nat.reduceLeDiff, Nat.reduceEqDiff, if_true, if_false, reduceIte, reduceCtorEq, exists_eq_left', implies_true, forall_const, Int.reduceLT, Int.reduceLE, Int.reduceEq, Int.reduceNeg, bindT, Nat.reduceMul, tis, t2]
      · simp -implicitDefEqProofs (disch := omega) only [natNe, wk, indexAddrA, lenA, Nat.reduceAdd, Nat.reduceLeDiff, Nat.reduceEqDiff, if_true, if_false, reduceIte, reduceCtorEq, exists_eq_left', implies_true, forall_const, Int.reduceLT, Int.reduceLE, Int.reduceEq, Int.reduceNeg, bindT, Nat.reduceMul, tis, t3]
end Go.Abs.Try
