/- Contracts: the stable sorting of a short row. -/
import Derived.Test.YtlmkmmkhfkdagaaSort
set_option linter.unusedVariables false
set_option linter.unusedSimpArgs false
set_option maxHeartbeats 4000000
set_option maxRecDepth 8000
namespace Go.Abs.Try
open Go Go.Abs Go.Proofs

theorem stable20 {h : Heap} {nx : Nat} {K : AV → Heap → Nat → Prop} {id g : Nat} {L : List CellM} (hl : look id h = some (.arr g 5 (L.map flCell))) (hid : id < nx) (hlen : L.length ≤ 20)
    (hk : ∀ L' nx', nx ≤ nx' → SortOk L L' 0 L.length → K (.tup []) (upd id (.arr g 5 (L'.map flCell)) h) nx') :
    ACall Try.prog 43 [.own id g 0, .sc (.int .i64 L.length), .fn (.func 30) []] h nx K := by
  refine ACall.of_body (c := Try.f43.body.getD .skip) mixed Try.func43 rfl (by kernel_rfl) (by rw [Try.ntmps43]; simp) (by kernel_rfl) ?_
  simp -implicitDefEqProofs only [Try.f43, Option.getD_some, Array.toList]
  simp -implicitDefEqProofs (disch := omega) only [natNe, wk, indexAddrA, lenA, Nat.reduceAdd, Nat.reduceLeDiff, Nat.reduceEqDiff, if_true, if_false, reduceIte, reduceCtorEq, exists_eq_left', implies_true, forall_const, Int.reduceLT, Int.reduceLE, Int.reduceEq, Int.reduceNeg, bindT, Nat.reduceMul, tis, wrap_i64]
  by_cases h20 : L.length = 20
  · refine loopX_ind (fun m σ => ∃ T H NX L', σ = ⟨T, H, NX, []⟩ ∧ H = upd id (.arr g 5 (L'.map flCell)) h ∧ nx ≤ NX ∧ look 0 T = some (.own id g 0) ∧ look 1 T = some (.sc (.int .i64 20)) ∧ look 2 T = some (.fn (.func 30) []) ∧ look 6 T = some (.sc (.int .i64 20)) ∧
        ((m = 1 ∧ look 7 T = some (.sc (.int .i64 0)) ∧ look 8 T = some (.sc (.int .i64 20)) ∧ L' = L) ∨ (m = 0 ∧ look 7 T = some (.sc (.int .i64 20)) ∧ look 8 T = some (.sc (.int .i64 40)) ∧ SortOk L L' 0 20))) 1 ⟨_, _, _, L, rfl, (upd_self hl).symm, Nat.le_refl _, rfl, by rw [h20]; rfl, rfl, rfl, .inl ⟨rfl, rfl, rfl, rfl⟩⟩ ?_
    rintro m σ' ⟨T, _, NX, L', rfl, rfl, hNX, t0, t1, t2, t6, ⟨rfl, t7, t8, rfl⟩ | ⟨rfl, t7, t8, ok⟩⟩
    · simp -implicitDefEqProofs (disch := omega) only [natNe, wk, indexAddrA, lenA, Nat.reduceAdd, Nat.reduceLeDiff, Nat.reduceEqDiff, if_true, if_false, reduceIte, reduceCtorEq, exists_eq_left', implies_true, forall_const, Int.reduceLT, Int.reduceLE, Int.reduceEq, Int.reduceNeg, bindT, Nat.reduceMul, tis, t0, t1, t2, t6, t7, t8, wrap_i64, Int.reduceLE]
      refine callX_fn (insSort (a := 0) (b := 20) (L := L') (by rw [upd_self hl]; exact hl) (by dsimp only; omega) (by omega) (by omega) (by omega) (fun L2 nx' hnx ok => ?_))
      rw [upd_upd]
      simp -implicitDefEqProofs (disch := omega) only [natNe, wk, indexAddrA, lenA, Nat.reduceAdd, Nat.reduceLeDiff, Nat.reduceEqDiff, if_true, if_false, reduceIte, reduceCtorEq, exists_eq_left', implies_true, forall_const, Int.reduceLT, Int.reduceLE, Int.reduceEq, Int.reduceNeg, bindT, Nat.reduceMul, tis, t0, t1, t2, t6, t7, t8, wrap_i64, Int.reduceLE]
      refine ⟨0, by omega, _, _, nx', L2, rfl, rfl, by dsimp only at hnx; omega, ?_, ?_, ?_, ?_, .inr ⟨rfl, ?_, ?_, ok⟩⟩
      · simp -implicitDefEqProofs (disch := omega) only [natNe, wk, indexAddrA, lenA, Nat.reduceAdd, Nat.reduceLeDiff, Nat.reduceEqDiff, if_true, if_false, reduceIte, reduceCtorEq, exists_eq_left', implies_true, forall_const, Int.reduceLT, Int.reduceLE, Int.reduceEq, Int.reduceNeg, bindT, Nat.reduceMul, tis, t0]
      · simp -implicitDefEqProofs (disch := omega) only [natNe, wk, indexAddrA, lenA, Nat.reduceAdd, Nat.reduceLeDiff, Nat.reduceEqDiff, if_true, if_false, reduceIte, reduceCtorEq, exists_eq_left', implies_true, forall_const, Int.reduceLT, Int.reduceLE, Int.reduceEq, Int.reduceNeg, bindT, Nat.reduceMul, tis, t1]
      · simp -implicitDefEqProofs (disch := omega) only [natNe, wk, indexAddrA, lenA, Nat.reduceAdd, Nat.reduceLeDiff, Nat.reduceEqDiff, if_true, if_false, reduceIte, reduceCtorEq, exists_eq_left', implies_true, forall_const, Int.reduceLT, Int.reduceLE, Int.reduceEq, Int.reduceNeg, bindT, Nat.reduceMul, tis, t2]
      · simp -implicitDefEqProofs (disch := omega) only [natNe, wk, indexAddrA, lenA, Nat.reduceAdd, Nat.reduceLeDiff, Nat.reduceEqDiff, if_true, if_false, reduceIte, reduceCtorEq, exists_eq_left', implies_true, forall_const, Int.reduceLT, Int.reduceLE, Int.reduceEq, Int.reduceNeg, bindT, Nat.reduceMul, tis, t6]
      · simp -implicitDefEqProofs (disch := omega) only [natNe, wk, indexAddrA, lenA, Nat.reduceAdd, Nat.reduceLeDiff, Nat.reduceEqDiff, if_true, if_false, reduceIte, reduceCtorEq, exists_eq_left', implies_true, forall_const, Int.reduceLT, Int.reduceLE, Int.reduceEq, Int.reduceNeg, bindT, Nat.reduceMul, tis]
      · simp -implicitDefEqProofs (disch := omega) only [natNe, wk, indexAddrA, lenA, Nat.reduceAdd, Nat.reduceLeDiff, Nat.reduceEqDiff, if_true, if_false, reduceIte, reduceCtorEq, exists_eq_left', implies_true, forall_const, Int.reduceLT, Int.reduceLE, Int.reduceEq, Int.reduceNeg, bindT, Nat.reduceMul, tis, Int.reduceAdd]
    · have hl20 := ok.len
      simp -implicitDefEqProofs (disch := omega) only [natNe, wk, indexAddrA, lenA, Nat.reduceAdd, Nat.reduceLeDiff, Nat.reduceEqDiff, if_true, if_false, reduceIte, reduceCtorEq, exists_eq_left', implies_true, forall_const, Int.reduceLT, Int.reduceLE, Int.reduceEq, Int.reduceNeg, bindT, Nat.reduceMul, tis, t0, t1, t2, t6, t7, t8, wrap_i64, Int.reduceLE]
      refine callX_fn (insSort (a := 20) (b := 20) (L := L') (g := g) (look_updS hl) (by dsimp only; omega) (by omega) (by omega) (by omega) (fun L2 nx' hnx ok2 => ?_))
      rw [upd_upd]
      simp -implicitDefEqProofs (disch := omega) only [natNe, wk, indexAddrA, lenA, Nat.reduceAdd, Nat.reduceLeDiff, Nat.reduceEqDiff, if_true, if_false, reduceIte, reduceCtorEq, exists_eq_left', implies_true, forall_const, Int.reduceLT, Int.reduceLE, Int.reduceEq, Int.reduceNeg, bindT, Nat.reduceMul, tis, t0, t1, t2, t6, t7, t8, wrap_i64, Int.reduceLE]
      refine loopX_ind (fun m σ => ∃ T, σ = ⟨T, upd id (.arr g 5 (L2.map flCell)) h, nx', []⟩ ∧ look 1 T = some (.sc (.int .i64 20)) ∧ look 6 T = some (.sc (.int .i64 20))) 0 ⟨_, rfl, ?_, ?_⟩ ?_
      · simp -implicitDefEqProofs (disch := omega) only [natNe, wk, indexAddrA, lenA, Nat.reduceAdd, Nat.reduceLeDiff, Nat.reduceEqDiff, if_true, if_false, reduceIte, reduceCtorEq, exists_eq_left', implies_true, forall_const, Int.reduceLT, Int.reduceLE, Int.reduceEq, Int.reduceNeg, bindT, Nat.reduceMul, tis, t1]
      · simp -implicitDefEqProofs (disch := omega) only [natNe, wk, indexAddrA, lenA, Nat.reduceAdd, Nat.reduceLeDiff, Nat.reduceEqDiff, if_true, if_false, reduceIte, reduceCtorEq, exists_eq_left', implies_true, forall_const, Int.reduceLT, Int.reduceLE, Int.reduceEq, Int.reduceNeg, bindT, Nat.reduceMul, tis, t6]
      rintro m σ' ⟨T, rfl, t1, t6⟩
      simp -implicitDefEqProofs (disch := omega) only [natNe, wk, indexAddrA, lenA, Nat.reduceAdd, Nat.reduceLeDiff, Nat.reduceEqDiff, if_true, if_false, reduceIte, reduceCtorEq, exists_eq_left', implies_true, forall_const, Int.reduceLT, Int.reduceLE, Int.reduceEq, Int.reduceNeg, bindT, Nat.reduceMul, tis, t1, t6]
      exact .keep (hk L2 nx' (by dsimp only at hnx; omega) (by rw [h20]; exact ok.trans20 ok2))
  · refine loopX_ind (fun m σ => ∃ T, σ = ⟨T, h, nx, []⟩ ∧ look 0 T = some (.own id g 0) ∧ look 1 T = some (.sc (.int .i64 L.length)) ∧ look 2 T = some (.fn (.func 30) []) ∧ look 6 T = some (.sc (.int .i64 20)) ∧ look 7 T = some (.sc (.int .i64 0)) ∧ look 8 T = some (.sc (.int .i64 20))) 0 ⟨_, rfl, rfl, rfl, rfl, rfl, rfl, rfl⟩ ?_
    rintro m σ' ⟨T, rfl, t0, t1, t2, t6, t7, t8⟩
    have hc : ¬ ((20 : Int) ≤ L.length) := by omega
    simp -implicitDefEqProofs (disch := omega) only [natNe, wk, indexAddrA, lenA, Nat.reduceAdd, Nat.reduceLeDiff, Nat.reduceEqDiff, if_true, if_false, reduceIte, reduceCtorEq, exists_eq_left', implies_true, forall_const, Int.reduceLT, Int.reduceLE, Int.reduceEq, Int.reduceNeg, bindT, Nat.reduceMul, tis, t0, t1, t2, t6, t7, t8, hc]
    refine callX_fn (insSort (a := 0) (b := L.length) (L := L) (g := g) hl hid (by omega) (by omega) (by omega) (fun L2 nx' hnx ok2 => ?_))
    simp -implicitDefEqProofs (disch := omega) only [natNe, wk, indexAddrA, lenA, Nat.reduceAdd, Nat.reduceLeDiff, Nat.reduceEqDiff, if_true, if_false, reduceIte, reduceCtorEq, exists_eq_left', implies_true, forall_const, Int.reduceLT, Int.reduceLE, Int.reduceEq, Int.reduceNeg, bindT, Nat.reduceMul, tis, t0, t1, t2, t6, t7, t8]
    refine loopX_ind (fun m σ => ∃ T, σ = ⟨T, upd id (.arr g 5 (L2.map flCell)) h, nx', []⟩ ∧ look 1 T = some (.sc (.int .i64 L.length)) ∧ look 6 T = some (.sc (.int .i64 20))) 0 ⟨_, rfl, ?_, ?_⟩ ?_
    · simp -implicitDefEqProofs (disch := omega) only [natNe, wk, indexAddrA, lenA, Nat.reduceAdd, Nat.reduceLeDiff, Nat.reduceEqDiff, if_true, if_false, reduceIte, reduceCtorEq, exists_eq_left', implies_true, forall_const, Int.reduceLT, Int.reduceLE, Int.reduceEq, Int.reduceNeg, bindT, Nat.reduceMul, tis, t1]
    · simp -implicitDefEqProofs (disch := omega) only [natNe, wk, indexAddrA, lenA, Nat.reduceAdd, Nat.reduceLeDiff, Nat.reduceEqDiff, if_true, if_false, reduceIte, reduceCtorEq, exists_eq_left', implies_true, forall_const, Int.reduceLT, Int.reduceLE, Int.reduceEq, Int.reduceNeg, bindT, Nat.reduceMul, tis, t6]
    rintro m σ' ⟨T, rfl, t1, t6⟩
    have hc2 : ¬ ((20 : Int) < L.length) := by omega
    simp -implicitDefEqProofs (disch := omega) only [natNe, wk, indexAddrA, lenA, Nat.reduceAdd, Nat.reduceLeDiff, Nat.reduceEqDiff, if_true, if_false, reduceIte, reduceCtorEq, exists_eq_left', implies_true, forall_const, Int.reduceLT, Int.reduceLE, Int.reduceEq, Int.reduceNeg, bindT, Nat.reduceMul, tis, t1, t6, hc2]
    exact .keep (hk L2 nx' hnx ok2)

/-- Of no row at all. -/
theorem insSort0 {h : Heap} {nx : Nat} {K : AV → Heap → Nat → Prop} {f : AV} (hk : K (.tup []) h nx) :
    ACall Try.prog 54 [.emp, .sc (.int .i64 0), .sc (.int .i64 0), f] h nx K := by
  refine ACall.of_body (c := Try.f54.body.getD .skip) mixed Try.func54 rfl (by kernel_rfl) (by rw [Try.ntmps54]; simp) (by kernel_rfl) ?_
  simp -implicitDefEqProofs only [Try.f54, Option.getD_some, Array.toList]
  simp -implicitDefEqProofs (disch := omega) only [natNe, wk, indexAddrA, lenA, Nat.reduceAdd, Nat.reduceLeDiff, Nat.reduceEqDiff, if_true, if_false, reduceIte, reduceCtorEq, exists_eq_left', implies_true, forall_const, Int.reduceLT, Int.reduceLE, Int.reduceEq, Int.reduceNeg, bindT, Nat.reduceMul, tis, wrap_i64]
  refine loopX_ind (fun m σ => ∃ T, σ = ⟨T, h, nx, []⟩ ∧ look 2 T = some (.sc (.int .i64 0)) ∧ look 8 T = some (.sc (.int .i64 1))) 0 ⟨_, rfl, rfl, rfl⟩ ?_
  rintro m σ' ⟨T, rfl, t2, t8⟩
  simp -implicitDefEqProofs (disch := omega) only [natNe, wk, indexAddrA, lenA, Nat.reduceAdd, Nat.reduceLeDiff, Nat.reduceEqDiff, if_true, if_false, reduceIte, reduceCtorEq, exists_eq_left', implies_true, forall_const, Int.reduceLT, Int.reduceLE, Int.reduceEq, Int.reduceNeg, bindT, Nat.reduceMul, tis, t2, t8]
  exact .keep hk

theorem stable0 {h : Heap} {nx : Nat} {K : AV → Heap → Nat → Prop} {f : AV} (hk : K (.tup []) h nx) :
    ACall Try.prog 43 [.emp, .sc (.int .i64 0), f] h nx K := by
  refine ACall.of_body (c := Try.f43.body.getD .skip) mixed Try.func43 rfl (by kernel_rfl) (by rw [Try.ntmps43]; simp) (by kernel_rfl) ?_
  simp -implicitDefEqProofs only [Try.f43, Option.getD_some, Array.toList]
  simp -implicitDefEqProofs (disch := omega) only [natNe, wk, indexAddrA, lenA, Nat.reduceAdd, Nat.reduceLeDiff, Nat.reduceEqDiff, if_true, if_false, reduceIte, reduceCtorEq, exists_eq_left', implies_true, forall_const, Int.reduceLT, Int.reduceLE, Int.reduceEq, Int.reduceNeg, bindT, Nat.reduceMul, tis, wrap_i64]
  refine loopX_ind (fun m σ => ∃ T, σ = ⟨T, h, nx, []⟩ ∧ look 0 T = some .emp ∧ look 1 T = some (.sc (.int .i64 0)) ∧ look 2 T = some f ∧ look 6 T = some (.sc (.int .i64 20)) ∧ look 7 T = some (.sc (.int .i64 0)) ∧ look 8 T = some (.sc (.int .i64 20))) 0 ⟨_, rfl, rfl, rfl, rfl, rfl, rfl, rfl⟩ ?_
  rintro m σ' ⟨T, rfl, t0, t1, t2, t6, t7, t8⟩
  simp -implicitDefEqProofs (disch := omega) only [natNe, wk, indexAddrA, lenA, Nat.reduceAdd, Nat.reduceLeDiff, Nat.reduceEqDiff, if_true, if_false, reduceIte, reduceCtorEq, exists_eq_left', implies_true, forall_const, Int.reduceLT, Int.reduceLE, Int.reduceEq, Int.reduceNeg, bindT, Nat.reduceMul, tis, t0, t1, t2, t6, t7, t8]
  refine callX_fn (insSort0 ?_)
  simp -implicitDefEqProofs (disch := omega) only [natNe, wk, indexAddrA, lenA, Nat.reduceAdd, Nat.reduceLeDiff, Nat.reduceEqDiff, if_true, if_false, reduceIte, reduceCtorEq, exists_eq_left', implies_true, forall_const, Int.reduceLT, Int.reduceLE, Int.reduceEq, Int.reduceNeg, bindT, Nat.reduceMul, tis, t0, t1, t2, t6, t7, t8]
  refine loopX_ind (fun m σ => ∃ T, σ = ⟨T, h, nx, []⟩ ∧ look 1 T = some (.sc (.int .i64 0)) ∧ look 6 T = some (.sc (.int .i64 20))) 0 ⟨_, rfl, ?_, ?_⟩ ?_
  · simp -implicitDefEqProofs (disch := omega) only [natNe, wk, indexAddrA, lenA, Nat.reduceAdd, Nat.reduceLeDiff, Nat.reduceEqDiff, if_true, if_false, reduceIte, reduceCtorEq, exists_eq_left', implies_true, forall_const, Int.reduceLT, Int.reduceLE, Int.reduceEq, Int.reduceNeg, bindT, Nat.reduceMul, tis, t1]
  · simp -implicitDefEqProofs (disch := omega) only [natNe, wk, indexAddrA, lenA, Nat.reduceAdd, Nat.reduceLeDiff, Nat.reduceEqDiff, if_true, if_false, reduceIte, reduceCtorEq, exists_eq_left', implies_true, forall_const, Int.reduceLT, Int.reduceLE, Int.reduceEq, Int.reduceNeg, bindT, Nat.reduceMul, tis, t6]
  rintro m σ' ⟨T, rfl, t1, t6⟩
  simp -implicitDefEqProofs (disch := omega) only [natNe, wk, indexAddrA, lenA, Nat.reduceAdd, Nat.reduceLeDiff, Nat.reduceEqDiff, if_true, if_false, reduceIte, reduceCtorEq, exists_eq_left', implies_true, forall_const, Int.reduceLT, Int.reduceLE, Int.reduceEq, Int.reduceNeg, bindT, Nat.reduceMul, tis, t1, t6]
  exact .keep hk

theorem sortStable0 {h : Heap} {nx : Nat} {K : AV → Heap → Nat → Prop} {f : AV} (hk : K (.tup []) h nx) :
    ACall Try.prog 29 [.emp, f] h nx K := by
  refine ACall.of_body (c := Try.f29.body.getD .skip) mixed Try.func29 rfl (by kernel_rfl) (by rw [Try.ntmps29]; simp) (by kernel_rfl) ?_
  simp -implicitDefEqProofs only [Try.f29, Option.getD_some, Array.toList]
  simp -implicitDefEqProofs (disch := omega) only [natNe, wk, indexAddrA, lenA, Nat.reduceAdd, Nat.reduceLeDiff, Nat.reduceEqDiff, if_true, if_false, reduceIte, reduceCtorEq, exists_eq_left', implies_true, forall_const, Int.reduceLT, Int.reduceLE, Int.reduceEq, Int.reduceNeg, bindT, Nat.reduceMul, tis, List.length_nil, Int.natCast_zero, Int.cast_ofNat_Int, Int.reduceToNat]
  refine callX_fn (stable0 ?_)
  simp -implicitDefEqProofs (disch := omega) only [natNe, wk, indexAddrA, lenA, Nat.reduceAdd, Nat.reduceLeDiff, Nat.reduceEqDiff, if_true, if_false, reduceIte, reduceCtorEq, exists_eq_left', implies_true, forall_const, Int.reduceLT, Int.reduceLE, Int.reduceEq, Int.reduceNeg, bindT, Nat.reduceMul, tis]
  exact .keep hk

theorem sortStable20 {h : Heap} {nx : Nat} {K : AV → Heap → Nat → Prop} {id g : Nat} {L : List CellM} (hl : look id h = some (.arr g 5 (L.map flCell))) (hid : id < nx) (hlen : L.length ≤ 20)
    (hk : ∀ L' nx', nx ≤ nx' → SortOk L L' 0 L.length → K (.tup []) (upd id (.arr g 5 (L'.map flCell)) h) nx') :
    ACall Try.prog 29 [.own id g 0, .fn (.func 30) []] h nx K := by
  refine ACall.of_body (c := Try.f29.body.getD .skip) mixed Try.func29 rfl (by kernel_rfl) (by rw [Try.ntmps29]; simp) (by kernel_rfl) ?_
  simp -implicitDefEqProofs only [Try.f29, Option.getD_some, Array.toList]
  simp -implicitDefEqProofs (disch := omega) only [natNe, wk, indexAddrA, lenA, Nat.reduceAdd, Nat.reduceLeDiff, Nat.reduceEqDiff, if_true, if_false, reduceIte, reduceCtorEq, exists_eq_left', implies_true, forall_const, Int.reduceLT, Int.reduceLE, Int.reduceEq, Int.reduceNeg, bindT, Nat.reduceMul, tis, hl, List.length_map]
  refine callX_fn (stable20 hl hid hlen (fun L2 nx' hnx ok => ?_))
  simp -implicitDefEqProofs (disch := omega) only [natNe, wk, indexAddrA, lenA, Nat.reduceAdd, Nat.reduceLeDiff, Nat.reduceEqDiff, if_true, if_false, reduceIte, reduceCtorEq, exists_eq_left', implies_true, forall_const, Int.reduceLT, Int.reduceLE, Int.reduceEq, Int.reduceNeg, bindT, Nat.reduceMul, tis]
  exact .keep (hk L2 nx' hnx ok)
end Go.Abs.Try
