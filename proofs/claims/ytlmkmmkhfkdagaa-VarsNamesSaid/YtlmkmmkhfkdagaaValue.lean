/- Contracts: which values may be. -/
import Derived.Test.YtlmkmmkhfkdagaaCells
set_option linter.unusedVariables false
set_option linter.unusedSimpArgs false
set_option maxHeartbeats 4000000
set_option maxRecDepth 8000
namespace Go.Abs.Try
open Go Go.Abs Go.Proofs

theorem vNum {h : Heap} {nx : Nat} {K : AV → Heap → Nat → Prop} {n : Int} (hk : K (.agg (flVal ⟨1, n, ⟨#[]⟩⟩)) h nx) : ACall Try.prog 57 [.sc (.int .i64 n)] h nx K := by
  refine ACall.of_body (c := Try.f57.body.getD .skip) mixed Try.func57 rfl (by kernel_rfl) (by rw [Try.ntmps57]; simp) (by kernel_rfl) ?_
  simp -implicitDefEqProofs only [Try.f57, Option.getD_some, Array.toList]
  simp -implicitDefEqProofs only [wk, indexAddrA, lenA, Nat.reduceAdd, Nat.reduceLeDiff, Nat.reduceEqDiff, if_true, if_false, reduceIte, reduceCtorEq, exists_eq_left', implies_true, forall_const, Int.reduceLT, Int.reduceLE, Int.reduceEq, Int.reduceNeg, bindT, Nat.reduceMul, tis]
  refine .pure _ ?_ ?_ hk
  · repeat (first | exact over_refl | refine over_hc (by omega) ?_ | refine over_upd (by omega) ?_ | refine over_del (by omega) ?_)
  · repeat (first | exact Fz.same rfl | exact FzL.nil _ _ | refine Fz.tup' ?_ | refine Fz.agg' ?_ | refine FzL.cons ?_ ?_)

theorem vText {h : Heap} {nx : Nat} {K : AV → Heap → Nat → Prop} {s : ByteArray} (hk : K (.agg (flVal ⟨3, 0, s⟩)) h nx) : ACall Try.prog 59 [.sc (.string s)] h nx K := by
  refine ACall.of_body (c := Try.f59.body.getD .skip) mixed Try.func59 rfl (by kernel_rfl) (by rw [Try.ntmps59]; simp) (by kernel_rfl) ?_
  simp -implicitDefEqProofs only [Try.f59, Option.getD_some, Array.toList]
  simp -implicitDefEqProofs only [wk, indexAddrA, lenA, Nat.reduceAdd, Nat.reduceLeDiff, Nat.reduceEqDiff, if_true, if_false, reduceIte, reduceCtorEq, exists_eq_left', implies_true, forall_const, Int.reduceLT, Int.reduceLE, Int.reduceEq, Int.reduceNeg, bindT, Nat.reduceMul, tis]
  refine .pure _ ?_ ?_ hk
  · repeat (first | exact over_refl | refine over_hc (by omega) ?_ | refine over_upd (by omega) ?_ | refine over_del (by omega) ?_)
  · repeat (first | exact Fz.same rfl | exact FzL.nil _ _ | refine Fz.tup' ?_ | refine Fz.agg' ?_ | refine FzL.cons ?_ ?_)

theorem vTruth {h : Heap} {nx : Nat} {K : AV → Heap → Nat → Prop} {b : Bool} (hk : K (.agg (flVal ⟨2, if b then 1 else 0, ⟨#[]⟩⟩)) h nx) : ACall Try.prog 58 [.sc (.bool b)] h nx K := by
  refine ACall.of_body (c := Try.f58.body.getD .skip) mixed Try.func58 rfl (by kernel_rfl) (by rw [Try.ntmps58]; simp) (by kernel_rfl) ?_
  simp -implicitDefEqProofs only [Try.f58, Option.getD_some, Array.toList]
  cases b with
  | true =>
    simp -implicitDefEqProofs (disch := omega) only [natNe, wk, indexAddrA, lenA, Nat.reduceAdd, Nat.reduceLeDiff, Nat.reduceEqDiff, if_true, if_false, reduceIte, reduceCtorEq, exists_eq_left', implies_true, forall_const, Int.reduceLT, Int.reduceLE, Int.reduceEq, Int.reduceNeg, bindT, Nat.reduceMul, tis]
    refine .pure _ ?_ ?_ hk
    · repeat (first | exact over_refl | refine over_hc (by omega) ?_ | refine over_upd (by omega) ?_ | refine over_del (by omega) ?_)
    · repeat (first | exact Fz.same rfl | exact FzL.nil _ _ | refine Fz.tup' ?_ | refine Fz.agg' ?_ | refine FzL.cons ?_ ?_)
  | false =>
    simp -implicitDefEqProofs (disch := omega) only [natNe, wk, indexAddrA, lenA, Nat.reduceAdd, Nat.reduceLeDiff, Nat.reduceEqDiff, if_true, if_false, reduceIte, reduceCtorEq, exists_eq_left', implies_true, forall_const, Int.reduceLT, Int.reduceLE, Int.reduceEq, Int.reduceNeg, bindT, Nat.reduceMul, tis]
    refine .pure _ ?_ ?_ hk
    · repeat (first | exact over_refl | refine over_hc (by omega) ?_ | refine over_upd (by omega) ?_ | refine over_del (by omega) ?_)
    · repeat (first | exact Fz.same rfl | exact FzL.nil _ _ | refine Fz.tup' ?_ | refine Fz.agg' ?_ | refine FzL.cons ?_ ?_)

theorem vPlain {h : Heap} {nx : Nat} {K : AV → Heap → Nat → Prop} {s : ByteArray} (hs : s.size ≤ 9223372036854775807) (hk : K (.sc (.bool (plainM s))) h nx) : ACall Try.prog 60 [.sc (.string s)] h nx K := by
  refine ACall.of_body (c := Try.f60.body.getD .skip) mixed Try.func60 rfl (by kernel_rfl) (by rw [Try.ntmps60]; simp) (by kernel_rfl) ?_
  simp -implicitDefEqProofs only [Try.f60, Option.getD_some, Array.toList]
  simp -implicitDefEqProofs only [wk, indexAddrA, lenA, Nat.reduceAdd, Nat.reduceLeDiff, Nat.reduceEqDiff, if_true, if_false, reduceIte, reduceCtorEq, exists_eq_left', implies_true, forall_const, Int.reduceLT, Int.reduceLE, Int.reduceEq, Int.reduceNeg, bindT, Nat.reduceMul, tis]
  refine loopX_ind (fun m σ => ∃ T i, σ = ⟨T, h, nx, []⟩ ∧ look 0 T = some (.sc (.string s)) ∧ look 5 T = some (.sc (.int .i64 s.size)) ∧ look 6 T = some (.sc (.int .i64 (i : Nat))) ∧ m + i = s.size ∧
      (∀ j b, j < i → s[j]? = some b → okByte b = true)) s.size ⟨_, 0, rfl, rfl, rfl, rfl, rfl, fun j x hj => by omega⟩ ?_
  rintro m σ' ⟨T, i, rfl, h0, h5, h6, hm, hok⟩
  simp -implicitDefEqProofs only [wk, indexAddrA, lenA, Nat.reduceAdd, Nat.reduceLeDiff, Nat.reduceEqDiff, if_true, if_false, reduceIte, reduceCtorEq, exists_eq_left', implies_true, forall_const, Int.reduceLT, Int.reduceLE, Int.reduceEq, Int.reduceNeg, bindT, Nat.reduceMul, tis, h0, h5, h6, indexA]
  refine ⟨fun hi => ?_, fun hi => ?_⟩
  · obtain ⟨b, hb⟩ : ∃ b, s[i]? = some b := ⟨s[i], getElem?_pos s i hi⟩
    have hbad : okByte b = false → plainM s = false := fun hob => by
      unfold plainM
      rw [Bool.and_eq_false_iff]
      left
      rw [List.all_eq_false]
      exact ⟨i, List.mem_range.2 hi, by unfold okAt; rw [hb]; simp [hob]⟩
    by_cases b1 : (b.toNat : Int) < 32
    · rw [hbad (by unfold okByte; have : ¬ 32 ≤ b.toNat := by omega
                   simp [this])] at hk
      simp -implicitDefEqProofs only [wk, indexAddrA, lenA, Nat.reduceAdd, Nat.reduceLeDiff, Nat.reduceEqDiff, if_true, if_false, reduceIte, reduceCtorEq, exists_eq_left', implies_true, forall_const, Int.reduceLT, Int.reduceLE, Int.reduceEq, Int.reduceNeg, bindT, Nat.reduceMul, tis, hb, b1, h0, h5, h6, indexA]
      exact .keep hk
    · by_cases b2 : (126 : Int) < (b.toNat : Int)
      · rw [hbad (by unfold okByte; have : ¬ b.toNat ≤ 126 := by omega
                     simp [this])] at hk
        simp -implicitDefEqProofs only [wk, indexAddrA, lenA, Nat.reduceAdd, Nat.reduceLeDiff, Nat.reduceEqDiff, if_true, if_false, reduceIte, reduceCtorEq, exists_eq_left', implies_true, forall_const, Int.reduceLT, Int.reduceLE, Int.reduceEq, Int.reduceNeg, bindT, Nat.reduceMul, tis, hb, b1, b2, h0, h5, h6, indexA]
        exact .keep hk
      · by_cases b3 : (b.toNat : Int) = 39
        · rw [hbad (by unfold okByte; have : b.toNat = 39 := by omega
                       simp [this])] at hk
          simp -implicitDefEqProofs only [wk, indexAddrA, lenA, Nat.reduceAdd, Nat.reduceLeDiff, Nat.reduceEqDiff, if_true, if_false, reduceIte, reduceCtorEq, exists_eq_left', implies_true, forall_const, Int.reduceLT, Int.reduceLE, Int.reduceEq, Int.reduceNeg, bindT, Nat.reduceMul, tis, hb, b1, b2, b3, h0, h5, h6, indexA]
          exact .keep hk
        · simp -implicitDefEqProofs only [wk, indexAddrA, lenA, Nat.reduceAdd, Nat.reduceLeDiff, Nat.reduceEqDiff, if_true, if_false, reduceIte, reduceCtorEq, exists_eq_left', implies_true, forall_const, Int.reduceLT, Int.reduceLE, Int.reduceEq, Int.reduceNeg, bindT, Nat.reduceMul, tis, hb, b1, b2, b3, h0, h5, h6, indexA]
          refine ⟨m - 1, by omega, _, i + 1, rfl, ?_, ?_, ?_, by omega, fun j y hj hy => ?_⟩
          · simp -implicitDefEqProofs only [wk, indexAddrA, lenA, Nat.reduceAdd, Nat.reduceLeDiff, Nat.reduceEqDiff, if_true, if_false, reduceIte, reduceCtorEq, exists_eq_left', implies_true, forall_const, Int.reduceLT, Int.reduceLE, Int.reduceEq, Int.reduceNeg, bindT, Nat.reduceMul, tis, h0]
          · simp -implicitDefEqProofs only [wk, indexAddrA, lenA, Nat.reduceAdd, Nat.reduceLeDiff, Nat.reduceEqDiff, if_true, if_false, reduceIte, reduceCtorEq, exists_eq_left', implies_true, forall_const, Int.reduceLT, Int.reduceLE, Int.reduceEq, Int.reduceNeg, bindT, Nat.reduceMul, tis, h5]
          · simp -implicitDefEqProofs only [wk, indexAddrA, lenA, Nat.reduceAdd, Nat.reduceLeDiff, Nat.reduceEqDiff, if_true, if_false, reduceIte, reduceCtorEq, exists_eq_left', implies_true, forall_const, Int.reduceLT, Int.reduceLE, Int.reduceEq, Int.reduceNeg, bindT, Nat.reduceMul, tis]
            rw [wrap_i64 (by omega) (by omega)]
            rfl
          · by_cases e : j = i
            · subst e
              rw [hb] at hy
              cases hy
              unfold okByte
              have c1 : 32 ≤ b.toNat := by omega
              have c2 : b.toNat ≤ 126 := by omega
              have c3 : b.toNat ≠ 39 := by omega
              simp [c1, c2, c3]
            · exact hok j y (by omega) hy
  · have : plainM s = decide ((s.size : Int) ≤ 40) := by
      unfold plainM
      have h1 : (List.range s.size).all (okAt s) = true := by
        rw [List.all_eq_true]
        intro j hj
        have hjl := List.mem_range.1 hj
        have hb := getElem?_pos s j hjl
        unfold okAt
        rw [hb]
        exact hok j _ (by omega) hb
      rw [h1, Bool.true_and]
      exact decide_eq_decide.2 (by omega)
    rw [this] at hk
    exact .keep hk

theorem vMay {h : Heap} {nx : Nat} {K : AV → Heap → Nat → Prop} {v : ValM} (hs : v.t.size ≤ 9223372036854775807) (hk : K (.sc (.bool (mayM v))) h nx) : ACall Try.prog 50 [.agg (flVal v)] h nx K := by
  refine ACall.of_body (c := Try.f50.body.getD .skip) mixed Try.func50 rfl (by kernel_rfl) (by rw [Try.ntmps50]; simp) (by kernel_rfl) ?_
  simp -implicitDefEqProofs only [Try.f50, Option.getD_some, Array.toList]
  have fin : ∀ (b : Bool) (H : Heap) (N : Nat), (∀ j, j < nx → look j H = look j h) → b = mayM v → Fin nx h K (.sc (.bool b)) H N := fun b H N ho hb => by
    rw [← hb] at hk
    exact .pure _ ho (.same rfl) hk
  obtain ⟨kind, n, t⟩ := v
  by_cases k0 : kind = 0
  · subst k0
    simp -implicitDefEqProofs (disch := omega) only [natNe, wk, indexAddrA, lenA, Nat.reduceAdd, Nat.reduceLeDiff, Nat.reduceEqDiff, if_true, if_false, reduceIte, reduceCtorEq, exists_eq_left', implies_true, forall_const, Int.reduceLT, Int.reduceLE, Int.reduceEq, Int.reduceNeg, bindT, Nat.reduceMul, tis, flVal]
    refine fin _ _ _ ?_ ?_
    · repeat (first | exact over_refl | refine over_hc (by omega) ?_ | refine over_upd (by omega) ?_ | refine over_del (by omega) ?_)
    · simp [mayM, zVal]
  · by_cases k1 : kind = 1
    · subst k1
      simp -implicitDefEqProofs (disch := omega) only [natNe, wk, indexAddrA, lenA, Nat.reduceAdd, Nat.reduceLeDiff, Nat.reduceEqDiff, if_true, if_false, reduceIte, reduceCtorEq, exists_eq_left', implies_true, forall_const, Int.reduceLT, Int.reduceLE, Int.reduceEq, Int.reduceNeg, bindT, Nat.reduceMul, tis, flVal]
      refine draw0 (by kernel_rfl) ?_
      simp -implicitDefEqProofs (disch := omega) only [natNe, wk, indexAddrA, lenA, Nat.reduceAdd, Nat.reduceLeDiff, Nat.reduceEqDiff, if_true, if_false, reduceIte, reduceCtorEq, exists_eq_left', implies_true, forall_const, Int.reduceLT, Int.reduceLE, Int.reduceEq, Int.reduceNeg, bindT, Nat.reduceMul, tis, flVal]
      refine callD_fn (.agg (flVal ⟨1, n, ⟨#[]⟩⟩)) (.aggF rfl) (fun h nx K hk => vNum hk) ?_
      simp -implicitDefEqProofs (disch := omega) only [natNe, wk, indexAddrA, lenA, Nat.reduceAdd, Nat.reduceLeDiff, Nat.reduceEqDiff, if_true, if_false, reduceIte, reduceCtorEq, exists_eq_left', implies_true, forall_const, Int.reduceLT, Int.reduceLE, Int.reduceEq, Int.reduceNeg, bindT, Nat.reduceMul, tis, flVal]
      refine fin _ _ _ ?_ ?_
      · repeat (first | exact over_refl | refine over_hc (by omega) ?_ | refine over_upd (by omega) ?_ | refine over_del (by omega) ?_)
      · simp [mayM]
    · by_cases k2 : kind = 2
      · subst k2
        simp -implicitDefEqProofs (disch := omega) only [natNe, wk, indexAddrA, lenA, Nat.reduceAdd, Nat.reduceLeDiff, Nat.reduceEqDiff, if_true, if_false, reduceIte, reduceCtorEq, exists_eq_left', implies_true, forall_const, Int.reduceLT, Int.reduceLE, Int.reduceEq, Int.reduceNeg, bindT, Nat.reduceMul, tis, flVal]
        refine draw0 (by kernel_rfl) ?_
        simp -implicitDefEqProofs (disch := omega) only [natNe, wk, indexAddrA, lenA, Nat.reduceAdd, Nat.reduceLeDiff, Nat.reduceEqDiff, if_true, if_false, reduceIte, reduceCtorEq, exists_eq_left', implies_true, forall_const, Int.reduceLT, Int.reduceLE, Int.reduceEq, Int.reduceNeg, bindT, Nat.reduceMul, tis, flVal]
        refine callD_fn (.agg (flVal ⟨2, if (!decide (n = 0)) then 1 else 0, ⟨#[]⟩⟩)) (.aggF rfl) (fun h nx K hk => vTruth hk) ?_
        simp -implicitDefEqProofs (disch := omega) only [natNe, wk, indexAddrA, lenA, Nat.reduceAdd, Nat.reduceLeDiff, Nat.reduceEqDiff, if_true, if_false, reduceIte, reduceCtorEq, exists_eq_left', implies_true, forall_const, Int.reduceLT, Int.reduceLE, Int.reduceEq, Int.reduceNeg, bindT, Nat.reduceMul, tis, flVal]
        refine fin _ _ _ ?_ ?_
        · repeat (first | exact over_refl | refine over_hc (by omega) ?_ | refine over_upd (by omega) ?_ | refine over_del (by omega) ?_)
        · by_cases hn : n = 0 <;> simp [mayM, hn]
      · by_cases k3 : kind = 3
        · subst k3
          by_cases hn : n = 0
          · subst hn
            simp -implicitDefEqProofs (disch := omega) only [natNe, wk, indexAddrA, lenA, Nat.reduceAdd, Nat.reduceLeDiff, Nat.reduceEqDiff, if_true, if_false, reduceIte, reduceCtorEq, exists_eq_left', implies_true, forall_const, Int.reduceLT, Int.reduceLE, Int.reduceEq, Int.reduceNeg, bindT, Nat.reduceMul, tis, flVal]
            refine draw0 (by kernel_rfl) ?_
            simp -implicitDefEqProofs (disch := omega) only [natNe, wk, indexAddrA, lenA, Nat.reduceAdd, Nat.reduceLeDiff, Nat.reduceEqDiff, if_true, if_false, reduceIte, reduceCtorEq, exists_eq_left', implies_true, forall_const, Int.reduceLT, Int.reduceLE, Int.reduceEq, Int.reduceNeg, bindT, Nat.reduceMul, tis, flVal]
            refine callD_fn (.agg (flVal ⟨3, 0, t⟩)) (.aggF rfl) (fun h nx K hk => vText hk) ?_
            simp -implicitDefEqProofs (disch := omega) only [natNe, wk, indexAddrA, lenA, Nat.reduceAdd, Nat.reduceLeDiff, Nat.reduceEqDiff, if_true, if_false, reduceIte, reduceCtorEq, exists_eq_left', implies_true, forall_const, Int.reduceLT, Int.reduceLE, Int.reduceEq, Int.reduceNeg, bindT, Nat.reduceMul, tis, flVal]
            refine callD_fn (.sc (.bool (plainM t))) (.noRef rfl) (fun h nx K hk => vPlain hs hk) ?_
            simp -implicitDefEqProofs (disch := omega) only [natNe, wk, indexAddrA, lenA, Nat.reduceAdd, Nat.reduceLeDiff, Nat.reduceEqDiff, if_true, if_false, reduceIte, reduceCtorEq, exists_eq_left', implies_true, forall_const, Int.reduceLT, Int.reduceLE, Int.reduceEq, Int.reduceNeg, bindT, Nat.reduceMul, tis, flVal]
            refine fin _ _ _ ?_ ?_
            · repeat (first | exact over_refl | refine over_hc (by omega) ?_ | refine over_upd (by omega) ?_ | refine over_del (by omega) ?_)
            · simp [mayM]
          · simp -implicitDefEqProofs (disch := omega) only [natNe, wk, indexAddrA, lenA, Nat.reduceAdd, Nat.reduceLeDiff, Nat.reduceEqDiff, if_true, if_false, reduceIte, reduceCtorEq, exists_eq_left', implies_true, forall_const, Int.reduceLT, Int.reduceLE, Int.reduceEq, Int.reduceNeg, bindT, Nat.reduceMul, tis, flVal]
            refine draw0 (by kernel_rfl) ?_
            simp -implicitDefEqProofs (disch := omega) only [natNe, wk, indexAddrA, lenA, Nat.reduceAdd, Nat.reduceLeDiff, Nat.reduceEqDiff, if_true, if_false, reduceIte, reduceCtorEq, exists_eq_left', implies_true, forall_const, Int.reduceLT, Int.reduceLE, Int.reduceEq, Int.reduceNeg, bindT, Nat.reduceMul, tis, flVal]
            refine callD_fn (.agg (flVal ⟨3, 0, t⟩)) (.aggF rfl) (fun h nx K hk => vText hk) ?_
            simp -implicitDefEqProofs (disch := omega) only [natNe, wk, indexAddrA, lenA, Nat.reduceAdd, Nat.reduceLeDiff, Nat.reduceEqDiff, if_true, if_false, reduceIte, reduceCtorEq, exists_eq_left', implies_true, forall_const, Int.reduceLT, Int.reduceLE, Int.reduceEq, Int.reduceNeg, bindT, Nat.reduceMul, tis, flVal, hn]
            refine fin _ _ _ ?_ ?_
            · repeat (first | exact over_refl | refine over_hc (by omega) ?_ | refine over_upd (by omega) ?_ | refine over_del (by omega) ?_)
            · simp [mayM, hn]
        · simp -implicitDefEqProofs (disch := omega) only [natNe, wk, indexAddrA, lenA, Nat.reduceAdd, Nat.reduceLeDiff, Nat.reduceEqDiff, if_true, if_false, reduceIte, reduceCtorEq, exists_eq_left', implies_true, forall_const, Int.reduceLT, Int.reduceLE, Int.reduceEq, Int.reduceNeg, bindT, Nat.reduceMul, tis, flVal, k0, k1, k2, k3]
          refine fin _ _ _ ?_ ?_
          · repeat (first | exact over_refl | refine over_hc (by omega) ?_ | refine over_upd (by omega) ?_ | refine over_del (by omega) ?_)
          · simp [mayM, k0, k1, k2, k3]

theorem vIs {h : Heap} {nx : Nat} {K : AV → Heap → Nat → Prop} {v : ValM} {kind : Int} (hs : v.t.size ≤ 9223372036854775807) (hk : K (.sc (.bool (decide (v.kind = kind) && mayM v))) h nx) : ACall Try.prog 37 [.agg (flVal v), .sc (.int .u8 kind)] h nx K := by
  refine ACall.of_body (c := Try.f37.body.getD .skip) mixed Try.func37 rfl (by kernel_rfl) (by rw [Try.ntmps37]; simp) (by kernel_rfl) ?_
  simp -implicitDefEqProofs only [Try.f37, Option.getD_some, Array.toList]
  by_cases hkd : v.kind = kind
  · subst hkd
    simp -implicitDefEqProofs (disch := omega) only [natNe, wk, indexAddrA, lenA, Nat.reduceAdd, Nat.reduceLeDiff, Nat.reduceEqDiff, if_true, if_false, reduceIte, reduceCtorEq, exists_eq_left', implies_true, forall_const, Int.reduceLT, Int.reduceLE, Int.reduceEq, Int.reduceNeg, bindT, Nat.reduceMul, tis, flVal]
    refine callX_fn (vMay (v := v) hs ?_)
    simp -implicitDefEqProofs (disch := omega) only [natNe, wk, indexAddrA, lenA, Nat.reduceAdd, Nat.reduceLeDiff, Nat.reduceEqDiff, if_true, if_false, reduceIte, reduceCtorEq, exists_eq_left', implies_true, forall_const, Int.reduceLT, Int.reduceLE, Int.reduceEq, Int.reduceNeg, bindT, Nat.reduceMul, tis]
    refine .pure _ ?_ (.same rfl) (by simpa using hk)
    repeat (first | exact over_refl | refine over_hc (by omega) ?_ | refine over_upd (by omega) ?_ | refine over_del (by omega) ?_)
  · simp -implicitDefEqProofs (disch := omega) only [natNe, wk, indexAddrA, lenA, Nat.reduceAdd, Nat.reduceLeDiff, Nat.reduceEqDiff, if_true, if_false, reduceIte, reduceCtorEq, exists_eq_left', implies_true, forall_const, Int.reduceLT, Int.reduceLE, Int.reduceEq, Int.reduceNeg, bindT, Nat.reduceMul, tis, flVal, hkd]
    refine .pure _ ?_ (.same rfl) (by simpa [hkd] using hk)
    repeat (first | exact over_refl | refine over_hc (by omega) ?_ | refine over_upd (by omega) ?_ | refine over_del (by omega) ?_)
end Go.Abs.Try
