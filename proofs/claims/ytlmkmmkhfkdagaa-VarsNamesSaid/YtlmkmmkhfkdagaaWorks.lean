/- Contracts: the examples hold. -/
import Derived.Test.YtlmkmmkhfkdagaaPut
import Derived.Test.YtlmkmmkhfkdagaaWorksM
set_option linter.unusedVariables false
set_option linter.unusedSimpArgs false
set_option maxHeartbeats 4000000
set_option maxRecDepth 8000
namespace Go.Abs.Try
open Go Go.Abs Go.Proofs

theorem flItem_noRef (L : List ItemM) : ∀ cs ∈ L.map flItem, ∀ c ∈ cs, c.noRef = true := fun cs hcs c hc => by
  obtain ⟨d, _, rfl⟩ := List.mem_map.1 hcs
  simp [flItem] at hc
  rcases hc with rfl | rfl | rfl | rfl | rfl | rfl | rfl | rfl <;> rfl

theorem tower {h : Heap} {nx : Nat} {K : AV → Heap → Nat → Prop} (hk : K (.agg (flSt towerM)) h nx) : ACall Try.prog 21 [] h nx K := by
  refine ACall.of_body (c := Try.f21.body.getD .skip) mixed Try.func21 rfl (by kernel_rfl) (by rw [Try.ntmps21]; simp) (by kernel_rfl) ?_
  simp -implicitDefEqProofs only [Try.f21, Option.getD_some, Array.toList]
  simp -implicitDefEqProofs (disch := omega) only [natNe, wk, indexAddrA, lenA, Nat.reduceAdd, Nat.reduceLeDiff, Nat.reduceEqDiff, if_true, if_false, reduceIte, reduceCtorEq, exists_eq_left', implies_true, forall_const, Int.reduceLT, Int.reduceLE, Int.reduceEq, Int.reduceNeg, bindT, Nat.reduceMul, tis]
  refine .pure _ ?_ (.agg' (.cons (.same rfl) (.cons (.same rfl) (.cons (.emp 0) (.cons (.own (L := towerItems.map flItem) (by omega) (by simp -implicitDefEqProofs (disch := omega) only [natNe, wk, indexAddrA, lenA, Nat.reduceAdd, Nat.reduceLeDiff, Nat.reduceEqDiff, if_true, if_false, reduceIte, reduceCtorEq, exists_eq_left', implies_true, forall_const, Int.reduceLT, Int.reduceLE, Int.reduceEq, Int.reduceNeg, bindT, Nat.reduceMul, tis, towerItems, flItem]) (flItem_noRef _) rfl) (.cons (.emp 5) (.cons (.emp 0) (.nil _ _)))))))) hk
  repeat (first | exact over_refl | refine over_hc (by omega) ?_ | refine over_upd (by omega) ?_ | refine over_del (by omega) ?_)

theorem one {h : Heap} {nx : Nat} {K : AV → Heap → Nat → Prop} {name : ByteArray} {n : Int} (hk : K (.lst 4 ([VarM.mk name (numM n)].map flVar)) h nx) : ACall Try.prog 23 [.sc (.string name), .sc (.int .i64 n)] h nx K := by
  refine ACall.of_body (c := Try.f23.body.getD .skip) mixed Try.func23 rfl (by kernel_rfl) (by rw [Try.ntmps23]; simp) (by kernel_rfl) ?_
  simp -implicitDefEqProofs only [Try.f23, Option.getD_some, Array.toList]
  simp -implicitDefEqProofs (disch := omega) only [natNe, wk, indexAddrA, lenA, Nat.reduceAdd, Nat.reduceLeDiff, Nat.reduceEqDiff, if_true, if_false, reduceIte, reduceCtorEq, exists_eq_left', implies_true, forall_const, Int.reduceLT, Int.reduceLE, Int.reduceEq, Int.reduceNeg, bindT, Nat.reduceMul, tis]
  refine callX_fn (num ?_)
  simp -implicitDefEqProofs (disch := omega) only [natNe, wk, indexAddrA, lenA, Nat.reduceAdd, Nat.reduceLeDiff, Nat.reduceEqDiff, if_true, if_false, reduceIte, reduceCtorEq, exists_eq_left', implies_true, forall_const, Int.reduceLT, Int.reduceLE, Int.reduceEq, Int.reduceNeg, bindT, Nat.reduceMul, tis, flVal]
  refine .pure _ ?_ (.own (sz := 4) (L := [VarM.mk name (numM n)].map flVar) (by omega) (by simp -implicitDefEqProofs (disch := omega) only [natNe, wk, indexAddrA, lenA, Nat.reduceAdd, Nat.reduceLeDiff, Nat.reduceEqDiff, if_true, if_false, reduceIte, reduceCtorEq, exists_eq_left', implies_true, forall_const, Int.reduceLT, Int.reduceLE, Int.reduceEq, Int.reduceNeg, bindT, Nat.reduceMul, tis, flVar, numM]) (by simp [flVar, AV.noRef]) rfl) hk
  repeat (first | exact over_refl | refine over_hc (by omega) ?_ | refine over_upd (by omega) ?_ | refine over_del (by omega) ?_)

theorem cell_dec (c d : CellM) : (decide (c.scope = d.scope) && (decide (c.name = d.name) && (decide (c.v.kind = d.v.kind) && (decide (c.v.n = d.v.n) && decide (c.v.t = d.v.t))))) = decide (c = d) := by
  obtain ⟨cs, cn, ck, ci, ct⟩ := c
  obtain ⟨ds, dn, dk, di, dt⟩ := d
  simp [CellM.mk.injEq, ValM.mk.injEq, Bool.decide_and]

theorem sees {h : Heap} {nx : Nat} {K : AV → Heap → Nat → Prop} {s : StM} {scope : Int} {name : ByteArray} {w n : Int} (hil : s.items.length ≤ 900000) (hcl : s.cells.length ≤ 900000)
    (hk : K (.sc (.bool (s.sees scope name w n))) h nx) : ACall Try.prog 24 [.agg (flSt s), .sc (.int .i64 scope), .sc (.string name), .sc (.int .i64 w), .sc (.int .i64 n)] h nx K := by
  refine ACall.of_body (c := Try.f24.body.getD .skip) mixed Try.func24 rfl (by kernel_rfl) (by rw [Try.ntmps24]; simp) (by kernel_rfl) ?_
  simp -implicitDefEqProofs only [Try.f24, Option.getD_some, Array.toList]
  simp -implicitDefEqProofs (disch := omega) only [natNe, wk, indexAddrA, lenA, Nat.reduceAdd, Nat.reduceLeDiff, Nat.reduceEqDiff, if_true, if_false, reduceIte, reduceCtorEq, exists_eq_left', implies_true, forall_const, Int.reduceLT, Int.reduceLE, Int.reduceEq, Int.reduceNeg, bindT, Nat.reduceMul, tis, flSt]
  refine callX_fn (vseen (s := s) hil hcl ?_)
  unfold StM.sees at hk
  generalize (s.seen scope name).getD zCell = c at *
  generalize (s.seen scope name).isSome = b at *
  by_cases hw : w < 0
  · rw [if_pos hw] at hk
    cases b with
    | true =>
      simp -implicitDefEqProofs (disch := omega) only [natNe, wk, indexAddrA, lenA, Nat.reduceAdd, Nat.reduceLeDiff, Nat.reduceEqDiff, if_true, if_false, reduceIte, reduceCtorEq, exists_eq_left', implies_true, forall_const, Int.reduceLT, Int.reduceLE, Int.reduceEq, Int.reduceNeg, bindT, Nat.reduceMul, tis, flCell, hw]
      refine .pure _ ?_ (.same rfl) (by simpa using hk)
      repeat (first | exact over_refl | refine over_hc (by omega) ?_ | refine over_upd (by omega) ?_ | refine over_del (by omega) ?_)
    | false =>
      simp -implicitDefEqProofs (disch := omega) only [natNe, wk, indexAddrA, lenA, Nat.reduceAdd, Nat.reduceLeDiff, Nat.reduceEqDiff, if_true, if_false, reduceIte, reduceCtorEq, exists_eq_left', implies_true, forall_const, Int.reduceLT, Int.reduceLE, Int.reduceEq, Int.reduceNeg, bindT, Nat.reduceMul, tis, flCell, hw]
      refine .pure _ ?_ (.same rfl) (by rw [Bool.not_false, Bool.true_and, ← cell_dec] at hk; exact hk)
      repeat (first | exact over_refl | refine over_hc (by omega) ?_ | refine over_upd (by omega) ?_ | refine over_del (by omega) ?_)
  · rw [if_neg hw] at hk
    cases b with
    | false =>
      simp -implicitDefEqProofs (disch := omega) only [natNe, wk, indexAddrA, lenA, Nat.reduceAdd, Nat.reduceLeDiff, Nat.reduceEqDiff, if_true, if_false, reduceIte, reduceCtorEq, exists_eq_left', implies_true, forall_const, Int.reduceLT, Int.reduceLE, Int.reduceEq, Int.reduceNeg, bindT, Nat.reduceMul, tis, flCell, hw]
      refine draw0 (by kernel_rfl) ?_
      simp -implicitDefEqProofs (disch := omega) only [natNe, wk, indexAddrA, lenA, Nat.reduceAdd, Nat.reduceLeDiff, Nat.reduceEqDiff, if_true, if_false, reduceIte, reduceCtorEq, exists_eq_left', implies_true, forall_const, Int.reduceLT, Int.reduceLE, Int.reduceEq, Int.reduceNeg, bindT, Nat.reduceMul, tis, flCell, hw]
      refine .pure _ ?_ (.same rfl) (by simpa using hk)
      repeat (first | exact over_refl | refine over_hc (by omega) ?_ | refine over_upd (by omega) ?_ | refine over_del (by omega) ?_)
    | true =>
      simp -implicitDefEqProofs (disch := omega) only [natNe, wk, indexAddrA, lenA, Nat.reduceAdd, Nat.reduceLeDiff, Nat.reduceEqDiff, if_true, if_false, reduceIte, reduceCtorEq, exists_eq_left', implies_true, forall_const, Int.reduceLT, Int.reduceLE, Int.reduceEq, Int.reduceNeg, bindT, Nat.reduceMul, tis, flCell, hw]
      refine draw0 (by kernel_rfl) ?_
      simp -implicitDefEqProofs (disch := omega) only [natNe, wk, indexAddrA, lenA, Nat.reduceAdd, Nat.reduceLeDiff, Nat.reduceEqDiff, if_true, if_false, reduceIte, reduceCtorEq, exists_eq_left', implies_true, forall_const, Int.reduceLT, Int.reduceLE, Int.reduceEq, Int.reduceNeg, bindT, Nat.reduceMul, tis, flCell, hw]
      refine callD_fn (.agg (flVal (numM n))) (.aggF rfl) (fun h nx K hk => num hk) ?_
      simp -implicitDefEqProofs (disch := omega) only [natNe, wk, indexAddrA, lenA, Nat.reduceAdd, Nat.reduceLeDiff, Nat.reduceEqDiff, if_true, if_false, reduceIte, reduceCtorEq, exists_eq_left', implies_true, forall_const, Int.reduceLT, Int.reduceLE, Int.reduceEq, Int.reduceNeg, bindT, Nat.reduceMul, tis, flCell, flVal, numM, hw]
      refine .pure _ ?_ (.same rfl) (by rw [Bool.true_and, ← cell_dec] at hk; exact hk)
      repeat (first | exact over_refl | refine over_hc (by omega) ?_ | refine over_upd (by omega) ?_ | refine over_del (by omega) ?_)

/-- Opening of few variables. -/
theorem vopenS {h : Heap} {nx : Nat} {K : AV → Heap → Nat → Prop} {s : StM} {scope : Int} {vs : List VarM} (hlen : (s.pre scope vs).length ≤ 20) (hcl : s.cells.length ≤ 400000) (hvl : vs.length ≤ 400000) (hd : s.defs.noRef = true) (hw : s.watches.noRef = true)
    (hk : K (.agg (flSt (s.open_ scope vs))) h nx) :
    ACall Try.prog 11 [.agg (flSt s), .sc (.int .i64 scope), .lst 4 (vs.map flVar)] h nx K :=
  vopen hcl hvl hd hw (fun h nx K id g hl hid hk => sortStable20 hl hid hlen hk) fun L' ok => by rw [ok.eq]; exact hk

theorem works {h : Heap} {nx : Nat} {K : AV → Heap → Nat → Prop} (hk : K (.sc (.bool true)) h nx) : ACall Try.prog 9 [] h nx K := by
  refine ACall.of_body (c := Try.f9.body.getD .skip) mixed Try.func9 rfl (by kernel_rfl) (by rw [Try.ntmps9]; simp) (by kernel_rfl) ?_
  simp -implicitDefEqProofs only [Try.f9, Option.getD_some, Array.toList]
  simp -implicitDefEqProofs (disch := omega) only [natNe, wk, indexAddrA, lenA, Nat.reduceAdd, Nat.reduceLeDiff, Nat.reduceEqDiff, if_true, if_false, reduceIte, reduceCtorEq, exists_eq_left', implies_true, forall_const, Int.reduceLT, Int.reduceLE, Int.reduceEq, Int.reduceNeg, bindT, Nat.reduceMul, tis]
  refine callX_fn (tower ?_)
  simp -implicitDefEqProofs (disch := omega) only [natNe, wk, indexAddrA, lenA, Nat.reduceAdd, Nat.reduceLeDiff, Nat.reduceEqDiff, if_true, if_false, reduceIte, reduceCtorEq, exists_eq_left', implies_true, forall_const, Int.reduceLT, Int.reduceLE, Int.reduceEq, Int.reduceNeg, bindT, Nat.reduceMul, tis]
  refine callX_fn (one ?_)
  simp -implicitDefEqProofs (disch := omega) only [natNe, wk, indexAddrA, lenA, Nat.reduceAdd, Nat.reduceLeDiff, Nat.reduceEqDiff, if_true, if_false, reduceIte, reduceCtorEq, exists_eq_left', implies_true, forall_const, Int.reduceLT, Int.reduceLE, Int.reduceEq, Int.reduceNeg, bindT, Nat.reduceMul, tis]
  refine callX_fn (vopenS (s := towerM) (vs := [⟨xS, numM 1⟩]) (by rw [p1_len]; omega) (by simp [towerM]) (by simp) rfl rfl ?_)
  rw [show towerM.open_ 1 [⟨xS, numM 1⟩] = w1 from rfl]
  simp -implicitDefEqProofs (disch := omega) only [natNe, wk, indexAddrA, lenA, Nat.reduceAdd, Nat.reduceLeDiff, Nat.reduceEqDiff, if_true, if_false, reduceIte, reduceCtorEq, exists_eq_left', implies_true, forall_const, Int.reduceLT, Int.reduceLE, Int.reduceEq, Int.reduceNeg, bindT, Nat.reduceMul, tis]
  refine callX_fn (one ?_)
  simp -implicitDefEqProofs (disch := omega) only [natNe, wk, indexAddrA, lenA, Nat.reduceAdd, Nat.reduceLeDiff, Nat.reduceEqDiff, if_true, if_false, reduceIte, reduceCtorEq, exists_eq_left', implies_true, forall_const, Int.reduceLT, Int.reduceLE, Int.reduceEq, Int.reduceNeg, bindT, Nat.reduceMul, tis]
  refine callX_fn (vopenS (s := w1) (vs := [⟨yS, numM 2⟩]) (by rw [p2_len]; omega) (by rw [w1_len]; omega) (by simp) rfl rfl ?_)
  rw [show w1.open_ 3 [⟨yS, numM 2⟩] = w2 from rfl]
  have il2 : w2.items.length ≤ 400000 := by rw [w2_items]; simp [towerItems]
  have il3 : w3.items.length ≤ 400000 := by rw [w3_items]; simp [towerItems]
  have cl2 : w2.cells.length ≤ 400000 := by rw [w2_len]; omega
  have cl3 : w3.cells.length ≤ 400000 := by rw [w3_len]; omega
  have e2 : ∃ c2, flSt w2 = c2 ∧ c2.length = 6 := ⟨_, rfl, rfl⟩
  simp -implicitDefEqProofs (disch := omega) only [natNe, wk, indexAddrA, lenA, Nat.reduceAdd, Nat.reduceLeDiff, Nat.reduceEqDiff, if_true, if_false, reduceIte, reduceCtorEq, exists_eq_left', implies_true, forall_const, Int.reduceLT, Int.reduceLE, Int.reduceEq, Int.reduceNeg, bindT, Nat.reduceMul, tis, flSt]
  refine drawL (fun _ => 0) [] [false, false, false, true] (by kernel_rfl) ?_
  simp -implicitDefEqProofs (disch := omega) only [natNe, wk, indexAddrA, lenA, Nat.reduceAdd, Nat.reduceLeDiff, Nat.reduceEqDiff, if_true, if_false, reduceIte, reduceCtorEq, exists_eq_left', implies_true, forall_const, Int.reduceLT, Int.reduceLE, Int.reduceEq, Int.reduceNeg, bindT, Nat.reduceMul, tis, flSt]
  refine callD_fn (.agg (flVal (numM 5))) (.aggF rfl) (fun h nx K hk => num hk) ?_
  simp -implicitDefEqProofs (disch := omega) only [natNe, wk, indexAddrA, lenA, Nat.reduceAdd, Nat.reduceLeDiff, Nat.reduceEqDiff, if_true, if_false, reduceIte, reduceCtorEq, exists_eq_left', implies_true, forall_const, Int.reduceLT, Int.reduceLE, Int.reduceEq, Int.reduceNeg, bindT, Nat.reduceMul, tis, flVal, numM]
  refine callD_fn (.tup [.agg (flSt w3), .sc (.int .i64 0)]) ?_ (fun h nx K hk => vput (s := w2) (scope := 3) (sets := [⟨xS, numM 5⟩]) il2 cl2 (by simp) rfl rfl (by intro x hx; simp only [List.mem_singleton] at hx; rw [hx]; exact Nat.zero_le _) (by rw [w2_put]; exact hk)) ?_
  · exact .tup fun c hc => by
      simp only [List.mem_cons, List.not_mem_nil, or_false] at hc
      rcases hc with rfl | rfl
      · exact .aggF rfl
      · exact .noRef rfl
  simp -implicitDefEqProofs (disch := omega) only [natNe, wk, indexAddrA, lenA, Nat.reduceAdd, Nat.reduceLeDiff, Nat.reduceEqDiff, if_true, if_false, reduceIte, reduceCtorEq, exists_eq_left', implies_true, forall_const, Int.reduceLT, Int.reduceLE, Int.reduceEq, Int.reduceNeg, bindT, Nat.reduceMul, tis, flSt]
  refine callX_fn (sees (s := w2) (name := xS) (by omega) (by omega) ?_)
  rw [w2_sees1]
  simp -implicitDefEqProofs (disch := omega) only [natNe, wk, indexAddrA, lenA, Nat.reduceAdd, Nat.reduceLeDiff, Nat.reduceEqDiff, if_true, if_false, reduceIte, reduceCtorEq, exists_eq_left', implies_true, forall_const, Int.reduceLT, Int.reduceLE, Int.reduceEq, Int.reduceNeg, bindT, Nat.reduceMul, tis, flSt]
  refine callX_fn (sees (s := w2) (name := yS) (by omega) (by omega) ?_)
  rw [w2_sees2]
  simp -implicitDefEqProofs (disch := omega) only [natNe, wk, indexAddrA, lenA, Nat.reduceAdd, Nat.reduceLeDiff, Nat.reduceEqDiff, if_true, if_false, reduceIte, reduceCtorEq, exists_eq_left', implies_true, forall_const, Int.reduceLT, Int.reduceLE, Int.reduceEq, Int.reduceNeg, bindT, Nat.reduceMul, tis, flSt]
  refine callX_fn (sees (s := w2) (name := yS) (by omega) (by omega) ?_)
  rw [w2_sees3]
  simp -implicitDefEqProofs (disch := omega) only [natNe, wk, indexAddrA, lenA, Nat.reduceAdd, Nat.reduceLeDiff, Nat.reduceEqDiff, if_true, if_false, reduceIte, reduceCtorEq, exists_eq_left', implies_true, forall_const, Int.reduceLT, Int.reduceLE, Int.reduceEq, Int.reduceNeg, bindT, Nat.reduceMul, tis, flSt]
  refine callX_fn (sees (s := w3) (name := xS) (by omega) (by omega) ?_)
  rw [w3_sees]
  simp -implicitDefEqProofs (disch := omega) only [natNe, wk, indexAddrA, lenA, Nat.reduceAdd, Nat.reduceLeDiff, Nat.reduceEqDiff, if_true, if_false, reduceIte, reduceCtorEq, exists_eq_left', implies_true, forall_const, Int.reduceLT, Int.reduceLE, Int.reduceEq, Int.reduceNeg, bindT, Nat.reduceMul, tis, flSt]
  refine callX_fn (wayAll (s := w2) (by omega) ?_)
  rw [w2_way]
  simp -implicitDefEqProofs (disch := omega) only [natNe, wk, indexAddrA, lenA, Nat.reduceAdd, Nat.reduceLeDiff, Nat.reduceEqDiff, if_true, if_false, reduceIte, reduceCtorEq, exists_eq_left', implies_true, forall_const, Int.reduceLT, Int.reduceLE, Int.reduceEq, Int.reduceNeg, bindT, Nat.reduceMul, tis, flSt]
  refine callX_lend (args' := [.lst 1 ([5].map fun k => [.sc (.int .i64 k)]), .lst 1 ([5].map fun k => [.sc (.int .i64 k)])]) (r := .bool true) (fun k => nx ≤ k) ?_ (fun K' hK' => ints (by simp) (by simp) (by simpa using hK')) ?_
  · refine .cons (.same rfl) (.cons (.own (L := [[.sc (.int .i64 5)]]) (by omega) (by simp -implicitDefEqProofs (disch := omega) only [natNe, wk, indexAddrA, lenA, Nat.reduceAdd, Nat.reduceLeDiff, Nat.reduceEqDiff, if_true, if_false, reduceIte, reduceCtorEq, exists_eq_left', implies_true, forall_const, Int.reduceLT, Int.reduceLE, Int.reduceEq, Int.reduceNeg, bindT, Nat.reduceMul, tis]) (by simp [AV.noRef]) rfl) (.nil _ _))
  simp -implicitDefEqProofs (disch := omega) only [natNe, wk, indexAddrA, lenA, Nat.reduceAdd, Nat.reduceLeDiff, Nat.reduceEqDiff, if_true, if_false, reduceIte, reduceCtorEq, exists_eq_left', implies_true, forall_const, Int.reduceLT, Int.reduceLE, Int.reduceEq, Int.reduceNeg, bindT, Nat.reduceMul, tis, flSt]
  refine callX_fn (sees (s := w2) (name := xS) (by omega) (by omega) ?_)
  rw [w2_sees4]
  simp -implicitDefEqProofs (disch := omega) only [natNe, wk, indexAddrA, lenA, Nat.reduceAdd, Nat.reduceLeDiff, Nat.reduceEqDiff, if_true, if_false, reduceIte, reduceCtorEq, exists_eq_left', implies_true, forall_const, Int.reduceLT, Int.reduceLE, Int.reduceEq, Int.reduceNeg, bindT, Nat.reduceMul, tis, flSt]
  trace_state
  refine .pure _ ?_ (.same rfl) hk
  repeat (first | exact over_refl | refine over_hc (by omega) ?_ | refine over_upd (by omega) ?_ | refine over_del (by omega) ?_)
end Go.Abs.Try
