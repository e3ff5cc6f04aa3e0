/- Contracts: putting values. -/
import Derived.Test.YtlmkmmkhfkdagaaOpen
import Derived.Test.YtlmkmmkhfkdagaaPutM
set_option linter.unusedVariables false
set_option linter.unusedSimpArgs false
set_option maxHeartbeats 4000000
set_option maxRecDepth 8000
namespace Go.Abs.Try
open Go Go.Abs Go.Proofs

theorem vput {h : Heap} {nx : Nat} {K : AV → Heap → Nat → Prop} {s : StM} {scope : Int} {sets : List SetM} (hil : s.items.length ≤ 400000) (hcl : s.cells.length ≤ 400000) (hvl : sets.length ≤ 400000) (hd : s.defs.noRef = true) (hw : s.watches.noRef = true)
    (hts : ∀ x ∈ sets, x.v.t.size ≤ 9223372036854775807)
    (hk : K (.tup [.agg (flSt (s.put scope sets).1), .sc (.int .i64 (s.put scope sets).2)]) h nx) :
    ACall Try.prog 16 [.agg (flSt s), .sc (.int .i64 scope), .lst 4 (sets.map flSet)] h nx K := by
  refine ACall.of_body (c := Try.f16.body.getD .skip) mixed Try.func16 rfl (by kernel_rfl) (by rw [Try.ntmps16]; simp) (by kernel_rfl) ?_
  simp -implicitDefEqProofs only [Try.f16, Option.getD_some, Array.toList]
  simp -implicitDefEqProofs (disch := omega) only [natNe, wk, indexAddrA, lenA, Nat.reduceAdd, Nat.reduceLeDiff, Nat.reduceEqDiff, if_true, if_false, reduceIte, reduceCtorEq, exists_eq_left', implies_true, forall_const, Int.reduceLT, Int.reduceLE, Int.reduceEq, Int.reduceNeg, bindT, Nat.reduceMul, tis, flSt]
  refine callX_fn (cloneLst (L := s.cells) (by omega) (fun v H NX hNX hov hv => ?_))
  dsimp only at hNX hov
  have b0 := hov nx (by omega)
  have b1 := hov (nx + 1) (by omega)
  have b2 := hov (nx + 2) (by omega)
  simp -implicitDefEqProofs (disch := omega) only [natNe, wk, indexAddrA, lenA, Nat.reduceAdd, Nat.reduceLeDiff, Nat.reduceEqDiff, if_true, if_false, reduceIte, reduceCtorEq, exists_eq_left', implies_true, forall_const, Int.reduceLT, Int.reduceLE, Int.reduceEq, Int.reduceNeg, bindT, Nat.reduceMul, tis] at b0 b1 b2
  have hcv : cellsA v = some [v] := by
    rcases hv with ⟨_, rfl⟩ | ⟨a, g, rfl, _⟩ <;> rfl
  simp -implicitDefEqProofs (disch := omega) only [natNe, wk, indexAddrA, lenA, Nat.reduceAdd, Nat.reduceLeDiff, Nat.reduceEqDiff, if_true, if_false, reduceIte, reduceCtorEq, exists_eq_left', implies_true, forall_const, Int.reduceLT, Int.reduceLE, Int.reduceEq, Int.reduceNeg, bindT, Nat.reduceMul, tis, b0, b1, b2, hcv, List.length_map]
  refine loopX_ind (fun m σ => ∃ T H NX i v L, σ = ⟨T, H, NX, []⟩ ∧ nx + 3 ≤ NX ∧ (∀ k, k < nx → look k H = look k h) ∧ look nx H = some (.box (flSt s)) ∧ look (nx + 1) H = some (.box zSt) ∧
      look (nx + 2) H = some (.box [.sc (.int .i64 s.clock), .sc (.int .i64 s.next), s.defs, .lst 8 (s.items.map flItem), v, s.watches]) ∧
      look 1 T = some (.sc (.int .i64 scope)) ∧ look 3 T = some (.ptr nx 0) ∧ look 6 T = some (.ptr (nx + 1) 0) ∧ look 8 T = some (.ptr (nx + 2) 0) ∧
      look 17 T = some (.lst 4 (sets.map flSet)) ∧ look 18 T = some (.sc (.int .i64 sets.length)) ∧ look 19 T = some (.sc (.int .i64 (i : Nat))) ∧ m + i = sets.length ∧ L.length = s.cells.length ∧
      s.putGo scope (sets.drop i) { s with cells := L } = s.put scope sets ∧
      RowsAt 5 (fun a => nx + 3 ≤ a ∧ a < NX) H (L.map flCell) v) sets.length ⟨_, _, _, 0, v, s.cells, rfl, hNX, ?_, ?_, ?_, ?_, rfl, rfl, rfl, rfl, rfl, ?_, ?_, by omega, rfl, by simp [StM.put], ?_⟩ ?_
  · intro k hk
    have := hov k (by omega)
    simp -implicitDefEqProofs (disch := omega) only [natNe, wk, indexAddrA, lenA, Nat.reduceAdd, Nat.reduceLeDiff, Nat.reduceEqDiff, if_true, if_false, reduceIte, reduceCtorEq, exists_eq_left', implies_true, forall_const, Int.reduceLT, Int.reduceLE, Int.reduceEq, Int.reduceNeg, bindT, Nat.reduceMul, tis, this]
  · simp -implicitDefEqProofs (disch := omega) only [natNe, wk, indexAddrA, lenA, Nat.reduceAdd, Nat.reduceLeDiff, Nat.reduceEqDiff, if_true, if_false, reduceIte, reduceCtorEq, exists_eq_left', implies_true, forall_const, Int.reduceLT, Int.reduceLE, Int.reduceEq, Int.reduceNeg, bindT, Nat.reduceMul, tis, b0, flSt]
  · simp -implicitDefEqProofs (disch := omega) only [natNe, wk, indexAddrA, lenA, Nat.reduceAdd, Nat.reduceLeDiff, Nat.reduceEqDiff, if_true, if_false, reduceIte, reduceCtorEq, exists_eq_left', implies_true, forall_const, Int.reduceLT, Int.reduceLE, Int.reduceEq, Int.reduceNeg, bindT, Nat.reduceMul, tis, b1, zSt]
  · simp -implicitDefEqProofs (disch := omega) only [natNe, wk, indexAddrA, lenA, Nat.reduceAdd, Nat.reduceLeDiff, Nat.reduceEqDiff, if_true, if_false, reduceIte, reduceCtorEq, exists_eq_left', implies_true, forall_const, Int.reduceLT, Int.reduceLE, Int.reduceEq, Int.reduceNeg, bindT, Nat.reduceMul, tis, b2]
  · simp -implicitDefEqProofs (disch := omega) only [natNe, wk, indexAddrA, lenA, Nat.reduceAdd, Nat.reduceLeDiff, Nat.reduceEqDiff, if_true, if_false, reduceIte, reduceCtorEq, exists_eq_left', implies_true, forall_const, Int.reduceLT, Int.reduceLE, Int.reduceEq, Int.reduceNeg, bindT, Nat.reduceMul, tis]
  · simp -implicitDefEqProofs (disch := omega) only [natNe, wk, indexAddrA, lenA, Nat.reduceAdd, Nat.reduceLeDiff, Nat.reduceEqDiff, if_true, if_false, reduceIte, reduceCtorEq, exists_eq_left', implies_true, forall_const, Int.reduceLT, Int.reduceLE, Int.reduceEq, Int.reduceNeg, bindT, Nat.reduceMul, tis]
    rfl
  · refine hv.mono (fun _ h => h) fun k hk => ?_
    have a1 : nx + 3 ≤ k := hk.1
    simp -implicitDefEqProofs (disch := omega) only [natNe, wk, indexAddrA, lenA, Nat.reduceAdd, Nat.reduceLeDiff, Nat.reduceEqDiff, if_true, if_false, reduceIte, reduceCtorEq, exists_eq_left', implies_true, forall_const, Int.reduceLT, Int.reduceLE, Int.reduceEq, Int.reduceNeg, bindT, Nat.reduceMul, tis]
  clear hov b0 b1 b2 hcv hv hNX
  clear H NX v
  rintro m σ' ⟨T, H, NX, i, v, L, rfl, hNX, hov, b0, b1, b2, t1, t3, t6, t8, t17, t18, t19, hm, hLl, hgo, hv⟩
  simp -implicitDefEqProofs (disch := omega) only [natNe, wk, indexAddrA, lenA, Nat.reduceAdd, Nat.reduceLeDiff, Nat.reduceEqDiff, if_true, if_false, reduceIte, reduceCtorEq, exists_eq_left', implies_true, forall_const, Int.reduceLT, Int.reduceLE, Int.reduceEq, Int.reduceNeg, bindT, Nat.reduceMul, tis, t1, t3, t6, t8, t17, t18, t19]
  refine ⟨fun hi => ?_, fun hi => ?_⟩
  · obtain ⟨x, hx⟩ : ∃ x, sets[i]? = some x := ⟨sets[i], List.getElem?_eq_getElem hi⟩
    have hx' : (sets.map flSet)[i]? = some (flSet x) := by simp [hx]
    have hdr : sets.drop i = x :: sets.drop (i + 1) := by
      rw [← (List.getElem?_eq_some_iff.1 hx).2, List.getElem_cons_drop]
    rw [hdr] at hgo
    have hxt := hts x (List.mem_of_getElem? hx)
    simp -implicitDefEqProofs (disch := omega) only [natNe, wk, indexAddrA, lenA, Nat.reduceAdd, Nat.reduceLeDiff, Nat.reduceEqDiff, if_true, if_false, reduceIte, reduceCtorEq, exists_eq_left', implies_true, forall_const, Int.reduceLT, Int.reduceLE, Int.reduceEq, Int.reduceNeg, bindT, Nat.reduceMul, tis, hx', flSet, t1, t3, t6, t8, t17, t18, t19, b2]
    refine callX_lend (args' := [.agg (flSt { s with cells := L }), .sc (.int .i64 scope), .sc (.string x.name)]) (r := .int .i64 (idxI (({ s with cells := L } : StM).spot scope x.name))) (fun k => nx + 3 ≤ k) ?_ (fun K' hK' => vplace (by simpa using by omega) (by simpa [hLl] using by omega) hK') ?_
    · refine .cons (.agg' (.cons (.same rfl) (.cons (.same rfl) (.cons (.same hd) (.cons (.same rfl) (.cons ?_ (.cons (.same hw) (.nil _ _)))))))) (.cons (.same rfl) (.cons (.same rfl) (.nil _ _)))
      rcases hv with ⟨hnil, rfl⟩ | ⟨a, g, rfl, ha, hla⟩
      · rw [hnil]; exact .emp 5
      · have a1 : nx + 3 ≤ a := ha.1
        have a2 : a < NX := ha.2
        exact .own (L := L.map flCell) a1 (by simp -implicitDefEqProofs (disch := omega) only [natNe, wk, indexAddrA, lenA, Nat.reduceAdd, Nat.reduceLeDiff, Nat.reduceEqDiff, if_true, if_false, reduceIte, reduceCtorEq, exists_eq_left', implies_true, forall_const, Int.reduceLT, Int.reduceLE, Int.reduceEq, Int.reduceNeg, bindT, Nat.reduceMul, tis, hla]) (flCell_noRef L) rfl
    simp only [StM.putGo] at hgo
    cases hsp : ({ s with cells := L } : StM).spot scope x.name with
    | none =>
      rw [hsp] at hgo
      simp only at hgo
      simp -implicitDefEqProofs (disch := omega) only [natNe, wk, indexAddrA, lenA, Nat.reduceAdd, Nat.reduceLeDiff, Nat.reduceEqDiff, if_true, if_false, reduceIte, reduceCtorEq, exists_eq_left', implies_true, forall_const, Int.reduceLT, Int.reduceLE, Int.reduceEq, Int.reduceNeg, bindT, Nat.reduceMul, tis, hx', flSet, t1, t3, t6, t8, t17, t18, t19, b0, b1, b2, idxI, flSt, zSt]
      rw [← hgo] at hk
      refine .pure _ (fun k hk => ?_) ?_ hk
      · have := hov k hk
        simp -implicitDefEqProofs (disch := omega) only [natNe, wk, indexAddrA, lenA, Nat.reduceAdd, Nat.reduceLeDiff, Nat.reduceEqDiff, if_true, if_false, reduceIte, reduceCtorEq, exists_eq_left', implies_true, forall_const, Int.reduceLT, Int.reduceLE, Int.reduceEq, Int.reduceNeg, bindT, Nat.reduceMul, tis, this]
      · exact .tup' (.cons (.agg' (.cons (.same rfl) (.cons (.same rfl) (.cons (.same hd) (.cons (.same rfl) (.cons (.same rfl) (.cons (.same hw) (.nil _ _)))))))) (.cons (.same rfl) (.nil _ _)))
    | some j =>
      rw [hsp] at hgo
      simp only at hgo
      obtain ⟨c, hc⟩ := StM.spot_lt hsp
      have hc : L[j]? = some c := hc
      have hjl := (List.getElem?_eq_some_iff.1 hc).1
      rcases hv with ⟨hnil, rfl⟩ | ⟨a, g, rfl, ha, hla⟩
      · have : L = [] := by simpa using hnil
        rw [this] at hjl
        simp at hjl
      have a1 : nx + 3 ≤ a := ha.1
      have a2 : a < NX := ha.2
      have hcat := cAt_of hc
      have hrow : (L.map flCell)[j]? = some (flCell c) := by simp [hc]
      have hj0 : ¬ ((j : Int) < 0) := by omega
      simp -implicitDefEqProofs (disch := omega) only [natNe, wk, indexAddrA, lenA, Nat.reduceAdd, Nat.reduceLeDiff, Nat.reduceEqDiff, if_true, if_false, reduceIte, reduceCtorEq, exists_eq_left', implies_true, forall_const, Int.reduceLT, Int.reduceLE, Int.reduceEq, Int.reduceNeg, bindT, Nat.reduceMul, tis, hx', flSet, t1, t3, t6, t8, t17, t18, t19, b0, b1, b2, idxI, flSt, zSt, hla, hj0, List.length_map]
      refine draw0 (by kernel_rfl) ?_
      simp -implicitDefEqProofs (disch := omega) only [natNe, wk, indexAddrA, lenA, Nat.reduceAdd, Nat.reduceLeDiff, Nat.reduceEqDiff, if_true, if_false, reduceIte, reduceCtorEq, exists_eq_left', implies_true, forall_const, Int.reduceLT, Int.reduceLE, Int.reduceEq, Int.reduceNeg, bindT, Nat.reduceMul, tis, hx', flSet, t1, t3, t6, t8, t17, t18, t19, b0, b1, b2, idxI, flSt, zSt, hla, hrow, flCell, hjl, List.length_map]
      refine callD_fn (.sc (.bool (decide (x.v.kind = c.v.kind) && mayM x.v))) (.noRef rfl) (fun h nx K hk => vIs (v := x.v) (kind := c.v.kind) hxt hk) ?_
      rw [hcat] at hgo
      cases his : (decide (x.v.kind = c.v.kind) && mayM x.v) with
      | false =>
        rw [his, if_neg (by simp)] at hgo
        simp -implicitDefEqProofs (disch := omega) only [natNe, wk, indexAddrA, lenA, Nat.reduceAdd, Nat.reduceLeDiff, Nat.reduceEqDiff, if_true, if_false, reduceIte, reduceCtorEq, exists_eq_left', implies_true, forall_const, Int.reduceLT, Int.reduceLE, Int.reduceEq, Int.reduceNeg, bindT, Nat.reduceMul, tis, hx', flSet, t1, t3, t6, t8, t17, t18, t19, b0, b1, b2, idxI, flSt, zSt, hla, hrow, flCell, hjl, List.length_map]
        rw [← hgo] at hk
        refine .pure _ (fun k hk => ?_) ?_ hk
        · have := hov k hk
          simp -implicitDefEqProofs (disch := omega) only [natNe, wk, indexAddrA, lenA, Nat.reduceAdd, Nat.reduceLeDiff, Nat.reduceEqDiff, if_true, if_false, reduceIte, reduceCtorEq, exists_eq_left', implies_true, forall_const, Int.reduceLT, Int.reduceLE, Int.reduceEq, Int.reduceNeg, bindT, Nat.reduceMul, tis, this]
        · exact .tup' (.cons (.agg' (.cons (.same rfl) (.cons (.same rfl) (.cons (.same hd) (.cons (.same rfl) (.cons (.same rfl) (.cons (.same hw) (.nil _ _)))))))) (.cons (.same rfl) (.nil _ _)))
      | true =>
        rw [his, if_pos rfl] at hgo
        simp -implicitDefEqProofs (disch := omega) only [natNe, wk, indexAddrA, lenA, Nat.reduceAdd, Nat.reduceLeDiff, Nat.reduceEqDiff, if_true, if_false, reduceIte, reduceCtorEq, exists_eq_left', implies_true, forall_const, Int.reduceLT, Int.reduceLE, Int.reduceEq, Int.reduceNeg, bindT, Nat.reduceMul, tis, hx', flSet, t1, t3, t6, t8, t17, t18, t19, b0, b1, b2, idxI, flSt, zSt, hla, hrow, flCell, hjl, List.length_map]
        have eset : (L.map flCell).set j (flCell { c with v := x.v }) = (L.set j { cAt L j with v := x.v }).map flCell := by rw [List.map_set, hcat]
        simp only [flCell] at eset
        refine ⟨m - 1, by omega, _, _, _, i + 1, .own a g 0, L.set j { cAt L j with v := x.v }, rfl, by omega, ?_, ?_, ?_, ?_, ?_, ?_, ?_, ?_, ?_, ?_, ?_, by omega, by simpa using hLl, ?_, .inr ⟨a, g, rfl, ⟨a1, by omega⟩, ?_⟩⟩
        · intro k hk
          have := hov k hk
          simp -implicitDefEqProofs (disch := omega) only [natNe, wk, indexAddrA, lenA, Nat.reduceAdd, Nat.reduceLeDiff, Nat.reduceEqDiff, if_true, if_false, reduceIte, reduceCtorEq, exists_eq_left', implies_true, forall_const, Int.reduceLT, Int.reduceLE, Int.reduceEq, Int.reduceNeg, bindT, Nat.reduceMul, tis, this]
        · simp -implicitDefEqProofs (disch := omega) only [natNe, wk, indexAddrA, lenA, Nat.reduceAdd, Nat.reduceLeDiff, Nat.reduceEqDiff, if_true, if_false, reduceIte, reduceCtorEq, exists_eq_left', implies_true, forall_const, Int.reduceLT, Int.reduceLE, Int.reduceEq, Int.reduceNeg, bindT, Nat.reduceMul, tis, b0, flSt]
        · simp -implicitDefEqProofs (disch := omega) only [natNe, wk, indexAddrA, lenA, Nat.reduceAdd, Nat.reduceLeDiff, Nat.reduceEqDiff, if_true, if_false, reduceIte, reduceCtorEq, exists_eq_left', implies_true, forall_const, Int.reduceLT, Int.reduceLE, Int.reduceEq, Int.reduceNeg, bindT, Nat.reduceMul, tis, b1, zSt]
        · simp -implicitDefEqProofs (disch := omega) only [natNe, wk, indexAddrA, lenA, Nat.reduceAdd, Nat.reduceLeDiff, Nat.reduceEqDiff, if_true, if_false, reduceIte, reduceCtorEq, exists_eq_left', implies_true, forall_const, Int.reduceLT, Int.reduceLE, Int.reduceEq, Int.reduceNeg, bindT, Nat.reduceMul, tis, b2]
        · simp -implicitDefEqProofs (disch := omega) only [natNe, wk, indexAddrA, lenA, Nat.reduceAdd, Nat.reduceLeDiff, Nat.reduceEqDiff, if_true, if_false, reduceIte, reduceCtorEq, exists_eq_left', implies_true, forall_const, Int.reduceLT, Int.reduceLE, Int.reduceEq, Int.reduceNeg, bindT, Nat.reduceMul, tis, t1]
        · simp -implicitDefEqProofs (disch := omega) only [natNe, wk, indexAddrA, lenA, Nat.reduceAdd, Nat.reduceLeDiff, Nat.reduceEqDiff, if_true, if_false, reduceIte, reduceCtorEq, exists_eq_left', implies_true, forall_const, Int.reduceLT, Int.reduceLE, Int.reduceEq, Int.reduceNeg, bindT, Nat.reduceMul, tis, t3]
        · simp -implicitDefEqProofs (disch := omega) only [natNe, wk, indexAddrA, lenA, Nat.reduceAdd, Nat.reduceLeDiff, Nat.reduceEqDiff, if_true, if_false, reduceIte, reduceCtorEq, exists_eq_left', implies_true, forall_const, Int.reduceLT, Int.reduceLE, Int.reduceEq, Int.reduceNeg, bindT, Nat.reduceMul, tis, t6]
        · simp -implicitDefEqProofs (disch := omega) only [natNe, wk, indexAddrA, lenA, Nat.reduceAdd, Nat.reduceLeDiff, Nat.reduceEqDiff, if_true, if_false, reduceIte, reduceCtorEq, exists_eq_left', implies_true, forall_const, Int.reduceLT, Int.reduceLE, Int.reduceEq, Int.reduceNeg, bindT, Nat.reduceMul, tis, t8]
        · simp -implicitDefEqProofs (disch := omega) only [natNe, wk, indexAddrA, lenA, Nat.reduceAdd, Nat.reduceLeDiff, Nat.reduceEqDiff, if_true, if_false, reduceIte, reduceCtorEq, exists_eq_left', implies_true, forall_const, Int.reduceLT, Int.reduceLE, Int.reduceEq, Int.reduceNeg, bindT, Nat.reduceMul, tis, t17, flSet]
        · simp -implicitDefEqProofs (disch := omega) only [natNe, wk, indexAddrA, lenA, Nat.reduceAdd, Nat.reduceLeDiff, Nat.reduceEqDiff, if_true, if_false, reduceIte, reduceCtorEq, exists_eq_left', implies_true, forall_const, Int.reduceLT, Int.reduceLE, Int.reduceEq, Int.reduceNeg, bindT, Nat.reduceMul, tis, t18]
        · simp -implicitDefEqProofs (disch := omega) only [natNe, wk, indexAddrA, lenA, Nat.reduceAdd, Nat.reduceLeDiff, Nat.reduceEqDiff, if_true, if_false, reduceIte, reduceCtorEq, exists_eq_left', implies_true, forall_const, Int.reduceLT, Int.reduceLE, Int.reduceEq, Int.reduceNeg, bindT, Nat.reduceMul, tis, wrap_i64]
          rfl
        · simp only [StM.setCell, hcat] at hgo
          rw [hcat]
          exact hgo
        · rw [← eset]
          simp -implicitDefEqProofs (disch := omega) only [natNe, wk, indexAddrA, lenA, Nat.reduceAdd, Nat.reduceLeDiff, Nat.reduceEqDiff, if_true, if_false, reduceIte, reduceCtorEq, exists_eq_left', implies_true, forall_const, Int.reduceLT, Int.reduceLE, Int.reduceEq, Int.reduceNeg, bindT, Nat.reduceMul, tis, hla]
  · have hdr : sets.drop i = [] := List.drop_eq_nil_of_le (by omega)
    rw [hdr] at hgo
    simp only [StM.putGo] at hgo
    simp -implicitDefEqProofs (disch := omega) only [natNe, wk, indexAddrA, lenA, Nat.reduceAdd, Nat.reduceLeDiff, Nat.reduceEqDiff, if_true, if_false, reduceIte, reduceCtorEq, exists_eq_left', implies_true, forall_const, Int.reduceLT, Int.reduceLE, Int.reduceEq, Int.reduceNeg, bindT, Nat.reduceMul, tis, t1, t3, t6, t8, t17, t18, t19, b0, b1, b2, flSt, zSt]
    rw [← hgo] at hk
    refine .pure _ (fun k hk => ?_) ?_ hk
    · have := hov k hk
      simp -implicitDefEqProofs (disch := omega) only [natNe, wk, indexAddrA, lenA, Nat.reduceAdd, Nat.reduceLeDiff, Nat.reduceEqDiff, if_true, if_false, reduceIte, reduceCtorEq, exists_eq_left', implies_true, forall_const, Int.reduceLT, Int.reduceLE, Int.reduceEq, Int.reduceNeg, bindT, Nat.reduceMul, tis, this]
    · refine .tup' (.cons (.agg' (.cons (.same rfl) (.cons (.same rfl) (.cons (.same hd) (.cons (.same rfl) (.cons ?_ (.cons (.same hw) (.nil _ _)))))))) (.cons (.same rfl) (.nil _ _)))
      rcases hv with ⟨hnil, rfl⟩ | ⟨a, g, rfl, ha, hla⟩
      · rw [hnil]; exact .emp 5
      · have a1 : nx + 3 ≤ a := ha.1
        have a2 : a < NX := ha.2
        exact .own (L := L.map flCell) (by omega) (by simp -implicitDefEqProofs (disch := omega) only [natNe, wk, indexAddrA, lenA, Nat.reduceAdd, Nat.reduceLeDiff, Nat.reduceEqDiff, if_true, if_false, reduceIte, reduceCtorEq, exists_eq_left', implies_true, forall_const, Int.reduceLT, Int.reduceLE, Int.reduceEq, Int.reduceNeg, bindT, Nat.reduceMul, tis, hla]) (flCell_noRef L) rfl
end Go.Abs.Try
