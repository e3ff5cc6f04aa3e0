/- Contract: the law VarsDropped. -/
import Derived.Test.YtlmkmmkhfkdagaaWorks
import Derived.Test.YtlmkmmkhfkdagaaDroppedP
import Derived.Test.YtlmkmmkhfkdagaaDrop
import Derived.Test.YtlmkmmkhfkdagaaStab
import Derived.Test.YtlmkmmkhfkdagaaSame2
import Derived.Test.YtlmkmmkhfkdagaaKf
set_option linter.unusedVariables false
set_option linter.unusedSimpArgs false
set_option maxHeartbeats 400000000
set_option maxRecDepth 8000
namespace Go.Abs.Try
open Go Go.Abs Go.Proofs

theorem vopenD {h : Heap} {nx : Nat} {K : AV → Heap → Nat → Prop} {s : StM} {scope : Int} {vs : List VarM} (hcl : s.cells.length ≤ 400000) (hvl : vs.length ≤ 400000) (hd : s.defs.noRef = true) (hw : s.watches.noRef = true)
    (hk : K (.agg (flSt (s.open_ scope vs))) h nx) : ACall Try.prog 11 [.agg (flSt s), .sc (.int .i64 scope), .lst 4 (vs.map flVar)] h nx K :=
  vopen hcl hvl hd hw (fun h nx K id g hl hid hk => sortStableN hl hid (by have := pre_len s scope vs; omega) hk) fun L' ok => by rw [ok.eq]; exact hk

theorem flSt_noRef {t : StM} (h1 : t.defs.noRef = true) (h2 : t.watches.noRef = true) : (flSt t).all AV.noRef = true := by
  simp only [flSt, List.all_cons, h1, h2]
  rfl

theorem lawDropped {h : Heap} {nx : Nat} {K : AV → Heap → Nat → Prop} {s : StM} {scope : Int} {vs : List VarM} {ps : List ProcM} {ws : List WatchM} (hd : s.defs = .lst 4 (ps.map flProc)) (hw : s.watches = .lst 7 (ws.map flWatch)) (hp : ∀ p ∈ ps, p.fits)
    (hk : K (.sc (.bool true)) h nx) :
    ACall Try.prog 7 [.agg (flSt s), .sc (.int .i64 scope), .lst 4 (vs.map flVar)] h nx K := by
  refine ACall.of_body (c := Try.f7.body.getD .skip) mixed Try.func7 rfl (by kernel_rfl) (by rw [Try.ntmps7]; simp) (by kernel_rfl) ?_
  simp -implicitDefEqProofs only [Try.f7, Option.getD_some, Array.toList]
  simp -implicitDefEqProofs (disch := omega) only [natNe, wk, indexAddrA, lenA, Nat.reduceAdd, Nat.reduceLeDiff, Nat.reduceEqDiff, if_true, if_false, reduceIte, reduceCtorEq, exists_eq_left', implies_true, forall_const, Int.reduceLT, Int.reduceLE, Int.reduceEq, Int.reduceNeg, bindT, Nat.reduceMul, tis, flSt]
  refine callX_fn (works ?_)
  simp -implicitDefEqProofs (disch := omega) only [natNe, wk, indexAddrA, lenA, Nat.reduceAdd, Nat.reduceLeDiff, Nat.reduceEqDiff, if_true, if_false, reduceIte, reduceCtorEq, exists_eq_left', implies_true, forall_const, Int.reduceLT, Int.reduceLE, Int.reduceEq, Int.reduceNeg, bindT, Nat.reduceMul, tis, flSt]
  refine callX_fn (large (s := s) hd hw ?_)
  cases hbig : bigSt s (ps.map flProc).length (ws.map flWatch).length with
  | true =>
    simp -implicitDefEqProofs (disch := omega) only [natNe, wk, indexAddrA, lenA, Nat.reduceAdd, Nat.reduceLeDiff, Nat.reduceEqDiff, if_true, if_false, reduceIte, reduceCtorEq, exists_eq_left', implies_true, forall_const, Int.reduceLT, Int.reduceLE, Int.reduceEq, Int.reduceNeg, bindT, Nat.reduceMul, tis, flSt]
    refine callX_fn (works ?_)
    simp -implicitDefEqProofs (disch := omega) only [natNe, wk, indexAddrA, lenA, Nat.reduceAdd, Nat.reduceLeDiff, Nat.reduceEqDiff, if_true, if_false, reduceIte, reduceCtorEq, exists_eq_left', implies_true, forall_const, Int.reduceLT, Int.reduceLE, Int.reduceEq, Int.reduceNeg, bindT, Nat.reduceMul, tis, flSt]
    refine .pure _ ?_ (.same rfl) hk
    repeat (first | exact over_refl | refine over_hc (by omega) ?_ | refine over_upd (by omega) ?_ | refine over_del (by omega) ?_)
  | false =>
    simp -implicitDefEqProofs (disch := omega) only [natNe, wk, indexAddrA, lenA, Nat.reduceAdd, Nat.reduceLeDiff, Nat.reduceEqDiff, if_true, if_false, reduceIte, reduceCtorEq, exists_eq_left', implies_true, forall_const, Int.reduceLT, Int.reduceLE, Int.reduceEq, Int.reduceNeg, bindT, Nat.reduceMul, tis, flSt, List.length_map]
    refine ⟨fun h50 => ?_, fun h50 => ?_⟩
    · refine callX_fn (works ?_)
      simp -implicitDefEqProofs (disch := omega) only [natNe, wk, indexAddrA, lenA, Nat.reduceAdd, Nat.reduceLeDiff, Nat.reduceEqDiff, if_true, if_false, reduceIte, reduceCtorEq, exists_eq_left', implies_true, forall_const, Int.reduceLT, Int.reduceLE, Int.reduceEq, Int.reduceNeg, bindT, Nat.reduceMul, tis, flSt]
      refine .pure _ ?_ (.same rfl) hk
      repeat (first | exact over_refl | refine over_hc (by omega) ?_ | refine over_upd (by omega) ?_ | refine over_del (by omega) ?_)
    have hb := hbig
    simp only [bigSt, Bool.or_eq_false_iff, decide_eq_false_iff_not, List.length_map] at hb
    have hil : s.items.length ≤ 120 := by omega
    have hcl : s.cells.length ≤ 120 := by omega
    have hvl : vs.length ≤ 50 := by omega
    have hpl : ps.length ≤ 400000 := by omega
    have hwl : ws.length ≤ 400000 := by omega
    have hdn : s.defs.noRef = true := by rw [hd]; rfl
    have hwn : s.watches.noRef = true := by rw [hw]; rfl
    have hfz : ∀ (H : Heap), look (nx + 1) H = some (.arr 0 1 (flInts [scope])) → FzL (fun j => j = nx + 1) H [.agg (flSt s), .own (nx + 1) 0 0] [.agg (flSt s), .lst 1 (flInts [scope])] := fun H hl =>
      .cons (.agg' (.cons (.same rfl) (.cons (.same rfl) (.cons (.same hdn) (.cons (.same rfl) (.cons (.same rfl) (.cons (.same hwn) (.nil _ _)))))))) (.cons (.own rfl hl (by simp [flInts, AV.noRef]) rfl) (.nil _ _))
    refine callX_freeze1 (nx + 1) (hfz _ (by simp -implicitDefEqProofs (disch := omega) only [natNe, wk, indexAddrA, lenA, Nat.reduceAdd, Nat.reduceLeDiff, Nat.reduceEqDiff, if_true, if_false, reduceIte, reduceCtorEq, exists_eq_left', implies_true, forall_const, Int.reduceLT, Int.reduceLE, Int.reduceEq, Int.reduceNeg, bindT, Nat.reduceMul, tis, flInts])) (vdrop (s := s) (vs := [scope]) (by omega) (by simp) hdn hwn ?_)
    have hown := drop_own s scope
    have hcount := drop_count s scope
    have hno := @drop_scope s scope
    have htd : (s.drop [scope]).defs = s.defs := rfl
    have htw : (s.drop [scope]).watches = s.watches := rfl
    have hti : (s.drop [scope]).items = s.items := rfl
    generalize s.drop [scope] = t at *
    have htil : t.items.length ≤ 120 := by rw [hti]; exact hil
    have htcl : t.cells.length ≤ 120 := by omega
    have hcs : (t.cells.length : Int) + ((s.own scope).length : Int) = (s.cells.length : Int) := by omega
    have hol : (s.own scope).length ≤ 120 := by omega
    have hdt : t.defs = .lst 4 (ps.map flProc) := by rw [htd]; exact hd
    have hwt : t.watches = .lst 7 (ws.map flWatch) := by rw [htw]; exact hw
    have hdn2 : t.defs.noRef = true := by rw [hdt]; rfl
    have hwn2 : t.watches.noRef = true := by rw [hwt]; rfl
    simp -implicitDefEqProofs (disch := omega) only [natNe, wk, indexAddrA, lenA, Nat.reduceAdd, Nat.reduceLeDiff, Nat.reduceEqDiff, if_true, if_false, reduceIte, reduceCtorEq, exists_eq_left', implies_true, forall_const, Int.reduceLT, Int.reduceLE, Int.reduceEq, Int.reduceNeg, bindT, Nat.reduceMul, tis, flSt]
    refine draw0 (by kernel_rfl) ?_
    simp -implicitDefEqProofs (maxSteps := 2000000) (disch := omega) only [natNe, wk, indexAddrA, lenA, Nat.reduceAdd, Nat.reduceLeDiff, Nat.reduceEqDiff, if_true, if_false, reduceIte, reduceCtorEq, exists_eq_left', implies_true, forall_const, Int.reduceLT, Int.reduceLE, Int.reduceEq, Int.reduceNeg, bindT, Nat.reduceMul, tis, flSt]
    refine callD_fn (.lst 5 ((t.own scope).map flCell)) (.noRef rfl) (fun h nx K hk => vcells (s := t) (by omega) hk) ?_
    rw [hown]
    simp -implicitDefEqProofs (maxSteps := 2000000) (disch := omega) only [natNe, wk, indexAddrA, lenA, Nat.reduceAdd, Nat.reduceLeDiff, Nat.reduceEqDiff, if_true, if_false, reduceIte, reduceCtorEq, exists_eq_left', implies_true, forall_const, Int.reduceLT, Int.reduceLE, Int.reduceEq, Int.reduceNeg, bindT, Nat.reduceMul, tis, flSt, List.map_nil, List.length_nil, Int.natCast_zero, eq_self, decide_true, Bool.not_true]
    refine callD_fn (.lst 5 ((s.own scope).map flCell)) (.noRef rfl) (fun h nx K hk => vcells (s := s) (by omega) hk) ?_
    simp -implicitDefEqProofs (maxSteps := 2000000) (disch := omega) only [natNe, wk, indexAddrA, lenA, Nat.reduceAdd, Nat.reduceLeDiff, Nat.reduceEqDiff, if_true, if_false, reduceIte, reduceCtorEq, exists_eq_left', implies_true, forall_const, Int.reduceLT, Int.reduceLE, Int.reduceEq, Int.reduceNeg, bindT, Nat.reduceMul, tis, flSt, List.length_map, wrap_i64, hcs, eq_self, decide_true, Bool.not_true]
    refine loopX_cut (fun σ => ∃ T H NX, σ = ⟨T, H, NX, []⟩ ∧ nx + 3 ≤ NX ∧ (∀ k, k < nx → look k H = look k h) ∧ look nx H = some (.box (flSt s)) ∧ look (nx + 2) H = some (.box (flSt t)) ∧ look 1 T = some (.sc (.int .i64 scope)) ∧ look 2 T = some (.lst 4 (vs.map flVar)) ∧ look 3 T = some (.ptr nx 0) ∧ look 7 T = some (.ptr (nx + 2) 0) ∧ Sorted t.cells) ?_ ?_
    · rintro σ' ⟨T, H, NX, rfl, hNX, hov, b0, b2, t1, t2, t3, t7, hsort⟩
      have hod := open_drop (scope := scope) (vs := vs) hsort hno
      have hol2 := open_len t scope vs
      have hpl2 := pre_len t scope vs
      simp -implicitDefEqProofs (maxSteps := 2000000) (disch := omega) only [natNe, wk, indexAddrA, lenA, Nat.reduceAdd, Nat.reduceLeDiff, Nat.reduceEqDiff, if_true, if_false, reduceIte, reduceCtorEq, exists_eq_left', implies_true, forall_const, Int.reduceLT, Int.reduceLE, Int.reduceEq, Int.reduceNeg, bindT, Nat.reduceMul, tis, b0, b2, t1, t2, t3, t7, flSt]
      refine drawL (fun _ => 0) [] [false, false, false, false, false, true] (by kernel_rfl) ?_
      simp -implicitDefEqProofs (maxSteps := 2000000) (disch := omega) only [natNe, wk, indexAddrA, lenA, Nat.reduceAdd, Nat.reduceLeDiff, Nat.reduceEqDiff, if_true, if_false, reduceIte, reduceCtorEq, exists_eq_left', implies_true, forall_const, Int.reduceLT, Int.reduceLE, Int.reduceEq, Int.reduceNeg, bindT, Nat.reduceMul, tis, b0, b2, t1, t2, t3, t7, flSt]
      refine callD_fn (.agg (flSt (t.open_ scope vs))) (.aggF (flSt_noRef (t := t.open_ scope vs) hdn2 hwn2)) (fun h nx K hk => vopenD (s := t) (by omega) (by omega) hdn2 hwn2 hk) ?_
      simp -implicitDefEqProofs (maxSteps := 2000000) (disch := omega) only [natNe, wk, indexAddrA, lenA, Nat.reduceAdd, Nat.reduceLeDiff, Nat.reduceEqDiff, if_true, if_false, reduceIte, reduceCtorEq, exists_eq_left', implies_true, forall_const, Int.reduceLT, Int.reduceLE, Int.reduceEq, Int.reduceNeg, bindT, Nat.reduceMul, tis, b0, b2, t1, t2, t3, t7, flSt]
      refine callD_fn (.agg (flSt t)) (.aggF (flSt_noRef hdn2 hwn2)) (fun h nx K hk => vdrop (s := t.open_ scope vs) (vs := [scope]) (by omega) (by simp) hdn2 hwn2 (by rw [hod]; exact hk)) ?_
      simp -implicitDefEqProofs (maxSteps := 2000000) (disch := omega) only [natNe, wk, indexAddrA, lenA, Nat.reduceAdd, Nat.reduceLeDiff, Nat.reduceEqDiff, if_true, if_false, reduceIte, reduceCtorEq, exists_eq_left', implies_true, forall_const, Int.reduceLT, Int.reduceLE, Int.reduceEq, Int.reduceNeg, bindT, Nat.reduceMul, tis, b0, b2, t1, t2, t3, t7, flSt]
      refine callD_fn (.sc (.bool true)) (.noRef rfl) (fun h nx K hk => sameRefl hdt hwt hp hpl (by omega) (by omega) hwl hk) ?_
      simp -implicitDefEqProofs (maxSteps := 2000000) (disch := omega) only [natNe, wk, indexAddrA, lenA, Nat.reduceAdd, Nat.reduceLeDiff, Nat.reduceEqDiff, if_true, if_false, reduceIte, reduceCtorEq, exists_eq_left', implies_true, forall_const, Int.reduceLT, Int.reduceLE, Int.reduceEq, Int.reduceNeg, bindT, Nat.reduceMul, tis, b0, b2, t1, t2, t3, t7, flSt]
      refine .pure _ ?_ (.same rfl) hk
      intro k hk
      have := hov k hk
      simp -implicitDefEqProofs (disch := omega) only [natNe, wk, indexAddrA, lenA, Nat.reduceAdd, Nat.reduceLeDiff, Nat.reduceEqDiff, if_true, if_false, reduceIte, reduceCtorEq, exists_eq_left', implies_true, forall_const, Int.reduceLT, Int.reduceLE, Int.reduceEq, Int.reduceNeg, bindT, Nat.reduceMul, tis, this]
    · refine loopX_ind (fun m σ => ∃ T H NX i, σ = ⟨T, H, NX, []⟩ ∧ nx + 3 ≤ NX ∧ (∀ k, k < nx → look k H = look k h) ∧ look nx H = some (.box (flSt s)) ∧ look (nx + 2) H = some (.box (flSt t)) ∧ look 1 T = some (.sc (.int .i64 scope)) ∧ look 2 T = some (.lst 4 (vs.map flVar)) ∧ look 3 T = some (.ptr nx 0) ∧ look 7 T = some (.ptr (nx + 2) 0) ∧ look 8 T = some (.sc (.int .i64 (i : Nat))) ∧ m + i = t.cells.length + 1 ∧ 1 ≤ i ∧ ∀ k, k + 1 < i → keyLt (cAt t.cells (k + 1)) (cAt t.cells k) = false) t.cells.length ⟨_, _, _, 1, rfl, by omega, ?_, ?_, ?_, rfl, rfl, rfl, rfl, rfl, by omega, by omega, fun k hk => by omega⟩ ?_
      · repeat (first | exact over_refl | refine over_hc (by omega) ?_ | refine over_upd (by omega) ?_ | refine over_del (by omega) ?_)
      · simp -implicitDefEqProofs (disch := omega) only [natNe, wk, indexAddrA, lenA, Nat.reduceAdd, Nat.reduceLeDiff, Nat.reduceEqDiff, if_true, if_false, reduceIte, reduceCtorEq, exists_eq_left', implies_true, forall_const, Int.reduceLT, Int.reduceLE, Int.reduceEq, Int.reduceNeg, bindT, Nat.reduceMul, tis, flSt]
      · simp -implicitDefEqProofs (disch := omega) only [natNe, wk, indexAddrA, lenA, Nat.reduceAdd, Nat.reduceLeDiff, Nat.reduceEqDiff, if_true, if_false, reduceIte, reduceCtorEq, exists_eq_left', implies_true, forall_const, Int.reduceLT, Int.reduceLE, Int.reduceEq, Int.reduceNeg, bindT, Nat.reduceMul, tis, flSt]
      rintro m σ' ⟨T, H, NX, i, rfl, hNX, hov, b0, b2, t1, t2, t3, t7, t8, hm, hi1, hno2⟩
      by_cases hil : i < t.cells.length
      · have hil2 : (i : Int) < (t.cells.length : Int) := by omega
        simp -implicitDefEqProofs (maxSteps := 2000000) (disch := omega) only [natNe, wk, indexAddrA, lenA, Nat.reduceAdd, Nat.reduceLeDiff, Nat.reduceEqDiff, if_true, if_false, reduceIte, reduceCtorEq, exists_eq_left', implies_true, forall_const, Int.reduceLT, Int.reduceLE, Int.reduceEq, Int.reduceNeg, bindT, Nat.reduceMul, tis, b0, b2, t1, t2, t3, t7, t8, flSt, List.length_map, hil2, decide_true, cutE_exit, cutE_ret]
        refine drawL (fun k => if k = NX + 11 then 1 else 2) [0, 0, 0, 0, 0, 0, 2, 2, 0, 2, 2, 0, 0, 1, 0] [] (by kernel_rfl) ?_
        have ha := map_at (L := t.cells) (i := i) hil
        have hb2 := map_at (L := t.cells) (i := i - 1) (by omega)
        have e1 : ((i : Int) - 1).toNat = i - 1 := by omega
        have e2 : (0 : Int) ≤ (i : Int) - 1 := by omega
        have e3 : (i : Int) - 1 < (t.cells.length : Int) := by omega
        have e4 : i - 1 < t.cells.length := by omega
        have ek : i - 1 + 1 = i := by omega
        generalize hca : cAt t.cells (i - 1) = ca at *
        generalize hcb : cAt t.cells i = cb at *
        by_cases g1 : cb.scope < ca.scope
        · simp -implicitDefEqProofs (maxSteps := 2000000) (disch := omega) only [natNe, wk, indexAddrA, lenA, Nat.reduceAdd, Nat.reduceLeDiff, Nat.reduceEqDiff, if_true, if_false, reduceIte, reduceCtorEq, exists_eq_left', implies_true, forall_const, Int.reduceLT, Int.reduceLE, Int.reduceEq, Int.reduceNeg, bindT, Nat.reduceMul, tis, b0, b2, t1, t2, t3, t7, t8, ha, hb2, e1, e2, e3, e4, hil, flSt, flCell, wrap_i64, List.length_map, cutE_exit, cutE_ret, g1, decide_true]
          refine .pure _ ?_ (.same rfl) hk
          intro k hk
          have := hov k hk
          simp -implicitDefEqProofs (disch := omega) only [natNe, wk, indexAddrA, lenA, Nat.reduceAdd, Nat.reduceLeDiff, Nat.reduceEqDiff, if_true, if_false, reduceIte, reduceCtorEq, exists_eq_left', implies_true, forall_const, Int.reduceLT, Int.reduceLE, Int.reduceEq, Int.reduceNeg, bindT, Nat.reduceMul, tis, this]
        · by_cases g2 : ca.scope = cb.scope
          · cases g3 : strLt cb.name ca.name with
            | true =>
              simp -implicitDefEqProofs (maxSteps := 2000000) (disch := omega) only [natNe, wk, indexAddrA, lenA, Nat.reduceAdd, Nat.reduceLeDiff, Nat.reduceEqDiff, if_true, if_false, reduceIte, reduceCtorEq, exists_eq_left', implies_true, forall_const, Int.reduceLT, Int.reduceLE, Int.reduceEq, Int.reduceNeg, bindT, Nat.reduceMul, tis, b0, b2, t1, t2, t3, t7, t8, ha, hb2, e1, e2, e3, e4, hil, flSt, flCell, wrap_i64, List.length_map, cutE_exit, cutE_ret, g1, g2, g3, strGe, Bool.not_true, Bool.not_false, Int.lt_irrefl, eq_self, decide_true, decide_false]
              refine .pure _ ?_ (.same rfl) hk
              intro k hk
              have := hov k hk
              simp -implicitDefEqProofs (disch := omega) only [natNe, wk, indexAddrA, lenA, Nat.reduceAdd, Nat.reduceLeDiff, Nat.reduceEqDiff, if_true, if_false, reduceIte, reduceCtorEq, exists_eq_left', implies_true, forall_const, Int.reduceLT, Int.reduceLE, Int.reduceEq, Int.reduceNeg, bindT, Nat.reduceMul, tis, this]
            | false =>
              simp -implicitDefEqProofs (maxSteps := 2000000) (disch := omega) only [natNe, wk, indexAddrA, lenA, Nat.reduceAdd, Nat.reduceLeDiff, Nat.reduceEqDiff, if_true, if_false, reduceIte, reduceCtorEq, exists_eq_left', implies_true, forall_const, Int.reduceLT, Int.reduceLE, Int.reduceEq, Int.reduceNeg, bindT, Nat.reduceMul, tis, b0, b2, t1, t2, t3, t7, t8, ha, hb2, e1, e2, e3, e4, hil, flSt, flCell, wrap_i64, List.length_map, cutE_exit, cutE_ret, g1, g2, g3, strGe, Bool.not_true, Bool.not_false, Int.lt_irrefl, eq_self, decide_true, decide_false]
              refine ⟨m - 1, by omega, _, _, _, i + 1, rfl, by omega, ?_, ?_, ?_, ?_, ?_, ?_, ?_, ?_, by omega, by omega, fun k hk => ?_⟩
              · intro k hk
                have := hov k hk
                simp -implicitDefEqProofs (disch := omega) only [natNe, wk, indexAddrA, lenA, Nat.reduceAdd, Nat.reduceLeDiff, Nat.reduceEqDiff, if_true, if_false, reduceIte, reduceCtorEq, exists_eq_left', implies_true, forall_const, Int.reduceLT, Int.reduceLE, Int.reduceEq, Int.reduceNeg, bindT, Nat.reduceMul, tis, this]
              · simp -implicitDefEqProofs (disch := omega) only [natNe, wk, indexAddrA, lenA, Nat.reduceAdd, Nat.reduceLeDiff, Nat.reduceEqDiff, if_true, if_false, reduceIte, reduceCtorEq, exists_eq_left', implies_true, forall_const, Int.reduceLT, Int.reduceLE, Int.reduceEq, Int.reduceNeg, bindT, Nat.reduceMul, tis, b0, flSt]
              · simp -implicitDefEqProofs (disch := omega) only [natNe, wk, indexAddrA, lenA, Nat.reduceAdd, Nat.reduceLeDiff, Nat.reduceEqDiff, if_true, if_false, reduceIte, reduceCtorEq, exists_eq_left', implies_true, forall_const, Int.reduceLT, Int.reduceLE, Int.reduceEq, Int.reduceNeg, bindT, Nat.reduceMul, tis, b2, flSt]
              · simp -implicitDefEqProofs (disch := omega) only [natNe, wk, indexAddrA, lenA, Nat.reduceAdd, Nat.reduceLeDiff, Nat.reduceEqDiff, if_true, if_false, reduceIte, reduceCtorEq, exists_eq_left', implies_true, forall_const, Int.reduceLT, Int.reduceLE, Int.reduceEq, Int.reduceNeg, bindT, Nat.reduceMul, tis, t1]
              · simp -implicitDefEqProofs (disch := omega) only [natNe, wk, indexAddrA, lenA, Nat.reduceAdd, Nat.reduceLeDiff, Nat.reduceEqDiff, if_true, if_false, reduceIte, reduceCtorEq, exists_eq_left', implies_true, forall_const, Int.reduceLT, Int.reduceLE, Int.reduceEq, Int.reduceNeg, bindT, Nat.reduceMul, tis, t2]
              · simp -implicitDefEqProofs (disch := omega) only [natNe, wk, indexAddrA, lenA, Nat.reduceAdd, Nat.reduceLeDiff, Nat.reduceEqDiff, if_true, if_false, reduceIte, reduceCtorEq, exists_eq_left', implies_true, forall_const, Int.reduceLT, Int.reduceLE, Int.reduceEq, Int.reduceNeg, bindT, Nat.reduceMul, tis, t3]
              · simp -implicitDefEqProofs (disch := omega) only [natNe, wk, indexAddrA, lenA, Nat.reduceAdd, Nat.reduceLeDiff, Nat.reduceEqDiff, if_true, if_false, reduceIte, reduceCtorEq, exists_eq_left', implies_true, forall_const, Int.reduceLT, Int.reduceLE, Int.reduceEq, Int.reduceNeg, bindT, Nat.reduceMul, tis, t7]
              · simp -implicitDefEqProofs (disch := omega) only [natNe, wk, indexAddrA, lenA, Nat.reduceAdd, Nat.reduceLeDiff, Nat.reduceEqDiff, if_true, if_false, reduceIte, reduceCtorEq, exists_eq_left', implies_true, forall_const, Int.reduceLT, Int.reduceLE, Int.reduceEq, Int.reduceNeg, bindT, Nat.reduceMul, tis, wrap_i64]
                rfl
              · by_cases hki : k + 1 = i
                · have hk1 : k = i - 1 := by omega
                  rw [hki, hk1, hca, hcb]
                  simp only [keyLt, Bool.or_eq_false_iff, Bool.and_eq_false_iff, decide_eq_false_iff_not]
                  exact ⟨g1, .inr g3⟩
                · exact hno2 k (by omega)
          · simp -implicitDefEqProofs (maxSteps := 2000000) (disch := omega) only [natNe, wk, indexAddrA, lenA, Nat.reduceAdd, Nat.reduceLeDiff, Nat.reduceEqDiff, if_true, if_false, reduceIte, reduceCtorEq, exists_eq_left', implies_true, forall_const, Int.reduceLT, Int.reduceLE, Int.reduceEq, Int.reduceNeg, bindT, Nat.reduceMul, tis, b0, b2, t1, t2, t3, t7, t8, ha, hb2, e1, e2, e3, e4, hil, flSt, flCell, wrap_i64, List.length_map, cutE_exit, cutE_ret, g1, g2, decide_true, decide_false]
            refine ⟨m - 1, by omega, _, _, _, i + 1, rfl, by omega, ?_, ?_, ?_, ?_, ?_, ?_, ?_, ?_, by omega, by omega, fun k hk => ?_⟩
            · intro k hk
              have := hov k hk
              simp -implicitDefEqProofs (disch := omega) only [natNe, wk, indexAddrA, lenA, Nat.reduceAdd, Nat.reduceLeDiff, Nat.reduceEqDiff, if_true, if_false, reduceIte, reduceCtorEq, exists_eq_left', implies_true, forall_const, Int.reduceLT, Int.reduceLE, Int.reduceEq, Int.reduceNeg, bindT, Nat.reduceMul, tis, this]
            · simp -implicitDefEqProofs (disch := omega) only [natNe, wk, indexAddrA, lenA, Nat.reduceAdd, Nat.reduceLeDiff, Nat.reduceEqDiff, if_true, if_false, reduceIte, reduceCtorEq, exists_eq_left', implies_true, forall_const, Int.reduceLT, Int.reduceLE, Int.reduceEq, Int.reduceNeg, bindT, Nat.reduceMul, tis, b0, flSt]
            · simp -implicitDefEqProofs (disch := omega) only [natNe, wk, indexAddrA, lenA, Nat.reduceAdd, Nat.reduceLeDiff, Nat.reduceEqDiff, if_true, if_false, reduceIte, reduceCtorEq, exists_eq_left', implies_true, forall_const, Int.reduceLT, Int.reduceLE, Int.reduceEq, Int.reduceNeg, bindT, Nat.reduceMul, tis, b2, flSt]
            · simp -implicitDefEqProofs (disch := omega) only [natNe, wk, indexAddrA, lenA, Nat.reduceAdd, Nat.reduceLeDiff, Nat.reduceEqDiff, if_true, if_false, reduceIte, reduceCtorEq, exists_eq_left', implies_true, forall_const, Int.reduceLT, Int.reduceLE, Int.reduceEq, Int.reduceNeg, bindT, Nat.reduceMul, tis, t1]
            · simp -implicitDefEqProofs (disch := omega) only [natNe, wk, indexAddrA, lenA, Nat.reduceAdd, Nat.reduceLeDiff, Nat.reduceEqDiff, if_true, if_false, reduceIte, reduceCtorEq, exists_eq_left', implies_true, forall_const, Int.reduceLT, Int.reduceLE, Int.reduceEq, Int.reduceNeg, bindT, Nat.reduceMul, tis, t2]
            · simp -implicitDefEqProofs (disch := omega) only [natNe, wk, indexAddrA, lenA, Nat.reduceAdd, Nat.reduceLeDiff, Nat.reduceEqDiff, if_true, if_false, reduceIte, reduceCtorEq, exists_eq_left', implies_true, forall_const, Int.reduceLT, Int.reduceLE, Int.reduceEq, Int.reduceNeg, bindT, Nat.reduceMul, tis, t3]
            · simp -implicitDefEqProofs (disch := omega) only [natNe, wk, indexAddrA, lenA, Nat.reduceAdd, Nat.reduceLeDiff, Nat.reduceEqDiff, if_true, if_false, reduceIte, reduceCtorEq, exists_eq_left', implies_true, forall_const, Int.reduceLT, Int.reduceLE, Int.reduceEq, Int.reduceNeg, bindT, Nat.reduceMul, tis, t7]
            · simp -implicitDefEqProofs (disch := omega) only [natNe, wk, indexAddrA, lenA, Nat.reduceAdd, Nat.reduceLeDiff, Nat.reduceEqDiff, if_true, if_false, reduceIte, reduceCtorEq, exists_eq_left', implies_true, forall_const, Int.reduceLT, Int.reduceLE, Int.reduceEq, Int.reduceNeg, bindT, Nat.reduceMul, tis, wrap_i64]
              rfl
            · by_cases hki : k + 1 = i
              · have hk1 : k = i - 1 := by omega
                rw [hki, hk1, hca, hcb]
                simp only [keyLt, Bool.or_eq_false_iff, Bool.and_eq_false_iff, decide_eq_false_iff_not]
                exact ⟨g1, .inl fun e => g2 e.symm⟩
              · exact hno2 k (by omega)
      · have hil2 : ¬ (i : Int) < (t.cells.length : Int) := by omega
        simp -implicitDefEqProofs (maxSteps := 2000000) (disch := omega) only [natNe, wk, indexAddrA, lenA, Nat.reduceAdd, Nat.reduceLeDiff, Nat.reduceEqDiff, if_true, if_false, reduceIte, reduceCtorEq, exists_eq_left', implies_true, forall_const, Int.reduceLT, Int.reduceLE, Int.reduceEq, Int.reduceNeg, bindT, Nat.reduceMul, tis, b0, b2, t1, t2, t3, t7, t8, flSt, List.length_map, hil2, decide_false, cutE_exit, cutE_ret]
        exact ⟨_, _, _, rfl, hNX, hov, by simp -implicitDefEqProofs (disch := omega) only [natNe, wk, indexAddrA, lenA, Nat.reduceAdd, Nat.reduceLeDiff, Nat.reduceEqDiff, if_true, if_false, reduceIte, reduceCtorEq, exists_eq_left', implies_true, forall_const, Int.reduceLT, Int.reduceLE, Int.reduceEq, Int.reduceNeg, bindT, Nat.reduceMul, tis, b0, flSt], by simp -implicitDefEqProofs (disch := omega) only [natNe, wk, indexAddrA, lenA, Nat.reduceAdd, Nat.reduceLeDiff, Nat.reduceEqDiff, if_true, if_false, reduceIte, reduceCtorEq, exists_eq_left', implies_true, forall_const, Int.reduceLT, Int.reduceLE, Int.reduceEq, Int.reduceNeg, bindT, Nat.reduceMul, tis, b2, flSt], by simp -implicitDefEqProofs (disch := omega) only [natNe, wk, indexAddrA, lenA, Nat.reduceAdd, Nat.reduceLeDiff, Nat.reduceEqDiff, if_true, if_false, reduceIte, reduceCtorEq, exists_eq_left', implies_true, forall_const, Int.reduceLT, Int.reduceLE, Int.reduceEq, Int.reduceNeg, bindT, Nat.reduceMul, tis, t1], by simp -implicitDefEqProofs (disch := omega) only [natNe, wk, indexAddrA, lenA, Nat.reduceAdd, Nat.reduceLeDiff, Nat.reduceEqDiff, if_true, if_false, reduceIte, reduceCtorEq, exists_eq_left', implies_true, forall_const, Int.reduceLT, Int.reduceLE, Int.reduceEq, Int.reduceNeg, bindT, Nat.reduceMul, tis, t2], by simp -implicitDefEqProofs (disch := omega) only [natNe, wk, indexAddrA, lenA, Nat.reduceAdd, Nat.reduceLeDiff, Nat.reduceEqDiff, if_true, if_false, reduceIte, reduceCtorEq, exists_eq_left', implies_true, forall_const, Int.reduceLT, Int.reduceLE, Int.reduceEq, Int.reduceNeg, bindT, Nat.reduceMul, tis, t3], by simp -implicitDefEqProofs (disch := omega) only [natNe, wk, indexAddrA, lenA, Nat.reduceAdd, Nat.reduceLeDiff, Nat.reduceEqDiff, if_true, if_false, reduceIte, reduceCtorEq, exists_eq_left', implies_true, forall_const, Int.reduceLT, Int.reduceLE, Int.reduceEq, Int.reduceNeg, bindT, Nat.reduceMul, tis, t7], rise_sorted fun k hk => hno2 k (by omega)⟩
end Go.Abs.Try
