/- Contracts: the cell that is seen. -/
import Derived.Test.YtlmkmmkhfkdagaaWay2
set_option linter.unusedVariables false
set_option linter.unusedSimpArgs false
set_option maxHeartbeats 4000000
set_option maxRecDepth 8000
namespace Go.Abs.Try
open Go Go.Abs Go.Proofs

theorem vplace1 {h : Heap} {nx : Nat} {K : AV → Heap → Nat → Prop} {i j : Nat} {id : Int} {name : ByteArray} {c : CellM} (hi : look i h = some (.box [.sc (.int .i64 id)])) (hj : look j h = some (.box [.sc (.string name)])) (hin : i < nx) (hjn : j < nx)
    (hk : K (.sc (.bool (isCell id name c))) h nx) : ACall Try.prog 49 [.agg (flCell c), .ptr i 0, .ptr j 0] h nx K := by
  refine ACall.of_body (c := Try.f49.body.getD .skip) mixed Try.func49 rfl (by kernel_rfl) (by rw [Try.ntmps49]; simp) (by kernel_rfl) ?_
  simp -implicitDefEqProofs only [Try.f49, Option.getD_some, Array.toList]
  have e1 : ¬ nx = i := by omega
  have e2 : ¬ nx = j := by omega
  unfold isCell at hk
  by_cases hs : c.scope = id
  · simp -implicitDefEqProofs only [wk, indexAddrA, lenA, Nat.reduceAdd, Nat.reduceLeDiff, Nat.reduceEqDiff, if_true, if_false, reduceIte, reduceCtorEq, exists_eq_left', implies_true, forall_const, Int.reduceLT, Int.reduceLE, Int.reduceEq, Int.reduceNeg, bindT, Nat.reduceMul, tis, flCell, hi, hj, e1, e2, hs]
    refine .pure _ ?_ (.same rfl) (by simpa [hs] using hk)
    repeat (first | exact over_refl | refine over_hc (by omega) ?_ | refine over_upd (by omega) ?_ | refine over_del (by omega) ?_)
  · simp -implicitDefEqProofs only [wk, indexAddrA, lenA, Nat.reduceAdd, Nat.reduceLeDiff, Nat.reduceEqDiff, if_true, if_false, reduceIte, reduceCtorEq, exists_eq_left', implies_true, forall_const, Int.reduceLT, Int.reduceLE, Int.reduceEq, Int.reduceNeg, bindT, Nat.reduceMul, tis, flCell, hi, hj, e1, e2, hs]
    refine .pure _ ?_ (.same rfl) (by simpa [hs] using hk)
    repeat (first | exact over_refl | refine over_hc (by omega) ?_ | refine over_upd (by omega) ?_ | refine over_del (by omega) ?_)

theorem vplace {h : Heap} {nx : Nat} {K : AV → Heap → Nat → Prop} {s : StM} {scope : Int} {name : ByteArray} (hlen : s.items.length ≤ 900000) (hcl : s.cells.length ≤ 900000)
    (hk : K (.sc (.int .i64 (idxI (s.spot scope name)))) h nx) : ACall Try.prog 36 [.agg (flSt s), .sc (.int .i64 scope), .sc (.string name)] h nx K := by
  refine ACall.of_body (c := Try.f36.body.getD .skip) mixed Try.func36 rfl (by kernel_rfl) (by rw [Try.ntmps36]; simp) (by kernel_rfl) ?_
  simp -implicitDefEqProofs only [Try.f36, Option.getD_some, Array.toList]
  simp -implicitDefEqProofs only [wk, indexAddrA, lenA, Nat.reduceAdd, Nat.reduceLeDiff, Nat.reduceEqDiff, if_true, if_false, reduceIte, reduceCtorEq, exists_eq_left', implies_true, forall_const, Int.reduceLT, Int.reduceLE, Int.reduceEq, Int.reduceNeg, bindT, Nat.reduceMul, tis, flSt]
  refine callX_fn (way0 (s := s) ?_)
  simp -implicitDefEqProofs only [wk, indexAddrA, lenA, Nat.reduceAdd, Nat.reduceLeDiff, Nat.reduceEqDiff, if_true, if_false, reduceIte, reduceCtorEq, exists_eq_left', implies_true, forall_const, Int.reduceLT, Int.reduceLE, Int.reduceEq, Int.reduceNeg, bindT, Nat.reduceMul, tis]
  refine xt_range (fun r h => by cases h) rfl ?_
  unfold rangeX
  simp only [rangeIn, Nat.add_assoc, Nat.reduceAdd]
  generalize hR : loopRec _ _ _ _ _ = R
  have r1 : R.st = .ready := by rw [← hR]; rfl
  have r2 : R.pend = none := by rw [← hR]; rfl
  have r3 : R.nt = 20 := by rw [← hR]; rfl
  have r4 : R.params = #[12] := by rw [← hR]; rfl
  have r5 : look 3 R.tmps = some (.ptr nx 0) := by rw [← hR]; rfl
  have r6 : look 5 R.tmps = some (.ptr (nx + 1) 0) := by rw [← hR]; rfl
  have r7 : look 6 R.tmps = some (.ptr (nx + 2) 0) := by rw [← hR]; rfl
  have ra := (congrArg ALoop.assign hR).symm
  have rb := (congrArg ALoop.body hR).symm
  simp only [loopRec] at ra rb
  have hidx : ∀ (id : Int), (s.cells.map flCell).findIdx? (fun cs => match cs with | .sc (.int .i64 a) :: .sc (.string b) :: _ => decide (a = id) && decide (b = name) | _ => false) = s.cells.findIdx? (isCell id name) := fun id => by
    rw [findIdx_map]; rfl
  let T : Taker := {
    J := fun n M h => M nx ∧ M (nx + 1) ∧ M (nx + 2) ∧ M (nx + 6) ∧ look nx h = some (.box (flSt s)) ∧ look (nx + 1) h = some (.box [.sc (.string name)]) ∧ look (nx + 2) h = some (.box [.sc (.int .i64 0)]) ∧ look (nx + 6) h = some (.loop R) ∧
      ∀ m id, m < n → (s.way scope)[m]? = some id → s.cells.findIdx? (isCell id name) = none
    JX := fun n M h => M nx ∧ M (nx + 1) ∧ M (nx + 2) ∧ M (nx + 6) ∧ (∃ i, s.spot scope name = some i ∧ look (nx + 2) h = some (.box [.sc (.int .i64 (i : Nat))])) ∧ look (nx + 6) h = some (.loop { R with st := .done, pend := some .ret })
    stJ := by
      rintro n M h h' ⟨m1, m2, m3, m4, m5, m6, m7, m8, m9⟩ hs
      exact ⟨m1, m2, m3, m4, by rw [hs _ m1]; exact m5, by rw [hs _ m2]; exact m6, by rw [hs _ m3]; exact m7, by rw [hs _ m4]; exact m8, m9⟩
    stX := by
      rintro n M h h' ⟨m1, m2, m3, m4, ⟨i, m5, m6⟩, m7⟩ hs
      exact ⟨m1, m2, m3, m4, ⟨i, m5, by rw [hs _ m3]; exact m6⟩, by rw [hs _ m4]; exact m7⟩ }
  refine way1 (s := s) (scope := scope) (by omega) T (M := fun k => k = nx ∨ k = nx + 1 ∨ k = nx + 2 ∨ k = nx + 6) (by rintro k (rfl | rfl | rfl | rfl) <;> omega) ?_ ?_ (by omega) (by omega) (by omega) (by omega) ?_ ?_ ?_
  · simp -implicitDefEqProofs (disch := omega) only [natNe, wk, indexAddrA, lenA, Nat.reduceAdd, Nat.reduceLeDiff, Nat.reduceEqDiff, if_true, if_false, reduceIte, reduceCtorEq, exists_eq_left', implies_true, forall_const, Int.reduceLT, Int.reduceLE, Int.reduceEq, Int.reduceNeg, bindT, Nat.reduceMul, tis]
  · simp -implicitDefEqProofs (disch := omega) only [natNe, wk, indexAddrA, lenA, Nat.reduceAdd, Nat.reduceLeDiff, Nat.reduceEqDiff, if_true, if_false, reduceIte, reduceCtorEq, exists_eq_left', implies_true, forall_const, Int.reduceLT, Int.reduceLE, Int.reduceEq, Int.reduceNeg, bindT, Nat.reduceMul, tis]
  · refine ⟨.inl rfl, .inr (.inl rfl), .inr (.inr (.inl rfl)), .inr (.inr (.inr rfl)), ?_, ?_, ?_, ?_, fun m id hm => by omega⟩
    · simp -implicitDefEqProofs (disch := omega) only [natNe, wk, indexAddrA, lenA, Nat.reduceAdd, Nat.reduceLeDiff, Nat.reduceEqDiff, if_true, if_false, reduceIte, reduceCtorEq, exists_eq_left', implies_true, forall_const, Int.reduceLT, Int.reduceLE, Int.reduceEq, Int.reduceNeg, bindT, Nat.reduceMul, tis, flSt]
    · simp -implicitDefEqProofs (disch := omega) only [natNe, wk, indexAddrA, lenA, Nat.reduceAdd, Nat.reduceLeDiff, Nat.reduceEqDiff, if_true, if_false, reduceIte, reduceCtorEq, exists_eq_left', implies_true, forall_const, Int.reduceLT, Int.reduceLE, Int.reduceEq, Int.reduceNeg, bindT, Nat.reduceMul, tis]
    · simp -implicitDefEqProofs (disch := omega) only [natNe, wk, indexAddrA, lenA, Nat.reduceAdd, Nat.reduceLeDiff, Nat.reduceEqDiff, if_true, if_false, reduceIte, reduceCtorEq, exists_eq_left', implies_true, forall_const, Int.reduceLT, Int.reduceLE, Int.reduceEq, Int.reduceNeg, bindT, Nat.reduceMul, tis]
    · simp -implicitDefEqProofs (disch := omega) only [natNe, wk, indexAddrA, lenA, Nat.reduceAdd, Nat.reduceLeDiff, Nat.reduceEqDiff, if_true, if_false, reduceIte, reduceCtorEq, exists_eq_left', implies_true, forall_const, Int.reduceLT, Int.reduceLE, Int.reduceEq, Int.reduceNeg, bindT, Nat.reduceMul, tis]
  · rintro n x M h' nx' hx ⟨m1, m2, m3, m4, m5, m6, m7, m8, m9⟩ hM K' hK'
    simp only [List.getElem?_map, Option.map_eq_some_iff] at hx
    obtain ⟨id, hid, rfl⟩ := hx
    have q1 := hM _ m1
    have q2 := hM _ m2
    have q3 := hM _ m3
    have q4 := hM _ m4
    refine ACallV.yield mixed m8 (by simp [r4]) (by rw [← hR]; kernel_rfl) ?_
    simp -implicitDefEqProofs (disch := omega) only [natNe, wk, indexAddrA, lenA, Nat.reduceAdd, Nat.reduceLeDiff, Nat.reduceEqDiff, if_true, if_false, reduceIte, reduceCtorEq, exists_eq_left', implies_true, forall_const, Int.reduceLT, Int.reduceLE, Int.reduceEq, Int.reduceNeg, bindT, Nat.reduceMul, tis, ra, rb, r1, r2, r3, r4, r5, r6, r7, m5, m6, m7, m8, flSt]
    refine callX_fn (indexCell (p := fun cs => match cs with | .sc (.int .i64 a) :: .sc (.string b) :: _ => decide (a = id) && decide (b = name) | _ => false) (by simp; omega) (fun cs hcs => ?_) (fun cs hcs K2 hK2 => ?_) ?_)
    · obtain ⟨c, _, rfl⟩ := List.mem_map.1 hcs
      simp [flCell]
    · obtain ⟨c, _, rfl⟩ := List.mem_map.1 hcs
      refine ACallV.of_fn (vplace1 (id := id) (name := name) (c := c) ?_ ?_ (by dsimp only; omega) (by dsimp only; omega) hK2)
      · simp -implicitDefEqProofs (disch := omega) only [natNe, wk, indexAddrA, lenA, Nat.reduceAdd, Nat.reduceLeDiff, Nat.reduceEqDiff, if_true, if_false, reduceIte, reduceCtorEq, exists_eq_left', implies_true, forall_const, Int.reduceLT, Int.reduceLE, Int.reduceEq, Int.reduceNeg, bindT, Nat.reduceMul, tis]
      · simp -implicitDefEqProofs (disch := omega) only [natNe, wk, indexAddrA, lenA, Nat.reduceAdd, Nat.reduceLeDiff, Nat.reduceEqDiff, if_true, if_false, reduceIte, reduceCtorEq, exists_eq_left', implies_true, forall_const, Int.reduceLT, Int.reduceLE, Int.reduceEq, Int.reduceNeg, bindT, Nat.reduceMul, tis, m6]
    · rw [hidx]
      have q5 : ∀ k, M k → k < nx' := hM
      cases hf : s.cells.findIdx? (isCell id name) with
      | none =>
        simp -implicitDefEqProofs (disch := omega) only [natNe, wk, indexAddrA, lenA, Nat.reduceAdd, Nat.reduceLeDiff, Nat.reduceEqDiff, if_true, if_false, reduceIte, reduceCtorEq, exists_eq_left', implies_true, forall_const, Int.reduceLT, Int.reduceLE, Int.reduceEq, Int.reduceNeg, bindT, Nat.reduceMul, tis, ra, rb, r1, r2, r3, r4, r5, r6, r7, m5, m6, m7, m8, flSt, idxI]
        refine hK' true _ _ M (by omega) (fun k hk => .inl hk) (fun k hk hkM => ?_) (fun _ => ⟨m1, m2, m3, m4, ?_, ?_, ?_, ?_, fun m id' hm hid' => ?_⟩) (fun h => by cases h)
        · have a1 : k ≠ nx + 6 := fun e => hkM (e ▸ m4)
          simp -implicitDefEqProofs (disch := omega) only [natNe, wk, indexAddrA, lenA, Nat.reduceAdd, Nat.reduceLeDiff, Nat.reduceEqDiff, if_true, if_false, reduceIte, reduceCtorEq, exists_eq_left', implies_true, forall_const, Int.reduceLT, Int.reduceLE, Int.reduceEq, Int.reduceNeg, bindT, Nat.reduceMul, tis]
        · simp -implicitDefEqProofs (disch := omega) only [natNe, wk, indexAddrA, lenA, Nat.reduceAdd, Nat.reduceLeDiff, Nat.reduceEqDiff, if_true, if_false, reduceIte, reduceCtorEq, exists_eq_left', implies_true, forall_const, Int.reduceLT, Int.reduceLE, Int.reduceEq, Int.reduceNeg, bindT, Nat.reduceMul, tis, m5]
        · simp -implicitDefEqProofs (disch := omega) only [natNe, wk, indexAddrA, lenA, Nat.reduceAdd, Nat.reduceLeDiff, Nat.reduceEqDiff, if_true, if_false, reduceIte, reduceCtorEq, exists_eq_left', implies_true, forall_const, Int.reduceLT, Int.reduceLE, Int.reduceEq, Int.reduceNeg, bindT, Nat.reduceMul, tis, m6]
        · simp -implicitDefEqProofs (disch := omega) only [natNe, wk, indexAddrA, lenA, Nat.reduceAdd, Nat.reduceLeDiff, Nat.reduceEqDiff, if_true, if_false, reduceIte, reduceCtorEq, exists_eq_left', implies_true, forall_const, Int.reduceLT, Int.reduceLE, Int.reduceEq, Int.reduceNeg, bindT, Nat.reduceMul, tis, m7]
        · simp -implicitDefEqProofs (disch := omega) only [natNe, wk, indexAddrA, lenA, Nat.reduceAdd, Nat.reduceLeDiff, Nat.reduceEqDiff, if_true, if_false, reduceIte, reduceCtorEq, exists_eq_left', implies_true, forall_const, Int.reduceLT, Int.reduceLE, Int.reduceEq, Int.reduceNeg, bindT, Nat.reduceMul, tis, m8]
          rw [← hR]
          rfl
        · by_cases e : m = n
          · subst e; rw [hid] at hid'; cases hid'; exact hf
          · exact m9 m id' (by omega) hid'
      | some i =>
        have hsp : s.spot scope name = some i := by
          unfold StM.spot
          rw [List.findSome?_eq_some_iff]
          have hnl := (List.getElem?_eq_some_iff.1 hid).1
          refine ⟨(s.way scope).take n, id, (s.way scope).drop (n + 1), ?_, hf, fun x hx => ?_⟩
          · have h1 := (List.getElem?_eq_some_iff.1 hid).2
            rw [← h1, List.getElem_cons_drop, List.take_append_drop]
          · obtain ⟨m, hm⟩ := List.getElem?_of_mem hx
            rw [List.getElem?_take] at hm
            split at hm
            · rename_i hmn; exact m9 m x hmn hm
            · cases hm
        simp -implicitDefEqProofs (disch := omega) only [natNe, wk, indexAddrA, lenA, Nat.reduceAdd, Nat.reduceLeDiff, Nat.reduceEqDiff, if_true, if_false, reduceIte, reduceCtorEq, exists_eq_left', implies_true, forall_const, Int.reduceLT, Int.reduceLE, Int.reduceEq, Int.reduceNeg, bindT, Nat.reduceMul, tis, ra, rb, r1, r2, r3, r4, r5, r6, r7, m5, m6, m7, m8, flSt, idxI]
        refine hK' false _ _ M (by omega) (fun k hk => .inl hk) (fun k hk hkM => ?_) (fun h => by cases h) (fun _ => ⟨m1, m2, m3, m4, ⟨i, hsp, ?_⟩, ?_⟩)
        · have a1 : k ≠ nx + 6 := fun e => hkM (e ▸ m4)
          have a2 : k ≠ nx + 2 := fun e => hkM (e ▸ m3)
          simp -implicitDefEqProofs (disch := omega) only [natNe, wk, indexAddrA, lenA, Nat.reduceAdd, Nat.reduceLeDiff, Nat.reduceEqDiff, if_true, if_false, reduceIte, reduceCtorEq, exists_eq_left', implies_true, forall_const, Int.reduceLT, Int.reduceLE, Int.reduceEq, Int.reduceNeg, bindT, Nat.reduceMul, tis]
        · simp -implicitDefEqProofs (disch := omega) only [natNe, wk, indexAddrA, lenA, Nat.reduceAdd, Nat.reduceLeDiff, Nat.reduceEqDiff, if_true, if_false, reduceIte, reduceCtorEq, exists_eq_left', implies_true, forall_const, Int.reduceLT, Int.reduceLE, Int.reduceEq, Int.reduceNeg, bindT, Nat.reduceMul, tis, m7]
        · simp -implicitDefEqProofs (disch := omega) only [natNe, wk, indexAddrA, lenA, Nat.reduceAdd, Nat.reduceLeDiff, Nat.reduceEqDiff, if_true, if_false, reduceIte, reduceCtorEq, exists_eq_left', implies_true, forall_const, Int.reduceLT, Int.reduceLE, Int.reduceEq, Int.reduceNeg, bindT, Nat.reduceMul, tis, m8]
          rw [← hR]
          rfl
  · intro n h' nx' M' hle hM' hkp hcase
    have hmk : look (nx + 5) h' = some .dfr := by
      rw [hkp (nx + 5) (by omega) (by omega)]
      simp -implicitDefEqProofs (disch := omega) only [natNe, wk, indexAddrA, lenA, Nat.reduceAdd, Nat.reduceLeDiff, Nat.reduceEqDiff, if_true, if_false, reduceIte, reduceCtorEq, exists_eq_left', implies_true, forall_const, Int.reduceLT, Int.reduceLE, Int.reduceEq, Int.reduceNeg, bindT, Nat.reduceMul, tis]
    have hov : ∀ (o1 o2 : AObj) (k : Nat), k < nx → look k (upd (nx + 2) o2 (upd (nx + 6) o1 h')) = look k h := fun o1 o2 k hk => by
      have a3 := hkp k (by omega) (by omega)
      simp -implicitDefEqProofs (disch := omega) only [natNe, wk, indexAddrA, lenA, Nat.reduceAdd, Nat.reduceLeDiff, Nat.reduceEqDiff, if_true, if_false, reduceIte, reduceCtorEq, exists_eq_left', implies_true, forall_const, Int.reduceLT, Int.reduceLE, Int.reduceEq, Int.reduceNeg, bindT, Nat.reduceMul, tis, a3]
    rcases hcase with ⟨hn, m1, m2, m3, m4, m5, m6, m7, m8, m9⟩ | ⟨_, m1, m2, m3, m4, ⟨i, hsp, m5⟩, m6⟩
    · have hsp : s.spot scope name = none := by
        unfold StM.spot
        rw [List.findSome?_eq_none_iff]
        intro id hid
        obtain ⟨m, hm⟩ := List.getElem?_of_mem hid
        have hl := (List.getElem?_eq_some_iff.1 hm).1
        exact m9 m id (by rw [hn]; simpa using hl) hm
      rw [hsp] at hk
      refine ⟨R, m8, by rw [r1]; simp, ?_⟩
      rw [r2]
      simp only
      simp -implicitDefEqProofs (disch := omega) only [natNe, wk, indexAddrA, lenA, Nat.reduceAdd, Nat.reduceLeDiff, Nat.reduceEqDiff, if_true, if_false, reduceIte, reduceCtorEq, exists_eq_left', implies_true, forall_const, Int.reduceLT, Int.reduceLE, Int.reduceEq, Int.reduceNeg, bindT, Nat.reduceMul, tis, m5, m6, m7, m8, hmk, r1, r2]
      exact .pure _ (over_del (by omega) (hov _ _)) (.same rfl) hk
    · rw [hsp] at hk
      refine ⟨_, m6, by simp, ?_⟩
      simp only
      simp -implicitDefEqProofs (disch := omega) only [natNe, wk, indexAddrA, lenA, Nat.reduceAdd, Nat.reduceLeDiff, Nat.reduceEqDiff, if_true, if_false, reduceIte, reduceCtorEq, exists_eq_left', implies_true, forall_const, Int.reduceLT, Int.reduceLE, Int.reduceEq, Int.reduceNeg, bindT, Nat.reduceMul, tis, m5, m6, hmk, r1, r2]
      refine .pure _ (over_del (by omega) (over_upd (by omega) fun k hk => ?_)) (.same rfl) hk
      have a3 := hkp k (by omega) (by omega)
      simp -implicitDefEqProofs (disch := omega) only [natNe, wk, indexAddrA, lenA, Nat.reduceAdd, Nat.reduceLeDiff, Nat.reduceEqDiff, if_true, if_false, reduceIte, reduceCtorEq, exists_eq_left', implies_true, forall_const, Int.reduceLT, Int.reduceLE, Int.reduceEq, Int.reduceNeg, bindT, Nat.reduceMul, tis, a3]
end Go.Abs.Try
