/- Contracts: the scopes that a scope sees, as a list. -/
import Derived.Test.YtlmkmmkhfkdagaaWay
set_option linter.unusedVariables false
set_option linter.unusedSimpArgs false
set_option maxHeartbeats 4000000
set_option maxRecDepth 8000
namespace Go.Abs.Try
open Go Go.Abs Go.Proofs

theorem appendSeq {h : Heap} {nx : Nat} {K : AV → Heap → Nat → Prop} {g : FuncId} {caps : List AV} {xs : List Int} (hlen : xs.length ≤ 1000000)
    (hseq : ∀ (y : AV) (h1 : Heap) (nx1 : Nat) (K1 : AV → Heap → Nat → Prop) (t : Taker) (M : Nat → Prop), nx ≤ nx1 → (∀ k, k < nx → look k h1 = look k h) → (∀ k, M k → nx ≤ k ∧ k < nx1) → t.J 0 M h1 →
      t.Ok Try.prog y (xs.map fun k => [.sc (.int .i64 k)]) → t.End (xs.map fun k => [.sc (.int .i64 k)]) M h1 nx1 K1 → ACall Try.prog g (y :: caps) h1 nx1 K1)
    (hk : K (.lst 1 (xs.map fun k => [.sc (.int .i64 k)])) h nx) : ACall Try.prog 46 [.emp, .fn (.func g) caps] h nx K := by
  refine ACall.of_body (c := Try.f46.body.getD .skip) mixed Try.func46 rfl (by kernel_rfl) (by rw [Try.ntmps46]; simp) (by kernel_rfl) ?_
  simp -implicitDefEqProofs only [Try.f46, Option.getD_some, Array.toList]
  simp -implicitDefEqProofs only [wk, indexAddrA, lenA, Nat.reduceAdd, Nat.reduceLeDiff, Nat.reduceEqDiff, if_true, if_false, reduceIte, reduceCtorEq, exists_eq_left', implies_true, forall_const, Int.reduceLT, Int.reduceLE, Int.reduceEq, Int.reduceNeg, bindT, Nat.reduceMul, tis]
  refine xt_range (fun r h => by cases h) rfl ?_
  unfold rangeX
  simp only [rangeIn]
  generalize hR : loopRec _ _ _ _ _ = R
  have r1 : R.st = .ready := by rw [← hR]; rfl
  have r2 : R.pend = none := by rw [← hR]; rfl
  have r3 : R.nt = 13 := by rw [← hR]; rfl
  have r4 : R.params = #[7] := by rw [← hR]; rfl
  have r5 : look 2 R.tmps = some (.ptr nx 0) := by rw [← hR]; rfl
  have rlit : ({ st := .ready, pend := none, tmps := R.tmps, nt := R.nt, params := R.params, assign := R.assign, body := R.body } : ALoop) = R := by rw [← hR]; rfl
  have ra := (congrArg ALoop.assign hR).symm
  have rb := (congrArg ALoop.body hR).symm
  simp only [loopRec] at ra rb
  let J : Nat → (Nat → Prop) → Heap → Prop := fun n M h => M nx ∧ M (nx + 2) ∧ look (nx + 2) h = some (.loop R) ∧ ((n = 0 ∧ look nx h = some (.box [.emp])) ∨ (∃ a g, M a ∧ nx + 2 < a ∧ look nx h = some (.box [.own a g 0]) ∧ look a h = some (.arr g 1 ((xs.take n).map fun k => [.sc (.int .i64 k)]))))
  have hst : ∀ n M h h', J n M h → (∀ j, M j → look j h' = look j h) → J n M h' := by
    rintro n M h h' ⟨m1, m2, m3, m4⟩ hs
    refine ⟨m1, m2, by rw [hs _ m2]; exact m3, ?_⟩
    rcases m4 with ⟨e, m4⟩ | ⟨a, g, ma, hlt, m4, m5⟩
    · exact .inl ⟨e, by rw [hs _ m1]; exact m4⟩
    · exact .inr ⟨a, g, ma, hlt, by rw [hs _ m1]; exact m4, by rw [hs _ ma]; exact m5⟩
  refine hseq (.yld (nx + 2)) _ _ _ ⟨J, fun _ _ _ => False, hst, fun _ _ _ _ h _ => h⟩ (fun k => k = nx ∨ k = nx + 2) (by omega) ?_ (by rintro k (rfl | rfl) <;> omega) ?_ ?_ ?_
  · repeat (first | exact over_refl | refine over_hc (by omega) ?_ | refine over_upd (by omega) ?_ | refine over_del (by omega) ?_)
  · refine ⟨.inl rfl, .inr rfl, ?_, .inl ⟨rfl, ?_⟩⟩
    · simp -implicitDefEqProofs only [wk, indexAddrA, lenA, Nat.reduceAdd, Nat.reduceLeDiff, Nat.reduceEqDiff, if_true, if_false, reduceIte, reduceCtorEq, exists_eq_left', implies_true, forall_const, Int.reduceLT, Int.reduceLE, Int.reduceEq, Int.reduceNeg, bindT, Nat.reduceMul, tis]
    · have e1 : ¬ nx + 2 = nx := by omega
      have e2 : ¬ nx + 1 = nx := by omega
      simp -implicitDefEqProofs only [wk, indexAddrA, lenA, Nat.reduceAdd, Nat.reduceLeDiff, Nat.reduceEqDiff, if_true, if_false, reduceIte, reduceCtorEq, exists_eq_left', implies_true, forall_const, Int.reduceLT, Int.reduceLE, Int.reduceEq, Int.reduceNeg, bindT, Nat.reduceMul, tis, e1, e2]
  · rintro n x M h' nx' hx ⟨m1, m2, m3, m4⟩ hM K' hK'
    simp only [List.getElem?_map, Option.map_eq_some_iff] at hx
    obtain ⟨v, hv, rfl⟩ := hx
    refine ACallV.yield mixed m3 (by simp [r4]) (by rw [← hR]; kernel_rfl) ?_
    have q1 := hM _ m1
    have q2 := hM _ m2
    have e1 : ¬ nx = nx + 2 := by omega
    have e2 : ¬ nx + 2 = nx' := by omega
    have e3 : ¬ nx' = nx + 2 := by omega
    have e4 : ¬ nx' + 1 = nx := by omega
    have e5 : ¬ nx' = nx := by omega
    have e6 : ¬ nx + 2 = nx := by omega
    have e7 : ¬ nx = nx' := by omega
    have e8 : ¬ nx = nx' + 1 := by omega
    have e9 : ¬ nx + 2 = nx' + 1 := by omega
    have e10 : ¬ nx' + 1 = nx + 2 := by omega
    rcases m4 with ⟨rfl, m4⟩ | ⟨a, g, ma, hlt, m4, m5⟩
    · simp -implicitDefEqProofs only [wk, indexAddrA, lenA, Nat.reduceAdd, Nat.reduceLeDiff, Nat.reduceEqDiff, if_true, if_false, reduceIte, reduceCtorEq, exists_eq_left', implies_true, forall_const, Int.reduceLT, Int.reduceLE, Int.reduceEq, Int.reduceNeg, bindT, Nat.reduceMul, tis, ra, rb, r1, r2, r3, r4, r5, m3, m4, e1, e2, e3, e4, e5, e6, e7, e8, e9, e10]
      refine hK' true _ _ (fun k => M k ∨ k = nx' + 1) (by omega) (fun k hk => hk.imp (fun h => h) fun h => by omega) (fun k hk hkM => ?_) (fun _ => ⟨.inl m1, .inl m2, ?_, .inr ⟨nx' + 1, 0, .inr rfl, by omega, ?_, ?_⟩⟩) (fun h => by cases h)
      · have a1 : ¬ k = nx + 2 := fun e => hkM (e ▸ m2)
        have a2 : ¬ k = nx := fun e => hkM (e ▸ m1)
        have a3 : ¬ nx' = k := by omega
        have a4 : ¬ nx' + 1 = k := by omega
        simp -implicitDefEqProofs only [wk, indexAddrA, lenA, Nat.reduceAdd, Nat.reduceLeDiff, Nat.reduceEqDiff, if_true, if_false, reduceIte, reduceCtorEq, exists_eq_left', implies_true, forall_const, Int.reduceLT, Int.reduceLE, Int.reduceEq, Int.reduceNeg, bindT, Nat.reduceMul, tis, a1, a2, a3, a4]
      · simp -implicitDefEqProofs only [wk, indexAddrA, lenA, Nat.reduceAdd, Nat.reduceLeDiff, Nat.reduceEqDiff, if_true, if_false, reduceIte, reduceCtorEq, exists_eq_left', implies_true, forall_const, Int.reduceLT, Int.reduceLE, Int.reduceEq, Int.reduceNeg, bindT, Nat.reduceMul, tis, m3, e1, e2, e3, e4, e5, e6, e7, e8, e9, e10]
        rw [← hR]
        rfl
      · simp -implicitDefEqProofs only [wk, indexAddrA, lenA, Nat.reduceAdd, Nat.reduceLeDiff, Nat.reduceEqDiff, if_true, if_false, reduceIte, reduceCtorEq, exists_eq_left', implies_true, forall_const, Int.reduceLT, Int.reduceLE, Int.reduceEq, Int.reduceNeg, bindT, Nat.reduceMul, tis, m4, e1, e2, e3, e4, e5, e6, e7, e8, e9, e10]
      · simp -implicitDefEqProofs only [wk, indexAddrA, lenA, Nat.reduceAdd, Nat.reduceLeDiff, Nat.reduceEqDiff, if_true, if_false, reduceIte, reduceCtorEq, exists_eq_left', implies_true, forall_const, Int.reduceLT, Int.reduceLE, Int.reduceEq, Int.reduceNeg, bindT, Nat.reduceMul, tis, m4, e1, e2, e3, e4, e5, e6, e7, e8, e9, e10]
        cases xs with
        | nil => simp at hv
        | cons x xs => simp at hv; subst hv; simp
    · have p1 := hM _ ma
      have e11 : ¬ a = nx + 2 := by omega
      have e12 : ¬ a = nx := by omega
      have e13 : ¬ a = nx' := by omega
      have e14 : ¬ nx' = a := by omega
      have e15 : ¬ nx = a := by omega
      have e16 : ¬ nx + 2 = a := by omega
      simp -implicitDefEqProofs only [wk, indexAddrA, lenA, Nat.reduceAdd, Nat.reduceLeDiff, Nat.reduceEqDiff, if_true, if_false, reduceIte, reduceCtorEq, exists_eq_left', implies_true, forall_const, Int.reduceLT, Int.reduceLE, Int.reduceEq, Int.reduceNeg, bindT, Nat.reduceMul, tis, ra, rb, r1, r2, r3, r4, r5, m3, m4, m5, e1, e2, e3, e4, e5, e6, e7, e8, e9, e10, e11, e12, e13, e14, e15, e16]
      have hnl : n < xs.length := (List.getElem?_eq_some_iff.1 hv).1
      refine ⟨⟨by simp; omega, by simp; omega⟩, hK' true _ _ M (by omega) (fun k hk => .inl hk) (fun k hk hkM => ?_) (fun _ => ⟨m1, m2, ?_, .inr ⟨a, g + 1, ma, hlt, ?_, ?_⟩⟩) (fun h => by cases h)⟩
      · have a1 : ¬ k = nx + 2 := fun e => hkM (e ▸ m2)
        have a2 : ¬ k = nx := fun e => hkM (e ▸ m1)
        have a3 : ¬ nx' = k := by omega
        have a4 : ¬ k = a := fun e => hkM (e ▸ ma)
        simp -implicitDefEqProofs only [wk, indexAddrA, lenA, Nat.reduceAdd, Nat.reduceLeDiff, Nat.reduceEqDiff, if_true, if_false, reduceIte, reduceCtorEq, exists_eq_left', implies_true, forall_const, Int.reduceLT, Int.reduceLE, Int.reduceEq, Int.reduceNeg, bindT, Nat.reduceMul, tis, a1, a2, a3, a4]
      · simp -implicitDefEqProofs only [wk, indexAddrA, lenA, Nat.reduceAdd, Nat.reduceLeDiff, Nat.reduceEqDiff, if_true, if_false, reduceIte, reduceCtorEq, exists_eq_left', implies_true, forall_const, Int.reduceLT, Int.reduceLE, Int.reduceEq, Int.reduceNeg, bindT, Nat.reduceMul, tis, m3, e1, e2, e3, e4, e5, e6, e7, e8, e9, e10, e11, e12, e13, e14, e15, e16]
        rw [← hR]
        rfl
      · simp -implicitDefEqProofs only [wk, indexAddrA, lenA, Nat.reduceAdd, Nat.reduceLeDiff, Nat.reduceEqDiff, if_true, if_false, reduceIte, reduceCtorEq, exists_eq_left', implies_true, forall_const, Int.reduceLT, Int.reduceLE, Int.reduceEq, Int.reduceNeg, bindT, Nat.reduceMul, tis, m4, m5, e1, e2, e3, e4, e5, e6, e7, e8, e9, e10, e11, e12, e13, e14, e15, e16]
      · simp -implicitDefEqProofs only [wk, indexAddrA, lenA, Nat.reduceAdd, Nat.reduceLeDiff, Nat.reduceEqDiff, if_true, if_false, reduceIte, reduceCtorEq, exists_eq_left', implies_true, forall_const, Int.reduceLT, Int.reduceLE, Int.reduceEq, Int.reduceNeg, bindT, Nat.reduceMul, tis, m4, m5, e1, e2, e3, e4, e5, e6, e7, e8, e9, e10, e11, e12, e13, e14, e15, e16]
        rw [List.take_add_one, hv]
        simp
  · intro n h' nx' M' hle hM' hkp hcase
    rcases hcase with ⟨hn, m1, m2, m3, m4⟩ | ⟨_, hf⟩
    · have e1 : ¬ nx + 1 = nx := by omega
      have e2 : ¬ nx + 1 = nx + 2 := by omega
      have e3 : ¬ nx = nx + 2 := by omega
      have e4 : ¬ nx = nx + 1 := by omega
      have e5 : ¬ nx + 2 = nx + 1 := by omega
      have hmk : look (nx + 1) h' = some .dfr := by
        rw [hkp (nx + 1) (by omega) (by omega)]
        simp -implicitDefEqProofs only [wk, indexAddrA, lenA, Nat.reduceAdd, Nat.reduceLeDiff, Nat.reduceEqDiff, if_true, if_false, reduceIte, reduceCtorEq, exists_eq_left', implies_true, forall_const, Int.reduceLT, Int.reduceLE, Int.reduceEq, Int.reduceNeg, bindT, Nat.reduceMul, tis, e1, e2, e5]
      refine ⟨R, m3, by rw [r1]; simp, ?_⟩
      rw [r2]
      simp only
      have hov : ∀ (o : AObj) (k : Nat), k < nx → look k (del (nx + 1) (upd (nx + 2) o h')) = look k h := fun o k hk => by
        have a1 : ¬ k = nx + 1 := by omega
        have a2 : ¬ k = nx + 2 := by omega
        have a3 := hkp k (by omega) (by omega)
        rw [look_del, look_upd]
        simp only [a1, a2, if_false]
        rw [a3]
        have a4 : ¬ nx + 2 = k := by omega
        have a5 : ¬ nx + 1 = k := by omega
        have a6 : ¬ nx = k := by omega
        simp -implicitDefEqProofs only [wk, indexAddrA, lenA, Nat.reduceAdd, Nat.reduceLeDiff, Nat.reduceEqDiff, if_true, if_false, reduceIte, reduceCtorEq, exists_eq_left', implies_true, forall_const, Int.reduceLT, Int.reduceLE, Int.reduceEq, Int.reduceNeg, bindT, Nat.reduceMul, tis, a4, a5, a6]
      rcases m4 with ⟨rfl, m4⟩ | ⟨a, g, ma, hlt, m4, m5⟩
      · simp -implicitDefEqProofs only [wk, indexAddrA, lenA, Nat.reduceAdd, Nat.reduceLeDiff, Nat.reduceEqDiff, if_true, if_false, reduceIte, reduceCtorEq, exists_eq_left', implies_true, forall_const, Int.reduceLT, Int.reduceLE, Int.reduceEq, Int.reduceNeg, bindT, Nat.reduceMul, tis, r1, r2, m3, m4, hmk, e1, e2, e3, e4, e5]
        refine .pure _ (hov _) (.emp 1) ?_
        have : xs = [] := List.eq_nil_of_length_eq_zero (by simpa using hn.symm)
        subst this
        exact hk
      · simp -implicitDefEqProofs only [wk, indexAddrA, lenA, Nat.reduceAdd, Nat.reduceLeDiff, Nat.reduceEqDiff, if_true, if_false, reduceIte, reduceCtorEq, exists_eq_left', implies_true, forall_const, Int.reduceLT, Int.reduceLE, Int.reduceEq, Int.reduceNeg, bindT, Nat.reduceMul, tis, r1, r2, m3, m4, m5, hmk, e1, e2, e3, e4, e5]
        have a1 : ¬ a = nx + 1 := by omega
        have a2 : ¬ a = nx + 2 := by omega
        refine .pure _ (hov _) (.own (by omega) (by rw [look_del, look_upd]; simp only [a1, a2, if_false]; exact m5) (fun cs hcs c hc => ?_) rfl) ?_
        · obtain ⟨v, _, rfl⟩ := List.mem_map.1 hcs
          simp at hc
          subst hc
          rfl
        · have : xs.take n = xs := by rw [hn]; simp
          rw [this]
          exact hk
    · exact hf.elim

theorem collect {h : Heap} {nx : Nat} {K : AV → Heap → Nat → Prop} {g : FuncId} {caps : List AV} {xs : List Int} (hlen : xs.length ≤ 1000000)
    (hseq : ∀ (y : AV) (h1 : Heap) (nx1 : Nat) (K1 : AV → Heap → Nat → Prop) (t : Taker) (M : Nat → Prop), nx ≤ nx1 → (∀ k, k < nx → look k h1 = look k h) → (∀ k, M k → nx ≤ k ∧ k < nx1) → t.J 0 M h1 →
      t.Ok Try.prog y (xs.map fun k => [.sc (.int .i64 k)]) → t.End (xs.map fun k => [.sc (.int .i64 k)]) M h1 nx1 K1 → ACall Try.prog g (y :: caps) h1 nx1 K1)
    (hk : K (.lst 1 (xs.map fun k => [.sc (.int .i64 k)])) h nx) : ACall Try.prog 34 [.fn (.func g) caps] h nx K := by
  refine ACall.of_body (c := Try.f34.body.getD .skip) mixed Try.func34 rfl (by kernel_rfl) (by rw [Try.ntmps34]; simp) (by kernel_rfl) ?_
  simp -implicitDefEqProofs only [Try.f34, Option.getD_some, Array.toList]
  simp -implicitDefEqProofs only [wk, indexAddrA, lenA, Nat.reduceAdd, Nat.reduceLeDiff, Nat.reduceEqDiff, if_true, if_false, reduceIte, reduceCtorEq, exists_eq_left', implies_true, forall_const, Int.reduceLT, Int.reduceLE, Int.reduceEq, Int.reduceNeg, bindT, Nat.reduceMul, tis]
  refine callX_fn (appendSeq hlen hseq ?_)
  simp -implicitDefEqProofs only [wk, indexAddrA, lenA, Nat.reduceAdd, Nat.reduceLeDiff, Nat.reduceEqDiff, if_true, if_false, reduceIte, reduceCtorEq, exists_eq_left', implies_true, forall_const, Int.reduceLT, Int.reduceLE, Int.reduceEq, Int.reduceNeg, bindT, Nat.reduceMul, tis]
  exact .keep hk

theorem way_length (s : StM) (scope : Int) : (s.way scope).length ≤ s.items.length + 1 := by
  have : ∀ n met id, (s.wayGo n met id).length ≤ n := by
    intro n
    induction n with
    | zero => intro met id; simp [StM.wayGo]
    | succ n ih =>
      intro met id
      simp only [StM.wayGo]
      split
      · simp
      · split
        · simp only [List.length_cons]
          split
          · simp
          · have := ih (met ++ [id]) (s.nextId ‹_›)
            omega
        · simp
  exact this _ _ _

theorem wayAll {h : Heap} {nx : Nat} {K : AV → Heap → Nat → Prop} {s : StM} {scope : Int} (hlen : s.items.length ≤ 900000)
    (hk : K (.lst 1 ((s.way scope).map fun k => [.sc (.int .i64 k)])) h nx) : ACall Try.prog 12 [.agg (flSt s), .sc (.int .i64 scope)] h nx K := by
  refine ACall.of_body (c := Try.f12.body.getD .skip) mixed Try.func12 rfl (by kernel_rfl) (by rw [Try.ntmps12]; simp) (by kernel_rfl) ?_
  simp -implicitDefEqProofs only [Try.f12, Option.getD_some, Array.toList]
  simp -implicitDefEqProofs only [wk, indexAddrA, lenA, Nat.reduceAdd, Nat.reduceLeDiff, Nat.reduceEqDiff, if_true, if_false, reduceIte, reduceCtorEq, exists_eq_left', implies_true, forall_const, Int.reduceLT, Int.reduceLE, Int.reduceEq, Int.reduceNeg, bindT, Nat.reduceMul, tis, flSt]
  refine callX_fn (way0 (s := s) ?_)
  simp -implicitDefEqProofs only [wk, indexAddrA, lenA, Nat.reduceAdd, Nat.reduceLeDiff, Nat.reduceEqDiff, if_true, if_false, reduceIte, reduceCtorEq, exists_eq_left', implies_true, forall_const, Int.reduceLT, Int.reduceLE, Int.reduceEq, Int.reduceNeg, bindT, Nat.reduceMul, tis]
  have e1 : ¬ nx + 1 + 1 = nx + 1 := by omega
  refine callX_fn (collect (xs := s.way scope) (by have := way_length s scope; omega) (fun y h1 nx1 K1 t M hle hlow hM hJ hok hend => ?_) ?_)
  · dsimp only at hle hlow hM
    refine way1 (s := s) (scope := scope) (by omega) t (fun k hk => (hM k hk).2) ?_ ?_ (by omega) (by omega) (fun h => by have := hM _ h; omega) (fun h => by have := hM _ h; omega) hJ hok hend
    · rw [hlow _ (by omega)]
      simp -implicitDefEqProofs only [wk, indexAddrA, lenA, Nat.reduceAdd, Nat.reduceLeDiff, Nat.reduceEqDiff, if_true, if_false, reduceIte, reduceCtorEq, exists_eq_left', implies_true, forall_const, Int.reduceLT, Int.reduceLE, Int.reduceEq, Int.reduceNeg, bindT, Nat.reduceMul, tis]
    · rw [hlow _ (by omega)]
      have e2 : ¬ nx + 1 = nx := by omega
      have e3 : ¬ nx + 1 + 1 = nx := by omega
      simp -implicitDefEqProofs only [wk, indexAddrA, lenA, Nat.reduceAdd, Nat.reduceLeDiff, Nat.reduceEqDiff, if_true, if_false, reduceIte, reduceCtorEq, exists_eq_left', implies_true, forall_const, Int.reduceLT, Int.reduceLE, Int.reduceEq, Int.reduceNeg, bindT, Nat.reduceMul, tis, flSt]
  · simp -implicitDefEqProofs only [wk, indexAddrA, lenA, Nat.reduceAdd, Nat.reduceLeDiff, Nat.reduceEqDiff, if_true, if_false, reduceIte, reduceCtorEq, exists_eq_left', implies_true, forall_const, Int.reduceLT, Int.reduceLE, Int.reduceEq, Int.reduceNeg, bindT, Nat.reduceMul, tis]
    refine .pure _ ?_ (.same rfl) hk
    repeat (first | exact over_refl | refine over_hc (by omega) ?_ | refine over_upd (by omega) ?_ | refine over_del (by omega) ?_)
end Go.Abs.Try
