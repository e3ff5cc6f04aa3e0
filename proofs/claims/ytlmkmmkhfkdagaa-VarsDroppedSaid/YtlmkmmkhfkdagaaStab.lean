/- Contracts: the stable sorting of any row. -/
import Derived.Test.YtlmkmmkhfkdagaaSymC
import Derived.Test.YtlmkmmkhfkdagaaStabP
import Derived.Test.YtlmkmmkhfkdagaaSort2
set_option linter.unusedVariables false
set_option linter.unusedSimpArgs false
set_option maxHeartbeats 40000000
set_option maxRecDepth 8000
namespace Go.Abs.Try
open Go Go.Abs Go.Proofs

theorem stableN {h : Heap} {nx : Nat} {K : AV → Heap → Nat → Prop} {id g : Nat} {L : List CellM} (hl : look id h = some (.arr g 5 (L.map flCell))) (hid : id < nx) (hlen : L.length ≤ 900000)
    (hk : ∀ L' nx', nx ≤ nx' → SortOk L L' 0 L.length → K (.tup []) (upd id (.arr g 5 (L'.map flCell)) h) nx') :
    ACall Try.prog 43 [.own id g 0, .sc (.int .i64 L.length), .fn (.func 30) []] h nx K := by
  refine ACall.of_body (c := Try.f43.body.getD .skip) mixed Try.func43 rfl (by kernel_rfl) (by rw [Try.ntmps43]; simp) (by kernel_rfl) ?_
  simp -implicitDefEqProofs only [Try.f43, Option.getD_some, Array.toList]
  simp -implicitDefEqProofs (disch := omega) only [natNe, wk, indexAddrA, lenA, Nat.reduceAdd, Nat.reduceLeDiff, Nat.reduceEqDiff, if_true, if_false, reduceIte, reduceCtorEq, exists_eq_left', implies_true, forall_const, Int.reduceLT, Int.reduceLE, Int.reduceEq, Int.reduceNeg, bindT, Nat.reduceMul, tis, wrap_i64]
  refine loopX_ind (fun m σ => ∃ T H NX a b L', σ = ⟨T, H, NX, []⟩ ∧ H = upd id (.arr g 5 (L'.map flCell)) h ∧ nx ≤ NX ∧ look 0 T = some (.own id g 0) ∧ look 1 T = some (.sc (.int .i64 L.length)) ∧ look 2 T = some (.fn (.func 30) []) ∧ look 6 T = some (.sc (.int .i64 20)) ∧
      look 7 T = some (.sc (.int .i64 (a : Nat))) ∧ look 8 T = some (.sc (.int .i64 (b : Nat))) ∧ m + a = L.length ∧ b = a + 20 ∧ 20 ∣ a ∧ L'.length = L.length ∧ SameKeys L L' ∧ BlkLo L' L.length 20 a)
    L.length ⟨_, _, _, 0, 20, L, rfl, (upd_self hl).symm, Nat.le_refl _, rfl, rfl, rfl, rfl, rfl, rfl, by omega, rfl, Nat.dvd_zero 20, rfl, SameKeys.refl L, fun x _ hx => absurd hx (Nat.not_lt_zero x)⟩ ?_
  rintro m σ' ⟨T, _, NX, a, b, L', rfl, rfl, hNX, t0, t1, t2, t6, t7, t8, hm, hb, ha, hll, hkeys, hblk⟩
  by_cases hc : (b : Int) ≤ L.length
  · simp -implicitDefEqProofs (disch := omega) only [natNe, wk, indexAddrA, lenA, Nat.reduceAdd, Nat.reduceLeDiff, Nat.reduceEqDiff, if_true, if_false, reduceIte, reduceCtorEq, exists_eq_left', implies_true, forall_const, Int.reduceLT, Int.reduceLE, Int.reduceEq, Int.reduceNeg, bindT, Nat.reduceMul, tis, t0, t1, t2, t6, t7, t8, hc, wrap_i64]
    refine callX_fn (insSort (a := a) (b := b) (L := L') (g := g) (look_updS hl) (by dsimp only; omega) (by omega) (by omega) (by omega) (fun L2 nx' hnx ok => ?_))
    rw [upd_upd]
    simp -implicitDefEqProofs (disch := omega) only [natNe, wk, indexAddrA, lenA, Nat.reduceAdd, Nat.reduceLeDiff, Nat.reduceEqDiff, if_true, if_false, reduceIte, reduceCtorEq, exists_eq_left', implies_true, forall_const, Int.reduceLT, Int.reduceLE, Int.reduceEq, Int.reduceNeg, bindT, Nat.reduceMul, tis, t0, t1, t2, t6, t7, t8, wrap_i64]
    have hst := blk_step ok ha (by omega) hblk
    rw [← hb] at hst
    refine ⟨m - 20, by omega, _, _, nx', b, b + 20, L2, rfl, rfl, by dsimp only at hnx; omega, ?_, ?_, ?_, ?_, ?_, ?_, by omega, rfl, by omega, ok.len.trans hll, hkeys.trans ok.keys, hst⟩
    · simp -implicitDefEqProofs (disch := omega) only [natNe, wk, indexAddrA, lenA, Nat.reduceAdd, Nat.reduceLeDiff, Nat.reduceEqDiff, if_true, if_false, reduceIte, reduceCtorEq, exists_eq_left', implies_true, forall_const, Int.reduceLT, Int.reduceLE, Int.reduceEq, Int.reduceNeg, bindT, Nat.reduceMul, tis, t0]
    · simp -implicitDefEqProofs (disch := omega) only [natNe, wk, indexAddrA, lenA, Nat.reduceAdd, Nat.reduceLeDiff, Nat.reduceEqDiff, if_true, if_false, reduceIte, reduceCtorEq, exists_eq_left', implies_true, forall_const, Int.reduceLT, Int.reduceLE, Int.reduceEq, Int.reduceNeg, bindT, Nat.reduceMul, tis, t1]
    · simp -implicitDefEqProofs (disch := omega) only [natNe, wk, indexAddrA, lenA, Nat.reduceAdd, Nat.reduceLeDiff, Nat.reduceEqDiff, if_true, if_false, reduceIte, reduceCtorEq, exists_eq_left', implies_true, forall_const, Int.reduceLT, Int.reduceLE, Int.reduceEq, Int.reduceNeg, bindT, Nat.reduceMul, tis, t2]
    · simp -implicitDefEqProofs (disch := omega) only [natNe, wk, indexAddrA, lenA, Nat.reduceAdd, Nat.reduceLeDiff, Nat.reduceEqDiff, if_true, if_false, reduceIte, reduceCtorEq, exists_eq_left', implies_true, forall_const, Int.reduceLT, Int.reduceLE, Int.reduceEq, Int.reduceNeg, bindT, Nat.reduceMul, tis, t6]
    · simp -implicitDefEqProofs (disch := omega) only [natNe, wk, indexAddrA, lenA, Nat.reduceAdd, Nat.reduceLeDiff, Nat.reduceEqDiff, if_true, if_false, reduceIte, reduceCtorEq, exists_eq_left', implies_true, forall_const, Int.reduceLT, Int.reduceLE, Int.reduceEq, Int.reduceNeg, bindT, Nat.reduceMul, tis, t8]
    · simp -implicitDefEqProofs (disch := omega) only [natNe, wk, indexAddrA, lenA, Nat.reduceAdd, Nat.reduceLeDiff, Nat.reduceEqDiff, if_true, if_false, reduceIte, reduceCtorEq, exists_eq_left', implies_true, forall_const, Int.reduceLT, Int.reduceLE, Int.reduceEq, Int.reduceNeg, bindT, Nat.reduceMul, tis]
      rfl
  · simp -implicitDefEqProofs (disch := omega) only [natNe, wk, indexAddrA, lenA, Nat.reduceAdd, Nat.reduceLeDiff, Nat.reduceEqDiff, if_true, if_false, reduceIte, reduceCtorEq, exists_eq_left', implies_true, forall_const, Int.reduceLT, Int.reduceLE, Int.reduceEq, Int.reduceNeg, bindT, Nat.reduceMul, tis, t0, t1, t2, t6, t7, t8, hc, wrap_i64]
    refine callX_fn (insSort (a := a) (b := L.length) (L := L') (g := g) (look_updS hl) (by dsimp only; omega) (by omega) (by omega) (by omega) (fun L2 nx' hnx ok => ?_))
    rw [upd_upd]
    simp -implicitDefEqProofs (disch := omega) only [natNe, wk, indexAddrA, lenA, Nat.reduceAdd, Nat.reduceLeDiff, Nat.reduceEqDiff, if_true, if_false, reduceIte, reduceCtorEq, exists_eq_left', implies_true, forall_const, Int.reduceLT, Int.reduceLE, Int.reduceEq, Int.reduceNeg, bindT, Nat.reduceMul, tis, t0, t1, t2, t6, t7, t8, wrap_i64]
    have hall := blk_all (by omega) (blk_step ok ha (by omega) hblk)
    have hl2 := ok.len.trans hll
    have hk2 := hkeys.trans ok.keys
    refine loopX_ind (fun m σ => ∃ T H NX bs L', σ = ⟨T, H, NX, []⟩ ∧ H = upd id (.arr g 5 (L'.map flCell)) h ∧ nx ≤ NX ∧ look 0 T = some (.own id g 0) ∧ look 1 T = some (.sc (.int .i64 L.length)) ∧ look 2 T = some (.fn (.func 30) []) ∧ look 6 T = some (.sc (.int .i64 (bs : Nat))) ∧
        0 < bs ∧ bs ≤ 1800020 ∧ L.length ≤ m + bs ∧ L'.length = L.length ∧ SameKeys L L' ∧ BlkHi L' L.length bs 0) L.length ⟨_, _, nx', 20, L2, rfl, rfl, by dsimp only at hnx; omega, ?_, ?_, ?_, ?_, by omega, by omega, by omega, hl2, hk2, hall⟩ ?_
    · simp -implicitDefEqProofs (disch := omega) only [natNe, wk, indexAddrA, lenA, Nat.reduceAdd, Nat.reduceLeDiff, Nat.reduceEqDiff, if_true, if_false, reduceIte, reduceCtorEq, exists_eq_left', implies_true, forall_const, Int.reduceLT, Int.reduceLE, Int.reduceEq, Int.reduceNeg, bindT, Nat.reduceMul, tis, t0]
    · simp -implicitDefEqProofs (disch := omega) only [natNe, wk, indexAddrA, lenA, Nat.reduceAdd, Nat.reduceLeDiff, Nat.reduceEqDiff, if_true, if_false, reduceIte, reduceCtorEq, exists_eq_left', implies_true, forall_const, Int.reduceLT, Int.reduceLE, Int.reduceEq, Int.reduceNeg, bindT, Nat.reduceMul, tis, t1]
    · simp -implicitDefEqProofs (disch := omega) only [natNe, wk, indexAddrA, lenA, Nat.reduceAdd, Nat.reduceLeDiff, Nat.reduceEqDiff, if_true, if_false, reduceIte, reduceCtorEq, exists_eq_left', implies_true, forall_const, Int.reduceLT, Int.reduceLE, Int.reduceEq, Int.reduceNeg, bindT, Nat.reduceMul, tis, t2]
    · simp -implicitDefEqProofs (disch := omega) only [natNe, wk, indexAddrA, lenA, Nat.reduceAdd, Nat.reduceLeDiff, Nat.reduceEqDiff, if_true, if_false, reduceIte, reduceCtorEq, exists_eq_left', implies_true, forall_const, Int.reduceLT, Int.reduceLE, Int.reduceEq, Int.reduceNeg, bindT, Nat.reduceMul, tis, t6] <;> rfl
    clear t0 t1 t2 t6 t7 t8 hm hb ha hll hkeys hblk hc hl2 hk2 hall ok
    rintro m σ' ⟨T, _, NX, bs, L', rfl, rfl, hNX, t0, t1, t2, t6, hbs, hbs2, hm, hll, hkeys, hblk⟩
    by_cases hc : (bs : Int) < L.length
    · simp -implicitDefEqProofs (disch := omega) only [natNe, wk, indexAddrA, lenA, Nat.reduceAdd, Nat.reduceLeDiff, Nat.reduceEqDiff, if_true, if_false, reduceIte, reduceCtorEq, exists_eq_left', implies_true, forall_const, Int.reduceLT, Int.reduceLE, Int.reduceEq, Int.reduceNeg, bindT, Nat.reduceMul, tis, t0, t1, t2, t6, hc, wrap_i64]
      refine loopX_ind (fun m3 σ => ∃ T H NX a b L', σ = ⟨T, H, NX, []⟩ ∧ H = upd id (.arr g 5 (L'.map flCell)) h ∧ nx ≤ NX ∧ look 0 T = some (.own id g 0) ∧ look 1 T = some (.sc (.int .i64 L.length)) ∧ look 2 T = some (.fn (.func 30) []) ∧ look 6 T = some (.sc (.int .i64 (bs : Nat))) ∧
          look 7 T = some (.sc (.int .i64 (a : Nat))) ∧ look 8 T = some (.sc (.int .i64 (b : Nat))) ∧ m3 + a = L.length ∧ b = a + 2 * bs ∧ 2 * bs ∣ a ∧ L'.length = L.length ∧ SameKeys L L' ∧ BlkLo L' L.length (2 * bs) a ∧ BlkHi L' L.length bs a)
        L.length ⟨_, _, NX, 0, 2 * bs, L', rfl, rfl, hNX, ?_, ?_, ?_, ?_, ?_, ?_, by omega, by omega, Nat.dvd_zero _, hll, hkeys, fun x _ hx => absurd hx (Nat.not_lt_zero x), hblk⟩ ?_
      · simp -implicitDefEqProofs (disch := omega) only [natNe, wk, indexAddrA, lenA, Nat.reduceAdd, Nat.reduceLeDiff, Nat.reduceEqDiff, if_true, if_false, reduceIte, reduceCtorEq, exists_eq_left', implies_true, forall_const, Int.reduceLT, Int.reduceLE, Int.reduceEq, Int.reduceNeg, bindT, Nat.reduceMul, tis, t0]
      · simp -implicitDefEqProofs (disch := omega) only [natNe, wk, indexAddrA, lenA, Nat.reduceAdd, Nat.reduceLeDiff, Nat.reduceEqDiff, if_true, if_false, reduceIte, reduceCtorEq, exists_eq_left', implies_true, forall_const, Int.reduceLT, Int.reduceLE, Int.reduceEq, Int.reduceNeg, bindT, Nat.reduceMul, tis, t1]
      · simp -implicitDefEqProofs (disch := omega) only [natNe, wk, indexAddrA, lenA, Nat.reduceAdd, Nat.reduceLeDiff, Nat.reduceEqDiff, if_true, if_false, reduceIte, reduceCtorEq, exists_eq_left', implies_true, forall_const, Int.reduceLT, Int.reduceLE, Int.reduceEq, Int.reduceNeg, bindT, Nat.reduceMul, tis, t2]
      · simp -implicitDefEqProofs (disch := omega) only [natNe, wk, indexAddrA, lenA, Nat.reduceAdd, Nat.reduceLeDiff, Nat.reduceEqDiff, if_true, if_false, reduceIte, reduceCtorEq, exists_eq_left', implies_true, forall_const, Int.reduceLT, Int.reduceLE, Int.reduceEq, Int.reduceNeg, bindT, Nat.reduceMul, tis, t6]
      · simp -implicitDefEqProofs (disch := omega) only [natNe, wk, indexAddrA, lenA, Nat.reduceAdd, Nat.reduceLeDiff, Nat.reduceEqDiff, if_true, if_false, reduceIte, reduceCtorEq, exists_eq_left', implies_true, forall_const, Int.reduceLT, Int.reduceLE, Int.reduceEq, Int.reduceNeg, bindT, Nat.reduceMul, tis] <;> rfl
      · simp -implicitDefEqProofs (disch := omega) only [natNe, wk, indexAddrA, lenA, Nat.reduceAdd, Nat.reduceLeDiff, Nat.reduceEqDiff, if_true, if_false, reduceIte, reduceCtorEq, exists_eq_left', implies_true, forall_const, Int.reduceLT, Int.reduceLE, Int.reduceEq, Int.reduceNeg, bindT, Nat.reduceMul, tis]
        simp only [Option.some.injEq, AV.sc.injEq, Value.int.injEq, true_and]
        omega
      clear t0 t1 t2 t6 hll hkeys hblk hNX
      rintro m3 σ' ⟨T, _, NX, a, b, L', rfl, rfl, hNX, t0, t1, t2, t6, t7, t8, hm3, hb, ha, hll, hkeys, hblo, hbhi⟩
      have had : bs ∣ a := Nat.dvd_trans (Nat.dvd_mul_left bs 2) ha
      have s1 := hbhi a had (Nat.le_refl _)
      have s2 := hbhi (a + bs) (Nat.dvd_add had (Nat.dvd_refl bs)) (by omega)
      by_cases hc2 : (b : Int) ≤ L.length
      · simp -implicitDefEqProofs (disch := omega) only [natNe, wk, indexAddrA, lenA, Nat.reduceAdd, Nat.reduceLeDiff, Nat.reduceEqDiff, if_true, if_false, reduceIte, reduceCtorEq, exists_eq_left', implies_true, forall_const, Int.reduceLT, Int.reduceLE, Int.reduceEq, Int.reduceNeg, bindT, Nat.reduceMul, tis, t0, t1, t2, t6, t7, t8, hc2, wrap_i64]
        rw [show (a : Int) + (bs : Int) = ((a + bs : Nat) : Int) by omega]
        refine callX_fn (symM (b - a + 1) _ _ _ L' a (a + bs) b (look_updS hl) (by dsimp only; omega) (by omega) (by omega) (by omega) (by omega) (by omega) (s1.sub (by omega)) (s2.sub (by omega)) fun L2 nx' hnx ok => ?_)
        rw [upd_upd]
        simp -implicitDefEqProofs (disch := omega) only [natNe, wk, indexAddrA, lenA, Nat.reduceAdd, Nat.reduceLeDiff, Nat.reduceEqDiff, if_true, if_false, reduceIte, reduceCtorEq, exists_eq_left', implies_true, forall_const, Int.reduceLT, Int.reduceLE, Int.reduceEq, Int.reduceNeg, bindT, Nat.reduceMul, tis, t0, t1, t2, t6, t7, t8, wrap_i64]
        have hst := blk_step (bs := 2 * bs) ok ha (by omega) hblo
        rw [← hb] at hst
        refine ⟨m3 - 2 * bs, by omega, _, _, nx', b, b + 2 * bs, L2, rfl, rfl, by dsimp only at hnx; omega, ?_, ?_, ?_, ?_, ?_, ?_, by omega, rfl, by rw [hb]; exact Nat.dvd_add ha (Nat.dvd_refl _), ok.len.trans hll, hkeys.trans ok.keys, hst, blk_hi ok (by omega) (Nat.le_refl _) hbhi⟩
        · simp -implicitDefEqProofs (disch := omega) only [natNe, wk, indexAddrA, lenA, Nat.reduceAdd, Nat.reduceLeDiff, Nat.reduceEqDiff, if_true, if_false, reduceIte, reduceCtorEq, exists_eq_left', implies_true, forall_const, Int.reduceLT, Int.reduceLE, Int.reduceEq, Int.reduceNeg, bindT, Nat.reduceMul, tis, t0]
        · simp -implicitDefEqProofs (disch := omega) only [natNe, wk, indexAddrA, lenA, Nat.reduceAdd, Nat.reduceLeDiff, Nat.reduceEqDiff, if_true, if_false, reduceIte, reduceCtorEq, exists_eq_left', implies_true, forall_const, Int.reduceLT, Int.reduceLE, Int.reduceEq, Int.reduceNeg, bindT, Nat.reduceMul, tis, t1]
        · simp -implicitDefEqProofs (disch := omega) only [natNe, wk, indexAddrA, lenA, Nat.reduceAdd, Nat.reduceLeDiff, Nat.reduceEqDiff, if_true, if_false, reduceIte, reduceCtorEq, exists_eq_left', implies_true, forall_const, Int.reduceLT, Int.reduceLE, Int.reduceEq, Int.reduceNeg, bindT, Nat.reduceMul, tis, t2]
        · simp -implicitDefEqProofs (disch := omega) only [natNe, wk, indexAddrA, lenA, Nat.reduceAdd, Nat.reduceLeDiff, Nat.reduceEqDiff, if_true, if_false, reduceIte, reduceCtorEq, exists_eq_left', implies_true, forall_const, Int.reduceLT, Int.reduceLE, Int.reduceEq, Int.reduceNeg, bindT, Nat.reduceMul, tis, t6]
        · simp -implicitDefEqProofs (disch := omega) only [natNe, wk, indexAddrA, lenA, Nat.reduceAdd, Nat.reduceLeDiff, Nat.reduceEqDiff, if_true, if_false, reduceIte, reduceCtorEq, exists_eq_left', implies_true, forall_const, Int.reduceLT, Int.reduceLE, Int.reduceEq, Int.reduceNeg, bindT, Nat.reduceMul, tis, t8]
        · simp -implicitDefEqProofs (disch := omega) only [natNe, wk, indexAddrA, lenA, Nat.reduceAdd, Nat.reduceLeDiff, Nat.reduceEqDiff, if_true, if_false, reduceIte, reduceCtorEq, exists_eq_left', implies_true, forall_const, Int.reduceLT, Int.reduceLE, Int.reduceEq, Int.reduceNeg, bindT, Nat.reduceMul, tis]
          simp only [Option.some.injEq, AV.sc.injEq, Value.int.injEq, true_and]
          omega
      · by_cases hc3 : (a : Int) + (bs : Int) < L.length
        · simp -implicitDefEqProofs (disch := omega) only [natNe, wk, indexAddrA, lenA, Nat.reduceAdd, Nat.reduceLeDiff, Nat.reduceEqDiff, if_true, if_false, reduceIte, reduceCtorEq, exists_eq_left', implies_true, forall_const, Int.reduceLT, Int.reduceLE, Int.reduceEq, Int.reduceNeg, bindT, Nat.reduceMul, tis, t0, t1, t2, t6, t7, t8, hc2, hc3, wrap_i64]
          rw [show (a : Int) + (bs : Int) = ((a + bs : Nat) : Int) by omega]
          refine callX_fn (symM (L.length - a + 1) _ _ _ L' a (a + bs) L.length (look_updS hl) (by dsimp only; omega) (by omega) (by omega) (by omega) (by omega) (by omega) (s1.sub (by omega)) (s2.sub (by omega)) fun L2 nx' hnx ok => ?_)
          rw [upd_upd]
          simp -implicitDefEqProofs (disch := omega) only [natNe, wk, indexAddrA, lenA, Nat.reduceAdd, Nat.reduceLeDiff, Nat.reduceEqDiff, if_true, if_false, reduceIte, reduceCtorEq, exists_eq_left', implies_true, forall_const, Int.reduceLT, Int.reduceLE, Int.reduceEq, Int.reduceNeg, bindT, Nat.reduceMul, tis, t0, t1, t2, t6, t7, t8, wrap_i64]
          have hst := blk_all (by omega) (blk_step (bs := 2 * bs) ok ha (by omega) hblo)
          refine ⟨m - bs, by omega, _, _, nx', 2 * bs, L2, rfl, rfl, by dsimp only at hnx; omega, ?_, ?_, ?_, ?_, by omega, by omega, by omega, ok.len.trans hll, hkeys.trans ok.keys, hst⟩
          · simp -implicitDefEqProofs (disch := omega) only [natNe, wk, indexAddrA, lenA, Nat.reduceAdd, Nat.reduceLeDiff, Nat.reduceEqDiff, if_true, if_false, reduceIte, reduceCtorEq, exists_eq_left', implies_true, forall_const, Int.reduceLT, Int.reduceLE, Int.reduceEq, Int.reduceNeg, bindT, Nat.reduceMul, tis, t0]
          · simp -implicitDefEqProofs (disch := omega) only [natNe, wk, indexAddrA, lenA, Nat.reduceAdd, Nat.reduceLeDiff, Nat.reduceEqDiff, if_true, if_false, reduceIte, reduceCtorEq, exists_eq_left', implies_true, forall_const, Int.reduceLT, Int.reduceLE, Int.reduceEq, Int.reduceNeg, bindT, Nat.reduceMul, tis, t1]
          · simp -implicitDefEqProofs (disch := omega) only [natNe, wk, indexAddrA, lenA, Nat.reduceAdd, Nat.reduceLeDiff, Nat.reduceEqDiff, if_true, if_false, reduceIte, reduceCtorEq, exists_eq_left', implies_true, forall_const, Int.reduceLT, Int.reduceLE, Int.reduceEq, Int.reduceNeg, bindT, Nat.reduceMul, tis, t2]
          · simp -implicitDefEqProofs (disch := omega) only [natNe, wk, indexAddrA, lenA, Nat.reduceAdd, Nat.reduceLeDiff, Nat.reduceEqDiff, if_true, if_false, reduceIte, reduceCtorEq, exists_eq_left', implies_true, forall_const, Int.reduceLT, Int.reduceLE, Int.reduceEq, Int.reduceNeg, bindT, Nat.reduceMul, tis]
            simp only [Option.some.injEq, AV.sc.injEq, Value.int.injEq, true_and]
            omega
        · simp -implicitDefEqProofs (disch := omega) only [natNe, wk, indexAddrA, lenA, Nat.reduceAdd, Nat.reduceLeDiff, Nat.reduceEqDiff, if_true, if_false, reduceIte, reduceCtorEq, exists_eq_left', implies_true, forall_const, Int.reduceLT, Int.reduceLE, Int.reduceEq, Int.reduceNeg, bindT, Nat.reduceMul, tis, t0, t1, t2, t6, t7, t8, hc2, hc3, wrap_i64]
          have hst := blk_all (by omega) (blk_last ha (by omega) hblo hbhi)
          refine ⟨m - bs, by omega, _, _, NX, 2 * bs, L', rfl, rfl, hNX, ?_, ?_, ?_, ?_, by omega, by omega, by omega, hll, hkeys, hst⟩
          · simp -implicitDefEqProofs (disch := omega) only [natNe, wk, indexAddrA, lenA, Nat.reduceAdd, Nat.reduceLeDiff, Nat.reduceEqDiff, if_true, if_false, reduceIte, reduceCtorEq, exists_eq_left', implies_true, forall_const, Int.reduceLT, Int.reduceLE, Int.reduceEq, Int.reduceNeg, bindT, Nat.reduceMul, tis, t0]
          · simp -implicitDefEqProofs (disch := omega) only [natNe, wk, indexAddrA, lenA, Nat.reduceAdd, Nat.reduceLeDiff, Nat.reduceEqDiff, if_true, if_false, reduceIte, reduceCtorEq, exists_eq_left', implies_true, forall_const, Int.reduceLT, Int.reduceLE, Int.reduceEq, Int.reduceNeg, bindT, Nat.reduceMul, tis, t1]
          · simp -implicitDefEqProofs (disch := omega) only [natNe, wk, indexAddrA, lenA, Nat.reduceAdd, Nat.reduceLeDiff, Nat.reduceEqDiff, if_true, if_false, reduceIte, reduceCtorEq, exists_eq_left', implies_true, forall_const, Int.reduceLT, Int.reduceLE, Int.reduceEq, Int.reduceNeg, bindT, Nat.reduceMul, tis, t2]
          · simp -implicitDefEqProofs (disch := omega) only [natNe, wk, indexAddrA, lenA, Nat.reduceAdd, Nat.reduceLeDiff, Nat.reduceEqDiff, if_true, if_false, reduceIte, reduceCtorEq, exists_eq_left', implies_true, forall_const, Int.reduceLT, Int.reduceLE, Int.reduceEq, Int.reduceNeg, bindT, Nat.reduceMul, tis]
            simp only [Option.some.injEq, AV.sc.injEq, Value.int.injEq, true_and]
            omega
    · simp -implicitDefEqProofs (disch := omega) only [natNe, wk, indexAddrA, lenA, Nat.reduceAdd, Nat.reduceLeDiff, Nat.reduceEqDiff, if_true, if_false, reduceIte, reduceCtorEq, exists_eq_left', implies_true, forall_const, Int.reduceLT, Int.reduceLE, Int.reduceEq, Int.reduceNeg, bindT, Nat.reduceMul, tis, t0, t1, t2, t6, hc]
      exact .keep (hk L' NX hNX (.whole hll hkeys (blk_one (by omega) hblk)))

theorem sortStableN {h : Heap} {nx : Nat} {K : AV → Heap → Nat → Prop} {id g : Nat} {L : List CellM} (hl : look id h = some (.arr g 5 (L.map flCell))) (hid : id < nx) (hlen : L.length ≤ 900000)
    (hk : ∀ L' nx', nx ≤ nx' → SortOk L L' 0 L.length → K (.tup []) (upd id (.arr g 5 (L'.map flCell)) h) nx') :
    ACall Try.prog 29 [.own id g 0, .fn (.func 30) []] h nx K := by
  refine ACall.of_body (c := Try.f29.body.getD .skip) mixed Try.func29 rfl (by kernel_rfl) (by rw [Try.ntmps29]; simp) (by kernel_rfl) ?_
  simp -implicitDefEqProofs only [Try.f29, Option.getD_some, Array.toList]
  simp -implicitDefEqProofs (disch := omega) only [natNe, wk, indexAddrA, lenA, Nat.reduceAdd, Nat.reduceLeDiff, Nat.reduceEqDiff, if_true, if_false, reduceIte, reduceCtorEq, exists_eq_left', implies_true, forall_const, Int.reduceLT, Int.reduceLE, Int.reduceEq, Int.reduceNeg, bindT, Nat.reduceMul, tis, hl, List.length_map]
  refine callX_fn (stableN hl hid hlen (fun L2 nx' hnx ok => ?_))
  simp -implicitDefEqProofs (disch := omega) only [natNe, wk, indexAddrA, lenA, Nat.reduceAdd, Nat.reduceLeDiff, Nat.reduceEqDiff, if_true, if_false, reduceIte, reduceCtorEq, exists_eq_left', implies_true, forall_const, Int.reduceLT, Int.reduceLE, Int.reduceEq, Int.reduceNeg, bindT, Nat.reduceMul, tis]
  exact .keep (hk L2 nx' hnx ok)
end Go.Abs.Try
