/- Contracts: cells of some scopes dropped. -/
import Derived.Test.YtlmkmmkhfkdagaaClone
import Derived.Test.YtlmkmmkhfkdagaaDropM
set_option linter.unusedVariables false
set_option linter.unusedSimpArgs false
set_option maxHeartbeats 4000000
set_option maxRecDepth 8000
namespace Go.Abs.Try
open Go Go.Abs Go.Proofs

def flInts (vs : List Int) : List (List AV) := vs.map fun k => [.sc (.int .i64 k)]

theorem indexInt {h : Heap} {nx : Nat} {K : AV → Heap → Nat → Prop} {vs : List Int} {a : Int} (hlen : vs.length ≤ 4611686018427387904)
    (hk : K (.sc (.int .i64 (idxI (vs.findIdx? fun k => decide (a = k))))) h nx) : ACall Try.prog 53 [.lst 1 (flInts vs), .sc (.int .i64 a)] h nx K := by
  refine ACall.of_body (c := Try.f53.body.getD .skip) mixed Try.func53 rfl (by kernel_rfl) (by rw [Try.ntmps53]; simp) (by kernel_rfl) ?_
  simp -implicitDefEqProofs only [Try.f53, Option.getD_some, Array.toList]
  simp -implicitDefEqProofs (disch := omega) only [natNe, wk, indexAddrA, lenA, Nat.reduceAdd, Nat.reduceLeDiff, Nat.reduceEqDiff, if_true, if_false, reduceIte, reduceCtorEq, exists_eq_left', implies_true, forall_const, Int.reduceLT, Int.reduceLE, Int.reduceEq, Int.reduceNeg, bindT, Nat.reduceMul, tis, flInts, List.length_map]
  refine loopX_ind (fun m σ => ∃ T i, σ = ⟨T, h, nx, []⟩ ∧ look 0 T = some (.lst 1 (flInts vs)) ∧ look 1 T = some (.sc (.int .i64 a)) ∧ look 7 T = some (.sc (.int .i64 vs.length)) ∧ look 8 T = some (.sc (.int .i64 (i : Nat))) ∧ m + i = vs.length ∧
    (∀ j k, j < i → vs[j]? = some k → a ≠ k)) vs.length ⟨_, 0, rfl, rfl, rfl, rfl, rfl, rfl, fun j cs hj => by omega⟩ ?_
  rintro m σ' ⟨T, i, rfl, h0, h1, h7, h8, hm, hno⟩
  simp -implicitDefEqProofs (disch := omega) only [natNe, wk, indexAddrA, lenA, Nat.reduceAdd, Nat.reduceLeDiff, Nat.reduceEqDiff, if_true, if_false, reduceIte, reduceCtorEq, exists_eq_left', implies_true, forall_const, Int.reduceLT, Int.reduceLE, Int.reduceEq, Int.reduceNeg, bindT, Nat.reduceMul, tis, h0, h1, h7, h8]
  refine ⟨fun hi => ?_, fun hi => ?_⟩
  · obtain ⟨k, hk2⟩ : ∃ k, vs[i]? = some k := ⟨vs[i], List.getElem?_eq_getElem hi⟩
    have hat : (flInts vs)[i]? = some [.sc (.int .i64 k)] := by simp [flInts, hk2]
    have hll : (flInts vs).length = vs.length := by simp [flInts]
    by_cases e : a = k
    · simp -implicitDefEqProofs (disch := omega) only [natNe, wk, indexAddrA, lenA, Nat.reduceAdd, Nat.reduceLeDiff, Nat.reduceEqDiff, if_true, if_false, reduceIte, reduceCtorEq, exists_eq_left', implies_true, forall_const, Int.reduceLT, Int.reduceLE, Int.reduceEq, Int.reduceNeg, bindT, Nat.reduceMul, tis, h0, h1, h7, h8, hat, hll, e, eq_self, decide_true]
      have hf : vs.findIdx? (fun k => decide (a = k)) = some i := by
        rw [List.findIdx?_eq_some_iff_getElem]
        refine ⟨hi, ?_, fun j hj => ?_⟩
        · have := List.getElem?_eq_getElem hi
          rw [this] at hk2
          cases hk2
          simpa using e
        · have := hno j _ hj (List.getElem?_eq_getElem (by omega))
          simpa using this
      rw [hf] at hk
      exact .keep hk
    · simp -implicitDefEqProofs (disch := omega) only [natNe, wk, indexAddrA, lenA, Nat.reduceAdd, Nat.reduceLeDiff, Nat.reduceEqDiff, if_true, if_false, reduceIte, reduceCtorEq, exists_eq_left', implies_true, forall_const, Int.reduceLT, Int.reduceLE, Int.reduceEq, Int.reduceNeg, bindT, Nat.reduceMul, tis, h0, h1, h7, h8, hat, hll, e, decide_false, wrap_i64]
      refine ⟨m - 1, by omega, _, i + 1, rfl, ?_, ?_, ?_, ?_, by omega, fun j ds hj hds => ?_⟩
      · simp -implicitDefEqProofs (disch := omega) only [natNe, wk, indexAddrA, lenA, Nat.reduceAdd, Nat.reduceLeDiff, Nat.reduceEqDiff, if_true, if_false, reduceIte, reduceCtorEq, exists_eq_left', implies_true, forall_const, Int.reduceLT, Int.reduceLE, Int.reduceEq, Int.reduceNeg, bindT, Nat.reduceMul, tis, h0]
      · simp -implicitDefEqProofs (disch := omega) only [natNe, wk, indexAddrA, lenA, Nat.reduceAdd, Nat.reduceLeDiff, Nat.reduceEqDiff, if_true, if_false, reduceIte, reduceCtorEq, exists_eq_left', implies_true, forall_const, Int.reduceLT, Int.reduceLE, Int.reduceEq, Int.reduceNeg, bindT, Nat.reduceMul, tis, h1]
      · simp -implicitDefEqProofs (disch := omega) only [natNe, wk, indexAddrA, lenA, Nat.reduceAdd, Nat.reduceLeDiff, Nat.reduceEqDiff, if_true, if_false, reduceIte, reduceCtorEq, exists_eq_left', implies_true, forall_const, Int.reduceLT, Int.reduceLE, Int.reduceEq, Int.reduceNeg, bindT, Nat.reduceMul, tis, h7]
      · simp -implicitDefEqProofs (disch := omega) only [natNe, wk, indexAddrA, lenA, Nat.reduceAdd, Nat.reduceLeDiff, Nat.reduceEqDiff, if_true, if_false, reduceIte, reduceCtorEq, exists_eq_left', implies_true, forall_const, Int.reduceLT, Int.reduceLE, Int.reduceEq, Int.reduceNeg, bindT, Nat.reduceMul, tis]
        rfl
      · by_cases e2 : j = i
        · subst e2; rw [hk2] at hds; cases hds; exact e
        · exact hno j ds (by omega) hds
  · have hf : vs.findIdx? (fun k => decide (a = k)) = none := by
      rw [List.findIdx?_eq_none_iff]
      intro x hx
      obtain ⟨j, hj⟩ := List.getElem?_of_mem hx
      have hjl := (List.getElem?_eq_some_iff.1 hj).1
      simpa using hno j x (by omega) hj
    rw [hf] at hk
    exact .keep hk

theorem containsInt {h : Heap} {nx : Nat} {K : AV → Heap → Nat → Prop} {vs : List Int} {a : Int} (hlen : vs.length ≤ 4611686018427387904)
    (hk : K (.sc (.bool (decide (a ∈ vs)))) h nx) : ACall Try.prog 41 [.lst 1 (flInts vs), .sc (.int .i64 a)] h nx K := by
  refine ACall.of_body (c := Try.f41.body.getD .skip) mixed Try.func41 rfl (by kernel_rfl) (by rw [Try.ntmps41]; simp) (by kernel_rfl) ?_
  simp -implicitDefEqProofs only [Try.f41, Option.getD_some, Array.toList]
  simp -implicitDefEqProofs (disch := omega) only [natNe, wk, indexAddrA, lenA, Nat.reduceAdd, Nat.reduceLeDiff, Nat.reduceEqDiff, if_true, if_false, reduceIte, reduceCtorEq, exists_eq_left', implies_true, forall_const, Int.reduceLT, Int.reduceLE, Int.reduceEq, Int.reduceNeg, bindT, Nat.reduceMul, tis]
  refine callX_fn (indexInt hlen ?_)
  have he : decide (a ∈ vs) = decide ((0 : Int) ≤ idxI (vs.findIdx? fun k => decide (a = k))) := by
    cases hf : vs.findIdx? (fun k => decide (a = k)) with
    | none =>
      rw [List.findIdx?_eq_none_iff] at hf
      have : a ∉ vs := fun hm => by simpa using hf a hm
      simp [this, idxI]
    | some i =>
      rw [List.findIdx?_eq_some_iff_getElem] at hf
      obtain ⟨hi, h1, _⟩ := hf
      have : a ∈ vs := by
        rw [of_decide_eq_true h1]
        exact List.getElem_mem hi
      simp [this, idxI]
  rw [he] at hk
  generalize idxI (vs.findIdx? fun k => decide (a = k)) = n at *
  simp -implicitDefEqProofs (disch := omega) only [natNe, wk, indexAddrA, lenA, Nat.reduceAdd, Nat.reduceLeDiff, Nat.reduceEqDiff, if_true, if_false, reduceIte, reduceCtorEq, exists_eq_left', implies_true, forall_const, Int.reduceLT, Int.reduceLE, Int.reduceEq, Int.reduceNeg, bindT, Nat.reduceMul, tis]
  exact .keep hk

theorem drop1 {h : Heap} {nx : Nat} {K : AV → Heap → Nat → Prop} {j : Nat} {vs : List Int} {c : CellM} (hj : look j h = some (.box [.lst 1 (flInts vs)])) (hjn : j < nx) (hlen : vs.length ≤ 4611686018427387904)
    (hk : K (.sc (.bool (decide (c.scope ∈ vs)))) h nx) : ACall Try.prog 40 [.agg (flCell c), .ptr j 0] h nx K := by
  refine ACall.of_body (c := Try.f40.body.getD .skip) mixed Try.func40 rfl (by kernel_rfl) (by rw [Try.ntmps40]; simp) (by kernel_rfl) ?_
  simp -implicitDefEqProofs only [Try.f40, Option.getD_some, Array.toList]
  have e1 : ¬ nx = j := by omega
  simp -implicitDefEqProofs (disch := omega) only [natNe, wk, indexAddrA, lenA, Nat.reduceAdd, Nat.reduceLeDiff, Nat.reduceEqDiff, if_true, if_false, reduceIte, reduceCtorEq, exists_eq_left', implies_true, forall_const, Int.reduceLT, Int.reduceLE, Int.reduceEq, Int.reduceNeg, bindT, Nat.reduceMul, tis, flCell, hj, e1]
  refine callX_fn (containsInt hlen ?_)
  simp -implicitDefEqProofs (disch := omega) only [natNe, wk, indexAddrA, lenA, Nat.reduceAdd, Nat.reduceLeDiff, Nat.reduceEqDiff, if_true, if_false, reduceIte, reduceCtorEq, exists_eq_left', implies_true, forall_const, Int.reduceLT, Int.reduceLE, Int.reduceEq, Int.reduceNeg, bindT, Nat.reduceMul, tis]
  refine .pure _ ?_ (.same rfl) hk
  repeat (first | exact over_refl | refine over_hc (by omega) ?_ | refine over_upd (by omega) ?_ | refine over_del (by omega) ?_)

theorem indexCellOwn {h : Heap} {nx : Nat} {K : AV → Heap → Nat → Prop} {L : List (List AV)} {id g : Nat} {fv : AV} {p : List AV → Bool} (hl : look id h = some (.arr g 5 L)) (hlen : L.length ≤ 4611686018427387904) (hsz : ∀ cs ∈ L, 5 ≤ cs.length)
    (hp : ∀ cs ∈ L, ∀ K' : AV → Heap → Nat → Prop, K' (.sc (.bool (p cs))) h nx → ACallV Try.prog fv [.agg (cs.take 5)] h nx K')
    (hk : K (.sc (.int .i64 (idxI (L.findIdx? p)))) h nx) : ACall Try.prog 42 [.own id g 0, fv] h nx K := by
  refine ACall.of_body (c := Try.f42.body.getD .skip) mixed Try.func42 rfl (by kernel_rfl) (by rw [Try.ntmps42]; simp) (by kernel_rfl) ?_
  simp -implicitDefEqProofs only [Try.f42, Option.getD_some, Array.toList]
  simp -implicitDefEqProofs only [wk, indexAddrA, lenA, Nat.reduceAdd, Nat.reduceLeDiff, Nat.reduceEqDiff, if_true, if_false, reduceIte, reduceCtorEq, exists_eq_left', implies_true, forall_const, Int.reduceLT, Int.reduceLE, Int.reduceEq, Int.reduceNeg, bindT, Nat.reduceMul, tis, hl]
  refine loopX_ind (fun m σ => ∃ T i, σ = ⟨T, h, nx, []⟩ ∧ look 0 T = some (.own id g 0) ∧ look 1 T = some fv ∧ look 7 T = some (.sc (.int .i64 L.length)) ∧ look 8 T = some (.sc (.int .i64 (i : Nat))) ∧ m + i = L.length ∧
    (∀ j cs, j < i → L[j]? = some cs → p cs = false)) L.length ⟨_, 0, rfl, rfl, rfl, rfl, rfl, rfl, fun j cs hj => by omega⟩ ?_
  rintro m σ' ⟨T, i, rfl, h0, h1, h7, h8, hm, hno⟩
  simp -implicitDefEqProofs only [wk, indexAddrA, lenA, Nat.reduceAdd, Nat.reduceLeDiff, Nat.reduceEqDiff, if_true, if_false, reduceIte, reduceCtorEq, exists_eq_left', implies_true, forall_const, Int.reduceLT, Int.reduceLE, Int.reduceEq, Int.reduceNeg, bindT, Nat.reduceMul, tis, h0, h1, h7, h8]
  refine ⟨fun hi => ?_, fun hi => ?_⟩
  · obtain ⟨cs, hcs⟩ : ∃ cs, L[i]? = some cs := ⟨L[i], List.getElem?_eq_getElem hi⟩
    have hmem := List.mem_of_getElem? hcs
    simp -implicitDefEqProofs only [wk, indexAddrA, lenA, Nat.reduceAdd, Nat.reduceLeDiff, Nat.reduceEqDiff, if_true, if_false, reduceIte, reduceCtorEq, exists_eq_left', implies_true, forall_const, Int.reduceLT, Int.reduceLE, Int.reduceEq, Int.reduceNeg, bindT, Nat.reduceMul, tis, hcs, hsz cs hmem, hl, hi]
    refine callX_v (hp cs hmem _ ?_)
    simp -implicitDefEqProofs only [wk, indexAddrA, lenA, Nat.reduceAdd, Nat.reduceLeDiff, Nat.reduceEqDiff, if_true, if_false, reduceIte, reduceCtorEq, exists_eq_left', implies_true, forall_const, Int.reduceLT, Int.reduceLE, Int.reduceEq, Int.reduceNeg, bindT, Nat.reduceMul, tis]
    cases hpc : p cs with
    | true =>
      simp -implicitDefEqProofs only [wk, indexAddrA, lenA, Nat.reduceAdd, Nat.reduceLeDiff, Nat.reduceEqDiff, if_true, if_false, reduceIte, reduceCtorEq, exists_eq_left', implies_true, forall_const, Int.reduceLT, Int.reduceLE, Int.reduceEq, Int.reduceNeg, bindT, Nat.reduceMul, tis]
      have hf : L.findIdx? p = some i := by
        rw [List.findIdx?_eq_some_iff_getElem]
        refine ⟨hi, ?_, fun j hj => ?_⟩
        · have := List.getElem?_eq_getElem hi
          rw [this] at hcs
          cases hcs
          exact hpc
        · have := hno j _ hj (List.getElem?_eq_getElem (by omega))
          simp [this]
      rw [hf] at hk
      exact .keep hk
    | false =>
      simp -implicitDefEqProofs only [wk, indexAddrA, lenA, Nat.reduceAdd, Nat.reduceLeDiff, Nat.reduceEqDiff, if_true, if_false, reduceIte, reduceCtorEq, exists_eq_left', implies_true, forall_const, Int.reduceLT, Int.reduceLE, Int.reduceEq, Int.reduceNeg, bindT, Nat.reduceMul, tis, h7, h8]
      refine ⟨m - 1, by omega, _, i + 1, rfl, ?_, ?_, ?_, ?_, by omega, fun j ds hj hds => ?_⟩
      · simp -implicitDefEqProofs only [wk, indexAddrA, lenA, Nat.reduceAdd, Nat.reduceLeDiff, Nat.reduceEqDiff, if_true, if_false, reduceIte, reduceCtorEq, exists_eq_left', implies_true, forall_const, Int.reduceLT, Int.reduceLE, Int.reduceEq, Int.reduceNeg, bindT, Nat.reduceMul, tis, h0]
      · simp -implicitDefEqProofs only [wk, indexAddrA, lenA, Nat.reduceAdd, Nat.reduceLeDiff, Nat.reduceEqDiff, if_true, if_false, reduceIte, reduceCtorEq, exists_eq_left', implies_true, forall_const, Int.reduceLT, Int.reduceLE, Int.reduceEq, Int.reduceNeg, bindT, Nat.reduceMul, tis, h1]
      · simp -implicitDefEqProofs only [wk, indexAddrA, lenA, Nat.reduceAdd, Nat.reduceLeDiff, Nat.reduceEqDiff, if_true, if_false, reduceIte, reduceCtorEq, exists_eq_left', implies_true, forall_const, Int.reduceLT, Int.reduceLE, Int.reduceEq, Int.reduceNeg, bindT, Nat.reduceMul, tis, h7]
      · simp -implicitDefEqProofs only [wk, indexAddrA, lenA, Nat.reduceAdd, Nat.reduceLeDiff, Nat.reduceEqDiff, if_true, if_false, reduceIte, reduceCtorEq, exists_eq_left', implies_true, forall_const, Int.reduceLT, Int.reduceLE, Int.reduceEq, Int.reduceNeg, bindT, Nat.reduceMul, tis]
        rw [wrap_i64 (by omega) (by omega)]
        rfl
      · by_cases e : j = i
        · subst e; rw [hcs] at hds; cases hds; exact hpc
        · exact hno j ds (by omega) hds
  · have hf : L.findIdx? p = none := by
      rw [List.findIdx?_eq_none_iff]
      intro x hx
      obtain ⟨j, hj⟩ := List.getElem?_of_mem hx
      have hjl := (List.getElem?_eq_some_iff.1 hj).1
      exact hno j x (by omega) hj
    rw [hf] at hk
    exact .keep hk


theorem deleteCells {h : Heap} {nx : Nat} {K : AV → Heap → Nat → Prop} {id g : Nat} {L : List CellM} {fv : AV} {p : CellM → Bool} (hl : look id h = some (.arr g 5 (L.map flCell))) (hid : id < nx) (hlen : L.length ≤ 900000)
    (hp : ∀ (c : CellM) (H : Heap) (NX : Nat) (K' : AV → Heap → Nat → Prop), nx ≤ NX → (∀ k, k < nx → k ≠ id → look k H = look k h) → K' (.sc (.bool (p c))) H NX → ACallV Try.prog fv [.agg (flCell c)] H NX K')
    (hk : ∀ g' H nx', nx ≤ nx' → look id H = some (.arr g' 5 ((L.filter fun c => !p c).map flCell)) → (∀ k, k < nx → k ≠ id → look k H = look k h) → K (.own id g' 0) H nx') :
    ACall Try.prog 39 [.own id g 0, fv] h nx K := by
  refine ACall.of_body (c := Try.f39.body.getD .skip) mixed Try.func39 rfl (by kernel_rfl) (by rw [Try.ntmps39]; simp) (by kernel_rfl) ?_
  simp -implicitDefEqProofs only [Try.f39, Option.getD_some, Array.toList]
  simp -implicitDefEqProofs (disch := omega) only [natNe, wk, indexAddrA, lenA, Nat.reduceAdd, Nat.reduceLeDiff, Nat.reduceEqDiff, if_true, if_false, reduceIte, reduceCtorEq, exists_eq_left', implies_true, forall_const, Int.reduceLT, Int.reduceLE, Int.reduceEq, Int.reduceNeg, bindT, Nat.reduceMul, tis]
  let q : List AV → Bool := fun cs => match cs with
    | [.sc (.int _ a), .sc (.string b), .sc (.int _ k), .sc (.int _ n), .sc (.string t)] => p ⟨a, b, ⟨k, n, t⟩⟩
    | _ => false
  have hq : ∀ c, q (flCell c) = p c := fun c => rfl
  have hfi : (L.map flCell).findIdx? q = L.findIdx? p := by rw [findIdx_map]; rfl
  refine callX_fn (indexCellOwn (p := q) hl (by simp; omega) (fun cs hcs => ?_) (fun cs hcs K2 hK2 => ?_) ?_)
  · obtain ⟨c, _, rfl⟩ := List.mem_map.1 hcs
    simp [flCell]
  · obtain ⟨c, _, rfl⟩ := List.mem_map.1 hcs
    exact hp c h nx K2 (Nat.le_refl _) (fun _ _ _ => rfl) (by rw [← hq]; exact hK2)
  rw [hfi]
  cases hf : L.findIdx? p with
  | none =>
    simp -implicitDefEqProofs (disch := omega) only [natNe, wk, indexAddrA, lenA, Nat.reduceAdd, Nat.reduceLeDiff, Nat.reduceEqDiff, if_true, if_false, reduceIte, reduceCtorEq, exists_eq_left', implies_true, forall_const, Int.reduceLT, Int.reduceLE, Int.reduceEq, Int.reduceNeg, bindT, Nat.reduceMul, tis, idxI, eq_self, decide_true]
    have := hk g h nx (Nat.le_refl _) (by rw [none_struck hf]; exact hl) fun _ _ _ => rfl
    exact .keep this
  | some i =>
    have hst := Struck.start hf
    have hil : i < L.length := by
      rw [List.findIdx?_eq_some_iff_getElem] at hf
      exact hf.1
    have hne : ¬ ((i : Int) = -1) := by omega
    simp -implicitDefEqProofs (disch := omega) only [natNe, wk, indexAddrA, lenA, Nat.reduceAdd, Nat.reduceLeDiff, Nat.reduceEqDiff, if_true, if_false, reduceIte, reduceCtorEq, exists_eq_left', implies_true, forall_const, Int.reduceLT, Int.reduceLE, Int.reduceEq, Int.reduceNeg, bindT, Nat.reduceMul, tis, idxI, hne, decide_false, wrap_i64]
    refine loopX_ind (fun m σ => ∃ T H NX i j L', σ = ⟨T, H, NX, []⟩ ∧ nx ≤ NX ∧ look id H = some (.arr g 5 (L'.map flCell)) ∧ (∀ k, k < nx → k ≠ id → look k H = look k h) ∧ look 0 T = some (.own id g 0) ∧ look 1 T = some fv ∧ look 5 T = some (.sc (.int .i64 (i : Nat))) ∧ look 6 T = some (.sc (.int .i64 (j : Nat))) ∧
      m + j = L.length ∧ i < j ∧ Struck p L L' i j) (L.length - (i + 1)) ⟨_, _, _, i, i + 1, L, rfl, Nat.le_refl _, hl, fun _ _ _ => rfl, rfl, rfl, rfl, ?_, by omega, by omega, hst⟩ ?_
    · simp -implicitDefEqProofs (disch := omega) only [natNe, wk, indexAddrA, lenA, Nat.reduceAdd, Nat.reduceLeDiff, Nat.reduceEqDiff, if_true, if_false, reduceIte, reduceCtorEq, exists_eq_left', implies_true, forall_const, Int.reduceLT, Int.reduceLE, Int.reduceEq, Int.reduceNeg, bindT, Nat.reduceMul, tis]
      rfl
    clear hst hil hne hf
    rintro m σ' ⟨T, H, NX, i, j, L', rfl, hNX, hlk, hov, t0, t1, t5, t6, hm, hij, hst⟩
    have hll := hst.1
    by_cases hjl : j < L.length
    · have hla := map_at (L := L') (i := j) (by omega)
      rw [hst.at hjl] at hla
      have hjl2 : (j : Int) < (L'.length : Int) := by omega
      have hjl3 : j < L'.length := by omega
      have hne : ¬ NX = id := by omega
      simp -implicitDefEqProofs (maxSteps := 2000000) (disch := omega) only [natNe, wk, indexAddrA, lenA, Nat.reduceAdd, Nat.reduceLeDiff, Nat.reduceEqDiff, if_true, if_false, reduceIte, reduceCtorEq, exists_eq_left', implies_true, forall_const, Int.reduceLT, Int.reduceLE, Int.reduceEq, Int.reduceNeg, bindT, Nat.reduceMul, tis, t0, t1, t5, t6, hlk, hla, hjl2, hjl3, hne, flCell, List.length_map, decide_true]
      refine callX_v (hp (cAt L j) _ _ _ (by dsimp only; omega) (fun k hk1 hk2 => ?_) ?_)
      · have := hov k hk1 hk2
        simp -implicitDefEqProofs (disch := omega) only [natNe, wk, indexAddrA, lenA, Nat.reduceAdd, Nat.reduceLeDiff, Nat.reduceEqDiff, if_true, if_false, reduceIte, reduceCtorEq, exists_eq_left', implies_true, forall_const, Int.reduceLT, Int.reduceLE, Int.reduceEq, Int.reduceNeg, bindT, Nat.reduceMul, tis, this]
      cases hpc : p (cAt L j) with
      | true =>
        simp -implicitDefEqProofs (disch := omega) only [natNe, wk, indexAddrA, lenA, Nat.reduceAdd, Nat.reduceLeDiff, Nat.reduceEqDiff, if_true, if_false, reduceIte, reduceCtorEq, exists_eq_left', implies_true, forall_const, Int.reduceLT, Int.reduceLE, Int.reduceEq, Int.reduceNeg, bindT, Nat.reduceMul, tis, t0, t1, t5, t6, wrap_i64]
        refine ⟨m - 1, by omega, _, _, _, i, j + 1, L', rfl, by omega, ?_, fun k hk1 hk2 => ?_, ?_, ?_, ?_, ?_, by omega, by omega, hst.gone hjl hpc⟩
        · simp -implicitDefEqProofs (disch := omega) only [natNe, wk, indexAddrA, lenA, Nat.reduceAdd, Nat.reduceLeDiff, Nat.reduceEqDiff, if_true, if_false, reduceIte, reduceCtorEq, exists_eq_left', implies_true, forall_const, Int.reduceLT, Int.reduceLE, Int.reduceEq, Int.reduceNeg, bindT, Nat.reduceMul, tis, hlk]
        · have := hov k hk1 hk2
          simp -implicitDefEqProofs (disch := omega) only [natNe, wk, indexAddrA, lenA, Nat.reduceAdd, Nat.reduceLeDiff, Nat.reduceEqDiff, if_true, if_false, reduceIte, reduceCtorEq, exists_eq_left', implies_true, forall_const, Int.reduceLT, Int.reduceLE, Int.reduceEq, Int.reduceNeg, bindT, Nat.reduceMul, tis, this]
        · simp -implicitDefEqProofs (disch := omega) only [natNe, wk, indexAddrA, lenA, Nat.reduceAdd, Nat.reduceLeDiff, Nat.reduceEqDiff, if_true, if_false, reduceIte, reduceCtorEq, exists_eq_left', implies_true, forall_const, Int.reduceLT, Int.reduceLE, Int.reduceEq, Int.reduceNeg, bindT, Nat.reduceMul, tis, t0]
        · simp -implicitDefEqProofs (disch := omega) only [natNe, wk, indexAddrA, lenA, Nat.reduceAdd, Nat.reduceLeDiff, Nat.reduceEqDiff, if_true, if_false, reduceIte, reduceCtorEq, exists_eq_left', implies_true, forall_const, Int.reduceLT, Int.reduceLE, Int.reduceEq, Int.reduceNeg, bindT, Nat.reduceMul, tis, t1]
        · simp -implicitDefEqProofs (disch := omega) only [natNe, wk, indexAddrA, lenA, Nat.reduceAdd, Nat.reduceLeDiff, Nat.reduceEqDiff, if_true, if_false, reduceIte, reduceCtorEq, exists_eq_left', implies_true, forall_const, Int.reduceLT, Int.reduceLE, Int.reduceEq, Int.reduceNeg, bindT, Nat.reduceMul, tis, t5]
        · simp -implicitDefEqProofs (disch := omega) only [natNe, wk, indexAddrA, lenA, Nat.reduceAdd, Nat.reduceLeDiff, Nat.reduceEqDiff, if_true, if_false, reduceIte, reduceCtorEq, exists_eq_left', implies_true, forall_const, Int.reduceLT, Int.reduceLE, Int.reduceEq, Int.reduceNeg, bindT, Nat.reduceMul, tis]
          rfl
      | false =>
        have hil : i < L'.length := by omega
        have hlb := map_at (L := L') (i := i) hil
        have eset : ((L'.map flCell).set i (flCell (cAt L j))) = (L'.set i (cAt L j)).map flCell := by rw [← List.map_set]
        simp only [flCell] at eset
        simp -implicitDefEqProofs (maxSteps := 2000000) (disch := omega) only [natNe, wk, indexAddrA, lenA, Nat.reduceAdd, Nat.reduceLeDiff, Nat.reduceEqDiff, if_true, if_false, reduceIte, reduceCtorEq, exists_eq_left', implies_true, forall_const, Int.reduceLT, Int.reduceLE, Int.reduceEq, Int.reduceNeg, bindT, Nat.reduceMul, tis, t0, t1, t5, t6, hlk, hlb, hil, hne, flCell, List.length_map, wrap_i64]
        rw [eset]
        refine ⟨m - 1, by omega, _, _, _, i + 1, j + 1, L'.set i (cAt L j), rfl, by omega, ?_, fun k hk1 hk2 => ?_, ?_, ?_, ?_, ?_, by omega, by omega, hst.kept hjl hij hpc⟩
        · simp -implicitDefEqProofs (disch := omega) only [natNe, wk, indexAddrA, lenA, Nat.reduceAdd, Nat.reduceLeDiff, Nat.reduceEqDiff, if_true, if_false, reduceIte, reduceCtorEq, exists_eq_left', implies_true, forall_const, Int.reduceLT, Int.reduceLE, Int.reduceEq, Int.reduceNeg, bindT, Nat.reduceMul, tis, hlk]
        · have := hov k hk1 hk2
          simp -implicitDefEqProofs (disch := omega) only [natNe, wk, indexAddrA, lenA, Nat.reduceAdd, Nat.reduceLeDiff, Nat.reduceEqDiff, if_true, if_false, reduceIte, reduceCtorEq, exists_eq_left', implies_true, forall_const, Int.reduceLT, Int.reduceLE, Int.reduceEq, Int.reduceNeg, bindT, Nat.reduceMul, tis, this]
        · simp -implicitDefEqProofs (disch := omega) only [natNe, wk, indexAddrA, lenA, Nat.reduceAdd, Nat.reduceLeDiff, Nat.reduceEqDiff, if_true, if_false, reduceIte, reduceCtorEq, exists_eq_left', implies_true, forall_const, Int.reduceLT, Int.reduceLE, Int.reduceEq, Int.reduceNeg, bindT, Nat.reduceMul, tis, t0]
        · simp -implicitDefEqProofs (disch := omega) only [natNe, wk, indexAddrA, lenA, Nat.reduceAdd, Nat.reduceLeDiff, Nat.reduceEqDiff, if_true, if_false, reduceIte, reduceCtorEq, exists_eq_left', implies_true, forall_const, Int.reduceLT, Int.reduceLE, Int.reduceEq, Int.reduceNeg, bindT, Nat.reduceMul, tis, t1]
        · simp -implicitDefEqProofs (disch := omega) only [natNe, wk, indexAddrA, lenA, Nat.reduceAdd, Nat.reduceLeDiff, Nat.reduceEqDiff, if_true, if_false, reduceIte, reduceCtorEq, exists_eq_left', implies_true, forall_const, Int.reduceLT, Int.reduceLE, Int.reduceEq, Int.reduceNeg, bindT, Nat.reduceMul, tis]
          rfl
        · simp -implicitDefEqProofs (disch := omega) only [natNe, wk, indexAddrA, lenA, Nat.reduceAdd, Nat.reduceLeDiff, Nat.reduceEqDiff, if_true, if_false, reduceIte, reduceCtorEq, exists_eq_left', implies_true, forall_const, Int.reduceLT, Int.reduceLE, Int.reduceEq, Int.reduceNeg, bindT, Nat.reduceMul, tis]
          rfl
    · have hjl2 : ¬ (j : Int) < (L'.length : Int) := by omega
      have hij2 := hst.le
      have hi2 : (i : Int) ≤ (L'.length : Int) := by omega
      have hi3 : i ≤ L'.length := by omega
      simp -implicitDefEqProofs (maxSteps := 2000000) (disch := omega) only [natNe, wk, indexAddrA, lenA, Nat.reduceAdd, Nat.reduceLeDiff, Nat.reduceEqDiff, if_true, if_false, reduceIte, reduceCtorEq, exists_eq_left', implies_true, forall_const, Int.reduceLT, Int.reduceLE, Int.reduceEq, Int.reduceNeg, bindT, Nat.reduceMul, tis, t0, t1, t5, t6, hlk, hjl2, hi2, hi3, List.length_map, decide_false]
      have htk : List.take i (List.take i (L'.map flCell) ++ List.replicate (L'.length - i) (List.replicate 5 AV.any)) = (L.filter fun c => !p c).map flCell := by
        rw [List.take_append_of_le_length (by simp; omega), List.take_take, Nat.min_self, ← List.map_take, hst.all (by omega)]
      rw [htk]
      refine ⟨by omega, by simp; omega, .keep (hk (g + 1) _ NX hNX ?_ fun k hk1 hk2 => ?_)⟩
      · simp -implicitDefEqProofs (disch := omega) only [natNe, wk, indexAddrA, lenA, Nat.reduceAdd, Nat.reduceLeDiff, Nat.reduceEqDiff, if_true, if_false, reduceIte, reduceCtorEq, exists_eq_left', implies_true, forall_const, Int.reduceLT, Int.reduceLE, Int.reduceEq, Int.reduceNeg, bindT, Nat.reduceMul, tis, hlk]
      · have := hov k hk1 hk2
        simp -implicitDefEqProofs (disch := omega) only [natNe, wk, indexAddrA, lenA, Nat.reduceAdd, Nat.reduceLeDiff, Nat.reduceEqDiff, if_true, if_false, reduceIte, reduceCtorEq, exists_eq_left', implies_true, forall_const, Int.reduceLT, Int.reduceLE, Int.reduceEq, Int.reduceNeg, bindT, Nat.reduceMul, tis, this]

theorem deleteEmp {h : Heap} {nx : Nat} {K : AV → Heap → Nat → Prop} {fv : AV} (hk : K .emp h nx) : ACall Try.prog 39 [.emp, fv] h nx K := by
  refine ACall.of_body (c := Try.f39.body.getD .skip) mixed Try.func39 rfl (by kernel_rfl) (by rw [Try.ntmps39]; simp) (by kernel_rfl) ?_
  simp -implicitDefEqProofs only [Try.f39, Option.getD_some, Array.toList]
  simp -implicitDefEqProofs (disch := omega) only [natNe, wk, indexAddrA, lenA, Nat.reduceAdd, Nat.reduceLeDiff, Nat.reduceEqDiff, if_true, if_false, reduceIte, reduceCtorEq, exists_eq_left', implies_true, forall_const, Int.reduceLT, Int.reduceLE, Int.reduceEq, Int.reduceNeg, bindT, Nat.reduceMul, tis]
  refine callX_fn (show ACall Try.prog 42 _ _ _ _ from ?_)
  refine ACall.of_body (c := Try.f42.body.getD .skip) mixed Try.func42 rfl (by kernel_rfl) (by rw [Try.ntmps42]; simp) (by kernel_rfl) ?_
  simp -implicitDefEqProofs only [Try.f42, Option.getD_some, Array.toList]
  simp -implicitDefEqProofs (disch := omega) only [natNe, wk, indexAddrA, lenA, Nat.reduceAdd, Nat.reduceLeDiff, Nat.reduceEqDiff, if_true, if_false, reduceIte, reduceCtorEq, exists_eq_left', implies_true, forall_const, Int.reduceLT, Int.reduceLE, Int.reduceEq, Int.reduceNeg, bindT, Nat.reduceMul, tis]
  refine loopX_ind (fun m σ => ∃ T, σ = ⟨T, h, nx, []⟩ ∧ look 7 T = some (.sc (.int .i64 0)) ∧ look 8 T = some (.sc (.int .i64 0))) 0 ⟨_, rfl, rfl, rfl⟩ ?_
  rintro m σ' ⟨T, rfl, h7, h8⟩
  simp -implicitDefEqProofs (disch := omega) only [natNe, wk, indexAddrA, lenA, Nat.reduceAdd, Nat.reduceLeDiff, Nat.reduceEqDiff, if_true, if_false, reduceIte, reduceCtorEq, exists_eq_left', implies_true, forall_const, Int.reduceLT, Int.reduceLE, Int.reduceEq, Int.reduceNeg, bindT, Nat.reduceMul, tis, h7, h8, Int.lt_irrefl, decide_false]
  refine .keep ?_
  simp -implicitDefEqProofs (disch := omega) only [natNe, wk, indexAddrA, lenA, Nat.reduceAdd, Nat.reduceLeDiff, Nat.reduceEqDiff, if_true, if_false, reduceIte, reduceCtorEq, exists_eq_left', implies_true, forall_const, Int.reduceLT, Int.reduceLE, Int.reduceEq, Int.reduceNeg, bindT, Nat.reduceMul, tis, eq_self, decide_true]
  exact .keep hk

theorem vdrop {h : Heap} {nx : Nat} {K : AV → Heap → Nat → Prop} {s : StM} {vs : List Int} (hcl : s.cells.length ≤ 900000) (hvl : vs.length ≤ 900000) (hd : s.defs.noRef = true) (hw : s.watches.noRef = true)
    (hk : K (.agg (flSt (s.drop vs))) h nx) : ACall Try.prog 20 [.agg (flSt s), .lst 1 (flInts vs)] h nx K := by
  refine ACall.of_body (c := Try.f20.body.getD .skip) mixed Try.func20 rfl (by kernel_rfl) (by rw [Try.ntmps20]; simp) (by kernel_rfl) ?_
  simp -implicitDefEqProofs only [Try.f20, Option.getD_some, Array.toList]
  simp -implicitDefEqProofs (disch := omega) only [natNe, wk, indexAddrA, lenA, Nat.reduceAdd, Nat.reduceLeDiff, Nat.reduceEqDiff, if_true, if_false, reduceIte, reduceCtorEq, exists_eq_left', implies_true, forall_const, Int.reduceLT, Int.reduceLE, Int.reduceEq, Int.reduceNeg, bindT, Nat.reduceMul, tis, flSt]
  refine callX_fn (cloneLst hcl fun v H NX hNX hov hv => ?_)
  dsimp only at hNX hov hv
  have b0 : look nx H = some (.box (flSt s)) := by
    rw [hov nx (by omega)]
    simp -implicitDefEqProofs (disch := omega) only [natNe, wk, indexAddrA, lenA, Nat.reduceAdd, Nat.reduceLeDiff, Nat.reduceEqDiff, if_true, if_false, reduceIte, reduceCtorEq, exists_eq_left', implies_true, forall_const, Int.reduceLT, Int.reduceLE, Int.reduceEq, Int.reduceNeg, bindT, Nat.reduceMul, tis, flSt]
  have b1 : look (nx + 1) H = some (.box [.lst 1 (flInts vs)]) := by
    rw [hov (nx + 1) (by omega)]
    simp -implicitDefEqProofs (disch := omega) only [natNe, wk, indexAddrA, lenA, Nat.reduceAdd, Nat.reduceLeDiff, Nat.reduceEqDiff, if_true, if_false, reduceIte, reduceCtorEq, exists_eq_left', implies_true, forall_const, Int.reduceLT, Int.reduceLE, Int.reduceEq, Int.reduceNeg, bindT, Nat.reduceMul, tis]
  have b2 : look (nx + 2) H = some (.box zSt) := by
    rw [hov (nx + 2) (by omega)]
    simp -implicitDefEqProofs (disch := omega) only [natNe, wk, indexAddrA, lenA, Nat.reduceAdd, Nat.reduceLeDiff, Nat.reduceEqDiff, if_true, if_false, reduceIte, reduceCtorEq, exists_eq_left', implies_true, forall_const, Int.reduceLT, Int.reduceLE, Int.reduceEq, Int.reduceNeg, bindT, Nat.reduceMul, tis, zSt]
  have hov2 : ∀ k, k < nx → look k H = look k h := fun k hk => by
    rw [hov k (by omega)]
    simp -implicitDefEqProofs (disch := omega) only [natNe, wk, indexAddrA, lenA, Nat.reduceAdd, Nat.reduceLeDiff, Nat.reduceEqDiff, if_true, if_false, reduceIte, reduceCtorEq, exists_eq_left', implies_true, forall_const, Int.reduceLT, Int.reduceLE, Int.reduceEq, Int.reduceNeg, bindT, Nat.reduceMul, tis]
  simp only [flSt, zSt] at b0 b2
  rcases hv with ⟨hnil, rfl⟩ | ⟨a, g, rfl, ha, hl⟩
  · have e0 : s.cells = [] := by simpa using hnil
    simp -implicitDefEqProofs (disch := omega) only [natNe, wk, indexAddrA, lenA, Nat.reduceAdd, Nat.reduceLeDiff, Nat.reduceEqDiff, if_true, if_false, reduceIte, reduceCtorEq, exists_eq_left', implies_true, forall_const, Int.reduceLT, Int.reduceLE, Int.reduceEq, Int.reduceNeg, bindT, Nat.reduceMul, tis, b0, b1, b2]
    refine callX_fn (deleteEmp ?_)
    simp -implicitDefEqProofs (disch := omega) only [natNe, wk, indexAddrA, lenA, Nat.reduceAdd, Nat.reduceLeDiff, Nat.reduceEqDiff, if_true, if_false, reduceIte, reduceCtorEq, exists_eq_left', implies_true, forall_const, Int.reduceLT, Int.reduceLE, Int.reduceEq, Int.reduceNeg, bindT, Nat.reduceMul, tis, b0, b1, b2]
    have hk0 : K (.agg (flSt { s with cells := [] })) h nx := by
      have : s.drop vs = { s with cells := [] } := by unfold StM.drop; rw [e0]; rfl
      rw [← this]; exact hk
    refine .pure _ (fun k hk => ?_) (.agg' (.cons (.same rfl) (.cons (.same rfl) (.cons (.same hd) (.cons (.same rfl) (.cons (.emp 5) (.cons (.same hw) (.nil _ _)))))))) hk0
    have := hov2 k hk
    simp -implicitDefEqProofs (disch := omega) only [natNe, wk, indexAddrA, lenA, Nat.reduceAdd, Nat.reduceLeDiff, Nat.reduceEqDiff, if_true, if_false, reduceIte, reduceCtorEq, exists_eq_left', implies_true, forall_const, Int.reduceLT, Int.reduceLE, Int.reduceEq, Int.reduceNeg, bindT, Nat.reduceMul, tis, this]
  · have a1 : nx + 3 ≤ a := ha.1
    have a2 : a < NX := ha.2
    simp -implicitDefEqProofs (disch := omega) only [natNe, wk, indexAddrA, lenA, Nat.reduceAdd, Nat.reduceLeDiff, Nat.reduceEqDiff, if_true, if_false, reduceIte, reduceCtorEq, exists_eq_left', implies_true, forall_const, Int.reduceLT, Int.reduceLE, Int.reduceEq, Int.reduceNeg, bindT, Nat.reduceMul, tis, b0, b1, b2]
    refine callX_fn (deleteCells (p := fun c => decide (c.scope ∈ vs)) hl a2 hcl (fun c H2 NX2 K' hn hov3 hK' => ACallV.of_fn (drop1 ?_ (by dsimp only at hn ⊢; omega) (by omega) hK')) fun g' H2 nx2 hn2 hl2 hov3 => ?_)
    · rw [hov3 (nx + 1) (by dsimp only; omega) (by omega)]
      exact b1
    · have c0 : look nx H2 = some (.box (flSt s)) := by rw [hov3 nx (by dsimp only; omega) (by omega), flSt]; exact b0
      have c2 : look (nx + 2) H2 = some (.box zSt) := by rw [hov3 (nx + 2) (by dsimp only; omega) (by omega), zSt]; exact b2
      simp only [flSt, zSt] at c0 c2
      simp -implicitDefEqProofs (disch := omega) only [natNe, wk, indexAddrA, lenA, Nat.reduceAdd, Nat.reduceLeDiff, Nat.reduceEqDiff, if_true, if_false, reduceIte, reduceCtorEq, exists_eq_left', implies_true, forall_const, Int.reduceLT, Int.reduceLE, Int.reduceEq, Int.reduceNeg, bindT, Nat.reduceMul, tis, c0, c2]
      refine .pure _ (fun k hk => ?_) (.agg' (.cons (.same rfl) (.cons (.same rfl) (.cons (.same hd) (.cons (.same rfl) (.cons (.own (sz := 5) (L := (s.drop vs).cells.map flCell) (by omega) ?_ (flCell_noRef _) rfl) (.cons (.same hw) (.nil _ _)))))))) hk
      · have h1 := hov2 k hk
        have h2 := hov3 k (by dsimp only; omega) (by omega)
        simp -implicitDefEqProofs (disch := omega) only [natNe, wk, indexAddrA, lenA, Nat.reduceAdd, Nat.reduceLeDiff, Nat.reduceEqDiff, if_true, if_false, reduceIte, reduceCtorEq, exists_eq_left', implies_true, forall_const, Int.reduceLT, Int.reduceLE, Int.reduceEq, Int.reduceNeg, bindT, Nat.reduceMul, tis, h1, h2]
      · simp -implicitDefEqProofs (disch := omega) only [natNe, wk, indexAddrA, lenA, Nat.reduceAdd, Nat.reduceLeDiff, Nat.reduceEqDiff, if_true, if_false, reduceIte, reduceCtorEq, exists_eq_left', implies_true, forall_const, Int.reduceLT, Int.reduceLE, Int.reduceEq, Int.reduceNeg, bindT, Nat.reduceMul, tis, hl2]
        rfl
end Go.Abs.Try
