/- Contracts: the scopes that a scope sees, one by one. -/
import Derived.Test.YtlmkmmkhfkdagaaArena
import Derived.Test.YtlmkmmkhfkdagaaKe
set_option linter.unusedVariables false
set_option linter.unusedSimpArgs false
set_option maxHeartbeats 4000000
set_option maxRecDepth 8000
namespace Go.Abs.Try
open Go Go.Abs Go.Proofs

theorem way0 {h : Heap} {nx : Nat} {K : AV → Heap → Nat → Prop} {s : StM} {id : Int} (hk : K (.fn (.func 47) [.ptr (nx + 1) 0, .ptr nx 0]) (hc (nx + 1) (.box [.sc (.int .i64 id)]) (hc nx (.box (flSt s)) h)) (nx + 2)) :
    ACall Try.prog 35 [.agg (flSt s), .sc (.int .i64 id)] h nx K := by
  refine ACall.of_body (c := Try.f35.body.getD .skip) mixed Try.func35 rfl (by kernel_rfl) (by rw [Try.ntmps35]; simp) (by kernel_rfl) ?_
  simp -implicitDefEqProofs only [Try.f35, Option.getD_some, Array.toList]
  simp -implicitDefEqProofs only [wk, indexAddrA, lenA, Nat.reduceAdd, Nat.reduceLeDiff, Nat.reduceEqDiff, if_true, if_false, reduceIte, reduceCtorEq, exists_eq_left', implies_true, forall_const, Int.reduceLT, Int.reduceLE, Int.reduceEq, Int.reduceNeg, bindT, Nat.reduceMul, tis, flSt]
  exact .keep hk

theorem way1 {h : Heap} {nx : Nat} {K : AV → Heap → Nat → Prop} {s : StM} {scope : Int} (hlen : s.items.length ≤ 4611686018427387904) {y : AV} {i j : Nat} (t : Taker) {M : Nat → Prop} (hM : ∀ k, M k → k < nx)
    (hi : look i h = some (.box [.sc (.int .i64 scope)])) (hj : look j h = some (.box (flSt s))) (hin : i < nx) (hjn : j < nx) (hiM : ¬ M i) (hjM : ¬ M j) (hJ : t.J 0 M h)
    (hy : t.Ok Try.prog y ((s.way scope).map fun k => [.sc (.int .i64 k)])) (hk : t.End ((s.way scope).map fun k => [.sc (.int .i64 k)]) M h nx K) :
    ACall Try.prog 47 [y, .ptr i 0, .ptr j 0] h nx K := by
  refine ACall.of_body (c := Try.f47.body.getD .skip) mixed Try.func47 rfl (by kernel_rfl) (by rw [Try.ntmps47]; simp) (by kernel_rfl) ?_
  simp -implicitDefEqProofs only [Try.f47, Option.getD_some, Array.toList]
  have e1 : ¬ nx = i := by omega
  have e2 : ¬ nx = j := by omega
  simp -implicitDefEqProofs only [wk, indexAddrA, lenA, Nat.reduceAdd, Nat.reduceLeDiff, Nat.reduceEqDiff, if_true, if_false, reduceIte, reduceCtorEq, exists_eq_left', implies_true, forall_const, Int.reduceLT, Int.reduceLE, Int.reduceEq, Int.reduceNeg, bindT, Nat.reduceMul, tis, hi, e1]
  refine loopX_ind (fun m σ => ∃ T H NX met id Mc, σ = ⟨T, H, NX, []⟩ ∧ look 0 T = some y ∧ look 2 T = some (.ptr j 0) ∧ look 4 T = some (.mp nx) ∧ look 5 T = some (.sc (.int .i64 id)) ∧ nx < NX ∧
    look j H = some (.box (flSt s)) ∧ look nx H = some (.map (metM met)) ∧ (∀ k, Mc k → M k ∨ (nx < k ∧ k < NX)) ∧ (∀ k, k < nx → ¬ M k → look k H = look k h) ∧ t.J met.length Mc H ∧
    m + met.length = s.items.length + 1 ∧ s.way scope = met ++ s.wayGo m met id ∧ met.Nodup ∧ (∀ k ∈ met, k ∈ s.items.map (·.id))) (s.items.length + 1)
    ⟨_, _, _, [], scope, M, rfl, rfl, rfl, rfl, rfl, by omega, ?_, ?_, fun k hk => .inl hk, ?_, ?_, rfl, rfl, List.nodup_nil, by simp⟩ ?_
  · simp -implicitDefEqProofs only [wk, indexAddrA, lenA, Nat.reduceAdd, Nat.reduceLeDiff, Nat.reduceEqDiff, if_true, if_false, reduceIte, reduceCtorEq, exists_eq_left', implies_true, forall_const, Int.reduceLT, Int.reduceLE, Int.reduceEq, Int.reduceNeg, bindT, Nat.reduceMul, tis, hj, e2]
  · simp -implicitDefEqProofs only [wk, indexAddrA, lenA, Nat.reduceAdd, Nat.reduceLeDiff, Nat.reduceEqDiff, if_true, if_false, reduceIte, reduceCtorEq, exists_eq_left', implies_true, forall_const, Int.reduceLT, Int.reduceLE, Int.reduceEq, Int.reduceNeg, bindT, Nat.reduceMul, tis]
    rfl
  · intro k hk hkM
    have : ¬ nx = k := by omega
    simp -implicitDefEqProofs only [wk, indexAddrA, lenA, Nat.reduceAdd, Nat.reduceLeDiff, Nat.reduceEqDiff, if_true, if_false, reduceIte, reduceCtorEq, exists_eq_left', implies_true, forall_const, Int.reduceLT, Int.reduceLE, Int.reduceEq, Int.reduceNeg, bindT, Nat.reduceMul, tis, this]
  · exact t.stJ _ _ _ _ hJ fun k hk => by
      have := hM k hk
      have : ¬ nx = k := by omega
      simp -implicitDefEqProofs only [wk, indexAddrA, lenA, Nat.reduceAdd, Nat.reduceLeDiff, Nat.reduceEqDiff, if_true, if_false, reduceIte, reduceCtorEq, exists_eq_left', implies_true, forall_const, Int.reduceLT, Int.reduceLE, Int.reduceEq, Int.reduceNeg, bindT, Nat.reduceMul, tis, this]
  rintro m σ' ⟨T, H, NX, met, id, Mc, rfl, h0, h2, h4, h5, hnx, hjH, hmH, hMc, hkeep, hJc, hm, hway, hnd, hids⟩
  have hpig : met.length ≤ s.items.length := by
    have := pigeon met (s.items.map (·.id)) hnd hids
    simpa using this
  obtain ⟨m, rfl⟩ : ∃ m', m = m' + 1 := ⟨m - 1, by omega⟩
  have hMlt : ∀ k, Mc k → k < NX := fun k hk => by
    rcases hMc k hk with h | h
    · have := hM k h; omega
    · exact h.2
  have hjMc : ¬ Mc j := fun h => by
    rcases hMc j h with h | h
    · exact hjM h
    · omega
  have hnMc : ¬ Mc nx := fun h => by
    rcases hMc nx h with h | h
    · have := hM nx h; omega
    · omega
  have d1 : ¬ NX = j := by omega
  have d2 : ¬ NX = nx := by omega
  have d3 : ¬ j = NX := by omega
  have d4 : ¬ nx = NX := by omega
  have d5 : ¬ j = nx := by omega
  simp -implicitDefEqProofs only [wk, indexAddrA, lenA, Nat.reduceAdd, Nat.reduceLeDiff, Nat.reduceEqDiff, if_true, if_false, reduceIte, reduceCtorEq, exists_eq_left', implies_true, forall_const, Int.reduceLT, Int.reduceLE, Int.reduceEq, Int.reduceNeg, bindT, Nat.reduceMul, tis, h0, h2, h4, h5, hjH, hmH, flSt]
  refine callX_fn (arenaFind (s := s) hlen ?_)
  have hend : s.wayGo (m + 1) met id = [] → ∀ H' NX', NX ≤ NX' → (∀ k, Mc k → look k H' = look k H) → (∀ k, k < nx → ¬ M k → look k H' = look k h) → Fin nx h K (.tup []) H' NX' := fun hnil H' NX' hle hsame hkeep' => by
    refine .keep (hk met.length H' NX' Mc (by omega) (fun k hkM => ?_) hkeep' (.inl ⟨by rw [hway, hnil]; simp, t.stJ _ _ _ _ hJc hsame⟩))
    rcases hMc k hkM with h | h
    · exact .inl h
    · exact .inr (by omega)
  have side : ∀ (c1 c2 mm : AObj) (k : Nat), k ≠ nx → k ≠ NX → look k (upd nx mm (upd NX c1 (hc NX c2 H))) = look k H := fun c1 c2 mm k a2 a3 => by
    have a4 : ¬ NX = k := fun e => a3 e.symm
    simp -implicitDefEqProofs only [wk, indexAddrA, lenA, Nat.reduceAdd, Nat.reduceLeDiff, Nat.reduceEqDiff, if_true, if_false, reduceIte, reduceCtorEq, exists_eq_left', implies_true, forall_const, Int.reduceLT, Int.reduceLE, Int.reduceEq, Int.reduceNeg, bindT, Nat.reduceMul, tis, a2, a3, a4]
  have sideM : ∀ (c1 c2 mm : AObj) (k : Nat), Mc k → look k (upd nx mm (upd NX c1 (hc NX c2 H))) = look k H := fun c1 c2 mm k hk => by
    have := hMlt k hk
    exact side _ _ _ k (fun e => hnMc (e ▸ hk)) (by omega)
  have sideK : ∀ (c1 c2 mm : AObj) (k : Nat), k < nx → ¬ M k → look k (upd nx mm (upd NX c1 (hc NX c2 H))) = look k h := fun c1 c2 mm k hk hkM => by
    rw [side _ _ _ k (by omega) (by omega)]
    exact hkeep k hk hkM
  by_cases hmem : id ∈ met
  · obtain ⟨jj, hmf, hjj⟩ := metM_some hmem
    have hset := metM_set (c := .sc (.int .i64 2)) hmem hmf
    have hnil : s.wayGo (m + 1) met id = [] := by
      simp only [StM.wayGo]
      split
      · rfl
      · simp [hmem]
    cases hf : s.find id with
    | none =>
      simp -implicitDefEqProofs only [wk, indexAddrA, lenA, Nat.reduceAdd, Nat.reduceLeDiff, Nat.reduceEqDiff, if_true, if_false, reduceIte, reduceCtorEq, exists_eq_left', implies_true, forall_const, Int.reduceLT, Int.reduceLE, Int.reduceEq, Int.reduceNeg, bindT, Nat.reduceMul, tis, Option.isSome_none, Option.getD_none, zItem, flItem, lookupA, mapSetA, h0, h4, h5, hmH, d1, d2, d3, d4, d5, hmf, hset]
      exact hend hnil _ _ (by omega) (sideM _ _ _) (sideK _ _ _)
    | some it =>
      by_cases his : it.is = 1
      · simp -implicitDefEqProofs only [wk, indexAddrA, lenA, Nat.reduceAdd, Nat.reduceLeDiff, Nat.reduceEqDiff, if_true, if_false, reduceIte, reduceCtorEq, exists_eq_left', implies_true, forall_const, Int.reduceLT, Int.reduceLE, Int.reduceEq, Int.reduceNeg, bindT, Nat.reduceMul, tis, his, Option.isSome_some, flItem, lookupA, mapSetA, h0, h4, h5, hmH, d1, d2, d3, d4, d5, hmf, hset]
        exact hend hnil _ _ (by omega) (sideM _ _ _) (sideK _ _ _)
      · simp -implicitDefEqProofs only [wk, indexAddrA, lenA, Nat.reduceAdd, Nat.reduceLeDiff, Nat.reduceEqDiff, if_true, if_false, reduceIte, reduceCtorEq, exists_eq_left', implies_true, forall_const, Int.reduceLT, Int.reduceLE, Int.reduceEq, Int.reduceNeg, bindT, Nat.reduceMul, tis, his, Option.isSome_some, flItem, lookupA, mapSetA, h0, h4, h5, hmH, d1, d2, d3, d4, d5, hmf, hset]
        exact hend hnil _ _ (by omega) (sideM _ _ _) (sideK _ _ _)
  · have hmf := metM_none hmem
    have hset := metM_app (c := .sc (.int .i64 1)) hmem
    cases hf : s.find id with
    | none =>
      have hnil : s.wayGo (m + 1) met id = [] := by simp only [StM.wayGo, hf]
      simp -implicitDefEqProofs only [wk, indexAddrA, lenA, Nat.reduceAdd, Nat.reduceLeDiff, Nat.reduceEqDiff, if_true, if_false, reduceIte, reduceCtorEq, exists_eq_left', implies_true, forall_const, Int.reduceLT, Int.reduceLE, Int.reduceEq, Int.reduceNeg, bindT, Nat.reduceMul, tis, Option.isSome_none, Option.getD_none, zItem, flItem, lookupA, mapSetA, h0, h4, h5, hmH, d1, d2, d3, d4, d5, hmf, hset]
      exact hend hnil _ _ (by omega) (sideM _ _ _) (sideK _ _ _)
    | some it =>
      by_cases his : it.is = 1
      · have hgo : s.wayGo (m + 1) met id = id :: (if it.node = -1 then [] else s.wayGo m (met ++ [id]) (s.nextId it)) := by
          simp only [StM.wayGo, hf, his, hmem, not_false_eq_true, and_self, if_true]
        simp -implicitDefEqProofs only [wk, indexAddrA, lenA, Nat.reduceAdd, Nat.reduceLeDiff, Nat.reduceEqDiff, if_true, if_false, reduceIte, reduceCtorEq, exists_eq_left', implies_true, forall_const, Int.reduceLT, Int.reduceLE, Int.reduceEq, Int.reduceNeg, bindT, Nat.reduceMul, tis, his, Option.isSome_some, flItem, lookupA, mapSetA, h0, h4, h5, hmH, d1, d2, d3, d4, d5, hmf, hset]
        refine callX_v (hy met.length [.sc (.int .i64 id)] Mc _ _ (by rw [hway, hgo]; simp) (t.stJ _ _ _ _ hJc (sideM _ _ _)) (fun k hk => by have := hMlt k hk; simp only; omega) _ ?_)
        intro b H' NX' M' hle hM' hkp hb1 hb0
        simp only at hle hM' hkp
        have f1 : look j H' = some (.box (flSt s)) := by rw [hkp j (by omega) hjMc, side _ _ _ j (by omega) (by omega)]; exact hjH
        have f2 : look nx H' = some (.map (metM (met ++ [id]))) := by
          rw [hkp nx (by omega) hnMc, ← metM_snoc]
          simp -implicitDefEqProofs only [wk, indexAddrA, lenA, Nat.reduceAdd, Nat.reduceLeDiff, Nat.reduceEqDiff, if_true, if_false, reduceIte, reduceCtorEq, exists_eq_left', implies_true, forall_const, Int.reduceLT, Int.reduceLE, Int.reduceEq, Int.reduceNeg, bindT, Nat.reduceMul, tis, hmH, d2, d4]
        have f3 : look NX H' = some (.box (flItem it)) := by
          rw [hkp NX (by omega) (fun h => by have := hMlt _ h; omega)]
          simp -implicitDefEqProofs only [wk, indexAddrA, lenA, Nat.reduceAdd, Nat.reduceLeDiff, Nat.reduceEqDiff, if_true, if_false, reduceIte, reduceCtorEq, exists_eq_left', implies_true, forall_const, Int.reduceLT, Int.reduceLE, Int.reduceEq, Int.reduceNeg, bindT, Nat.reduceMul, tis, d2, d4, flItem, his]
        have hM2 : ∀ k, M' k → M k ∨ (nx < k ∧ k < NX') := fun k hk => by
          rcases hM' k hk with h | h
          · rcases hMc k h with h | h
            · exact .inl h
            · exact .inr (by omega)
          · exact .inr (by omega)
        have hkp2 : ∀ k, k < nx → ¬ M k → look k H' = look k h := fun k hk hkM => by
          rw [hkp k (by omega) (fun h => by rcases hMc k h with h | h; exact hkM h; omega)]
          exact sideK _ _ _ k hk hkM
        have hM3 : ∀ k, M' k → M k ∨ (nx ≤ k ∧ k < NX') := fun k hk => (hM2 k hk).imp (fun h => h) fun h => by omega
        have hidit : it.id = id ∧ it ∈ s.items := by
          unfold StM.find at hf
          cases hp : s.place id with
          | none => simp [hp] at hf
          | some q =>
            obtain ⟨it', h1, h2⟩ := StM.place_lt hp
            simp only [hp, Option.bind_some, h1, Option.some.injEq] at hf
            subst hf
            exact ⟨h2, List.mem_of_getElem? h1⟩
        cases b with
        | false =>
          simp -implicitDefEqProofs only [wk, indexAddrA, lenA, Nat.reduceAdd, Nat.reduceLeDiff, Nat.reduceEqDiff, if_true, if_false, reduceIte, reduceCtorEq, exists_eq_left', implies_true, forall_const, Int.reduceLT, Int.reduceLE, Int.reduceEq, Int.reduceNeg, bindT, Nat.reduceMul, tis]
          refine .keep (hk (met.length + 1) H' NX' M' (by omega) hM3 hkp2 (.inr ⟨?_, hb0 rfl⟩))
          rw [hway, hgo]
          simp
        | true =>
          by_cases hnode : it.node = -1
          · simp -implicitDefEqProofs only [wk, indexAddrA, lenA, Nat.reduceAdd, Nat.reduceLeDiff, Nat.reduceEqDiff, if_true, if_false, reduceIte, reduceCtorEq, exists_eq_left', implies_true, forall_const, Int.reduceLT, Int.reduceLE, Int.reduceEq, Int.reduceNeg, bindT, Nat.reduceMul, tis, f3, flItem, hnode]
            refine .keep (hk (met.length + 1) H' NX' M' (by omega) hM3 hkp2 (.inl ⟨?_, hb1 rfl⟩))
            rw [hway, hgo]
            simp [hnode]
          · simp -implicitDefEqProofs only [wk, indexAddrA, lenA, Nat.reduceAdd, Nat.reduceLeDiff, Nat.reduceEqDiff, if_true, if_false, reduceIte, reduceCtorEq, exists_eq_left', implies_true, forall_const, Int.reduceLT, Int.reduceLE, Int.reduceEq, Int.reduceNeg, bindT, Nat.reduceMul, tis, f1, f3, flItem, flSt, h2, hnode]
            refine callX_fn (arenaFind (s := s) hlen ?_)
            have e6 : ¬ NX' = NX := by omega
            have e7 : ¬ NX = NX' := by omega
            have hJ2 : t.J (met ++ [id]).length M' H' := by simpa using hb1 rfl
            have hres : ∀ (T' : Tab AV) (c1 c2 : AObj) (v : Int), v = s.nextId it → look 0 T' = some y → look 2 T' = some (.ptr j 0) → look 4 T' = some (.mp nx) → look 5 T' = some (.sc (.int .i64 v)) →
                ∃ m', m' < m + 1 ∧ ∃ T H NX met id Mc, (⟨T', upd NX' c1 (hc NX' c2 H'), NX' + 1, []⟩ : AS) = ⟨T, H, NX, []⟩ ∧ look 0 T = some y ∧ look 2 T = some (.ptr j 0) ∧ look 4 T = some (.mp nx) ∧ look 5 T = some (.sc (.int .i64 id)) ∧ nx < NX ∧
                  look j H = some (.box (flSt s)) ∧ look nx H = some (.map (metM met)) ∧ (∀ k, Mc k → M k ∨ (nx < k ∧ k < NX)) ∧ (∀ k, k < nx → ¬ M k → look k H = look k h) ∧ t.J met.length Mc H ∧
                  m' + met.length = s.items.length + 1 ∧ s.way scope = met ++ s.wayGo m' met id ∧ met.Nodup ∧ (∀ k ∈ met, k ∈ s.items.map (·.id)) := fun T' c1 c2 v hv t0 t2 t4 t5 => by
              have oth : ∀ k, k < NX' → look k (upd NX' c1 (hc NX' c2 H')) = look k H' := fun k hk => by
                have a3 : ¬ k = NX' := by omega
                have a4 : ¬ NX' = k := by omega
                simp -implicitDefEqProofs only [wk, indexAddrA, lenA, Nat.reduceAdd, Nat.reduceLeDiff, Nat.reduceEqDiff, if_true, if_false, reduceIte, reduceCtorEq, exists_eq_left', implies_true, forall_const, Int.reduceLT, Int.reduceLE, Int.reduceEq, Int.reduceNeg, bindT, Nat.reduceMul, tis, a3, a4]
              refine ⟨m, by omega, T', _, NX' + 1, met ++ [id], v, M', rfl, t0, t2, t4, t5, by omega, ?_, ?_, fun k hk => (hM2 k hk).imp (fun h => h) fun h => by omega, fun k hk hkM => ?_, t.stJ _ _ _ _ hJ2 fun k hk => ?_, by simp; omega, ?_, ?_, fun k hk => ?_⟩
              · rw [oth j (by omega)]; exact f1
              · rw [oth nx (by omega)]; exact f2
              · rw [oth k (by omega)]; exact hkp2 k hk hkM
              · refine oth k ?_
                rcases hM2 k hk with h | h
                · have := hM k h; omega
                · exact h.2
              · rw [hway, hgo, if_neg hnode, hv]
                simp
              · rw [List.nodup_append]
                exact ⟨hnd, by simp, fun a ha b hb => by simp at hb; subst hb; exact fun e => hmem (e ▸ ha)⟩
              · rw [List.mem_append] at hk
                rcases hk with hk | hk
                · exact hids k hk
                · simp at hk
                  subst hk
                  exact List.mem_map.2 ⟨it, hidit.2, hidit.1⟩
            by_cases hu : ((s.find it.up).getD zItem).is = 2
            · simp -implicitDefEqProofs only [wk, indexAddrA, lenA, Nat.reduceAdd, Nat.reduceLeDiff, Nat.reduceEqDiff, if_true, if_false, reduceIte, reduceCtorEq, exists_eq_left', implies_true, forall_const, Int.reduceLT, Int.reduceLE, Int.reduceEq, Int.reduceNeg, bindT, Nat.reduceMul, tis, f3, flItem, e6, e7, hu]
              exact hres _ _ _ ((s.find it.up).getD zItem).up (by simp [StM.nextId, hu]) (by simp -implicitDefEqProofs only [wk, indexAddrA, lenA, Nat.reduceAdd, Nat.reduceLeDiff, Nat.reduceEqDiff, if_true, if_false, reduceIte, reduceCtorEq, exists_eq_left', implies_true, forall_const, Int.reduceLT, Int.reduceLE, Int.reduceEq, Int.reduceNeg, bindT, Nat.reduceMul, tis, h0]) (by simp -implicitDefEqProofs only [wk, indexAddrA, lenA, Nat.reduceAdd, Nat.reduceLeDiff, Nat.reduceEqDiff, if_true, if_false, reduceIte, reduceCtorEq, exists_eq_left', implies_true, forall_const, Int.reduceLT, Int.reduceLE, Int.reduceEq, Int.reduceNeg, bindT, Nat.reduceMul, tis, h2]) (by simp -implicitDefEqProofs only [wk, indexAddrA, lenA, Nat.reduceAdd, Nat.reduceLeDiff, Nat.reduceEqDiff, if_true, if_false, reduceIte, reduceCtorEq, exists_eq_left', implies_true, forall_const, Int.reduceLT, Int.reduceLE, Int.reduceEq, Int.reduceNeg, bindT, Nat.reduceMul, tis, h4]) (by simp -implicitDefEqProofs only [wk, indexAddrA, lenA, Nat.reduceAdd, Nat.reduceLeDiff, Nat.reduceEqDiff, if_true, if_false, reduceIte, reduceCtorEq, exists_eq_left', implies_true, forall_const, Int.reduceLT, Int.reduceLE, Int.reduceEq, Int.reduceNeg, bindT, Nat.reduceMul, tis])
            · simp -implicitDefEqProofs only [wk, indexAddrA, lenA, Nat.reduceAdd, Nat.reduceLeDiff, Nat.reduceEqDiff, if_true, if_false, reduceIte, reduceCtorEq, exists_eq_left', implies_true, forall_const, Int.reduceLT, Int.reduceLE, Int.reduceEq, Int.reduceNeg, bindT, Nat.reduceMul, tis, f3, flItem, e6, e7, hu]
              exact hres _ _ _ it.up (by simp [StM.nextId, hu]) (by simp -implicitDefEqProofs only [wk, indexAddrA, lenA, Nat.reduceAdd, Nat.reduceLeDiff, Nat.reduceEqDiff, if_true, if_false, reduceIte, reduceCtorEq, exists_eq_left', implies_true, forall_const, Int.reduceLT, Int.reduceLE, Int.reduceEq, Int.reduceNeg, bindT, Nat.reduceMul, tis, h0]) (by simp -implicitDefEqProofs only [wk, indexAddrA, lenA, Nat.reduceAdd, Nat.reduceLeDiff, Nat.reduceEqDiff, if_true, if_false, reduceIte, reduceCtorEq, exists_eq_left', implies_true, forall_const, Int.reduceLT, Int.reduceLE, Int.reduceEq, Int.reduceNeg, bindT, Nat.reduceMul, tis, h2]) (by simp -implicitDefEqProofs only [wk, indexAddrA, lenA, Nat.reduceAdd, Nat.reduceLeDiff, Nat.reduceEqDiff, if_true, if_false, reduceIte, reduceCtorEq, exists_eq_left', implies_true, forall_const, Int.reduceLT, Int.reduceLE, Int.reduceEq, Int.reduceNeg, bindT, Nat.reduceMul, tis, h4]) (by simp -implicitDefEqProofs only [wk, indexAddrA, lenA, Nat.reduceAdd, Nat.reduceLeDiff, Nat.reduceEqDiff, if_true, if_false, reduceIte, reduceCtorEq, exists_eq_left', implies_true, forall_const, Int.reduceLT, Int.reduceLE, Int.reduceEq, Int.reduceNeg, bindT, Nat.reduceMul, tis])
      · have hnil : s.wayGo (m + 1) met id = [] := by simp only [StM.wayGo, hf, his, false_and, if_false]
        simp -implicitDefEqProofs only [wk, indexAddrA, lenA, Nat.reduceAdd, Nat.reduceLeDiff, Nat.reduceEqDiff, if_true, if_false, reduceIte, reduceCtorEq, exists_eq_left', implies_true, forall_const, Int.reduceLT, Int.reduceLE, Int.reduceEq, Int.reduceNeg, bindT, Nat.reduceMul, tis, his, Option.isSome_some, flItem, lookupA, mapSetA, h0, h4, h5, hmH, d1, d2, d3, d4, d5, hmf, hset]
        exact hend hnil _ _ (by omega) (sideM _ _ _) (sideK _ _ _)
end Go.Abs.Try
