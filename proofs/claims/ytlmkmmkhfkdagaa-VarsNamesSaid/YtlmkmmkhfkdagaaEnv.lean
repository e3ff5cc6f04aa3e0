/- Contracts: the cells of all scopes that are seen. -/
import Derived.Test.YtlmkmmkhfkdagaaValue
set_option linter.unusedVariables false
set_option linter.unusedSimpArgs false
set_option maxHeartbeats 4000000
set_option maxRecDepth 8000
namespace Go.Abs.Try
open Go Go.Abs Go.Proofs

/-- What stands in a variable that rows are appended to. -/
def RowsAt (sz : Nat) (A : Nat → Prop) (h : Heap) (l : List (List AV)) (v : AV) : Prop := (l = [] ∧ v = .emp) ∨ ∃ a g, v = .own a g 0 ∧ A a ∧ look a h = some (.arr g sz l)

theorem RowsAt.mono {sz : Nat} {A A' : Nat → Prop} {h h' : Heap} {l : List (List AV)} {v : AV} (r : RowsAt sz A h l v) (hA : ∀ k, A k → A' k) (hh : ∀ k, A k → look k h' = look k h) : RowsAt sz A' h' l v := by
  rcases r with r | ⟨a, g, h1, h2, h3⟩
  · exact .inl r
  · exact .inr ⟨a, g, h1, hA a h2, by rw [hh a h2]; exact h3⟩

theorem env_take {s : StM} {scope : Int} {n : Nat} {id : Int} (h : (s.way scope)[n]? = some id) :
    ((s.way scope).take (n + 1)).flatMap (fun id => (s.own id).map CellM.set) = ((s.way scope).take n).flatMap (fun id => (s.own id).map CellM.set) ++ (s.own id).map CellM.set := by
  rw [List.take_add_one, h]
  simp

theorem flat_le {α β : Type} (f : α → List β) (c : Nat) : ∀ l : List α, (∀ x ∈ l, (f x).length ≤ c) → (l.flatMap f).length ≤ l.length * c
  | [], _ => by simp
  | x :: l, h => by
    have := flat_le f c l fun y hy => h y (by simp [hy])
    have h1 := h x (by simp)
    simp only [List.flatMap_cons, List.length_append, List.length_cons]
    rw [Nat.add_mul]
    omega

theorem own_le (s : StM) (id : Int) : (s.own id).length ≤ s.cells.length := List.length_filter_le _ _

theorem venv {h : Heap} {nx : Nat} {K : AV → Heap → Nat → Prop} {s : StM} {scope : Int} (hlen : s.items.length ≤ 900000) (hcl : s.cells.length ≤ 900000)
    (hk : K (.lst 4 ((s.env scope).map flSet)) h nx) : ACall Try.prog 18 [.agg (flSt s), .sc (.int .i64 scope)] h nx K := by
  refine ACall.of_body (c := Try.f18.body.getD .skip) mixed Try.func18 rfl (by kernel_rfl) (by rw [Try.ntmps18]; simp) (by kernel_rfl) ?_
  simp -implicitDefEqProofs only [Try.f18, Option.getD_some, Array.toList]
  simp -implicitDefEqProofs only [wk, indexAddrA, lenA, Nat.reduceAdd, Nat.reduceLeDiff, Nat.reduceEqDiff, if_true, if_false, reduceIte, reduceCtorEq, exists_eq_left', implies_true, forall_const, Int.reduceLT, Int.reduceLE, Int.reduceEq, Int.reduceNeg, bindT, Nat.reduceMul, tis, flSt]
  refine callX_fn (way0 (s := s) ?_)
  simp -implicitDefEqProofs only [wk, indexAddrA, lenA, Nat.reduceAdd, Nat.reduceLeDiff, Nat.reduceEqDiff, if_true, if_false, reduceIte, reduceCtorEq, exists_eq_left', implies_true, forall_const, Int.reduceLT, Int.reduceLE, Int.reduceEq, Int.reduceNeg, bindT, Nat.reduceMul, tis]
  refine xt_range (fun r h => by cases h) rfl ?_
  unfold rangeX
  simp only [rangeIn, Nat.add_assoc, Nat.reduceAdd]
  generalize hR : loopRec _ _ _ _ _ = R
  have r1 : R.st = .ready := by rw [← hR]; rfl
  have r2 : R.pend = none := by rw [← hR]; rfl
  have r4 : R.params = #[12] := by rw [← hR]; rfl
  have r5 : look 2 R.tmps = some (.ptr nx 0) := by rw [← hR]; rfl
  have r6 : look 5 R.tmps = some (.ptr (nx + 1) 0) := by rw [← hR]; rfl
  have ra := (congrArg ALoop.assign hR).symm
  have rb := (congrArg ALoop.body hR).symm
  have r3 := (congrArg ALoop.nt hR).symm
  simp only [loopRec] at ra rb r3
  have hbig : ∀ n, (((s.way scope).take n).flatMap (fun id => (s.own id).map CellM.set)).length ≤ 900001 * 900000 := fun n => by
    have h1 := flat_le (fun id => (s.own id).map CellM.set) 900000 ((s.way scope).take n) fun x _ => by have := own_le s x; simp; omega
    have h2 := way_length s scope
    have h3 : ((s.way scope).take n).length ≤ 900001 := by rw [List.length_take]; omega
    exact Nat.le_trans h1 (Nat.mul_le_mul_right _ h3)
  let T : Taker := {
    J := fun n M h => M nx ∧ M (nx + 1) ∧ M (nx + 5) ∧ look nx h = some (.box (flSt s)) ∧ look (nx + 5) h = some (.loop R) ∧
      ∃ v, look (nx + 1) h = some (.box [v]) ∧ RowsAt 4 (fun a => M a ∧ nx + 5 < a) h ((((s.way scope).take n).flatMap (fun id => (s.own id).map CellM.set)).map flSet) v
    JX := fun _ _ _ => False
    stJ := by
      rintro n M h h' ⟨m1, m2, m3, m4, m5, v, m6, m7⟩ hs
      exact ⟨m1, m2, m3, by rw [hs _ m1]; exact m4, by rw [hs _ m3]; exact m5, v, by rw [hs _ m2]; exact m6, m7.mono (fun _ h => h) fun k hk => hs k hk.1⟩
    stX := by
      intro n M h h' hf
      exact hf.elim }
  refine way1 (s := s) (scope := scope) (by omega) T (M := fun k => k = nx ∨ k = nx + 1 ∨ k = nx + 5) (by rintro k (rfl | rfl | rfl) <;> omega) ?_ ?_ (by omega) (by omega) (by omega) (by omega) ?_ ?_ ?_
  · simp -implicitDefEqProofs (disch := omega) only [natNe, wk, indexAddrA, lenA, Nat.reduceAdd, Nat.reduceLeDiff, Nat.reduceEqDiff, if_true, if_false, reduceIte, reduceCtorEq, exists_eq_left', implies_true, forall_const, Int.reduceLT, Int.reduceLE, Int.reduceEq, Int.reduceNeg, bindT, Nat.reduceMul, tis]
  · simp -implicitDefEqProofs (disch := omega) only [natNe, wk, indexAddrA, lenA, Nat.reduceAdd, Nat.reduceLeDiff, Nat.reduceEqDiff, if_true, if_false, reduceIte, reduceCtorEq, exists_eq_left', implies_true, forall_const, Int.reduceLT, Int.reduceLE, Int.reduceEq, Int.reduceNeg, bindT, Nat.reduceMul, tis]
  · refine ⟨.inl rfl, .inr (.inl rfl), .inr (.inr rfl), ?_, ?_, .emp, ?_, .inl ⟨rfl, rfl⟩⟩
    · simp -implicitDefEqProofs (disch := omega) only [natNe, wk, indexAddrA, lenA, Nat.reduceAdd, Nat.reduceLeDiff, Nat.reduceEqDiff, if_true, if_false, reduceIte, reduceCtorEq, exists_eq_left', implies_true, forall_const, Int.reduceLT, Int.reduceLE, Int.reduceEq, Int.reduceNeg, bindT, Nat.reduceMul, tis, flSt]
    · simp -implicitDefEqProofs (disch := omega) only [natNe, wk, indexAddrA, lenA, Nat.reduceAdd, Nat.reduceLeDiff, Nat.reduceEqDiff, if_true, if_false, reduceIte, reduceCtorEq, exists_eq_left', implies_true, forall_const, Int.reduceLT, Int.reduceLE, Int.reduceEq, Int.reduceNeg, bindT, Nat.reduceMul, tis]
    · simp -implicitDefEqProofs (disch := omega) only [natNe, wk, indexAddrA, lenA, Nat.reduceAdd, Nat.reduceLeDiff, Nat.reduceEqDiff, if_true, if_false, reduceIte, reduceCtorEq, exists_eq_left', implies_true, forall_const, Int.reduceLT, Int.reduceLE, Int.reduceEq, Int.reduceNeg, bindT, Nat.reduceMul, tis]
  · rintro n x M h' nx' hx ⟨m1, m2, m3, m4, m5, v, m6, m7⟩ hM K' hK'
    simp only [List.getElem?_map, Option.map_eq_some_iff] at hx
    obtain ⟨id, hid, rfl⟩ := hx
    have q1 := hM _ m1
    have q2 := hM _ m2
    have q3 := hM _ m3
    refine ACallV.yield mixed m5 (by simp [r4]) (by rw [← hR]; kernel_rfl) ?_
    simp -implicitDefEqProofs (disch := omega) only [natNe, wk, indexAddrA, lenA, Nat.reduceAdd, Nat.reduceLeDiff, Nat.reduceEqDiff, if_true, if_false, reduceIte, reduceCtorEq, exists_eq_left', implies_true, forall_const, Int.reduceLT, Int.reduceLE, Int.reduceEq, Int.reduceNeg, bindT, Nat.reduceMul, tis, ra, rb, r1, r2, r3, r4, r5, r6, m4, m5, m6, flSt]
    refine callX_fn (vcells (s := s) hcl ?_)
    simp -implicitDefEqProofs (disch := omega) only [natNe, wk, indexAddrA, lenA, Nat.reduceAdd, Nat.reduceLeDiff, Nat.reduceEqDiff, if_true, if_false, reduceIte, reduceCtorEq, exists_eq_left', implies_true, forall_const, Int.reduceLT, Int.reduceLE, Int.reduceEq, Int.reduceNeg, bindT, Nat.reduceMul, tis, List.length_map]
    refine loopX_ind (fun m σ => ∃ T H NX i v, σ = ⟨T, H, NX, []⟩ ∧ nx' ≤ NX ∧ (∀ k, k < nx' → ¬ M k → look k H = look k h') ∧ look nx H = some (.box (flSt s)) ∧ look (nx + 5) H = some (.loop { R with st := .busy }) ∧
        look 5 T = some (.ptr (nx + 1) 0) ∧ look 15 T = some (.lst 5 ((s.own id).map flCell)) ∧ look 16 T = some (.sc (.int .i64 (s.own id).length)) ∧ look 17 T = some (.sc (.int .i64 (i : Nat))) ∧ m + i = (s.own id).length ∧
        look (nx + 1) H = some (.box [v]) ∧ RowsAt 4 (fun a => (M a ∨ (nx' ≤ a ∧ a < NX)) ∧ nx + 5 < a) H (((((s.way scope).take n).flatMap (fun id => (s.own id).map CellM.set)) ++ ((s.own id).take i).map CellM.set).map flSet) v)
      (s.own id).length ⟨_, _, _, 0, v, rfl, Nat.le_refl _, ?_, ?_, ?_, ?_, rfl, rfl, rfl, rfl, ?_, ?_⟩ ?_
    · intro k hk hkM
      have a1 : k ≠ nx + 5 := fun e => hkM (e ▸ m3)
      simp -implicitDefEqProofs (disch := omega) only [natNe, wk, indexAddrA, lenA, Nat.reduceAdd, Nat.reduceLeDiff, Nat.reduceEqDiff, if_true, if_false, reduceIte, reduceCtorEq, exists_eq_left', implies_true, forall_const, Int.reduceLT, Int.reduceLE, Int.reduceEq, Int.reduceNeg, bindT, Nat.reduceMul, tis]
    · simp -implicitDefEqProofs (disch := omega) only [natNe, wk, indexAddrA, lenA, Nat.reduceAdd, Nat.reduceLeDiff, Nat.reduceEqDiff, if_true, if_false, reduceIte, reduceCtorEq, exists_eq_left', implies_true, forall_const, Int.reduceLT, Int.reduceLE, Int.reduceEq, Int.reduceNeg, bindT, Nat.reduceMul, tis, m4, flSt]
    · simp -implicitDefEqProofs (disch := omega) only [natNe, wk, indexAddrA, lenA, Nat.reduceAdd, Nat.reduceLeDiff, Nat.reduceEqDiff, if_true, if_false, reduceIte, reduceCtorEq, exists_eq_left', implies_true, forall_const, Int.reduceLT, Int.reduceLE, Int.reduceEq, Int.reduceNeg, bindT, Nat.reduceMul, tis, m5]
      rw [← hR]
      rfl
    · simp -implicitDefEqProofs (disch := omega) only [natNe, wk, indexAddrA, lenA, Nat.reduceAdd, Nat.reduceLeDiff, Nat.reduceEqDiff, if_true, if_false, reduceIte, reduceCtorEq, exists_eq_left', implies_true, forall_const, Int.reduceLT, Int.reduceLE, Int.reduceEq, Int.reduceNeg, bindT, Nat.reduceMul, tis, r6]
    · simp -implicitDefEqProofs (disch := omega) only [natNe, wk, indexAddrA, lenA, Nat.reduceAdd, Nat.reduceLeDiff, Nat.reduceEqDiff, if_true, if_false, reduceIte, reduceCtorEq, exists_eq_left', implies_true, forall_const, Int.reduceLT, Int.reduceLE, Int.reduceEq, Int.reduceNeg, bindT, Nat.reduceMul, tis, m6]
    · rw [List.take_zero, List.map_nil, List.append_nil]
      refine m7.mono (fun k hk => ⟨.inl hk.1, hk.2⟩) fun k hk => ?_
      have a1 : k ≠ nx + 5 := by omega
      simp -implicitDefEqProofs (disch := omega) only [natNe, wk, indexAddrA, lenA, Nat.reduceAdd, Nat.reduceLeDiff, Nat.reduceEqDiff, if_true, if_false, reduceIte, reduceCtorEq, exists_eq_left', implies_true, forall_const, Int.reduceLT, Int.reduceLE, Int.reduceEq, Int.reduceNeg, bindT, Nat.reduceMul, tis]
    rintro m σ' ⟨T, H, NX, i, v, rfl, hNX, hov, m4, m5, t5, t15, t16, t17, hm, m6, m7⟩
    simp -implicitDefEqProofs (disch := omega) only [natNe, wk, indexAddrA, lenA, Nat.reduceAdd, Nat.reduceLeDiff, Nat.reduceEqDiff, if_true, if_false, reduceIte, reduceCtorEq, exists_eq_left', implies_true, forall_const, Int.reduceLT, Int.reduceLE, Int.reduceEq, Int.reduceNeg, bindT, Nat.reduceMul, tis, t5, t15, t16, t17]
    refine ⟨fun hi => ?_, fun hi => ?_⟩
    · obtain ⟨c, hc⟩ : ∃ c, (s.own id)[i]? = some c := ⟨(s.own id)[i], List.getElem?_eq_getElem hi⟩
      have hc' : ((s.own id).map flCell)[i]? = some (flCell c) := by simp [hc]
      have htk : (((((s.way scope).take n).flatMap (fun id => (s.own id).map CellM.set)) ++ ((s.own id).take (i + 1)).map CellM.set).map flSet) = (((((s.way scope).take n).flatMap (fun id => (s.own id).map CellM.set)) ++ ((s.own id).take i).map CellM.set).map flSet) ++ [flSet c.set] := by
        rw [List.take_add_one, hc]; simp
      generalize hLe : (((((s.way scope).take n).flatMap (fun id => (s.own id).map CellM.set)) ++ ((s.own id).take i).map CellM.set).map flSet) = L at m7 htk
      have hb := hbig n
      have ho := own_le s id
      have hL : L.length ≤ 900001 * 900000 + 900000 := by
        rw [← hLe, List.length_map, List.length_append, List.length_map, List.length_take]
        omega
      rcases m7 with ⟨rfl, rfl⟩ | ⟨a, g, rfl, ha, m7⟩
      · simp -implicitDefEqProofs (disch := omega) only [natNe, wk, indexAddrA, lenA, Nat.reduceAdd, Nat.reduceLeDiff, Nat.reduceEqDiff, if_true, if_false, reduceIte, reduceCtorEq, exists_eq_left', implies_true, forall_const, Int.reduceLT, Int.reduceLE, Int.reduceEq, Int.reduceNeg, bindT, Nat.reduceMul, tis, hc', flCell, t5, t15, t16, t17, m6]
        refine ⟨m - 1, by omega, _, _, _, i + 1, .own (NX + 2) 0 0, rfl, by omega, ?_, ?_, ?_, ?_, ?_, ?_, ?_, by omega, ?_, .inr ⟨NX + 2, 0, rfl, ⟨.inr ⟨by omega, by omega⟩, by omega⟩, ?_⟩⟩
        · intro k hk hkM
          have := hov k hk hkM
          have a2 : k ≠ nx + 1 := fun e => hkM (e ▸ m2)
          simp -implicitDefEqProofs (disch := omega) only [natNe, wk, indexAddrA, lenA, Nat.reduceAdd, Nat.reduceLeDiff, Nat.reduceEqDiff, if_true, if_false, reduceIte, reduceCtorEq, exists_eq_left', implies_true, forall_const, Int.reduceLT, Int.reduceLE, Int.reduceEq, Int.reduceNeg, bindT, Nat.reduceMul, tis, this]
        · simp -implicitDefEqProofs (disch := omega) only [natNe, wk, indexAddrA, lenA, Nat.reduceAdd, Nat.reduceLeDiff, Nat.reduceEqDiff, if_true, if_false, reduceIte, reduceCtorEq, exists_eq_left', implies_true, forall_const, Int.reduceLT, Int.reduceLE, Int.reduceEq, Int.reduceNeg, bindT, Nat.reduceMul, tis, m4]
        · simp -implicitDefEqProofs (disch := omega) only [natNe, wk, indexAddrA, lenA, Nat.reduceAdd, Nat.reduceLeDiff, Nat.reduceEqDiff, if_true, if_false, reduceIte, reduceCtorEq, exists_eq_left', implies_true, forall_const, Int.reduceLT, Int.reduceLE, Int.reduceEq, Int.reduceNeg, bindT, Nat.reduceMul, tis, m5]
        · simp -implicitDefEqProofs (disch := omega) only [natNe, wk, indexAddrA, lenA, Nat.reduceAdd, Nat.reduceLeDiff, Nat.reduceEqDiff, if_true, if_false, reduceIte, reduceCtorEq, exists_eq_left', implies_true, forall_const, Int.reduceLT, Int.reduceLE, Int.reduceEq, Int.reduceNeg, bindT, Nat.reduceMul, tis, t5]
        · simp -implicitDefEqProofs (disch := omega) only [natNe, wk, indexAddrA, lenA, Nat.reduceAdd, Nat.reduceLeDiff, Nat.reduceEqDiff, if_true, if_false, reduceIte, reduceCtorEq, exists_eq_left', implies_true, forall_const, Int.reduceLT, Int.reduceLE, Int.reduceEq, Int.reduceNeg, bindT, Nat.reduceMul, tis, t15]
        · simp -implicitDefEqProofs (disch := omega) only [natNe, wk, indexAddrA, lenA, Nat.reduceAdd, Nat.reduceLeDiff, Nat.reduceEqDiff, if_true, if_false, reduceIte, reduceCtorEq, exists_eq_left', implies_true, forall_const, Int.reduceLT, Int.reduceLE, Int.reduceEq, Int.reduceNeg, bindT, Nat.reduceMul, tis, t16]
        · simp -implicitDefEqProofs (disch := omega) only [natNe, wk, indexAddrA, lenA, Nat.reduceAdd, Nat.reduceLeDiff, Nat.reduceEqDiff, if_true, if_false, reduceIte, reduceCtorEq, exists_eq_left', implies_true, forall_const, Int.reduceLT, Int.reduceLE, Int.reduceEq, Int.reduceNeg, bindT, Nat.reduceMul, tis]
          rw [wrap_i64 (by omega) (by omega)]
          rfl
        · simp -implicitDefEqProofs (disch := omega) only [natNe, wk, indexAddrA, lenA, Nat.reduceAdd, Nat.reduceLeDiff, Nat.reduceEqDiff, if_true, if_false, reduceIte, reduceCtorEq, exists_eq_left', implies_true, forall_const, Int.reduceLT, Int.reduceLE, Int.reduceEq, Int.reduceNeg, bindT, Nat.reduceMul, tis, m6]
        · rw [htk]
          simp -implicitDefEqProofs (disch := omega) only [natNe, wk, indexAddrA, lenA, Nat.reduceAdd, Nat.reduceLeDiff, Nat.reduceEqDiff, if_true, if_false, reduceIte, reduceCtorEq, exists_eq_left', implies_true, forall_const, Int.reduceLT, Int.reduceLE, Int.reduceEq, Int.reduceNeg, bindT, Nat.reduceMul, tis, flSet, CellM.set]
      · have q4 : a < NX := by
          rcases ha.1 with h1 | h1
          · have := hM _ h1; omega
          · exact h1.2
        have q5 := ha.2
        simp -implicitDefEqProofs (disch := omega) only [natNe, wk, indexAddrA, lenA, Nat.reduceAdd, Nat.reduceLeDiff, Nat.reduceEqDiff, if_true, if_false, reduceIte, reduceCtorEq, exists_eq_left', implies_true, forall_const, Int.reduceLT, Int.reduceLE, Int.reduceEq, Int.reduceNeg, bindT, Nat.reduceMul, tis, hc', flCell, t5, t15, t16, t17, m6, m7]
        refine ⟨⟨by omega, by omega⟩, m - 1, by omega, _, _, _, i + 1, .own a (g + 1) 0, rfl, by omega, ?_, ?_, ?_, ?_, ?_, ?_, ?_, by omega, ?_, .inr ⟨a, g + 1, rfl, ⟨ha.1.imp (fun h => h) (fun h => ⟨h.1, by omega⟩), by omega⟩, ?_⟩⟩
        · intro k hk hkM
          have := hov k hk hkM
          have a2 : k ≠ nx + 1 := fun e => hkM (e ▸ m2)
          have a3 : k ≠ a := fun e => by
            rcases ha.1 with h1 | h1
            · exact hkM (e ▸ h1)
            · omega
          simp -implicitDefEqProofs (disch := omega) only [natNe, wk, indexAddrA, lenA, Nat.reduceAdd, Nat.reduceLeDiff, Nat.reduceEqDiff, if_true, if_false, reduceIte, reduceCtorEq, exists_eq_left', implies_true, forall_const, Int.reduceLT, Int.reduceLE, Int.reduceEq, Int.reduceNeg, bindT, Nat.reduceMul, tis, this]
        · simp -implicitDefEqProofs (disch := omega) only [natNe, wk, indexAddrA, lenA, Nat.reduceAdd, Nat.reduceLeDiff, Nat.reduceEqDiff, if_true, if_false, reduceIte, reduceCtorEq, exists_eq_left', implies_true, forall_const, Int.reduceLT, Int.reduceLE, Int.reduceEq, Int.reduceNeg, bindT, Nat.reduceMul, tis, m4]
        · simp -implicitDefEqProofs (disch := omega) only [natNe, wk, indexAddrA, lenA, Nat.reduceAdd, Nat.reduceLeDiff, Nat.reduceEqDiff, if_true, if_false, reduceIte, reduceCtorEq, exists_eq_left', implies_true, forall_const, Int.reduceLT, Int.reduceLE, Int.reduceEq, Int.reduceNeg, bindT, Nat.reduceMul, tis, m5]
        · simp -implicitDefEqProofs (disch := omega) only [natNe, wk, indexAddrA, lenA, Nat.reduceAdd, Nat.reduceLeDiff, Nat.reduceEqDiff, if_true, if_false, reduceIte, reduceCtorEq, exists_eq_left', implies_true, forall_const, Int.reduceLT, Int.reduceLE, Int.reduceEq, Int.reduceNeg, bindT, Nat.reduceMul, tis, t5]
        · simp -implicitDefEqProofs (disch := omega) only [natNe, wk, indexAddrA, lenA, Nat.reduceAdd, Nat.reduceLeDiff, Nat.reduceEqDiff, if_true, if_false, reduceIte, reduceCtorEq, exists_eq_left', implies_true, forall_const, Int.reduceLT, Int.reduceLE, Int.reduceEq, Int.reduceNeg, bindT, Nat.reduceMul, tis, t15]
        · simp -implicitDefEqProofs (disch := omega) only [natNe, wk, indexAddrA, lenA, Nat.reduceAdd, Nat.reduceLeDiff, Nat.reduceEqDiff, if_true, if_false, reduceIte, reduceCtorEq, exists_eq_left', implies_true, forall_const, Int.reduceLT, Int.reduceLE, Int.reduceEq, Int.reduceNeg, bindT, Nat.reduceMul, tis, t16]
        · simp -implicitDefEqProofs (disch := omega) only [natNe, wk, indexAddrA, lenA, Nat.reduceAdd, Nat.reduceLeDiff, Nat.reduceEqDiff, if_true, if_false, reduceIte, reduceCtorEq, exists_eq_left', implies_true, forall_const, Int.reduceLT, Int.reduceLE, Int.reduceEq, Int.reduceNeg, bindT, Nat.reduceMul, tis]
          rw [wrap_i64 (by omega) (by omega)]
          rfl
        · simp -implicitDefEqProofs (disch := omega) only [natNe, wk, indexAddrA, lenA, Nat.reduceAdd, Nat.reduceLeDiff, Nat.reduceEqDiff, if_true, if_false, reduceIte, reduceCtorEq, exists_eq_left', implies_true, forall_const, Int.reduceLT, Int.reduceLE, Int.reduceEq, Int.reduceNeg, bindT, Nat.reduceMul, tis, m6]
        · rw [htk]
          simp -implicitDefEqProofs (disch := omega) only [natNe, wk, indexAddrA, lenA, Nat.reduceAdd, Nat.reduceLeDiff, Nat.reduceEqDiff, if_true, if_false, reduceIte, reduceCtorEq, exists_eq_left', implies_true, forall_const, Int.reduceLT, Int.reduceLE, Int.reduceEq, Int.reduceNeg, bindT, Nat.reduceMul, tis, m7, flSet, CellM.set]
    · have hall : (s.own id).take i = s.own id := List.take_of_length_le (by omega)
      rw [hall, ← env_take hid] at m7
      simp -implicitDefEqProofs (disch := omega) only [natNe, wk, indexAddrA, lenA, Nat.reduceAdd, Nat.reduceLeDiff, Nat.reduceEqDiff, if_true, if_false, reduceIte, reduceCtorEq, exists_eq_left', implies_true, forall_const, Int.reduceLT, Int.reduceLE, Int.reduceEq, Int.reduceNeg, bindT, Nat.reduceMul, tis, m5, t5]
      refine hK' true _ _ (fun k => M k ∨ (nx' ≤ k ∧ k < NX)) (by omega) (fun k hk => hk) (fun k hk hkM => ?_) (fun _ => ⟨.inl m1, .inl m2, .inl m3, ?_, ?_, v, ?_, ?_⟩) (fun h => by cases h)
      · have a1 : k ≠ nx + 5 := fun e => hkM (e ▸ m3)
        have := hov k hk hkM
        simp -implicitDefEqProofs (disch := omega) only [natNe, wk, indexAddrA, lenA, Nat.reduceAdd, Nat.reduceLeDiff, Nat.reduceEqDiff, if_true, if_false, reduceIte, reduceCtorEq, exists_eq_left', implies_true, forall_const, Int.reduceLT, Int.reduceLE, Int.reduceEq, Int.reduceNeg, bindT, Nat.reduceMul, tis, this]
      · simp -implicitDefEqProofs (disch := omega) only [natNe, wk, indexAddrA, lenA, Nat.reduceAdd, Nat.reduceLeDiff, Nat.reduceEqDiff, if_true, if_false, reduceIte, reduceCtorEq, exists_eq_left', implies_true, forall_const, Int.reduceLT, Int.reduceLE, Int.reduceEq, Int.reduceNeg, bindT, Nat.reduceMul, tis, m4]
      · simp -implicitDefEqProofs (disch := omega) only [natNe, wk, indexAddrA, lenA, Nat.reduceAdd, Nat.reduceLeDiff, Nat.reduceEqDiff, if_true, if_false, reduceIte, reduceCtorEq, exists_eq_left', implies_true, forall_const, Int.reduceLT, Int.reduceLE, Int.reduceEq, Int.reduceNeg, bindT, Nat.reduceMul, tis, m5]
        rw [← hR]
        rfl
      · simp -implicitDefEqProofs (disch := omega) only [natNe, wk, indexAddrA, lenA, Nat.reduceAdd, Nat.reduceLeDiff, Nat.reduceEqDiff, if_true, if_false, reduceIte, reduceCtorEq, exists_eq_left', implies_true, forall_const, Int.reduceLT, Int.reduceLE, Int.reduceEq, Int.reduceNeg, bindT, Nat.reduceMul, tis, m6]
      · refine m7.mono (fun _ h => h) fun k hk => ?_
        have a1 : k ≠ nx + 5 := by omega
        simp -implicitDefEqProofs (disch := omega) only [natNe, wk, indexAddrA, lenA, Nat.reduceAdd, Nat.reduceLeDiff, Nat.reduceEqDiff, if_true, if_false, reduceIte, reduceCtorEq, exists_eq_left', implies_true, forall_const, Int.reduceLT, Int.reduceLE, Int.reduceEq, Int.reduceNeg, bindT, Nat.reduceMul, tis]
  · intro n h' nx' M' hle hM' hkp hcase
    rcases hcase with ⟨hn, m1, m2, m3, m4, m5, v, m6, m7⟩ | ⟨_, hf⟩
    · have hmk : look (nx + 4) h' = some .dfr := by
        rw [hkp (nx + 4) (by omega) (by omega)]
        simp -implicitDefEqProofs (disch := omega) only [natNe, wk, indexAddrA, lenA, Nat.reduceAdd, Nat.reduceLeDiff, Nat.reduceEqDiff, if_true, if_false, reduceIte, reduceCtorEq, exists_eq_left', implies_true, forall_const, Int.reduceLT, Int.reduceLE, Int.reduceEq, Int.reduceNeg, bindT, Nat.reduceMul, tis]
      have hov : ∀ (o1 : AObj) (k : Nat), k < nx → look k (upd (nx + 5) o1 h') = look k h := fun o1 k hk => by
        have a3 := hkp k (by omega) (by omega)
        simp -implicitDefEqProofs (disch := omega) only [natNe, wk, indexAddrA, lenA, Nat.reduceAdd, Nat.reduceLeDiff, Nat.reduceEqDiff, if_true, if_false, reduceIte, reduceCtorEq, exists_eq_left', implies_true, forall_const, Int.reduceLT, Int.reduceLE, Int.reduceEq, Int.reduceNeg, bindT, Nat.reduceMul, tis, a3]
      rw [hn, List.length_map, List.take_length] at m7
      refine ⟨R, m5, by rw [r1]; simp, ?_⟩
      rw [r2]
      simp only
      simp -implicitDefEqProofs (disch := omega) only [natNe, wk, indexAddrA, lenA, Nat.reduceAdd, Nat.reduceLeDiff, Nat.reduceEqDiff, if_true, if_false, reduceIte, reduceCtorEq, exists_eq_left', implies_true, forall_const, Int.reduceLT, Int.reduceLE, Int.reduceEq, Int.reduceNeg, bindT, Nat.reduceMul, tis, m5, m6, hmk, r1, r2]
      unfold StM.env at hk
      rcases m7 with ⟨hnil, rfl⟩ | ⟨a, g, rfl, ha, m7⟩
      · rw [hnil] at hk
        exact .pure _ (over_del (by omega) (hov _)) (.emp 4) hk
      · have q5 := ha.2
        refine .pure _ (over_del (by omega) (hov _)) (.own (by omega) (by simp -implicitDefEqProofs (disch := omega) only [natNe, wk, indexAddrA, lenA, Nat.reduceAdd, Nat.reduceLeDiff, Nat.reduceEqDiff, if_true, if_false, reduceIte, reduceCtorEq, exists_eq_left', implies_true, forall_const, Int.reduceLT, Int.reduceLE, Int.reduceEq, Int.reduceNeg, bindT, Nat.reduceMul, tis, m7]) (fun cs hcs c hc => ?_) rfl) hk
        obtain ⟨d, _, rfl⟩ := List.mem_map.1 hcs
        simp [flSet] at hc
        rcases hc with rfl | rfl | rfl | rfl <;> rfl
    · exact hf.elim
end Go.Abs.Try
