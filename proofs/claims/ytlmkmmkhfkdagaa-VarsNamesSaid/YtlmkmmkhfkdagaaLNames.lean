/- Contract: the law VarsNames. -/
import Derived.Test.YtlmkmmkhfkdagaaWorks
import Derived.Test.YtlmkmmkhfkdagaaNamesM
import Derived.Test.YtlmkmmkhfkdagaaDrop
import Derived.Test.YtlmkmmkhfkdagaaSame2
import Derived.Test.YtlmkmmkhfkdagaaWayO
set_option linter.unusedVariables false
set_option linter.unusedSimpArgs false
set_option maxHeartbeats 400000000
set_option maxRecDepth 8000
namespace Go.Abs.Try
open Go Go.Abs Go.Proofs

theorem look_new {n : Nat} {o : AObj} {h : Heap} : look n (hc n o h) = some o := by simp [look_hc]

theorem fzSt {p : Nat → Prop} {H : Heap} {s : StM} (hd : s.defs.noRef = true) (hw : s.watches.noRef = true) : Fz p H (.agg (flSt s)) (.agg (flSt s)) :=
  .agg' (.cons (.same rfl) (.cons (.same rfl) (.cons (.same hd) (.cons (.same rfl) (.cons (.same rfl) (.cons (.same hw) (.nil _ _)))))))

theorem towerA {h : Heap} {nx : Nat} {K : AV → Heap → Nat → Prop} (hk : K (.agg (flSt towerN)) h nx) : ACall Try.prog 21 [] h nx K := by
  refine ACall.of_body (c := Try.f21.body.getD .skip) mixed Try.func21 rfl (by kernel_rfl) (by rw [Try.ntmps21]; simp) (by kernel_rfl) ?_
  simp -implicitDefEqProofs only [Try.f21, Option.getD_some, Array.toList]
  simp -implicitDefEqProofs (disch := omega) only [natNe, wk, indexAddrA, lenA, Nat.reduceAdd, Nat.reduceLeDiff, Nat.reduceEqDiff, if_true, if_false, reduceIte, reduceCtorEq, exists_eq_left', implies_true, forall_const, Int.reduceLT, Int.reduceLE, Int.reduceEq, Int.reduceNeg, bindT, Nat.reduceMul, tis]
  refine .pure _ ?_ (.agg' (.cons (.same rfl) (.cons (.same rfl) (.cons (.emp 4) (.cons (.own (L := towerItems.map flItem) (by omega) (by simp -implicitDefEqProofs (disch := omega) only [natNe, wk, indexAddrA, lenA, Nat.reduceAdd, Nat.reduceLeDiff, Nat.reduceEqDiff, if_true, if_false, reduceIte, reduceCtorEq, exists_eq_left', implies_true, forall_const, Int.reduceLT, Int.reduceLE, Int.reduceEq, Int.reduceNeg, bindT, Nat.reduceMul, tis, towerItems, flItem]) (flItem_noRef _) rfl) (.cons (.emp 5) (.cons (.emp 7) (.nil _ _)))))))) hk
  repeat (first | exact over_refl | refine over_hc (by omega) ?_ | refine over_upd (by omega) ?_ | refine over_del (by omega) ?_)

theorem towerO {h : Heap} {nx : Nat} {K : AV → Heap → Nat → Prop} (hk : ∀ H NX ia, nx ≤ ia → ia < NX → (∀ k, k < nx → look k H = look k h) → look ia H = some (.arr 0 8 (towerItems.map flItem)) → K (.agg (flO ia)) H NX) : ACall Try.prog 21 [] h nx K := by
  refine ACall.of_body (c := Try.f21.body.getD .skip) mixed Try.func21 rfl (by kernel_rfl) (by rw [Try.ntmps21]; simp) (by kernel_rfl) ?_
  simp -implicitDefEqProofs only [Try.f21, Option.getD_some, Array.toList]
  simp -implicitDefEqProofs (disch := omega) only [natNe, wk, indexAddrA, lenA, Nat.reduceAdd, Nat.reduceLeDiff, Nat.reduceEqDiff, if_true, if_false, reduceIte, reduceCtorEq, exists_eq_left', implies_true, forall_const, Int.reduceLT, Int.reduceLE, Int.reduceEq, Int.reduceNeg, bindT, Nat.reduceMul, tis]
  refine .keep (hk _ _ (nx + 1) (by omega) (by omega) ?_ ?_)
  · repeat (first | exact over_refl | refine over_hc (by omega) ?_ | refine over_upd (by omega) ?_ | refine over_del (by omega) ?_)
  · simp -implicitDefEqProofs (disch := omega) only [natNe, wk, indexAddrA, lenA, Nat.reduceAdd, Nat.reduceLeDiff, Nat.reduceEqDiff, if_true, if_false, reduceIte, reduceCtorEq, exists_eq_left', implies_true, forall_const, Int.reduceLT, Int.reduceLE, Int.reduceEq, Int.reduceNeg, bindT, Nat.reduceMul, tis, towerItems, flItem]

theorem vopenA {h : Heap} {nx : Nat} {K : AV → Heap → Nat → Prop} {s t : StM} {scope : Int} {vs : List VarM} (ht : s.open_ scope vs = t) (hlen : (s.pre scope vs).length ≤ 20) (hcl : s.cells.length ≤ 400000) (hvl : vs.length ≤ 400000) (hd : s.defs.noRef = true) (hw : s.watches.noRef = true)
    (hk : K (.agg (flSt t)) h nx) : ACall Try.prog 11 [.agg (flSt s), .sc (.int .i64 scope), .lst 4 (vs.map flVar)] h nx K :=
  vopenS hlen hcl hvl hd hw (by rw [ht]; exact hk)

theorem vputA {h : Heap} {nx : Nat} {K : AV → Heap → Nat → Prop} {s t : StM} {scope e : Int} {sets : List SetM} (ht : (s.put scope sets).1 = t) (he : (s.put scope sets).2 = e) (hil : s.items.length ≤ 400000) (hcl : s.cells.length ≤ 400000) (hvl : sets.length ≤ 400000) (hd : s.defs.noRef = true) (hw : s.watches.noRef = true)
    (hts : ∀ x ∈ sets, x.v.t.size ≤ 9223372036854775807) (hk : K (.tup [.agg (flSt t), .sc (.int .i64 e)]) h nx) : ACall Try.prog 16 [.agg (flSt s), .sc (.int .i64 scope), .lst 4 (sets.map flSet)] h nx K :=
  vput hil hcl hvl hd hw hts (by rw [ht, he]; exact hk)

theorem flSt_all {t : StM} (h1 : t.defs.noRef = true) (h2 : t.watches.noRef = true) : (flSt t).all AV.noRef = true := by
  simp only [flSt, List.all_cons, h1, h2]
  rfl
theorem flSt_refs {t : StM} {e : Int} (h1 : t.defs.noRef = true) (h2 : t.watches.noRef = true) : Refs (fun _ => False) (.tup [.agg (flSt t), .sc (.int .i64 e)]) :=
  .tup fun c hc => by
    simp only [List.mem_cons, List.not_mem_nil, or_false] at hc
    rcases hc with rfl | rfl
    · exact .aggF (flSt_all h1 h2)
    · exact .noRef rfl

def guardF (v : AV) (want : Bool) (C : Ctx) (al : Array Oper) (id : Nat) (o : Oper) (σ : AS) (X : AS → Prop) : Prop := (∃ b, v = .sc (.bool b) ∧ ((b == want) = false → X (σ.put o.dst (.sc undef))) ∧ ((b == want) = true → doD true C al id o σ X)) ∨ (v = .sc undef ∧ X (σ.put o.dst (.sc undef)))
theorem guardF_true {C : Ctx} {al : Array Oper} {id : Nat} {o : Oper} {σ : AS} {X : AS → Prop} : guardF (.sc (.bool true)) true C al id o σ X = doD true C al id o σ X := by simp [guardF, undef]
theorem doD_gfrz {C : Ctx} {al : Array Oper} {id : Nat} {d : Option Tmp} {t : TypeId} {k : Nat} {ps : Array (Nat × Operand)} {ty : TypeId} {pos : String} {aft : Array Edge} {j : Nat} {want : Bool} {σ : AS} {X : AS → Prop} :
    doD true C al id ⟨d, .buildSlice t k ps, ty, pos, aft, some (j, want)⟩ σ X = guardF (gv al σ j) want C al id ⟨d, .buildSlice t k ps, ty, pos, aft, none⟩ σ X := by
  unfold guardF doD
  simp only [eq_iff_iff]
  constructor
  · rintro ⟨t, ⟨b, h1, rfl⟩ | ⟨h1, rfl⟩, h2, h3⟩
    · exact .inl ⟨b, h1, h2, fun hb => ⟨true, rfl, fun h => (by cases h), fun _ => h3 hb⟩⟩
    · exact .inr ⟨h1, h2 rfl⟩
  · rintro (⟨b, h1, h2, h3⟩ | ⟨h1, h2⟩)
    · refine ⟨b == want, .inl ⟨b, h1, rfl⟩, h2, fun hb => ?_⟩
      obtain ⟨t, rfl, _, h4⟩ := h3 hb
      exact h4 rfl
    · exact ⟨false, .inr ⟨h1, rfl⟩, fun _ => h2, fun h => (by cases h)⟩

theorem callD_wayO {nt : Nat} {rid : Option Nat} {T : Tab AV} {H : Heap} {n : Nat} {m : List Nat} {d : Option Tmp} {X : AS → Prop} {ia : Nat} (hl : look ia H = some (.arr 0 8 (ringItems.map flItem)))
    (hx : X (AS.put ⟨T, H, n, m⟩ d (.lst 1 ([3, 1, 6].map fun k => [.sc (.int .i64 k)])))) : callD ⟨Try.prog, nt, rid⟩ (.fn (.func 12) []) [.agg (flO ia), .sc (.int .i64 3)] d ⟨T, H, n, m⟩ X := by
  have hr : ∀ A : Nat → Prop, Refs A (.agg (flO ia)) → A ia := fun A hA => by
    cases hA with
    | noRef h => cases h
    | agg h => exact (h (.own ia 0 0) (by simp [flO])).top rfl
  refine ⟨_, ⟨.noRef rfl, fun h' nx' K' hs hk => ACallV.given (k := ia) ⟨_, List.mem_cons_self, hr⟩ fun hlt => .of_fn0 (wayAllO (items := ringItems) (s := ringM) rfl (by simp [ringM, ringItems]) ?_ hlt (by rw [ring_way]; exact hk))⟩, hx⟩
  rw [hs ia (.inr ⟨_, List.mem_cons_self, fun A hA _ => hr A hA⟩)]
  exact hl

theorem lawNames {h : Heap} {nx : Nat} {K : AV → Heap → Nat → Prop} (hk : K (.sc (.bool true)) h nx) :
    ACall Try.prog 8 [] h nx K := by
  have i1 : n1.items.length ≤ 400000 := by rw [show n1.items = towerItems from rfl]; simp [towerItems]
  have i2 : n2.items.length ≤ 400000 := by rw [n2_items]; simp [towerItems]
  have i3 : n3.items.length ≤ 400000 := by rw [n3_items]; simp [towerItems]
  have i4 : n4.items.length ≤ 400000 := by rw [n4_items]; simp [towerItems]
  have i5 : n5.items.length ≤ 400000 := by rw [n5_items]; simp [towerItems]
  have c1 : n1.cells.length ≤ 400000 := by rw [n1_len]; omega
  have c2 : n2.cells.length ≤ 400000 := by rw [n2_len]; omega
  have c3 : n3.cells.length ≤ 400000 := by rw [n3_len]; omega
  have c4 : n4.cells.length ≤ 400000 := by rw [n4_len]; omega
  have c5 : n5.cells.length ≤ 400000 := by rw [n5_len]; omega
  have l2 : ((n2.cells.length : Nat) : Int) = 3 := by rw [n2_len]; rfl
  have l4 : ((n4.cells.length : Nat) : Int) = 2 := by rw [n4_len]; rfl
  have le : (((n2.env 6).length : Nat) : Int) = 3 := by rw [n2_env]; rfl
  have lo : (((n2.own 1).length : Nat) : Int) = 2 := by rw [n2_own]; rfl
  have z2 : 0 < n2.cells.length := by rw [n2_len]; omega
  have a2 : (n2.cells.map flCell)[0]? = some (flCell ⟨1, aS, numM 2⟩) := by rw [n2_cells]; rfl
  have d2 : n2.defs.noRef = true := rfl
  have w2 : n2.watches.noRef = true := rfl
  have d3 : n3.defs.noRef = true := by rw [show n3.defs = .lst 4 [] by kernel_rfl]; rfl
  have w3 : n3.watches.noRef = true := by rw [show n3.watches = .lst 7 [] by kernel_rfl]; rfl
  refine ACall.of_body (c := Try.f8.body.getD .skip) mixed Try.func8 rfl (by kernel_rfl) (by rw [Try.ntmps8]; simp) (by kernel_rfl) ?_
  simp -implicitDefEqProofs only [Try.f8, Option.getD_some, Array.toList]
  simp -implicitDefEqProofs (disch := omega) only [natNe, wk, indexAddrA, lenA, Nat.reduceAdd, Nat.reduceLeDiff, Nat.reduceEqDiff, if_true, if_false, reduceIte, reduceCtorEq, exists_eq_left', implies_true, forall_const, Int.reduceLT, Int.reduceLE, Int.reduceEq, Int.reduceNeg, bindT, Nat.reduceMul, tis]
  refine callX_fn (works ?_)
  simp -implicitDefEqProofs (maxSteps := 2000000) (disch := omega) only [natNe, wk, indexAddrA, lenA, Nat.reduceAdd, Nat.reduceLeDiff, Nat.reduceEqDiff, if_true, if_false, reduceIte, reduceCtorEq, exists_eq_left', implies_true, forall_const, Int.reduceLT, Int.reduceLE, Int.reduceEq, Int.reduceNeg, bindT, Nat.reduceMul, tis, eq_self]
  refine callX_fn (towerA ?_)
  simp -implicitDefEqProofs (maxSteps := 2000000) (disch := omega) only [natNe, wk, indexAddrA, lenA, Nat.reduceAdd, Nat.reduceLeDiff, Nat.reduceEqDiff, if_true, if_false, reduceIte, reduceCtorEq, exists_eq_left', implies_true, forall_const, Int.reduceLT, Int.reduceLE, Int.reduceEq, Int.reduceNeg, bindT, Nat.reduceMul, tis, eq_self]
  refine callX_fn (num ?_)
  simp -implicitDefEqProofs (maxSteps := 2000000) (disch := omega) only [natNe, wk, indexAddrA, lenA, Nat.reduceAdd, Nat.reduceLeDiff, Nat.reduceEqDiff, if_true, if_false, reduceIte, reduceCtorEq, exists_eq_left', implies_true, forall_const, Int.reduceLT, Int.reduceLE, Int.reduceEq, Int.reduceNeg, bindT, Nat.reduceMul, tis, flSt, flVal]
  refine callX_fn (num ?_)
  simp -implicitDefEqProofs (maxSteps := 2000000) (disch := omega) only [natNe, wk, indexAddrA, lenA, Nat.reduceAdd, Nat.reduceLeDiff, Nat.reduceEqDiff, if_true, if_false, reduceIte, reduceCtorEq, exists_eq_left', implies_true, forall_const, Int.reduceLT, Int.reduceLE, Int.reduceEq, Int.reduceNeg, bindT, Nat.reduceMul, tis, flSt, flVal]
  refine callX_fn (num ?_)
  simp -implicitDefEqProofs (maxSteps := 2000000) (disch := omega) only [natNe, wk, indexAddrA, lenA, Nat.reduceAdd, Nat.reduceLeDiff, Nat.reduceEqDiff, if_true, if_false, reduceIte, reduceCtorEq, exists_eq_left', implies_true, forall_const, Int.reduceLT, Int.reduceLE, Int.reduceEq, Int.reduceNeg, bindT, Nat.reduceMul, tis, flSt, flVal]
  refine callX_freeze1 _ (.cons (fzSt (s := towerN) rfl rfl) (.cons (.same rfl) (.cons (.own rfl look_new (by simp [AV.noRef]) rfl) (.nil _ _)))) (vopenA (s := towerN) (t := n1) (vs := [⟨xS, numM 1⟩, ⟨aS, numM 2⟩, ⟨xS, numM 9⟩]) rfl (by rw [n1_pre]; omega) (by simp [towerN]) (by simp) rfl rfl ?_)
  simp -implicitDefEqProofs (maxSteps := 2000000) (disch := omega) only [natNe, wk, indexAddrA, lenA, Nat.reduceAdd, Nat.reduceLeDiff, Nat.reduceEqDiff, if_true, if_false, reduceIte, reduceCtorEq, exists_eq_left', implies_true, forall_const, Int.reduceLT, Int.reduceLE, Int.reduceEq, Int.reduceNeg, bindT, Nat.reduceMul, tis, eq_self]
  refine callX_fn (one ?_)
  simp -implicitDefEqProofs (maxSteps := 2000000) (disch := omega) only [natNe, wk, indexAddrA, lenA, Nat.reduceAdd, Nat.reduceLeDiff, Nat.reduceEqDiff, if_true, if_false, reduceIte, reduceCtorEq, exists_eq_left', implies_true, forall_const, Int.reduceLT, Int.reduceLE, Int.reduceEq, Int.reduceNeg, bindT, Nat.reduceMul, tis, eq_self]
  refine callX_fn (vopenA (s := n1) (t := n2) (vs := [⟨xS, numM 3⟩]) rfl (by rw [n2_pre]; omega) c1 (by simp) rfl rfl ?_)
  simp -implicitDefEqProofs (maxSteps := 2000000) (disch := omega) only [natNe, wk, indexAddrA, lenA, Nat.reduceAdd, Nat.reduceLeDiff, Nat.reduceEqDiff, if_true, if_false, reduceIte, reduceCtorEq, exists_eq_left', implies_true, forall_const, Int.reduceLT, Int.reduceLE, Int.reduceEq, Int.reduceNeg, bindT, Nat.reduceMul, tis, flSt, List.length_map, l2, z2, a2, flCell, aS, Int.reduceToNat, eq_self, decide_true]
  refine callX_gen (fun T H => look 1 T = some (.ptr (nx + 1) 0) ∧ look 45 T = some (.sc (.bool false)) ∧ (∀ k, k < nx → look k H = look k h) ∧ look (nx + 1) H = some (.box (flSt n2))) ⟨by simp -implicitDefEqProofs (disch := omega) only [natNe, wk, indexAddrA, lenA, Nat.reduceAdd, Nat.reduceLeDiff, Nat.reduceEqDiff, if_true, if_false, reduceIte, reduceCtorEq, exists_eq_left', implies_true, forall_const, Int.reduceLT, Int.reduceLE, Int.reduceEq, Int.reduceNeg, bindT, Nat.reduceMul, tis, flSt], by simp -implicitDefEqProofs (disch := omega) only [natNe, wk, indexAddrA, lenA, Nat.reduceAdd, Nat.reduceLeDiff, Nat.reduceEqDiff, if_true, if_false, reduceIte, reduceCtorEq, exists_eq_left', implies_true, forall_const, Int.reduceLT, Int.reduceLE, Int.reduceEq, Int.reduceNeg, bindT, Nat.reduceMul, tis, flSt], ?_, by simp -implicitDefEqProofs (disch := omega) only [natNe, wk, indexAddrA, lenA, Nat.reduceAdd, Nat.reduceLeDiff, Nat.reduceEqDiff, if_true, if_false, reduceIte, reduceCtorEq, exists_eq_left', implies_true, forall_const, Int.reduceLT, Int.reduceLE, Int.reduceEq, Int.reduceNeg, bindT, Nat.reduceMul, tis, flSt]⟩ ?_
  · repeat (first | exact over_refl | exact hov | refine over_hc (by omega) ?_ | refine over_upd (by omega) ?_ | refine over_del (by omega) ?_)
  rintro T H ⟨t1, t45, hov, b1⟩
  refine callX_fn (sees (s := n2) (name := xS) (by omega) (by omega) ?_)
  rw [n2_sees1]
  simp -implicitDefEqProofs (maxSteps := 2000000) (disch := omega) only [natNe, wk, indexAddrA, lenA, Nat.reduceAdd, Nat.reduceLeDiff, Nat.reduceEqDiff, if_true, if_false, reduceIte, reduceCtorEq, exists_eq_left', implies_true, forall_const, Int.reduceLT, Int.reduceLE, Int.reduceEq, Int.reduceNeg, bindT, Nat.reduceMul, tis, flSt, t1, t45, b1]
  refine callX_fn (sees (s := n2) (name := aS) (by omega) (by omega) ?_)
  rw [n2_sees2]
  simp -implicitDefEqProofs (maxSteps := 2000000) (disch := omega) only [natNe, wk, indexAddrA, lenA, Nat.reduceAdd, Nat.reduceLeDiff, Nat.reduceEqDiff, if_true, if_false, reduceIte, reduceCtorEq, exists_eq_left', implies_true, forall_const, Int.reduceLT, Int.reduceLE, Int.reduceEq, Int.reduceNeg, bindT, Nat.reduceMul, tis, flSt, t1, t45, b1]
  refine callX_fn (sees (s := n2) (name := xS) (by omega) (by omega) ?_)
  rw [n2_sees3]
  simp -implicitDefEqProofs (maxSteps := 2000000) (disch := omega) only [natNe, wk, indexAddrA, lenA, Nat.reduceAdd, Nat.reduceLeDiff, Nat.reduceEqDiff, if_true, if_false, reduceIte, reduceCtorEq, exists_eq_left', implies_true, forall_const, Int.reduceLT, Int.reduceLE, Int.reduceEq, Int.reduceNeg, bindT, Nat.reduceMul, tis, flSt, t1, t45, b1]
  refine callX_fn (wayAll (s := n2) (by omega) ?_)
  rw [n2_way6]
  simp -implicitDefEqProofs (maxSteps := 2000000) (disch := omega) only [natNe, wk, indexAddrA, lenA, Nat.reduceAdd, Nat.reduceLeDiff, Nat.reduceEqDiff, if_true, if_false, reduceIte, reduceCtorEq, exists_eq_left', implies_true, forall_const, Int.reduceLT, Int.reduceLE, Int.reduceEq, Int.reduceNeg, bindT, Nat.reduceMul, tis, flSt, t1, t45, b1]
  refine callX_lend (args' := [.lst 1 ([6, 3, 1].map fun k => [.sc (.int .i64 k)]), .lst 1 ([6, 3, 1].map fun k => [.sc (.int .i64 k)])]) (r := .bool true) (fun k => nx ≤ k) (.cons (.same rfl) (.cons (.own (L := [6, 3, 1].map fun k => [.sc (.int .i64 k)]) (by omega) look_new (by simp [AV.noRef]) rfl) (.nil _ _))) (fun K' hK' => ints (by simp) (by simp) (by simpa using hK')) ?_
  simp -implicitDefEqProofs (maxSteps := 2000000) (disch := omega) only [natNe, wk, indexAddrA, lenA, Nat.reduceAdd, Nat.reduceLeDiff, Nat.reduceEqDiff, if_true, if_false, reduceIte, reduceCtorEq, exists_eq_left', implies_true, forall_const, Int.reduceLT, Int.reduceLE, Int.reduceEq, Int.reduceNeg, bindT, Nat.reduceMul, tis, flSt, t1, t45, b1]
  refine callX_fn (wayAll (s := n2) (by omega) ?_)
  rw [n2_way2]
  simp -implicitDefEqProofs (maxSteps := 2000000) (disch := omega) only [natNe, wk, indexAddrA, lenA, Nat.reduceAdd, Nat.reduceLeDiff, Nat.reduceEqDiff, if_true, if_false, reduceIte, reduceCtorEq, exists_eq_left', implies_true, forall_const, Int.reduceLT, Int.reduceLE, Int.reduceEq, Int.reduceNeg, bindT, Nat.reduceMul, tis, flSt, Int.natCast_zero, eq_self, decide_true, t1, t45, b1]
  refine callX_fn (wayAll (s := n2) (by omega) ?_)
  rw [n2_way9]
  simp -implicitDefEqProofs (maxSteps := 2000000) (disch := omega) only [natNe, wk, indexAddrA, lenA, Nat.reduceAdd, Nat.reduceLeDiff, Nat.reduceEqDiff, if_true, if_false, reduceIte, reduceCtorEq, exists_eq_left', implies_true, forall_const, Int.reduceLT, Int.reduceLE, Int.reduceEq, Int.reduceNeg, bindT, Nat.reduceMul, tis, flSt, Int.natCast_zero, eq_self, decide_true, t1, t45, b1]
  refine callX_fn (venv (s := n2) (by omega) (by omega) ?_)
  simp -implicitDefEqProofs (maxSteps := 2000000) (disch := omega) only [natNe, wk, indexAddrA, lenA, Nat.reduceAdd, Nat.reduceLeDiff, Nat.reduceEqDiff, if_true, if_false, reduceIte, reduceCtorEq, exists_eq_left', implies_true, forall_const, Int.reduceLT, Int.reduceLE, Int.reduceEq, Int.reduceNeg, bindT, Nat.reduceMul, tis, flSt, List.length_map, le, eq_self, decide_true, t1, t45, b1]
  refine callX_fn (vcells (s := n2) (by omega) ?_)
  simp -implicitDefEqProofs (maxSteps := 2000000) (disch := omega) only [natNe, wk, indexAddrA, lenA, Nat.reduceAdd, Nat.reduceLeDiff, Nat.reduceEqDiff, if_true, if_false, reduceIte, reduceCtorEq, exists_eq_left', implies_true, forall_const, Int.reduceLT, Int.reduceLE, Int.reduceEq, Int.reduceNeg, bindT, Nat.reduceMul, tis, flSt, List.length_map, lo, eq_self, decide_true, t1, t45, b1]
  refine drawL (fun _ => 0) [] [false, false, false, false, false, true] (by kernel_rfl) ?_
  simp -implicitDefEqProofs (maxSteps := 2000000) (disch := omega) only [natNe, wk, indexAddrA, lenA, Nat.reduceAdd, Nat.reduceLeDiff, Nat.reduceEqDiff, if_true, if_false, reduceIte, reduceCtorEq, exists_eq_left', implies_true, forall_const, Int.reduceLT, Int.reduceLE, Int.reduceEq, Int.reduceNeg, bindT, Nat.reduceMul, tis, flSt, t1, t45, b1]
  refine callD_fn (.agg (flVal (numM 7))) (.aggF rfl) (fun h nx K hk => num hk) ?_
  simp -implicitDefEqProofs (maxSteps := 2000000) (disch := omega) only [natNe, wk, indexAddrA, lenA, Nat.reduceAdd, Nat.reduceLeDiff, Nat.reduceEqDiff, if_true, if_false, reduceIte, reduceCtorEq, exists_eq_left', implies_true, forall_const, Int.reduceLT, Int.reduceLE, Int.reduceEq, Int.reduceNeg, bindT, Nat.reduceMul, tis, flVal, numM, t1, t45, b1]
  refine callD_fn (.agg (flVal (numM 1))) (.aggF rfl) (fun h nx K hk => num hk) ?_
  simp -implicitDefEqProofs (maxSteps := 2000000) (disch := omega) only [natNe, wk, indexAddrA, lenA, Nat.reduceAdd, Nat.reduceLeDiff, Nat.reduceEqDiff, if_true, if_false, reduceIte, reduceCtorEq, exists_eq_left', implies_true, forall_const, Int.reduceLT, Int.reduceLE, Int.reduceEq, Int.reduceNeg, bindT, Nat.reduceMul, tis, flVal, numM, t1, t45, b1]
  refine callD_fn (.tup [.agg (flSt n2), .sc (.int .i64 22)]) (flSt_refs d2 w2) (fun h nx K hk => vputA (s := n2) (t := n2) (e := 22) (sets := [⟨aS, numM 7⟩, ⟨qS, numM 1⟩]) (by rw [n2_put1]) (by rw [n2_put1]) i2 c2 (by simp) d2 w2 (by intro x hx; simp only [List.mem_cons, List.not_mem_nil, or_false] at hx; rcases hx with rfl | rfl <;> exact Nat.zero_le _) hk) ?_
  simp -implicitDefEqProofs (maxSteps := 2000000) (disch := omega) only [natNe, wk, indexAddrA, lenA, Nat.reduceAdd, Nat.reduceLeDiff, Nat.reduceEqDiff, if_true, if_false, reduceIte, reduceCtorEq, exists_eq_left', implies_true, forall_const, Int.reduceLT, Int.reduceLE, Int.reduceEq, Int.reduceNeg, bindT, Nat.reduceMul, tis, flSt, t1, t45, b1]
  refine callX_freeze1 _ (.cons (fzSt (s := n2) d2 w2) (.cons (.same rfl) (.cons (.own rfl look_new (by simp [AV.noRef]) rfl) (.nil _ _)))) (vputA (s := n2) (t := n2) (e := 23) (sets := [⟨aS, ⟨3, 0, ⟨#[]⟩⟩⟩, ⟨qS, zVal⟩]) (by rw [n2_put2]) (by rw [n2_put2]) i2 c2 (by simp) d2 w2 (by intro x hx; simp only [List.mem_cons, List.not_mem_nil, or_false] at hx; rcases hx with rfl | rfl <;> exact Nat.zero_le _) ?_)
  simp -implicitDefEqProofs (maxSteps := 2000000) (disch := omega) only [natNe, wk, indexAddrA, lenA, Nat.reduceAdd, Nat.reduceLeDiff, Nat.reduceEqDiff, if_true, if_false, reduceIte, reduceCtorEq, exists_eq_left', implies_true, forall_const, Int.reduceLT, Int.reduceLE, Int.reduceEq, Int.reduceNeg, bindT, Nat.reduceMul, tis, flSt, t1, t45, b1]
  refine callX_freeze1 _ (.cons (fzSt (s := n2) d2 w2) (.cons (.same rfl) (.cons (.own rfl look_new (by simp [AV.noRef]) rfl) (.nil _ _)))) (vputA (s := n2) (t := n2) (e := 23) (sets := [⟨aS, ⟨1, 0, xS⟩⟩]) (by rw [n2_put3]) (by rw [n2_put3]) i2 c2 (by simp) d2 w2 (by intro x hx; simp only [List.mem_cons, List.not_mem_nil, or_false] at hx; rw [hx]; decide) ?_)
  simp -implicitDefEqProofs (maxSteps := 2000000) (disch := omega) only [natNe, wk, indexAddrA, lenA, Nat.reduceAdd, Nat.reduceLeDiff, Nat.reduceEqDiff, if_true, if_false, reduceIte, reduceCtorEq, exists_eq_left', implies_true, forall_const, Int.reduceLT, Int.reduceLE, Int.reduceEq, Int.reduceNeg, bindT, Nat.reduceMul, tis, flSt, t1, t45, b1]
  refine drawL (fun _ => 0) [] [false, false, false, false, false, false, false, true] (by kernel_rfl) ?_
  simp -implicitDefEqProofs (maxSteps := 2000000) (disch := omega) only [natNe, wk, indexAddrA, lenA, Nat.reduceAdd, Nat.reduceLeDiff, Nat.reduceEqDiff, if_true, if_false, reduceIte, reduceCtorEq, exists_eq_left', implies_true, forall_const, Int.reduceLT, Int.reduceLE, Int.reduceEq, Int.reduceNeg, bindT, Nat.reduceMul, tis, flSt, t1, t45, b1]
  refine callD_fn (.agg (flVal (numM 4))) (.aggF rfl) (fun h nx K hk => num hk) ?_
  simp -implicitDefEqProofs (maxSteps := 2000000) (disch := omega) only [natNe, wk, indexAddrA, lenA, Nat.reduceAdd, Nat.reduceLeDiff, Nat.reduceEqDiff, if_true, if_false, reduceIte, reduceCtorEq, exists_eq_left', implies_true, forall_const, Int.reduceLT, Int.reduceLE, Int.reduceEq, Int.reduceNeg, bindT, Nat.reduceMul, tis, flVal, numM, t1, t45, b1]
  refine callD_fn (.agg (flVal (numM 5))) (.aggF rfl) (fun h nx K hk => num hk) ?_
  simp -implicitDefEqProofs (maxSteps := 2000000) (disch := omega) only [natNe, wk, indexAddrA, lenA, Nat.reduceAdd, Nat.reduceLeDiff, Nat.reduceEqDiff, if_true, if_false, reduceIte, reduceCtorEq, exists_eq_left', implies_true, forall_const, Int.reduceLT, Int.reduceLE, Int.reduceEq, Int.reduceNeg, bindT, Nat.reduceMul, tis, flVal, numM, t1, t45, b1]
  refine callD_fn (.agg (flVal (numM 6))) (.aggF rfl) (fun h nx K hk => num hk) ?_
  simp -implicitDefEqProofs (maxSteps := 2000000) (disch := omega) only [natNe, wk, indexAddrA, lenA, Nat.reduceAdd, Nat.reduceLeDiff, Nat.reduceEqDiff, if_true, if_false, reduceIte, reduceCtorEq, exists_eq_left', implies_true, forall_const, Int.reduceLT, Int.reduceLE, Int.reduceEq, Int.reduceNeg, bindT, Nat.reduceMul, tis, flVal, numM, t1, t45, b1]
  refine callD_fn (.tup [.agg (flSt n3), .sc (.int .i64 0)]) (flSt_refs d3 w3) (fun h nx K hk => vputA (s := n2) (t := n3) (e := 0) (sets := [⟨xS, numM 4⟩, ⟨aS, numM 5⟩, ⟨xS, numM 6⟩]) rfl n2_put4 i2 c2 (by simp) d2 w2 (by intro x hx; simp only [List.mem_cons, List.not_mem_nil, or_false] at hx; rcases hx with rfl | rfl | rfl <;> exact Nat.zero_le _) hk) ?_
  simp -implicitDefEqProofs (maxSteps := 2000000) (disch := omega) only [natNe, wk, indexAddrA, lenA, Nat.reduceAdd, Nat.reduceLeDiff, Nat.reduceEqDiff, if_true, if_false, reduceIte, reduceCtorEq, exists_eq_left', implies_true, forall_const, Int.reduceLT, Int.reduceLE, Int.reduceEq, Int.reduceNeg, bindT, Nat.reduceMul, tis, flSt, eq_self, decide_true, t1, t45, b1]
  refine callX_gen (fun T H => look 1 T = some (.ptr (nx + 1) 0) ∧ look 2 T = some (.ptr (nx + 13) 0) ∧ look 4 T = some (.ptr (nx + 17) 0) ∧ look 8 T = some (.ptr (nx + 32) 0) ∧ look 144 T = some (.sc (.bool false)) ∧ (∀ k, k < nx → look k H = look k h) ∧ look (nx + 1) H = some (.box (flSt n2)) ∧ look (nx + 13) H = some (.box (flSt n2)) ∧ look (nx + 17) H = some (.box (flSt n2)) ∧ look (nx + 32) H = some (.box (flSt n3))) ⟨by simp -implicitDefEqProofs (disch := omega) only [natNe, wk, indexAddrA, lenA, Nat.reduceAdd, Nat.reduceLeDiff, Nat.reduceEqDiff, if_true, if_false, reduceIte, reduceCtorEq, exists_eq_left', implies_true, forall_const, Int.reduceLT, Int.reduceLE, Int.reduceEq, Int.reduceNeg, bindT, Nat.reduceMul, tis, t1, t45, b1, flSt], by simp -implicitDefEqProofs (disch := omega) only [natNe, wk, indexAddrA, lenA, Nat.reduceAdd, Nat.reduceLeDiff, Nat.reduceEqDiff, if_true, if_false, reduceIte, reduceCtorEq, exists_eq_left', implies_true, forall_const, Int.reduceLT, Int.reduceLE, Int.reduceEq, Int.reduceNeg, bindT, Nat.reduceMul, tis, t1, t45, b1, flSt], by simp -implicitDefEqProofs (disch := omega) only [natNe, wk, indexAddrA, lenA, Nat.reduceAdd, Nat.reduceLeDiff, Nat.reduceEqDiff, if_true, if_false, reduceIte, reduceCtorEq, exists_eq_left', implies_true, forall_const, Int.reduceLT, Int.reduceLE, Int.reduceEq, Int.reduceNeg, bindT, Nat.reduceMul, tis, t1, t45, b1, flSt], by simp -implicitDefEqProofs (disch := omega) only [natNe, wk, indexAddrA, lenA, Nat.reduceAdd, Nat.reduceLeDiff, Nat.reduceEqDiff, if_true, if_false, reduceIte, reduceCtorEq, exists_eq_left', implies_true, forall_const, Int.reduceLT, Int.reduceLE, Int.reduceEq, Int.reduceNeg, bindT, Nat.reduceMul, tis, t1, t45, b1, flSt], by simp -implicitDefEqProofs (disch := omega) only [natNe, wk, indexAddrA, lenA, Nat.reduceAdd, Nat.reduceLeDiff, Nat.reduceEqDiff, if_true, if_false, reduceIte, reduceCtorEq, exists_eq_left', implies_true, forall_const, Int.reduceLT, Int.reduceLE, Int.reduceEq, Int.reduceNeg, bindT, Nat.reduceMul, tis, t1, t45, b1, flSt], ?_, by simp -implicitDefEqProofs (disch := omega) only [natNe, wk, indexAddrA, lenA, Nat.reduceAdd, Nat.reduceLeDiff, Nat.reduceEqDiff, if_true, if_false, reduceIte, reduceCtorEq, exists_eq_left', implies_true, forall_const, Int.reduceLT, Int.reduceLE, Int.reduceEq, Int.reduceNeg, bindT, Nat.reduceMul, tis, t1, t45, b1, flSt], by simp -implicitDefEqProofs (disch := omega) only [natNe, wk, indexAddrA, lenA, Nat.reduceAdd, Nat.reduceLeDiff, Nat.reduceEqDiff, if_true, if_false, reduceIte, reduceCtorEq, exists_eq_left', implies_true, forall_const, Int.reduceLT, Int.reduceLE, Int.reduceEq, Int.reduceNeg, bindT, Nat.reduceMul, tis, t1, t45, b1, flSt], by simp -implicitDefEqProofs (disch := omega) only [natNe, wk, indexAddrA, lenA, Nat.reduceAdd, Nat.reduceLeDiff, Nat.reduceEqDiff, if_true, if_false, reduceIte, reduceCtorEq, exists_eq_left', implies_true, forall_const, Int.reduceLT, Int.reduceLE, Int.reduceEq, Int.reduceNeg, bindT, Nat.reduceMul, tis, t1, t45, b1, flSt], by simp -implicitDefEqProofs (disch := omega) only [natNe, wk, indexAddrA, lenA, Nat.reduceAdd, Nat.reduceLeDiff, Nat.reduceEqDiff, if_true, if_false, reduceIte, reduceCtorEq, exists_eq_left', implies_true, forall_const, Int.reduceLT, Int.reduceLE, Int.reduceEq, Int.reduceNeg, bindT, Nat.reduceMul, tis, t1, t45, b1, flSt]⟩ ?_
  · repeat (first | exact over_refl | exact hov | refine over_hc (by omega) ?_ | refine over_upd (by omega) ?_ | refine over_del (by omega) ?_)
  clear t1 t45 b1 hov
  rintro T H ⟨t1, t2, t4, t8, t144, hov, b1, b13, b17, b32⟩
  refine callX_fn (sameRefl (s := n2) (ps := []) (ws := []) rfl rfl (by simp) (by simp) i2 c2 (by simp) ?_)
  simp -implicitDefEqProofs (maxSteps := 2000000) (disch := omega) only [natNe, wk, indexAddrA, lenA, Nat.reduceAdd, Nat.reduceLeDiff, Nat.reduceEqDiff, if_true, if_false, reduceIte, reduceCtorEq, exists_eq_left', implies_true, forall_const, Int.reduceLT, Int.reduceLE, Int.reduceEq, Int.reduceNeg, bindT, Nat.reduceMul, tis, flSt, t1, t2, t4, t8, t144, b1, b13, b17, b32]
  refine callX_fn (sameRefl (s := n2) (ps := []) (ws := []) rfl rfl (by simp) (by simp) i2 c2 (by simp) ?_)
  simp -implicitDefEqProofs (maxSteps := 2000000) (disch := omega) only [natNe, wk, indexAddrA, lenA, Nat.reduceAdd, Nat.reduceLeDiff, Nat.reduceEqDiff, if_true, if_false, reduceIte, reduceCtorEq, exists_eq_left', implies_true, forall_const, Int.reduceLT, Int.reduceLE, Int.reduceEq, Int.reduceNeg, bindT, Nat.reduceMul, tis, flSt, t1, t2, t4, t8, t144, b1, b13, b17, b32]
  refine callX_fn (sees (s := n3) (name := xS) (by omega) (by omega) ?_)
  rw [n3_sees1]
  simp -implicitDefEqProofs (maxSteps := 2000000) (disch := omega) only [natNe, wk, indexAddrA, lenA, Nat.reduceAdd, Nat.reduceLeDiff, Nat.reduceEqDiff, if_true, if_false, reduceIte, reduceCtorEq, exists_eq_left', implies_true, forall_const, Int.reduceLT, Int.reduceLE, Int.reduceEq, Int.reduceNeg, bindT, Nat.reduceMul, tis, flSt, t1, t2, t4, t8, t144, b1, b13, b17, b32]
  refine callX_fn (sees (s := n3) (name := aS) (by omega) (by omega) ?_)
  rw [n3_sees2]
  simp -implicitDefEqProofs (maxSteps := 2000000) (disch := omega) only [natNe, wk, indexAddrA, lenA, Nat.reduceAdd, Nat.reduceLeDiff, Nat.reduceEqDiff, if_true, if_false, reduceIte, reduceCtorEq, exists_eq_left', implies_true, forall_const, Int.reduceLT, Int.reduceLE, Int.reduceEq, Int.reduceNeg, bindT, Nat.reduceMul, tis, flSt, t1, t2, t4, t8, t144, b1, b13, b17, b32]
  refine callX_fn (sees (s := n3) (name := xS) (by omega) (by omega) ?_)
  rw [n3_sees3]
  simp -implicitDefEqProofs (maxSteps := 2000000) (disch := omega) only [natNe, wk, indexAddrA, lenA, Nat.reduceAdd, Nat.reduceLeDiff, Nat.reduceEqDiff, if_true, if_false, reduceIte, reduceCtorEq, exists_eq_left', implies_true, forall_const, Int.reduceLT, Int.reduceLE, Int.reduceEq, Int.reduceNeg, bindT, Nat.reduceMul, tis, flSt, t1, t2, t4, t8, t144, b1, b13, b17, b32]
  refine callX_freeze1 _ (.cons (fzSt (s := n2) d2 w2) (.cons (.own rfl look_new (by simp [AV.noRef]) rfl) (.nil _ _))) (vdrop (s := n2) (vs := [6, 9]) (by omega) (by simp) d2 w2 ?_)
  rw [show n2.drop [6, 9] = n4 from rfl]
  simp -implicitDefEqProofs (maxSteps := 2000000) (disch := omega) only [natNe, wk, indexAddrA, lenA, Nat.reduceAdd, Nat.reduceLeDiff, Nat.reduceEqDiff, if_true, if_false, reduceIte, reduceCtorEq, exists_eq_left', implies_true, forall_const, Int.reduceLT, Int.reduceLE, Int.reduceEq, Int.reduceNeg, bindT, Nat.reduceMul, tis, flSt, t1, t2, t4, t8, t144, b1, b13, b17, b32]
  refine callX_gen (fun T H => look 1 T = some (.ptr (nx + 1) 0) ∧ look 10 T = some (.ptr (nx + 36) 0) ∧ (∀ k, k < nx → look k H = look k h) ∧ look (nx + 1) H = some (.box (flSt n2)) ∧ look (nx + 36) H = some (.box (flSt n4))) ⟨by simp -implicitDefEqProofs (disch := omega) only [natNe, wk, indexAddrA, lenA, Nat.reduceAdd, Nat.reduceLeDiff, Nat.reduceEqDiff, if_true, if_false, reduceIte, reduceCtorEq, exists_eq_left', implies_true, forall_const, Int.reduceLT, Int.reduceLE, Int.reduceEq, Int.reduceNeg, bindT, Nat.reduceMul, tis, t1, t2, t4, t8, t144, b1, b13, b17, b32, flSt], by simp -implicitDefEqProofs (disch := omega) only [natNe, wk, indexAddrA, lenA, Nat.reduceAdd, Nat.reduceLeDiff, Nat.reduceEqDiff, if_true, if_false, reduceIte, reduceCtorEq, exists_eq_left', implies_true, forall_const, Int.reduceLT, Int.reduceLE, Int.reduceEq, Int.reduceNeg, bindT, Nat.reduceMul, tis, t1, t2, t4, t8, t144, b1, b13, b17, b32, flSt], ?_, by simp -implicitDefEqProofs (disch := omega) only [natNe, wk, indexAddrA, lenA, Nat.reduceAdd, Nat.reduceLeDiff, Nat.reduceEqDiff, if_true, if_false, reduceIte, reduceCtorEq, exists_eq_left', implies_true, forall_const, Int.reduceLT, Int.reduceLE, Int.reduceEq, Int.reduceNeg, bindT, Nat.reduceMul, tis, t1, t2, t4, t8, t144, b1, b13, b17, b32, flSt], by simp -implicitDefEqProofs (disch := omega) only [natNe, wk, indexAddrA, lenA, Nat.reduceAdd, Nat.reduceLeDiff, Nat.reduceEqDiff, if_true, if_false, reduceIte, reduceCtorEq, exists_eq_left', implies_true, forall_const, Int.reduceLT, Int.reduceLE, Int.reduceEq, Int.reduceNeg, bindT, Nat.reduceMul, tis, t1, t2, t4, t8, t144, b1, b13, b17, b32, flSt]⟩ ?_
  · repeat (first | exact over_refl | exact hov | refine over_hc (by omega) ?_ | refine over_upd (by omega) ?_ | refine over_del (by omega) ?_)
  clear t1 t2 t4 t8 t144 b1 b13 b17 b32 hov
  rintro T H ⟨t1, t10, hov, b1, b36⟩
  refine callX_fn (towerO fun H2 NX2 ia h1 h2 hov2 hia => ?_)
  dsimp only at h1 hov2
  have f1 : look (nx + 1) H2 = some (.box (flSt n2)) := by rw [hov2 _ (by omega)]; exact b1
  have f10 : look (nx + 36) H2 = some (.box (flSt n4)) := by rw [hov2 _ (by omega)]; exact b36
  have hov3 : ∀ k, k < nx → look k H2 = look k h := fun k hk => by rw [hov2 _ (by omega)]; exact hov k hk
  clear b1 b36 hov hov2
  simp only [towerItems, flItem, List.map_cons, List.map_nil] at hia
  simp -implicitDefEqProofs (maxSteps := 2000000) (disch := omega) only [natNe, wk, indexAddrA, lenA, Nat.reduceAdd, Nat.reduceLeDiff, Nat.reduceEqDiff, if_true, if_false, reduceIte, reduceCtorEq, exists_eq_left', implies_true, forall_const, Int.reduceLT, Int.reduceLE, Int.reduceEq, Int.reduceNeg, bindT, Nat.reduceMul, tis, flSt, flO, t1, t10, f1, f10, hia]
  refine drawL (fun k => if k = NX2 then 1 else 2) [1, 1, 1, 1, 2, 2, 2, 2, 2, 2] [] (by kernel_rfl) ?_
  simp -implicitDefEqProofs (maxSteps := 2000000) (disch := omega) only [natNe, wk, indexAddrA, lenA, Nat.reduceAdd, Nat.reduceLeDiff, Nat.reduceEqDiff, if_true, if_false, reduceIte, reduceCtorEq, exists_eq_left', implies_true, forall_const, Int.reduceLT, Int.reduceLE, Int.reduceEq, Int.reduceNeg, bindT, Nat.reduceMul, tis, flSt, flO, List.set_cons_zero, Int.reduceToNat, t1, t10, f1, f10, hia]
  refine ⟨by omega, by omega, ?_⟩
  refine drawL (fun _ => 0) [] [false, false, false, false, false, false, false, false, false, false, false, true] (by kernel_rfl) ?_
  simp -implicitDefEqProofs (maxSteps := 2000000) (disch := omega) only [natNe, wk, indexAddrA, lenA, Nat.reduceAdd, Nat.reduceLeDiff, Nat.reduceEqDiff, if_true, if_false, reduceIte, reduceCtorEq, exists_eq_left', implies_true, forall_const, Int.reduceLT, Int.reduceLE, Int.reduceEq, Int.reduceNeg, bindT, Nat.reduceMul, tis, flSt, doD_gfrz, guardF_true, t1, t10, f1, f10, hia]
  refine callD_fn (.sc (.bool (n4.sees 6 xS 1 1))) (.noRef rfl) (fun h nx K hk => sees (s := n4) (name := xS) (by omega) (by omega) hk) ?_
  rw [n4_sees]
  simp -implicitDefEqProofs (maxSteps := 2000000) (disch := omega) only [natNe, wk, indexAddrA, lenA, Nat.reduceAdd, Nat.reduceLeDiff, Nat.reduceEqDiff, if_true, if_false, reduceIte, reduceCtorEq, exists_eq_left', implies_true, forall_const, Int.reduceLT, Int.reduceLE, Int.reduceEq, Int.reduceNeg, bindT, Nat.reduceMul, tis, flSt, doD_gfrz, guardF_true, List.length_map, l4, eq_self, decide_true, t1, t10, f1, f10, hia]
  refine callD_wayO (ia := ia) ?_ ?_
  · simp -implicitDefEqProofs (maxSteps := 2000000) (disch := omega) only [natNe, wk, indexAddrA, lenA, Nat.reduceAdd, Nat.reduceLeDiff, Nat.reduceEqDiff, if_true, if_false, reduceIte, reduceCtorEq, exists_eq_left', implies_true, forall_const, Int.reduceLT, Int.reduceLE, Int.reduceEq, Int.reduceNeg, bindT, Nat.reduceMul, tis, flItem, ringItems, t1, t10, f1, f10, hia]
  simp -implicitDefEqProofs (maxSteps := 2000000) (disch := omega) only [natNe, wk, indexAddrA, lenA, Nat.reduceAdd, Nat.reduceLeDiff, Nat.reduceEqDiff, if_true, if_false, reduceIte, reduceCtorEq, exists_eq_left', implies_true, forall_const, Int.reduceLT, Int.reduceLE, Int.reduceEq, Int.reduceNeg, bindT, Nat.reduceMul, tis, flSt, doD_gfrz, guardF_true, t1, t10, f1, f10, hia]
  refine callD_fn (.sc (.bool true)) (.noRef rfl) (fun h nx K hk => ints (a := [3, 1, 6]) (b := [3, 1, 6]) (by simp) (by simp) (by simpa using hk)) ?_
  simp -implicitDefEqProofs (maxSteps := 2000000) (disch := omega) only [natNe, wk, indexAddrA, lenA, Nat.reduceAdd, Nat.reduceLeDiff, Nat.reduceEqDiff, if_true, if_false, reduceIte, reduceCtorEq, exists_eq_left', implies_true, forall_const, Int.reduceLT, Int.reduceLE, Int.reduceEq, Int.reduceNeg, bindT, Nat.reduceMul, tis, flSt, doD_gfrz, guardF_true, t1, t10, f1, f10, hia]
  refine callD_fn (.lst 4 ([VarM.mk xS (numM 8)].map flVar)) (.noRef rfl) (fun h nx K hk => one hk) ?_
  simp -implicitDefEqProofs (maxSteps := 2000000) (disch := omega) only [natNe, wk, indexAddrA, lenA, Nat.reduceAdd, Nat.reduceLeDiff, Nat.reduceEqDiff, if_true, if_false, reduceIte, reduceCtorEq, exists_eq_left', implies_true, forall_const, Int.reduceLT, Int.reduceLE, Int.reduceEq, Int.reduceNeg, bindT, Nat.reduceMul, tis, flSt, doD_gfrz, guardF_true, t1, t10, f1, f10, hia]
  refine callD_fn (.agg (flSt n5)) (.aggF (flSt_all rfl rfl)) (fun h nx K hk => vopenA (s := n2) (t := n5) (vs := [⟨xS, numM 8⟩]) rfl (by rw [n5_pre]; omega) c2 (by simp) d2 w2 hk) ?_
  simp -implicitDefEqProofs (maxSteps := 2000000) (disch := omega) only [natNe, wk, indexAddrA, lenA, Nat.reduceAdd, Nat.reduceLeDiff, Nat.reduceEqDiff, if_true, if_false, reduceIte, reduceCtorEq, exists_eq_left', implies_true, forall_const, Int.reduceLT, Int.reduceLE, Int.reduceEq, Int.reduceNeg, bindT, Nat.reduceMul, tis, flSt, doD_gfrz, guardF_true, t1, t10, f1, f10, hia]
  refine callD_fn (.sc (.bool (n5.sees 1 xS 1 8))) (.noRef rfl) (fun h nx K hk => sees (s := n5) (name := xS) (by omega) (by omega) hk) ?_
  rw [n5_sees]
  simp -implicitDefEqProofs (maxSteps := 2000000) (disch := omega) only [natNe, wk, indexAddrA, lenA, Nat.reduceAdd, Nat.reduceLeDiff, Nat.reduceEqDiff, if_true, if_false, reduceIte, reduceCtorEq, exists_eq_left', implies_true, forall_const, Int.reduceLT, Int.reduceLE, Int.reduceEq, Int.reduceNeg, bindT, Nat.reduceMul, tis, flSt, doD_gfrz, guardF_true, t1, t10, f1, f10, hia]
  refine .pure _ ?_ (.same rfl) hk
  repeat (first | exact hov3 | refine over_hc (by omega) ?_ | refine over_upd (by omega) ?_ | refine over_del (by omega) ?_)
end Go.Abs.Try
