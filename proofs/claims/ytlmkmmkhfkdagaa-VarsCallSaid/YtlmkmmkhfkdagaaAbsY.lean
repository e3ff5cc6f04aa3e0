/- The abstract layer, part Y: a loop, and what is behind it, each by itself. -/
import Derived.Test.YtlmkmmkhfkdagaaAbsX
set_option linter.unusedVariables false
set_option linter.unusedSimpArgs false
namespace Go.Abs
open Go.RowKit

/-- How a loop is left: by the way out of its block, or for good. -/
def cutE (id : Nat) (E : AS → Prop) (Q : Exit → AS → Prop) (e : Exit) (σ : AS) : Prop := match e with
  | .exit i => i = id ∧ E σ
  | e => Q e σ

section
variable {C : Ctx} {Q : Exit → AS → Prop} {k : List XI} {id : Nat} {E : AS → Prop} {σ : AS} {c : Code}
theorem cutE_exit (i : Nat) : cutE id E Q (.exit i) σ = (i = id ∧ E σ) := rfl
theorem cutE_ret : cutE id E Q .ret σ = Q .ret σ := rfl

theorem loopX_cut (E : AS → Prop) (tail : ∀ σ', E σ' → xt C Q k σ') (h : loopX c C (cutE id E Q) [] σ) : loopX c C Q (.inB id :: k) σ := by
  obtain ⟨n, h⟩ := h
  refine ⟨n, XLoopN_mono (body := fun Q' σ' => xt C Q' [.code c] σ') (fun Q1 Q2 hq σ h => xt_mono hq h) (fun e σ' hq => ?_) n σ h⟩
  cases e with
  | exit i =>
    simp only [popExit] at hq ⊢
    obtain ⟨rfl, hE⟩ := hq
    simp only [if_true]
    exact tail σ' hE
  | normal => exact hq
  | goto l => exact hq
  | ret => exact hq
  | panic c => exact hq
  | outgrown => exact hq
end
end Go.Abs
