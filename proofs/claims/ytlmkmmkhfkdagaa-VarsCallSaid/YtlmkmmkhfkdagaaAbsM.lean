/- The abstract layer, part M: one operation (no call of a function), and that the machine's does the same. -/
import Derived.Test.YtlmkmmkhfkdagaaAbsL
set_option linter.unusedVariables false
set_option linter.unusedSimpArgs false
namespace Go.Abs
open Go.RowKit

def opA (P : Program) (h : Heap) (id : Nat) (ρ : Operand → AV) : Op → Option (AV × Heap × Bool)
  | .move x => some (ρ x, h, false)
  | .assign x => some (ρ x, h, false)
  | .pick c a b => match ρ c with
    | .sc (.bool t) => some (if t then ρ a else ρ b, h, false)
    | _ => none
  | .alloc t => (allocA P id t h).map fun h' => (.ptr id 0, h', true)
  | .box t x => (cellsA (ρ x)).map fun cs => (.ptr id 0, hc id (.box cs) h, true)
  | .build t parts => (buildA P t (parts.toList.map fun p => (p.1, ρ p.2))).map fun v => (v, h, false)
  | .buildSlice t len parts => (buildSliceA P h id t len (parts.toList.map fun p => (p.1, ρ p.2))).map fun p => (p.1, p.2, true)
  | .load t a => (loadA P h t (ρ a)).map fun v => (v, h, false)
  | .store t a x => (storeA P h t (ρ a) (ρ x)).map fun h' => (.any, h', false)
  | .nilCheck x => match ptrCells h (ρ x) with
    | some _ => some (ρ x, h, false)
    | none => none
  | .binOp op t x y _ => (binA P h op t x y (ρ x) (ρ y)).map fun v => (v, h, false)
  | .unOp op _ x => (unA op (ρ x)).map fun v => (v, h, false)
  | .convert s d x => (convA P s d (ρ x)).map fun v => (v, h, false)
  | .makeInterface t x => (mkIfaceA P t (ρ x)).map fun v => (v, h, false)
  | .makeFunc f first caps => if first.size = 0 then some (.fn f (caps.toList.map ρ), h, false) else none
  | .makeMap t none => some (.mp id, hc id (.map []) h, true)
  | .slice t x lo hi mx => (sliceA P h t (ρ x) (lo.map ρ) (hi.map ρ) (mx.map ρ)).map fun v => (v, h, false)
  | .fieldAddr s x f => (fieldAddrA P h s (ρ x) f).map fun v => (v, h, false)
  | .field t x f => (fieldA P t (ρ x) f).map fun v => (v, h, false)
  | .indexAddr t x i => (indexAddrA P h t (ρ x) (ρ i)).map fun v => (v, h, false)
  | .index t x i => (indexA P t (ρ x) (ρ i)).map fun v => (v, h, false)
  | .lookup t m k ok => (lookupA P h t (ρ m) (ρ k) ok).map fun v => (v, h, false)
  | .mapUpdate t m k x => (mapSetA h P t (ρ m) (ρ k) (ρ x)).map fun h' => (.any, h', false)
  | .insert t m k x => (mapSetA h P t (ρ m) (ρ k) (ρ x)).map fun h' => (.any, h', false)
  | .extract x i => (extractA (ρ x) i).map fun v => (v, h, false)
  | .call { callee := .builtin b, args := args, argTypes := tys } => match b, args.toList, tys.toList with
    | .len, [x], [t] => (lenA P h t (ρ x)).map fun v => (v, h, false)
    | .append, [s, x], [t, t'] => if t = t' then appendA P h id t (ρ s) (ρ x) else none
    | _, _, _ => none
  | _ => none

section
variable {P : Program} {G : Gh} {w : World} {A : Nat → Prop} {h : Heap}

/-- What the machine's operation comes to. -/
def OpOk (G : Gh) (w : World) (A : Nat → Prop) (h : Heap) (r : Result Next) (v : AV) (A' : Nat → Prop) (h' : Heap) : Prop :=
  ∃ n x w' G', r = .ok n w' ∧ (n = .value x ∨ (n = .skip ∧ x = undef)) ∧ SatH G' w' A' h' ∧ Evo G w A h G' w' A' h' ∧ Rel G' w' A' h' v x

theorem opOk_val (S : SatH G w A h) {s : Sem Value} {r : Result Next} (hr : r = (do pure (Next.value (← s)) : Sem Next).run P w) {v : AV} (hv : ∃ z, s.run P w = .ok z w ∧ Rel G w A h v z) : OpOk G w A h r v A h := by
  obtain ⟨z, h1, h2⟩ := hv
  exact ⟨.value z, z, w, G, by rw [hr]; simp [h1], .inl rfl, S, Evo.refl .., h2⟩

theorem opOk_step {s : Sem Value} {r : Result Next} (hr : r = (do pure (Next.value (← s)) : Sem Next).run P w) {v : AV} {A' : Nat → Prop} {h' : Heap} (hv : StepOk G w A h (s.run P w) v A' h') : OpOk G w A h r v A' h' := by
  obtain ⟨x, w', G', h1, h2, h3, h4⟩ := hv
  exact ⟨.value x, x, w', G', by rw [hr]; simp [h1], .inl rfl, h2, h3, h4⟩

theorem opOk_unit {s : Sem Unit} {r : Result Next} (hr : r = (do s; pure Next.skip : Sem Next).run P w) {A' : Nat → Prop} {h' : Heap} (hv : ∃ w', s.run P w = .ok () w' ∧ SatH G w' A' h' ∧ Evo G w A h G w' A' h') : OpOk G w A h r .any A' h' := by
  obtain ⟨w', h1, h2, h3⟩ := hv
  exact ⟨.skip, undef, w', G, by rw [hr]; simp [h1], .inr ⟨rfl, rfl⟩, h2, h3, .any ..⟩

theorem opA_sound (S : SatH G w A h) {id : Nat} (hA : ¬ A id) {ρ : Operand → AV} {ρc : Operand → Value} (hρ : ∀ x, Rel G w A h (ρ x) (ρc x)) {o : Oper} {v : AV} {h' : Heap} {fr : Bool}
    (hv : opA P h id ρ o.op = some (v, h', fr)) {A' : Nat → Prop} (hA' : ∀ j, A' j ↔ A j ∨ (fr = true ∧ j = id)) : OpOk G w A h ((execOp ρc o).run P w) v A' h' := by
  have same : fr = false → A' = A := fun e => funext fun j => propext (by rw [hA', e]; simp)
  have newA : fr = true → ∀ j, A' j ↔ A j ∨ j = id := fun e j => by rw [hA', e]; simp
  have hparts : ∀ (parts : Array (Nat × Operand)), (parts.toList.map fun p => (p.1, ρ p.2)).length = (parts.map fun (p : Nat × Operand) => (p.1, ρc p.2)).toList.length ∧
      ∀ (j : Nat) (i : Nat) (v : AV) (p : Nat × Value), (parts.toList.map fun p => (p.1, ρ p.2))[j]? = some (i, v) → (parts.map fun (p : Nat × Operand) => (p.1, ρc p.2)).toList[j]? = some p → p.1 = i ∧ Rel G w A h v p.2 := by
    intro parts
    refine ⟨by simp, fun j i v p hj hp => ?_⟩
    simp only [List.getElem?_map, Array.toList_map] at hj hp
    cases hq : parts.toList[j]? with
    | none => simp [hq] at hj
    | some q =>
      simp only [hq, Option.map_some, Option.some.injEq] at hj hp
      cases hj
      subst hp
      exact ⟨rfl, hρ _⟩
  have hopt : ∀ (x : Option Operand), RelOpt G w A h (x.map ρ) (x.map ρc) := fun x => by
    cases x with
    | none => trivial
    | some x => exact hρ x
  cases o with
  | mk dst op ty pos aft gd =>
  cases op with
  | move x =>
    simp only [opA, Option.some.injEq, Prod.mk.injEq] at hv
    obtain ⟨rfl, rfl, rfl⟩ := hv
    rw [same rfl]
    exact ⟨.value (ρc x), ρc x, w, G, rfl, .inl rfl, S, Evo.refl .., hρ x⟩
  | assign x =>
    simp only [opA, Option.some.injEq, Prod.mk.injEq] at hv
    obtain ⟨rfl, rfl, rfl⟩ := hv
    rw [same rfl]
    exact ⟨.value (ρc x), ρc x, w, G, rfl, .inl rfl, S, Evo.refl .., hρ x⟩
  | pick c a b =>
    simp only [opA] at hv
    split at hv
    · rename_i t hc
      simp only [Option.some.injEq, Prod.mk.injEq] at hv
      obtain ⟨rfl, rfl, rfl⟩ := hv
      rw [same rfl]
      have hb := hρ c
      rw [hc] at hb
      have hb' := hb.sc_inv
      cases t
      · exact ⟨.value (ρc b), ρc b, w, G, by simp [execOp, hb', asBool], .inl rfl, S, Evo.refl .., hρ b⟩
      · exact ⟨.value (ρc a), ρc a, w, G, by simp [execOp, hb', asBool], .inl rfl, S, Evo.refl .., hρ a⟩
    · cases hv
  | alloc t =>
    simp only [opA, Option.map_eq_some_iff, Prod.mk.injEq] at hv
    obtain ⟨h1, hh, rfl, rfl, rfl⟩ := hv
    exact opOk_step (P := P) rfl (allocA_sound S hA (newA rfl) hh)
  | box t x =>
    simp only [opA, Option.map_eq_some_iff, Prod.mk.injEq] at hv
    obtain ⟨cs, hcs, rfl, rfl, rfl⟩ := hv
    exact opOk_step (P := P) rfl (boxA_sound S hA (newA rfl) (hρ x) hcs)
  | build t parts =>
    simp only [opA, Option.map_eq_some_iff, Prod.mk.injEq] at hv
    obtain ⟨v0, hv0, rfl, rfl, rfl⟩ := hv
    rw [same rfl]
    exact opOk_val (P := P) S rfl (buildA_sound (hparts parts).1 (hparts parts).2 hv0)
  | buildSlice t len parts =>
    simp only [opA, Option.map_eq_some_iff, Prod.mk.injEq] at hv
    obtain ⟨⟨v0, h0⟩, hv0, rfl, rfl, rfl⟩ := hv
    exact opOk_step (P := P) rfl (buildSliceA_sound S hA (newA rfl) (hparts parts).1 (hparts parts).2 hv0)
  | load t a =>
    simp only [opA, Option.map_eq_some_iff, Prod.mk.injEq] at hv
    obtain ⟨v0, hv0, rfl, rfl, rfl⟩ := hv
    rw [same rfl]
    exact opOk_val (P := P) S rfl (loadA_sound S (hρ a) hv0)
  | store t a x =>
    simp only [opA, Option.map_eq_some_iff, Prod.mk.injEq] at hv
    obtain ⟨h0, hh, rfl, rfl, rfl⟩ := hv
    rw [same rfl]
    exact opOk_unit (P := P) rfl (storeA_sound S (hρ a) (hρ x) hh)
  | nilCheck x =>
    simp only [opA] at hv
    split at hv
    · rename_i cs hpc
      simp only [Option.some.injEq, Prod.mk.injEq] at hv
      obtain ⟨rfl, rfl, rfl⟩ := hv
      rw [same rfl]
      obtain ⟨b, o, _, hx, _⟩ := ptrCells_sound S (hρ x) hpc
      exact ⟨.value (ρc x), ρc x, w, G, by simp [execOp, hx], .inl rfl, S, Evo.refl .., hρ x⟩
    · cases hv
  | binOp op t x y yt =>
    simp only [opA, Option.map_eq_some_iff, Prod.mk.injEq] at hv
    obtain ⟨v0, hv0, rfl, rfl, rfl⟩ := hv
    rw [same rfl]
    exact opOk_val (P := P) S rfl (binA_sound S (hρ x) (hρ y) hv0)
  | unOp op t x =>
    simp only [opA, Option.map_eq_some_iff, Prod.mk.injEq] at hv
    obtain ⟨v0, hv0, rfl, rfl, rfl⟩ := hv
    rw [same rfl]
    exact opOk_val (P := P) S rfl (unA_sound (hρ x) hv0)
  | convert s d x =>
    simp only [opA, Option.map_eq_some_iff, Prod.mk.injEq] at hv
    obtain ⟨v0, hv0, rfl, rfl, rfl⟩ := hv
    rw [same rfl]
    exact opOk_val (P := P) S rfl (convA_sound (hρ x) hv0)
  | makeInterface t x =>
    simp only [opA, Option.map_eq_some_iff, Prod.mk.injEq] at hv
    obtain ⟨v0, hv0, rfl, rfl, rfl⟩ := hv
    rw [same rfl]
    exact opOk_val (P := P) S rfl (mkIfaceA_sound (hρ x) hv0)
  | makeFunc f first caps =>
    simp only [opA] at hv
    split at hv
    · rename_i hf
      simp only [Option.some.injEq, Prod.mk.injEq] at hv
      obtain ⟨rfl, rfl, rfl⟩ := hv
      rw [same rfl]
      have hfe : first = #[] := Array.eq_empty_of_size_eq_zero hf
      refine opOk_val (P := P) S rfl ⟨.func f #[] (caps.toList.map ρc).toArray, ?_, .fn _ _ f _ _ (by simp) fun j c hj => ?_⟩
      · subst hfe
        simp only [Instr.makeFunc, Sem.run_pure]
        congr 2
        · simp
        · apply Array.ext'
          simp
      · simp only [List.getElem?_map] at hj
        cases hq : caps.toList[j]? with
        | none => simp [hq] at hj
        | some q =>
          simp only [hq, Option.map_some, Option.some.injEq] at hj
          subst hj
          have : (caps.toList.map ρc).getD j undef = ρc q := by simp [List.getD, hq]
          rw [this]
          exact hρ q
    · cases hv
  | makeMap t r =>
    cases r with
    | none =>
      simp only [opA, Option.some.injEq, Prod.mk.injEq] at hv
      obtain ⟨rfl, rfl, rfl⟩ := hv
      exact opOk_step (P := P) rfl (makeMapA_sound S hA (newA rfl))
    | some _ => simp [opA] at hv
  | slice t x lo hi mx =>
    simp only [opA, Option.map_eq_some_iff, Prod.mk.injEq] at hv
    obtain ⟨v0, hv0, rfl, rfl, rfl⟩ := hv
    rw [same rfl]
    exact opOk_val (P := P) S rfl (sliceA_sound S (hρ x) (hopt lo) (hopt hi) (hopt mx) hv0)
  | fieldAddr s x f =>
    simp only [opA, Option.map_eq_some_iff, Prod.mk.injEq] at hv
    obtain ⟨v0, hv0, rfl, rfl, rfl⟩ := hv
    rw [same rfl]
    exact opOk_val (P := P) S rfl (fieldAddrA_sound S (hρ x) hv0)
  | field t x f =>
    simp only [opA, Option.map_eq_some_iff, Prod.mk.injEq] at hv
    obtain ⟨v0, hv0, rfl, rfl, rfl⟩ := hv
    rw [same rfl]
    exact opOk_val (P := P) S rfl (fieldA_sound (hρ x) hv0)
  | indexAddr t x i =>
    simp only [opA, Option.map_eq_some_iff, Prod.mk.injEq] at hv
    obtain ⟨v0, hv0, rfl, rfl, rfl⟩ := hv
    rw [same rfl]
    exact opOk_val (P := P) S rfl (indexAddrA_sound S (hρ x) (hρ i) hv0)
  | index t x i =>
    simp only [opA, Option.map_eq_some_iff, Prod.mk.injEq] at hv
    obtain ⟨v0, hv0, rfl, rfl, rfl⟩ := hv
    rw [same rfl]
    exact opOk_val (P := P) S rfl (indexA_sound (hρ x) (hρ i) hv0)
  | lookup t m k ok =>
    simp only [opA, Option.map_eq_some_iff, Prod.mk.injEq] at hv
    obtain ⟨v0, hv0, rfl, rfl, rfl⟩ := hv
    rw [same rfl]
    exact opOk_val (P := P) S rfl (lookupA_sound S (hρ m) (hρ k) hv0)
  | mapUpdate t m k x =>
    simp only [opA, Option.map_eq_some_iff, Prod.mk.injEq] at hv
    obtain ⟨h0, hh, rfl, rfl, rfl⟩ := hv
    rw [same rfl]
    exact opOk_unit (P := P) rfl (mapSetA_sound S (hρ m) (hρ k) (hρ x) hh)
  | insert t m k x =>
    simp only [opA, Option.map_eq_some_iff, Prod.mk.injEq] at hv
    obtain ⟨h0, hh, rfl, rfl, rfl⟩ := hv
    rw [same rfl]
    exact opOk_unit (P := P) rfl (mapSetA_sound S (hρ m) (hρ k) (hρ x) hh)
  | extract x i =>
    simp only [opA, Option.map_eq_some_iff, Prod.mk.injEq] at hv
    obtain ⟨v0, hv0, rfl, rfl, rfl⟩ := hv
    rw [same rfl]
    exact opOk_val (P := P) S rfl (extractA_sound (hρ x) hv0)
  | call c =>
    obtain ⟨callee, args, tys⟩ := c
    cases callee with
    | builtin b =>
      simp only [opA] at hv
      split at hv
      · rename_i x t ha ht
        simp only [Option.map_eq_some_iff, Prod.mk.injEq] at hv
        obtain ⟨v0, hv0, rfl, rfl, rfl⟩ := hv
        rw [same rfl]
        have ha' : args = #[x] := Array.ext' (by simpa using ha)
        have ht' : tys = #[t] := Array.ext' (by simpa using ht)
        subst ha'
        subst ht'
        refine opOk_val (P := P) S (s := Builtin.len_ #[t] ty #[ρc x]) ?_ (lenA_sound S (hρ x) hv0)
        simp [execOp, resolve, invoke, builtin]
      · rename_i s x t t' ha ht
        split at hv
        · rename_i htt
          subst htt
          have ha' : args = #[s, x] := Array.ext' (by simpa using ha)
          have ht' : tys = #[t, t] := Array.ext' (by simpa using ht)
          subst ha'
          subst ht'
          refine opOk_step (P := P) (s := Builtin.append_ #[t, t] ty #[ρc s, ρc x]) ?_ (appendA_sound S hA (hρ s) (hρ x) hv hA')
          simp [execOp, resolve, invoke, builtin]
        · cases hv
      · cases hv
    | value f => simp [opA] at hv
    | invoke r m => simp [opA] at hv
  | _ => simp [opA] at hv
end
end Go.Abs
