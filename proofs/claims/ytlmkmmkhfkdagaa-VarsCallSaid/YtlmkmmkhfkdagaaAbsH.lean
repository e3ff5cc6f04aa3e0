/- The abstract layer, part H: structs built; a slice's cells in one row; the operations that make or write memory. -/
import Derived.Test.YtlmkmmkhfkdagaaAbsG
set_option linter.unusedVariables false
set_option linter.unusedSimpArgs false
namespace Go.Abs
open Go.RowKit
section
variable {P : Program} {G : Gh} {w : World} {A : Nat → Prop} {h : Heap}

theorem mapM_places (fs : List Field) (hok : ∀ f ∈ fs, (P.info? f.type).isSome = true) :
    fs.mapM (fun f => (P.info? f.type).map fun i => (f.offset, i.size)) = some (fs.map fun f => (f.offset, ((P.info? f.type).map (·.size)).getD 0)) := by
  induction fs with
  | nil => simp
  | cons f fs ih =>
    obtain ⟨i, hi⟩ := Option.isSome_iff_exists.1 (hok f (by simp))
    have ih' := ih (fun g hg => hok g (by simp [hg]))
    rw [List.mapM_cons, ih']
    simp [hi]

theorem buildA_sound {t : TypeId} {parts : List (Nat × AV)} {ps : Array (Nat × Value)} {v : AV} (hl : parts.length = ps.toList.length)
    (hp : ∀ (j : Nat) (i : Nat) (v : AV) (p : Nat × Value), parts[j]? = some (i, v) → ps.toList[j]? = some p → p.1 = i ∧ Rel G w A h v p.2) (hv : buildA P t parts = some v) :
    ∃ z, (Instr.build t ps).run P w = .ok z w ∧ Rel G w A h v z := by
  unfold buildA at hv
  split at hv
  · cases hv
  · rename_i ti hti
    split at hv
    · cases hv
    · rename_i z hz
      split at hv
      · rename_i hzok
        obtain ⟨i, d, hi, hd, hzo, hfo⟩ := tiOf_build hti
        obtain ⟨i', d', hi', hd', _, _, _, hzero, _, har, _⟩ := tiOf_parts hti
        rw [hi] at hi'
        cases hi'
        rw [hd] at hd'
        cases hd'
        obtain ⟨z0, hz0, hz1, _⟩ := hzo hzok
        rw [hz0] at hzero
        simp only [Option.map_some, hz] at hzero
        cases hzero
        have hzr : (zeroValue t).run P w = .ok z0 w := by simp [zeroValue, typeInfo, hi, hz0]
        have hrz : Rels G w A h (z0.cells.toList.map ofConst) z0.cells.toList := rels_ofConst _
        split at hv
        · rename_i n e hae
          split at hv
          · cases hv
          · rename_i te hte
            obtain rfl := har n e hae
            simp only [Option.map_eq_some_iff] at hv
            obtain ⟨r, hr, rfl⟩ := hv
            obtain ⟨out, ho1, ho2, ho3⟩ := fillA_sound hrz hz1 hl hp hr
            refine ⟨.agg out, ?_, ?_⟩
            · simp [Instr.build, hzr, run_underlying hd, run_sizeOf (P := P) hte w, ho1]
            · have := Rel.agg A h r out.toList ho2.1 ho3 ho2.2
              simpa using this
        · split at hv
          · rename_i hf
            obtain ⟨fs, rfl, hfok, hfs⟩ := hfo hf
            simp only [Option.map_eq_some_iff] at hv
            obtain ⟨r, hr, rfl⟩ := hv
            obtain ⟨out, ho1, ho2, ho3⟩ := fillA_sound hrz hz1 hl hp hr
            refine ⟨.agg out, ?_, ?_⟩
            · refine run_build w t ps out ?_
              have hpl := mapM_places (P := P) fs.toList (fun f hf => (Bool.and_eq_true _ _ ▸ hfok f hf).1)
              have hfun : (fun (i : Nat) => (ti.fields[i]?).map fun (f : FI) => (f.off, f.size)) = fun x => (fs.toList.map fun f => (f.offset, ((P.info? f.type).map (·.size)).getD 0)).toArray[x]? := by
                funext x
                rw [hfs]
                simp only [List.getElem?_map, Option.map_map, List.getElem?_toArray]
                rfl
              rw [hfun] at ho1
              simp only [Program.built, hi, hd, hz0, hpl]
              exact ho1
            · have := Rel.agg A h r out.toList ho2.1 ho3 ho2.2
              simpa using this
          · cases hv
      · cases hv

theorem fieldA_sound {t : TypeId} {x v : AV} {a : Value} {f : Nat} (hx : Rel G w A h x a) (hv : fieldA P t x f = some v) : ∃ z, (Instr.field t a f).run P w = .ok z w ∧ Rel G w A h v z := by
  unfold fieldA at hv
  split at hv
  · rename_i ti cs hti
    split at hv
    · rename_i hfo
      split at hv
      · rename_i fi hfi
        obtain ⟨i0, d0, hi0, hd0, _, hfok⟩ := tiOf_build hti
        obtain ⟨fs0, rfl, hall, _⟩ := hfok hfo
        obtain ⟨d, hd, _, _, _, _, hfields, _⟩ := tiOf_more hti
        obtain ⟨fs, fl, rfl, hfl, ho, hsize, hag, _⟩ := hfields f fi hfi
        rw [hd] at hd0
        cases hd0
        have hall' := hall fl (by rw [← Array.getElem?_toList] at hfl; exact List.mem_of_getElem? hfl)
        rw [Bool.and_eq_true] at hall'
        obtain ⟨hin', hu⟩ := hall'
        obtain ⟨i, hin⟩ := Option.isSome_iff_exists.1 hin'
        simp [hin] at hsize
        obtain ⟨vs, rfl, h1, hr⟩ := hx.agg_inv
        split at hv
        · rename_i hagg
          split at hv
          · rename_i hle
            cases hv
            rw [hagg] at hag
            have hlen : cs.length = vs.length := hr.1
            have hpt := run_part (P := P) (w := w) (xs := vs) (t := fl.type) (o := fi.off) (n := fi.size) (by simp [hin, hsize]) hu (.inl hag.symm) (by omega)
            refine ⟨_, ?_, .agg _ _ ((cs.drop fi.off).take fi.size) ((vs.drop fi.off).take fi.size) ((hr.drop _).take _).1 (fun u hu => h1 u (List.mem_of_mem_drop (List.mem_of_mem_take hu))) ((hr.drop _).take _).2⟩
            simp only [Instr.field, Sem.run_bind, run_underlying hd, Result.andThen_ok, hfl, asAgg, Sem.run_pure, ← ho, hpt, ofCells, ← hag, if_true]
          · cases hv
        · rename_i hagg
          have hagg' : aggT P fl.type = false := by rw [← hag]; simpa using hagg
          have hi := isAgg_run (P := P) (w := w) hu
          have hlt : fi.off < vs.length := hr.1 ▸ (List.getElem?_eq_some_iff.1 hv).1
          have hg := getD_of_lt hlt
          refine ⟨vs.getD fi.off undef, ?_, hr.2 _ _ hv⟩
          simp only [Instr.field, Sem.run_bind, run_underlying hd, Result.andThen_ok, hfl, asAgg, Sem.run_pure, ← ho, part, hi, hagg', Bool.false_eq_true, if_false, List.getElem?_toArray, hg]
      · cases hv
    · cases hv
  · cases hv
end
end Go.Abs
