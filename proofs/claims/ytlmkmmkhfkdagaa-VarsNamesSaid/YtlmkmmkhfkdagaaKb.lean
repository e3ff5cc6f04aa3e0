/- The abstract layer: operations, the second part, and one step whole. -/
import Derived.Test.YtlmkmmkhfkdagaaKa

/- The abstract layer, part G: rows of cells: what is laid over them, what a slice's cells are in one row; structs and slices built. -/
set_option linter.unusedVariables false
set_option linter.unusedSimpArgs false
namespace Go.Abs
open Go.RowKit

/-- A list with another one laid over it from a place on. -/
def putAt {α : Type} (cs : List α) (off : Nat) (ns : List α) : List α := cs.take off ++ ns ++ cs.drop (off + ns.length)

theorem putAt_length {α : Type} {cs ns : List α} {off : Nat} (hl : off + ns.length ≤ cs.length) : (putAt cs off ns).length = cs.length := by
  simp [putAt]; omega

theorem putAt_get {α : Type} {cs ns : List α} {off : Nat} (hl : off + ns.length ≤ cs.length) (j : Nat) :
    (putAt cs off ns)[j]? = if j < off then cs[j]? else if j < off + ns.length then ns[j - off]? else cs[j]? := by
  unfold putAt
  by_cases h1 : j < off
  · rw [List.append_assoc, List.getElem?_append_left (by simp; omega), List.getElem?_take]
    simp [h1]
  · by_cases h2 : j < off + ns.length
    · rw [List.append_assoc, List.getElem?_append_right (by simp; omega), List.getElem?_append_left (by simp; omega)]
      simp only [h1, h2, if_false, if_true, List.length_take]
      congr 1
      omega
    · rw [List.getElem?_append_right (by simp; omega), List.getElem?_drop]
      simp only [h1, h2, if_false, List.length_append, List.length_take]
      congr 1
      omega

section
variable {P : Program} {G : Gh} {w : World} {A : Nat → Prop} {h : Heap}

theorem Rels.nil : Rels G w A h [] [] := ⟨rfl, fun j c hj => by simp at hj⟩

theorem rels_iff {cs : List AV} {vs : List Value} : Rels G w A h cs vs ↔ cs.length = vs.length ∧ ∀ (j : Nat) (c : AV) (v : Value), cs[j]? = some c → vs[j]? = some v → Rel G w A h c v := by
  constructor
  · intro r
    refine ⟨r.1, fun j c v hj hv => ?_⟩
    have := r.2 j c hj
    rwa [List.getD, hv] at this
  · intro r
    refine ⟨r.1, fun j c hj => ?_⟩
    have hlt : j < vs.length := r.1 ▸ (List.getElem?_eq_some_iff.1 hj).1
    exact r.2 j c _ hj (getD_of_lt hlt)

theorem Rels.append {cs ds : List AV} {xs ys : List Value} (hx : Rels G w A h cs xs) (hy : Rels G w A h ds ys) : Rels G w A h (cs ++ ds) (xs ++ ys) := by
  rw [rels_iff] at *
  refine ⟨by simp [hx.1, hy.1], fun j c v hj hv => ?_⟩
  by_cases hlt : j < cs.length
  · rw [List.getElem?_append_left hlt] at hj
    rw [List.getElem?_append_left (by rw [← hx.1]; exact hlt)] at hv
    exact hx.2 j c v hj hv
  · rw [List.getElem?_append_right (by omega)] at hj
    rw [List.getElem?_append_right (by rw [← hx.1]; omega)] at hv
    rw [hx.1] at hj
    exact hy.2 _ c v hj hv

theorem Rels.take {cs : List AV} {xs : List Value} (hx : Rels G w A h cs xs) (n : Nat) : Rels G w A h (cs.take n) (xs.take n) := by
  rw [rels_iff] at *
  refine ⟨by simp [hx.1], fun j c v hj hv => ?_⟩
  rw [List.getElem?_take] at hj hv
  split at hj
  · rename_i hlt; simp only [hlt, if_true] at hv; exact hx.2 j c v hj hv
  · cases hj

theorem Rels.drop {cs : List AV} {xs : List Value} (hx : Rels G w A h cs xs) (n : Nat) : Rels G w A h (cs.drop n) (xs.drop n) := by
  rw [rels_iff] at *
  refine ⟨by simp [hx.1], fun j c v hj hv => ?_⟩
  rw [List.getElem?_drop] at hj hv
  exact hx.2 _ c v hj hv

theorem Rels.putAt {cs ds : List AV} {xs ys : List Value} (hx : Rels G w A h cs xs) (hy : Rels G w A h ds ys) (off : Nat) : Rels G w A h (putAt cs off ds) (putAt xs off ys) := by
  unfold Abs.putAt
  rw [hy.1]
  exact ((hx.take off).append hy).append (hx.drop _)

theorem rel_ofConst (v : Value) : Rel G w A h (ofConst v) v := by
  unfold ofConst
  split
  · exact .emp ..
  · exact .sc ..

theorem rels_ofConst (vs : List Value) : Rels G w A h (vs.map ofConst) vs := by
  rw [rels_iff]
  refine ⟨by simp, fun j c v hj hv => ?_⟩
  simp [hv] at hj
  subst hj
  exact rel_ofConst v

/-- A value's cells. -/
def cellsA : AV → Option (List AV)
  | .agg cs => some cs
  | v => if v.one then some [v] else none

theorem oneCell_cells {x : Value} (h1 : x.oneCell' = true) : x.cells = #[x] := by
  cases x <;> first | rfl | simp [Value.oneCell'] at h1

theorem cellsA_sound {v : AV} {x : Value} (r : Rel G w A h v x) {cs : List AV} (hc : cellsA v = some cs) : Rels G w A h cs x.cells.toList ∧ ∀ u ∈ x.cells.toList, u.oneCell' = true := by
  have one : v.one = true → cs = [v] → Rels G w A h cs x.cells.toList ∧ ∀ u ∈ x.cells.toList, u.oneCell' = true := by
    intro h1 hcs
    have hx := r.one h1
    rw [oneCell_cells hx, hcs]
    refine ⟨rels_iff.2 ⟨rfl, fun j c u hj hu => ?_⟩, fun u hu => ?_⟩
    · cases j with
      | zero => simp at hj hu; subst hj; subst hu; exact r
      | succ j => simp at hj
    · simp at hu; subst hu; exact hx
  unfold cellsA at hc
  split at hc
  · cases hc
    obtain ⟨vs, rfl, h1, hr⟩ := r.agg_inv
    exact ⟨by simpa [Value.cells] using hr, by simpa [Value.cells] using h1⟩
  · split at hc
    · rename_i h1
      cases hc
      exact one h1 rfl
    · cases hc

/-! ### Structs -/

def fillA (place : Nat → Option (Nat × Nat)) : List AV → List (Nat × AV) → Option (List AV)
  | cells, [] => some cells
  | cells, (i, v) :: rest => match place i, cellsA v with
    | some (off, size), some cs => if cs.length = size ∧ off + cs.length ≤ cells.length then fillA place (putAt cells off cs) rest else none
    | _, _ => none

theorem foldl_put : ∀ (vs : List Value) (i off : Nat) (cells : Array Value), off + i + vs.length ≤ cells.size →
    ((vs.zipIdx i).foldl (fun cs (x : Value × Nat) => cs.setIfInBounds (off + x.2) x.1) cells).toList = putAt cells.toList (off + i) vs
  | [], i, off, cells, _ => by simp [putAt]
  | v :: vs, i, off, cells, hl => by
    simp only [List.zipIdx_cons, List.foldl_cons, List.length_cons] at hl ⊢
    rw [foldl_put vs (i + 1) off _ (by simp; omega)]
    apply List.ext_getElem?
    intro j
    rw [putAt_get (by simp; omega), putAt_get (by simp; omega)]
    simp only [Array.toList_setIfInBounds, List.getElem?_set, List.length_cons, Array.length_toList]
    by_cases h1 : j < off + i
    · have : ¬ off + i = j := by omega
      simp [h1, this, show j < off + (i + 1) by omega]
    · by_cases h2 : j = off + i
      · subst h2
        have h3 : off + i < cells.size := by omega
        simp [show off + i < off + (i + 1) by omega, h3]
      · by_cases h4 : j < off + (i + 1) + vs.length
        · have h5 : ¬ j < off + (i + 1) := by omega
          have h6 : j - (off + i) = (j - (off + (i + 1))) + 1 := by omega
          simp only [h1, h5, h4, show j < off + i + (vs.length + 1) by omega, if_false, if_true]
          rw [h6, List.getElem?_cons_succ]
        · have h5 : ¬ j < off + (i + 1) := by omega
          have h7 : ¬ j < off + i + (vs.length + 1) := by omega
          have h8 : ¬ off + i = j := by omega
          simp only [h1, h5, h4, h7, h8, if_false]

theorem fill_one (v : Value) (off : Nat) (cells : Array Value) (hl : off + v.cells.size ≤ cells.size) :
    (v.cells.zipIdx.foldl (fun cs (c, j) => cs.setIfInBounds (off + j) c) cells).toList = putAt cells.toList off v.cells.toList := by
  have h1 := foldl_put v.cells.toList 0 off cells (by simpa using hl)
  rw [Nat.add_zero] at h1
  rw [← h1, ← Array.foldl_toList]
  congr 2
  simp

theorem fillA_sound {place : Nat → Option (Nat × Nat)} : ∀ {parts : List (Nat × AV)} {ps : List (Nat × Value)} {cells : List AV} {cs : Array Value} {r : List AV},
    Rels G w A h cells cs.toList → (∀ v ∈ cs.toList, v.oneCell' = true) → parts.length = ps.length → (∀ (j : Nat) (i : Nat) (v : AV) (p : Nat × Value), parts[j]? = some (i, v) → ps[j]? = some p → p.1 = i ∧ Rel G w A h v p.2) →
    fillA place cells parts = some r → ∃ out, Instr.fill place cs ps = some out ∧ Rels G w A h r out.toList ∧ (∀ v ∈ out.toList, v.oneCell' = true)
  | [], [], cells, cs, r, hc, h1, _, _, hv => by
    simp only [fillA] at hv
    cases hv
    exact ⟨cs, rfl, hc, h1⟩
  | [], _ :: _, _, _, _, _, _, hl, _, _ => by simp at hl
  | _ :: _, [], _, _, _, _, _, hl, _, _ => by simp at hl
  | (i, v) :: parts, (i', x) :: ps, cells, cs, r, hc, h1, hl, hp, hv => by
    obtain ⟨rfl, hx⟩ := hp 0 i v (i', x) rfl rfl
    simp only [fillA] at hv
    split at hv
    · rename_i off size ds hpl hds
      split at hv
      · rename_i hok
        obtain ⟨hd1, hd2⟩ := cellsA_sound hx hds
        have hlen : x.cells.size = ds.length := by rw [hd1.1]; simp
        have hcl : cells.length = cs.size := by rw [hc.1]; simp
        have hfill := fill_one x off cs (by omega)
        obtain ⟨out, ho1, ho2, ho3⟩ := fillA_sound (cs := (x.cells.zipIdx.foldl (fun cs (c, j) => cs.setIfInBounds (off + j) c) cs)) (parts := parts) (ps := ps) (by rw [hfill]; exact hc.putAt hd1 off) (by
            rw [hfill]
            intro u hu
            unfold putAt at hu
            simp only [List.mem_append] at hu
            rcases hu with (hu | hu) | hu
            · exact h1 u (List.mem_of_mem_take hu)
            · exact hd2 u hu
            · exact h1 u (List.mem_of_mem_drop hu)) (by simpa using hl) (fun j i v p hj hpj => hp (j + 1) i v p (by simpa using hj) (by simpa using hpj)) hv
        refine ⟨out, ?_, ho2, ho3⟩
        simp only [Instr.fill, hpl]
        have hno : ¬ (x.cells.size ≠ size ∨ off + x.cells.size > cs.size) := by
          rw [hlen]; omega
        simpa [hno] using ho1
      · cases hv
    · cases hv

def buildA (P : Program) (t : TypeId) (parts : List (Nat × AV)) : Option AV :=
  match tiOf P t with
  | none => none
  | some ti => match ti.zero with
    | none => none
    | some z =>
      if ti.zeroOk then
        match ti.arr with
        | some (_, e) => match tiOf P e with
          | none => none
          | some te => (fillA (fun i => some (i * te.size, te.size)) z parts).map .agg
        | none => if ti.fieldsOk then (fillA (fun i => (ti.fields[i]?).map fun f => (f.off, f.size)) z parts).map .agg else none
      else none

end
end Go.Abs

/- The abstract layer, part H: structs built; a slice's cells in one row; the operations that make or write memory. -/
set_option linter.unusedVariables false
set_option linter.unusedSimpArgs false
namespace Go.Abs
open Go.RowKit
section
variable {P : Program} {G : Gh} {w : World} {A : Nat → Prop} {h : Heap}

theorem mapM_places (fs : List Field) (hok : ∀ f ∈ fs, (P.info? f.type).isSome = true) :
    fs.mapM (fun f => (P.info? f.type).map fun i => (f.offset, i.size)) = some (fs.map fun f => (f.offset, ((P.info? f.type).map (·.size)).getD 0)) := by
  induction fs with
  | nil => simp
  | cons f fs ih =>
    obtain ⟨i, hi⟩ := Option.isSome_iff_exists.1 (hok f (by simp))
    have ih' := ih (fun g hg => hok g (by simp [hg]))
    rw [List.mapM_cons, ih']
    simp [hi]

theorem buildA_sound {t : TypeId} {parts : List (Nat × AV)} {ps : Array (Nat × Value)} {v : AV} (hl : parts.length = ps.toList.length)
    (hp : ∀ (j : Nat) (i : Nat) (v : AV) (p : Nat × Value), parts[j]? = some (i, v) → ps.toList[j]? = some p → p.1 = i ∧ Rel G w A h v p.2) (hv : buildA P t parts = some v) :
    ∃ z, (Instr.build t ps).run P w = .ok z w ∧ Rel G w A h v z := by
  unfold buildA at hv
  split at hv
  · cases hv
  · rename_i ti hti
    split at hv
    · cases hv
    · rename_i z hz
      split at hv
      · rename_i hzok
        obtain ⟨i, d, hi, hd, hzo, hfo⟩ := tiOf_build hti
        obtain ⟨i', d', hi', hd', _, _, _, hzero, _, har, _⟩ := tiOf_parts hti
        rw [hi] at hi'
        cases hi'
        rw [hd] at hd'
        cases hd'
        obtain ⟨z0, hz0, hz1, _⟩ := hzo hzok
        rw [hz0] at hzero
        simp only [Option.map_some, hz] at hzero
        cases hzero
        have hzr : (zeroValue t).run P w = .ok z0 w := by simp [zeroValue, typeInfo, hi, hz0]
        have hrz : Rels G w A h (z0.cells.toList.map ofConst) z0.cells.toList := rels_ofConst _
        split at hv
        · rename_i n e hae
          split at hv
          · cases hv
          · rename_i te hte
            obtain rfl := har n e hae
            simp only [Option.map_eq_some_iff] at hv
            obtain ⟨r, hr, rfl⟩ := hv
            obtain ⟨out, ho1, ho2, ho3⟩ := fillA_sound hrz hz1 hl hp hr
            refine ⟨.agg out, ?_, ?_⟩
            · simp [Instr.build, hzr, run_underlying hd, run_sizeOf (P := P) hte w, ho1]
            · have := Rel.agg A h r out.toList ho2.1 ho3 ho2.2
              simpa using this
        · split at hv
          · rename_i hf
            obtain ⟨fs, rfl, hfok, hfs⟩ := hfo hf
            simp only [Option.map_eq_some_iff] at hv
            obtain ⟨r, hr, rfl⟩ := hv
            obtain ⟨out, ho1, ho2, ho3⟩ := fillA_sound hrz hz1 hl hp hr
            refine ⟨.agg out, ?_, ?_⟩
            · refine run_build w t ps out ?_
              have hpl := mapM_places (P := P) fs.toList (fun f hf => (Bool.and_eq_true _ _ ▸ hfok f hf).1)
              have hfun : (fun (i : Nat) => (ti.fields[i]?).map fun (f : FI) => (f.off, f.size)) = fun x => (fs.toList.map fun f => (f.offset, ((P.info? f.type).map (·.size)).getD 0)).toArray[x]? := by
                funext x
                rw [hfs]
                simp only [List.getElem?_map, Option.map_map, List.getElem?_toArray]
                rfl
              rw [hfun] at ho1
              simp only [Program.built, hi, hd, hz0, hpl]
              exact ho1
            · have := Rel.agg A h r out.toList ho2.1 ho3 ho2.2
              simpa using this
          · cases hv
      · cases hv

theorem fieldA_sound {t : TypeId} {x v : AV} {a : Value} {f : Nat} (hx : Rel G w A h x a) (hv : fieldA P t x f = some v) : ∃ z, (Instr.field t a f).run P w = .ok z w ∧ Rel G w A h v z := by
  unfold fieldA at hv
  split at hv
  · rename_i ti cs hti
    split at hv
    · rename_i hfo
      split at hv
      · rename_i fi hfi
        obtain ⟨i0, d0, hi0, hd0, _, hfok⟩ := tiOf_build hti
        obtain ⟨fs0, rfl, hall, _⟩ := hfok hfo
        obtain ⟨d, hd, _, _, _, _, hfields, _⟩ := tiOf_more hti
        obtain ⟨fs, fl, rfl, hfl, ho, hsize, hag, _⟩ := hfields f fi hfi
        rw [hd] at hd0
        cases hd0
        have hall' := hall fl (by rw [← Array.getElem?_toList] at hfl; exact List.mem_of_getElem? hfl)
        rw [Bool.and_eq_true] at hall'
        obtain ⟨hin', hu⟩ := hall'
        obtain ⟨i, hin⟩ := Option.isSome_iff_exists.1 hin'
        simp [hin] at hsize
        obtain ⟨vs, rfl, h1, hr⟩ := hx.agg_inv
        split at hv
        · rename_i hagg
          split at hv
          · rename_i hle
            cases hv
            rw [hagg] at hag
            have hlen : cs.length = vs.length := hr.1
            have hpt := run_part (P := P) (w := w) (xs := vs) (t := fl.type) (o := fi.off) (n := fi.size) (by simp [hin, hsize]) hu (.inl hag.symm) (by omega)
            refine ⟨_, ?_, .agg _ _ ((cs.drop fi.off).take fi.size) ((vs.drop fi.off).take fi.size) ((hr.drop _).take _).1 (fun u hu => h1 u (List.mem_of_mem_drop (List.mem_of_mem_take hu))) ((hr.drop _).take _).2⟩
            simp only [Instr.field, Sem.run_bind, run_underlying hd, Result.andThen_ok, hfl, asAgg, Sem.run_pure, ← ho, hpt, ofCells, ← hag, if_true]
          · cases hv
        · rename_i hagg
          have hagg' : aggT P fl.type = false := by rw [← hag]; simpa using hagg
          have hi := isAgg_run (P := P) (w := w) hu
          have hlt : fi.off < vs.length := hr.1 ▸ (List.getElem?_eq_some_iff.1 hv).1
          have hg := getD_of_lt hlt
          refine ⟨vs.getD fi.off undef, ?_, hr.2 _ _ hv⟩
          simp only [Instr.field, Sem.run_bind, run_underlying hd, Result.andThen_ok, hfl, asAgg, Sem.run_pure, ← ho, part, hi, hagg', Bool.false_eq_true, if_false, List.getElem?_toArray, hg]
      · cases hv
    · cases hv
  · cases hv
end
end Go.Abs

/- The abstract layer, part I: the operations that make or write memory: new variables, stores, slices built, append. -/
set_option linter.unusedVariables false
set_option linter.unusedSimpArgs false
namespace Go.Abs
open Go.RowKit
section
variable {P : Program} {G : Gh} {w : World} {A : Nat → Prop} {h : Heap}

/-- What an operation's run comes to. -/
def StepOk (G : Gh) (w : World) (A : Nat → Prop) (h : Heap) (r : Result Value) (v : AV) (A' : Nat → Prop) (h' : Heap) : Prop :=
  ∃ x w' G', r = .ok x w' ∧ SatH G' w' A' h' ∧ Evo G w A h G' w' A' h' ∧ Rel G' w' A' h' v x

/-- A value laid into a new block of cells. -/
theorem new_box (S : SatH G w A h) {id : Nat} (hA : ¬ A id) {A' : Nat → Prop} (hA' : ∀ j, A' j ↔ A j ∨ j = id) {cs : List AV} {vs : Array Value} (T : TypeId)
    (hr : Rels G w A h cs vs.toList) (h1 : ∀ u ∈ vs.toList, u.oneCell' = true) :
    StepOk G w A h (.ok (.pointer (some ⟨w.heap.size, 0, none⟩)) (w.alloc (.cells vs T))) (.ptr id 0) A' (hc id (.box cs) h) := by
  have N := new_obj (o := .box cs) (w' := w.alloc (.cells vs T)) (l := some ⟨w.heap.size, 0, none⟩) (c := 0) S hA hA' rfl rfl rfl (by simp) (fun b hb => Below.heap_alloc w _ b hb)
    (fun a ha => by cases ha; simp) (fun C => ⟨w.heap.size, T, vs, Gh.put_loc_same _ _ _, heap_alloc_at w _, hr.compat C, h1⟩)
  refine ⟨_, _, _, rfl, N.1, N.2, .ptr _ _ _ _ _ ((hA' id).2 (.inr rfl)) rfl fun cs' hl => ⟨w.heap.size, Gh.put_loc_same _ _ _, rfl⟩⟩

def allocA (P : Program) (id : Nat) (t : TypeId) (h : Heap) : Option Heap :=
  match tiOf P t with
  | none => none
  | some ti => match ti.zero with
    | none => none
    | some z => if ti.zeroOk then some (hc id (.box z) h) else none

theorem allocA_sound (S : SatH G w A h) {id : Nat} (hA : ¬ A id) {A' : Nat → Prop} (hA' : ∀ j, A' j ↔ A j ∨ j = id) {t : TypeId} {h' : Heap} (hv : allocA P id t h = some h') :
    StepOk G w A h ((Instr.alloc t true (.tuple #[])).run P w) (.ptr id 0) A' h' := by
  unfold allocA at hv
  split at hv
  · cases hv
  · rename_i ti hti
    split at hv
    · cases hv
    · rename_i z hz
      split at hv
      · rename_i hzok
        cases hv
        obtain ⟨i, d, hi, hd, hzo, _⟩ := tiOf_build hti
        obtain ⟨i', d', hi', hd', _, _, _, hzero, _⟩ := tiOf_parts hti
        rw [hi] at hi'
        cases hi'
        obtain ⟨z0, hz0, hz1, _⟩ := hzo hzok
        rw [hz0] at hzero
        simp only [Option.map_some, hz] at hzero
        cases hzero
        have := new_box S hA hA' t (rels_ofConst (G := G) (w := w) (A := A) (h := h) z0.cells.toList) hz1
        have hrun : (Instr.alloc t true (.tuple #[])).run P w = .ok (.pointer (some ⟨w.heap.size, 0, none⟩)) (w.alloc (.cells z0.cells t)) := by
          simp [Instr.alloc, zeroValue, typeInfo, hi, hz0, newVar, newRow]
        rw [hrun]
        exact this
      · cases hv

theorem boxA_sound (S : SatH G w A h) {id : Nat} (hA : ¬ A id) {A' : Nat → Prop} (hA' : ∀ j, A' j ↔ A j ∨ j = id) {t : TypeId} {v : AV} {x : Value} (r : Rel G w A h v x) {cs : List AV} (hcs : cellsA v = some cs) :
    StepOk G w A h ((Instr.box t x).run P w) (.ptr id 0) A' (hc id (.box cs) h) := by
  obtain ⟨h1, h2⟩ := cellsA_sound r hcs
  have := new_box S hA hA' t h1 h2
  have hrun : (Instr.box t x).run P w = .ok (.pointer (some ⟨w.heap.size, 0, none⟩)) (w.alloc (.cells x.cells t)) := by
    simp [Instr.box, newVar, newRow]
  rw [hrun]
  exact this

/-! ### Stores -/

def storeA (P : Program) (h : Heap) (t : TypeId) (a x : AV) : Option Heap :=
  match tiOf P t, cellsA x with
  | some ti, some ns =>
    if ns.length = ti.size then
      match a with
      | .ptr id off => match look id h with
        | some (.box cs) => if off + ns.length ≤ cs.length then some (upd id (.box (putAt cs off ns)) h) else none
        | _ => none
      | .eptr id g i off => match look id h with
        | some (.arr g' sz L) => if g = g' then (match L[i]? with
          | some cs => if off + ns.length ≤ cs.length then some (upd id (.arr g' sz (L.set i (putAt cs off ns))) h) else none
          | none => none) else none
        | _ => none
      | _ => none
    else none
  | _, _ => none

theorem setRow_frame (w : World) (g : Nat) (cs : Array Value) : (w.setRow g cs).os = w.os ∧ (w.setRow g cs).tape = w.tape ∧ (w.setRow g cs).output = w.output ∧ (w.setRow g cs).heap.size = w.heap.size := by
  refine ⟨rfl, rfl, rfl, by simp [World.setRow]⟩

/-- A row of cells laid into a block. -/
theorem run_putCells {b off : Nat} {T : TypeId} {vs : Array Value} {ns : List Value} (hh : w.heap[b]? = some (.cells vs T (0, 0))) (hl : off + ns.length ≤ vs.size) (h1 : ∀ u ∈ ns, u.oneCell' = true) :
    (storeCells ⟨b, off, none⟩ ns).run P w = .ok () (w.setRow b (putAt vs.toList off ns).toArray) := by
  have := run_storeCells_at P b off T ns 0 vs w hh (by omega) h1
  simpa [putAt] using this

theorem storeA_sound (S : SatH G w A h) {t : TypeId} {a x : AV} {av xv : Value} (ra : Rel G w A h a av) (rx : Rel G w A h x xv) {h' : Heap} (hv : storeA P h t a x = some h') :
    ∃ w', (Instr.storeAt t av xv).run P w = .ok () w' ∧ SatH G w' A h' ∧ Evo G w A h G w' A h' := by
  unfold storeA at hv
  split at hv
  · rename_i ti ns hti hns
    obtain ⟨hnr, hn1⟩ := cellsA_sound rx hns
    have hnl : ns.length = xv.cells.size := by rw [hnr.1]; simp
    split at hv
    · rename_i hsz
      have hsize := run_sizeOf (P := P) hti w
      split at hv
      · -- a variable
        rename_i id off
        split at hv
        · rename_i cs hl
          split at hv
          · rename_i hle
            cases hv
            obtain ⟨hid, _, ho⟩ := ra.ptr_inv
            obtain ⟨b, hb, rfl⟩ := ho _ hl
            obtain ⟨b', T, vs, hb', hh, hr, h1⟩ := (S.obj _ _ hl).2
            rw [hb] at hb'
            cases hb'
            have hcl : cs.length = vs.size := by rw [hr.1]; simp
            have hrun := run_putCells (P := P) (w := w) (ns := xv.cells.toList) (off := off) hh (by simp; omega) hn1
            refine ⟨w.setRow b (putAt vs.toList off xv.cells.toList).toArray, ?_, ?_⟩
            · have hne : ¬ (xv.cells.size ≠ ti.size) := by omega
              simp [Instr.storeAt, Instr.sureAddr, storeVar, hsize, hne, hrun]
            · obtain ⟨f1, f2, f3, f4⟩ := setRow_frame w b (putAt vs.toList off xv.cells.toList).toArray
              exact upd_obj S hl hb f1 f2 f3 f4 (fun b' hb' => setRow_other w b b' _ hb') rfl fun C => ⟨b, T, _, hb, setRow_heap w b vs _ T (0, 0) hh, by
                simpa using (hr.putAt hnr off).compat C, by
                intro u hu
                simp only [putAt, List.mem_append] at hu
                rcases hu with (hu | hu) | hu
                · exact h1 u (List.mem_of_mem_take hu)
                · exact hn1 u hu
                · exact h1 u (List.mem_of_mem_drop hu)⟩
          · cases hv
        · cases hv
      · -- an element
        rename_i id g i off
        split at hv
        · rename_i g' sz L hl
          split at hv
          · rename_i hg
            subst hg
            split at hv
            · rename_i cs hi
              split at hv
              · rename_i hle
                cases hv
                obtain ⟨hid, _, ho⟩ := ra.eptr_inv
                obtain ⟨b, o, hb, rfl⟩ := (ho _ _ _ hl).2 rfl
                rcases (S.obj _ _ hl).2 with ⟨rfl, _, _⟩ | ⟨b', o', T, vs, hb', hh, h3, h4, h5, h6⟩
                · simp at hi
                · rw [hb] at hb'
                  cases hb'
                  have hcs := h5 i cs hi
                  have hilt : i < L.length := (List.getElem?_eq_some_iff.1 hi).1
                  have hfit : i * sz + sz ≤ G.cap id * sz := by rw [← Nat.succ_mul]; exact Nat.mul_le_mul_right _ (by omega)
                  have hrun := run_putCells (P := P) (w := w) (ns := xv.cells.toList) (off := o + i * sz + off) hh (by simp; omega) hn1
                  refine ⟨w.setRow b (putAt vs.toList (o + i * sz + off) xv.cells.toList).toArray, ?_, ?_⟩
                  · have hne : ¬ (xv.cells.size ≠ ti.size) := by omega
                    simp [Instr.storeAt, Instr.sureAddr, storeVar, hsize, hne, hrun]
                  · obtain ⟨f1, f2, f3, f4⟩ := setRow_frame w b (putAt vs.toList (o + i * sz + off) xv.cells.toList).toArray
                    have hpl : (putAt vs.toList (o + i * sz + off) xv.cells.toList).length = vs.size := by
                      rw [putAt_length (by simp; omega)]; simp
                    refine upd_obj S hl hb f1 f2 f3 f4 (fun b' hb' => setRow_other w b b' _ hb') (.inr ⟨rfl, rfl, by simp, rfl, rfl⟩) fun C => .inr ⟨b, o, T, _, hb, setRow_heap w b vs _ T (0, 0) hh, by simp [hpl]; omega, by simpa using h4, ?_, ?_⟩
                    · intro k ds hk
                      by_cases hik : i = k
                      · subst hik
                        rw [List.getElem?_set_self hilt] at hk
                        cases hk
                        rw [putAt_length hle, hcs]
                      · rw [List.getElem?_set_ne hik] at hk
                        exact h5 k ds hk
                    · intro k ds hk j c hj
                      have hgd : ∀ n, (putAt vs.toList (o + i * sz + off) xv.cells.toList).toArray.getD n undef = ((putAt vs.toList (o + i * sz + off) xv.cells.toList)[n]?).getD undef := by
                        intro n; simp [Array.getD_eq_getD_getElem?]
                      have hgv : ∀ n, vs.getD n undef = (vs.toList[n]?).getD undef := by intro n; simp [Array.getD_eq_getD_getElem?]
                      rw [hgd]
                      have hklt : k < L.length := by
                        have := (List.getElem?_eq_some_iff.1 hk).1; simpa using this
                      have hkd : ds.length = sz := by
                        by_cases hik : i = k
                        · subst hik
                          rw [List.getElem?_set_self hilt] at hk
                          cases hk
                          rw [putAt_length hle, hcs]
                        · rw [List.getElem?_set_ne hik] at hk
                          exact h5 k ds hk
                      have hjlt : j < sz := hkd ▸ (List.getElem?_eq_some_iff.1 hj).1
                      rw [putAt_get (by simp; omega)]
                      by_cases hik : i = k
                      · subst hik
                        rw [List.getElem?_set_self hilt] at hk
                        cases hk
                        rw [putAt_get hle] at hj
                        have h6j := fun c' (hj' : cs[j]? = some c') => h6 i cs hi j c' hj'
                        by_cases c1 : j < off
                        · simp only [c1, if_true] at hj
                          have : o + i * sz + j < o + i * sz + off := by omega
                          simp only [this, if_true]
                          have h7 := h6j c hj
                          rw [hgv] at h7
                          exact ⟨h7.1.compat C, h7.2⟩
                        · by_cases c2 : j < off + ns.length
                          · simp only [c1, c2, if_false, if_true] at hj
                            have d1 : ¬ (o + i * sz + j < o + i * sz + off) := by omega
                            have d2 : o + i * sz + j < o + i * sz + off + xv.cells.toList.length := by simp; omega
                            simp only [d1, d2, if_false, if_true]
                            have e : o + i * sz + j - (o + i * sz + off) = j - off := by omega
                            rw [e]
                            have hlt2 : j - off < xv.cells.toList.length := by simp; omega
                            have hgg := getD_of_lt hlt2
                            have h8 := hnr.2 _ c hj
                            rw [hgg]
                            exact ⟨h8.compat C, hn1 _ (List.mem_of_getElem? hgg)⟩
                          · simp only [c1, c2, if_false] at hj
                            have d1 : ¬ (o + i * sz + j < o + i * sz + off) := by omega
                            have d2 : ¬ (o + i * sz + j < o + i * sz + off + xv.cells.toList.length) := by simp; omega
                            simp only [d1, d2, if_false]
                            have h7 := h6j c hj
                            rw [hgv] at h7
                            exact ⟨h7.1.compat C, h7.2⟩
                      · rw [List.getElem?_set_ne hik] at hk
                        have h7 := h6 k ds hk j c hj
                        rw [hgv] at h7
                        have hne : ¬ (o + i * sz + off ≤ o + k * sz + j ∧ o + k * sz + j < o + i * sz + off + xv.cells.toList.length) := by
                          intro ⟨q1, q2⟩
                          have q3 : xv.cells.toList.length = ns.length := by simp; omega
                          rcases Nat.lt_or_gt_of_ne hik with q | q
                          · have : i * sz + sz ≤ k * sz := by rw [← Nat.succ_mul]; exact Nat.mul_le_mul_right _ q
                            omega
                          · have : k * sz + sz ≤ i * sz := by rw [← Nat.succ_mul]; exact Nat.mul_le_mul_right _ q
                            omega
                        by_cases d1 : o + k * sz + j < o + i * sz + off
                        · simp only [d1, if_true]
                          exact ⟨h7.1.compat C, h7.2⟩
                        · have d2 : ¬ (o + k * sz + j < o + i * sz + off + xv.cells.toList.length) := fun q => hne ⟨by omega, q⟩
                          simp only [d1, d2, if_false]
                          exact ⟨h7.1.compat C, h7.2⟩
              · cases hv
            · cases hv
          · cases hv
        · cases hv
      · cases hv
    · cases hv
  · cases hv
end
end Go.Abs

/- The abstract layer, part J: a slice's elements as one row; slices built; append. -/
set_option linter.unusedVariables false
set_option linter.unusedSimpArgs false
namespace Go.Abs
open Go.RowKit

theorem flat_idx {α : Type} {sz : Nat} : ∀ {L : List (List α)}, (∀ (i : Nat) (cs : List α), L[i]? = some cs → cs.length = sz) → ∀ (i j : Nat), j < sz → L.flatten[i * sz + j]? = (L[i]?).bind (·[j]?)
  | [], _, i, j, _ => by simp
  | cs :: L, hsz, 0, j, hj => by
    have := hsz 0 cs rfl
    simp only [List.flatten_cons, Nat.zero_mul, Nat.zero_add, List.getElem?_cons_zero, Option.bind_some]
    rw [List.getElem?_append_left (by omega)]
  | cs :: L, hsz, i + 1, j, hj => by
    have := hsz 0 cs rfl
    have ih := flat_idx (L := L) (fun i cs h => hsz (i + 1) cs (by simpa using h)) i j hj
    simp only [List.flatten_cons, List.getElem?_cons_succ]
    rw [List.getElem?_append_right (by rw [Nat.succ_mul]; omega), ← ih]
    congr 1
    rw [Nat.succ_mul]
    omega

theorem flat_len {α : Type} {sz : Nat} : ∀ {L : List (List α)}, (∀ (i : Nat) (cs : List α), L[i]? = some cs → cs.length = sz) → L.flatten.length = L.length * sz
  | [], _ => by simp
  | cs :: L, hsz => by
    have := hsz 0 cs rfl
    have ih := flat_len (L := L) (fun i cs h => hsz (i + 1) cs (by simpa using h))
    simp only [List.flatten_cons, List.length_append, ih, List.length_cons, Nat.succ_mul]
    omega

section
variable {P : Program} {G : Gh} {w : World} {A : Nat → Prop} {h : Heap}

/-- The elements of a slice, each of sz cells. -/
def elemsAt (h : Heap) (sz : Nat) : AV → Option (List (List AV))
  | .emp => some []
  | .lst s l => if s = sz then some l else none
  | .own id g lo => match look id h with
    | some (.arr g' s L) => if g = g' ∧ s = sz then some (L.drop lo) else none
    | _ => none
  | _ => none

theorem rels_flat {L : List (List AV)} {sz : Nat} (hsz : ∀ (i : Nat) (cs : List AV), L[i]? = some cs → cs.length = sz) {vs : List Value} (hl : vs.length = L.length * sz)
    (hr : ∀ (i : Nat) (cs : List AV), L[i]? = some cs → ∀ (j : Nat) (c : AV), cs[j]? = some c → Rel G w A h c (vs.getD (i * sz + j) undef)) : Rels G w A h L.flatten vs := by
  refine ⟨by rw [flat_len hsz, hl], fun k c hk => ?_⟩
  have hkl : k < L.length * sz := by rw [← flat_len hsz]; exact (List.getElem?_eq_some_iff.1 hk).1
  have h0 : 0 < sz := by
    rcases Nat.eq_zero_or_pos sz with e | e
    · rw [e] at hkl; omega
    · exact e
  have hdm : k / sz * sz + k % sz = k := by rw [Nat.mul_comm]; exact Nat.div_add_mod k sz
  have hmod := Nat.mod_lt k h0
  have h1 := flat_idx hsz (k / sz) (k % sz) hmod
  rw [hdm, hk] at h1
  cases h2 : L[k / sz]? with
  | none => simp [h2] at h1
  | some cs =>
    simp only [h2, Option.bind_some] at h1
    have := hr _ cs h2 _ c h1.symm
    rwa [hdm] at this

theorem rels_unflat {L : List (List AV)} {sz : Nat} (hsz : ∀ (i : Nat) (cs : List AV), L[i]? = some cs → cs.length = sz) {vs : List Value} (r : Rels G w A h L.flatten vs)
    (i : Nat) (cs : List AV) (hi : L[i]? = some cs) (j : Nat) (c : AV) (hj : cs[j]? = some c) : Rel G w A h c (vs.getD (i * sz + j) undef) := by
  have hjl : j < sz := hsz i cs hi ▸ (List.getElem?_eq_some_iff.1 hj).1
  refine r.2 _ c ?_
  rw [flat_idx hsz i j hjl, hi]
  exact hj

theorem elemsAt_sound (S : SatH G w A h) {sz : Nat} {x : AV} {a : Value} (hx : Rel G w A h x a) {l : List (List AV)} (he : elemsAt h sz x = some l) :
    (∀ (i : Nat) (cs : List AV), l[i]? = some cs → cs.length = sz) ∧ ∃ b cap, a = .slice b l.length cap ∧ l.length ≤ cap ∧ ∃ vs : List Value, vs.length = l.length * sz ∧ Rels G w A h l.flatten vs ∧ (∀ u ∈ vs, u.oneCell' = true) ∧
      (l ≠ [] → ∃ bb o, b = some ⟨bb, o, none⟩ ∧ ∀ j v, vs[j]? = some v → w.cell? ⟨bb, o + j, none⟩ = some v) := by
  unfold elemsAt at he
  split at he
  · cases he
    obtain ⟨b, rfl⟩ := hx.emp_inv
    exact ⟨by simp, b, 0, rfl, Nat.le_refl _, [], by simp, by simpa using Rels.nil, by simp, by simp⟩
  · rename_i s l0
    split at he
    · rename_i hs
      subst hs
      cases he
      rcases hx.lst_inv with ⟨rfl, b, cap, rfl⟩ | ⟨b, off, cap, f, rfl, hne, hz, hcap, hsz, hc, h1, hr⟩
      · exact ⟨by simp, b, cap, rfl, by simp, [], by simp, by simpa using Rels.nil, by simp, by simp⟩
      · refine ⟨hsz, _, cap, rfl, hcap, (List.range (l.length * s)).map (fun k => f (k / s) (k % s)), by simp, ?_, ?_, fun _ => ⟨b, off, rfl, ?_⟩⟩
        · refine rels_flat hsz (by simp) fun i cs hi j c hj => ?_
          have hjl : j < s := hsz i cs hi ▸ (List.getElem?_eq_some_iff.1 hj).1
          have hil : i < l.length := (List.getElem?_eq_some_iff.1 hi).1
          have hlt : i * s + j < l.length * s := by
            have : i * s + s ≤ l.length * s := by rw [← Nat.succ_mul]; exact Nat.mul_le_mul_right _ hil
            omega
          have hd : (i * s + j) / s = i := by rw [Nat.mul_comm, Nat.mul_add_div (by omega)]; simp [Nat.div_eq_of_lt hjl]
          have hm : (i * s + j) % s = j := by rw [Nat.mul_comm, Nat.mul_add_mod]; exact Nat.mod_eq_of_lt hjl
          have := (hr i cs hi j c hj).widen (A := A) (h := h)
          simpa [List.getD, hlt, hd, hm] using this
        · intro u hu
          simp only [List.mem_map, List.mem_range] at hu
          obtain ⟨k, hk, rfl⟩ := hu
          have h0 : 0 < s := by
            rcases Nat.eq_zero_or_pos s with e | e
            · rw [e] at hk; omega
            · exact e
          have hq : k / s < l.length := Nat.div_lt_of_lt_mul (by rw [Nat.mul_comm]; exact hk)
          have hg := List.getElem?_eq_getElem hq
          have hlen := hsz _ _ hg
          have hml : k % s < (l[k / s]).length := by rw [hlen]; exact Nat.mod_lt k h0
          exact h1 _ _ hg _ _ (List.getElem?_eq_getElem hml)
        · intro k v hk
          simp only [List.getElem?_map] at hk
          cases hk' : (List.range (l.length * s))[k]? with
          | none => simp [hk'] at hk
          | some k' =>
            have hklt : k < l.length * s := by have := (List.getElem?_eq_some_iff.1 hk').1; simpa using this
            have : k' = k := by simpa [hklt] using hk'.symm
            subst this
            simp only [hk', Option.map_some] at hk
            cases hk
            have h0 : 0 < s := by
              rcases Nat.eq_zero_or_pos s with e | e
              · rw [e] at hklt; omega
              · exact e
            have hq : k' / s < l.length := Nat.div_lt_of_lt_mul (by rw [Nat.mul_comm]; exact hklt)
            have hg := List.getElem?_eq_getElem hq
            have hlen := hsz _ _ hg
            have hml : k' % s < (l[k' / s]).length := by rw [hlen]; exact Nat.mod_lt k' h0
            have := hc _ _ hg _ _ (List.getElem?_eq_getElem hml)
            rwa [Nat.add_assoc, show k' / s * s + k' % s = k' by rw [Nat.mul_comm]; exact Nat.div_add_mod k' s] at this
    · cases he
  · rename_i id g lo
    split at he
    · rename_i g' s L hl
      split at he
      · rename_i hg
        obtain ⟨rfl, rfl⟩ := hg
        cases he
        obtain ⟨_, _, ho⟩ := hx.own_inv
        obtain ⟨hlo, hn, b, rfl, hb⟩ := (ho _ _ _ hl).2 rfl
        rcases (S.obj _ _ hl).2 with ⟨rfl, hloc, hcap0⟩ | ⟨b', o, T, vs, hloc, hh, h3, h4, h5, h6⟩
        · simp at hlo
          subst hlo
          exact ⟨by simp, b, _, rfl, by simp, [], by simp, by simpa using Rels.nil, by simp, by simp⟩
        · have hszd : ∀ (i : Nat) (cs : List AV), (L.drop lo)[i]? = some cs → cs.length = s := fun i cs hi => by rw [List.getElem?_drop] at hi; exact h5 _ _ hi
          have hfit : L.length * s ≤ G.cap id * s := Nat.mul_le_mul_right _ h4
          have hle1 : lo * s ≤ L.length * s := Nat.mul_le_mul_right _ hlo
          have hlen : ((vs.toList.drop (o + lo * s)).take ((L.drop lo).length * s)).length = (L.drop lo).length * s := by
            simp only [List.length_take, List.length_drop, Array.length_toList, Nat.sub_mul]
            omega
          refine ⟨hszd, b, _, by rw [List.length_drop], by rw [List.length_drop]; omega, _, hlen, ?_, ?_, fun hne => ⟨b', o + lo * s, ?_, ?_⟩⟩
          · refine rels_flat hszd hlen fun i cs hi j c hj => ?_
            have hjl : j < s := hszd i cs hi ▸ (List.getElem?_eq_some_iff.1 hj).1
            have hil : i < (L.drop lo).length := (List.getElem?_eq_some_iff.1 hi).1
            have hlt : i * s + j < (L.drop lo).length * s := by
              have : i * s + s ≤ (L.drop lo).length * s := by rw [← Nat.succ_mul]; exact Nat.mul_le_mul_right _ hil
              omega
            rw [List.getElem?_drop] at hi
            have h7 := (h6 _ cs hi j c hj).1
            have e : (vs.toList.drop (o + lo * s) |>.take ((L.drop lo).length * s)).getD (i * s + j) undef = vs.getD (o + (lo + i) * s + j) undef := by
              rw [List.getD, List.getElem?_take, if_pos hlt, List.getElem?_drop, Array.getD_eq_getD_getElem?, Array.getElem?_toList, Nat.add_mul]
              congr 2
              omega
            rw [e]
            exact h7
          · intro u hu
            obtain ⟨k, hk, rfl⟩ := List.mem_iff_getElem.1 hu
            rw [hlen] at hk
            have h0 : 0 < s := by
              rcases Nat.eq_zero_or_pos s with e | e
              · rw [e] at hk; omega
              · exact e
            have hq : k / s < (L.drop lo).length := Nat.div_lt_of_lt_mul (by rw [Nat.mul_comm]; exact hk)
            have hg := List.getElem?_eq_getElem hq
            have hl2 := hszd _ _ hg
            have hml : k % s < ((L.drop lo)[k / s]).length := by rw [hl2]; exact Nat.mod_lt k h0
            rw [List.getElem?_drop] at hg
            have h7 := (h6 _ _ hg _ _ (List.getElem?_eq_getElem hml)).2
            have hdm : k / s * s + k % s = k := by rw [Nat.mul_comm]; exact Nat.div_add_mod k s
            rw [List.getElem_take, List.getElem_drop]
            rw [Array.getD_eq_getD_getElem?] at h7
            have hlt : o + lo * s + k < vs.size := by
              simp only [List.length_drop, Nat.sub_mul] at hk
              omega
            have e : o + (lo + k / s) * s + k % s = o + lo * s + k := by rw [Nat.add_mul]; omega
            rw [e, Array.getElem?_eq_getElem hlt, Option.getD_some] at h7
            simpa using h7
          · have hlc : lo < G.cap id := by
              have : lo < L.length := by
                rcases Nat.lt_or_ge lo L.length with q | q
                · exact q
                · exact absurd (List.drop_eq_nil_of_le q) hne
              omega
            rw [hb hlc, hloc]
            rfl
          · intro k v hk
            rw [List.getElem?_take] at hk
            split at hk
            · rw [List.getElem?_drop, Array.getElem?_toList] at hk
              rw [cell_of_heap hh]
              exact hk
            · cases hk
      · cases he
    · cases he
  · cases he
end
end Go.Abs

/- The abstract layer, part K: append; slices built. -/
set_option linter.unusedVariables false
set_option linter.unusedSimpArgs false
namespace Go.Abs
open Go.RowKit
section
variable {P : Program} {G : Gh} {w : World} {A : Nat → Prop} {h : Heap}

/-- An object's record turned, memory as it is. -/
theorem re_obj (S : SatH G w A h) {id g g' sz sz' : Nat} {L L' : List (List AV)} (hl : look id h = some (.arr g sz L)) (hg : g < g') {l : Option Addr} {c : Nat}
    (hloc : ∀ a, l = some a → ∃ a0, G.loc id = some a0 ∧ a0.block = a.block)
    (ho : Compat G w (G.put id l c) w A h A (upd id (.arr g' sz' L') h) → RelO (G.put id l c) w A (upd id (.arr g' sz' L') h) id (.arr g' sz' L')) :
    SatH (G.put id l c) w A (upd id (.arr g' sz' L') h) ∧ Evo G w A h (G.put id l c) w A (upd id (.arr g' sz' L') h) := by
  have C : Compat G w (G.put id l c) w A h A (upd id (.arr g' sz' L') h) := by
    refine ⟨fun _ h => h, fun _ _ _ _ h => h, fun _ h => h, fun j hj => ?_⟩
    rw [look_upd]
    by_cases e : j = id
    · subst e; simp only [if_true, hl]; exact .inl hg
    · simp only [e, if_false]; exact objCompat_put e _
  have hk : ∀ i oi, look i (upd id (.arr g' sz' L') h) = some oi → ∃ o, look i h = some o := fun i oi hi => look_upd_some hl hi
  have hoth : ∀ j oj d a, look j h = some oj → j ≠ id → G.loc j = some d → l = some a → d.block ≠ a.block := fun j oj d a hj e hd ha e' => by
    obtain ⟨a0, h1, h2⟩ := hloc a ha
    exact S.inj j id _ _ _ _ hj hl e hd h1 (by rw [e', h2])
  refine ⟨⟨fun j oj hj => ?_, fun i j oi oj b d hi hj hne hb hd => ?_, fun i oi b hi hb => ?_, S.zin⟩, ⟨rfl, rfl, rfl, Nat.le_refl _, fun _ _ _ => rfl, fun b hb => ?_, fun b hb => .inl hb, fun _ h => h, fun v x r => r.compat C⟩⟩
  · rw [look_upd] at hj
    by_cases e : j = id
    · subst e
      simp only [if_true, hl, Option.map_some] at hj
      cases hj
      exact ⟨(S.obj _ _ hl).1, ho C⟩
    · simp only [e, if_false] at hj
      exact ⟨(S.obj _ _ hj).1, (S.obj _ _ hj).2.compat C (Gh.put_loc_ne _ _ _ _ e) (Gh.put_cap_ne _ _ _ _ e) fun b hb => rfl⟩
  · obtain ⟨o1, hi'⟩ := hk i oi hi
    obtain ⟨o2, hj'⟩ := hk j oj hj
    by_cases ei : i = id
    · subst ei
      rw [Gh.put_loc_same] at hb
      rw [Gh.put_loc_ne _ _ _ _ (fun x => hne x.symm)] at hd
      exact fun x => hoth j _ d _ hj' (fun x => hne x.symm) hd hb x.symm
    · rw [Gh.put_loc_ne _ _ _ _ ei] at hb
      by_cases ej : j = id
      · subst ej
        rw [Gh.put_loc_same] at hd
        exact hoth i _ b _ hi' ei hb hd
      · rw [Gh.put_loc_ne _ _ _ _ ej] at hd
        exact S.inj i j _ _ _ _ hi' hj' hne hb hd
  · obtain ⟨o1, hi'⟩ := hk i oi hi
    by_cases ei : i = id
    · subst ei
      rw [Gh.put_loc_same] at hb
      obtain ⟨a0, h1, h2⟩ := hloc b hb
      intro hz
      exact S.zdis _ _ a0 hl h1 (by rw [h2]; exact hz)
    · rw [Gh.put_loc_ne _ _ _ _ ei] at hb
      exact S.zdis i _ _ hi' hb
  · obtain ⟨i, oi, d, hi, hd, hb⟩ := hb
    obtain ⟨o1, hi'⟩ := hk i oi hi
    by_cases ei : i = id
    · subst ei
      rw [Gh.put_loc_same] at hd
      obtain ⟨a0, h1, h2⟩ := hloc d hd
      exact .inl ⟨_, _, a0, hl, h1, by rw [h2, hb]⟩
    · rw [Gh.put_loc_ne _ _ _ _ ei] at hd
      exact .inl ⟨i, _, d, hi', hd, hb⟩

/-- append where there is room, at whatever offset. -/
theorem run_append_fit (t ty e : TypeId) (i : TypeInfo) (ht : P.underlying t = some (.slice e)) (hi : P.info? e = some i)
    (g o sLen sCap : Nat) (cur : Array Value) (T : TypeId) (hg : w.heap[g]? = some (.cells cur T (0, 0)))
    (x : Value) (news : List Value) (b : Option Addr) (m c : Nat) (hx : x = .slice b m c) (hl : news.length = m * i.size) (hnews : m ≠ 0 → ∃ bb oo, b = some ⟨bb, oo, none⟩ ∧ ∀ j v, news[j]? = some v → w.cell? ⟨bb, oo + j, none⟩ = some v) (h1 : ∀ u ∈ news, u.oneCell' = true)
    (hroom : sLen + m ≤ sCap) (hfit : o + sLen * i.size + news.length ≤ cur.size) :
    (Builtin.append_ #[t, t] ty #[.slice (some ⟨g, o, none⟩) sLen sCap, x]).run P w =
      .ok (.slice (some ⟨g, o, none⟩) (sLen + m) sCap) (w.setRow g (putAt cur.toList (o + sLen * i.size) news).toArray) := by
  subst hx
  have hf : (Builtin.firstCells i.size m (.slice b m c)).run P w = .ok news.toArray w := by
    by_cases hm : m = 0
    · subst hm
      have : news = [] := List.eq_nil_of_length_eq_zero (by simpa using hl)
      subst this
      cases b with
      | none => simp [Builtin.firstCells]
      | some ad => simp [Builtin.firstCells, loadCells, loadCellsFrom]
    · obtain ⟨bb, oo, rfl, hc⟩ := hnews hm
      exact run_firstCells_some (P := P) w i.size m ⟨bb, oo, none⟩ m c news hl (fun j v hj => by rw [Addr.add_lit]; exact hc j v hj)
  have hst := run_putCells (P := P) (w := w) (b := g) (off := o + sLen * i.size) (ns := news) hg (by simpa using hfit) h1
  simp [Builtin.append_, run_underlying ht, sizeOf, typeInfo, hi, Builtin.lenOf, hroom, hf, Addr.add_lit, hst]

/-- append where it must grow. -/
theorem run_append_more (t ty e : TypeId) (i : TypeInfo) (z : Value) (ht : P.underlying t = some (.slice e)) (hi : P.info? e = some i) (hz : i.zero = some z)
    (b0 : Option Addr) (sLen sCap : Nat) (olds : List Value) (hlo : olds.length = sLen * i.size) (holds : sLen ≠ 0 → ∃ bb oo, b0 = some ⟨bb, oo, none⟩ ∧ ∀ j v, olds[j]? = some v → w.cell? ⟨bb, oo + j, none⟩ = some v)
    (hnone : b0 = none → sCap = 0)
    (x : Value) (news : List Value) (b : Option Addr) (m c : Nat) (hx : x = .slice b m c) (hl : news.length = m * i.size) (hnews : m ≠ 0 → ∃ bb oo, b = some ⟨bb, oo, none⟩ ∧ ∀ j v, news[j]? = some v → w.cell? ⟨bb, oo + j, none⟩ = some v)
    (hm : m ≠ 0) (hle : sLen ≤ sCap) (hg : sCap < sLen + m) (h63 : sLen + m ≤ 9223372036854775807) (hb : (sLen + m) * i.bytes ≤ 140737488355328) :
    ∃ cap', sLen + m ≤ cap' ∧ (Builtin.append_ #[t, t] ty #[.slice b0 sLen sCap, x]).run P w =
      .ok (.slice (some ⟨w.heap.size, 0, none⟩) (sLen + m) cap') (w.drew.alloc (.cells (olds.toArray ++ news.toArray ++ Builtin.zeroCells z.cells (cap' - (sLen + m))) e)) := by
  subst hx
  obtain ⟨bb, oo, rfl, hc⟩ := hnews hm
  have hnews' : ∀ j v, news[j]? = some v → w.cell? ((⟨bb, oo, none⟩ : Addr).add j) = some v := fun j v hj => by rw [Addr.add_lit]; exact hc j v hj
  cases b0 with
  | none =>
    obtain rfl := hnone rfl
    have hs0 : sLen = 0 := by omega
    subst hs0
    have : olds = [] := List.eq_nil_of_length_eq_zero (by simpa using hlo)
    subst this
    refine ⟨grownCap w m 0 e, by have := grownCap_ge w m 0 e; omega, ?_⟩
    have := run_append_nil (P := P) w t ty e i z ht hi hz ⟨bb, oo, none⟩ m c news hl hnews' (by omega) (by omega) (by simp only [Nat.zero_add] at hb; omega)
    simpa using this
  | some ad =>
    refine ⟨grownCap w (sLen + m) sCap e, grownCap_ge w (sLen + m) sCap e, ?_⟩
    by_cases hs0 : sLen = 0
    · subst hs0
      have : olds = [] := List.eq_nil_of_length_eq_zero (by simpa using hlo)
      subst this
      exact run_append_grow (P := P) w t ty e i z ht hi hz ad 0 sCap [] (by simp) (fun j v hj => by simp at hj) ⟨bb, oo, none⟩ m c news hl hnews' (by omega) (by omega) (growslice_fits (by omega) hb)
    · obtain ⟨b1, o1, he, hco⟩ := holds hs0
      cases he
      exact run_append_grow (P := P) w t ty e i z ht hi hz ⟨b1, o1, none⟩ sLen sCap olds hlo (fun j v hj => by rw [Addr.add_lit]; exact hco j v hj) ⟨bb, oo, none⟩ m c news hl hnews' (by omega) (by omega) (growslice_fits (by omega) hb)

/-- append of nothing. -/
theorem run_append_zero (t ty e : TypeId) (i : TypeInfo) (ht : P.underlying t = some (.slice e)) (hi : P.info? e = some i)
    (b0 : Option Addr) (sLen sCap : Nat) (hle : sLen ≤ sCap) (b : Option Addr) (c : Nat) :
    (Builtin.append_ #[t, t] ty #[.slice b0 sLen sCap, .slice b 0 c]).run P w = .ok (.slice b0 sLen sCap) w := by
  have hf : (Builtin.firstCells i.size 0 (.slice b 0 c)).run P w = .ok #[] w := by
    cases b with
    | none => simp [Builtin.firstCells]
    | some ad => simp [Builtin.firstCells, loadCells, loadCellsFrom]
  cases b0 with
  | none => simp [Builtin.append_, run_underlying ht, sizeOf, typeInfo, hi, Builtin.lenOf, hle, hf]
  | some ad => simp [Builtin.append_, run_underlying ht, sizeOf, typeInfo, hi, Builtin.lenOf, hle, hf, storeCells]

def appendA (P : Program) (h : Heap) (id : Nat) (t : TypeId) (s x : AV) : Option (AV × Heap × Bool) :=
  match tiOf P t with
  | none => none
  | some ti => match ti.elem with
    | none => none
    | some e => match tiOf P e with
      | none => none
      | some te =>
        if te.zeroOk then
          match elemsAt h te.size x, elemsAt h te.size s with
          | some xs, some ls =>
            if (ls.length + xs.length) * te.bytes ≤ 140737488355328 ∧ ls.length + xs.length ≤ 9223372036854775807 then
              match s with
              | .emp => some (.own id 0 0, hc id (.arr 0 te.size xs) h, true)
              | .own i g lo => some (.own i (g + 1) 0, upd i (.arr (g + 1) te.size (ls ++ xs)) h, false)
              | _ => none
            else none
          | _, _ => none
        else none

theorem relO_flat {L : List (List AV)} {sz : Nat} (hsz : ∀ (i : Nat) (cs : List AV), L[i]? = some cs → cs.length = sz) {vs : List Value} (r : Rels G w A h L.flatten vs) (h1 : ∀ u ∈ vs, u.oneCell' = true)
    {arr : Array Value} {o : Nat} (hpre : ∀ k, k < vs.length → arr[o + k]? = vs[k]?) (i : Nat) (cs : List AV) (hi : L[i]? = some cs) (j : Nat) (c : AV) (hj : cs[j]? = some c) :
    Rel G w A h c (arr.getD (o + i * sz + j) undef) ∧ (arr.getD (o + i * sz + j) undef).oneCell' = true := by
  have hjl : j < sz := hsz i cs hi ▸ (List.getElem?_eq_some_iff.1 hj).1
  have hil : i < L.length := (List.getElem?_eq_some_iff.1 hi).1
  have hlt : i * sz + j < vs.length := by
    rw [← r.1, flat_len hsz]
    have : i * sz + sz ≤ L.length * sz := by rw [← Nat.succ_mul]; exact Nat.mul_le_mul_right _ hil
    omega
  have e : arr.getD (o + i * sz + j) undef = vs.getD (i * sz + j) undef := by
    rw [Array.getD_eq_getD_getElem?, Nat.add_assoc, hpre _ hlt]
    rfl
  rw [e]
  exact ⟨rels_unflat hsz r i cs hi j c hj, h1 _ (List.mem_of_getElem? (getD_of_lt hlt))⟩

theorem size_of_append (olds news : List Value) (z : Array Value) (k : Nat) : (olds.toArray ++ news.toArray ++ Builtin.zeroCells z k).size = olds.length + news.length + k * z.size := by
  simp [size_zeroCells]

theorem pre_of_append (olds news : List Value) (z : Array Value) (k : Nat) (j : Nat) (hj : j < (olds ++ news).length) : (olds.toArray ++ news.toArray ++ Builtin.zeroCells z k)[0 + j]? = (olds ++ news)[j]? := by
  rw [Nat.zero_add, ← Array.getElem?_toList]
  simp only [Array.toList_append]
  rw [List.getElem?_append_left (by simpa using hj)]

theorem hsz_append {L M : List (List AV)} {sz : Nat} (h1 : ∀ (i : Nat) (cs : List AV), L[i]? = some cs → cs.length = sz) (h2 : ∀ (i : Nat) (cs : List AV), M[i]? = some cs → cs.length = sz) :
    ∀ (i : Nat) (cs : List AV), (L ++ M)[i]? = some cs → cs.length = sz := by
  intro i cs hi
  by_cases hlt : i < L.length
  · rw [List.getElem?_append_left hlt] at hi; exact h1 i cs hi
  · rw [List.getElem?_append_right (by omega)] at hi; exact h2 _ cs hi

theorem appendA_sound (S : SatH G w A h) {id : Nat} (hA : ¬ A id) {t ty : TypeId} {s x v : AV} {sv xv : Value} (rs : Rel G w A h s sv) (rx : Rel G w A h x xv) {h' : Heap} {fr : Bool}
    (hv : appendA P h id t s x = some (v, h', fr)) {A' : Nat → Prop} (hA' : ∀ j, A' j ↔ A j ∨ (fr = true ∧ j = id)) : StepOk G w A h ((Builtin.append_ #[t, t] ty #[sv, xv]).run P w) v A' h' := by
  unfold appendA at hv
  split at hv
  · cases hv
  rename_i ti hti
  split at hv
  · cases hv
  rename_i e he
  split at hv
  · cases hv
  rename_i te hte
  split at hv
  case isFalse => cases hv
  rename_i hzok
  split at hv
  case h_2 => cases hv
  rename_i xs ls hxs hls
  split at hv
  case isFalse => cases hv
  rename_i hbd
  obtain ⟨hb, h63⟩ := hbd
  obtain ⟨_, d, _, hd, _, _, _, _, hel, _⟩ := tiOf_parts hti
  obtain rfl := hel e he
  obtain ⟨i, d', hi, hd', hsize, hbytes, _⟩ := tiOf_parts hte
  obtain ⟨i', _, hi', _, hzo, _⟩ := tiOf_build hte
  rw [hi] at hi'
  cases hi'
  obtain ⟨z, hz, hz1, hzs⟩ := hzo hzok
  obtain ⟨hxsz, xb, xc, rfl, hxc, xvs, hxl, hxr, hx1, hxcell⟩ := elemsAt_sound S rx hxs
  have hxcell' : xs.length ≠ 0 → ∃ bb oo, xb = some ⟨bb, oo, none⟩ ∧ ∀ j v, xvs[j]? = some v → w.cell? ⟨bb, oo + j, none⟩ = some v := fun hne => hxcell (fun e => hne (by rw [e]; rfl))
  have hxl' : xvs.length = xs.length * i.size := by rw [← hsize]; exact hxl
  split at hv
  · -- a slice without room
    obtain ⟨sb, rfl⟩ := rs.emp_inv
    simp only [elemsAt] at hls
    cases hls
    cases hv
    have hA2 : ∀ j, A' j ↔ A j ∨ j = id := fun j => by rw [hA']; simp
    simp only [List.length_nil, Nat.zero_add] at hb h63
    by_cases hm : xs.length = 0
    · have hxe : xs = [] := List.eq_nil_of_length_eq_zero hm
      subst hxe
      have hrun := run_append_zero (P := P) (w := w) t ty e i hd hi sb 0 0 (Nat.le_refl _) xb xc
      have N := new_obj (o := .arr 0 te.size []) (w' := w) (l := none) (c := 0) S hA hA2 rfl rfl rfl (Nat.le_refl _) (fun _ _ => rfl) (fun a ha => by cases ha) (fun C => .inl ⟨rfl, Gh.put_loc_same _ _ _, Gh.put_cap_same _ _ _⟩)
      refine ⟨_, _, _, hrun, N.1, N.2, .own _ _ _ _ _ _ ((hA2 id).2 (.inr rfl)) rfl fun g' sz L hl => ?_⟩
      simp only [look_hc, if_true] at hl
      cases hl
      exact ⟨Nat.le_refl _, fun _ => ⟨Nat.le_refl _, by simp, sb, by simp [Gh.put_cap_same], fun hlt => by rw [Gh.put_cap_same] at hlt; omega⟩⟩
    · obtain ⟨cap', hcap, hrun⟩ := run_append_more (P := P) (w := w) t ty e i z hd hi hz sb 0 0 [] (by simp) (by simp) (fun _ => rfl) _ xvs xb xs.length xc rfl hxl' hxcell' hm (Nat.le_refl _) (by omega) (by omega) (by rw [← hbytes]; simpa using hb)
      simp only [Nat.zero_add] at hcap hrun
      have S1 := sat_same S (w' := w.drew) rfl rfl rfl rfl
      have hxr1 := hxr.evo S1.2
      have N := new_obj (o := .arr 0 te.size xs) (w' := w.drew.alloc (.cells ([].toArray ++ xvs.toArray ++ Builtin.zeroCells z.cells (cap' - xs.length)) e)) (l := some ⟨w.heap.size, 0, none⟩) (c := cap') S1.1 hA hA2 rfl rfl rfl (by simp)
        (fun b hb => Below.heap_alloc w.drew _ b hb) (fun a ha => by cases ha; simp) (fun C => by
          refine .inr ⟨w.heap.size, 0, e, _, Gh.put_loc_same _ _ _, heap_alloc_at w.drew _, ?_, ?_, ?_, ?_⟩
          · rw [Gh.put_cap_same, size_of_append, hxl, hzs, ← hsize, Nat.zero_add, List.length_nil, Nat.zero_add, ← Nat.add_mul]
            exact Nat.mul_le_mul_right _ (by omega)
          · rw [Gh.put_cap_same]; exact hcap
          · exact hxsz
          · exact relO_flat hxsz (hxr1.compat C) hx1 (fun k hk => pre_of_append [] xvs z.cells (cap' - xs.length) k hk))
      refine ⟨_, _, _, hrun, N.1, S1.2.trans N.2, .own _ _ _ _ _ _ ((hA2 id).2 (.inr rfl)) rfl fun g' sz L hl => ?_⟩
      simp only [look_hc, if_true] at hl
      cases hl
      exact ⟨Nat.le_refl _, fun _ => ⟨Nat.zero_le _, by rw [Gh.put_cap_same]; exact hcap, _, by rw [Gh.put_cap_same]; rfl, fun _ => by rw [Gh.put_loc_same]; simp⟩⟩
  · -- an array of the call's own
    rename_i k g lo
    simp only [elemsAt] at hls
    split at hls
    case h_2 => cases hls
    rename_i g' sz0 L hlk
    split at hls
    case isFalse => cases hls
    rename_i hgs
    obtain ⟨rfl, rfl⟩ := hgs
    cases hls
    cases hv
    have hA2 : A' = A := funext fun j => propext (by rw [hA']; simp)
    subst hA2
    obtain ⟨hid, _, ho⟩ := rs.own_inv
    obtain ⟨hlo, hn, sb, rfl, hsb⟩ := (ho _ _ _ hlk).2 rfl
    obtain ⟨hlsz, b1, c1, he1, _, lvs, hll, hlr, hl1, hlcell⟩ := elemsAt_sound S rs (sz := te.size) (l := L.drop lo) (by simp [elemsAt, hlk])
    injection he1 with e1 e2 e3
    subst e1
    have hlcell' : (L.drop lo).length ≠ 0 → ∃ bb oo, sb = some ⟨bb, oo, none⟩ ∧ ∀ j v, lvs[j]? = some v → w.cell? ⟨bb, oo + j, none⟩ = some v := fun hne => hlcell (fun e => hne (by rw [e]; rfl))
    have hdl : (L.drop lo).length = L.length - lo := List.length_drop
    rw [hdl] at hb h63 hll hlcell'
    have hll' : lvs.length = (L.length - lo) * i.size := by rw [← hsize]; exact hll
    have hsz2 := hsz_append hlsz hxsz
    have hcapsub : ∀ n, n - 0 = n := fun n => Nat.sub_zero n
    by_cases hm : xs.length = 0
    · have hxe : xs = [] := List.eq_nil_of_length_eq_zero hm
      subst hxe
      have hrun := run_append_zero (P := P) (w := w) t ty e i hd hi sb (L.length - lo) (G.cap k - lo) (by omega) xb xc
      rcases (S.obj _ _ hlk).2 with ⟨rfl, hloc, hcap0⟩ | ⟨b', o, T, vs, hloc, hh, h3, h4, h5, h6⟩
      · have N := re_obj (g' := g + 1) (sz' := te.size) (L' := List.drop lo [] ++ []) (l := none) (c := 0) S hlk (Nat.lt_succ_self g) (fun a ha => by cases ha) (fun C => .inl ⟨by simp, Gh.put_loc_same _ _ _, Gh.put_cap_same _ _ _⟩)
        refine ⟨_, _, _, hrun, N.1, N.2, .own _ _ _ _ _ _ hid rfl fun g' sz L hl => ?_⟩
        rw [look_upd, if_pos rfl, hlk] at hl
        cases hl
        simp at hlo
        subst hlo
        exact ⟨Nat.le_refl _, fun _ => ⟨Nat.zero_le _, by simp, sb, by simp [Gh.put_cap_same, hcap0], fun hlt => by rw [Gh.put_cap_same] at hlt; omega⟩⟩
      · have N := re_obj (g' := g + 1) (sz' := te.size) (L' := List.drop lo L ++ []) (l := some ⟨b', o + lo * te.size, none⟩) (c := G.cap k - lo) S hlk (Nat.lt_succ_self g) (fun a ha => by cases ha; exact ⟨_, hloc, rfl⟩) (fun C => by
          refine .inr ⟨b', o + lo * te.size, T, vs, Gh.put_loc_same _ _ _, hh, ?_, ?_, ?_, ?_⟩
          · rw [Gh.put_cap_same, Nat.sub_mul]
            have : lo * te.size ≤ G.cap k * te.size := Nat.mul_le_mul_right _ (by omega)
            omega
          · rw [Gh.put_cap_same, List.append_nil, hdl]; omega
          · rw [List.append_nil]; exact hlsz
          · intro a cs ha j c hj
            rw [List.append_nil, List.getElem?_drop] at ha
            have h7 := h6 _ cs ha j c hj
            have e7 : o + (lo + a) * te.size + j = o + lo * te.size + a * te.size + j := by rw [Nat.add_mul]; omega
            rw [e7] at h7
            exact ⟨h7.1.compat C, h7.2⟩)
        refine ⟨_, _, _, hrun, N.1, N.2, .own _ _ _ _ _ _ hid rfl fun g' sz L' hl => ?_⟩
        rw [look_upd, if_pos rfl, hlk] at hl
        cases hl
        refine ⟨Nat.le_refl _, fun _ => ⟨Nat.zero_le _, by rw [Gh.put_cap_same, List.append_nil, hdl]; omega, sb, by rw [Gh.put_cap_same, List.append_nil, hdl]; rfl, fun hlt => ?_⟩⟩
        rw [Gh.put_cap_same] at hlt
        rw [Gh.put_loc_same, hsb (by omega), hloc]
        simp
    · by_cases hroom : L.length - lo + xs.length ≤ G.cap k - lo
      · -- there is room
        rcases (S.obj _ _ hlk).2 with ⟨rfl, hloc, hcap0⟩ | ⟨b', o, T, vs, hloc, hh, h3, h4, h5, h6⟩
        · rw [hcap0] at hroom; omega
        · have hsb' := hsb (by omega)
          rw [hloc] at hsb'
          simp only [Option.map_some] at hsb'
          subst hsb'
          have hmul : lo * te.size + (L.length - lo) * te.size = L.length * te.size := by rw [← Nat.add_mul]; congr 1; omega
          have hmul2 : L.length * te.size + xs.length * te.size ≤ G.cap k * te.size := by rw [← Nat.add_mul]; exact Nat.mul_le_mul_right _ (by omega)
          have hrun := run_append_fit (P := P) (w := w) t ty e i hd hi b' (o + lo * te.size) (L.length - lo) (G.cap k - lo) vs T hh _ xvs xb xs.length xc rfl hxl' hxcell' hx1 hroom (by rw [hxl, ← hsize]; omega)
          obtain ⟨f1, f2, f3, f4⟩ := setRow_frame w b' (putAt vs.toList (o + lo * te.size + (L.length - lo) * i.size) xvs).toArray
          have hpl : o + lo * te.size + (L.length - lo) * i.size + xvs.length ≤ vs.toList.length := by
            rw [hxl, ← hsize]
            have hvl : vs.toList.length = vs.size := Array.length_toList
            omega
          have hlen2 := putAt_length hpl
          have N := move_obj (g' := g + 1) (sz' := te.size) (L' := List.drop lo L ++ xs) (a := ⟨b', o + lo * te.size, none⟩) (c := G.cap k - lo) (w' := w.setRow b' (putAt vs.toList (o + lo * te.size + (L.length - lo) * i.size) xvs).toArray) S hlk (Nat.lt_succ_self g) f1 f2 f3 (by omega)
            (fun b hb hne => setRow_other w b' b _ hne) (.inr ⟨_, hloc, rfl⟩) (fun C => by
              refine .inr ⟨b', o + lo * te.size, T, _, Gh.put_loc_same _ _ _, setRow_heap w b' vs _ T (0, 0) hh, ?_, ?_, ?_, ?_⟩
              · rw [Gh.put_cap_same, Nat.sub_mul, List.size_toArray, hlen2, Array.length_toList]
                have : lo * te.size ≤ G.cap k * te.size := Nat.mul_le_mul_right _ (by omega)
                omega
              · rw [Gh.put_cap_same, List.length_append, hdl]; omega
              · exact hsz2
              · refine relO_flat (vs := lvs ++ xvs) hsz2 (by rw [List.flatten_append]; exact (hlr.compat C).append (hxr.compat C)) (fun u hu => by
                  rcases List.mem_append.1 hu with hu | hu
                  · exact hl1 u hu
                  · exact hx1 u hu) (fun q hq => ?_)
                rw [List.getElem?_toArray]
                rw [List.length_append, hll, hxl] at hq
                by_cases c1 : q < lvs.length
                · rw [List.getElem?_append_left c1, putAt_get hpl, if_pos (by rw [hll] at c1; rw [← hsize]; omega)]
                  have hg := getD_of_lt c1
                  have hne : L.length - lo ≠ 0 := by
                    intro h0
                    rw [hll, h0] at c1
                    omega
                  obtain ⟨bb, oo, hbo, hcell⟩ := hlcell' hne
                  cases hbo
                  have := hcell q _ hg
                  rw [cell_of_heap hh] at this
                  rw [hg, Array.getElem?_toList]
                  exact this
                · rw [List.getElem?_append_right (by omega), putAt_get hpl]
                  rw [hll] at c1
                  rw [if_neg (by rw [← hsize]; omega), if_pos (by rw [hxl, ← hsize]; omega)]
                  congr 1
                  rw [hll, ← hsize]
                  omega)
          refine ⟨_, _, _, hrun, N.1, N.2, .own _ _ _ _ _ _ hid rfl fun g' sz L' hl => ?_⟩
          rw [look_upd, if_pos rfl, hlk] at hl
          cases hl
          refine ⟨Nat.le_refl _, fun _ => ⟨Nat.zero_le _, by rw [Gh.put_cap_same, List.length_append, hdl]; omega, some ⟨b', o + lo * te.size, none⟩, by rw [Gh.put_cap_same, List.length_append, hdl]; rfl, fun hlt => ?_⟩⟩
          rw [Gh.put_loc_same]
          simp
      · -- it must grow
        obtain ⟨cap', hcap, hrun⟩ := run_append_more (P := P) (w := w) t ty e i z hd hi hz sb (L.length - lo) (G.cap k - lo) lvs hll' hlcell' (fun hno => by
            rcases Nat.lt_or_ge lo (G.cap k) with q | q
            · have h8 := hsb q
              rw [hno] at h8
              cases hlc : G.loc k with
              | none =>
                rcases (S.obj _ _ hlk).2 with ⟨rfl, hloc, hcap0⟩ | ⟨b', o, T, vs, hloc, _⟩
                · omega
                · rw [hlc] at hloc; cases hloc
              | some a => rw [hlc] at h8; cases h8
            · omega) _ xvs xb xs.length xc rfl hxl' hxcell' hm (by omega) (by omega) (by omega) (by rw [← hbytes]; exact hb)
        have S1 := sat_same S (w' := w.drew) rfl rfl rfl rfl
        have hxr1 := hxr.evo S1.2
        have hlr1 := hlr.evo S1.2
        have N := move_obj (g' := g + 1) (sz' := te.size) (L' := List.drop lo L ++ xs) (a := ⟨w.heap.size, 0, none⟩) (c := cap') (w' := w.drew.alloc (.cells (lvs.toArray ++ xvs.toArray ++ Builtin.zeroCells z.cells (cap' - (L.length - lo + xs.length))) e)) S1.1 hlk (Nat.lt_succ_self g) rfl rfl rfl (by simp)
          (fun b hb hne => Below.heap_alloc w.drew _ b hb) (.inl ⟨Nat.le_refl _, by simp⟩) (fun C => by
            refine .inr ⟨w.heap.size, 0, e, _, Gh.put_loc_same _ _ _, heap_alloc_at w.drew _, ?_, ?_, ?_, ?_⟩
            · rw [Gh.put_cap_same, size_of_append, hxl, hll, hzs, ← hsize, Nat.zero_add, ← Nat.add_mul, ← Nat.add_mul]
              exact Nat.mul_le_mul_right _ (by omega)
            · rw [Gh.put_cap_same, List.length_append, hdl]; exact hcap
            · exact hsz2
            · exact relO_flat (vs := lvs ++ xvs) hsz2 (by rw [List.flatten_append]; exact (hlr1.compat C).append (hxr1.compat C)) (fun u hu => by
                rcases List.mem_append.1 hu with hu | hu
                · exact hl1 u hu
                · exact hx1 u hu) (fun q hq => pre_of_append lvs xvs z.cells _ q hq))
        refine ⟨_, _, _, hrun, N.1, S1.2.trans N.2, .own _ _ _ _ _ _ hid rfl fun g' sz L' hl => ?_⟩
        rw [look_upd, if_pos rfl, hlk] at hl
        cases hl
        exact ⟨Nat.le_refl _, fun _ => ⟨Nat.zero_le _, by rw [Gh.put_cap_same, List.length_append, hdl]; exact hcap, _, by rw [Gh.put_cap_same, List.length_append, hdl]; rfl, fun _ => by rw [Gh.put_loc_same]; simp⟩⟩
  · cases hv

end
end Go.Abs

/- The abstract layer, part L: slices built out of their elements; maps. -/
set_option linter.unusedVariables false
set_option linter.unusedSimpArgs false
namespace Go.Abs
open Go.RowKit
section
variable {P : Program} {G : Gh} {w : World} {A : Nat → Prop} {h : Heap}

def rowsA (sz : Nat) : Nat → List (Nat × AV) → Option (List (List AV))
  | _, [] => some []
  | k, (i, v) :: r => if i = k then (match cellsA v, rowsA sz (k + 1) r with
    | some cs, some rest => if cs.length = sz then some (cs :: rest) else none
    | _, _ => none) else none

theorem rowsA_fill {sz : Nat} : ∀ {parts : List (Nat × AV)} {k : Nat} {rows : List (List AV)} {cur : List AV}, rowsA sz k parts = some rows → k * sz + rows.length * sz = cur.length →
    fillA (fun i => some (i * sz, sz)) cur parts = some (cur.take (k * sz) ++ rows.flatten) ∧ (∀ cs ∈ rows, cs.length = sz) ∧ rows.length = parts.length
  | [], k, rows, cur, hr, hl => by
    simp only [rowsA] at hr
    cases hr
    simp only [List.length_nil, Nat.zero_mul, Nat.add_zero] at hl
    refine ⟨?_, by simp, rfl⟩
    simp only [fillA, List.flatten_nil, List.append_nil]
    rw [hl, List.take_length]
  | (i, v) :: r, k, rows, cur, hr, hl => by
    simp only [rowsA] at hr
    split at hr
    · rename_i hik
      subst hik
      split at hr
      · rename_i cs rest hcs hrest
        split at hr
        · rename_i hsz
          cases hr
          simp only [List.length_cons, Nat.succ_mul] at hl
          have hput : (putAt cur (i * sz) cs).length = cur.length := putAt_length (by omega)
          obtain ⟨h1, h2, h3⟩ := rowsA_fill (cur := putAt cur (i * sz) cs) hrest (by rw [hput, Nat.succ_mul]; omega)
          refine ⟨?_, by simpa [hsz] using h2, by simp [h3]⟩
          simp only [fillA, hcs, hsz, true_and]
          rw [if_pos (by omega), h1]
          congr 1
          rw [List.flatten_cons, ← List.append_assoc]
          congr 1
          unfold putAt
          rw [Nat.succ_mul, List.take_append_of_le_length (by simp; omega), List.take_of_length_le (by simp; omega)]
        · cases hr
      · cases hr
    · cases hr

def buildSliceA (P : Program) (h : Heap) (id : Nat) (t : TypeId) (len : Nat) (parts : List (Nat × AV)) : Option (AV × Heap) :=
  match tiOf P t with
  | none => none
  | some ti => match ti.elem with
    | none => none
    | some e => match tiOf P e with
      | none => none
      | some te => match rowsA te.size 0 parts with
        | none => none
        | some rows => if te.zeroOk ∧ rows.length = len ∧ len * te.size ≤ 16777216 then some (.own id 0 0, hc id (.arr 0 te.size rows) h) else none

theorem buildSliceA_sound (S : SatH G w A h) {id : Nat} (hA : ¬ A id) {A' : Nat → Prop} (hA' : ∀ j, A' j ↔ A j ∨ j = id) {t : TypeId} {len : Nat} {parts : List (Nat × AV)} {ps : Array (Nat × Value)} {v : AV} {h' : Heap}
    (hl : parts.length = ps.toList.length) (hp : ∀ (j : Nat) (i : Nat) (v : AV) (p : Nat × Value), parts[j]? = some (i, v) → ps.toList[j]? = some p → p.1 = i ∧ Rel G w A h v p.2)
    (hv : buildSliceA P h id t len parts = some (v, h')) : StepOk G w A h ((Instr.buildSlice t len ps).run P w) v A' h' := by
  unfold buildSliceA at hv
  split at hv
  · cases hv
  rename_i ti hti
  split at hv
  · cases hv
  rename_i e he
  split at hv
  · cases hv
  rename_i te hte
  split at hv
  · cases hv
  rename_i rows hrows
  split at hv
  case isFalse => cases hv
  rename_i hc
  obtain ⟨hzok, hlen, hmax⟩ := hc
  cases hv
  obtain ⟨_, d, _, hd, _, _, _, _, hel, _⟩ := tiOf_parts hti
  obtain rfl := hel e he
  obtain ⟨i, d', hi, hd', hsize, hbytes, _⟩ := tiOf_parts hte
  obtain ⟨i', _, hi', _, hzo, _⟩ := tiOf_build hte
  rw [hi] at hi'
  cases hi'
  obtain ⟨z, hz, hz1, hzs⟩ := hzo hzok
  have hso := run_sizeOf (P := P) hte w
  generalize hcur : (Array.range (len * te.size)).map (fun k => (if len * te.size = 0 then (#[] : Array Value) else z.cells)[k % (if len * te.size = 0 then (#[] : Array Value) else z.cells).size]!) = cur
  have hcl : cur.size = len * te.size := by rw [← hcur]; simp
  have hc1 : ∀ u ∈ cur.toList, u.oneCell' = true := by
    intro u hu
    rw [← hcur] at hu
    simp only [Array.toList_map, Array.toList_range, List.mem_map, List.mem_range] at hu
    obtain ⟨k, hk, rfl⟩ := hu
    have h0 : ¬ (len * te.size = 0) := by omega
    simp only [h0, if_false]
    have hzs0 : 0 < z.cells.size := by
      rw [hzs, ← hsize]
      rcases Nat.eq_zero_or_pos te.size with q | q
      · rw [q] at hk; omega
      · exact q
    have hm := Nat.mod_lt k hzs0
    rw [getElem!_pos z.cells _ hm]
    exact hz1 _ (by simp)
  have hRel : Rels G w A h (List.replicate cur.size .any) cur.toList := ⟨by simp, fun j c hj => by
    have := List.eq_of_mem_replicate (List.mem_of_getElem? hj)
    subst this
    exact .any ..⟩
  obtain ⟨hfill, hrsz, hrl⟩ := rowsA_fill (cur := List.replicate cur.size .any) hrows (by simp [hcl, hlen])
  simp only [Nat.zero_mul, List.take_zero, List.nil_append] at hfill
  obtain ⟨out, ho1, ho2, ho3⟩ := fillA_sound hRel hc1 hl hp hfill
  have hrsz' : ∀ (i : Nat) (cs : List AV), rows[i]? = some cs → cs.length = te.size := fun i cs hi => hrsz cs (List.mem_of_getElem? hi)
  have hrun : (Instr.buildSlice t len ps).run P w = .ok (.slice (some ⟨w.heap.size, 0, none⟩) len len) (w.alloc (.cells out e)) := by
    have hmx : ¬ (len * te.size > 2 ^ 24) := by omega
    by_cases h0 : len * te.size = 0
    · simp only [h0, if_true] at hcur ho1
      subst hcur
      simp only [Instr.buildSlice, Sem.run_bind, run_underlying hd, Result.andThen_ok, hso, Sem.run_ite, h0, if_true, Sem.run_pure, if_neg (by omega : ¬ (0 > 2 ^ 24))]
      simp only [ho1]
      simp [newRow]
    · simp only [h0, if_false] at hcur
      subst hcur
      simp only [Instr.buildSlice, Sem.run_bind, run_underlying hd, Result.andThen_ok, hso, Sem.run_ite, h0, hmx, if_false, Sem.run_pure, zeroValue, typeInfo, run_program, hi, hz]
      simp only [ho1]
      simp [newRow]
  have N := new_obj (o := .arr 0 te.size rows) (w' := w.alloc (.cells out e)) (l := some ⟨w.heap.size, 0, none⟩) (c := len) S hA hA' rfl rfl rfl (by simp) (fun b hb => Below.heap_alloc w _ b hb) (fun a ha => by cases ha; simp) (fun C => by
    refine .inr ⟨w.heap.size, 0, e, out, Gh.put_loc_same _ _ _, heap_alloc_at w _, ?_, by rw [Gh.put_cap_same, hlen]; exact Nat.le_refl _, hrsz', ?_⟩
    · rw [Gh.put_cap_same, Nat.zero_add]
      have : out.toList.length = len * te.size := by rw [← ho2.1, flat_len hrsz', hlen]
      rw [Array.length_toList] at this
      omega
    · exact relO_flat hrsz' (ho2.compat C) ho3 (fun k _ => by rw [Nat.zero_add, Array.getElem?_toList]))
  refine ⟨_, _, _, hrun, N.1, N.2, .own _ _ _ _ _ _ ((hA' id).2 (.inr rfl)) rfl fun g' sz L' hl' => ?_⟩
  simp only [look_hc, if_true] at hl'
  cases hl'
  exact ⟨Nat.le_refl _, fun _ => ⟨Nat.zero_le _, by rw [Gh.put_cap_same, hlen]; exact Nat.le_refl _, _, by rw [Gh.put_cap_same, hlen]; rfl, fun _ => by rw [Gh.put_loc_same]; simp⟩⟩

/-! ### Maps -/

theorem makeMapA_sound (S : SatH G w A h) {id : Nat} (hA : ¬ A id) {A' : Nat → Prop} (hA' : ∀ j, A' j ↔ A j ∨ j = id) {t : TypeId} :
    StepOk G w A h ((Instr.makeMap t none).run P w) (.mp id) A' (hc id (.map []) h) := by
  have hrun : (Instr.makeMap t none).run P w = .ok (.map (some w.heap.size)) (w.alloc (.map #[] 0)) := by simp [Instr.makeMap]
  have N := new_obj (o := .map []) (w' := w.alloc (.map #[] 0)) (l := some ⟨w.heap.size, 0, none⟩) (c := 0) S hA hA' rfl rfl rfl (by simp) (fun b hb => Below.heap_alloc w _ b hb) (fun a ha => by cases ha; simp)
    (fun C => ⟨w.heap.size, #[], 0, Gh.put_loc_same _ _ _, heap_alloc_at w _, by simp, by simp⟩)
  exact ⟨_, _, _, hrun, N.1, N.2, .mp _ _ _ _ ((hA' id).2 (.inr rfl)) rfl fun m hl => ⟨w.heap.size, Gh.put_loc_same _ _ _, rfl⟩⟩

/-- Are two keys the same one? -/
def keyEq : Value → Value → Option Bool
  | .int k a, .int k' b => if k = k' then some (decide (a = b)) else none
  | .string a, .string b => some (decide (a = b))
  | _, _ => none

/-- What stands under a key. -/
def mapFind (k : Value) : List (Value × AV) → Option (Option (Nat × AV))
  | [] => some none
  | (k', v) :: r => match keyEq k k' with
    | some true => some (some (0, v))
    | some false => (mapFind k r).map fun o => o.map fun p => (p.1 + 1, p.2)
    | none => none

def keyOk (P : Program) (kt : TypeId) : Value → Bool
  | .int _ _ => match tiOf P kt with | some ti => ti.int.isSome | none => false
  | .string _ => match tiOf P kt with | some ti => ti.str | none => false
  | _ => false

def lookupA (P : Program) (h : Heap) (t : TypeId) (m k : AV) (ok : Bool) : Option AV :=
  match tiOf P t, m, k with
  | some ti, .mp id, .sc kv => match ti.mapk, look id h with
    | some (kt, et), some (.map es) => if keyOk P kt kv then (match mapFind kv es, tiOf P et with
      | some (some (_, v)), _ => some (if ok then .tup [v, .sc (.bool true)] else v)
      | some none, some te => match te.zero with
        | some [z] => if te.zsc then some (if ok then .tup [z, .sc (.bool false)] else z) else none
        | _ => none
      | _, _ => none) else none
    | _, _ => none
  | _, _, _ => none

theorem keyEq_now {kt : TypeId} {kv k' : Value} {d : TypeDesc} (hd : P.underlying kt = some d) (hk : keyOk P kt kv = true) {b : Bool} (he : keyEq kv k' = some b) : Instr.sameNow d kv k' = some b := by
  unfold keyOk at hk
  split at hk
  · rename_i k n
    cases k' <;> simp [keyEq] at he
    rename_i k2 n2
    obtain ⟨rfl, rfl⟩ := he
    split at hk
    · rename_i ti hti
      obtain ⟨k3, hk3⟩ := Option.isSome_iff_exists.1 hk
      obtain ⟨_, d', _, hd', _, _, _, _, _, _, _, _, hint⟩ := tiOf_parts hti
      rw [hd] at hd'
      cases hd'
      obtain rfl := hint k3 hk3
      simp [Instr.sameNow]
      rfl
    · cases hk
  · rename_i s1
    cases k' <;> simp [keyEq] at he
    subst he
    split at hk
    · rename_i ti hti
      obtain ⟨_, d', _, hd', _, _, _, _, _, _, _, hst, _⟩ := tiOf_parts hti
      rw [hd] at hd'
      cases hd'
      obtain rfl := hst hk
      simp only [Instr.sameNow]
      congr 1
      rw [beq_toListBytes, toList_eq_iff]
    · cases hk
  · cases hk

theorem findNow_sound {kt : TypeId} {kv : Value} {d : TypeDesc} (hd : P.underlying kt = some d) (hk : keyOk P kt kv = true) : ∀ {m : List (Value × AV)} {es : List MapEntry} {i : Nat} {r : Option (Nat × AV)}, m.length = es.length →
    (∀ (j : Nat) (k : Value) (v : AV), m[j]? = some (k, v) → ∃ e, es[j]? = some e ∧ e.key = k ∧ Rel G w A h v e.val) → mapFind kv m = some r →
    match r with
    | none => Instr.findNow d kv es i = some none
    | some (j, v) => ∃ e, es[j]? = some e ∧ Rel G w A h v e.val ∧ Instr.findNow d kv es i = some (some (i + j, e.val)) ∧ keyEq kv e.key = some true
  | [], [], i, r, _, _, hf => by
    simp only [mapFind] at hf
    cases hf
    rfl
  | [], _ :: _, _, _, hl, _, _ => by simp at hl
  | _ :: _, [], _, _, hl, _, _ => by simp at hl
  | (k', v) :: m, e :: es, i, r, hl, hp, hf => by
    obtain ⟨e', he', hkey, hrel⟩ := hp 0 k' v rfl
    simp at he'
    subst he'
    simp only [mapFind] at hf
    split at hf
    · rename_i hke
      cases hf
      rw [← hkey] at hke
      exact ⟨e, rfl, hrel, by simp only [Instr.findNow, keyEq_now hd hk hke, Nat.add_zero], hke⟩
    · rename_i hke
      rw [← hkey] at hke
      simp only [Option.map_eq_some_iff] at hf
      obtain ⟨r0, hr0, rfl⟩ := hf
      have ih := findNow_sound (m := m) (es := es) (i := i + 1) hd hk (by simpa using hl) (fun j k v hj => by
        obtain ⟨e2, h2⟩ := hp (j + 1) k v (by simpa using hj)
        exact ⟨e2, by simpa using h2⟩) hr0
      cases r0 with
      | none =>
        simp only [Option.map_none, Instr.findNow, keyEq_now hd hk hke]
        exact ih
      | some p =>
        obtain ⟨j, v2⟩ := p
        obtain ⟨e2, h1, h2, h3, h4⟩ := ih
        refine ⟨e2, by simpa using h1, h2, ?_, h4⟩
        simp only [Instr.findNow, keyEq_now hd hk hke, h3]
        congr 3
        omega
    · cases hf

theorem checkKey_ok {kt : TypeId} {kv : Value} {d : TypeDesc} (hd : P.underlying kt = some d) (hk : keyOk P kt kv = true) (e : Bool) (n : Nat) : (Instr.checkKey e (n + 1) kt kv).run P w = .ok () w := by
  unfold keyOk at hk
  split at hk
  · split at hk
    · rename_i ti hti
      obtain ⟨k3, hk3⟩ := Option.isSome_iff_exists.1 hk
      obtain ⟨_, d', _, hd', _, _, _, _, _, _, _, _, hint⟩ := tiOf_parts hti
      rw [hd] at hd'
      cases hd'
      obtain rfl := hint k3 hk3
      simp [Instr.checkKey, run_underlying hd]
    · cases hk
  · split at hk
    · rename_i ti hti
      obtain ⟨_, d', _, hd', _, _, _, _, _, _, _, hst, _⟩ := tiOf_parts hti
      rw [hd] at hd'
      cases hd'
      obtain rfl := hst hk
      simp [Instr.checkKey, run_underlying hd]
    · cases hk
  · cases hk

theorem run_getObj_map {b : Nat} {es : Array MapEntry} {clock : Nat} (hh : w.heap[b]? = some (.map es clock)) : (getObj b).run P w = .ok (.map es clock) w := by simp [getObj, Sem.run, hh]

theorem checkKey_10000 {kt : TypeId} {kv : Value} {d : TypeDesc} (hd : P.underlying kt = some d) (hk : keyOk P kt kv = true) (e : Bool) : (Instr.checkKey e 10000 kt kv).run P w = .ok () w := checkKey_ok hd hk e 9999

theorem lookupA_sound (S : SatH G w A h) {t : TypeId} {m k v : AV} {mv kv : Value} {ok : Bool} (rm : Rel G w A h m mv) (rk : Rel G w A h k kv) (hv : lookupA P h t m k ok = some v) :
    ∃ z, (Instr.lookup t mv kv ok).run P w = .ok z w ∧ Rel G w A h v z := by
  unfold lookupA at hv
  split at hv
  case h_2 => cases hv
  rename_i ti id kv0 hti
  obtain rfl := rk.sc_inv
  split at hv
  case h_2 => cases hv
  rename_i kt et es hmk hl
  split at hv
  case isFalse => cases hv
  rename_i hkok
  obtain ⟨_, d, _, hd, _, _, _, _, _, _, hmap, _⟩ := tiOf_parts hti
  obtain rfl := hmap kt et hmk
  obtain ⟨_, _, ho⟩ := rm.mp_inv
  obtain ⟨b, hb, rfl⟩ := ho _ hl
  obtain ⟨b', ens, clock, hb', hh, hlen, hpt⟩ := (S.obj _ _ hl).2
  rw [hb] at hb'
  cases hb'
  have hkd : ∃ dk, P.underlying kt = some dk := by
    unfold keyOk at hkok
    split at hkok
    · split at hkok
      · rename_i ti hti; obtain ⟨_, d', _, hd', _⟩ := tiOf_parts hti; exact ⟨d', hd'⟩
      · cases hkok
    · split at hkok
      · rename_i ti hti; obtain ⟨_, d', _, hd', _⟩ := tiOf_parts hti; exact ⟨d', hd'⟩
      · cases hkok
    · cases hkok
  obtain ⟨dk, hdk⟩ := hkd
  have hgo := run_getObj_map (P := P) hh
  have hck := checkKey_10000 (P := P) (w := w) hdk hkok
  have hpt' : ∀ (j : Nat) (k : Value) (v : AV), es[j]? = some (k, v) → ∃ e, ens.toList[j]? = some e ∧ e.key = k ∧ Rel G w A h v e.val := fun j k v hj => by
    obtain ⟨e, he, h2⟩ := hpt j k v hj
    exact ⟨e, by simpa using he, h2⟩
  split at hv
  · rename_i tt j v0 hf
    obtain ⟨e, he, hre, hfn, _⟩ := findNow_sound (i := 0) hdk hkok (by simpa using hlen) hpt' hf
    simp only [Option.some.injEq] at hv
    subst hv
    have hfk : (Instr.findKey kt kv ens.toList).run P w = .ok (some (j, e.val)) w := by
      simp [Instr.findKey, run_underlying hdk, hfn]
    cases ok
    · exact ⟨e.val, by simp [Instr.lookup, run_underlying hd, hgo, hck, hfk], hre⟩
    · refine ⟨.tuple #[e.val, .bool true], by simp [Instr.lookup, run_underlying hd, hgo, hck, hfk], ?_⟩
      exact .tup _ _ _ [e.val, .bool true] rfl fun j c hj => by
        match j, hj with
        | 0, hj => simp at hj; subst hj; exact hre
        | 1, hj => simp at hj; subst hj; exact .sc ..
  · rename_i te hf hte
    split at hv
    · rename_i z hz
      split at hv
      case isFalse => cases hv
      rename_i hzs
      simp only [Option.some.injEq] at hv
      subst hv
      have hfn := findNow_sound (i := 0) hdk hkok (by simpa using hlen) hpt' hf
      have hfk : (Instr.findKey kt kv ens.toList).run P w = .ok none w := by
        simp [Instr.findKey, run_underlying hdk, hfn]
      obtain ⟨i, d', hi, hd', _, _, _, hzero, _⟩ := tiOf_parts hte
      obtain ⟨i2, zv, hi2, hiz, hz1⟩ := tiOf_zsc hte hzs
      rw [hi] at hi2
      cases hi2
      rw [hz] at hzero
      simp only [hiz, Option.map_some, Option.some.injEq] at hzero
      have hzr : (zeroValue et).run P w = .ok zv w := by simp [zeroValue, typeInfo, hi, hiz]
      have hrz : Rel G w A h z zv := by
        rw [oneCell_cells hz1] at hzero
        simp at hzero
        rw [hzero]
        exact rel_ofConst _
      cases ok
      · exact ⟨zv, by simp [Instr.lookup, run_underlying hd, hgo, hck, hfk, hzr], hrz⟩
      · refine ⟨.tuple #[zv, .bool false], by simp [Instr.lookup, run_underlying hd, hgo, hck, hfk, hzr], ?_⟩
        exact .tup _ _ _ [zv, .bool false] rfl fun j c hj => by
          match j, hj with
          | 0, hj => simp at hj; subst hj; exact hrz
          | 1, hj => simp at hj; subst hj; exact .sc ..
    · cases hv
  · cases hv

def mapSetA (h : Heap) (P : Program) (t : TypeId) (m k v : AV) : Option Heap :=
  match tiOf P t, m, k with
  | some ti, .mp id, .sc kv => match ti.mapk, look id h with
    | some (kt, _), some (.map es) => if keyOk P kt kv then (match mapFind kv es with
      | some (some (j, _)) => some (upd id (.map (es.set j (kv, v))) h)
      | some none => some (upd id (.map (es ++ [(kv, v)])) h)
      | none => none) else none
    | _, _ => none
  | _, _, _ => none

theorem sameBits_of_keyEq {a b : Value} (hk : keyEq a b = some true) (n : Nat) : Instr.sameBits n b a = true := by
  unfold keyEq at hk
  split at hk
  · rename_i k x k' y
    split at hk
    · rename_i hkk
      subst hkk
      simp at hk
      subst hk
      cases n <;> simp [Instr.sameBits, beq_toListBytes]
    · cases hk
  · simp at hk
    subst hk
    cases n <;> simp [Instr.sameBits, beq_toListBytes]
  · cases hk

theorem run_setObj_map {b : Nat} {es : Array MapEntry} {clock : Nat} (hh : w.heap[b]? = some (.map es clock)) (o : Obj) : (setObj b o).run P w = .ok () { w with heap := w.heap.setIfInBounds b o } := by simp [setObj, Sem.run, hh]

theorem mapSetA_sound (S : SatH G w A h) {t : TypeId} {m k v : AV} {mv kv vv : Value} (rm : Rel G w A h m mv) (rk : Rel G w A h k kv) (rv : Rel G w A h v vv) {h' : Heap} (hv : mapSetA h P t m k v = some h') :
    ∃ w', (Instr.mapUpdate t mv kv vv).run P w = .ok () w' ∧ SatH G w' A h' ∧ Evo G w A h G w' A h' := by
  unfold mapSetA at hv
  split at hv
  case h_2 => cases hv
  rename_i ti id kv0 hti
  obtain rfl := rk.sc_inv
  split at hv
  case h_2 => cases hv
  rename_i kt et es hmk hl
  split at hv
  case isFalse => cases hv
  rename_i hkok
  obtain ⟨_, d, _, hd, _, _, _, _, _, _, hmap, _⟩ := tiOf_parts hti
  obtain rfl := hmap kt et hmk
  obtain ⟨_, _, ho⟩ := rm.mp_inv
  obtain ⟨b, hb, rfl⟩ := ho _ hl
  obtain ⟨b', ens, clock, hb', hh, hlen, hpt⟩ := (S.obj _ _ hl).2
  rw [hb] at hb'
  cases hb'
  have hkd : ∃ dk, P.underlying kt = some dk := by
    unfold keyOk at hkok
    split at hkok
    · split at hkok
      · rename_i ti hti; obtain ⟨_, d', _, hd', _⟩ := tiOf_parts hti; exact ⟨d', hd'⟩
      · cases hkok
    · split at hkok
      · rename_i ti hti; obtain ⟨_, d', _, hd', _⟩ := tiOf_parts hti; exact ⟨d', hd'⟩
      · cases hkok
    · cases hkok
  obtain ⟨dk, hdk⟩ := hkd
  have hblt : b < w.heap.size := (Array.getElem?_eq_some_iff.1 hh).1
  have hgo := run_getObj_map (P := P) hh
  have hck := checkKey_10000 (P := P) (w := w) hdk hkok
  have hpt' : ∀ (j : Nat) (k : Value) (v : AV), es[j]? = some (k, v) → ∃ e, ens.toList[j]? = some e ∧ e.key = k ∧ Rel G w A h v e.val := fun j k v hj => by
    obtain ⟨e, he, h2⟩ := hpt j k v hj
    exact ⟨e, by simpa using he, h2⟩
  have fin : ∀ (o : Obj) (es' : List (Value × AV)) (ens' : Array MapEntry) (c' : Nat), o = .map ens' c' → es'.length = ens'.size →
      (∀ (i : Nat) (k : Value) (v : AV), es'[i]? = some (k, v) → ∃ e, ens'[i]? = some e ∧ e.key = k ∧ Rel G w A h v e.val) →
      SatH G { w with heap := w.heap.setIfInBounds b o } A (upd id (.map es') h) ∧ Evo G w A h G { w with heap := w.heap.setIfInBounds b o } A (upd id (.map es') h) := by
    intro o es' ens' c' ho' hl' hp'
    subst ho'
    refine upd_obj S hl hb rfl rfl rfl (by simp) (fun b' hb' => by
      show (w.heap.setIfInBounds b _)[b']? = _
      rw [Array.getElem?_setIfInBounds_ne (fun e => hb' e.symm)]) rfl fun C => ⟨b, ens', c', hb, ?_, hl', fun i k v hi => ?_⟩
    · show (w.heap.setIfInBounds b _)[b]? = _
      rw [Array.getElem?_setIfInBounds_self_of_lt hblt]
    · obtain ⟨e, h1, h2, h3⟩ := hp' i k v hi
      exact ⟨e, h1, h2, h3.compat C⟩
  split at hv
  · rename_i j v0 hf
    cases hv
    obtain ⟨e, he, hre, hfn, hke⟩ := findNow_sound (i := 0) hdk hkok (by simpa using hlen) hpt' hf
    have hfk : (Instr.findKey kt kv ens.toList).run P w = .ok (some (j, e.val)) w := by
      simp [Instr.findKey, run_underlying hdk, hfn]
    have he' : ens[j]? = some e := by simpa using he
    have hsb := sameBits_of_keyEq hke 10000
    have hks : (Instr.keyThatStays e.key kv).run P w = .ok kv w := by simp [Instr.keyThatStays, hsb]
    have F := fin (.map (ens.modify j fun e => { e with key := kv, val := vv }) clock) (es.set j (kv, v)) _ clock rfl (by simp [hlen]) (fun i k u hi => by
      rw [List.getElem?_set] at hi
      by_cases hji : j = i
      · subst hji
        have hjl : j < es.length := by rw [hlen]; exact (Array.getElem?_eq_some_iff.1 he').1
        simp only [if_true, hjl] at hi
        cases hi
        exact ⟨{ e with key := kv, val := vv }, by rw [Array.getElem?_modify, if_pos rfl, he']; rfl, rfl, rv⟩
      · rw [if_neg hji] at hi
        obtain ⟨e2, h1, h2⟩ := hpt i k u hi
        exact ⟨e2, by rw [Array.getElem?_modify, if_neg hji]; exact h1, h2⟩)
    refine ⟨_, ?_, F⟩
    simp only [Instr.mapUpdate, Sem.run_bind, run_underlying hd, Result.andThen_ok, hgo, hck, hfk, he', Option.map_some, Option.getD_some, hks, run_setObj_map hh]
  · rename_i hf
    cases hv
    have hfn := findNow_sound (i := 0) hdk hkok (by simpa using hlen) hpt' hf
    have hfk : (Instr.findKey kt kv ens.toList).run P w = .ok none w := by
      simp [Instr.findKey, run_underlying hdk, hfn]
    have F := fin (.map (ens.push { key := kv, val := vv, born := clock }) (clock + 1)) (es ++ [(kv, v)]) _ (clock + 1) rfl (by simp [hlen]) (fun i k u hi => by
      by_cases hlt : i < es.length
      · rw [List.getElem?_append_left hlt] at hi
        obtain ⟨e2, h1, h2⟩ := hpt i k u hi
        refine ⟨e2, ?_, h2⟩
        rw [Array.getElem?_push, if_neg (by omega)]
        exact h1
      · rw [List.getElem?_append_right (by omega)] at hi
        cases hd2 : i - es.length with
        | zero =>
          rw [hd2] at hi
          simp at hi
          obtain ⟨rfl, rfl⟩ := hi
          have : i = ens.size := by omega
          subst this
          exact ⟨_, by rw [Array.getElem?_push, if_pos rfl], rfl, rv⟩
        | succ n => rw [hd2] at hi; simp at hi)
    refine ⟨_, ?_, F⟩
    simp only [Instr.mapUpdate, Sem.run_bind, run_underlying hd, Result.andThen_ok, hgo, hck, hfk, run_setObj_map hh]
  · cases hv

end
end Go.Abs

/- The abstract layer, part M: one operation (no call of a function), and that the machine's does the same. -/
set_option linter.unusedVariables false
set_option linter.unusedSimpArgs false
namespace Go.Abs
open Go.RowKit

def opA (P : Program) (h : Heap) (id : Nat) (ρ : Operand → AV) : Op → Option (AV × Heap × Bool)
  | .move x => some (ρ x, h, false)
  | .assign x => some (ρ x, h, false)
  | .pick c a b => match ρ c with
    | .sc (.bool t) => some (if t then ρ a else ρ b, h, false)
    | _ => none
  | .alloc t => (allocA P id t h).map fun h' => (.ptr id 0, h', true)
  | .box t x => (cellsA (ρ x)).map fun cs => (.ptr id 0, hc id (.box cs) h, true)
  | .build t parts => (buildA P t (parts.toList.map fun p => (p.1, ρ p.2))).map fun v => (v, h, false)
  | .buildSlice t len parts => (buildSliceA P h id t len (parts.toList.map fun p => (p.1, ρ p.2))).map fun p => (p.1, p.2, true)
  | .load t a => (loadA P h t (ρ a)).map fun v => (v, h, false)
  | .store t a x => (storeA P h t (ρ a) (ρ x)).map fun h' => (.any, h', false)
  | .nilCheck x => match ptrCells h (ρ x) with
    | some _ => some (ρ x, h, false)
    | none => none
  | .binOp op t x y _ => (binA P h op t x y (ρ x) (ρ y)).map fun v => (v, h, false)
  | .unOp op _ x => (unA op (ρ x)).map fun v => (v, h, false)
  | .convert s d x => (convA P s d (ρ x)).map fun v => (v, h, false)
  | .makeInterface t x => (mkIfaceA P t (ρ x)).map fun v => (v, h, false)
  | .makeFunc f first caps => if first.size = 0 then some (.fn f (caps.toList.map ρ), h, false) else none
  | .makeMap t none => some (.mp id, hc id (.map []) h, true)
  | .slice t x lo hi mx => (sliceA P h t (ρ x) (lo.map ρ) (hi.map ρ) (mx.map ρ)).map fun v => (v, h, false)
  | .fieldAddr s x f => (fieldAddrA P h s (ρ x) f).map fun v => (v, h, false)
  | .field t x f => (fieldA P t (ρ x) f).map fun v => (v, h, false)
  | .indexAddr t x i => (indexAddrA P h t (ρ x) (ρ i)).map fun v => (v, h, false)
  | .index t x i => (indexA P t (ρ x) (ρ i)).map fun v => (v, h, false)
  | .lookup t m k ok => (lookupA P h t (ρ m) (ρ k) ok).map fun v => (v, h, false)
  | .mapUpdate t m k x => (mapSetA h P t (ρ m) (ρ k) (ρ x)).map fun h' => (.any, h', false)
  | .insert t m k x => (mapSetA h P t (ρ m) (ρ k) (ρ x)).map fun h' => (.any, h', false)
  | .extract x i => (extractA (ρ x) i).map fun v => (v, h, false)
  | .call { callee := .builtin b, args := args, argTypes := tys } => match b, args.toList, tys.toList with
    | .len, [x], [t] => (lenA P h t (ρ x)).map fun v => (v, h, false)
    | .append, [s, x], [t, t'] => if t = t' then appendA P h id t (ρ s) (ρ x) else none
    | _, _, _ => none
  | _ => none

section
variable {P : Program} {G : Gh} {w : World} {A : Nat → Prop} {h : Heap}

/-- What the machine's operation comes to. -/
def OpOk (G : Gh) (w : World) (A : Nat → Prop) (h : Heap) (r : Result Next) (v : AV) (A' : Nat → Prop) (h' : Heap) : Prop :=
  ∃ n x w' G', r = .ok n w' ∧ (n = .value x ∨ (n = .skip ∧ x = undef)) ∧ SatH G' w' A' h' ∧ Evo G w A h G' w' A' h' ∧ Rel G' w' A' h' v x

theorem opOk_val (S : SatH G w A h) {s : Sem Value} {r : Result Next} (hr : r = (do pure (Next.value (← s)) : Sem Next).run P w) {v : AV} (hv : ∃ z, s.run P w = .ok z w ∧ Rel G w A h v z) : OpOk G w A h r v A h := by
  obtain ⟨z, h1, h2⟩ := hv
  exact ⟨.value z, z, w, G, by rw [hr]; simp [h1], .inl rfl, S, Evo.refl .., h2⟩

theorem opOk_step {s : Sem Value} {r : Result Next} (hr : r = (do pure (Next.value (← s)) : Sem Next).run P w) {v : AV} {A' : Nat → Prop} {h' : Heap} (hv : StepOk G w A h (s.run P w) v A' h') : OpOk G w A h r v A' h' := by
  obtain ⟨x, w', G', h1, h2, h3, h4⟩ := hv
  exact ⟨.value x, x, w', G', by rw [hr]; simp [h1], .inl rfl, h2, h3, h4⟩

theorem opOk_unit {s : Sem Unit} {r : Result Next} (hr : r = (do s; pure Next.skip : Sem Next).run P w) {A' : Nat → Prop} {h' : Heap} (hv : ∃ w', s.run P w = .ok () w' ∧ SatH G w' A' h' ∧ Evo G w A h G w' A' h') : OpOk G w A h r .any A' h' := by
  obtain ⟨w', h1, h2, h3⟩ := hv
  exact ⟨.skip, undef, w', G, by rw [hr]; simp [h1], .inr ⟨rfl, rfl⟩, h2, h3, .any ..⟩

theorem opA_sound (S : SatH G w A h) {id : Nat} (hA : ¬ A id) {ρ : Operand → AV} {ρc : Operand → Value} (hρ : ∀ x, Rel G w A h (ρ x) (ρc x)) {o : Oper} {v : AV} {h' : Heap} {fr : Bool}
    (hv : opA P h id ρ o.op = some (v, h', fr)) {A' : Nat → Prop} (hA' : ∀ j, A' j ↔ A j ∨ (fr = true ∧ j = id)) : OpOk G w A h ((execOp ρc o).run P w) v A' h' := by
  have same : fr = false → A' = A := fun e => funext fun j => propext (by rw [hA', e]; simp)
  have newA : fr = true → ∀ j, A' j ↔ A j ∨ j = id := fun e j => by rw [hA', e]; simp
  have hparts : ∀ (parts : Array (Nat × Operand)), (parts.toList.map fun p => (p.1, ρ p.2)).length = (parts.map fun (p : Nat × Operand) => (p.1, ρc p.2)).toList.length ∧
      ∀ (j : Nat) (i : Nat) (v : AV) (p : Nat × Value), (parts.toList.map fun p => (p.1, ρ p.2))[j]? = some (i, v) → (parts.map fun (p : Nat × Operand) => (p.1, ρc p.2)).toList[j]? = some p → p.1 = i ∧ Rel G w A h v p.2 := by
    intro parts
    refine ⟨by simp, fun j i v p hj hp => ?_⟩
    simp only [List.getElem?_map, Array.toList_map] at hj hp
    cases hq : parts.toList[j]? with
    | none => simp [hq] at hj
    | some q =>
      simp only [hq, Option.map_some, Option.some.injEq] at hj hp
      cases hj
      subst hp
      exact ⟨rfl, hρ _⟩
  have hopt : ∀ (x : Option Operand), RelOpt G w A h (x.map ρ) (x.map ρc) := fun x => by
    cases x with
    | none => trivial
    | some x => exact hρ x
  cases o with
  | mk dst op ty pos aft gd =>
  cases op with
  | move x =>
    simp only [opA, Option.some.injEq, Prod.mk.injEq] at hv
    obtain ⟨rfl, rfl, rfl⟩ := hv
    rw [same rfl]
    exact ⟨.value (ρc x), ρc x, w, G, rfl, .inl rfl, S, Evo.refl .., hρ x⟩
  | assign x =>
    simp only [opA, Option.some.injEq, Prod.mk.injEq] at hv
    obtain ⟨rfl, rfl, rfl⟩ := hv
    rw [same rfl]
    exact ⟨.value (ρc x), ρc x, w, G, rfl, .inl rfl, S, Evo.refl .., hρ x⟩
  | pick c a b =>
    simp only [opA] at hv
    split at hv
    · rename_i t hc
      simp only [Option.some.injEq, Prod.mk.injEq] at hv
      obtain ⟨rfl, rfl, rfl⟩ := hv
      rw [same rfl]
      have hb := hρ c
      rw [hc] at hb
      have hb' := hb.sc_inv
      cases t
      · exact ⟨.value (ρc b), ρc b, w, G, by simp [execOp, hb', asBool], .inl rfl, S, Evo.refl .., hρ b⟩
      · exact ⟨.value (ρc a), ρc a, w, G, by simp [execOp, hb', asBool], .inl rfl, S, Evo.refl .., hρ a⟩
    · cases hv
  | alloc t =>
    simp only [opA, Option.map_eq_some_iff, Prod.mk.injEq] at hv
    obtain ⟨h1, hh, rfl, rfl, rfl⟩ := hv
    exact opOk_step (P := P) rfl (allocA_sound S hA (newA rfl) hh)
  | box t x =>
    simp only [opA, Option.map_eq_some_iff, Prod.mk.injEq] at hv
    obtain ⟨cs, hcs, rfl, rfl, rfl⟩ := hv
    exact opOk_step (P := P) rfl (boxA_sound S hA (newA rfl) (hρ x) hcs)
  | build t parts =>
    simp only [opA, Option.map_eq_some_iff, Prod.mk.injEq] at hv
    obtain ⟨v0, hv0, rfl, rfl, rfl⟩ := hv
    rw [same rfl]
    exact opOk_val (P := P) S rfl (buildA_sound (hparts parts).1 (hparts parts).2 hv0)
  | buildSlice t len parts =>
    simp only [opA, Option.map_eq_some_iff, Prod.mk.injEq] at hv
    obtain ⟨⟨v0, h0⟩, hv0, rfl, rfl, rfl⟩ := hv
    exact opOk_step (P := P) rfl (buildSliceA_sound S hA (newA rfl) (hparts parts).1 (hparts parts).2 hv0)
  | load t a =>
    simp only [opA, Option.map_eq_some_iff, Prod.mk.injEq] at hv
    obtain ⟨v0, hv0, rfl, rfl, rfl⟩ := hv
    rw [same rfl]
    exact opOk_val (P := P) S rfl (loadA_sound S (hρ a) hv0)
  | store t a x =>
    simp only [opA, Option.map_eq_some_iff, Prod.mk.injEq] at hv
    obtain ⟨h0, hh, rfl, rfl, rfl⟩ := hv
    rw [same rfl]
    exact opOk_unit (P := P) rfl (storeA_sound S (hρ a) (hρ x) hh)
  | nilCheck x =>
    simp only [opA] at hv
    split at hv
    · rename_i cs hpc
      simp only [Option.some.injEq, Prod.mk.injEq] at hv
      obtain ⟨rfl, rfl, rfl⟩ := hv
      rw [same rfl]
      obtain ⟨b, o, _, hx, _⟩ := ptrCells_sound S (hρ x) hpc
      exact ⟨.value (ρc x), ρc x, w, G, by simp [execOp, hx], .inl rfl, S, Evo.refl .., hρ x⟩
    · cases hv
  | binOp op t x y yt =>
    simp only [opA, Option.map_eq_some_iff, Prod.mk.injEq] at hv
    obtain ⟨v0, hv0, rfl, rfl, rfl⟩ := hv
    rw [same rfl]
    exact opOk_val (P := P) S rfl (binA_sound S (hρ x) (hρ y) hv0)
  | unOp op t x =>
    simp only [opA, Option.map_eq_some_iff, Prod.mk.injEq] at hv
    obtain ⟨v0, hv0, rfl, rfl, rfl⟩ := hv
    rw [same rfl]
    exact opOk_val (P := P) S rfl (unA_sound (hρ x) hv0)
  | convert s d x =>
    simp only [opA, Option.map_eq_some_iff, Prod.mk.injEq] at hv
    obtain ⟨v0, hv0, rfl, rfl, rfl⟩ := hv
    rw [same rfl]
    exact opOk_val (P := P) S rfl (convA_sound (hρ x) hv0)
  | makeInterface t x =>
    simp only [opA, Option.map_eq_some_iff, Prod.mk.injEq] at hv
    obtain ⟨v0, hv0, rfl, rfl, rfl⟩ := hv
    rw [same rfl]
    exact opOk_val (P := P) S rfl (mkIfaceA_sound (hρ x) hv0)
  | makeFunc f first caps =>
    simp only [opA] at hv
    split at hv
    · rename_i hf
      simp only [Option.some.injEq, Prod.mk.injEq] at hv
      obtain ⟨rfl, rfl, rfl⟩ := hv
      rw [same rfl]
      have hfe : first = #[] := Array.eq_empty_of_size_eq_zero hf
      refine opOk_val (P := P) S rfl ⟨.func f #[] (caps.toList.map ρc).toArray, ?_, .fn _ _ f _ _ (by simp) fun j c hj => ?_⟩
      · subst hfe
        simp only [Instr.makeFunc, Sem.run_pure]
        congr 2
        · simp
        · apply Array.ext'
          simp
      · simp only [List.getElem?_map] at hj
        cases hq : caps.toList[j]? with
        | none => simp [hq] at hj
        | some q =>
          simp only [hq, Option.map_some, Option.some.injEq] at hj
          subst hj
          have : (caps.toList.map ρc).getD j undef = ρc q := by simp [List.getD, hq]
          rw [this]
          exact hρ q
    · cases hv
  | makeMap t r =>
    cases r with
    | none =>
      simp only [opA, Option.some.injEq, Prod.mk.injEq] at hv
      obtain ⟨rfl, rfl, rfl⟩ := hv
      exact opOk_step (P := P) rfl (makeMapA_sound S hA (newA rfl))
    | some _ => simp [opA] at hv
  | slice t x lo hi mx =>
    simp only [opA, Option.map_eq_some_iff, Prod.mk.injEq] at hv
    obtain ⟨v0, hv0, rfl, rfl, rfl⟩ := hv
    rw [same rfl]
    exact opOk_val (P := P) S rfl (sliceA_sound S (hρ x) (hopt lo) (hopt hi) (hopt mx) hv0)
  | fieldAddr s x f =>
    simp only [opA, Option.map_eq_some_iff, Prod.mk.injEq] at hv
    obtain ⟨v0, hv0, rfl, rfl, rfl⟩ := hv
    rw [same rfl]
    exact opOk_val (P := P) S rfl (fieldAddrA_sound S (hρ x) hv0)
  | field t x f =>
    simp only [opA, Option.map_eq_some_iff, Prod.mk.injEq] at hv
    obtain ⟨v0, hv0, rfl, rfl, rfl⟩ := hv
    rw [same rfl]
    exact opOk_val (P := P) S rfl (fieldA_sound (hρ x) hv0)
  | indexAddr t x i =>
    simp only [opA, Option.map_eq_some_iff, Prod.mk.injEq] at hv
    obtain ⟨v0, hv0, rfl, rfl, rfl⟩ := hv
    rw [same rfl]
    exact opOk_val (P := P) S rfl (indexAddrA_sound S (hρ x) (hρ i) hv0)
  | index t x i =>
    simp only [opA, Option.map_eq_some_iff, Prod.mk.injEq] at hv
    obtain ⟨v0, hv0, rfl, rfl, rfl⟩ := hv
    rw [same rfl]
    exact opOk_val (P := P) S rfl (indexA_sound (hρ x) (hρ i) hv0)
  | lookup t m k ok =>
    simp only [opA, Option.map_eq_some_iff, Prod.mk.injEq] at hv
    obtain ⟨v0, hv0, rfl, rfl, rfl⟩ := hv
    rw [same rfl]
    exact opOk_val (P := P) S rfl (lookupA_sound S (hρ m) (hρ k) hv0)
  | mapUpdate t m k x =>
    simp only [opA, Option.map_eq_some_iff, Prod.mk.injEq] at hv
    obtain ⟨h0, hh, rfl, rfl, rfl⟩ := hv
    rw [same rfl]
    exact opOk_unit (P := P) rfl (mapSetA_sound S (hρ m) (hρ k) (hρ x) hh)
  | insert t m k x =>
    simp only [opA, Option.map_eq_some_iff, Prod.mk.injEq] at hv
    obtain ⟨h0, hh, rfl, rfl, rfl⟩ := hv
    rw [same rfl]
    exact opOk_unit (P := P) rfl (mapSetA_sound S (hρ m) (hρ k) (hρ x) hh)
  | extract x i =>
    simp only [opA, Option.map_eq_some_iff, Prod.mk.injEq] at hv
    obtain ⟨v0, hv0, rfl, rfl, rfl⟩ := hv
    rw [same rfl]
    exact opOk_val (P := P) S rfl (extractA_sound (hρ x) hv0)
  | call c =>
    obtain ⟨callee, args, tys⟩ := c
    cases callee with
    | builtin b =>
      simp only [opA] at hv
      split at hv
      · rename_i x t ha ht
        simp only [Option.map_eq_some_iff, Prod.mk.injEq] at hv
        obtain ⟨v0, hv0, rfl, rfl, rfl⟩ := hv
        rw [same rfl]
        have ha' : args = #[x] := Array.ext' (by simpa using ha)
        have ht' : tys = #[t] := Array.ext' (by simpa using ht)
        subst ha'
        subst ht'
        refine opOk_val (P := P) S (s := Builtin.len_ #[t] ty #[ρc x]) ?_ (lenA_sound S (hρ x) hv0)
        simp [execOp, resolve, invoke, builtin]
      · rename_i s x t t' ha ht
        split at hv
        · rename_i htt
          subst htt
          have ha' : args = #[s, x] := Array.ext' (by simpa using ha)
          have ht' : tys = #[t, t] := Array.ext' (by simpa using ht)
          subst ha'
          subst ht'
          refine opOk_step (P := P) (s := Builtin.append_ #[t, t] ty #[ρc s, ρc x]) ?_ (appendA_sound S hA (hρ s) (hρ x) hv hA')
          simp [execOp, resolve, invoke, builtin]
        · cases hv
      · cases hv
    | value f => simp [opA] at hv
    | invoke r m => simp [opA] at hv
  | _ => simp [opA] at hv
end
end Go.Abs

/-! ### Arrays cut at their end; arrays cleared -/

namespace Go.Abs
open Go.RowKit

/-- An own array cut at its end: its record turns. -/
def sliceO (P : Program) (h : Heap) (t : TypeId) (x : AV) (lo hi : Option AV) : Option (AV × Heap) := match x with
  | .own id g lo0 => match tiOf P t, bnd lo, bnd hi with
    | some ti, some l, some (some b) => match ti.elem with
      | none => none
      | some e => match tiOf P e with
        | none => none
        | some te => match look id h with
          | some (.arr g' sz L) => if g = g' ∧ 0 ≤ l.getD 0 ∧ l.getD 0 ≤ b ∧ lo0 + b ≤ L.length ∧ sz = te.size then
              some (.own id (g + 1) (lo0 + (l.getD 0).toNat), upd id (.arr (g + 1) sz (L.take (lo0 + b.toNat))) h) else none
          | _ => none
    | _, _, _ => none
  | _ => none

/-- An array cleared: what lies there is not told. -/
def clearA (P : Program) (h : Heap) (t : TypeId) (x : AV) : Option Heap := match tiOf P t with
  | none => none
  | some ti => match ti.elem with
    | none => none
    | some e => match tiOf P e with
      | none => none
      | some te => match x with
        | .emp => some h
        | .own id g lo => match look id h with
          | some (.arr g' sz L) => if g = g' ∧ sz = te.size ∧ te.zeroOk = true then some (upd id (.arr g sz (L.take lo ++ List.replicate (L.length - lo) (List.replicate sz .any))) h) else none
          | _ => none
        | _ => none

def sliceXA (P : Program) (h : Heap) (t : TypeId) (x : AV) (lo hi mx : Option AV) : Option (AV × Heap × Bool) := match x, hi with
  | .own id g lo0, some b => (match mx with
    | none => (sliceO P h t (.own id g lo0) lo (some b)).map fun p => (p.1, p.2, false)
    | some _ => none)
  | x, hi => (sliceA P h t x lo hi mx).map fun v => (v, h, false)

/-- An operation in a row of operations. -/
def opX (P : Program) (h : Heap) (id : Nat) (ρ : Operand → AV) (op : Op) : Option (AV × Heap × Bool) := match op with
  | .slice t x lo hi mx => sliceXA P h t (ρ x) (lo.map ρ) (hi.map ρ) (mx.map ρ)
  | .call { callee := .builtin .clear, args := args, argTypes := tys } => match args.toList, tys.toList with
    | [x], [t] => (clearA P h t (ρ x)).map fun h' => (.any, h', false)
    | _, _ => none
  | op => opA P h id ρ op

section
variable {P : Program} {G : Gh} {w : World} {A : Nat → Prop} {h : Heap}

theorem sliceO_sound (S : SatH G w A h) {t : TypeId} {x v : AV} {a : Value} {lo hi : Option AV} {lx hx : Option Value} (hx0 : Rel G w A h x a) (hl : RelOpt G w A h lo lx) (hh : RelOpt G w A h hi hx) {h' : Heap}
    (hv : sliceO P h t x lo hi = some (v, h')) : StepOk G w A h ((Instr.sliceAt t a lx hx none).run P w) v A h' := by
  unfold sliceO at hv
  split at hv
  · rename_i id g lo0
    split at hv
    · rename_i ti l b hti hbl hbh
      have rl := relOpt_bnd hl hbl
      have rh := relOpt_bnd hh hbh
      split at hv
      · cases hv
      · rename_i e he
        split at hv
        · cases hv
        · rename_i te hte
          split at hv
          · rename_i g' sz L hlk
            split at hv
            · rename_i hc
              obtain ⟨rfl, h0, h1, h2, rfl⟩ := hc
              cases hv
              obtain ⟨inf, d, hin, hd, _, _, _, _, hel, _⟩ := tiOf_parts hti
              obtain rfl := hel e he
              have hsz := run_sizeOf (P := P) hte w
              obtain ⟨hid, h1c, ho⟩ := hx0.own_inv
              obtain ⟨hlo, hn, b0, rfl, hb0⟩ := (ho _ _ _ hlk).2 rfl
              have hbs := run_bounds (P := P) (w := w) true (L.length - lo0) (G.cap id - lo0) lx hx none (m := none) rl rh (.inl ⟨rfl, rfl⟩) (by simp) ⟨h0, by simpa using h1, by simp only [Option.getD_some, Option.getD_none]; omega, Int.le_refl _⟩
              have hlen : (L.take (lo0 + b.toNat)).length = lo0 + b.toNat := by rw [List.length_take]; omega
              have R := re_obj (sz' := te.size) (L' := L.take (lo0 + b.toNat)) (g' := g + 1) (l := G.loc id) (c := G.cap id) S hlk (by omega) (fun a ha => ⟨a, ha, rfl⟩) (fun C => by
                have h3 := (S.obj _ _ hlk).2.compat C (Gh.put_loc_same _ _ _).symm.symm (Gh.put_cap_same _ _ _).symm.symm fun b hb => rfl
                rcases h3 with ⟨k1, k2, k3⟩ | ⟨b1, o1, T, vs, k1, k2, k3, k4, k5, k6⟩
                · exact .inl ⟨by rw [k1]; simp, k2, k3⟩
                · refine .inr ⟨b1, o1, T, vs, k1, k2, k3, by rw [hlen]; omega, fun i cs hi => ?_, fun i cs hi j c hj => ?_⟩
                  · rw [List.getElem?_take] at hi
                    split at hi
                    · exact k5 i cs hi
                    · cases hi
                  · rw [List.getElem?_take] at hi
                    split at hi
                    · exact k6 i cs hi j c hj
                    · cases hi)
              refine ⟨.slice (if G.cap id - lo0 = (l.getD 0).toNat then b0 else b0.map (·.add ((l.getD 0).toNat * te.size))) (b.toNat - (l.getD 0).toNat) (G.cap id - lo0 - (l.getD 0).toNat), w, _, ?_, R.1, R.2, ?_⟩
              · simp [Instr.sliceAt, Instr.slice, run_underlying hd, hbs, hsz]
              · refine .own _ _ _ _ _ _ hid rfl fun g'' sz' L' hl' => ?_
                rw [look_upd, hlk] at hl'
                simp only [if_true, Option.map_some] at hl'
                cases hl'
                refine ⟨Nat.le_refl _, fun _ => ⟨by rw [hlen]; omega, by rw [hlen, Gh.put_cap_same]; omega, (if G.cap id - lo0 = (l.getD 0).toNat then b0 else b0.map (·.add ((l.getD 0).toNat * te.size))), by rw [hlen, Gh.put_cap_same, Nat.sub_sub, show lo0 + b.toNat - (lo0 + (l.getD 0).toNat) = b.toNat - (l.getD 0).toNat by omega], fun hlt => ?_⟩⟩
                rw [Gh.put_cap_same] at hlt
                rw [Gh.put_loc_same]
                have hne : ¬ (G.cap id - lo0 = (l.getD 0).toNat) := by omega
                simp only [hne, if_false]
                rw [hb0 (by omega)]
                cases G.loc id with
                | none => rfl
                | some ad =>
                  simp only [Option.map_some, Addr.add_lit]
                  congr 2
                  rw [Nat.add_mul, Nat.add_assoc]
            · cases hv
          · cases hv
    · cases hv
  · cases hv

theorem zero_one {z : Array Value} (h1 : ∀ u ∈ z.toList, u.oneCell' = true) (n : Nat) : ∀ u ∈ (Builtin.zeroCells z n).toList, u.oneCell' = true := by
  intro u hu
  simp only [Builtin.zeroCells, Array.toList_map, List.mem_map, Array.toList_range, List.mem_range] at hu
  obtain ⟨i, hi, rfl⟩ := hu
  have hz : 0 < z.size := by
    rcases Nat.eq_zero_or_pos z.size with e | e
    · rw [e] at hi; omega
    · exact e
  have hlt : i % z.size < z.size := Nat.mod_lt _ hz
  have : z[i % z.size]! = z[i % z.size] := by simp [hlt]
  rw [this]
  exact h1 _ (by simp)

theorem upd_same {id : Nat} {o : AObj} (hl : look id h = some o) : upd id o h = h := by
  funext j
  show look j (upd id o h) = look j h
  rw [look_upd]
  split
  · rename_i e; rw [e, hl]; rfl
  · rfl

theorem clearA_sound (S : SatH G w A h) {t ty : TypeId} {x : AV} {a : Value} (hx : Rel G w A h x a) {h' : Heap} (hv : clearA P h t x = some h') :
    StepOk G w A h ((Builtin.clear_ #[t] ty #[a]).run P w) .any A h' := by
  unfold clearA at hv
  split at hv
  · cases hv
  · rename_i ti hti
    split at hv
    · cases hv
    · rename_i e he
      obtain ⟨inf, d, hin, hd, _, _, _, _, hel, _⟩ := tiOf_parts hti
      obtain rfl := hel e he
      split at hv
      · cases hv
      · rename_i te hte
        split at hv
        · obtain ⟨a0, rfl⟩ := hx.emp_inv
          cases hv
          exact ⟨.tuple #[], w, G, by cases a0 <;> simp [Builtin.clear_, run_underlying hd], S, Evo.refl .., .any ..⟩
        · rename_i id g lo
          split at hv
          · rename_i g' sz L hlk
            split at hv
            · rename_i hc
              obtain ⟨rfl, rfl, hzo⟩ := hc
              cases hv
              obtain ⟨hid, h1c, ho⟩ := hx.own_inv
              obtain ⟨hlo, hn, b0, rfl, hb0⟩ := (ho _ _ _ hlk).2 rfl
              rcases Nat.eq_or_lt_of_le hlo with heq | hlt
              · have : L.length - lo = 0 := by omega
                rw [this, List.replicate_zero, List.append_nil, List.take_of_length_le (by omega), upd_same hlk]
                exact ⟨.tuple #[], w, G, by cases b0 <;> simp [Builtin.clear_, run_underlying hd], S, Evo.refl .., .any ..⟩
              · obtain ⟨ie, de, hie, hde, hz, _⟩ := tiOf_build hte
                obtain ⟨z, hz1, hz2, hz3⟩ := hz hzo
                have hsz0 : te.size = ie.size := by
                  obtain ⟨i2, d2, hi2, _, hs2, _⟩ := tiOf_parts hte
                  rw [hie] at hi2
                  cases hi2
                  exact hs2
                rcases (S.obj _ _ hlk).2 with ⟨rfl, _, _⟩ | ⟨b, o, T, vs, hloc, hh, h3, h4, h5, h6⟩
                · simp at hlt
                · have hb := hb0 (by omega)
                  rw [hloc] at hb
                  simp only [Option.map_some] at hb
                  subst hb
                  have hfit : ∀ i, i ≤ L.length → i * te.size ≤ G.cap id * te.size := fun i hi => Nat.mul_le_mul_right _ (by omega)
                  have hsub : (L.length - lo) * te.size + lo * te.size = L.length * te.size := by rw [← Nat.add_mul]; congr 1; omega
                  have hzl : (Builtin.zeroCells z.cells (L.length - lo)).toList.length = (L.length - lo) * te.size := by simp [size_zeroCells, hz3, hsz0]
                  have hall := hfit L.length (Nat.le_refl _)
                  have hone := zero_one (z := z.cells) hz2 (L.length - lo)
                  have hrun := run_putCells (P := P) (w := w) (ns := (Builtin.zeroCells z.cells (L.length - lo)).toList) (off := o + lo * te.size) hh (by rw [hzl]; omega) hone
                  refine ⟨.tuple #[], w.setRow b (putAt vs.toList (o + lo * te.size) (Builtin.zeroCells z.cells (L.length - lo)).toList).toArray, G, ?_, ?_⟩
                  · have hzv : (zeroValue e).run P w = .ok z w := by simp [zeroValue, typeInfo, hie, hz1]
                    cases hnn : L.length - lo with
                    | zero => omega
                    | succ nn =>
                      rw [hnn] at hrun
                      simp [Builtin.clear_, run_underlying hd, hzv, hrun]
                  · obtain ⟨f1, f2, f3, f4⟩ := setRow_frame w b (putAt vs.toList (o + lo * te.size) (Builtin.zeroCells z.cells (L.length - lo)).toList).toArray
                    have hpl : (putAt vs.toList (o + lo * te.size) (Builtin.zeroCells z.cells (L.length - lo)).toList).length = vs.size := by
                      rw [putAt_length (by rw [hzl]; simp; omega)]; simp
                    have hll : (L.take lo ++ List.replicate (L.length - lo) (List.replicate te.size AV.any)).length = L.length := by simp; omega
                    have U := upd_obj (o' := .arr g te.size (L.take lo ++ List.replicate (L.length - lo) (List.replicate te.size .any))) S hlk hloc f1 f2 f3 f4 (fun b' hb' => setRow_other w b b' _ hb') (.inr ⟨rfl, rfl, hll.symm, rfl, rfl⟩) fun C => .inr ⟨b, o, T, _, hloc, setRow_heap w b vs _ T (0, 0) hh, by simp [hpl]; omega, by rw [hll]; exact h4, ?_, ?_⟩
                    · exact ⟨U.1, U.2, .any ..⟩
                    · intro k ds hk
                      rcases Nat.lt_or_ge k lo with q | q
                      · rw [List.getElem?_append_left (by rw [List.length_take]; omega), List.getElem?_take, if_pos q] at hk
                        exact h5 k ds hk
                      · rw [List.getElem?_append_right (by rw [List.length_take]; omega), List.getElem?_replicate] at hk
                        split at hk
                        · cases hk; simp
                        · cases hk
                    · intro k ds hk j c hj
                      have hgd : ∀ n, (putAt vs.toList (o + lo * te.size) (Builtin.zeroCells z.cells (L.length - lo)).toList).toArray.getD n undef = ((putAt vs.toList (o + lo * te.size) (Builtin.zeroCells z.cells (L.length - lo)).toList)[n]?).getD undef := by
                        intro n; simp [Array.getD_eq_getD_getElem?]
                      have hgv : ∀ n, vs.getD n undef = (vs.toList[n]?).getD undef := by intro n; simp [Array.getD_eq_getD_getElem?]
                      rw [hgd, putAt_get (by rw [hzl]; simp; omega)]
                      rcases Nat.lt_or_ge k lo with q | q
                      · rw [List.getElem?_append_left (by rw [List.length_take]; omega), List.getElem?_take, if_pos q] at hk
                        have hjlt : j < te.size := h5 k ds hk ▸ (List.getElem?_eq_some_iff.1 hj).1
                        have hkk : k * te.size + te.size ≤ lo * te.size := by rw [← Nat.succ_mul]; exact Nat.mul_le_mul_right _ q
                        have : o + k * te.size + j < o + lo * te.size := by omega
                        simp only [this, if_true]
                        have h7 := h6 k ds hk j c hj
                        rw [hgv] at h7
                        exact ⟨h7.1.compat C, h7.2⟩
                      · rw [List.getElem?_append_right (by rw [List.length_take]; omega), List.getElem?_replicate] at hk
                        split at hk
                        · rename_i hkl
                          rw [List.length_take] at hkl
                          cases hk
                          rw [List.getElem?_replicate] at hj
                          split at hj
                          · rename_i hjlt
                            cases hj
                            refine ⟨.any .., ?_⟩
                            have hkk : k * te.size + te.size ≤ L.length * te.size := by rw [← Nat.succ_mul]; exact Nat.mul_le_mul_right _ (by omega)
                            have hkq : lo * te.size ≤ k * te.size := Nat.mul_le_mul_right _ q
                            have d1 : ¬ (o + k * te.size + j < o + lo * te.size) := by omega
                            have d2 : o + k * te.size + j < o + lo * te.size + (Builtin.zeroCells z.cells (L.length - lo)).toList.length := by rw [hzl]; omega
                            simp only [d1, d2, if_false, if_true]
                            have hlt2 : o + k * te.size + j - (o + lo * te.size) < (Builtin.zeroCells z.cells (L.length - lo)).toList.length := by rw [hzl]; omega
                            rw [List.getElem?_eq_getElem hlt2]
                            exact hone _ (List.getElem_mem hlt2)
                          · cases hj
                        · cases hk
            · cases hv
          · cases hv
        · cases hv

theorem opX_sound (S : SatH G w A h) {id : Nat} (hA : ¬ A id) {ρ : Operand → AV} {ρc : Operand → Value} (hρ : ∀ x, Rel G w A h (ρ x) (ρc x)) {o : Oper} {v : AV} {h' : Heap} {fr : Bool}
    (hv : opX P h id ρ o.op = some (v, h', fr)) {A' : Nat → Prop} (hA' : ∀ j, A' j ↔ A j ∨ (fr = true ∧ j = id)) : OpOk G w A h ((execOp ρc o).run P w) v A' h' := by
  have same : fr = false → A' = A := fun e => funext fun j => propext (by rw [hA', e]; simp)
  have hopt : ∀ (x : Option Operand), RelOpt G w A h (x.map ρ) (x.map ρc) := fun x => by
    cases x with
    | none => trivial
    | some x => exact hρ x
  obtain ⟨dst, op, ty, pos, aft, gd⟩ := o
  unfold opX at hv
  split at hv
  · rename_i t x lo hi mx heq
    dsimp only at heq
    subst heq
    unfold sliceXA at hv
    split at hv
    · rename_i id0 g lo0 b hx hb
      split at hv
      · rename_i hm
        simp only [Option.map_eq_some_iff, Prod.mk.injEq] at hv
        obtain ⟨p, hp, rfl, rfl, rfl⟩ := hv
        rw [same rfl]
        have hmx : mx = none := by cases mx <;> simp_all
        subst hmx
        rw [← hx, ← hb] at hp
        exact opOk_step (P := P) (s := Instr.sliceAt t (ρc x) (lo.map ρc) (hi.map ρc) none) rfl (sliceO_sound S (hρ x) (hopt lo) (hopt hi) hp)
      · cases hv
    · have h2 : opA P h id ρ (.slice t x lo hi mx) = some (v, h', fr) := hv
      exact opA_sound (o := ⟨dst, .slice t x lo hi mx, ty, pos, aft, gd⟩) S hA hρ h2 hA'
  · rename_i args tys heq
    dsimp only at heq
    subst heq
    split at hv
    · rename_i x t ha ht
      simp only [Option.map_eq_some_iff, Prod.mk.injEq] at hv
      obtain ⟨h0, hh, rfl, rfl, rfl⟩ := hv
      rw [same rfl]
      have ha' : args = #[x] := Array.ext' (by simpa using ha)
      have ht' : tys = #[t] := Array.ext' (by simpa using ht)
      subst ha'
      subst ht'
      refine opOk_step (P := P) (s := Builtin.clear_ #[t] ty #[ρc x]) ?_ (clearA_sound S (hρ x) hh)
      simp [execOp, resolve, invoke, builtin]
    · cases hv
  · exact opA_sound (o := ⟨dst, op, ty, pos, aft, gd⟩) S hA hρ hv hA'

theorem opX_notDefer {id : Nat} {ρ : Operand → AV} {op : Op} {r : AV × Heap × Bool} (hv : opX P h id ρ op = some r) : ∀ c, op ≠ .defer c := by
  intro c e
  subst e
  simp [opX, opA] at hv
end
end Go.Abs
