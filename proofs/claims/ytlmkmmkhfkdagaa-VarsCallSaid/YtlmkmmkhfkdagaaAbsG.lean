/- The abstract layer, part G: rows of cells: what is laid over them, what a slice's cells are in one row; structs and slices built. -/
import Derived.Test.YtlmkmmkhfkdagaaAbsF
set_option linter.unusedVariables false
set_option linter.unusedSimpArgs false
namespace Go.Abs
open Go.RowKit

/-- A list with another one laid over it from a place on. -/
def putAt {α : Type} (cs : List α) (off : Nat) (ns : List α) : List α := cs.take off ++ ns ++ cs.drop (off + ns.length)

theorem putAt_length {α : Type} {cs ns : List α} {off : Nat} (hl : off + ns.length ≤ cs.length) : (putAt cs off ns).length = cs.length := by
  simp [putAt]; omega

theorem putAt_get {α : Type} {cs ns : List α} {off : Nat} (hl : off + ns.length ≤ cs.length) (j : Nat) :
    (putAt cs off ns)[j]? = if j < off then cs[j]? else if j < off + ns.length then ns[j - off]? else cs[j]? := by
  unfold putAt
  by_cases h1 : j < off
  · rw [List.append_assoc, List.getElem?_append_left (by simp; omega), List.getElem?_take]
    simp [h1]
  · by_cases h2 : j < off + ns.length
    · rw [List.append_assoc, List.getElem?_append_right (by simp; omega), List.getElem?_append_left (by simp; omega)]
      simp only [h1, h2, if_false, if_true, List.length_take]
      congr 1
      omega
    · rw [List.getElem?_append_right (by simp; omega), List.getElem?_drop]
      simp only [h1, h2, if_false, List.length_append, List.length_take]
      congr 1
      omega

section
variable {P : Program} {G : Gh} {w : World} {A : Nat → Prop} {h : Heap}

theorem Rels.nil : Rels G w A h [] [] := ⟨rfl, fun j c hj => by simp at hj⟩

theorem rels_iff {cs : List AV} {vs : List Value} : Rels G w A h cs vs ↔ cs.length = vs.length ∧ ∀ (j : Nat) (c : AV) (v : Value), cs[j]? = some c → vs[j]? = some v → Rel G w A h c v := by
  constructor
  · intro r
    refine ⟨r.1, fun j c v hj hv => ?_⟩
    have := r.2 j c hj
    rwa [List.getD, hv] at this
  · intro r
    refine ⟨r.1, fun j c hj => ?_⟩
    have hlt : j < vs.length := r.1 ▸ (List.getElem?_eq_some_iff.1 hj).1
    exact r.2 j c _ hj (getD_of_lt hlt)

theorem Rels.append {cs ds : List AV} {xs ys : List Value} (hx : Rels G w A h cs xs) (hy : Rels G w A h ds ys) : Rels G w A h (cs ++ ds) (xs ++ ys) := by
  rw [rels_iff] at *
  refine ⟨by simp [hx.1, hy.1], fun j c v hj hv => ?_⟩
  by_cases hlt : j < cs.length
  · rw [List.getElem?_append_left hlt] at hj
    rw [List.getElem?_append_left (by rw [← hx.1]; exact hlt)] at hv
    exact hx.2 j c v hj hv
  · rw [List.getElem?_append_right (by omega)] at hj
    rw [List.getElem?_append_right (by rw [← hx.1]; omega)] at hv
    rw [hx.1] at hj
    exact hy.2 _ c v hj hv

theorem Rels.take {cs : List AV} {xs : List Value} (hx : Rels G w A h cs xs) (n : Nat) : Rels G w A h (cs.take n) (xs.take n) := by
  rw [rels_iff] at *
  refine ⟨by simp [hx.1], fun j c v hj hv => ?_⟩
  rw [List.getElem?_take] at hj hv
  split at hj
  · rename_i hlt; simp only [hlt, if_true] at hv; exact hx.2 j c v hj hv
  · cases hj

theorem Rels.drop {cs : List AV} {xs : List Value} (hx : Rels G w A h cs xs) (n : Nat) : Rels G w A h (cs.drop n) (xs.drop n) := by
  rw [rels_iff] at *
  refine ⟨by simp [hx.1], fun j c v hj hv => ?_⟩
  rw [List.getElem?_drop] at hj hv
  exact hx.2 _ c v hj hv

theorem Rels.putAt {cs ds : List AV} {xs ys : List Value} (hx : Rels G w A h cs xs) (hy : Rels G w A h ds ys) (off : Nat) : Rels G w A h (putAt cs off ds) (putAt xs off ys) := by
  unfold Abs.putAt
  rw [hy.1]
  exact ((hx.take off).append hy).append (hx.drop _)

theorem rel_ofConst (v : Value) : Rel G w A h (ofConst v) v := by
  unfold ofConst
  split
  · exact .emp ..
  · exact .sc ..

theorem rels_ofConst (vs : List Value) : Rels G w A h (vs.map ofConst) vs := by
  rw [rels_iff]
  refine ⟨by simp, fun j c v hj hv => ?_⟩
  simp [hv] at hj
  subst hj
  exact rel_ofConst v

/-- A value's cells. -/
def cellsA : AV → Option (List AV)
  | .agg cs => some cs
  | v => if v.one then some [v] else none

theorem oneCell_cells {x : Value} (h1 : x.oneCell' = true) : x.cells = #[x] := by
  cases x <;> first | rfl | simp [Value.oneCell'] at h1

theorem cellsA_sound {v : AV} {x : Value} (r : Rel G w A h v x) {cs : List AV} (hc : cellsA v = some cs) : Rels G w A h cs x.cells.toList ∧ ∀ u ∈ x.cells.toList, u.oneCell' = true := by
  have one : v.one = true → cs = [v] → Rels G w A h cs x.cells.toList ∧ ∀ u ∈ x.cells.toList, u.oneCell' = true := by
    intro h1 hcs
    have hx := r.one h1
    rw [oneCell_cells hx, hcs]
    refine ⟨rels_iff.2 ⟨rfl, fun j c u hj hu => ?_⟩, fun u hu => ?_⟩
    · cases j with
      | zero => simp at hj hu; subst hj; subst hu; exact r
      | succ j => simp at hj
    · simp at hu; subst hu; exact hx
  unfold cellsA at hc
  split at hc
  · cases hc
    obtain ⟨vs, rfl, h1, hr⟩ := r.agg_inv
    exact ⟨by simpa [Value.cells] using hr, by simpa [Value.cells] using h1⟩
  · split at hc
    · rename_i h1
      cases hc
      exact one h1 rfl
    · cases hc

/-! ### Structs -/

def fillA (place : Nat → Option (Nat × Nat)) : List AV → List (Nat × AV) → Option (List AV)
  | cells, [] => some cells
  | cells, (i, v) :: rest => match place i, cellsA v with
    | some (off, size), some cs => if cs.length = size ∧ off + cs.length ≤ cells.length then fillA place (putAt cells off cs) rest else none
    | _, _ => none

theorem foldl_put : ∀ (vs : List Value) (i off : Nat) (cells : Array Value), off + i + vs.length ≤ cells.size →
    ((vs.zipIdx i).foldl (fun cs (x : Value × Nat) => cs.setIfInBounds (off + x.2) x.1) cells).toList = putAt cells.toList (off + i) vs
  | [], i, off, cells, _ => by simp [putAt]
  | v :: vs, i, off, cells, hl => by
    simp only [List.zipIdx_cons, List.foldl_cons, List.length_cons] at hl ⊢
    rw [foldl_put vs (i + 1) off _ (by simp; omega)]
    apply List.ext_getElem?
    intro j
    rw [putAt_get (by simp; omega), putAt_get (by simp; omega)]
    simp only [Array.toList_setIfInBounds, List.getElem?_set, List.length_cons, Array.length_toList]
    by_cases h1 : j < off + i
    · have : ¬ off + i = j := by omega
      simp [h1, this, show j < off + (i + 1) by omega]
    · by_cases h2 : j = off + i
      · subst h2
        have h3 : off + i < cells.size := by omega
        simp [show off + i < off + (i + 1) by omega, h3]
      · by_cases h4 : j < off + (i + 1) + vs.length
        · have h5 : ¬ j < off + (i + 1) := by omega
          have h6 : j - (off + i) = (j - (off + (i + 1))) + 1 := by omega
          simp only [h1, h5, h4, show j < off + i + (vs.length + 1) by omega, if_false, if_true]
          rw [h6, List.getElem?_cons_succ]
        · have h5 : ¬ j < off + (i + 1) := by omega
          have h7 : ¬ j < off + i + (vs.length + 1) := by omega
          have h8 : ¬ off + i = j := by omega
          simp only [h1, h5, h4, h7, h8, if_false]

theorem fill_one (v : Value) (off : Nat) (cells : Array Value) (hl : off + v.cells.size ≤ cells.size) :
    (v.cells.zipIdx.foldl (fun cs (c, j) => cs.setIfInBounds (off + j) c) cells).toList = putAt cells.toList off v.cells.toList := by
  have h1 := foldl_put v.cells.toList 0 off cells (by simpa using hl)
  rw [Nat.add_zero] at h1
  rw [← h1, ← Array.foldl_toList]
  congr 2
  simp

theorem fillA_sound {place : Nat → Option (Nat × Nat)} : ∀ {parts : List (Nat × AV)} {ps : List (Nat × Value)} {cells : List AV} {cs : Array Value} {r : List AV},
    Rels G w A h cells cs.toList → (∀ v ∈ cs.toList, v.oneCell' = true) → parts.length = ps.length → (∀ (j : Nat) (i : Nat) (v : AV) (p : Nat × Value), parts[j]? = some (i, v) → ps[j]? = some p → p.1 = i ∧ Rel G w A h v p.2) →
    fillA place cells parts = some r → ∃ out, Instr.fill place cs ps = some out ∧ Rels G w A h r out.toList ∧ (∀ v ∈ out.toList, v.oneCell' = true)
  | [], [], cells, cs, r, hc, h1, _, _, hv => by
    simp only [fillA] at hv
    cases hv
    exact ⟨cs, rfl, hc, h1⟩
  | [], _ :: _, _, _, _, _, _, hl, _, _ => by simp at hl
  | _ :: _, [], _, _, _, _, _, hl, _, _ => by simp at hl
  | (i, v) :: parts, (i', x) :: ps, cells, cs, r, hc, h1, hl, hp, hv => by
    obtain ⟨rfl, hx⟩ := hp 0 i v (i', x) rfl rfl
    simp only [fillA] at hv
    split at hv
    · rename_i off size ds hpl hds
      split at hv
      · rename_i hok
        obtain ⟨hd1, hd2⟩ := cellsA_sound hx hds
        have hlen : x.cells.size = ds.length := by rw [hd1.1]; simp
        have hcl : cells.length = cs.size := by rw [hc.1]; simp
        have hfill := fill_one x off cs (by omega)
        obtain ⟨out, ho1, ho2, ho3⟩ := fillA_sound (cs := (x.cells.zipIdx.foldl (fun cs (c, j) => cs.setIfInBounds (off + j) c) cs)) (parts := parts) (ps := ps) (by rw [hfill]; exact hc.putAt hd1 off) (by
            rw [hfill]
            intro u hu
            unfold putAt at hu
            simp only [List.mem_append] at hu
            rcases hu with (hu | hu) | hu
            · exact h1 u (List.mem_of_mem_take hu)
            · exact hd2 u hu
            · exact h1 u (List.mem_of_mem_drop hu)) (by simpa using hl) (fun j i v p hj hpj => hp (j + 1) i v p (by simpa using hj) (by simpa using hpj)) hv
        refine ⟨out, ?_, ho2, ho3⟩
        simp only [Instr.fill, hpl]
        have hno : ¬ (x.cells.size ≠ size ∨ off + x.cells.size > cs.size) := by
          rw [hlen]; omega
        simpa [hno] using ho1
      · cases hv
    · cases hv

def buildA (P : Program) (t : TypeId) (parts : List (Nat × AV)) : Option AV :=
  match tiOf P t with
  | none => none
  | some ti => match ti.zero with
    | none => none
    | some z =>
      if ti.zeroOk then
        match ti.arr with
        | some (_, e) => match tiOf P e with
          | none => none
          | some te => (fillA (fun i => some (i * te.size, te.size)) z parts).map .agg
        | none => if ti.fieldsOk then (fillA (fun i => (ti.fields[i]?).map fun f => (f.off, f.size)) z parts).map .agg else none
      else none

end
end Go.Abs
