/- The abstract layer, part I: the operations that make or write memory: new variables, stores, slices built, append. -/
import Derived.Test.YtlmkmmkhfkdagaaAbsH
set_option linter.unusedVariables false
set_option linter.unusedSimpArgs false
namespace Go.Abs
open Go.RowKit
section
variable {P : Program} {G : Gh} {w : World} {A : Nat → Prop} {h : Heap}

/-- What an operation's run comes to. -/
def StepOk (G : Gh) (w : World) (A : Nat → Prop) (h : Heap) (r : Result Value) (v : AV) (A' : Nat → Prop) (h' : Heap) : Prop :=
  ∃ x w' G', r = .ok x w' ∧ SatH G' w' A' h' ∧ Evo G w A h G' w' A' h' ∧ Rel G' w' A' h' v x

/-- A value laid into a new block of cells. -/
theorem new_box (S : SatH G w A h) {id : Nat} (hA : ¬ A id) {A' : Nat → Prop} (hA' : ∀ j, A' j ↔ A j ∨ j = id) {cs : List AV} {vs : Array Value} (T : TypeId)
    (hr : Rels G w A h cs vs.toList) (h1 : ∀ u ∈ vs.toList, u.oneCell' = true) :
    StepOk G w A h (.ok (.pointer (some ⟨w.heap.size, 0, none⟩)) (w.alloc (.cells vs T))) (.ptr id 0) A' (hc id (.box cs) h) := by
  have N := new_obj (o := .box cs) (w' := w.alloc (.cells vs T)) (l := some ⟨w.heap.size, 0, none⟩) (c := 0) S hA hA' rfl rfl rfl (by simp) (fun b hb => Below.heap_alloc w _ b hb)
    (fun a ha => by cases ha; simp) (fun C => ⟨w.heap.size, T, vs, Gh.put_loc_same _ _ _, heap_alloc_at w _, hr.compat C, h1⟩)
  refine ⟨_, _, _, rfl, N.1, N.2, .ptr _ _ _ _ _ ((hA' id).2 (.inr rfl)) rfl fun cs' hl => ⟨w.heap.size, Gh.put_loc_same _ _ _, rfl⟩⟩

def allocA (P : Program) (id : Nat) (t : TypeId) (h : Heap) : Option Heap :=
  match tiOf P t with
  | none => none
  | some ti => match ti.zero with
    | none => none
    | some z => if ti.zeroOk then some (hc id (.box z) h) else none

theorem allocA_sound (S : SatH G w A h) {id : Nat} (hA : ¬ A id) {A' : Nat → Prop} (hA' : ∀ j, A' j ↔ A j ∨ j = id) {t : TypeId} {h' : Heap} (hv : allocA P id t h = some h') :
    StepOk G w A h ((Instr.alloc t true (.tuple #[])).run P w) (.ptr id 0) A' h' := by
  unfold allocA at hv
  split at hv
  · cases hv
  · rename_i ti hti
    split at hv
    · cases hv
    · rename_i z hz
      split at hv
      · rename_i hzok
        cases hv
        obtain ⟨i, d, hi, hd, hzo, _⟩ := tiOf_build hti
        obtain ⟨i', d', hi', hd', _, _, _, hzero, _⟩ := tiOf_parts hti
        rw [hi] at hi'
        cases hi'
        obtain ⟨z0, hz0, hz1, _⟩ := hzo hzok
        rw [hz0] at hzero
        simp only [Option.map_some, hz] at hzero
        cases hzero
        have := new_box S hA hA' t (rels_ofConst (G := G) (w := w) (A := A) (h := h) z0.cells.toList) hz1
        have hrun : (Instr.alloc t true (.tuple #[])).run P w = .ok (.pointer (some ⟨w.heap.size, 0, none⟩)) (w.alloc (.cells z0.cells t)) := by
          simp [Instr.alloc, zeroValue, typeInfo, hi, hz0, newVar, newRow]
        rw [hrun]
        exact this
      · cases hv

theorem boxA_sound (S : SatH G w A h) {id : Nat} (hA : ¬ A id) {A' : Nat → Prop} (hA' : ∀ j, A' j ↔ A j ∨ j = id) {t : TypeId} {v : AV} {x : Value} (r : Rel G w A h v x) {cs : List AV} (hcs : cellsA v = some cs) :
    StepOk G w A h ((Instr.box t x).run P w) (.ptr id 0) A' (hc id (.box cs) h) := by
  obtain ⟨h1, h2⟩ := cellsA_sound r hcs
  have := new_box S hA hA' t h1 h2
  have hrun : (Instr.box t x).run P w = .ok (.pointer (some ⟨w.heap.size, 0, none⟩)) (w.alloc (.cells x.cells t)) := by
    simp [Instr.box, newVar, newRow]
  rw [hrun]
  exact this

/-! ### Stores -/

def storeA (P : Program) (h : Heap) (t : TypeId) (a x : AV) : Option Heap :=
  match tiOf P t, cellsA x with
  | some ti, some ns =>
    if ns.length = ti.size then
      match a with
      | .ptr id off => match look id h with
        | some (.box cs) => if off + ns.length ≤ cs.length then some (upd id (.box (putAt cs off ns)) h) else none
        | _ => none
      | .eptr id g i off => match look id h with
        | some (.arr g' sz L) => if g = g' then (match L[i]? with
          | some cs => if off + ns.length ≤ cs.length then some (upd id (.arr g' sz (L.set i (putAt cs off ns))) h) else none
          | none => none) else none
        | _ => none
      | _ => none
    else none
  | _, _ => none

theorem setRow_frame (w : World) (g : Nat) (cs : Array Value) : (w.setRow g cs).os = w.os ∧ (w.setRow g cs).tape = w.tape ∧ (w.setRow g cs).output = w.output ∧ (w.setRow g cs).heap.size = w.heap.size := by
  refine ⟨rfl, rfl, rfl, by simp [World.setRow]⟩

/-- A row of cells laid into a block. -/
theorem run_putCells {b off : Nat} {T : TypeId} {vs : Array Value} {ns : List Value} (hh : w.heap[b]? = some (.cells vs T (0, 0))) (hl : off + ns.length ≤ vs.size) (h1 : ∀ u ∈ ns, u.oneCell' = true) :
    (storeCells ⟨b, off, none⟩ ns).run P w = .ok () (w.setRow b (putAt vs.toList off ns).toArray) := by
  have := run_storeCells_at P b off T ns 0 vs w hh (by omega) h1
  simpa [putAt] using this

theorem storeA_sound (S : SatH G w A h) {t : TypeId} {a x : AV} {av xv : Value} (ra : Rel G w A h a av) (rx : Rel G w A h x xv) {h' : Heap} (hv : storeA P h t a x = some h') :
    ∃ w', (Instr.storeAt t av xv).run P w = .ok () w' ∧ SatH G w' A h' ∧ Evo G w A h G w' A h' := by
  unfold storeA at hv
  split at hv
  · rename_i ti ns hti hns
    obtain ⟨hnr, hn1⟩ := cellsA_sound rx hns
    have hnl : ns.length = xv.cells.size := by rw [hnr.1]; simp
    split at hv
    · rename_i hsz
      have hsize := run_sizeOf (P := P) hti w
      split at hv
      · -- a variable
        rename_i id off
        split at hv
        · rename_i cs hl
          split at hv
          · rename_i hle
            cases hv
            obtain ⟨hid, _, ho⟩ := ra.ptr_inv
            obtain ⟨b, hb, rfl⟩ := ho _ hl
            obtain ⟨b', T, vs, hb', hh, hr, h1⟩ := (S.obj _ _ hl).2
            rw [hb] at hb'
            cases hb'
            have hcl : cs.length = vs.size := by rw [hr.1]; simp
            have hrun := run_putCells (P := P) (w := w) (ns := xv.cells.toList) (off := off) hh (by simp; omega) hn1
            refine ⟨w.setRow b (putAt vs.toList off xv.cells.toList).toArray, ?_, ?_⟩
            · have hne : ¬ (xv.cells.size ≠ ti.size) := by omega
              simp [Instr.storeAt, Instr.sureAddr, storeVar, hsize, hne, hrun]
            · obtain ⟨f1, f2, f3, f4⟩ := setRow_frame w b (putAt vs.toList off xv.cells.toList).toArray
              exact upd_obj S hl hb f1 f2 f3 f4 (fun b' hb' => setRow_other w b b' _ hb') rfl fun C => ⟨b, T, _, hb, setRow_heap w b vs _ T (0, 0) hh, by
                simpa using (hr.putAt hnr off).compat C, by
                intro u hu
                simp only [putAt, List.mem_append] at hu
                rcases hu with (hu | hu) | hu
                · exact h1 u (List.mem_of_mem_take hu)
                · exact hn1 u hu
                · exact h1 u (List.mem_of_mem_drop hu)⟩
          · cases hv
        · cases hv
      · -- an element
        rename_i id g i off
        split at hv
        · rename_i g' sz L hl
          split at hv
          · rename_i hg
            subst hg
            split at hv
            · rename_i cs hi
              split at hv
              · rename_i hle
                cases hv
                obtain ⟨hid, _, ho⟩ := ra.eptr_inv
                obtain ⟨b, o, hb, rfl⟩ := (ho _ _ _ hl).2 rfl
                rcases (S.obj _ _ hl).2 with ⟨rfl, _, _⟩ | ⟨b', o', T, vs, hb', hh, h3, h4, h5, h6⟩
                · simp at hi
                · rw [hb] at hb'
                  cases hb'
                  have hcs := h5 i cs hi
                  have hilt : i < L.length := (List.getElem?_eq_some_iff.1 hi).1
                  have hfit : i * sz + sz ≤ G.cap id * sz := by rw [← Nat.succ_mul]; exact Nat.mul_le_mul_right _ (by omega)
                  have hrun := run_putCells (P := P) (w := w) (ns := xv.cells.toList) (off := o + i * sz + off) hh (by simp; omega) hn1
                  refine ⟨w.setRow b (putAt vs.toList (o + i * sz + off) xv.cells.toList).toArray, ?_, ?_⟩
                  · have hne : ¬ (xv.cells.size ≠ ti.size) := by omega
                    simp [Instr.storeAt, Instr.sureAddr, storeVar, hsize, hne, hrun]
                  · obtain ⟨f1, f2, f3, f4⟩ := setRow_frame w b (putAt vs.toList (o + i * sz + off) xv.cells.toList).toArray
                    have hpl : (putAt vs.toList (o + i * sz + off) xv.cells.toList).length = vs.size := by
                      rw [putAt_length (by simp; omega)]; simp
                    refine upd_obj S hl hb f1 f2 f3 f4 (fun b' hb' => setRow_other w b b' _ hb') (.inr ⟨rfl, rfl, by simp, rfl, rfl⟩) fun C => .inr ⟨b, o, T, _, hb, setRow_heap w b vs _ T (0, 0) hh, by simp [hpl]; omega, by simpa using h4, ?_, ?_⟩
                    · intro k ds hk
                      by_cases hik : i = k
                      · subst hik
                        rw [List.getElem?_set_self hilt] at hk
                        cases hk
                        rw [putAt_length hle, hcs]
                      · rw [List.getElem?_set_ne hik] at hk
                        exact h5 k ds hk
                    · intro k ds hk j c hj
                      have hgd : ∀ n, (putAt vs.toList (o + i * sz + off) xv.cells.toList).toArray.getD n undef = ((putAt vs.toList (o + i * sz + off) xv.cells.toList)[n]?).getD undef := by
                        intro n; simp [Array.getD_eq_getD_getElem?]
                      have hgv : ∀ n, vs.getD n undef = (vs.toList[n]?).getD undef := by intro n; simp [Array.getD_eq_getD_getElem?]
                      rw [hgd]
                      have hklt : k < L.length := by
                        have := (List.getElem?_eq_some_iff.1 hk).1; simpa using this
                      have hkd : ds.length = sz := by
                        by_cases hik : i = k
                        · subst hik
                          rw [List.getElem?_set_self hilt] at hk
                          cases hk
                          rw [putAt_length hle, hcs]
                        · rw [List.getElem?_set_ne hik] at hk
                          exact h5 k ds hk
                      have hjlt : j < sz := hkd ▸ (List.getElem?_eq_some_iff.1 hj).1
                      rw [putAt_get (by simp; omega)]
                      by_cases hik : i = k
                      · subst hik
                        rw [List.getElem?_set_self hilt] at hk
                        cases hk
                        rw [putAt_get hle] at hj
                        have h6j := fun c' (hj' : cs[j]? = some c') => h6 i cs hi j c' hj'
                        by_cases c1 : j < off
                        · simp only [c1, if_true] at hj
                          have : o + i * sz + j < o + i * sz + off := by omega
                          simp only [this, if_true]
                          have h7 := h6j c hj
                          rw [hgv] at h7
                          exact ⟨h7.1.compat C, h7.2⟩
                        · by_cases c2 : j < off + ns.length
                          · simp only [c1, c2, if_false, if_true] at hj
                            have d1 : ¬ (o + i * sz + j < o + i * sz + off) := by omega
                            have d2 : o + i * sz + j < o + i * sz + off + xv.cells.toList.length := by simp; omega
                            simp only [d1, d2, if_false, if_true]
                            have e : o + i * sz + j - (o + i * sz + off) = j - off := by omega
                            rw [e]
                            have hlt2 : j - off < xv.cells.toList.length := by simp; omega
                            have hgg := getD_of_lt hlt2
                            have h8 := hnr.2 _ c hj
                            rw [hgg]
                            exact ⟨h8.compat C, hn1 _ (List.mem_of_getElem? hgg)⟩
                          · simp only [c1, c2, if_false] at hj
                            have d1 : ¬ (o + i * sz + j < o + i * sz + off) := by omega
                            have d2 : ¬ (o + i * sz + j < o + i * sz + off + xv.cells.toList.length) := by simp; omega
                            simp only [d1, d2, if_false]
                            have h7 := h6j c hj
                            rw [hgv] at h7
                            exact ⟨h7.1.compat C, h7.2⟩
                      · rw [List.getElem?_set_ne hik] at hk
                        have h7 := h6 k ds hk j c hj
                        rw [hgv] at h7
                        have hne : ¬ (o + i * sz + off ≤ o + k * sz + j ∧ o + k * sz + j < o + i * sz + off + xv.cells.toList.length) := by
                          intro ⟨q1, q2⟩
                          have q3 : xv.cells.toList.length = ns.length := by simp; omega
                          rcases Nat.lt_or_gt_of_ne hik with q | q
                          · have : i * sz + sz ≤ k * sz := by rw [← Nat.succ_mul]; exact Nat.mul_le_mul_right _ q
                            omega
                          · have : k * sz + sz ≤ i * sz := by rw [← Nat.succ_mul]; exact Nat.mul_le_mul_right _ q
                            omega
                        by_cases d1 : o + k * sz + j < o + i * sz + off
                        · simp only [d1, if_true]
                          exact ⟨h7.1.compat C, h7.2⟩
                        · have d2 : ¬ (o + k * sz + j < o + i * sz + off + xv.cells.toList.length) := fun q => hne ⟨by omega, q⟩
                          simp only [d1, d2, if_false]
                          exact ⟨h7.1.compat C, h7.2⟩
              · cases hv
            · cases hv
          · cases hv
        · cases hv
      · cases hv
    · cases hv
  · cases hv
end
end Go.Abs
