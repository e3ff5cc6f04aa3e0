/- Laws of the model: what is seen, what is put. Plain Lean. -/
import Derived.Test.YtlmkmmkhfkdagaaWorksM
set_option linter.unusedVariables false
set_option linter.unusedSimpArgs false
set_option maxRecDepth 8000
namespace Go.Abs
open Go.RowKit

theorem place_congr {s t : StM} (h : t.items = s.items) (id : Int) : t.place id = s.place id := by unfold StM.place; rw [h]
theorem find_congr {s t : StM} (h : t.items = s.items) (id : Int) : t.find id = s.find id := by unfold StM.find; rw [place_congr h, h]
theorem nextId_congr {s t : StM} (h : t.items = s.items) (it : ItemM) : t.nextId it = s.nextId it := by unfold StM.nextId; rw [find_congr h]
theorem wayGo_congr {s t : StM} (h : t.items = s.items) : ∀ (n : Nat) (met : List Int) (id : Int), t.wayGo n met id = s.wayGo n met id
  | 0, _, _ => rfl
  | n + 1, met, id => by
    simp only [StM.wayGo, find_congr h, nextId_congr h, wayGo_congr h n]
theorem way_congr {s t : StM} (h : t.items = s.items) (scope : Int) : t.way scope = s.way scope := by unfold StM.way; rw [h, wayGo_congr h]

/-- The first scope that is seen is the scope itself. -/
theorem way_head {s : StM} {scope : Int} (hne : s.way scope ≠ []) : ∃ it rest, s.find scope = some it ∧ it.is = 1 ∧ s.way scope = scope :: rest ∧ (it.node = -1 → rest = []) := by
  unfold StM.way at *
  simp only [StM.wayGo] at hne ⊢
  cases hf : s.find scope with
  | none => simp [hf] at hne
  | some it =>
    simp only [hf] at hne ⊢
    split at hne
    · rename_i h1
      refine ⟨it, _, rfl, h1.1, by rw [if_pos h1], fun hn => by rw [if_pos hn]⟩
    · exact absurd rfl hne

theorem spot_scope {s : StM} {scope : Int} {name : ByteArray} {i : Nat} (h : s.spot scope name = some i) : ∃ c, s.cells[i]? = some c ∧ c.scope ∈ s.way scope ∧ c.name = name := by
  unfold StM.spot at h
  obtain ⟨id, hid, h1⟩ := List.exists_of_findSome?_eq_some h
  rw [List.findIdx?_eq_some_iff_getElem] at h1
  obtain ⟨hi, h2, _⟩ := h1
  simp only [isCell, Bool.and_eq_true, decide_eq_true_eq] at h2
  exact ⟨_, List.getElem?_eq_getElem hi, by rw [h2.1]; exact hid, h2.2⟩

/-- What putting does to the cells, if it is not refused. -/
theorem putGo_ok (s : StM) (scope : Int) : ∀ (sets : List SetM) (t : StM), t.items = s.items → (s.putGo scope sets t).2 = 0 →
    (s.putGo scope sets t).1.cells.length = t.cells.length ∧ (s.putGo scope sets t).1.items = s.items ∧ ∀ (i : Nat) (c : CellM), t.cells[i]? = some c → c.scope ∉ s.way scope → (s.putGo scope sets t).1.cells[i]? = some c
  | [], t, hit, _ => ⟨rfl, hit, fun i c h _ => h⟩
  | x :: xs, t, hit, he => by
    simp only [StM.putGo] at he ⊢
    cases hsp : t.spot scope x.name with
    | none => rw [hsp] at he; simp at he
    | some i =>
      rw [hsp] at he
      simp only at he ⊢
      split at he
      · rename_i hm
        rw [if_pos hm]
        obtain ⟨c0, hc0, hsc, _⟩ := spot_scope hsp
        rw [way_congr hit] at hsc
        obtain ⟨h1, h2, h3⟩ := putGo_ok s scope xs (t.setCell i x.v) hit he
        refine ⟨by rw [h1]; simp [StM.setCell], h2, fun j c hj hns => h3 j c ?_ hns⟩
        have hne : i ≠ j := fun e => by
          subst e
          rw [hc0] at hj
          cases hj
          exact hns hsc
        simp only [StM.setCell]
        rw [List.getElem?_set_ne hne]
        exact hj
      · simp at he

theorem putGo_e (s : StM) (scope : Int) : ∀ (sets : List SetM) (t : StM), (s.putGo scope sets t).2 = 0 ∨ ((s.putGo scope sets t).1 = s ∧ ((s.putGo scope sets t).2 = 22 ∨ (s.putGo scope sets t).2 = 23))
  | [], t => .inl rfl
  | x :: xs, t => by
    simp only [StM.putGo]
    cases hsp : t.spot scope x.name with
    | none => exact .inr ⟨rfl, .inl rfl⟩
    | some i =>
      simp only
      split
      · exact putGo_e s scope xs _
      · exact .inr ⟨rfl, .inr rfl⟩

theorem put_cells_le (s : StM) (scope : Int) : ∀ (sets : List SetM) (t : StM), t.items = s.items → t.cells.length = s.cells.length → (s.putGo scope sets t).1.cells.length = s.cells.length
  | sets, t, hit, hl => by
    rcases putGo_e s scope sets t with h | h
    · rw [(putGo_ok s scope sets t hit h).1, hl]
    · rw [h.1]

/-! ### What is seen, and what stands in Env -/

theorem findIdx_find {α : Type} (p : α → Bool) : ∀ l : List α, (l.findIdx? p).bind (fun i => l[i]?) = l.find? p
  | [] => rfl
  | a :: l => by
    rw [List.findIdx?_cons, List.find?_cons]
    cases hp : p a with
    | true => simp
    | false =>
      simp only [Bool.false_eq_true, if_false]
      rw [← findIdx_find p l]
      cases l.findIdx? p <;> simp

theorem findSome_bind {α β γ : Type} (f : α → Option β) (g : β → Option γ) (h : ∀ a b, f a = some b → (g b).isSome = true) : ∀ l : List α, (l.findSome? f).bind g = l.findSome? fun a => (f a).bind g
  | [] => rfl
  | a :: l => by
    rw [List.findSome?_cons, List.findSome?_cons]
    cases hf : f a with
    | none => exact findSome_bind f g h l
    | some b =>
      have := h a b hf
      cases hg : g b with
      | none => simp [hg] at this
      | some c => simp [hg]

theorem seen_find (s : StM) (scope : Int) (name : ByteArray) : s.seen scope name = (s.way scope).findSome? fun id => s.cells.find? (isCell id name) := by
  unfold StM.seen StM.spot
  rw [findSome_bind]
  · congr 1
    funext id
    exact findIdx_find _ _
  · intro id i hi
    rw [List.findIdx?_eq_some_iff_getElem] at hi
    obtain ⟨h, _⟩ := hi
    simp [h]

theorem find_flat {α β : Type} (p : β → Bool) (f : α → List β) : ∀ l : List α, (l.flatMap f).find? p = l.findSome? fun a => (f a).find? p
  | [] => rfl
  | a :: l => by
    rw [List.flatMap_cons, List.find?_append, List.findSome?_cons, find_flat p f l]
    cases (f a).find? p <;> rfl

theorem findSome_map {α β γ : Type} (f : α → Option β) (g : β → γ) : ∀ l : List α, (l.findSome? f).map g = l.findSome? fun a => (f a).map g
  | [] => rfl
  | a :: l => by
    rw [List.findSome?_cons, List.findSome?_cons]
    cases f a with
    | none => exact findSome_map f g l
    | some b => rfl

theorem env_find (s : StM) (scope : Int) (name : ByteArray) : (s.env scope).find? (fun x => decide (x.name = name)) = (s.seen scope name).map CellM.set := by
  unfold StM.env
  rw [find_flat, seen_find, findSome_map]
  congr 1
  funext id
  unfold StM.own
  rw [List.find?_map, List.find?_filter]
  congr 1
  congr 1
  funext c
  rw [Bool.eq_iff_iff]
  simp [isCell, CellM.set]
  exact fun _ => decide_eq_true_iff
end Go.Abs
