/- The state of the examples; a row of cells in its order: plain Lean. -/
import Derived.Test.YtlmkmmkhfkdagaaPutM
import Derived.Test.YtlmkmmkhfkdagaaSeatT
set_option linter.unusedVariables false
set_option linter.unusedSimpArgs false
namespace Go.Abs
open Go.RowKit

def numM (n : Int) : ValM := ⟨1, n, ⟨#[]⟩⟩
def towerItems : List ItemM := [⟨1, 0, 1, ⟨#[]⟩, -1, 0, 0, ⟨#[]⟩⟩, ⟨2, 1, 2, ⟨#[]⟩, 1, 0, 0, ⟨#[]⟩⟩, ⟨3, 2, 1, ⟨#[]⟩, 1, 0, 0, ⟨#[]⟩⟩, ⟨4, 3, 2, ⟨#[]⟩, 2, 0, 0, ⟨#[]⟩⟩, ⟨5, 4, 1, ⟨#[]⟩, -1, 0, 0, ⟨#[]⟩⟩, ⟨6, 3, 1, ⟨#[]⟩, 4, 0, 0, ⟨#[]⟩⟩]
def towerM : StM := ⟨0, 6, .lst 0 [], towerItems, [], .lst 0 []⟩

/-- Is that seen from a scope? -/
def StM.sees (s : StM) (scope : Int) (name : ByteArray) (where_ n : Int) : Bool :=
  if where_ < 0 then !(s.seen scope name).isSome && decide ((s.seen scope name).getD zCell = zCell)
  else (s.seen scope name).isSome && decide ((s.seen scope name).getD zCell = ⟨where_, name, numM n⟩)

/-! ### One order only -/

def Sorted (L : List CellM) : Prop := L.Pairwise fun a b => keyLt b a = false

theorem sortedAt_pairwise {L : List CellM} (h : SortedAt L 0 L.length) : Sorted L := by
  unfold Sorted
  rw [List.pairwise_iff_getElem]
  intro i j hi hj hij
  have := h i j (by omega) hij hj
  rw [cAt_of (List.getElem?_eq_getElem hi), cAt_of (List.getElem?_eq_getElem hj)] at this
  exact this

theorem SameKeys.mem {L L' : List CellM} (h : SameKeys L L') {c : CellM} (hc : c ∈ L) : c ∈ L' := by
  have h1 : c ∈ L.filter (isCell c.scope c.name) := List.mem_filter.2 ⟨hc, by simp [isCell]⟩
  rw [← h c.scope c.name] at h1
  exact (List.mem_filter.1 h1).1

theorem sort_unique : ∀ (L L' : List CellM), Sorted L → Sorted L' → SameKeys L L' → L = L'
  | [], [], _, _, _ => rfl
  | [], c :: L', _, _, h => by have := h c.scope c.name; simp [isCell] at this
  | c :: L, [], _, _, h => by have := h c.scope c.name; simp [isCell] at this
  | a :: L, b :: L', h1, h2, h => by
    have hab : a = b := by
      have ha : a ∈ b :: L' := h.mem (by simp)
      have hs : SameKeys (b :: L') (a :: L) := fun k n => (h k n).symm
      have hb : b ∈ a :: L := hs.mem (by simp)
      have e1 : keyLt a b = false := by
        rcases List.mem_cons.1 ha with e | e
        · rw [e]; exact keyLt_irrefl b
        · exact (List.pairwise_cons.1 h2).1 a e
      have e2 : keyLt b a = false := by
        rcases List.mem_cons.1 hb with e | e
        · rw [e]; exact keyLt_irrefl a
        · exact (List.pairwise_cons.1 h1).1 b e
      obtain ⟨e3, e4⟩ := keyLt_total e1 e2
      have := h a.scope a.name
      have hb1 : isCell a.scope a.name b = true := by simp [isCell, e3, e4]
      have ha1 : isCell a.scope a.name a = true := by simp [isCell]
      rw [List.filter_cons_of_pos hb1, List.filter_cons_of_pos ha1] at this
      exact (List.cons.inj this).1.symm
    subst hab
    rw [sort_unique L L' (List.pairwise_cons.1 h1).2 (List.pairwise_cons.1 h2).2 fun k n => by
      have := h k n
      simp only [List.filter_cons] at this
      split at this
      · exact (List.cons.inj this).2
      · exact this]

/-- A cell put in its place. -/
def insM (c : CellM) : List CellM → List CellM
  | [] => [c]
  | d :: L => if keyLt d c then d :: insM c L else c :: d :: L
def isortM : List CellM → List CellM
  | [] => []
  | c :: L => insM c (isortM L)

theorem insM_mem {c : CellM} : ∀ {L : List CellM} {x : CellM}, x ∈ insM c L → x = c ∨ x ∈ L
  | [], x, h => by simp [insM] at h; exact .inl h
  | d :: L, x, h => by
    simp only [insM] at h
    split at h
    · rcases List.mem_cons.1 h with e | e
      · exact .inr (by simp [e])
      · exact (insM_mem e).imp (fun h => h) fun h => by simp [h]
    · rcases List.mem_cons.1 h with e | e
      · exact .inl e
      · exact .inr e

theorem insM_sorted {c : CellM} : ∀ {L : List CellM}, Sorted L → Sorted (insM c L)
  | [], _ => by simp [insM, Sorted]
  | d :: L, h => by
    have h1 := List.pairwise_cons.1 h
    simp only [insM]
    split
    · rename_i hd
      refine List.pairwise_cons.2 ⟨fun x hx => ?_, insM_sorted h1.2⟩
      rcases insM_mem hx with e | e
      · rw [e]; exact keyLt_asymm hd
      · exact h1.1 x e
    · rename_i hd
      have hd : keyLt d c = false := by simpa using hd
      refine List.pairwise_cons.2 ⟨fun x hx => ?_, h⟩
      rcases List.mem_cons.1 hx with e | e
      · rw [e]; exact hd
      · exact keyLe_trans hd (h1.1 x e)

theorem insM_keys {c : CellM} : ∀ {L : List CellM}, SameKeys (c :: L) (insM c L)
  | [] => SameKeys.refl _
  | d :: L => by
    simp only [insM]
    split
    · rename_i hd
      intro k n
      have ih := insM_keys (c := c) (L := L) k n
      simp only [List.filter_cons, ih]
      cases h1 : isCell k n c <;> cases h2 : isCell k n d <;> simp
      simp only [isCell, Bool.and_eq_true, decide_eq_true_eq] at h1 h2
      rw [keyLt_congr (a' := c) (b' := c) (h2.1.trans h1.1.symm) (h2.2.trans h1.2.symm) rfl rfl, keyLt_irrefl] at hd
      cases hd
    · exact SameKeys.refl _

theorem isortM_sorted : ∀ L, Sorted (isortM L)
  | [] => List.Pairwise.nil
  | c :: L => insM_sorted (isortM_sorted L)
theorem isortM_keys : ∀ L, SameKeys L (isortM L)
  | [] => SameKeys.refl _
  | c :: L => fun k n => by
    have h1 := insM_keys (c := c) (L := isortM L) k n
    have h2 := isortM_keys L k n
    show (insM c (isortM L)).filter _ = _
    rw [h1, List.filter_cons, List.filter_cons, h2]

theorem SortOk.eq {L L' : List CellM} (ok : SortOk L L' 0 L.length) : L' = isortM L := by
  refine sort_unique _ _ (sortedAt_pairwise (by rw [ok.len]; exact ok.sorted)) (isortM_sorted L) fun k n => ?_
  rw [isortM_keys L k n, ok.keys k n]

/-- What opening variables makes. -/
def StM.open_ (s : StM) (scope : Int) (vs : List VarM) : StM := { s with cells := isortM (s.pre scope vs) }

/-! ### The examples' states -/

def xS : ByteArray := ⟨#[120]⟩
def yS : ByteArray := ⟨#[121]⟩
def w1 : StM := towerM.open_ 1 [⟨xS, numM 1⟩]
def w2 : StM := w1.open_ 3 [⟨yS, numM 2⟩]
def w3 : StM := (w2.put 3 [⟨xS, numM 5⟩]).1

theorem w2_put : (w2.put 3 [⟨xS, numM 5⟩]).2 = 0 := by kernel_rfl
theorem w2_sees1 : w2.sees 3 xS 1 1 = true := by kernel_rfl
theorem w2_sees2 : w2.sees 3 yS 3 2 = true := by kernel_rfl
theorem w2_sees3 : w2.sees 1 yS (-1) 0 = true := by kernel_rfl
theorem w3_sees : w3.sees 1 xS 1 5 = true := by kernel_rfl
theorem w2_way : w2.way 5 = [5] := by kernel_rfl
theorem w2_sees4 : w2.sees 5 xS (-1) 0 = true := by kernel_rfl
theorem w1_items : w1.items = towerItems := rfl
theorem w2_items : w2.items = towerItems := rfl
theorem w3_items : w3.items = towerItems := by kernel_rfl
theorem w1_len : w1.cells.length = 1 := by kernel_rfl
theorem w2_len : w2.cells.length = 2 := by kernel_rfl
theorem w3_len : w3.cells.length = 2 := by kernel_rfl
theorem p1_len : (towerM.pre 1 [⟨xS, numM 1⟩]).length = 1 := by kernel_rfl
theorem p2_len : (w1.pre 3 [⟨yS, numM 2⟩]).length = 2 := by kernel_rfl
end Go.Abs
