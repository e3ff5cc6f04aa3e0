/- The abstract layer, part J: a slice's elements as one row; slices built; append. -/
import Derived.Test.YtlmkmmkhfkdagaaAbsI
set_option linter.unusedVariables false
set_option linter.unusedSimpArgs false
namespace Go.Abs
open Go.RowKit

theorem flat_idx {α : Type} {sz : Nat} : ∀ {L : List (List α)}, (∀ (i : Nat) (cs : List α), L[i]? = some cs → cs.length = sz) → ∀ (i j : Nat), j < sz → L.flatten[i * sz + j]? = (L[i]?).bind (·[j]?)
  | [], _, i, j, _ => by simp
  | cs :: L, hsz, 0, j, hj => by
    have := hsz 0 cs rfl
    simp only [List.flatten_cons, Nat.zero_mul, Nat.zero_add, List.getElem?_cons_zero, Option.bind_some]
    rw [List.getElem?_append_left (by omega)]
  | cs :: L, hsz, i + 1, j, hj => by
    have := hsz 0 cs rfl
    have ih := flat_idx (L := L) (fun i cs h => hsz (i + 1) cs (by simpa using h)) i j hj
    simp only [List.flatten_cons, List.getElem?_cons_succ]
    rw [List.getElem?_append_right (by rw [Nat.succ_mul]; omega), ← ih]
    congr 1
    rw [Nat.succ_mul]
    omega

theorem flat_len {α : Type} {sz : Nat} : ∀ {L : List (List α)}, (∀ (i : Nat) (cs : List α), L[i]? = some cs → cs.length = sz) → L.flatten.length = L.length * sz
  | [], _ => by simp
  | cs :: L, hsz => by
    have := hsz 0 cs rfl
    have ih := flat_len (L := L) (fun i cs h => hsz (i + 1) cs (by simpa using h))
    simp only [List.flatten_cons, List.length_append, ih, List.length_cons, Nat.succ_mul]
    omega

section
variable {P : Program} {G : Gh} {w : World} {A : Nat → Prop} {h : Heap}

/-- The elements of a slice, each of sz cells. -/
def elemsAt (h : Heap) (sz : Nat) : AV → Option (List (List AV))
  | .emp => some []
  | .lst s l => if s = sz then some l else none
  | .own id g lo => match look id h with
    | some (.arr g' s L) => if g = g' ∧ s = sz then some (L.drop lo) else none
    | _ => none
  | _ => none

theorem rels_flat {L : List (List AV)} {sz : Nat} (hsz : ∀ (i : Nat) (cs : List AV), L[i]? = some cs → cs.length = sz) {vs : List Value} (hl : vs.length = L.length * sz)
    (hr : ∀ (i : Nat) (cs : List AV), L[i]? = some cs → ∀ (j : Nat) (c : AV), cs[j]? = some c → Rel G w A h c (vs.getD (i * sz + j) undef)) : Rels G w A h L.flatten vs := by
  refine ⟨by rw [flat_len hsz, hl], fun k c hk => ?_⟩
  have hkl : k < L.length * sz := by rw [← flat_len hsz]; exact (List.getElem?_eq_some_iff.1 hk).1
  have h0 : 0 < sz := by
    rcases Nat.eq_zero_or_pos sz with e | e
    · rw [e] at hkl; omega
    · exact e
  have hdm : k / sz * sz + k % sz = k := by rw [Nat.mul_comm]; exact Nat.div_add_mod k sz
  have hmod := Nat.mod_lt k h0
  have h1 := flat_idx hsz (k / sz) (k % sz) hmod
  rw [hdm, hk] at h1
  cases h2 : L[k / sz]? with
  | none => simp [h2] at h1
  | some cs =>
    simp only [h2, Option.bind_some] at h1
    have := hr _ cs h2 _ c h1.symm
    rwa [hdm] at this

theorem rels_unflat {L : List (List AV)} {sz : Nat} (hsz : ∀ (i : Nat) (cs : List AV), L[i]? = some cs → cs.length = sz) {vs : List Value} (r : Rels G w A h L.flatten vs)
    (i : Nat) (cs : List AV) (hi : L[i]? = some cs) (j : Nat) (c : AV) (hj : cs[j]? = some c) : Rel G w A h c (vs.getD (i * sz + j) undef) := by
  have hjl : j < sz := hsz i cs hi ▸ (List.getElem?_eq_some_iff.1 hj).1
  refine r.2 _ c ?_
  rw [flat_idx hsz i j hjl, hi]
  exact hj

theorem elemsAt_sound (S : SatH G w A h) {sz : Nat} {x : AV} {a : Value} (hx : Rel G w A h x a) {l : List (List AV)} (he : elemsAt h sz x = some l) :
    (∀ (i : Nat) (cs : List AV), l[i]? = some cs → cs.length = sz) ∧ ∃ b cap, a = .slice b l.length cap ∧ l.length ≤ cap ∧ ∃ vs : List Value, vs.length = l.length * sz ∧ Rels G w A h l.flatten vs ∧ (∀ u ∈ vs, u.oneCell' = true) ∧
      (l ≠ [] → ∃ bb o, b = some ⟨bb, o, none⟩ ∧ ∀ j v, vs[j]? = some v → w.cell? ⟨bb, o + j, none⟩ = some v) := by
  unfold elemsAt at he
  split at he
  · cases he
    obtain ⟨b, rfl⟩ := hx.emp_inv
    exact ⟨by simp, b, 0, rfl, Nat.le_refl _, [], by simp, by simpa using Rels.nil, by simp, by simp⟩
  · rename_i s l0
    split at he
    · rename_i hs
      subst hs
      cases he
      rcases hx.lst_inv with ⟨rfl, b, cap, rfl⟩ | ⟨b, off, cap, f, rfl, hne, hz, hcap, hsz, hc, h1, hr⟩
      · exact ⟨by simp, b, cap, rfl, by simp, [], by simp, by simpa using Rels.nil, by simp, by simp⟩
      · refine ⟨hsz, _, cap, rfl, hcap, (List.range (l.length * s)).map (fun k => f (k / s) (k % s)), by simp, ?_, ?_, fun _ => ⟨b, off, rfl, ?_⟩⟩
        · refine rels_flat hsz (by simp) fun i cs hi j c hj => ?_
          have hjl : j < s := hsz i cs hi ▸ (List.getElem?_eq_some_iff.1 hj).1
          have hil : i < l.length := (List.getElem?_eq_some_iff.1 hi).1
          have hlt : i * s + j < l.length * s := by
            have : i * s + s ≤ l.length * s := by rw [← Nat.succ_mul]; exact Nat.mul_le_mul_right _ hil
            omega
          have hd : (i * s + j) / s = i := by rw [Nat.mul_comm, Nat.mul_add_div (by omega)]; simp [Nat.div_eq_of_lt hjl]
          have hm : (i * s + j) % s = j := by rw [Nat.mul_comm, Nat.mul_add_mod]; exact Nat.mod_eq_of_lt hjl
          have := (hr i cs hi j c hj).widen (A := A) (h := h)
          simpa [List.getD, hlt, hd, hm] using this
        · intro u hu
          simp only [List.mem_map, List.mem_range] at hu
          obtain ⟨k, hk, rfl⟩ := hu
          have h0 : 0 < s := by
            rcases Nat.eq_zero_or_pos s with e | e
            · rw [e] at hk; omega
            · exact e
          have hq : k / s < l.length := Nat.div_lt_of_lt_mul (by rw [Nat.mul_comm]; exact hk)
          have hg := List.getElem?_eq_getElem hq
          have hlen := hsz _ _ hg
          have hml : k % s < (l[k / s]).length := by rw [hlen]; exact Nat.mod_lt k h0
          exact h1 _ _ hg _ _ (List.getElem?_eq_getElem hml)
        · intro k v hk
          simp only [List.getElem?_map] at hk
          cases hk' : (List.range (l.length * s))[k]? with
          | none => simp [hk'] at hk
          | some k' =>
            have hklt : k < l.length * s := by have := (List.getElem?_eq_some_iff.1 hk').1; simpa using this
            have : k' = k := by simpa [hklt] using hk'.symm
            subst this
            simp only [hk', Option.map_some] at hk
            cases hk
            have h0 : 0 < s := by
              rcases Nat.eq_zero_or_pos s with e | e
              · rw [e] at hklt; omega
              · exact e
            have hq : k' / s < l.length := Nat.div_lt_of_lt_mul (by rw [Nat.mul_comm]; exact hklt)
            have hg := List.getElem?_eq_getElem hq
            have hlen := hsz _ _ hg
            have hml : k' % s < (l[k' / s]).length := by rw [hlen]; exact Nat.mod_lt k' h0
            have := hc _ _ hg _ _ (List.getElem?_eq_getElem hml)
            rwa [Nat.add_assoc, show k' / s * s + k' % s = k' by rw [Nat.mul_comm]; exact Nat.div_add_mod k' s] at this
    · cases he
  · rename_i id g lo
    split at he
    · rename_i g' s L hl
      split at he
      · rename_i hg
        obtain ⟨rfl, rfl⟩ := hg
        cases he
        obtain ⟨_, _, ho⟩ := hx.own_inv
        obtain ⟨hlo, hn, b, rfl, hb⟩ := (ho _ _ _ hl).2 rfl
        rcases (S.obj _ _ hl).2 with ⟨rfl, hloc, hcap0⟩ | ⟨b', o, T, vs, hloc, hh, h3, h4, h5, h6⟩
        · simp at hlo
          subst hlo
          exact ⟨by simp, b, _, rfl, by simp, [], by simp, by simpa using Rels.nil, by simp, by simp⟩
        · have hszd : ∀ (i : Nat) (cs : List AV), (L.drop lo)[i]? = some cs → cs.length = s := fun i cs hi => by rw [List.getElem?_drop] at hi; exact h5 _ _ hi
          have hfit : L.length * s ≤ G.cap id * s := Nat.mul_le_mul_right _ h4
          have hle1 : lo * s ≤ L.length * s := Nat.mul_le_mul_right _ hlo
          have hlen : ((vs.toList.drop (o + lo * s)).take ((L.drop lo).length * s)).length = (L.drop lo).length * s := by
            simp only [List.length_take, List.length_drop, Array.length_toList, Nat.sub_mul]
            omega
          refine ⟨hszd, b, _, by rw [List.length_drop], by rw [List.length_drop]; omega, _, hlen, ?_, ?_, fun hne => ⟨b', o + lo * s, ?_, ?_⟩⟩
          · refine rels_flat hszd hlen fun i cs hi j c hj => ?_
            have hjl : j < s := hszd i cs hi ▸ (List.getElem?_eq_some_iff.1 hj).1
            have hil : i < (L.drop lo).length := (List.getElem?_eq_some_iff.1 hi).1
            have hlt : i * s + j < (L.drop lo).length * s := by
              have : i * s + s ≤ (L.drop lo).length * s := by rw [← Nat.succ_mul]; exact Nat.mul_le_mul_right _ hil
              omega
            rw [List.getElem?_drop] at hi
            have h7 := (h6 _ cs hi j c hj).1
            have e : (vs.toList.drop (o + lo * s) |>.take ((L.drop lo).length * s)).getD (i * s + j) undef = vs.getD (o + (lo + i) * s + j) undef := by
              rw [List.getD, List.getElem?_take, if_pos hlt, List.getElem?_drop, Array.getD_eq_getD_getElem?, Array.getElem?_toList, Nat.add_mul]
              congr 2
              omega
            rw [e]
            exact h7
          · intro u hu
            obtain ⟨k, hk, rfl⟩ := List.mem_iff_getElem.1 hu
            rw [hlen] at hk
            have h0 : 0 < s := by
              rcases Nat.eq_zero_or_pos s with e | e
              · rw [e] at hk; omega
              · exact e
            have hq : k / s < (L.drop lo).length := Nat.div_lt_of_lt_mul (by rw [Nat.mul_comm]; exact hk)
            have hg := List.getElem?_eq_getElem hq
            have hl2 := hszd _ _ hg
            have hml : k % s < ((L.drop lo)[k / s]).length := by rw [hl2]; exact Nat.mod_lt k h0
            rw [List.getElem?_drop] at hg
            have h7 := (h6 _ _ hg _ _ (List.getElem?_eq_getElem hml)).2
            have hdm : k / s * s + k % s = k := by rw [Nat.mul_comm]; exact Nat.div_add_mod k s
            rw [List.getElem_take, List.getElem_drop]
            rw [Array.getD_eq_getD_getElem?] at h7
            have hlt : o + lo * s + k < vs.size := by
              simp only [List.length_drop, Nat.sub_mul] at hk
              omega
            have e : o + (lo + k / s) * s + k % s = o + lo * s + k := by rw [Nat.add_mul]; omega
            rw [e, Array.getElem?_eq_getElem hlt, Option.getD_some] at h7
            simpa using h7
          · have hlc : lo < G.cap id := by
              have : lo < L.length := by
                rcases Nat.lt_or_ge lo L.length with q | q
                · exact q
                · exact absurd (List.drop_eq_nil_of_le q) hne
              omega
            rw [hb hlc, hloc]
            rfl
          · intro k v hk
            rw [List.getElem?_take] at hk
            split at hk
            · rw [List.getElem?_drop, Array.getElem?_toList] at hk
              rw [cell_of_heap hh]
              exact hk
            · cases hk
      · cases he
    · cases he
  · cases he
end
end Go.Abs
