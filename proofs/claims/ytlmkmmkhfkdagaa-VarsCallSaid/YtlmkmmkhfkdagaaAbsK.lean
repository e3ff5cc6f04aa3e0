/- The abstract layer, part K: append; slices built. -/
import Derived.Test.YtlmkmmkhfkdagaaAbsJ
set_option linter.unusedVariables false
set_option linter.unusedSimpArgs false
namespace Go.Abs
open Go.RowKit
section
variable {P : Program} {G : Gh} {w : World} {A : Nat → Prop} {h : Heap}

/-- An object's record turned, memory as it is. -/
theorem re_obj (S : SatH G w A h) {id g g' sz sz' : Nat} {L L' : List (List AV)} (hl : look id h = some (.arr g sz L)) (hg : g < g') {l : Option Addr} {c : Nat}
    (hloc : ∀ a, l = some a → ∃ a0, G.loc id = some a0 ∧ a0.block = a.block)
    (ho : Compat G w (G.put id l c) w A h A (upd id (.arr g' sz' L') h) → RelO (G.put id l c) w A (upd id (.arr g' sz' L') h) id (.arr g' sz' L')) :
    SatH (G.put id l c) w A (upd id (.arr g' sz' L') h) ∧ Evo G w A h (G.put id l c) w A (upd id (.arr g' sz' L') h) := by
  have C : Compat G w (G.put id l c) w A h A (upd id (.arr g' sz' L') h) := by
    refine ⟨fun _ h => h, fun _ _ _ _ h => h, fun _ h => h, fun j hj => ?_⟩
    rw [look_upd]
    by_cases e : j = id
    · subst e; simp only [if_true, hl]; exact .inl hg
    · simp only [e, if_false]; exact objCompat_put e _
  have hk : ∀ i oi, look i (upd id (.arr g' sz' L') h) = some oi → ∃ o, look i h = some o := fun i oi hi => look_upd_some hl hi
  have hoth : ∀ j oj d a, look j h = some oj → j ≠ id → G.loc j = some d → l = some a → d.block ≠ a.block := fun j oj d a hj e hd ha e' => by
    obtain ⟨a0, h1, h2⟩ := hloc a ha
    exact S.inj j id _ _ _ _ hj hl e hd h1 (by rw [e', h2])
  refine ⟨⟨fun j oj hj => ?_, fun i j oi oj b d hi hj hne hb hd => ?_, fun i oi b hi hb => ?_, S.zin⟩, ⟨rfl, rfl, rfl, Nat.le_refl _, fun _ _ _ => rfl, fun b hb => ?_, fun b hb => .inl hb, fun _ h => h, fun v x r => r.compat C⟩⟩
  · rw [look_upd] at hj
    by_cases e : j = id
    · subst e
      simp only [if_true, hl, Option.map_some] at hj
      cases hj
      exact ⟨(S.obj _ _ hl).1, ho C⟩
    · simp only [e, if_false] at hj
      exact ⟨(S.obj _ _ hj).1, (S.obj _ _ hj).2.compat C (Gh.put_loc_ne _ _ _ _ e) (Gh.put_cap_ne _ _ _ _ e) fun b hb => rfl⟩
  · obtain ⟨o1, hi'⟩ := hk i oi hi
    obtain ⟨o2, hj'⟩ := hk j oj hj
    by_cases ei : i = id
    · subst ei
      rw [Gh.put_loc_same] at hb
      rw [Gh.put_loc_ne _ _ _ _ (fun x => hne x.symm)] at hd
      exact fun x => hoth j _ d _ hj' (fun x => hne x.symm) hd hb x.symm
    · rw [Gh.put_loc_ne _ _ _ _ ei] at hb
      by_cases ej : j = id
      · subst ej
        rw [Gh.put_loc_same] at hd
        exact hoth i _ b _ hi' ei hb hd
      · rw [Gh.put_loc_ne _ _ _ _ ej] at hd
        exact S.inj i j _ _ _ _ hi' hj' hne hb hd
  · obtain ⟨o1, hi'⟩ := hk i oi hi
    by_cases ei : i = id
    · subst ei
      rw [Gh.put_loc_same] at hb
      obtain ⟨a0, h1, h2⟩ := hloc b hb
      intro hz
      exact S.zdis _ _ a0 hl h1 (by rw [h2]; exact hz)
    · rw [Gh.put_loc_ne _ _ _ _ ei] at hb
      exact S.zdis i _ _ hi' hb
  · obtain ⟨i, oi, d, hi, hd, hb⟩ := hb
    obtain ⟨o1, hi'⟩ := hk i oi hi
    by_cases ei : i = id
    · subst ei
      rw [Gh.put_loc_same] at hd
      obtain ⟨a0, h1, h2⟩ := hloc d hd
      exact .inl ⟨_, _, a0, hl, h1, by rw [h2, hb]⟩
    · rw [Gh.put_loc_ne _ _ _ _ ei] at hd
      exact .inl ⟨i, _, d, hi', hd, hb⟩

/-- append where there is room, at whatever offset. -/
theorem run_append_fit (t ty e : TypeId) (i : TypeInfo) (ht : P.underlying t = some (.slice e)) (hi : P.info? e = some i)
    (g o sLen sCap : Nat) (cur : Array Value) (T : TypeId) (hg : w.heap[g]? = some (.cells cur T (0, 0)))
    (x : Value) (news : List Value) (b : Option Addr) (m c : Nat) (hx : x = .slice b m c) (hl : news.length = m * i.size) (hnews : m ≠ 0 → ∃ bb oo, b = some ⟨bb, oo, none⟩ ∧ ∀ j v, news[j]? = some v → w.cell? ⟨bb, oo + j, none⟩ = some v) (h1 : ∀ u ∈ news, u.oneCell' = true)
    (hroom : sLen + m ≤ sCap) (hfit : o + sLen * i.size + news.length ≤ cur.size) :
    (Builtin.append_ #[t, t] ty #[.slice (some ⟨g, o, none⟩) sLen sCap, x]).run P w =
      .ok (.slice (some ⟨g, o, none⟩) (sLen + m) sCap) (w.setRow g (putAt cur.toList (o + sLen * i.size) news).toArray) := by
  subst hx
  have hf : (Builtin.firstCells i.size m (.slice b m c)).run P w = .ok news.toArray w := by
    by_cases hm : m = 0
    · subst hm
      have : news = [] := List.eq_nil_of_length_eq_zero (by simpa using hl)
      subst this
      cases b with
      | none => simp [Builtin.firstCells]
      | some ad => simp [Builtin.firstCells, loadCells, loadCellsFrom]
    · obtain ⟨bb, oo, rfl, hc⟩ := hnews hm
      exact run_firstCells_some (P := P) w i.size m ⟨bb, oo, none⟩ m c news hl (fun j v hj => by rw [Addr.add_lit]; exact hc j v hj)
  have hst := run_putCells (P := P) (w := w) (b := g) (off := o + sLen * i.size) (ns := news) hg (by simpa using hfit) h1
  simp [Builtin.append_, run_underlying ht, sizeOf, typeInfo, hi, Builtin.lenOf, hroom, hf, Addr.add_lit, hst]

/-- append where it must grow. -/
theorem run_append_more (t ty e : TypeId) (i : TypeInfo) (z : Value) (ht : P.underlying t = some (.slice e)) (hi : P.info? e = some i) (hz : i.zero = some z)
    (b0 : Option Addr) (sLen sCap : Nat) (olds : List Value) (hlo : olds.length = sLen * i.size) (holds : sLen ≠ 0 → ∃ bb oo, b0 = some ⟨bb, oo, none⟩ ∧ ∀ j v, olds[j]? = some v → w.cell? ⟨bb, oo + j, none⟩ = some v)
    (hnone : b0 = none → sCap = 0)
    (x : Value) (news : List Value) (b : Option Addr) (m c : Nat) (hx : x = .slice b m c) (hl : news.length = m * i.size) (hnews : m ≠ 0 → ∃ bb oo, b = some ⟨bb, oo, none⟩ ∧ ∀ j v, news[j]? = some v → w.cell? ⟨bb, oo + j, none⟩ = some v)
    (hm : m ≠ 0) (hle : sLen ≤ sCap) (hg : sCap < sLen + m) (h63 : sLen + m ≤ 9223372036854775807) (hb : (sLen + m) * i.bytes ≤ 140737488355328) :
    ∃ cap', sLen + m ≤ cap' ∧ (Builtin.append_ #[t, t] ty #[.slice b0 sLen sCap, x]).run P w =
      .ok (.slice (some ⟨w.heap.size, 0, none⟩) (sLen + m) cap') (w.drew.alloc (.cells (olds.toArray ++ news.toArray ++ Builtin.zeroCells z.cells (cap' - (sLen + m))) e)) := by
  subst hx
  obtain ⟨bb, oo, rfl, hc⟩ := hnews hm
  have hnews' : ∀ j v, news[j]? = some v → w.cell? ((⟨bb, oo, none⟩ : Addr).add j) = some v := fun j v hj => by rw [Addr.add_lit]; exact hc j v hj
  cases b0 with
  | none =>
    obtain rfl := hnone rfl
    have hs0 : sLen = 0 := by omega
    subst hs0
    have : olds = [] := List.eq_nil_of_length_eq_zero (by simpa using hlo)
    subst this
    refine ⟨grownCap w m 0 e, by have := grownCap_ge w m 0 e; omega, ?_⟩
    have := run_append_nil (P := P) w t ty e i z ht hi hz ⟨bb, oo, none⟩ m c news hl hnews' (by omega) (by omega) (by simp only [Nat.zero_add] at hb; omega)
    simpa using this
  | some ad =>
    refine ⟨grownCap w (sLen + m) sCap e, grownCap_ge w (sLen + m) sCap e, ?_⟩
    by_cases hs0 : sLen = 0
    · subst hs0
      have : olds = [] := List.eq_nil_of_length_eq_zero (by simpa using hlo)
      subst this
      exact run_append_grow (P := P) w t ty e i z ht hi hz ad 0 sCap [] (by simp) (fun j v hj => by simp at hj) ⟨bb, oo, none⟩ m c news hl hnews' (by omega) (by omega) (growslice_fits (by omega) hb)
    · obtain ⟨b1, o1, he, hco⟩ := holds hs0
      cases he
      exact run_append_grow (P := P) w t ty e i z ht hi hz ⟨b1, o1, none⟩ sLen sCap olds hlo (fun j v hj => by rw [Addr.add_lit]; exact hco j v hj) ⟨bb, oo, none⟩ m c news hl hnews' (by omega) (by omega) (growslice_fits (by omega) hb)

/-- append of nothing. -/
theorem run_append_zero (t ty e : TypeId) (i : TypeInfo) (ht : P.underlying t = some (.slice e)) (hi : P.info? e = some i)
    (b0 : Option Addr) (sLen sCap : Nat) (hle : sLen ≤ sCap) (b : Option Addr) (c : Nat) :
    (Builtin.append_ #[t, t] ty #[.slice b0 sLen sCap, .slice b 0 c]).run P w = .ok (.slice b0 sLen sCap) w := by
  have hf : (Builtin.firstCells i.size 0 (.slice b 0 c)).run P w = .ok #[] w := by
    cases b with
    | none => simp [Builtin.firstCells]
    | some ad => simp [Builtin.firstCells, loadCells, loadCellsFrom]
  cases b0 with
  | none => simp [Builtin.append_, run_underlying ht, sizeOf, typeInfo, hi, Builtin.lenOf, hle, hf]
  | some ad => simp [Builtin.append_, run_underlying ht, sizeOf, typeInfo, hi, Builtin.lenOf, hle, hf, storeCells]

def appendA (P : Program) (h : Heap) (id : Nat) (t : TypeId) (s x : AV) : Option (AV × Heap × Bool) :=
  match tiOf P t with
  | none => none
  | some ti => match ti.elem with
    | none => none
    | some e => match tiOf P e with
      | none => none
      | some te =>
        if te.zeroOk then
          match elemsAt h te.size x, elemsAt h te.size s with
          | some xs, some ls =>
            if (ls.length + xs.length) * te.bytes ≤ 140737488355328 ∧ ls.length + xs.length ≤ 9223372036854775807 then
              match s with
              | .emp => some (.own id 0 0, hc id (.arr 0 te.size xs) h, true)
              | .own i g lo => some (.own i (g + 1) 0, upd i (.arr (g + 1) te.size (ls ++ xs)) h, false)
              | _ => none
            else none
          | _, _ => none
        else none

theorem relO_flat {L : List (List AV)} {sz : Nat} (hsz : ∀ (i : Nat) (cs : List AV), L[i]? = some cs → cs.length = sz) {vs : List Value} (r : Rels G w A h L.flatten vs) (h1 : ∀ u ∈ vs, u.oneCell' = true)
    {arr : Array Value} {o : Nat} (hpre : ∀ k, k < vs.length → arr[o + k]? = vs[k]?) (i : Nat) (cs : List AV) (hi : L[i]? = some cs) (j : Nat) (c : AV) (hj : cs[j]? = some c) :
    Rel G w A h c (arr.getD (o + i * sz + j) undef) ∧ (arr.getD (o + i * sz + j) undef).oneCell' = true := by
  have hjl : j < sz := hsz i cs hi ▸ (List.getElem?_eq_some_iff.1 hj).1
  have hil : i < L.length := (List.getElem?_eq_some_iff.1 hi).1
  have hlt : i * sz + j < vs.length := by
    rw [← r.1, flat_len hsz]
    have : i * sz + sz ≤ L.length * sz := by rw [← Nat.succ_mul]; exact Nat.mul_le_mul_right _ hil
    omega
  have e : arr.getD (o + i * sz + j) undef = vs.getD (i * sz + j) undef := by
    rw [Array.getD_eq_getD_getElem?, Nat.add_assoc, hpre _ hlt]
    rfl
  rw [e]
  exact ⟨rels_unflat hsz r i cs hi j c hj, h1 _ (List.mem_of_getElem? (getD_of_lt hlt))⟩

theorem size_of_append (olds news : List Value) (z : Array Value) (k : Nat) : (olds.toArray ++ news.toArray ++ Builtin.zeroCells z k).size = olds.length + news.length + k * z.size := by
  simp [size_zeroCells]

theorem pre_of_append (olds news : List Value) (z : Array Value) (k : Nat) (j : Nat) (hj : j < (olds ++ news).length) : (olds.toArray ++ news.toArray ++ Builtin.zeroCells z k)[0 + j]? = (olds ++ news)[j]? := by
  rw [Nat.zero_add, ← Array.getElem?_toList]
  simp only [Array.toList_append]
  rw [List.getElem?_append_left (by simpa using hj)]

theorem hsz_append {L M : List (List AV)} {sz : Nat} (h1 : ∀ (i : Nat) (cs : List AV), L[i]? = some cs → cs.length = sz) (h2 : ∀ (i : Nat) (cs : List AV), M[i]? = some cs → cs.length = sz) :
    ∀ (i : Nat) (cs : List AV), (L ++ M)[i]? = some cs → cs.length = sz := by
  intro i cs hi
  by_cases hlt : i < L.length
  · rw [List.getElem?_append_left hlt] at hi; exact h1 i cs hi
  · rw [List.getElem?_append_right (by omega)] at hi; exact h2 _ cs hi

theorem appendA_sound (S : SatH G w A h) {id : Nat} (hA : ¬ A id) {t ty : TypeId} {s x v : AV} {sv xv : Value} (rs : Rel G w A h s sv) (rx : Rel G w A h x xv) {h' : Heap} {fr : Bool}
    (hv : appendA P h id t s x = some (v, h', fr)) {A' : Nat → Prop} (hA' : ∀ j, A' j ↔ A j ∨ (fr = true ∧ j = id)) : StepOk G w A h ((Builtin.append_ #[t, t] ty #[sv, xv]).run P w) v A' h' := by
  unfold appendA at hv
  split at hv
  · cases hv
  rename_i ti hti
  split at hv
  · cases hv
  rename_i e he
  split at hv
  · cases hv
  rename_i te hte
  split at hv
  case isFalse => cases hv
  rename_i hzok
  split at hv
  case h_2 => cases hv
  rename_i xs ls hxs hls
  split at hv
  case isFalse => cases hv
  rename_i hbd
  obtain ⟨hb, h63⟩ := hbd
  obtain ⟨_, d, _, hd, _, _, _, _, hel, _⟩ := tiOf_parts hti
  obtain rfl := hel e he
  obtain ⟨i, d', hi, hd', hsize, hbytes, _⟩ := tiOf_parts hte
  obtain ⟨i', _, hi', _, hzo, _⟩ := tiOf_build hte
  rw [hi] at hi'
  cases hi'
  obtain ⟨z, hz, hz1, hzs⟩ := hzo hzok
  obtain ⟨hxsz, xb, xc, rfl, hxc, xvs, hxl, hxr, hx1, hxcell⟩ := elemsAt_sound S rx hxs
  have hxcell' : xs.length ≠ 0 → ∃ bb oo, xb = some ⟨bb, oo, none⟩ ∧ ∀ j v, xvs[j]? = some v → w.cell? ⟨bb, oo + j, none⟩ = some v := fun hne => hxcell (fun e => hne (by rw [e]; rfl))
  have hxl' : xvs.length = xs.length * i.size := by rw [← hsize]; exact hxl
  split at hv
  · -- a slice without room
    obtain ⟨sb, rfl⟩ := rs.emp_inv
    simp only [elemsAt] at hls
    cases hls
    cases hv
    have hA2 : ∀ j, A' j ↔ A j ∨ j = id := fun j => by rw [hA']; simp
    simp only [List.length_nil, Nat.zero_add] at hb h63
    by_cases hm : xs.length = 0
    · have hxe : xs = [] := List.eq_nil_of_length_eq_zero hm
      subst hxe
      have hrun := run_append_zero (P := P) (w := w) t ty e i hd hi sb 0 0 (Nat.le_refl _) xb xc
      have N := new_obj (o := .arr 0 te.size []) (w' := w) (l := none) (c := 0) S hA hA2 rfl rfl rfl (Nat.le_refl _) (fun _ _ => rfl) (fun a ha => by cases ha) (fun C => .inl ⟨rfl, Gh.put_loc_same _ _ _, Gh.put_cap_same _ _ _⟩)
      refine ⟨_, _, _, hrun, N.1, N.2, .own _ _ _ _ _ _ ((hA2 id).2 (.inr rfl)) rfl fun g' sz L hl => ?_⟩
      simp only [look_hc, if_true] at hl
      cases hl
      exact ⟨Nat.le_refl _, fun _ => ⟨Nat.le_refl _, by simp, sb, by simp [Gh.put_cap_same], fun hlt => by rw [Gh.put_cap_same] at hlt; omega⟩⟩
    · obtain ⟨cap', hcap, hrun⟩ := run_append_more (P := P) (w := w) t ty e i z hd hi hz sb 0 0 [] (by simp) (by simp) (fun _ => rfl) _ xvs xb xs.length xc rfl hxl' hxcell' hm (Nat.le_refl _) (by omega) (by omega) (by rw [← hbytes]; simpa using hb)
      simp only [Nat.zero_add] at hcap hrun
      have S1 := sat_same S (w' := w.drew) rfl rfl rfl rfl
      have hxr1 := hxr.evo S1.2
      have N := new_obj (o := .arr 0 te.size xs) (w' := w.drew.alloc (.cells ([].toArray ++ xvs.toArray ++ Builtin.zeroCells z.cells (cap' - xs.length)) e)) (l := some ⟨w.heap.size, 0, none⟩) (c := cap') S1.1 hA hA2 rfl rfl rfl (by simp)
        (fun b hb => Below.heap_alloc w.drew _ b hb) (fun a ha => by cases ha; simp) (fun C => by
          refine .inr ⟨w.heap.size, 0, e, _, Gh.put_loc_same _ _ _, heap_alloc_at w.drew _, ?_, ?_, ?_, ?_⟩
          · rw [Gh.put_cap_same, size_of_append, hxl, hzs, ← hsize, Nat.zero_add, List.length_nil, Nat.zero_add, ← Nat.add_mul]
            exact Nat.mul_le_mul_right _ (by omega)
          · rw [Gh.put_cap_same]; exact hcap
          · exact hxsz
          · exact relO_flat hxsz (hxr1.compat C) hx1 (fun k hk => pre_of_append [] xvs z.cells (cap' - xs.length) k hk))
      refine ⟨_, _, _, hrun, N.1, S1.2.trans N.2, .own _ _ _ _ _ _ ((hA2 id).2 (.inr rfl)) rfl fun g' sz L hl => ?_⟩
      simp only [look_hc, if_true] at hl
      cases hl
      exact ⟨Nat.le_refl _, fun _ => ⟨Nat.zero_le _, by rw [Gh.put_cap_same]; exact hcap, _, by rw [Gh.put_cap_same]; rfl, fun _ => by rw [Gh.put_loc_same]; simp⟩⟩
  · -- an array of the call's own
    rename_i k g lo
    simp only [elemsAt] at hls
    split at hls
    case h_2 => cases hls
    rename_i g' sz0 L hlk
    split at hls
    case isFalse => cases hls
    rename_i hgs
    obtain ⟨rfl, rfl⟩ := hgs
    cases hls
    cases hv
    have hA2 : A' = A := funext fun j => propext (by rw [hA']; simp)
    subst hA2
    obtain ⟨hid, _, ho⟩ := rs.own_inv
    obtain ⟨hlo, hn, sb, rfl, hsb⟩ := (ho _ _ _ hlk).2 rfl
    obtain ⟨hlsz, b1, c1, he1, _, lvs, hll, hlr, hl1, hlcell⟩ := elemsAt_sound S rs (sz := te.size) (l := L.drop lo) (by simp [elemsAt, hlk])
    injection he1 with e1 e2 e3
    subst e1
    have hlcell' : (L.drop lo).length ≠ 0 → ∃ bb oo, sb = some ⟨bb, oo, none⟩ ∧ ∀ j v, lvs[j]? = some v → w.cell? ⟨bb, oo + j, none⟩ = some v := fun hne => hlcell (fun e => hne (by rw [e]; rfl))
    have hdl : (L.drop lo).length = L.length - lo := List.length_drop
    rw [hdl] at hb h63 hll hlcell'
    have hll' : lvs.length = (L.length - lo) * i.size := by rw [← hsize]; exact hll
    have hsz2 := hsz_append hlsz hxsz
    have hcapsub : ∀ n, n - 0 = n := fun n => Nat.sub_zero n
    by_cases hm : xs.length = 0
    · have hxe : xs = [] := List.eq_nil_of_length_eq_zero hm
      subst hxe
      have hrun := run_append_zero (P := P) (w := w) t ty e i hd hi sb (L.length - lo) (G.cap k - lo) (by omega) xb xc
      rcases (S.obj _ _ hlk).2 with ⟨rfl, hloc, hcap0⟩ | ⟨b', o, T, vs, hloc, hh, h3, h4, h5, h6⟩
      · have N := re_obj (g' := g + 1) (sz' := te.size) (L' := List.drop lo [] ++ []) (l := none) (c := 0) S hlk (Nat.lt_succ_self g) (fun a ha => by cases ha) (fun C => .inl ⟨by simp, Gh.put_loc_same _ _ _, Gh.put_cap_same _ _ _⟩)
        refine ⟨_, _, _, hrun, N.1, N.2, .own _ _ _ _ _ _ hid rfl fun g' sz L hl => ?_⟩
        rw [look_upd, if_pos rfl, hlk] at hl
        cases hl
        simp at hlo
        subst hlo
        exact ⟨Nat.le_refl _, fun _ => ⟨Nat.zero_le _, by simp, sb, by simp [Gh.put_cap_same, hcap0], fun hlt => by rw [Gh.put_cap_same] at hlt; omega⟩⟩
      · have N := re_obj (g' := g + 1) (sz' := te.size) (L' := List.drop lo L ++ []) (l := some ⟨b', o + lo * te.size, none⟩) (c := G.cap k - lo) S hlk (Nat.lt_succ_self g) (fun a ha => by cases ha; exact ⟨_, hloc, rfl⟩) (fun C => by
          refine .inr ⟨b', o + lo * te.size, T, vs, Gh.put_loc_same _ _ _, hh, ?_, ?_, ?_, ?_⟩
          · rw [Gh.put_cap_same, Nat.sub_mul]
            have : lo * te.size ≤ G.cap k * te.size := Nat.mul_le_mul_right _ (by omega)
            omega
          · rw [Gh.put_cap_same, List.append_nil, hdl]; omega
          · rw [List.append_nil]; exact hlsz
          · intro a cs ha j c hj
            rw [List.append_nil, List.getElem?_drop] at ha
            have h7 := h6 _ cs ha j c hj
            have e7 : o + (lo + a) * te.size + j = o + lo * te.size + a * te.size + j := by rw [Nat.add_mul]; omega
            rw [e7] at h7
            exact ⟨h7.1.compat C, h7.2⟩)
        refine ⟨_, _, _, hrun, N.1, N.2, .own _ _ _ _ _ _ hid rfl fun g' sz L' hl => ?_⟩
        rw [look_upd, if_pos rfl, hlk] at hl
        cases hl
        refine ⟨Nat.le_refl _, fun _ => ⟨Nat.zero_le _, by rw [Gh.put_cap_same, List.append_nil, hdl]; omega, sb, by rw [Gh.put_cap_same, List.append_nil, hdl]; rfl, fun hlt => ?_⟩⟩
        rw [Gh.put_cap_same] at hlt
        rw [Gh.put_loc_same, hsb (by omega), hloc]
        simp
    · by_cases hroom : L.length - lo + xs.length ≤ G.cap k - lo
      · -- there is room
        rcases (S.obj _ _ hlk).2 with ⟨rfl, hloc, hcap0⟩ | ⟨b', o, T, vs, hloc, hh, h3, h4, h5, h6⟩
        · rw [hcap0] at hroom; omega
        · have hsb' := hsb (by omega)
          rw [hloc] at hsb'
          simp only [Option.map_some] at hsb'
          subst hsb'
          have hmul : lo * te.size + (L.length - lo) * te.size = L.length * te.size := by rw [← Nat.add_mul]; congr 1; omega
          have hmul2 : L.length * te.size + xs.length * te.size ≤ G.cap k * te.size := by rw [← Nat.add_mul]; exact Nat.mul_le_mul_right _ (by omega)
          have hrun := run_append_fit (P := P) (w := w) t ty e i hd hi b' (o + lo * te.size) (L.length - lo) (G.cap k - lo) vs T hh _ xvs xb xs.length xc rfl hxl' hxcell' hx1 hroom (by rw [hxl, ← hsize]; omega)
          obtain ⟨f1, f2, f3, f4⟩ := setRow_frame w b' (putAt vs.toList (o + lo * te.size + (L.length - lo) * i.size) xvs).toArray
          have hpl : o + lo * te.size + (L.length - lo) * i.size + xvs.length ≤ vs.toList.length := by
            rw [hxl, ← hsize]
            have hvl : vs.toList.length = vs.size := Array.length_toList
            omega
          have hlen2 := putAt_length hpl
          have N := move_obj (g' := g + 1) (sz' := te.size) (L' := List.drop lo L ++ xs) (a := ⟨b', o + lo * te.size, none⟩) (c := G.cap k - lo) (w' := w.setRow b' (putAt vs.toList (o + lo * te.size + (L.length - lo) * i.size) xvs).toArray) S hlk (Nat.lt_succ_self g) f1 f2 f3 (by omega)
            (fun b hb hne => setRow_other w b' b _ hne) (.inr ⟨_, hloc, rfl⟩) (fun C => by
              refine .inr ⟨b', o + lo * te.size, T, _, Gh.put_loc_same _ _ _, setRow_heap w b' vs _ T (0, 0) hh, ?_, ?_, ?_, ?_⟩
              · rw [Gh.put_cap_same, Nat.sub_mul, List.size_toArray, hlen2, Array.length_toList]
                have : lo * te.size ≤ G.cap k * te.size := Nat.mul_le_mul_right _ (by omega)
                omega
              · rw [Gh.put_cap_same, List.length_append, hdl]; omega
              · exact hsz2
              · refine relO_flat (vs := lvs ++ xvs) hsz2 (by rw [List.flatten_append]; exact (hlr.compat C).append (hxr.compat C)) (fun u hu => by
                  rcases List.mem_append.1 hu with hu | hu
                  · exact hl1 u hu
                  · exact hx1 u hu) (fun q hq => ?_)
                rw [List.getElem?_toArray]
                rw [List.length_append, hll, hxl] at hq
                by_cases c1 : q < lvs.length
                · rw [List.getElem?_append_left c1, putAt_get hpl, if_pos (by rw [hll] at c1; rw [← hsize]; omega)]
                  have hg := getD_of_lt c1
                  have hne : L.length - lo ≠ 0 := by
                    intro h0
                    rw [hll, h0] at c1
                    omega
                  obtain ⟨bb, oo, hbo, hcell⟩ := hlcell' hne
                  cases hbo
                  have := hcell q _ hg
                  rw [cell_of_heap hh] at this
                  rw [hg, Array.getElem?_toList]
                  exact this
                · rw [List.getElem?_append_right (by omega), putAt_get hpl]
                  rw [hll] at c1
                  rw [if_neg (by rw [← hsize]; omega), if_pos (by rw [hxl, ← hsize]; omega)]
                  congr 1
                  rw [hll, ← hsize]
                  omega)
          refine ⟨_, _, _, hrun, N.1, N.2, .own _ _ _ _ _ _ hid rfl fun g' sz L' hl => ?_⟩
          rw [look_upd, if_pos rfl, hlk] at hl
          cases hl
          refine ⟨Nat.le_refl _, fun _ => ⟨Nat.zero_le _, by rw [Gh.put_cap_same, List.length_append, hdl]; omega, some ⟨b', o + lo * te.size, none⟩, by rw [Gh.put_cap_same, List.length_append, hdl]; rfl, fun hlt => ?_⟩⟩
          rw [Gh.put_loc_same]
          simp
      · -- it must grow
        obtain ⟨cap', hcap, hrun⟩ := run_append_more (P := P) (w := w) t ty e i z hd hi hz sb (L.length - lo) (G.cap k - lo) lvs hll' hlcell' (fun hno => by
            rcases Nat.lt_or_ge lo (G.cap k) with q | q
            · have h8 := hsb q
              rw [hno] at h8
              cases hlc : G.loc k with
              | none =>
                rcases (S.obj _ _ hlk).2 with ⟨rfl, hloc, hcap0⟩ | ⟨b', o, T, vs, hloc, _⟩
                · omega
                · rw [hlc] at hloc; cases hloc
              | some a => rw [hlc] at h8; cases h8
            · omega) _ xvs xb xs.length xc rfl hxl' hxcell' hm (by omega) (by omega) (by omega) (by rw [← hbytes]; exact hb)
        have S1 := sat_same S (w' := w.drew) rfl rfl rfl rfl
        have hxr1 := hxr.evo S1.2
        have hlr1 := hlr.evo S1.2
        have N := move_obj (g' := g + 1) (sz' := te.size) (L' := List.drop lo L ++ xs) (a := ⟨w.heap.size, 0, none⟩) (c := cap') (w' := w.drew.alloc (.cells (lvs.toArray ++ xvs.toArray ++ Builtin.zeroCells z.cells (cap' - (L.length - lo + xs.length))) e)) S1.1 hlk (Nat.lt_succ_self g) rfl rfl rfl (by simp)
          (fun b hb hne => Below.heap_alloc w.drew _ b hb) (.inl ⟨Nat.le_refl _, by simp⟩) (fun C => by
            refine .inr ⟨w.heap.size, 0, e, _, Gh.put_loc_same _ _ _, heap_alloc_at w.drew _, ?_, ?_, ?_, ?_⟩
            · rw [Gh.put_cap_same, size_of_append, hxl, hll, hzs, ← hsize, Nat.zero_add, ← Nat.add_mul, ← Nat.add_mul]
              exact Nat.mul_le_mul_right _ (by omega)
            · rw [Gh.put_cap_same, List.length_append, hdl]; exact hcap
            · exact hsz2
            · exact relO_flat (vs := lvs ++ xvs) hsz2 (by rw [List.flatten_append]; exact (hlr1.compat C).append (hxr1.compat C)) (fun u hu => by
                rcases List.mem_append.1 hu with hu | hu
                · exact hl1 u hu
                · exact hx1 u hu) (fun q hq => pre_of_append lvs xvs z.cells _ q hq))
        refine ⟨_, _, _, hrun, N.1, S1.2.trans N.2, .own _ _ _ _ _ _ hid rfl fun g' sz L' hl => ?_⟩
        rw [look_upd, if_pos rfl, hlk] at hl
        cases hl
        exact ⟨Nat.le_refl _, fun _ => ⟨Nat.zero_le _, by rw [Gh.put_cap_same, List.length_append, hdl]; exact hcap, _, by rw [Gh.put_cap_same, List.length_append, hdl]; rfl, fun _ => by rw [Gh.put_loc_same]; simp⟩⟩
  · cases hv

end
end Go.Abs
