/- The abstract layer, part B: how the relation is kept by the machine's steps on memory: a new block, a write into an object's block, an object that moves, a draw, an object that is frozen or let go. -/
import Derived.Test.YtlmkmmkhfkdagaaAbsA
set_option linter.unusedVariables false
set_option linter.unusedSimpArgs false
namespace Go.Abs
open Go.RowKit

variable {G : Gh} {w : World} {A : Nat → Prop} {h : Heap}

theorem RelO.compat {G' : Gh} {w' : World} {A' : Nat → Prop} {h' : Heap} {id : Nat} {o : AObj} (r : RelO G w A h id o) (c : Compat G w G' w' A h A' h')
    (hloc : G'.loc id = G.loc id) (hcap : G'.cap id = G.cap id) (hb : ∀ a, G.loc id = some a → w'.heap[a.block]? = w.heap[a.block]?) : RelO G' w' A' h' id o := by
  cases o with
  | box cs =>
    obtain ⟨b, T, vs, h1, h2, h3, h4⟩ := r
    exact ⟨b, T, vs, by rw [hloc]; exact h1, by rw [hb _ h1]; exact h2, h3.compat c, h4⟩
  | arr g sz L =>
    rcases r with ⟨h1, h2, h3⟩ | ⟨b, o, T, vs, h1, h2, h3, h4, h5, h6⟩
    · exact .inl ⟨h1, by rw [hloc]; exact h2, by rw [hcap]; exact h3⟩
    · exact .inr ⟨b, o, T, vs, by rw [hloc]; exact h1, by rw [hb _ h1]; exact h2, by rw [hcap]; exact h3, by rw [hcap]; exact h4, h5, fun i cs hi j d hj => ⟨(h6 i cs hi j d hj).1.compat c, (h6 i cs hi j d hj).2⟩⟩
  | map m =>
    obtain ⟨b, es, clock, h1, h2, h3, h4⟩ := r
    exact ⟨b, es, clock, by rw [hloc]; exact h1, by rw [hb _ h1]; exact h2, h3, fun i k v hi => let ⟨e, h5, h6, h7⟩ := h4 i k v hi; ⟨e, h5, h6, h7.compat c⟩⟩
  | loop r0 =>
    obtain ⟨b, tv, d, fn, h1, h2, h3, h4⟩ := r
    exact ⟨b, tv, d, fn, by rw [hloc]; exact h1, by rw [hb _ h1]; exact h2, h3, fun t v ht => (h4 t v ht).compat c⟩
  | dfr =>
    obtain ⟨b, h1, h2⟩ := r
    exact ⟨b, by rw [hloc]; exact h1, by rw [hb _ h1]; exact h2⟩

theorem RelO.lt {id : Nat} {o : AObj} (r : RelO G w A h id o) {a : Addr} (ha : G.loc id = some a) : a.block < w.heap.size := by
  cases o with
  | box cs =>
    obtain ⟨b, T, vs, h1, h2, h3⟩ := r
    rw [h1] at ha; cases ha
    exact (Array.getElem?_eq_some_iff.1 h2).1
  | arr g sz L =>
    rcases r with ⟨h1, h2, h3⟩ | ⟨b, o, T, vs, h1, h2, _⟩
    · rw [h2] at ha; cases ha
    · rw [h1] at ha; cases ha
      exact (Array.getElem?_eq_some_iff.1 h2).1
  | map m =>
    obtain ⟨b, es, clock, h1, h2, _⟩ := r
    rw [h1] at ha; cases ha
    exact (Array.getElem?_eq_some_iff.1 h2).1
  | loop r0 =>
    obtain ⟨b, tv, d, fn, h1, h2, _⟩ := r
    rw [h1] at ha; cases ha
    exact (Array.getElem?_eq_some_iff.1 h2).1
  | dfr =>
    obtain ⟨b, h1, h2⟩ := r
    rw [h1] at ha; cases ha
    exact (Array.getElem?_eq_some_iff.1 h2).1

theorem objCompat_refl (id : Nat) (o : Option AObj) : ObjCompat G G id o o := by
  cases o with
  | none => trivial
  | some o =>
    cases o with
    | box _ => exact rfl
    | map _ => exact rfl
    | loop _ => exact rfl
    | dfr => exact rfl
    | arr g sz L => exact .inr ⟨rfl, rfl, rfl, rfl, rfl⟩

theorem SatH.blk (S : SatH G w A h) {id : Nat} {o : AObj} (hl : look id h = some o) {a : Addr} (ha : G.loc id = some a) : a.block < w.heap.size := (S.obj id o hl).2.lt ha

theorem cellZ (S : SatH G w A h) {w' : World} (hz : ∀ b, G.Z b → w'.heap[b]? = w.heap[b]?) : ∀ b o v, G.Z b → w.cell? ⟨b, o, none⟩ = some v → w'.cell? ⟨b, o, none⟩ = some v :=
  fun b o v hb hv => by rw [cell_same (hz b hb)]; exact hv

theorem look_upd_some {α : Type} {id i : Nat} {x o oi : α} {l : Tab α} (hl : look id l = some o) (hi : look i (upd id x l) = some oi) : ∃ o, look i l = some o := by
  rw [look_upd] at hi
  by_cases e : i = id
  · exact ⟨o, e ▸ hl⟩
  · simp only [e, if_false] at hi
    exact ⟨_, hi⟩

/-- A write into an object's own block. -/
theorem upd_obj (S : SatH G w A h) {id : Nat} {o o' : AObj} (hl : look id h = some o) {a : Addr} (ha : G.loc id = some a) {w' : World}
    (hos : w'.os = w.os) (htp : w'.tape = w.tape) (hout : w'.output = w.output) (hsz : w'.heap.size = w.heap.size)
    (hfr : ∀ b, b ≠ a.block → w'.heap[b]? = w.heap[b]?) (hc : ObjCompat G G id (some o) (some o'))
    (ho : Compat G w G w' A h A (upd id o' h) → RelO G w' A (upd id o' h) id o') :
    SatH G w' A (upd id o' h) ∧ Evo G w A h G w' A (upd id o' h) := by
  have hz : ∀ b, G.Z b → b ≠ a.block := fun b hb e => S.zdis id o a hl ha (e ▸ hb)
  have C : Compat G w G w' A h A (upd id o' h) := by
    refine ⟨fun _ h => h, cellZ S fun b hb => hfr b (hz b hb), fun _ h => h, fun j hj => ?_⟩
    rw [look_upd]
    by_cases e : j = id
    · subst e; simp only [if_true, hl]; exact hc
    · simp only [e, if_false]; exact objCompat_refl _ _
  refine ⟨⟨fun j oj hj => ?_, fun i j oi oj b c hi hj hne hb hc => ?_, fun i oi b hi hb => ?_, fun b hb => by rw [hsz]; exact S.zin b hb⟩, ⟨hos, htp, hout, by omega, fun b hb hn => ?_, fun b hb => ?_, fun b hb => .inl hb, fun _ h => h, fun v x r => r.compat C⟩⟩
  · rw [look_upd] at hj
    by_cases e : j = id
    · subst e
      simp only [if_true, hl, Option.map_some] at hj
      cases hj
      exact ⟨(S.obj _ _ hl).1, ho C⟩
    · simp only [e, if_false] at hj
      refine ⟨(S.obj _ _ hj).1, (S.obj _ _ hj).2.compat C rfl rfl fun b hb => hfr _ ?_⟩
      exact S.inj j id _ _ _ _ hj hl e hb ha
  · have hi' := look_upd_some hl hi
    have hj' := look_upd_some hl hj
    exact S.inj i j _ _ _ _ hi'.choose_spec hj'.choose_spec hne hb hc
  · have hi' := look_upd_some hl hi
    exact S.zdis i _ _ hi'.choose_spec hb
  · exact hfr b fun e => hn ⟨id, o, a, hl, ha, e.symm⟩
  · obtain ⟨i, oi, c, hi, hc, hb⟩ := hb
    have hi' := look_upd_some hl hi
    exact .inl ⟨i, _, c, hi'.choose_spec, hc, hb⟩

/-- The ghost with one object's place laid. -/
def Gh.put (G : Gh) (id : Nat) (l : Option Addr) (c : Nat) : Gh :=
  { G with loc := fun j => if j = id then l else G.loc j, cap := fun j => if j = id then c else G.cap j }

theorem Gh.put_loc_same (id : Nat) (l : Option Addr) (c : Nat) : (G.put id l c).loc id = l := by simp [Gh.put]
theorem Gh.put_cap_same (id : Nat) (l : Option Addr) (c : Nat) : (G.put id l c).cap id = c := by simp [Gh.put]
theorem Gh.put_loc_ne (id j : Nat) (l : Option Addr) (c : Nat) (e : j ≠ id) : (G.put id l c).loc j = G.loc j := by simp [Gh.put, e]
theorem Gh.put_cap_ne (id j : Nat) (l : Option Addr) (c : Nat) (e : j ≠ id) : (G.put id l c).cap j = G.cap j := by simp [Gh.put, e]

theorem objCompat_put {id j : Nat} {l : Option Addr} {c : Nat} (e : j ≠ id) (o : Option AObj) : ObjCompat G (G.put id l c) j o o := by
  cases o with
  | none => trivial
  | some o =>
    cases o with
    | box _ => exact Gh.put_loc_ne _ _ _ _ e
    | map _ => exact Gh.put_loc_ne _ _ _ _ e
    | loop _ => exact Gh.put_loc_ne _ _ _ _ e
    | dfr => exact Gh.put_loc_ne _ _ _ _ e
    | arr g sz L => exact .inr ⟨rfl, rfl, rfl, Gh.put_loc_ne _ _ _ _ e, Gh.put_cap_ne _ _ _ _ e⟩

theorem heap_alloc (w : World) (o : Obj) (b : Nat) (hb : b < w.heap.size) : (w.alloc o).heap[b]? = w.heap[b]? := Below.heap_alloc w o b hb
theorem heap_alloc_at (w : World) (o : Obj) : (w.alloc o).heap[w.heap.size]? = some o := heap_alloc_new w o

/-- A new object: in a new block, or (an array that has none yet) nowhere. -/
theorem new_obj (S : SatH G w A h) {id : Nat} (hA : ¬ A id) {A' : Nat → Prop} (hA' : ∀ j, A' j ↔ A j ∨ j = id) {o : AObj} {w' : World} {l : Option Addr} {c : Nat}
    (hos : w'.os = w.os) (htp : w'.tape = w.tape) (hout : w'.output = w.output) (hsz : w.heap.size ≤ w'.heap.size)
    (hfr : ∀ b, b < w.heap.size → w'.heap[b]? = w.heap[b]?) (hnew : ∀ a, l = some a → w.heap.size ≤ a.block ∧ a.block < w'.heap.size)
    (ho : Compat G w (G.put id l c) w' A h A' (hc id o h) → RelO (G.put id l c) w' A' (hc id o h) id o) :
    SatH (G.put id l c) w' A' (hc id o h) ∧ Evo G w A h (G.put id l c) w' A' (hc id o h) := by
  have hh : ∀ j oj, look j h = some oj → j ≠ id := fun j oj hj e => hA (e ▸ (S.obj j oj hj).1)
  have C : Compat G w (G.put id l c) w' A h A' (hc id o h) := by
    refine ⟨fun _ h => h, cellZ S fun b hb => hfr b (S.zin b hb), fun j hj => (hA' j).2 (.inl hj), fun j hj => ?_⟩
    have e : j ≠ id := fun e => hA (e ▸ hj)
    simp only [look_hc, if_neg (fun e' => e e'.symm : ¬ id = j)]
    exact objCompat_put e _
  refine ⟨⟨fun j oj hj => ?_, fun i j oi oj b d hi hj hne hb hd => ?_, fun i oi b hi hb => ?_, fun b hb => Nat.lt_of_lt_of_le (S.zin b hb) hsz⟩, ⟨hos, htp, hout, hsz, fun b hb hn => hfr b hb, fun b hb => ?_, fun b hb => .inl hb, fun j hj => (hA' j).2 (.inl hj), fun v x r => r.compat C⟩⟩
  · simp only [look_hc] at hj
    by_cases e : id = j
    · subst e
      simp only [if_true] at hj
      cases hj
      exact ⟨(hA' _).2 (.inr rfl), ho C⟩
    · simp only [e, if_false] at hj
      have e' : j ≠ id := fun x => e x.symm
      refine ⟨(hA' j).2 (.inl (S.obj _ _ hj).1), (S.obj _ _ hj).2.compat C (Gh.put_loc_ne _ _ _ _ e') (Gh.put_cap_ne _ _ _ _ e') fun b hb => hfr _ (S.blk hj hb)⟩
  · simp only [look_hc] at hi hj
    by_cases ei : id = i
    · subst ei
      by_cases ej : id = j
      · exact absurd ej hne
      · simp only [ej, if_false] at hj
        rw [Gh.put_loc_same] at hb
        rw [Gh.put_loc_ne _ _ _ _ (fun x => ej x.symm)] at hd
        have h1 := (hnew _ hb).1
        have h2 := S.blk hj hd
        omega
    · simp only [ei, if_false] at hi
      by_cases ej : id = j
      · subst ej
        rw [Gh.put_loc_same] at hd
        rw [Gh.put_loc_ne _ _ _ _ (fun x => ei x.symm)] at hb
        have h1 := (hnew _ hd).1
        have h2 := S.blk hi hb
        omega
      · simp only [ej, if_false] at hj
        rw [Gh.put_loc_ne _ _ _ _ (fun x => ei x.symm)] at hb
        rw [Gh.put_loc_ne _ _ _ _ (fun x => ej x.symm)] at hd
        exact S.inj i j _ _ _ _ hi hj hne hb hd
  · simp only [look_hc] at hi
    by_cases ei : id = i
    · subst ei
      rw [Gh.put_loc_same] at hb
      intro hz
      have h1 := (hnew _ hb).1
      have h2 := S.zin _ hz
      omega
    · simp only [ei, if_false] at hi
      rw [Gh.put_loc_ne _ _ _ _ (fun x => ei x.symm)] at hb
      exact S.zdis i _ _ hi hb
  · obtain ⟨i, oi, d, hi, hd, hb⟩ := hb
    simp only [look_hc] at hi
    by_cases ei : id = i
    · subst ei
      rw [Gh.put_loc_same] at hd
      exact .inr (hb ▸ (hnew _ hd).1)
    · simp only [ei, if_false] at hi
      rw [Gh.put_loc_ne _ _ _ _ (fun x => ei x.symm)] at hd
      exact .inl ⟨i, _, d, hi, hd, hb⟩

/-- An array that moves to a new block (or gets its first one): its generation has gone up. -/
theorem move_obj (S : SatH G w A h) {id g g' sz sz' : Nat} {L L' : List (List AV)} (hl : look id h = some (.arr g sz L)) (hg : g < g') {w' : World} {a : Addr} {c : Nat}
    (hos : w'.os = w.os) (htp : w'.tape = w.tape) (hout : w'.output = w.output) (hsz : w.heap.size ≤ w'.heap.size)
    (hfr : ∀ b, b < w.heap.size → b ≠ a.block → w'.heap[b]? = w.heap[b]?)
    (hnew : w.heap.size ≤ a.block ∧ a.block < w'.heap.size ∨ ∃ a0, G.loc id = some a0 ∧ a0.block = a.block)
    (ho : Compat G w (G.put id (some a) c) w' A h A (upd id (.arr g' sz' L') h) → RelO (G.put id (some a) c) w' A (upd id (.arr g' sz' L') h) id (.arr g' sz' L')) :
    SatH (G.put id (some a) c) w' A (upd id (.arr g' sz' L') h) ∧ Evo G w A h (G.put id (some a) c) w' A (upd id (.arr g' sz' L') h) := by
  have hab : ∀ b, G.Z b → b ≠ a.block := fun b hb e => by
    rcases hnew with h1 | ⟨a0, h1, h2⟩
    · have := S.zin b hb; omega
    · exact S.zdis id _ a0 hl h1 (by rw [h2, ← e]; exact hb)
  have hoth : ∀ j oj d, look j h = some oj → j ≠ id → G.loc j = some d → d.block ≠ a.block := fun j oj d hj e hd e' => by
    rcases hnew with h1 | ⟨a0, h1, h2⟩
    · have := S.blk hj hd; omega
    · exact S.inj j id _ _ _ _ hj hl e hd h1 (by rw [e', h2])
  have C : Compat G w (G.put id (some a) c) w' A h A (upd id (.arr g' sz' L') h) := by
    refine ⟨fun _ h => h, cellZ S fun b hb => hfr b (S.zin b hb) (hab b hb), fun _ h => h, fun j hj => ?_⟩
    rw [look_upd]
    by_cases e : j = id
    · subst e; simp only [if_true, hl]; exact .inl hg
    · simp only [e, if_false]; exact objCompat_put e _
  have hk : ∀ i oi, look i (upd id (.arr g' sz' L') h) = some oi → ∃ o, look i h = some o := fun i oi hi => look_upd_some hl hi
  refine ⟨⟨fun j oj hj => ?_, fun i j oi oj b d hi hj hne hb hd => ?_, fun i oi b hi hb => ?_, fun b hb => Nat.lt_of_lt_of_le (S.zin b hb) hsz⟩, ⟨hos, htp, hout, hsz, fun b hb hn => hfr b hb fun e => ?_, fun b hb => ?_, fun b hb => .inl hb, fun _ h => h, fun v x r => r.compat C⟩⟩
  · rw [look_upd] at hj
    by_cases e : j = id
    · subst e
      simp only [if_true, hl, Option.map_some] at hj
      cases hj
      exact ⟨(S.obj _ _ hl).1, ho C⟩
    · simp only [e, if_false] at hj
      exact ⟨(S.obj _ _ hj).1, (S.obj _ _ hj).2.compat C (Gh.put_loc_ne _ _ _ _ e) (Gh.put_cap_ne _ _ _ _ e) fun b hb => hfr _ (S.blk hj hb) (hoth j _ b hj e hb)⟩
  · obtain ⟨o1, hi'⟩ := hk i oi hi
    obtain ⟨o2, hj'⟩ := hk j oj hj
    clear hi hj
    have hi := hi'
    have hj := hj'
    clear hi' hj'
    by_cases ei : i = id
    · subst ei
      rw [Gh.put_loc_same] at hb
      cases hb
      rw [Gh.put_loc_ne _ _ _ _ (fun x => hne x.symm)] at hd
      exact fun x => hoth j _ d hj (fun x => hne x.symm) hd x.symm
    · rw [Gh.put_loc_ne _ _ _ _ ei] at hb
      by_cases ej : j = id
      · subst ej
        rw [Gh.put_loc_same] at hd
        cases hd
        exact hoth i _ b hi ei hb
      · rw [Gh.put_loc_ne _ _ _ _ ej] at hd
        exact S.inj i j _ _ _ _ hi hj hne hb hd
  · obtain ⟨o1, hi'⟩ := hk i oi hi
    clear hi
    have hi := hi'
    clear hi'
    by_cases ei : i = id
    · subst ei
      rw [Gh.put_loc_same] at hb
      cases hb
      exact fun hz => hab _ hz rfl
    · rw [Gh.put_loc_ne _ _ _ _ ei] at hb
      exact S.zdis i _ _ hi hb
  · subst e
    rcases hnew with h1 | ⟨a0, h1, h2⟩
    · omega
    · exact hn ⟨id, _, a0, hl, h1, h2⟩
  · obtain ⟨i, oi, d, hi, hd, hb⟩ := hb
    obtain ⟨o1, hi'⟩ := hk i oi hi
    clear hi
    have hi := hi'
    clear hi'
    by_cases ei : i = id
    · subst ei
      rw [Gh.put_loc_same] at hd
      cases hd
      rcases hnew with h1 | ⟨a0, h1, h2⟩
      · exact .inr (by omega)
      · exact .inl ⟨_, _, a0, hi, h1, by rw [h2, hb]⟩
    · rw [Gh.put_loc_ne _ _ _ _ ei] at hd
      exact .inl ⟨i, _, d, hi, hd, hb⟩

/-- A draw moves nothing. -/
theorem sat_same (S : SatH G w A h) {w' : World} (hos : w'.os = w.os) (htp : w'.tape = w.tape) (hout : w'.output = w.output) (hh : w'.heap = w.heap) :
    SatH G w' A h ∧ Evo G w A h G w' A h := by
  have C : Compat G w G w' A h A h := ⟨fun _ h => h, cellZ S fun b _ => by rw [hh], fun _ h => h, fun _ _ => objCompat_refl _ _⟩
  exact ⟨⟨fun j oj hj => ⟨(S.obj _ _ hj).1, (S.obj _ _ hj).2.compat C rfl rfl fun b _ => by rw [hh]⟩, S.inj, S.zdis, fun b hb => by rw [hh]; exact S.zin b hb⟩,
    ⟨hos, htp, hout, by rw [hh]; exact Nat.le_refl _, fun b _ _ => by rw [hh], fun _ h => .inl h, fun _ h => .inl h, fun _ h => h, fun v x r => r.compat C⟩⟩

/-- Objects are let go (nobody writes them any more; nobody reads them by their number). -/
theorem drop_heap (S : SatH G w A h) {h' : Heap} (hsub : ∀ i o, look i h' = some o → look i h = some o) : SatH G w A h' ∧ Evo G w A h G w A h' := by
  have C : Compat G w G w A h A h' := by
    refine ⟨fun _ h => h, fun _ _ _ _ h => h, fun _ h => h, fun j _ => ?_⟩
    cases hj : look j h' with
    | none => cases look j h <;> exact trivial
    | some o => rw [hsub j o hj]; exact objCompat_refl _ _
  exact ⟨⟨fun j oj hj => ⟨(S.obj _ _ (hsub _ _ hj)).1, (S.obj _ _ (hsub _ _ hj)).2.compat C rfl rfl fun _ _ => rfl⟩, fun i j oi oj a b hi hj => S.inj i j oi oj a b (hsub _ _ hi) (hsub _ _ hj), fun i o a hi => S.zdis i o a (hsub _ _ hi), S.zin⟩,
    ⟨rfl, rfl, rfl, Nat.le_refl _, fun _ _ _ => rfl, fun b ⟨i, o, a, hi, r⟩ => .inl ⟨i, o, a, hsub _ _ hi, r⟩, fun _ h => .inl h, fun _ h => h, fun v x r => r.compat C⟩⟩

end Go.Abs
