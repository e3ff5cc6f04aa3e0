/- The abstract layer, part R: a function's contract out of its body; what a call has made and hands back, frozen. -/
import Derived.Test.YtlmkmmkhfkdagaaAbsN
set_option linter.unusedVariables false
set_option linter.unusedSimpArgs false
namespace Go.Abs
open Go.RowKit

/-- Does a value lead to no object? -/
def AV.noRef : AV → Bool
  | .any | .sc _ | .emp | .lst _ _ | .cptr _ => true
  | _ => false

/-- v', what v is once the objects of the heap h are frozen. -/
inductive Fz (p : Nat → Prop) (h : Heap) : AV → AV → Prop
  | same {v : AV} (hn : v.noRef = true) : Fz p h v v
  | emp (sz : Nat) : Fz p h .emp (.lst sz [])
  | any (v : AV) : Fz p h v .any
  | own {id g lo sz : Nat} {L L' : List (List AV)} (hid : p id) (hl : look id h = some (.arr g sz L)) (hn : ∀ cs ∈ L, ∀ c ∈ cs, c.noRef = true) (he : L.drop lo = L') : Fz p h (.own id g lo) (.lst sz L')
  | low_own {id g lo : Nat} (hid : ¬ p id) : Fz p h (.own id g lo) (.own id g lo)
  | low_ptr {id off : Nat} (hid : ¬ p id) : Fz p h (.ptr id off) (.ptr id off)
  | low_mp {id : Nat} (hid : ¬ p id) : Fz p h (.mp id) (.mp id)
  | agg {cs ds : List AV} (hl : cs.length = ds.length) (hf : ∀ (j : Nat) (c d : AV), cs[j]? = some c → ds[j]? = some d → Fz p h c d) : Fz p h (.agg cs) (.agg ds)
  | tup {cs ds : List AV} (hl : cs.length = ds.length) (hf : ∀ (j : Nat) (c d : AV), cs[j]? = some c → ds[j]? = some d → Fz p h c d) : Fz p h (.tup cs) (.tup ds)
  | fn {f : Fn} {cs ds : List AV} (hl : cs.length = ds.length) (hf : ∀ (j : Nat) (c d : AV), cs[j]? = some c → ds[j]? = some d → Fz p h c d) : Fz p h (.fn f cs) (.fn f ds)

/-- Row by row. -/
def FzL (p : Nat → Prop) (h : Heap) (cs ds : List AV) : Prop := cs.length = ds.length ∧ ∀ (j : Nat) (c d : AV), cs[j]? = some c → ds[j]? = some d → Fz p h c d
theorem FzL.nil (p : Nat → Prop) (h : Heap) : FzL p h [] [] := ⟨rfl, fun j c d hj => by simp at hj⟩
theorem FzL.cons {p : Nat → Prop} {h : Heap} {c d : AV} {cs ds : List AV} (h1 : Fz p h c d) (h2 : FzL p h cs ds) : FzL p h (c :: cs) (d :: ds) :=
  ⟨by simp [h2.1], fun j c' d' hj hd => by
    cases j with
    | zero => simp at hj hd; subst hj; subst hd; exact h1
    | succ j => exact h2.2 j c' d' (by simpa using hj) (by simpa using hd)⟩
theorem Fz.agg' {p : Nat → Prop} {h : Heap} {cs ds : List AV} (h1 : FzL p h cs ds) : Fz p h (.agg cs) (.agg ds) := .agg h1.1 h1.2
theorem Fz.tup' {p : Nat → Prop} {h : Heap} {cs ds : List AV} (h1 : FzL p h cs ds) : Fz p h (.tup cs) (.tup ds) := .tup h1.1 h1.2
theorem Fz.fn' {p : Nat → Prop} {h : Heap} {f : Fn} {cs ds : List AV} (h1 : FzL p h cs ds) : Fz p h (.fn f cs) (.fn f ds) := .fn h1.1 h1.2

section
variable {P : Program} {G : Gh} {w : World} {A : Nat → Prop} {h : Heap}

/-- The ghost, the blocks of some objects frozen. -/
def Gh.frz (G : Gh) (h : Heap) (p : Nat → Prop) : Gh := { G with Z := fun b => G.Z b ∨ ∃ i o a, p i ∧ look i h = some o ∧ G.loc i = some a ∧ a.block = b }

theorem Rel.noRef {v : AV} {x : Value} (r : Rel G w A h v x) (hn : v.noRef = true) {A' : Nat → Prop} {h' : Heap} : Rel G w A' h' v x := by
  cases v with
  | any => exact .any ..
  | sc v => rw [r.sc_inv]; exact .sc ..
  | emp => obtain ⟨a, rfl⟩ := r.emp_inv; exact .emp ..
  | lst sz l =>
    rcases r.lst_inv with ⟨rfl, a, cap, rfl⟩ | ⟨b, off, cap, f, rfl, h1, h2, h3, h4, h5, h6, h7⟩
    · exact .lnil ..
    · exact .lst _ _ sz l b off cap f h1 h2 h3 h4 h5 h6 h7
  | cptr cs =>
    obtain ⟨b, off, f, rfl, h1, h2, h3, h4⟩ := r.cptr_inv
    exact .cptr _ _ cs b off f h1 h2 h3 h4
  | _ => simp [AV.noRef] at hn

/-- The relation where more blocks are frozen. -/
theorem Rel.frz {v : AV} {x : Value} (r : Rel G w A h v x) (p : Nat → Prop) (h0 : Heap) : Rel (G.frz h0 p) w A h v x :=
  r.compat ⟨fun b hb => .inl hb, fun _ _ _ _ h => h, fun _ h => h, fun id _ => by
    cases hl : look id h with
    | none => trivial
    | some o =>
      cases o with
      | box _ => exact rfl
      | map _ => exact rfl
      | loop _ => exact rfl
      | dfr => exact rfl
      | arr g sz L => exact .inr ⟨rfl, rfl, rfl, rfl, rfl⟩⟩

/-- A value, its objects frozen. -/
theorem freezeVal (S : SatH G w A h) {p : Nat → Prop} {h' : Heap} {A' : Nat → Prop} (hA' : ∀ j, A j → ¬ p j → A' j) (hsub : ∀ j o, look j h' = some o → look j h = some o)
    {v v' : AV} (f : Fz p h v v') : ∀ {x : Value}, Rel G w A h v x → Rel (G.frz h p) w A' h' v' x := by
  induction f with
  | same hn => intro x r; exact (r.frz p h).noRef hn
  | emp sz => intro x r; obtain ⟨a, rfl⟩ := r.emp_inv; exact .lnil ..
  | any v => intro x r; exact .any ..
  | @own id g lo sz L L' hpid hl hn he =>
    intro x r
    obtain ⟨_, _, ho⟩ := r.own_inv
    obtain ⟨hlo, hcap, b0, rfl, hb0⟩ := (ho _ _ _ hl).2 rfl
    have hlen : L'.length = L.length - lo := by rw [← he, List.length_drop]
    rcases (S.obj _ _ hl).2 with ⟨rfl, hloc, hc0⟩ | ⟨b, o, T, vs, hloc, hh, h3, h4, h5, h6⟩
    · simp at hlo
      subst hlo
      simp at he
      subst he
      exact .lnil ..
    · by_cases hne : L' = []
      · subst hne
        simp at hlen
        have : L.length - lo = 0 := by omega
        rw [this]
        exact .lnil ..
      · have hlt : lo < L.length := by
          rcases Nat.lt_or_ge lo L.length with q | q
          · exact q
          · exact absurd (by rw [← he]; exact List.drop_eq_nil_of_le q) hne
        have hb := hb0 (by omega)
        rw [hloc] at hb
        simp only [Option.map_some] at hb
        subst hb
        rw [← hlen]
        have hget : ∀ (i : Nat) (cs : List AV), L'[i]? = some cs → L[lo + i]? = some cs := fun i cs hi => by rw [← he, List.getElem?_drop] at hi; exact hi
        have hz : (G.frz h p).Z b := .inr ⟨id, _, ⟨b, o, none⟩, hpid, hl, hloc, rfl⟩
        refine .lst _ _ sz L' b (o + lo * sz) _ (fun i j => vs.getD (o + lo * sz + i * sz + j) undef) hne hz (by omega) (fun i cs hi => h5 _ _ (hget i cs hi)) (fun i cs hi j c hj => ?_) (fun i cs hi j c hj => ?_) (fun i cs hi j c hj => ?_)
        · have hg := hget i cs hi
          have hil : lo + i < L.length := (List.getElem?_eq_some_iff.1 hg).1
          have hjl : j < sz := h5 _ _ hg ▸ (List.getElem?_eq_some_iff.1 hj).1
          have hfit : (lo + i) * sz + sz ≤ G.cap id * sz := by rw [← Nat.succ_mul]; exact Nat.mul_le_mul_right _ (by omega)
          have e : o + lo * sz + i * sz + j = o + (lo + i) * sz + j := by rw [Nat.add_mul]; omega
          have hlt2 : o + lo * sz + i * sz + j < vs.size := by rw [e]; omega
          rw [cell_of_heap hh]
          simp [Array.getD, hlt2]
        · have h7 := (h6 _ cs (hget i cs hi) j c hj).2
          have e : o + lo * sz + i * sz + j = o + (lo + i) * sz + j := by rw [Nat.add_mul]; omega
          rw [e]
          exact h7
        · have h7 := (h6 _ cs (hget i cs hi) j c hj).1
          have e : o + lo * sz + i * sz + j = o + (lo + i) * sz + j := by rw [Nat.add_mul]; omega
          rw [e]
          exact (h7.frz p h).noRef (hn cs (List.mem_of_getElem? (hget i cs hi)) c (List.mem_of_getElem? hj))
  | @low_own id g lo hid =>
    intro x r
    obtain ⟨hA, h1, ho⟩ := r.own_inv
    exact .own _ _ _ _ _ _ (hA' _ hA hid) h1 fun g' sz L hl => ho g' sz L (hsub _ _ hl)
  | @low_ptr id off hid =>
    intro x r
    obtain ⟨hA, h1, ho⟩ := r.ptr_inv
    exact .ptr _ _ _ _ _ (hA' _ hA hid) h1 fun cs hl => ho cs (hsub _ _ hl)
  | @low_mp id hid =>
    intro x r
    obtain ⟨hA, h1, ho⟩ := r.mp_inv
    exact .mp _ _ _ _ (hA' _ hA hid) h1 fun cs hl => ho cs (hsub _ _ hl)
  | @agg cs ds hl hf ih =>
    intro x r
    obtain ⟨vs, rfl, h1, hr⟩ := r.agg_inv
    refine .agg _ _ ds vs (by rw [← hl]; exact hr.1) h1 fun j d hj => ?_
    have hjl : j < cs.length := by rw [hl]; exact (List.getElem?_eq_some_iff.1 hj).1
    have hc := List.getElem?_eq_getElem hjl
    exact ih j _ d hc hj (hr.2 j _ hc)
  | @tup cs ds hl hf ih =>
    intro x r
    obtain ⟨vs, rfl, hr⟩ := r.tup_inv
    refine .tup _ _ ds vs (by rw [← hl]; exact hr.1) fun j d hj => ?_
    have hjl : j < cs.length := by rw [hl]; exact (List.getElem?_eq_some_iff.1 hj).1
    have hc := List.getElem?_eq_getElem hjl
    exact ih j _ d hc hj (hr.2 j _ hc)
  | @fn f cs ds hl hf ih =>
    intro x r
    obtain ⟨vs, rfl, hr⟩ := r.fn_inv
    refine .fn _ _ f ds vs (by rw [← hl]; exact hr.1) fun j d hj => ?_
    have hjl : j < cs.length := by rw [hl]; exact (List.getElem?_eq_some_iff.1 hj).1
    have hc := List.getElem?_eq_getElem hjl
    exact ih j _ d hc hj (hr.2 j _ hc)

/-- A value's numbers are all of A0. -/
inductive Refs (A0 : Nat → Prop) : AV → Prop
  | noRef {v : AV} (h : v.noRef = true) : Refs A0 v
  | own {id g lo : Nat} (h : A0 id) : Refs A0 (.own id g lo)
  | ptr {id off : Nat} (h : A0 id) : Refs A0 (.ptr id off)
  | eptr {id g i off : Nat} (h : A0 id) : Refs A0 (.eptr id g i off)
  | mp {id : Nat} (h : A0 id) : Refs A0 (.mp id)
  | yld {id : Nat} (h : A0 id) : Refs A0 (.yld id)
  | mrk {id : Nat} (h : A0 id) : Refs A0 (.mrk id)
  | agg {cs : List AV} (h : ∀ c ∈ cs, Refs A0 c) : Refs A0 (.agg cs)
  | tup {cs : List AV} (h : ∀ c ∈ cs, Refs A0 c) : Refs A0 (.tup cs)
  | fn {f : Fn} {cs : List AV} (h : ∀ c ∈ cs, Refs A0 c) : Refs A0 (.fn f cs)

theorem Rel.refs {v : AV} {x : Value} (r : Rel G w A h v x) : Refs A v := by
  induction r with
  | any => exact .noRef rfl
  | sc => exact .noRef rfl
  | emp => exact .noRef rfl
  | lnil => exact .noRef rfl
  | lst => exact .noRef rfl
  | cptr => exact .noRef rfl
  | own _ _ _ _ _ _ hid => exact .own hid
  | ptr _ _ _ _ _ hid => exact .ptr hid
  | eptr _ _ _ _ _ _ _ hid => exact .eptr hid
  | mp _ _ _ _ hid => exact .mp hid
  | yld _ _ _ _ hid => exact .yld hid
  | mrk _ _ _ _ hid => exact .mrk hid
  | agg _ _ cs vs hl h1 hr ih => exact .agg fun c hc => by obtain ⟨j, hj⟩ := List.getElem?_of_mem hc; exact ih j c hj
  | tup _ _ cs vs hl hr ih => exact .tup fun c hc => by obtain ⟨j, hj⟩ := List.getElem?_of_mem hc; exact ih j c hj
  | fn _ _ f cs vs hl hr ih => exact .fn fun c hc => by obtain ⟨j, hj⟩ := List.getElem?_of_mem hc; exact ih j c hj

/-- A value whose numbers are all of A0 holds where only those are looked at. -/
theorem Rel.restrict {A0 A' : Nat → Prop} {h' : Heap} {v : AV} (f : Refs A0 v) (hA' : ∀ j, A0 j → A' j) (hsub : ∀ j o, look j h' = some o → look j h = some o) : ∀ {x : Value}, Rel G w A h v x → Rel G w A' h' v x := by
  induction f with
  | noRef hn => intro x r; exact r.noRef hn
  | own hid => intro x r; obtain ⟨_, h1, ho⟩ := r.own_inv; exact .own _ _ _ _ _ _ (hA' _ hid) h1 fun g' sz L hl => ho g' sz L (hsub _ _ hl)
  | ptr hid => intro x r; obtain ⟨_, h1, ho⟩ := r.ptr_inv; exact .ptr _ _ _ _ _ (hA' _ hid) h1 fun cs hl => ho cs (hsub _ _ hl)
  | eptr hid => intro x r; obtain ⟨_, h1, ho⟩ := r.eptr_inv; exact .eptr _ _ _ _ _ _ _ (hA' _ hid) h1 fun g' sz L hl => ho g' sz L (hsub _ _ hl)
  | mp hid => intro x r; obtain ⟨_, h1, ho⟩ := r.mp_inv; exact .mp _ _ _ _ (hA' _ hid) h1 fun cs hl => ho cs (hsub _ _ hl)
  | yld hid => intro x r; obtain ⟨_, h1, ho⟩ := r.yld_inv; exact .yld _ _ _ _ (hA' _ hid) h1 fun cs hl => ho cs (hsub _ _ hl)
  | mrk hid => intro x r; obtain ⟨_, h1, ho⟩ := r.mrk_inv; exact .mrk _ _ _ _ (hA' _ hid) h1 fun hl => ho (hsub _ _ hl)
  | @agg cs hc ih =>
    intro x r
    obtain ⟨vs, rfl, h1, hr⟩ := r.agg_inv
    exact .agg _ _ cs vs hr.1 h1 fun j c hj => ih c (List.mem_of_getElem? hj) (hr.2 j c hj)
  | @tup cs hc ih =>
    intro x r
    obtain ⟨vs, rfl, hr⟩ := r.tup_inv
    exact .tup _ _ cs vs hr.1 fun j c hj => ih c (List.mem_of_getElem? hj) (hr.2 j c hj)
  | @fn f cs hc ih =>
    intro x r
    obtain ⟨vs, rfl, hr⟩ := r.fn_inv
    exact .fn _ _ f cs vs hr.1 fun j c hj => ih c (List.mem_of_getElem? hj) (hr.2 j c hj)

/-- An object's values' numbers are all of A0. -/
def ORefs (A0 : Nat → Prop) : AObj → Prop
  | .box cs => ∀ c ∈ cs, Refs A0 c
  | .arr _ _ L => ∀ cs ∈ L, ∀ c ∈ cs, Refs A0 c
  | .map m => ∀ p ∈ m, Refs A0 p.2
  | .loop r => ∀ t v, look t r.tmps = some v → Refs A0 v
  | .dfr => True

theorem RelO.refs {id : Nat} {o : AObj} (r : RelO G w A h id o) : ORefs A o := by
  cases o with
  | box cs =>
    obtain ⟨b, T, vs, _, _, h3, _⟩ := r
    intro c hc
    obtain ⟨j, hj⟩ := List.getElem?_of_mem hc
    exact (h3.2 j c hj).refs
  | arr g sz L =>
    rcases r with ⟨rfl, _⟩ | ⟨b, o, T, vs, _, _, _, _, _, h6⟩
    · intro cs hcs; simp at hcs
    · intro cs hcs c hc
      obtain ⟨i, hi⟩ := List.getElem?_of_mem hcs
      obtain ⟨j, hj⟩ := List.getElem?_of_mem hc
      exact (h6 i cs hi j c hj).1.refs
  | map m =>
    obtain ⟨b, es, clock, _, _, _, h4⟩ := r
    intro p hp
    obtain ⟨i, hi⟩ := List.getElem?_of_mem hp
    obtain ⟨e, _, _, h7⟩ := h4 i p.1 p.2 hi
    exact h7.refs
  | loop r0 =>
    obtain ⟨b, tv, d, fn, _, _, _, h4⟩ := r
    intro t v ht
    exact (h4 t v ht).refs
  | dfr => trivial

theorem RelO.restrict {A0 A' : Nat → Prop} {h' : Heap} {id : Nat} {o : AObj} (f : ORefs A0 o) (hA' : ∀ j, A0 j → A' j) (hsub : ∀ j o, look j h' = some o → look j h = some o) (r : RelO G w A h id o) : RelO G w A' h' id o := by
  cases o with
  | box cs =>
    obtain ⟨b, T, vs, h1, h2, h3, h4⟩ := r
    exact ⟨b, T, vs, h1, h2, ⟨h3.1, fun j c hj => Rel.restrict (f c (List.mem_of_getElem? hj)) hA' hsub (h3.2 j c hj)⟩, h4⟩
  | arr g sz L =>
    rcases r with h1 | ⟨b, o, T, vs, h1, h2, h3, h4, h5, h6⟩
    · exact .inl h1
    · exact .inr ⟨b, o, T, vs, h1, h2, h3, h4, h5, fun i cs hi j c hj => ⟨Rel.restrict (f cs (List.mem_of_getElem? hi) c (List.mem_of_getElem? hj)) hA' hsub (h6 i cs hi j c hj).1, (h6 i cs hi j c hj).2⟩⟩
  | map m =>
    obtain ⟨b, es, clock, h1, h2, h3, h4⟩ := r
    exact ⟨b, es, clock, h1, h2, h3, fun i k v hi => let ⟨e, h5, h6, h7⟩ := h4 i k v hi; ⟨e, h5, h6, Rel.restrict (f (k, v) (List.mem_of_getElem? hi)) hA' hsub h7⟩⟩
  | loop r0 =>
    obtain ⟨b, tv, d, fn, h1, h2, h3, h4⟩ := r
    exact ⟨b, tv, d, fn, h1, h2, h3, fun t v ht => Rel.restrict (f t v ht) hA' hsub (h4 t v ht)⟩
  | dfr => exact r

theorem RelO.frz {id : Nat} {o : AObj} (r : RelO G w A h id o) (p : Nat → Prop) (h0 : Heap) : RelO (G.frz h0 p) w A h id o := by
  cases o with
  | box cs =>
    obtain ⟨b, T, vs, h1, h2, h3, h4⟩ := r
    exact ⟨b, T, vs, h1, h2, ⟨h3.1, fun j c hj => (h3.2 j c hj).frz p h0⟩, h4⟩
  | arr g sz L =>
    rcases r with h1 | ⟨b, o, T, vs, h1, h2, h3, h4, h5, h6⟩
    · exact .inl h1
    · exact .inr ⟨b, o, T, vs, h1, h2, h3, h4, h5, fun i cs hi j c hj => ⟨(h6 i cs hi j c hj).1.frz p h0, (h6 i cs hi j c hj).2⟩⟩
  | map m =>
    obtain ⟨b, es, clock, h1, h2, h3, h4⟩ := r
    exact ⟨b, es, clock, h1, h2, h3, fun i k v hi => let ⟨e, h5, h6, h7⟩ := h4 i k v hi; ⟨e, h5, h6, h7.frz p h0⟩⟩
  | loop r0 =>
    obtain ⟨b, tv, d, fn, h1, h2, h3, h4⟩ := r
    exact ⟨b, tv, d, fn, h1, h2, h3, fun t v ht => (h4 t v ht).frz p h0⟩
  | dfr => exact r

/-- The heap, some objects frozen, of the others those that are kept. -/
theorem freezeHeap (S : SatH G w A h) {p : Nat → Prop} {h' : Heap} {A' : Nat → Prop} (hsub : ∀ j o, look j h' = some o → look j h = some o) (hp : ∀ j o, look j h' = some o → ¬ p j)
    (hA' : ∀ j o, look j h' = some o → A' j) (hr : ∀ j o, look j h' = some o → ORefs A' o) : SatH (G.frz h p) w A' h' := by
  refine ⟨fun j o hj => ⟨hA' j o hj, ?_⟩, fun i j oi oj a b hi hj => S.inj i j oi oj a b (hsub _ _ hi) (hsub _ _ hj), fun i o a hi ha hz => ?_, fun b hb => ?_⟩
  · exact RelO.restrict (hr j o hj) (fun _ h => h) hsub ((S.obj j o (hsub j o hj)).2.frz p h)
  · rcases hz with hz | ⟨i', o', a', hpi, hl, hloc, hb⟩
    · exact S.zdis i o a (hsub _ _ hi) ha hz
    · have hne : i ≠ i' := fun e => hp i o hi (e ▸ hpi)
      exact S.inj i i' o o' a a' (hsub _ _ hi) hl hne ha hloc hb.symm
  · rcases hb with hb | ⟨i', o', a', hpi, hl, hloc, rfl⟩
    · exact S.zin b hb
    · exact S.blk hl hloc

/-- What a call leaves, where what it made is frozen or let go. -/
theorem left_frozen {G0 : Gh} {w0 : World} {nx0 : Nat} {h0 : Heap} (S0 : SatH G0 w0 (below nx0) h0) {nx : Nat} (S : SatH G w (below nx) h) (E : Evo G0 w0 (below nx0) h0 G w (below nx) h)
    {K : AV → Heap → Nat → Prop} {r r' : AV} {x : Value} (hr : Rel G w (below nx) h r x) {h' : Heap} (hsub : ∀ j o, look j h' = some o → look j h = some o)
    (hold : ∀ j o, look j h' = some o → look j h0 = some o ∨ (j < nx0 ∧ ORefs (below nx0) o)) (hf : Fz (fun i => nx0 ≤ i) h r r') (hK : K r' h' nx0) : Left G0 w0 h0 nx0 K (.returned x) w := by
  have hlt : ∀ j o, look j h' = some o → j < nx0 := fun j o hj => by
    rcases hold j o hj with h1 | h1
    · exact (S0.obj j o h1).1
    · exact h1.1
  have S' : SatH (G.frz h fun i => nx0 ≤ i) w (below nx0) h' := freezeHeap S hsub (fun j o hj => by have := hlt j o hj; omega) (fun j o hj => hlt j o hj) (fun j o hj => by
    rcases hold j o hj with h1 | h1
    · exact (S0.obj j o h1).2.refs
    · exact h1.2)
  refine ⟨x, r', h', nx0, G.frz h fun i => nx0 ≤ i, rfl, hK, S', ?_, freezeVal S (fun j _ hj => by unfold below; omega) hsub hf hr⟩
  refine ⟨E.os, E.tape, E.output, E.size, E.frame, fun b hb => ?_, fun b hb => ?_, fun _ h => h, fun v x hv => ?_⟩
  · obtain ⟨i, o, a, hi, ha, rfl⟩ := hb
    exact E.prov _ ⟨i, o, a, hsub _ _ hi, ha, rfl⟩
  · rcases hb with hb | ⟨i, o, a, _, hl, hloc, rfl⟩
    · exact E.zprov b hb
    · rcases E.prov _ ⟨i, o, a, hl, hloc, rfl⟩ with h1 | h1
      · exact .inr (.inl h1)
      · exact .inr (.inr h1)
  · exact Rel.restrict hv.refs (fun _ h => h) hsub ((E.rel v x hv).frz _ _)
end
end Go.Abs
