/- The abstract layer, part O: on what an operation's outcome leans; what it does to the heap. -/
import Derived.Test.YtlmkmmkhfkdagaaAbsP
import Derived.Test.YtlmkmmkhfkdagaaAbsR
set_option linter.unusedVariables false
set_option linter.unusedSimpArgs false
namespace Go.Abs
open Go.RowKit

/-- What an operation does to the heap. -/
inductive Eff where
  | none
  | new (id : Nat) (o : AObj)
  | set (k : Nat) (o : AObj)

def Eff.app : Eff → Heap → Heap
  | .none, h => h
  | .new id o, h => hc id o h
  | .set k o, h => upd k o h

/-- The same objects behind a value. -/
def SameAt (h h2 : Heap) (v : AV) : Prop := ∀ k, topId v = some k → look k h2 = look k h

section
variable {P : Program} {h h2 : Heap}
theorem ptrCells_local {v : AV} (s : SameAt h h2 v) : ptrCells h2 v = ptrCells h v := by
  cases v <;> simp only [ptrCells] <;> rw [s _ rfl]
theorem elems_local {v : AV} (s : SameAt h h2 v) : elems h2 v = elems h v := by
  cases v <;> simp only [elems] <;> rw [s _ rfl]
theorem elemsAt_local {v : AV} {sz : Nat} (s : SameAt h h2 v) : elemsAt h2 sz v = elemsAt h sz v := by
  cases v <;> simp only [elemsAt] <;> rw [s _ rfl]
theorem loadA_local {t : TypeId} {v : AV} (s : SameAt h h2 v) : loadA P h2 t v = loadA P h t v := by
  unfold loadA; rw [ptrCells_local s]
theorem fieldAddrA_local {t : TypeId} {v : AV} {f : Nat} (s : SameAt h h2 v) : fieldAddrA P h2 t v f = fieldAddrA P h t v f := by
  unfold fieldAddrA; rw [ptrCells_local s]
theorem indexAddrA_local {t : TypeId} {v i : AV} (s : SameAt h h2 v) : indexAddrA P h2 t v i = indexAddrA P h t v i := by
  have h1 := ptrCells_local s
  cases v with
  | own id g lo => have e := s id rfl; simp only [indexAddrA, e, h1]
  | _ => simp only [indexAddrA, h1]
theorem lenA_local {t : TypeId} {v : AV} (s : SameAt h h2 v) : lenA P h2 t v = lenA P h t v := by
  have h1 := elems_local s
  cases v with
  | mp id => have e := s id rfl; simp only [lenA, e, h1]
  | _ => simp only [lenA, h1]
theorem sliceA_local {t : TypeId} {v : AV} {lo hi mx : Option AV} (s : SameAt h h2 v) : sliceA P h2 t v lo hi mx = sliceA P h t v lo hi mx := by
  cases v with
  | own id g lo => have e := s id rfl; simp only [sliceA, e]
  | _ => simp only [sliceA]
theorem lookupA_local {t : TypeId} {m k : AV} {ok : Bool} (s : SameAt h h2 m) : lookupA P h2 t m k ok = lookupA P h t m k ok := by
  unfold lookupA
  cases ht : tiOf P t with
  | none => rfl
  | some ti => cases m with
    | mp id => have e := s id rfl; cases k <;> simp only [e]
    | _ => cases k <;> rfl
theorem binA_local {op : BinOp} {t : TypeId} {xo yo : Operand} {x y : AV} (s : SameAt h h2 x) : binA P h2 op t xo yo x y = binA P h op t xo yo x y := by
  have e := ptrCells_local s
  unfold binA
  split
  · rfl
  · rfl
  · rfl
  · split
    · rfl
    · split
      · split
        · rfl
        · simp only [e]
      · rfl
  · rfl

theorem storeA_local {t : TypeId} {a x : AV} {h' : Heap} (hv : storeA P h t a x = some h') : ∃ k o, h' = upd k o h ∧ topId a = some k ∧ (∃ o0, look k h = some o0) ∧ ∀ h2, SameAt h h2 a → storeA P h2 t a x = some (upd k o h2) := by
  unfold storeA at hv
  split at hv
  · rename_i ti ns hti hns
    split at hv
    · rename_i hsz
      split at hv
      · rename_i id off
        split at hv
        · rename_i cs hl
          split at hv
          · rename_i hle
            cases hv
            refine ⟨id, _, rfl, rfl, ⟨_, hl⟩, fun h2 s => ?_⟩
            have := s id rfl
            unfold storeA
            simp [hti, hns, hsz, this, hl]
            omega
          · cases hv
        · cases hv
      · rename_i id g i off
        split at hv
        · rename_i g' sz L hl
          split at hv
          · rename_i hg
            split at hv
            · rename_i cs hi
              split at hv
              · rename_i hle
                cases hv
                refine ⟨id, _, rfl, rfl, ⟨_, hl⟩, fun h2 s => ?_⟩
                have := s id rfl
                unfold storeA
                simp [hti, hns, hsz, this, hl, hg, hi]
                omega
              · cases hv
            · cases hv
          · cases hv
        · cases hv
      · cases hv
    · cases hv
  · cases hv

theorem mapSetA_local {t : TypeId} {m k v : AV} {h' : Heap} (hv : mapSetA h P t m k v = some h') : ∃ i o, h' = upd i o h ∧ topId m = some i ∧ (∃ o0, look i h = some o0) ∧ ∀ h2, SameAt h h2 m → mapSetA h2 P t m k v = some (upd i o h2) := by
  unfold mapSetA at hv
  split at hv
  · rename_i ti id kv hti
    split at hv
    · rename_i kt et es hmk hl
      split at hv
      · rename_i hko
        split at hv
        · rename_i j w hf
          cases hv
          refine ⟨id, _, rfl, rfl, ⟨_, hl⟩, fun h2 s => ?_⟩
          have := s id rfl
          unfold mapSetA
          simp [hti, hmk, this, hl, hko, hf]
        · rename_i hf
          cases hv
          refine ⟨id, _, rfl, rfl, ⟨_, hl⟩, fun h2 s => ?_⟩
          have := s id rfl
          unfold mapSetA
          simp [hti, hmk, this, hl, hko, hf]
        · cases hv
      · cases hv
    · cases hv
  · cases hv

theorem appendA_local {id : Nat} {t : TypeId} {s x : AV} {v : AV} {h' : Heap} {fr : Bool} (hv : appendA P h id t s x = some (v, h', fr)) :
    ∃ e : Eff, h' = e.app h ∧ (∀ i o, e = .new i o → i = id) ∧ (∀ k o, e = .set k o → topId s = some k ∧ ∃ o0, look k h = some o0) ∧ ∀ h2, SameAt h h2 s → SameAt h h2 x → appendA P h2 id t s x = some (v, e.app h2, fr) := by
  unfold appendA at hv
  split at hv
  · cases hv
  rename_i ti hti
  split at hv
  · cases hv
  rename_i e he
  split at hv
  · cases hv
  rename_i te hte
  split at hv
  · rename_i hz
    split at hv
    · rename_i xs ls hxs hls
      split at hv
      · rename_i hlen
        split at hv
        · cases hv
          refine ⟨.new id _, rfl, fun i o e => (by cases e; rfl), fun k o e => (by cases e), fun h2 s1 s2 => ?_⟩
          unfold appendA
          simp only [hti, he, hte, hz, if_true, elemsAt_local s1, elemsAt_local s2, hxs, hls, hlen, and_self, Eff.app]
        · rename_i i g lo
          cases hv
          refine ⟨.set i _, rfl, fun i o e => (by cases e), fun k o e => (by
            cases e
            refine ⟨rfl, ?_⟩
            simp only [elemsAt] at hls
            split at hls
            · rename_i hl; exact ⟨_, hl⟩
            · cases hls), fun h2 s1 s2 => ?_⟩
          unfold appendA
          simp only [hti, he, hte, hz, if_true, elemsAt_local s1, elemsAt_local s2, hxs, hls, hlen, and_self, Eff.app]
        · cases hv
      · cases hv
    · cases hv
  · cases hv

theorem buildSliceA_local {id : Nat} {t : TypeId} {n : Nat} {ps : List (Nat × AV)} {v : AV} {h' : Heap} (hv : buildSliceA P h id t n ps = some (v, h')) : ∃ o, h' = hc id o h ∧ ∀ h2, buildSliceA P h2 id t n ps = some (v, hc id o h2) := by
  unfold buildSliceA at hv
  split at hv
  · cases hv
  rename_i ti hti
  split at hv
  · cases hv
  rename_i e he
  split at hv
  · cases hv
  rename_i te hte
  split at hv
  · cases hv
  rename_i rows hr
  split at hv
  · rename_i hc'
    cases hv
    refine ⟨_, rfl, fun h2 => ?_⟩
    unfold buildSliceA
    simp only [hti, he, hte, hr, hc', and_self, if_true]
  · cases hv

theorem allocA_local {id : Nat} {t : TypeId} {h' : Heap} (hv : allocA P id t h = some h') : ∃ o, h' = hc id o h ∧ ∀ h2, allocA P id t h2 = some (hc id o h2) := by
  unfold allocA at hv
  split at hv
  · cases hv
  rename_i ti hti
  split at hv
  · cases hv
  rename_i z hz
  split at hv
  · rename_i hzo
    cases hv
    refine ⟨_, rfl, fun h2 => ?_⟩
    unfold allocA
    simp only [hti, hz, hzo, if_true]
  · cases hv

/-- What an operation does, and on what it leans. -/
structure EffOk (P : Program) (h : Heap) (id : Nat) (ρ : Operand → AV) (op : Op) (v : AV) (h' : Heap) (fr : Bool) (e : Eff) : Prop where
  app : h' = e.app h
  new : ∀ i o, e = .new i o → i = id
  set : ∀ k o, e = .set k o → opWr op = true ∧ (∃ x ∈ op.operands, topId (ρ x) = some k) ∧ ∃ o0, look k h = some o0
  loc : ∀ h2, ((opRd op || opWr op) = true → ∀ x ∈ op.operands, SameAt h h2 (ρ x)) → opA P h2 id ρ op = some (v, e.app h2, fr)

theorem eff_val {id : Nat} {ρ : Operand → AV} {op : Op} {v : AV} {h' : Heap} {fr : Bool} (f : Heap → Option AV) (hf : ∀ h, opA P h id ρ op = (f h).map fun v => (v, h, false))
    (hl : ∀ h2, ((opRd op || opWr op) = true → ∀ x ∈ op.operands, SameAt h h2 (ρ x)) → f h2 = f h) (hv : opA P h id ρ op = some (v, h', fr)) : ∃ e, EffOk P h id ρ op v h' fr e := by
  rw [hf] at hv
  simp only [Option.map_eq_some_iff, Prod.mk.injEq] at hv
  obtain ⟨v0, hv0, rfl, rfl, rfl⟩ := hv
  exact ⟨.none, rfl, fun _ _ e => (by cases e), fun _ _ e => (by cases e), fun h2 hc => by rw [hf, hl h2 hc, hv0]; rfl⟩

theorem opA_eff {id : Nat} {ρ : Operand → AV} {op : Op} {v : AV} {h' : Heap} {fr : Bool} (hv : opA P h id ρ op = some (v, h', fr)) : ∃ e, EffOk P h id ρ op v h' fr e := by
  cases op with
  | move x => exact eff_val (fun _ => some (ρ x)) (fun _ => rfl) (fun _ _ => rfl) hv
  | assign x => exact eff_val (fun _ => some (ρ x)) (fun _ => rfl) (fun _ _ => rfl) hv
  | pick c a b =>
    refine eff_val (fun _ => match ρ c with
      | .sc (.bool t) => some (if t then ρ a else ρ b)
      | _ => none) (fun _ => ?_) (fun _ _ => rfl) hv
    simp only [opA]
    split
    · rename_i t ht; simp [ht]
    · rename_i ht
      split
      · rename_i t ht'; exact absurd ht' (ht t)
      · rfl
  | alloc t =>
    simp only [opA, Option.map_eq_some_iff, Prod.mk.injEq] at hv
    obtain ⟨h1, hh, rfl, rfl, rfl⟩ := hv
    obtain ⟨o, rfl, h3⟩ := allocA_local hh
    exact ⟨.new id o, rfl, fun i o e => (by cases e; rfl), fun k o e => (by cases e), fun h2 _ => by simp [opA, h3 h2, Eff.app]⟩
  | box t x =>
    simp only [opA, Option.map_eq_some_iff, Prod.mk.injEq] at hv
    obtain ⟨cs, hcs, rfl, rfl, rfl⟩ := hv
    exact ⟨.new id (.box cs), rfl, fun i o e => (by cases e; rfl), fun k o e => (by cases e), fun h2 _ => by simp [opA, hcs, Eff.app]⟩
  | build t parts => exact eff_val (fun _ => buildA P t (parts.toList.map fun p => (p.1, ρ p.2))) (fun _ => rfl) (fun _ _ => rfl) hv
  | buildSlice t len parts =>
    simp only [opA, Option.map_eq_some_iff, Prod.mk.injEq] at hv
    obtain ⟨⟨v0, h0⟩, hv0, rfl, rfl, rfl⟩ := hv
    obtain ⟨o, rfl, h3⟩ := buildSliceA_local hv0
    exact ⟨.new id o, rfl, fun i o e => (by cases e; rfl), fun k o e => (by cases e), fun h2 _ => by simp [opA, h3 h2, Eff.app]⟩
  | load t a => exact eff_val (fun h => loadA P h t (ρ a)) (fun _ => rfl) (fun h2 hc => loadA_local (hc rfl a (by simp [Op.operands]))) hv
  | store t a x =>
    simp only [opA, Option.map_eq_some_iff, Prod.mk.injEq] at hv
    obtain ⟨h0, hh, rfl, rfl, rfl⟩ := hv
    obtain ⟨k, o, rfl, h4, h5, h6⟩ := storeA_local hh
    exact ⟨.set k o, rfl, fun i o e => (by cases e), fun k o e => (by cases e; exact ⟨rfl, ⟨a, by simp [Op.operands], h4⟩, h5⟩), fun h2 hc => by simp [opA, h6 h2 (hc rfl a (by simp [Op.operands])), Eff.app]⟩
  | nilCheck x =>
    refine eff_val (fun h => match ptrCells h (ρ x) with
      | some _ => some (ρ x)
      | none => none) (fun h => ?_) (fun h2 hc => by rw [ptrCells_local (hc rfl x (by simp [Op.operands]))]) hv
    simp only [opA]
    cases ptrCells h (ρ x) <;> rfl
  | binOp op t x y yt => exact eff_val (fun h => binA P h op t x y (ρ x) (ρ y)) (fun _ => rfl) (fun h2 hc => binA_local (hc rfl x (by simp [Op.operands]))) hv
  | unOp op t x => exact eff_val (fun _ => unA op (ρ x)) (fun _ => rfl) (fun _ _ => rfl) hv
  | convert s d x => exact eff_val (fun _ => convA P s d (ρ x)) (fun _ => rfl) (fun _ _ => rfl) hv
  | makeInterface t x => exact eff_val (fun _ => mkIfaceA P t (ρ x)) (fun _ => rfl) (fun _ _ => rfl) hv
  | makeFunc f first caps =>
    refine eff_val (fun _ => if first.size = 0 then some (.fn f (caps.toList.map ρ)) else none) (fun _ => ?_) (fun _ _ => rfl) hv
    simp only [opA]
    split <;> rfl
  | makeMap t r =>
    cases r with
    | none =>
      simp only [opA, Option.some.injEq, Prod.mk.injEq] at hv
      obtain ⟨rfl, rfl, rfl⟩ := hv
      exact ⟨.new id (.map []), rfl, fun i o e => (by cases e; rfl), fun k o e => (by cases e), fun h2 _ => by simp [opA, Eff.app]⟩
    | some _ => simp [opA] at hv
  | slice t x lo hi mx => exact eff_val (fun h => sliceA P h t (ρ x) (lo.map ρ) (hi.map ρ) (mx.map ρ)) (fun _ => rfl) (fun h2 hc => sliceA_local (hc rfl x (by simp [Op.operands]))) hv
  | fieldAddr s x f => exact eff_val (fun h => fieldAddrA P h s (ρ x) f) (fun _ => rfl) (fun h2 hc => fieldAddrA_local (hc rfl x (by simp [Op.operands]))) hv
  | field t x f => exact eff_val (fun _ => fieldA P t (ρ x) f) (fun _ => rfl) (fun _ _ => rfl) hv
  | indexAddr t x i => exact eff_val (fun h => indexAddrA P h t (ρ x) (ρ i)) (fun _ => rfl) (fun h2 hc => indexAddrA_local (hc rfl x (by simp [Op.operands]))) hv
  | index t x i => exact eff_val (fun _ => indexA P t (ρ x) (ρ i)) (fun _ => rfl) (fun _ _ => rfl) hv
  | lookup t m k ok => exact eff_val (fun h => lookupA P h t (ρ m) (ρ k) ok) (fun _ => rfl) (fun h2 hc => lookupA_local (hc rfl m (by simp [Op.operands]))) hv
  | mapUpdate t m k x =>
    simp only [opA, Option.map_eq_some_iff, Prod.mk.injEq] at hv
    obtain ⟨h0, hh, rfl, rfl, rfl⟩ := hv
    obtain ⟨i, o, rfl, h4, h5, h6⟩ := mapSetA_local hh
    exact ⟨.set i o, rfl, fun i o e => (by cases e), fun k o e => (by cases e; exact ⟨rfl, ⟨m, by simp [Op.operands], h4⟩, h5⟩), fun h2 hc => by simp [opA, h6 h2 (hc rfl m (by simp [Op.operands])), Eff.app]⟩
  | insert t m k x =>
    simp only [opA, Option.map_eq_some_iff, Prod.mk.injEq] at hv
    obtain ⟨h0, hh, rfl, rfl, rfl⟩ := hv
    obtain ⟨i, o, rfl, h4, h5, h6⟩ := mapSetA_local hh
    exact ⟨.set i o, rfl, fun i o e => (by cases e), fun k o e => (by cases e; exact ⟨rfl, ⟨m, by simp [Op.operands], h4⟩, h5⟩), fun h2 hc => by simp [opA, h6 h2 (hc rfl m (by simp [Op.operands])), Eff.app]⟩
  | extract x i => exact eff_val (fun _ => extractA (ρ x) i) (fun _ => rfl) (fun _ _ => rfl) hv
  | call c =>
    obtain ⟨callee, args, tys⟩ := c
    cases callee with
    | builtin b =>
      simp only [opA] at hv
      split at hv
      · rename_i x t ha ht
        have ha' : args = #[x] := Array.ext' (by simpa using ha)
        have ht' : tys = #[t] := Array.ext' (by simpa using ht)
        subst ha'
        subst ht'
        exact eff_val (op := .call { callee := .builtin .len, args := #[x], argTypes := #[t] }) (fun h => lenA P h t (ρ x)) (fun _ => rfl) (fun h2 hc => lenA_local (hc rfl x (by simp [Op.operands, Call.operands]))) hv
      · rename_i s x t t' ha ht
        have ha' : args = #[s, x] := Array.ext' (by simpa using ha)
        have ht' : tys = #[t, t'] := Array.ext' (by simpa using ht)
        subst ha'
        subst ht'
        split at hv
        · rename_i htt
          subst htt
          obtain ⟨e, h3, h4, h5, h6⟩ := appendA_local hv
          refine ⟨e, h3, h4, fun k o he => ⟨rfl, ⟨s, by simp [Op.operands, Call.operands], (h5 k o he).1⟩, (h5 k o he).2⟩, fun h2 hc => ?_⟩
          simp only [opA, if_true]
          exact h6 h2 (hc rfl s (by simp [Op.operands, Call.operands])) (hc rfl x (by simp [Op.operands, Call.operands]))
        · cases hv
      · cases hv
    | value f => simp [opA] at hv
    | invoke r m => simp [opA] at hv
  | _ => simp [opA] at hv

theorem opA_congr {id : Nat} {ρ ρ' : Operand → AV} {op : Op} (hρ : ∀ x ∈ op.operands, ρ' x = ρ x) : opA P h id ρ' op = opA P h id ρ op := by
  cases op with
  | build t parts =>
    have : (parts.toList.map fun p => (p.1, ρ' p.2)) = parts.toList.map fun p => (p.1, ρ p.2) := List.map_congr_left fun p hp => by rw [hρ p.2 (by simp only [Op.operands, List.mem_toArray, List.mem_map]; exact ⟨p, hp, rfl⟩)]
    simp only [opA, this]
  | buildSlice t n parts =>
    have : (parts.toList.map fun p => (p.1, ρ' p.2)) = parts.toList.map fun p => (p.1, ρ p.2) := List.map_congr_left fun p hp => by rw [hρ p.2 (by simp only [Op.operands, List.mem_toArray, List.mem_map]; exact ⟨p, hp, rfl⟩)]
    simp only [opA, this]
  | makeFunc f first caps =>
    have : caps.toList.map ρ' = caps.toList.map ρ := List.map_congr_left fun p hp => hρ p (by simp only [Op.operands, Array.mem_append]; exact .inr (by simpa using hp))
    simp only [opA, this]
  | slice t x lo hi mx =>
    have h1 : ρ' x = ρ x := hρ x (by simp [Op.operands])
    have h2 : lo.map ρ' = lo.map ρ := by cases lo with | none => rfl | some y => simp [hρ y (by simp [Op.operands])]
    have h3 : hi.map ρ' = hi.map ρ := by cases hi with | none => rfl | some y => simp [hρ y (by simp [Op.operands])]
    have h4 : mx.map ρ' = mx.map ρ := by cases mx with | none => rfl | some y => simp [hρ y (by simp [Op.operands])]
    simp only [opA, h1, h2, h3, h4]
  | call c =>
    obtain ⟨callee, args, tys⟩ := c
    cases callee with
    | builtin b =>
      simp only [opA]
      split
      · rename_i x t ha ht
        have ha' : args = #[x] := Array.ext' (by simpa using ha)
        subst ha'
        rw [hρ x (by simp [Op.operands, Call.operands])]
      · rename_i s x t t' ha ht
        have ha' : args = #[s, x] := Array.ext' (by simpa using ha)
        subst ha'
        rw [hρ x (by simp [Op.operands, Call.operands]), hρ s (by simp [Op.operands, Call.operands])]
      · rfl
    | value f => rfl
    | invoke r m => rfl
  | makeMap t r => cases r <;> rfl
  | move x => simp only [opA, hρ x (by simp [Op.operands])]
  | assign x => simp only [opA, hρ x (by simp [Op.operands])]
  | pick c a b => simp only [opA, hρ c (by simp [Op.operands]), hρ a (by simp [Op.operands]), hρ b (by simp [Op.operands])]
  | box t x => simp only [opA, hρ x (by simp [Op.operands])]
  | load t x => simp only [opA, hρ x (by simp [Op.operands])]
  | store t a x => simp only [opA, hρ x (by simp [Op.operands]), hρ a (by simp [Op.operands])]
  | nilCheck x => simp only [opA, hρ x (by simp [Op.operands])]
  | binOp op t x y yt => simp only [opA, hρ x (by simp [Op.operands]), hρ y (by simp [Op.operands])]
  | unOp op t x => simp only [opA, hρ x (by simp [Op.operands])]
  | convert s d x => simp only [opA, hρ x (by simp [Op.operands])]
  | makeInterface t x => simp only [opA, hρ x (by simp [Op.operands])]
  | fieldAddr t x f => simp only [opA, hρ x (by simp [Op.operands])]
  | field t x f => simp only [opA, hρ x (by simp [Op.operands])]
  | indexAddr t x y => simp only [opA, hρ x (by simp [Op.operands]), hρ y (by simp [Op.operands])]
  | index t x y => simp only [opA, hρ x (by simp [Op.operands]), hρ y (by simp [Op.operands])]
  | lookup t x y ok => simp only [opA, hρ x (by simp [Op.operands]), hρ y (by simp [Op.operands])]
  | mapUpdate t m k x => simp only [opA, hρ x (by simp [Op.operands]), hρ m (by simp [Op.operands]), hρ k (by simp [Op.operands])]
  | insert t m k x => simp only [opA, hρ x (by simp [Op.operands]), hρ m (by simp [Op.operands]), hρ k (by simp [Op.operands])]
  | extract x i => simp only [opA, hρ x (by simp [Op.operands])]
  | _ => rfl
end
end Go.Abs
