/- The abstract layer, part Ob: regions whose order is open: one walk in the order of the text serves every order. -/
import Derived.Test.YtlmkmmkhfkdagaaAbsO
set_option linter.unusedVariables false
set_option linter.unusedSimpArgs false
namespace Go.Abs
open Go.RowKit

def opOk (nt : Nat) (o : Oper) : Bool := match o.dst with
  | some d => decide (d < nt)
  | none => true


section
variable {C : Ctx} {O : Orig} {l : Option Nat}
theorem gv_sound {G : Gh} {A : Nat → Prop} {σ : AS} {a : Act} {w : World} (k : OkA C O l G A σ a w) {all : Array Oper} (hall : all.toList.all (opOk C.nt) = true) {j : Nat} {b : Bool} (h : gv all σ j = .sc (.bool b)) : yielded all a.tmps j = some b := by
  unfold gv at h
  cases hd : (all[j]?).bind (·.dst) with
  | none => simp [hd] at h
  | some d =>
    simp only [hd] at h
    have hr := k.ev (.tmp d)
    rw [h] at hr
    have hv := hr.sc_inv
    have hlt : d < a.tmps.size := by
      rw [k.size]
      cases ho : all[j]? with
      | none => simp [ho] at hd
      | some o =>
        simp only [ho, Option.bind_some] at hd
        have hm : o ∈ all.toList := by rw [← Array.getElem?_toList] at ho; exact List.mem_of_getElem? ho
        have := List.all_eq_true.1 hall o hm
        simpa [opOk, hd] using this
    unfold yielded
    simp only [hd, Option.bind_some]
    simp only [Act.eval, Array.getD_eq_getD_getElem?] at hv
    rw [Array.getElem?_eq_getElem hlt] at hv ⊢
    simp only [Option.getD_some] at hv
    rw [hv]

theorem opOk_dst {nt : Nat} {o : Oper} (h : opOk nt o = true) : ∀ t, o.dst = some t → t < nt := by
  intro t ht
  simpa [opOk, ht] using h

theorem run_call {P : Program} {ρ : Operand → Value} {f : Operand} {args tys : Array _} {ty : TypeId} {w : World} :
    (do let d ← resolve ρ { callee := .value f, args := args, argTypes := tys } ty; invoke d.target d.args : Sem Next).run P w = (do let d ← Deferred.ofValue (ρ f) (args.map ρ); invoke d.target d.args : Sem Next).run P w := by
  simp only [resolve]

end

/-! ### More numbers -/

theorem Rel.wide {G : Gh} {w : World} {A A' : Nat → Prop} {h : Heap} {v : AV} {x : Value} (r : Rel G w A h v x) (hA : ∀ j, A j → A' j) : Rel G w A' h v x :=
  r.compat ⟨fun _ h => h, fun _ _ _ _ h => h, hA, fun _ _ => objCompat_refl _ _⟩

theorem SatH.wide {G : Gh} {w : World} {A A' : Nat → Prop} {h : Heap} (S : SatH G w A h) (hA : ∀ j, A j → A' j) : SatH G w A' h :=
  ⟨fun i o hi => ⟨hA i (S.obj i o hi).1, RelO.restrict (S.obj i o hi).2.refs hA (fun _ _ h => h) (S.obj i o hi).2⟩, S.inj, S.zdis, S.zin⟩

theorem OkA.wide {C : Ctx} {O : Orig} {l : Option Nat} {G : Gh} {A A' : Nat → Prop} {σ : AS} {a : Act} {w : World} (k : OkA C O l G A σ a w) (hA : ∀ j, A j → A' j) : OkA C O l G A' σ a w := by
  refine ⟨k.sat.wide hA, fun t v ht => (k.tmps t v ht).wide hA, k.size, ?_, ?_, fun r hr => ?_, k.nornd⟩
  · obtain ⟨bs, h1, h2, h3⟩ := k.defers
    exact ⟨bs, h1, h2, fun j id b hj hb => (h3 j id b hj hb).wide hA⟩
  · have E := k.evo
    exact ⟨E.os, E.tape, E.output, E.size, E.frame, E.prov, E.zprov, fun j hj => hA j (E.le j hj), fun v x r => (E.rel v x r).wide hA⟩
  · obtain ⟨l0, h1, h2⟩ := k.rnd r hr
    exact ⟨l0, h1, h2.wide hA⟩

theorem OkA.next {C : Ctx} {O : Orig} {l : Option Nat} {G : Gh} {A : Nat → Prop} {σ : AS} {a : Act} {w : World} (k : OkA C O l G A σ a w) (n : Nat) : OkA C O l G A { σ with next := n } a w :=
  ⟨k.sat, k.tmps, k.size, k.defers, k.evo, k.rnd, k.nornd⟩

theorem Refs.top {A : Nat → Prop} {v : AV} (r : Refs A v) {k : Nat} (ht : topId v = some k) : A k := by
  cases r with
  | noRef hn => cases v <;> simp [AV.noRef] at hn <;> simp [topId] at ht
  | own h => cases ht; exact h
  | ptr h => cases ht; exact h
  | eptr h => cases ht; exact h
  | mp h => cases ht; exact h
  | yld h => cases ht
  | mrk h => cases ht
  | agg h => cases ht
  | tup h => cases ht
  | fn h => cases ht

/-- A call that leaves the heap alone, whatever it is. -/
theorem OkA.pureCall {C : Ctx} {O : Orig} {l : Option Nat} {G : Gh} {A : Nat → Prop} {σ : AS} {a : Act} {w : World} (k : OkA C O l G A σ a w) {f : Operand} {args : List Operand} {r : AV}
    (hp : PureCall C.P σ.heap (σ.ev f) (args.map σ.ev) r) {m : Nat} (hm : ∀ j, A j → j < m) {d : Option Tmp} (hd : ∀ t, d = some t → t < C.nt) :
    CallV C.P (a.eval f) (args.map a.eval).toArray w (fun e w' => ∃ x G', e = .returned x ∧ OkA C O l G' A (σ.put d r) (a.put d x) w') := by
  have hA : ∀ j, A j → below m j := fun j hj => hm j hj
  have hrs : Rels G w (below m) σ.heap (args.map σ.ev) (args.map a.eval) := by
    rw [rels_iff]
    refine ⟨by simp, fun j c v hj hv => ?_⟩
    simp only [List.getElem?_map] at hj hv
    cases hq : args[j]? with
    | none => simp [hq] at hj
    | some q =>
      simp only [hq, Option.map_some, Option.some.injEq] at hj hv
      subst hj
      subst hv
      exact (k.ev q).wide hA
  refine (hp.2 σ.heap m (fun r' h' nx' => r' = r ∧ h' = σ.heap ∧ nx' = m) (fun _ _ => rfl) ⟨rfl, rfl, rfl⟩ G w _ _ (k.sat.wide hA) ((k.ev f).wide hA) hrs).mono fun e w' hl => ?_
  obtain ⟨x, r', h', nx', G', rfl, ⟨rfl, rfl, rfl⟩, S', E', R'⟩ := hl
  refine ⟨x, G', rfl, ?_⟩
  have S2 : SatH G' w' A σ.heap := ⟨fun j o hj => ⟨(k.sat.obj j o hj).1, RelO.restrict (k.sat.obj j o hj).2.refs (fun _ h => h) (fun _ _ h => h) (S'.obj j o hj).2⟩, S'.inj, S'.zdis, S'.zin⟩
  have E2 : Evo G w A σ.heap G' w' A σ.heap := ⟨E'.os, E'.tape, E'.output, E'.size, E'.frame, E'.prov, E'.zprov, fun _ h => h, fun v x hv => Rel.restrict hv.refs (fun _ h => h) (fun _ _ h => h) (E'.rel v x (hv.wide hA))⟩
  have := k.step hd S2 E2 (Rel.restrict hp.1 (A' := A) (h' := σ.heap) (fun _ h => h.elim) (fun _ _ h => h) R') σ.next
  cases d <;> exact this

theorem CallV.ends {P : Program} {x : Value} {vs : Array Value} {w : World} {R : Ending → World → Prop} (h : CallV P x vs w R) : ∃ e w', R e w' := by
  rcases h with ⟨f, as, _, h⟩ | ⟨l, f, tmps, as, body, _, h⟩
  · obtain ⟨e, w', _, hR, _⟩ := h []
    exact ⟨e, w', hR⟩
  · obtain ⟨e, w', hR, _⟩ := h.2 default [] (room_wide _)
    exact ⟨e, w', hR⟩

/-! ### What a value leads to -/

theorem Refs.both {A B : Nat → Prop} {v : AV} (h1 : Refs A v) : Refs B v → Refs (fun j => A j ∧ B j) v := by
  induction h1 with
  | noRef h => exact fun _ => .noRef h
  | own h => intro h2; cases h2 with | noRef hn => simp [AV.noRef] at hn | own h2 => exact .own ⟨h, h2⟩
  | ptr h => intro h2; cases h2 with | noRef hn => simp [AV.noRef] at hn | ptr h2 => exact .ptr ⟨h, h2⟩
  | eptr h => intro h2; cases h2 with | noRef hn => simp [AV.noRef] at hn | eptr h2 => exact .eptr ⟨h, h2⟩
  | mp h => intro h2; cases h2 with | noRef hn => simp [AV.noRef] at hn | mp h2 => exact .mp ⟨h, h2⟩
  | yld h => intro h2; cases h2 with | noRef hn => simp [AV.noRef] at hn | yld h2 => exact .yld ⟨h, h2⟩
  | mrk h => intro h2; cases h2 with | noRef hn => simp [AV.noRef] at hn | mrk h2 => exact .mrk ⟨h, h2⟩
  | agg h ih => intro h2; cases h2 with | noRef hn => simp [AV.noRef] at hn | agg h2 => exact .agg fun c hc => ih c hc (h2 c hc)
  | tup h ih => intro h2; cases h2 with | noRef hn => simp [AV.noRef] at hn | tup h2 => exact .tup fun c hc => ih c hc (h2 c hc)
  | fn h ih => intro h2; cases h2 with | noRef hn => simp [AV.noRef] at hn | fn h2 => exact .fn fun c hc => ih c hc (h2 c hc)

theorem ORefs.both {A B : Nat → Prop} {o : AObj} (h1 : ORefs A o) (h2 : ORefs B o) : ORefs (fun j => A j ∧ B j) o := by
  cases o with
  | box cs => exact fun c hc => (h1 c hc).both (h2 c hc)
  | arr g sz L => exact fun cs hcs c hc => (h1 cs hcs c hc).both (h2 cs hcs c hc)
  | map m => exact fun p hp => (h1 p hp).both (h2 p hp)
  | loop r => exact fun t v ht => (h1 t v ht).both (h2 t v ht)
  | dfr => trivial

/-- All numbers of a value: those that every set for it holds. -/
theorem Refs.all {v : AV} {F : (Nat → Prop) → Prop} : (∃ A, Refs A v) → (∀ A, F A → Refs A v) → Refs (fun k => ∀ A, F A → A k) v := by
  rintro ⟨A0, h0⟩
  induction h0 with
  | noRef h => exact fun _ => .noRef h
  | own h => intro h2; exact .own fun A hA => by cases h2 A hA with | noRef hn => simp [AV.noRef] at hn | own h => exact h
  | ptr h => intro h2; exact .ptr fun A hA => by cases h2 A hA with | noRef hn => simp [AV.noRef] at hn | ptr h => exact h
  | eptr h => intro h2; exact .eptr fun A hA => by cases h2 A hA with | noRef hn => simp [AV.noRef] at hn | eptr h => exact h
  | mp h => intro h2; exact .mp fun A hA => by cases h2 A hA with | noRef hn => simp [AV.noRef] at hn | mp h => exact h
  | yld h => intro h2; exact .yld fun A hA => by cases h2 A hA with | noRef hn => simp [AV.noRef] at hn | yld h => exact h
  | mrk h => intro h2; exact .mrk fun A hA => by cases h2 A hA with | noRef hn => simp [AV.noRef] at hn | mrk h => exact h
  | agg h ih => intro h2; exact .agg fun c hc => ih c hc fun A hA => by cases h2 A hA with | noRef hn => simp [AV.noRef] at hn | agg h => exact h c hc
  | tup h ih => intro h2; exact .tup fun c hc => ih c hc fun A hA => by cases h2 A hA with | noRef hn => simp [AV.noRef] at hn | tup h => exact h c hc
  | fn h ih => intro h2; exact .fn fun c hc => ih c hc fun A hA => by cases h2 A hA with | noRef hn => simp [AV.noRef] at hn | fn h => exact h c hc

theorem Refs.any_true (v : AV) : Refs (fun _ => True) v := by
  suffices h : ∀ n (v : AV), SizeOf.sizeOf v ≤ n → Refs (fun _ => True) v from h _ v (Nat.le_refl _)
  intro n
  induction n with
  | zero => intro v hv; cases v <;> simp at hv
  | succ n ih =>
    intro v hv
    have sub : ∀ (cs : List AV), SizeOf.sizeOf cs ≤ n → ∀ c ∈ cs, Refs (fun _ => True) c := fun cs hcs c hc => ih c (by have := List.sizeOf_lt_of_mem hc; omega)
    cases v with
    | any => exact .noRef rfl
    | sc _ => exact .noRef rfl
    | emp => exact .noRef rfl
    | lst _ _ => exact .noRef rfl
    | cptr _ => exact .noRef rfl
    | own _ _ _ => exact .own trivial
    | ptr _ _ => exact .ptr trivial
    | eptr _ _ _ _ => exact .eptr trivial
    | mp _ => exact .mp trivial
    | yld _ => exact .yld trivial
    | mrk _ => exact .mrk trivial
    | agg cs => exact .agg (sub cs (by simp at hv; omega))
    | tup cs => exact .tup (sub cs (by simp at hv; omega))
    | fn f cs => exact .fn (sub cs (by simp at hv; omega))

theorem Refs.reach (h : Heap) (v : AV) : Refs (Reach h v) v := by
  have := Refs.all (v := v) (F := fun A => Refs A v ∧ ∀ j o, A j → look j h = some o → ORefs A o) ⟨_, Refs.any_true v⟩ (fun A hA => hA.1)
  have e : (fun k => ∀ A, (Refs A v ∧ ∀ j o, A j → look j h = some o → ORefs A o) → A k) = Reach h v := by
    funext k
    exact propext ⟨fun hh A h1 h2 => hh A ⟨h1, h2⟩, fun hh A h12 => hh A h12.1 h12.2⟩
  rw [e] at this
  exact this

theorem ORefs.reach {h : Heap} {v : AV} {j : Nat} {o : AObj} (hj : Reach h v j) (hl : look j h = some o) : ORefs (Reach h v) o := by
  have e : (fun k => ∀ A, (Refs A v ∧ ∀ j o, A j → look j h = some o → ORefs A o) → A k) = Reach h v := by
    funext k
    exact propext ⟨fun hh A h1 h2 => hh A ⟨h1, h2⟩, fun hh A h12 => hh A h12.1 h12.2⟩
  have key : ∀ A, (Refs A v ∧ ∀ j o, A j → look j h = some o → ORefs A o) → ORefs A o := fun A hA => hA.2 j o (hj A hA.1 hA.2) hl
  rw [← e]
  cases o with
  | box cs => exact fun c hc => Refs.all ⟨_, Refs.any_true c⟩ fun A hA => key A hA c hc
  | arr g sz L => exact fun cs hcs c hc => Refs.all ⟨_, Refs.any_true c⟩ fun A hA => key A hA cs hcs c hc
  | map m => exact fun p hp => Refs.all ⟨_, Refs.any_true p.2⟩ fun A hA => key A hA p hp
  | loop r => exact fun t u ht => Refs.all ⟨_, Refs.any_true u⟩ fun A hA => key A hA t u ht
  | dfr => trivial

/-! ### One operation's outcome -/

def GuardT (all : Array Oper) (σ : AS) (o : Oper) (t : Bool) : Prop := match o.guard with
  | none => t = true
  | some (j, want) => ∃ b, gv all σ j = .sc (.bool b) ∧ t = (b == want)

theorem frzA_spec {P : Program} {t : TypeId} {len : Nat} {parts : List (Nat × AV)} {v : AV} (hv : frzA P t len parts = some v) : ∃ sz rows, v = .lst sz rows ∧ (∀ h id, buildSliceA P h id t len parts = some (.own id 0 0, hc id (.arr 0 sz rows) h)) ∧ ∀ cs ∈ rows, ∀ c ∈ cs, c.noRef = true := by
  unfold frzA at hv
  split at hv
  · cases hv
  rename_i ti hti
  split at hv
  · cases hv
  rename_i e he
  split at hv
  · cases hv
  rename_i te hte
  split at hv
  · cases hv
  rename_i rows hr
  split at hv
  · rename_i hc'
    cases hv
    refine ⟨_, _, rfl, fun h id => ?_, fun cs hcs c hcc => List.all_eq_true.1 (List.all_eq_true.1 hc'.2.2.2 cs hcs) c hcc⟩
    unfold buildSliceA
    simp only [hti, he, hte, hr, hc'.1, hc'.2.1, hc'.2.2.1, and_self, if_true]
  · cases hv

theorem opD_notDefer {fl : Bool} {P : Program} {h : Heap} {id : Nat} {ρ : Operand → AV} {op : Op} {r : AV × Heap × Bool} (hv : opD fl P h id ρ op = some r) : ∀ c, op ≠ .defer c := by
  cases fl with
  | false => exact opA_notDefer hv
  | true =>
    rintro c rfl
    simp [opD] at hv

theorem opD_sound {fl : Bool} {P : Program} {G : Gh} {w : World} {A : Nat → Prop} {h : Heap} (S : SatH G w A h) {id : Nat} (hA : ¬ A id) {ρ : Operand → AV} {ρc : Operand → Value} (hρ : ∀ x, Rel G w A h (ρ x) (ρc x)) {o : Oper} {v : AV} {h' : Heap} {fr : Bool}
    (hv : opD fl P h id ρ o.op = some (v, h', fr)) {A' : Nat → Prop} (hA' : ∀ j, A' j ↔ A j ∨ (fr = true ∧ j = id)) : OpOk G w A h ((execOp ρc o).run P w) v A' h' := by
  cases fl with
  | false => exact opA_sound S hA hρ hv hA'
  | true =>
    unfold opD at hv
    cases hop : o.op with
    | buildSlice t len parts =>
      rw [hop] at hv
      simp only [Option.map_eq_some_iff, Prod.mk.injEq] at hv
      obtain ⟨v0, hv0, rfl, rfl, rfl⟩ := hv
      obtain ⟨sz, rows, rfl, hb, hn⟩ := frzA_spec hv0
      have e : A' = A := funext fun j => propext (by rw [hA']; simp)
      subst e
      have hopA : opA P h id ρ o.op = some (.own id 0 0, hc id (.arr 0 sz rows) h, true) := by rw [hop]; simp [opA, hb]
      obtain ⟨n, x, w', G', h1, h2, S', E', R'⟩ := opA_sound (o := o) S (A' := fun j => A' j ∨ j = id) hA hρ hopA (fun j => by simp)
      have hsub : ∀ j o, look j h = some o → look j (hc id (.arr 0 sz rows) h) = some o := fun j o hj => by
        have : ¬ id = j := fun e => hA (e ▸ (S.obj j o hj).1)
        simp [look_hc, this, hj]
      have S2 : SatH (G'.frz (hc id (.arr 0 sz rows) h) (fun k => k = id)) w' A' h := freezeHeap S' hsub (fun j o hj e => hA (e ▸ (S.obj j o hj).1)) (fun j o hj => (S.obj j o hj).1) (fun j o hj => (S.obj j o hj).2.refs)
      refine ⟨n, x, w', _, h1, h2, S2, ⟨E'.os, E'.tape, E'.output, E'.size, E'.frame, fun b hb => ?_, fun b hb => ?_, fun _ h => h, fun v x hv => Rel.restrict hv.refs (fun _ h => h) hsub ((E'.rel v x hv).frz _ _)⟩, ?_⟩
      · obtain ⟨i, o, a, hi, hloc, he⟩ := hb
        exact E'.prov b ⟨i, o, a, hsub i o hi, hloc, he⟩
      · rcases hb with hb | ⟨i, o, a, _, hl, hloc, he⟩
        · exact E'.zprov b hb
        · rcases E'.prov b ⟨i, o, a, hl, hloc, he⟩ with h3 | h3
          · exact .inr (.inl h3)
          · exact .inr (.inr h3)
      · exact freezeVal S' (fun j hj hne => hj.resolve_right hne) hsub (.own (L := rows) rfl (by simp [look_hc]) hn rfl) R'
    | _ => rw [hop] at hv; simp at hv

theorem opD_eff {fl : Bool} {P : Program} {h : Heap} {id : Nat} {ρ : Operand → AV} {op : Op} {v : AV} {h' : Heap} {fr : Bool} (hv : opD fl P h id ρ op = some (v, h', fr)) :
    ∃ e, h' = Eff.app e h ∧ (∀ i o, e = .new i o → i = id) ∧ (∀ k o, e = .set k o → opWr op = true ∧ (∃ x ∈ op.operands, topId (ρ x) = some k)) ∧
      ∀ h2, ((opRd op || opWr op) = true → ∀ x ∈ op.operands, SameAt h h2 (ρ x)) → opD fl P h2 id ρ op = some (v, e.app h2, fr) := by
  cases fl with
  | false =>
    obtain ⟨e, he⟩ := opA_eff hv
    exact ⟨e, he.app, he.new, fun k o hk => ⟨(he.set k o hk).1, (he.set k o hk).2.1⟩, he.loc⟩
  | true =>
    unfold opD at hv
    cases op with
    | buildSlice t len parts =>
      simp only [Option.map_eq_some_iff, Prod.mk.injEq] at hv
      obtain ⟨v0, hv0, rfl, rfl, rfl⟩ := hv
      exact ⟨.none, rfl, fun _ _ e => (by cases e), fun _ _ e => (by cases e), fun h2 _ => by simp [opD, hv0, Eff.app]⟩
    | _ => simp at hv

theorem opD_congr {fl : Bool} {P : Program} {h : Heap} {id : Nat} {ρ ρ' : Operand → AV} {op : Op} (hρ : ∀ x ∈ op.operands, ρ' x = ρ x) : opD fl P h id ρ' op = opD fl P h id ρ op := by
  cases fl with
  | false => exact opA_congr hρ
  | true =>
    cases op with
    | buildSlice t n parts =>
      have : (parts.toList.map fun p => (p.1, ρ' p.2)) = parts.toList.map fun p => (p.1, ρ p.2) := List.map_congr_left fun p hp => by rw [hρ p.2 (by simp only [Op.operands, List.mem_toArray, List.mem_map]; exact ⟨p, hp, rfl⟩)]
      simp only [opD, this]
    | _ => rfl

def Out (C : Ctx) (all : Array Oper) (id : Nat) (fl : Bool) (o : Oper) (σ σ' : AS) : Prop :=
  ∃ t : Bool, GuardT all σ o t ∧ ((t = false ∧ σ' = σ.put o.dst .any) ∨ (t = true ∧ match callOf o.op with
    | some (f, args) => ∃ r, PureCall C.P σ.heap (σ.ev f) (args.map σ.ev) r ∧ σ' = σ.put o.dst r
    | none => nilCmp C.P o.op = none ∧ ∃ r, opD fl C.P σ.heap id σ.ev o.op = some r ∧ σ' = { (σ.put o.dst r.1) with heap := r.2.1 }))

theorem xd_out {C : Ctx} {all : Array Oper} {L : Loc} {base i : Nat} {o : Oper} {rest : List Oper} {σ : AS} {K : AS → Prop} (h : XD C all L base i (o :: rest) σ K) : ∃ σ', (locOk L.cl (L.loc.getD i 0) o σ ∧ Out C all (base + i) (L.frz.getD i false) o σ σ') ∧ XD C all L base (i + 1) rest σ' K := by
  unfold XD at h
  obtain ⟨hloc, t, hg, h1, h2⟩ := h
  cases t with
  | false => exact ⟨_, ⟨hloc, ⟨false, hg, .inl ⟨rfl, rfl⟩⟩⟩, h1 rfl⟩
  | true =>
    have h3 := h2 rfl
    cases hc : callOf o.op with
    | none =>
      simp only [hc] at h3
      obtain ⟨h4, r, h5, h6⟩ := h3
      exact ⟨_, ⟨hloc, ⟨true, hg, .inr ⟨rfl, by simp only [hc]; exact ⟨h4, r, h5, rfl⟩⟩⟩⟩, h6⟩
    | some fa =>
      obtain ⟨f, args⟩ := fa
      simp only [hc] at h3
      obtain ⟨r, h4, h6⟩ := h3
      exact ⟨_, ⟨hloc, ⟨true, hg, .inr ⟨rfl, by simp only [hc]; exact ⟨r, h4, rfl⟩⟩⟩⟩, h6⟩

theorem callOf_spec {op : Op} {f : Operand} {args : List Operand} (h : callOf op = some (f, args)) : ∃ args' tys, op = .call { callee := .value f, args := args', argTypes := tys } ∧ args = args'.toList := by
  unfold callOf at h
  split at h
  · rename_i f' a' t' heq
    cases h
    exact ⟨_, _, rfl, rfl⟩
  · cases h

section
variable {C : Ctx} {O : Orig} {l : Option Nat} {all : Array Oper}

theorem guard_sound {G : Gh} {A : Nat → Prop} {σ : AS} {a : Act} {w : World} (k : OkA C O l G A σ a w) (hall : all.toList.all (opOk C.nt) = true) {o : Oper} {t : Bool} (hg : GuardT all σ o t) : Region.wanted o (yielded all a.tmps) = t := by
  unfold Region.wanted
  unfold GuardT at hg
  cases hgd : o.guard with
  | none => rw [hgd] at hg; exact hg.symm
  | some jw =>
    obtain ⟨j, want⟩ := jw
    rw [hgd] at hg
    obtain ⟨b, hb, ht⟩ := hg
    simp only
    rw [gv_sound k hall hb, ht]
    cases b <;> cases want <;> rfl

/-- A state that some machine is in. -/
def Real (C : Ctx) (A : Nat → Prop) (σ : AS) : Prop := ∃ O l G a w, OkA C O l G A σ a w

theorem Real.reach {A : Nat → Prop} {σ : AS} (r : Real C A σ) (x : Operand) {k : Nat} (ht : Reach σ.heap (σ.ev x) k) : A k := by
  obtain ⟨O, l, G, a, w, ok⟩ := r
  exact ht A (ok.ev x).refs fun j o _ hl => (ok.sat.obj j o hl).2.refs

theorem Real.refs {A : Nat → Prop} {σ : AS} (r : Real C A σ) (x : Operand) {k : Nat} (ht : topId (σ.ev x) = some k) : A k := by
  obtain ⟨O, l, G, a, w, ok⟩ := r
  exact (ok.ev x).refs.top ht

theorem Out.sound {fl : Bool} {G : Gh} {A A' : Nat → Prop} {σ σ' : AS} {a : Act} {w : World} (k : OkA C O l G A σ a w) (hall : all.toList.all (opOk C.nt) = true) {o : Oper} (hok : opOk C.nt o = true) {id : Nat} (hA : ¬ A id)
    (hA' : ∀ j, A' j ↔ A j ∨ j = id) {m : Nat} (hm : ∀ j, A j → j < m) (h : Out C all id fl o σ σ') {K : Act → World → Prop} {Q' : Exit → Act → World → Prop} (hK : ∀ a' w' G', OkA C O l G' A' σ' a' w' → K a' w') :
    if Region.wanted o (yielded all a.tmps) then o.wpIn (Fw l) 0 C.P a w K Q' else (∀ f, o.about C.P w a.eval = some f → (Fw l).fn f) ∧ K (a.put o.dst undef) w := by
  obtain ⟨t, hg, h⟩ := h
  rw [guard_sound k hall hg]
  have hsub : ∀ j, A j → A' j := fun j hj => (hA' j).2 (.inl hj)
  rcases h with ⟨rfl, rfl⟩ | ⟨rfl, h⟩
  · simp only [Bool.false_eq_true, if_false]
    exact ⟨fun _ _ => trivial, hK _ _ G ((k.put (opOk_dst hok) (.any ..)).wide hsub)⟩
  · simp only [if_true]
    refine ⟨fun _ _ => trivial, ?_⟩
    cases hc : callOf o.op with
    | some fa =>
      obtain ⟨f, args⟩ := fa
      simp only [hc] at h
      obtain ⟨r, hp, rfl⟩ := h
      obtain ⟨args', tys, ho, rfl⟩ := callOf_spec hc
      have hsem : o.semAt (Fw l).round a.eval = execOp a.eval o := Oper.semAt_eq _ _ _ (fun c => by rw [ho]; simp)
      have hcall := k.pureCall hp hm (opOk_dst hok)
      have harr : (args'.toList.map a.eval).toArray = args'.map a.eval := by apply Array.ext'; simp
      rw [harr] at hcall
      have hexec : (execOp a.eval o).run C.P w = (do let d ← Deferred.ofValue (a.eval f) (args'.map a.eval); invoke d.target d.args : Sem Next).run C.P w := by
        simp only [execOp, ho]
        exact run_call
      have fin : ∀ (e : Ending) (w' : World), (∃ x G', e = .returned x ∧ OkA C O l G' A (σ.put o.dst r) (a.put o.dst x) w') → (match e, w' with
          | .returned v, w' => K (a.put o.dst v) w'
          | .panicked chain, w' => Q' (.panic chain) a w'
          | .outgrown, _ => LetsOut Q') := by
        intro e w' hl
        obtain ⟨x, G', rfl, k'⟩ := hl
        exact hK _ _ G' (k'.wide hsub)
      rw [hsem, hexec]
      rcases hcall with ⟨g, as, h1, h2⟩ | ⟨l', g, tmps, as, body, h1, h2⟩
      · rw [h1]
        refine ⟨fun hd => by simp [Fw, Fence.wide] at hd, ?_⟩
        have h3 := callsIn_wide (n := 0) |>.2 h2
        exact CallsIn.mono (F := Fw l) h3 (fun e w' hl => fin e w' hl)
      · rw [h1]
        refine ⟨fun hd => by simp [Fw, Fence.wide] at hd, ?_⟩
        exact RoundIn.mono (F := Fw l) h2 (fun e w' hl => fin e w' hl)
    | none =>
      simp only [hc] at h
      obtain ⟨_, ⟨v, h', fr⟩, hop, rfl⟩ := h
      have hsem : o.semAt (Fw l).round a.eval = execOp a.eval o := Oper.semAt_eq _ _ _ (opD_notDefer hop)
      obtain ⟨n, x, w', G', h1, h2, S', E', R'⟩ := opD_sound k.sat (A' := fun j => A j ∨ (fr = true ∧ j = id)) hA k.ev hop (fun _ => Iff.rfl)
      have hsub2 : ∀ j, (A j ∨ (fr = true ∧ j = id)) → A' j := fun j hj => (hA' j).2 (hj.imp (fun h => h) fun h => h.2)
      have k' := (k.step (opOk_dst hok) S' E' R' σ.next).wide hsub2
      have e : { (σ.put o.dst v) with heap := h', next := σ.next } = ({ (σ.put o.dst v) with heap := h' } : AS) := by cases o.dst <;> rfl
      rw [e] at k'
      rw [hsem, h1]
      rcases h2 with rfl | ⟨rfl, rfl⟩
      · exact hK _ _ G' k'
      · exact hK _ _ G' k'

theorem Out.real {fl : Bool} {A A' : Nat → Prop} {σ σ' : AS} (hr : Real C A σ) {o : Oper} (hok : opOk C.nt o = true) {id : Nat} (hA : ¬ A id)
    (hA' : ∀ j, A' j ↔ A j ∨ j = id) {m : Nat} (hm : ∀ j, A j → j < m) (h : Out C all id fl o σ σ') : Real C A' σ' := by
  obtain ⟨O, l, G, a, w, k⟩ := hr
  obtain ⟨t, hg, h⟩ := h
  have hsub : ∀ j, A j → A' j := fun j hj => (hA' j).2 (.inl hj)
  rcases h with ⟨rfl, rfl⟩ | ⟨rfl, h⟩
  · exact ⟨O, l, G, _, w, (k.put (x := undef) (opOk_dst hok) (.any ..)).wide hsub⟩
  · cases hc : callOf o.op with
    | some fa =>
      obtain ⟨f, args⟩ := fa
      simp only [hc] at h
      obtain ⟨r, hp, rfl⟩ := h
      obtain ⟨e, w', x, G', _, k'⟩ := (k.pureCall hp hm (opOk_dst hok)).ends
      exact ⟨O, l, G', _, w', k'.wide hsub⟩
    | none =>
      simp only [hc] at h
      obtain ⟨_, ⟨v, h', fr⟩, hop, rfl⟩ := h
      obtain ⟨n, x, w', G', h1, h2, S', E', R'⟩ := opD_sound (o := o) k.sat (A' := fun j => A j ∨ (fr = true ∧ j = id)) hA k.ev hop (fun _ => Iff.rfl)
      have hsub2 : ∀ j, (A j ∨ (fr = true ∧ j = id)) → A' j := fun j hj => (hA' j).2 (hj.imp (fun h => h) fun h => h.2)
      have k' := (k.step (opOk_dst hok) S' E' R' σ.next).wide hsub2
      have e : { (σ.put o.dst v) with heap := h', next := σ.next } = ({ (σ.put o.dst v) with heap := h' } : AS) := by cases o.dst <;> rfl
      rw [e] at k'
      exact ⟨O, l, G', _, w', k'⟩

/-! ### Two operations, the other way round -/

/-- The objects on which an operation leans by an operand. -/
def Leads (o : Oper) (σ : AS) (x : Operand) (k : Nat) : Prop := (callOf o.op = none ∧ topId (σ.ev x) = some k) ∨ (callOf o.op ≠ none ∧ Reach σ.heap (σ.ev x) k)

theorem Leads.reach {o : Oper} {σ : AS} {x : Operand} {k : Nat} (h : Leads o σ x k) : Reach σ.heap (σ.ev x) k := by
  rcases h with h | h
  · exact fun A hA _ => hA.top h.2
  · exact h.2

theorem Out.eff {fl : Bool} {id : Nat} {o : Oper} {σ σ' : AS} (h : Out C all id fl o σ σ') : ∃ v e, σ' = { (σ.put o.dst v) with heap := Eff.app e σ.heap } ∧ (∀ i ob, e = .new i ob → i = id) ∧
    (∀ k ob, e = .set k ob → opWr o.op = true ∧ (∃ x ∈ o.op.operands, topId (σ.ev x) = some k)) ∧
    ∀ σ2 : AS, (∀ x ∈ o.op.operands, σ2.ev x = σ.ev x) → (∀ t, GuardT all σ o t → GuardT all σ2 o t) → ((opRd o.op || opWr o.op) = true → ∀ x ∈ o.op.operands, ∀ k, Leads o σ x k → look k σ2.heap = look k σ.heap) →
      Out C all id fl o σ2 { (σ2.put o.dst v) with heap := Eff.app e σ2.heap } := by
  have eta : ∀ (σ : AS) (v : AV), ({ (σ.put o.dst v) with heap := σ.heap } : AS) = σ.put o.dst v := fun σ v => by cases o.dst <;> rfl
  obtain ⟨t, hg, h⟩ := h
  rcases h with ⟨rfl, rfl⟩ | ⟨rfl, h⟩
  · refine ⟨.any, .none, (eta σ _).symm, fun _ _ e => (by cases e), fun _ _ e => (by cases e), fun σ2 hx hg2 _ => ⟨false, hg2 _ hg, .inl ⟨rfl, eta σ2 _⟩⟩⟩
  · cases hc : callOf o.op with
    | some fa =>
      obtain ⟨f, args⟩ := fa
      simp only [hc] at h
      obtain ⟨r, hp, rfl⟩ := h
      refine ⟨r, .none, (eta σ _).symm, fun _ _ e => (by cases e), fun _ _ e => (by cases e), fun σ2 hx hg2 hs => ⟨true, hg2 _ hg, .inr ⟨rfl, ?_⟩⟩⟩
      simp only [hc]
      obtain ⟨args', tys, ho, rfl⟩ := callOf_spec hc
      have hs' := hs (by rw [ho]; rfl)
      have e1 : σ2.ev f = σ.ev f := hx f (by rw [ho]; simp [Op.operands, Call.operands])
      have e2 : args'.toList.map σ2.ev = args'.toList.map σ.ev := List.map_congr_left fun y hy => hx y (by rw [ho]; simp [Op.operands, Call.operands, hy, Array.mem_toList_iff.1 hy])
      refine ⟨r, ⟨hp.1, fun h' nx K' hh => ?_⟩, eta σ2 _⟩
      rw [e1, e2]
      refine hp.2 h' nx K' fun k hk => ?_
      have tr : ∀ x ∈ o.op.operands, Reach σ.heap (σ.ev x) k → Reach σ2.heap (σ.ev x) k ∧ look k σ2.heap = look k σ.heap := fun x hx hr => by
        refine ⟨fun A hA hcl => ?_, hs' x hx k (.inr ⟨by simp [hc], hr⟩)⟩
        have := hr (fun j => A j ∧ Reach σ.heap (σ.ev x) j) (Refs.both hA (Refs.reach σ.heap (σ.ev x))) fun j ob hj hl => ?_
        · exact this.1
        · have h2 := hs' x hx j (.inr ⟨by simp [hc], hj.2⟩)
          exact ORefs.both (hcl j ob hj.1 (by rw [h2]; exact hl)) (ORefs.reach hj.2 hl)
      rcases hk with hk | ⟨a, ha, hk⟩
      · have h3 := tr f (by rw [ho]; simp [Op.operands, Call.operands]) hk
        rw [hh k (.inl (by rw [e1]; exact h3.1)), h3.2]
      · obtain ⟨y, hy, rfl⟩ := List.mem_map.1 ha
        have h3 := tr y (by rw [ho]; simp [Op.operands, Call.operands, Array.mem_toList_iff.1 hy]) hk
        rw [hh k (.inr ⟨_, List.mem_map.2 ⟨y, hy, rfl⟩, by rw [hx y (by rw [ho]; simp [Op.operands, Call.operands, Array.mem_toList_iff.1 hy])]; exact h3.1⟩), h3.2]
    | none =>
      simp only [hc] at h
      obtain ⟨hnil, ⟨v, h', fr⟩, hop, rfl⟩ := h
      obtain ⟨e, he1, he2, he3, he4⟩ := opD_eff hop
      refine ⟨v, e, by rw [← he1], he2, he3, fun σ2 hx hg2 hs => ⟨true, hg2 _ hg, .inr ⟨rfl, ?_⟩⟩⟩
      simp only [hc]
      refine ⟨hnil, (v, e.app σ2.heap, fr), ?_, rfl⟩
      rw [opD_congr (ρ := σ.ev) hx]
      exact he4 σ2.heap fun hrw x hxm k hk => hs hrw x hxm k (.inl ⟨hc, hk⟩)

theorem hc_comm {α : Type} {i j : Nat} (hij : i ≠ j) (x y : α) (h : Tab α) : hc i x (hc j y h) = hc j y (hc i x h) := by
  funext k
  change look k (hc i x (hc j y h)) = look k (hc j y (hc i x h))
  simp only [look_hc]
  by_cases h1 : i = k
  · subst h1; simp [Ne.symm hij]
  · simp [h1]

theorem hc_upd {α : Type} {i k : Nat} (hik : k ≠ i) (x y : α) (h : Tab α) : hc i x (upd k y h) = upd k y (hc i x h) := by
  funext j
  change look j (hc i x (upd k y h)) = look j (upd k y (hc i x h))
  simp only [look_hc, look_upd]
  by_cases h1 : i = j
  · subst h1; simp [Ne.symm hik]
  · by_cases h2 : j = k
    · subst h2; simp [h1]
    · simp [h1, h2]

theorem ev_put_ne {σ : AS} {d : Option Tmp} {v : AV} {h : Heap} {x : Operand} (hx : ∀ t, d = some t → x ≠ .tmp t) : ({ (σ.put d v) with heap := h } : AS).ev x = σ.ev x := by
  cases d with
  | none => cases x <;> rfl
  | some t =>
    cases x with
    | tmp u =>
      have : t ≠ u := fun e => hx t rfl (by rw [e])
      simp [AS.ev, AS.put, look_hc, this]
    | _ => rfl

theorem guard_put {σ : AS} {d : Option Tmp} {v : AV} {h : Heap} {o : Oper} (hd : ∀ t, d = some t → t ∉ o.looksAt all) (t : Bool) : GuardT all ({ (σ.put d v) with heap := h } : AS) o t ↔ GuardT all σ o t := by
  unfold GuardT
  cases hg : o.guard with
  | none => exact Iff.rfl
  | some jw =>
    obtain ⟨j, want⟩ := jw
    have : gv all ({ (σ.put d v) with heap := h } : AS) j = gv all σ j := by
      unfold gv
      cases hb : (all[j]?).bind (·.dst) with
      | none => rfl
      | some u =>
        refine ev_put_ne fun t ht e => ?_
        cases e
        refine hd _ ht ?_
        unfold Oper.looksAt
        simp [hg, hb]
    simp only [this]

theorem not_looks {o : Oper} {d : Tmp} (h : d ∉ o.looksAt all) {x : Operand} (hx : x ∈ o.op.operands) : x ≠ .tmp d := by
  intro e
  subst e
  refine h (List.mem_append_left _ (List.mem_filterMap.2 ⟨.tmp d, by simpa using hx, rfl⟩))

theorem look_upd_ne {α : Type} {i j : Nat} {x : α} {h : Tab α} (hn : i ≠ j) : look j (upd i x h) = look j h := by
  simp only [look_upd]
  exact if_neg (Ne.symm hn)

theorem upd_comm {α : Type} {i k : Nat} (hik : i ≠ k) (x y : α) (h : Tab α) : upd i x (upd k y h) = upd k y (upd i x h) := by
  funext j
  change look j (upd i x (upd k y h)) = look j (upd k y (upd i x h))
  simp only [look_upd]
  by_cases h1 : j = i
  · subst h1; simp [hik]
  · by_cases h2 : j = k
    · subst h2; simp [h1]
    · simp [h1, h2]

theorem Out.swap {fi fj : Bool} {A : Nat → Prop} {σ σi σij : AS} (hr : Real C A σ) {i j : Nat} (hij : i ≠ j) (hi : ¬ A i) (hj : ¬ A j) {oi oj : Oper} (hap : oi.apart all oj = true) (hcl : clash oi.op oj.op = false ∨ ∃ cl : Nat → Nat, ∃ ci cj : Nat, ci ≠ cj ∧ callOf oi.op = none ∧ callOf oj.op = none ∧ (∀ x ∈ oi.op.operands, topOk cl ci (σ.ev x)) ∧ ∀ x ∈ oj.op.operands, topOk cl cj (σi.ev x))
    (h1 : Out C all i fi oi σ σi) (h2 : Out C all j fj oj σi σij) : ∃ σj, Out C all j fj oj σ σj ∧ Out C all i fi oi σj σij := by
  obtain ⟨ap1, ap2, ap3⟩ := Oper.apart_spec hap
  obtain ⟨vi, ei, rfl, newi, seti, stabi⟩ := h1.eff
  obtain ⟨vj, ej, rfl, newj, setj, stabj⟩ := h2.eff
  have evj : ∀ x ∈ oj.op.operands, ({ (σ.put oi.dst vi) with heap := ei.app σ.heap } : AS).ev x = σ.ev x := fun x hx => ev_put_ne fun t ht => not_looks (ap1 t ht) hx
  have cl1 : ∀ k ob, ei = .set k ob → (opRd oj.op || opWr oj.op) = true → ∀ x ∈ oj.op.operands, ∀ k2, Leads oj { (σ.put oi.dst vi) with heap := ei.app σ.heap } x k2 → k ≠ k2 := fun k ob he hrw x hx k2 hl => by
    obtain ⟨hw, y, hy, hk⟩ := seti k ob he
    rcases hcl with hcl | ⟨cl, ci, cj, hne, hn1, hn2, hi2, hj2⟩
    · unfold clash at hcl
      simp only [hw, hrw, Bool.true_and, Bool.true_or] at hcl
      cases hcl
    · rcases hl with hl | hl
      · intro e
        subst e
        exact hne ((hi2 y hy k hk).symm.trans (hj2 x hx k hl.2))
      · exact absurd hn2 hl.1
  have cl2 : ∀ k ob, ej = .set k ob → (opRd oi.op || opWr oi.op) = true → ∀ x ∈ oi.op.operands, ∀ k2, Leads oi σ x k2 → k ≠ k2 := fun k ob he hrw x hx k2 hl => by
    obtain ⟨hw, y, hy, hk⟩ := setj k ob he
    rcases hcl with hcl | ⟨cl, ci, cj, hne, hn1, hn2, hi2, hj2⟩
    · unfold clash at hcl
      simp only [hw, hrw, Bool.true_and, Bool.or_true] at hcl
      cases hcl
    · rcases hl with hl | hl
      · intro e
        subst e
        exact hne ((hi2 x hx k hl.2).symm.trans (hj2 y hy k hk))
      · exact absurd hn1 hl.1
  have oj' := stabj σ (fun x hx => (evj x hx).symm) (fun t ht => (guard_put ap1 t).1 ht) (fun hrw x hx k hk0 => by
    have hk := hk0.reach
    rw [evj x hx] at hk
    have hset : ∀ n ob, ei = .set n ob → n ≠ k := fun n ob he => cl1 n ob he hrw x hx k hk0
    by_cases hes : ∃ n ob, ei = .set n ob
    · obtain ⟨n, ob, he⟩ := hes
      simp only [he, Eff.app]
      exact (look_upd_ne (hset n ob he)).symm
    have hAk : A k := by
      obtain ⟨O, l, G, a, w, ok⟩ := hr
      refine hk A (ok.ev x).refs fun j' o' hj' hl' => ?_
      simp only at hl'
      cases he : ei with
      | none => rw [he] at hl'; exact (ok.sat.obj j' o' hl').2.refs
      | new n ob =>
        rw [he] at hl'
        have := newi n ob he
        subst this
        simp only [Eff.app, look_hc] at hl'
        have : ¬ n = j' := fun e => hi (e ▸ hj')
        simp only [this, if_false] at hl'
        exact (ok.sat.obj j' o' hl').2.refs
      | set n ob => exact absurd ⟨n, ob, he⟩ hes
    simp only
    cases he : ei with
    | none => rfl
    | new n ob =>
      have := newi n ob he
      subst this
      simp only [Eff.app, look_hc]
      have : ¬ n = k := fun e => hi (e ▸ hAk)
      simp [this]
    | set n ob => exact absurd ⟨n, ob, he⟩ hes)
  refine ⟨_, oj', ?_⟩
  have evi : ∀ x ∈ oi.op.operands, ({ (σ.put oj.dst vj) with heap := ej.app σ.heap } : AS).ev x = σ.ev x := fun x hx => ev_put_ne fun t ht => not_looks (ap3 t ht) hx
  have oi' := stabi _ evi (fun t ht => (guard_put ap3 t).2 ht) (fun hrw x hx k hk0 => by
    have hk := hk0.reach
    have hAk := hr.reach x hk
    simp only
    cases he : ej with
    | none => rfl
    | new n ob =>
      have := newj n ob he
      subst this
      simp only [Eff.app, look_hc]
      have : ¬ n = k := fun e => hj (e ▸ hAk)
      simp [this]
    | set n ob => exact (look_upd_ne (cl2 n ob he hrw x hx k hk0)))
  have hheap : ei.app (ej.app σ.heap) = ej.app (ei.app σ.heap) := by
    cases he : ei with
    | none => rfl
    | new n ob =>
      have := newi n ob he
      subst this
      cases he2 : ej with
      | none => rfl
      | new n2 ob2 =>
        have := newj n2 ob2 he2
        subst this
        exact hc_comm hij _ _ _
      | set k ob2 =>
        obtain ⟨_, x, hx, hk⟩ := setj k ob2 he2
        rw [evj x hx] at hk
        have hAk := hr.refs x hk
        exact hc_upd (fun e => hi (by rw [← e]; exact hAk)) _ _ _
    | set k ob =>
      cases he2 : ej with
      | none => rfl
      | new n2 ob2 =>
        have := newj n2 ob2 he2
        subst this
        obtain ⟨_, x, hx, hk⟩ := seti k ob he
        have hAk := hr.refs x hk
        exact (hc_upd (fun e => hj (by rw [← e]; exact hAk)) _ _ _).symm
      | set k2 ob2 =>
        obtain ⟨hw2, x, hx, hk⟩ := setj k2 ob2 he2
        rcases hcl with hcl | ⟨cl, ci, cj, hne, hn1, hn2, hi2, hj2⟩
        · unfold clash at hcl
          simp [hw2, (seti k ob he).1] at hcl
        · obtain ⟨_, y, hy, hk'⟩ := seti k ob he
          have hkk : k ≠ k2 := fun e => by
            subst e
            exact hne ((hi2 y hy k hk').symm.trans (hj2 x hx k hk))
          exact upd_comm hkk _ _ _
  have hst : ({ (({ (σ.put oj.dst vj) with heap := ej.app σ.heap } : AS).put oi.dst vi) with heap := ei.app (ej.app σ.heap) } : AS) = { (({ (σ.put oi.dst vi) with heap := ei.app σ.heap } : AS).put oj.dst vj) with heap := ej.app (ei.app σ.heap) } := by
    rw [hheap]
    cases hdi : oi.dst with
    | none => cases oj.dst <;> rfl
    | some d =>
      cases hdj : oj.dst with
      | none => rfl
      | some d' =>
        have hne : d ≠ d' := fun e => ap2 d hdi (by rw [hdj, e])
        simp only [AS.put, hc_comm hne]
  rw [← hst]
  exact oi'

/-! ### Every order -/

def OutL (C : Ctx) (all : Array Oper) (L : Loc) (base i : Nat) (o : Oper) (σ σ' : AS) : Prop := locOk L.cl (L.loc.getD i 0) o σ ∧ Out C all (base + i) (L.frz.getD i false) o σ σ'

def AnyD (C : Ctx) (all : Array Oper) (L : Loc) (base : Nat) (K : AS → Prop) : Nat → Array Bool → AS → Prop
  | 0, listed, σ => Region.ready .any all listed = [] ∧ K σ
  | n + 1, listed, σ => (Region.ready .any all listed = [] → K σ) ∧ ∀ i ∈ Region.ready .any all listed, ∀ o, all[i]? = some o → ∃ σ', OutL C all L base i o σ σ' ∧ AnyD C all L base K n (listed.setIfInBounds i true) σ'

theorem farL_spec {loc : List Nat} {i j : Nat} (h : farL loc i j = true) : loc.getD i 0 ≠ 0 ∧ loc.getD j 0 ≠ 0 ∧ loc.getD i 0 ≠ loc.getD j 0 := by
  unfold farL at h
  simp only [Bool.and_eq_true, Bool.not_eq_true', beq_eq_false_iff_ne] at h
  exact ⟨h.1, h.2.1, h.2.2⟩

theorem locOk.congr {cl : Nat → Nat} {c : Nat} {o : Oper} {σ σ2 : AS} (h : locOk cl c o σ) (he : ∀ x ∈ o.op.operands, σ2.ev x = σ.ev x) : locOk cl c o σ2 := by
  rcases h with h | ⟨h1, h2⟩
  · exact .inl h
  · exact .inr ⟨h1, fun x hx => by rw [he x hx]; exact h2 x hx⟩

theorem Out.frame {fl : Bool} {id : Nat} {o p : Oper} {σ σ' : AS} (h : Out C all id fl o σ σ') (hd : ∀ t, o.dst = some t → t ∉ p.looksAt all) : ∀ x ∈ p.op.operands, σ'.ev x = σ.ev x := by
  obtain ⟨v, e, rfl, _⟩ := h.eff
  intro x hx
  exact ev_put_ne fun t ht => not_looks (hd t ht) hx

theorem OutL.swap {A : Nat → Prop} {L : Loc} {σ σi σij : AS} {base : Nat} (hr : Real C A σ) {i j : Nat} (hij : i ≠ j) (hi : ¬ A (base + i)) (hj : ¬ A (base + j)) {oi oj : Oper} (hap : oi.apart all oj = true) (hcl : clash oi.op oj.op = false ∨ farL L.loc i j = true)
    (h1 : OutL C all L base i oi σ σi) (h2 : OutL C all L base j oj σi σij) : ∃ σj, OutL C all L base j oj σ σj ∧ OutL C all L base i oi σj σij := by
  obtain ⟨ap1, ap2, ap3⟩ := Oper.apart_spec hap
  have e1 := h1.2.frame (p := oj) ap1
  have hcl' : clash oi.op oj.op = false ∨ ∃ cl : Nat → Nat, ∃ ci cj : Nat, ci ≠ cj ∧ callOf oi.op = none ∧ callOf oj.op = none ∧ (∀ x ∈ oi.op.operands, topOk cl ci (σ.ev x)) ∧ ∀ x ∈ oj.op.operands, topOk cl cj (σi.ev x) := by
    rcases hcl with h | h
    · exact .inl h
    · obtain ⟨n1, n2, n3⟩ := farL_spec h
      rcases h1.1 with h3 | h3
      · exact absurd h3 n1
      · rcases h2.1 with h4 | h4
        · exact absurd h4 n2
        · exact .inr ⟨L.cl, _, _, n3, h3.1, h4.1, h3.2, h4.2⟩
  obtain ⟨σj, g1, g2⟩ := Out.swap hr (by omega) hi hj hap hcl' h1.2 h2.2
  exact ⟨σj, ⟨h2.1.congr fun x hx => (e1 x hx).symm, g1⟩, ⟨h1.1.congr (g1.frame (p := oi) ap3), g2⟩⟩

/-- What is listed has all ahead of it listed. -/
def Down (all : Array Oper) (listed : Array Bool) : Prop := ∀ k o, all[k]? = some o → listed.getD k false = true → ∀ e ∈ o.after, Region.binds .any e = true → listed.getD e.on false = true

theorem Down.set {listed : Array Bool} {i : Nat} (d : Down all listed) (hi : i ∈ Region.ready .any all listed) : Down all (listed.setIfInBounds i true) := by
  intro k o hk hl e he hb
  refine getD_set_true ?_
  by_cases hik : i = k
  · subst hik
    obtain ⟨_, o', ho', h3⟩ := mem_ready.1 hi
    rw [hk] at ho'
    cases ho'
    exact h3 e he hb
  · rw [getD_set_ne false hik] at hl
    exact d k o hk hl e he hb

theorem Down.bef {listed : Array Bool} {i : Nat} (d : Down all listed) (hi : listed.getD i false = false) : ∀ (n j : Nat), (∀ o, all[j]? = some o → ∀ e ∈ o.after, Region.binds .any e = true → listed.getD e.on false = true) → bef all n i j = false
  | 0, _, _ => rfl
  | n + 1, j, h => by
    unfold Go.Abs.bef
    cases hj : all[j]? with
    | none => rfl
    | some oj =>
      simp only
      rw [Bool.eq_false_iff]
      intro hany
      obtain ⟨e, he, hb⟩ := Array.any_eq_true'.1 hany
      simp only [Bool.and_eq_true, Bool.or_eq_true, beq_iff_eq] at hb
      have h1 := h oj hj e he hb.1
      rcases hb.2 with hb2 | hb2
      · rw [hb2, hi] at h1; cases h1
      · rw [d.bef hi n e.on fun o ho e' he' hb' => d e.on o ho h1 e' he' hb'] at hb2
        cases hb2

theorem unlisted_false {listed : Array Bool} {i : Nat} (h : listed.getD i true = false) : listed.getD i false = false := by
  rcases Nat.lt_or_ge i listed.size with q | q
  · simpa [q] using h
  · simp [Array.getElem?_eq_none q]

/-- The numbers in use. -/
def live (base : Nat) (listed : Array Bool) : Nat → Prop := fun j => j < base ∨ ∃ i, listed.getD i false = true ∧ j = base + i

theorem live_set {base : Nat} {listed : Array Bool} {i : Nat} (hi : i < listed.size) (j : Nat) : live base (listed.setIfInBounds i true) j ↔ live base listed j ∨ j = base + i := by
  unfold live
  constructor
  · rintro (h | ⟨k, hk, rfl⟩)
    · exact .inl (.inl h)
    · by_cases e : i = k
      · subst e; exact .inr rfl
      · rw [getD_set_ne false e] at hk
        exact .inl (.inr ⟨k, hk, rfl⟩)
  · rintro ((h | ⟨k, hk, rfl⟩) | rfl)
    · exact .inl h
    · exact .inr ⟨k, getD_set_true hk, rfl⟩
    · exact .inr ⟨i, by simp [hi], rfl⟩

theorem live_lt {base : Nat} {listed : Array Bool} (j : Nat) (h : live base listed j) : j < base + listed.size := by
  rcases h with h | ⟨i, hi, rfl⟩
  · omega
  · rcases Nat.lt_or_ge i listed.size with q | q
    · omega
    · simp [Array.getElem?_eq_none q] at hi

theorem live_not {base : Nat} {listed : Array Bool} {i : Nat} (h : listed.getD i true = false) : ¬ live base listed (base + i) := by
  rintro (h1 | ⟨k, hk, e⟩)
  · omega
  · have : k = i := by omega
    subst this
    rcases Nat.lt_or_ge k listed.size with q | q
    · simp [q] at h hk
      rw [h] at hk
      cases hk
    · simp [Array.getElem?_eq_none q] at hk

theorem unlisted_lt {listed : Array Bool} {i : Nat} (h : listed.getD i true = false) : i < listed.size := by
  rcases Nat.lt_or_ge i listed.size with q | q
  · exact q
  · simp [Array.getElem?_eq_none q] at h

theorem AnyD_first {L : Loc} {base : Nat} {K : AS → Prop} {i : Nat} {oi : Oper} (hi : all[i]? = some oi) (hall : all.toList.all (opOk C.nt) = true) : ∀ (fuel : Nat) (listed : Array Bool) (σ σi : AS), Real C (live base listed) σ → Down all listed →
    (∀ j oj, all[j]? = some oj → j ≠ i → listed.getD j true = false → (∀ e ∈ oj.after, Region.binds .any e = true → e.on ≠ i) → bef all 4 i j = false → oi.apart all oj = true ∧ (clash oi.op oj.op = false ∨ farL L.loc i j = true)) →
    i ∈ Region.ready .any all listed → OutL C all L base i oi σ σi → AnyD C all L base K fuel (listed.setIfInBounds i true) σi → AnyD C all L base K (fuel + 1) listed σ := by
  intro fuel
  induction fuel with
  | zero =>
    intro listed σ σi hreal hdown hfree hr hy H
    refine ⟨fun h => (by rw [h] at hr; cases hr), fun j hj oj hoj => ?_⟩
    by_cases hji : j = i
    · subst hji
      rw [hi] at hoj
      cases hoj
      exact ⟨σi, hy, H⟩
    · have := ready_mono hj hji
      rw [H.1] at this
      cases this
  | succ fuel ih =>
    intro listed σ σi hreal hdown hfree hr hy H
    refine ⟨fun h => (by rw [h] at hr; cases hr), fun j hj oj hoj => ?_⟩
    by_cases hji : j = i
    · subst hji
      rw [hi] at hoj
      cases hoj
      exact ⟨σi, hy, H⟩
    · obtain ⟨σij, h1, h1'⟩ := H.2 j (ready_mono hj hji) oj hoj
      obtain ⟨hjun, oj', hoj', hallj⟩ := mem_ready.1 hj
      rw [hoj] at hoj'
      cases hoj'
      have hiun := (mem_ready.1 hr).1
      have hnot : ∀ e ∈ oj.after, Region.binds .any e = true → e.on ≠ i := fun e he hb heq => by
        have h1 := hallj e he hb
        rw [heq] at h1
        have := unlisted_lt hiun
        simp [this] at hiun h1
        rw [hiun] at h1
        cases h1
      obtain ⟨ha, hc⟩ := hfree j oj hoj hji hjun hnot (hdown.bef (unlisted_false hiun) 4 j fun o ho e he hb => by rw [hoj] at ho; cases ho; exact hallj e he hb)
      obtain ⟨σj, hj1, hj2⟩ := OutL.swap hreal (Ne.symm hji) (live_not hiun) (live_not hjun) ha hc hy h1
      have hokj : opOk C.nt oj = true := List.all_eq_true.1 hall oj (by rw [← Array.getElem?_toList] at hoj; exact List.mem_of_getElem? hoj)
      have hreal' : Real C (live base (listed.setIfInBounds j true)) σj := hj1.2.real hreal hokj (live_not hjun) (live_set (unlisted_lt hjun)) live_lt
      refine ⟨σj, hj1, ih (listed.setIfInBounds j true) σj σij hreal' (hdown.set hj) (fun k ok hk hki hun hno hbf => ?_) (ready_mono hr (Ne.symm hji)) hj2 ?_⟩
      · refine hfree k ok hk hki ?_ hno hbf
        by_cases hjk : j = k
        · subst hjk; exact hjun
        · rw [getD_set_ne true hjk] at hun; exact hun
      · rw [Array.setIfInBounds_comm _ _ hji]
        exact h1'

theorem AnyD_lex {L : Loc} {base : Nat} {K : AS → Prop} (hall : all.toList.all (opOk C.nt) = true)
    (hclash : ∀ i j oi oj, all[i]? = some oi → all[j]? = some oj → i ≠ j → bef all 4 i j = false → bef all 4 j i = false → clash oi.op oj.op = false ∨ farL L.loc i j = true) :
    ∀ (l : List Oper) (k : Nat) (listed : Array Bool) (σ : AS), (∀ j, l[j]? = all[k + j]?) → Region.lexFrom .any all l.length k listed = true → Real C (live base listed) σ → Down all listed → XD C all L base k l σ K → AnyD C all L base K l.length listed σ
  | [], _, _, _, _, hB, _, _, h => ⟨by simpa [Region.lexFrom] using hB, h⟩
  | o :: l, k, listed, σ, hl, hB, hreal, hdown, h => by
    have h0 : all[k]? = some o := by simpa using (hl 0).symm
    simp only [List.length_cons, Region.lexFrom, Bool.and_eq_true] at hB
    obtain ⟨⟨hr, hf⟩, hB'⟩ := hB
    obtain ⟨σ', ho, hx⟩ := xd_out h
    have hr' : k ∈ Region.ready .any all listed := by simpa using hr
    obtain ⟨hkun, o', ho', hallk⟩ := mem_ready.1 hr'
    rw [h0] at ho'
    cases ho'
    have hok : opOk C.nt o = true := List.all_eq_true.1 hall o (by rw [← Array.getElem?_toList] at h0; exact List.mem_of_getElem? h0)
    have hreal' := ho.2.real hreal hok (live_not hkun) (live_set (unlisted_lt hkun)) live_lt
    refine AnyD_first h0 hall l.length listed σ σ' hreal hdown (fun j oj hj hne hun hno hbf => ⟨Region.free_spec h0 hf j oj hj hne hun hno, hclash k j o oj h0 hj (Ne.symm hne) hbf (hdown.bef (unlisted_false hun) 4 k fun o2 ho2 e he hb => ?_)⟩) hr' ho
      (AnyD_lex hall hclash l (k + 1) _ _ (fun j => by have := hl (j + 1); simpa [Nat.add_assoc, Nat.add_comm 1 j] using this) hB' hreal' (hdown.set hr') hx)
    rw [h0] at ho2
    cases ho2
    exact hallk e he hb

theorem AnyD_sound (hall : all.toList.all (opOk C.nt) = true) {L : Loc} {base : Nat} {K : AS → Prop} {Q : Exit → Act → World → Prop} {m : Nat} (hQ : ∀ σ G A a w, (∀ j, A j → j < base + m) → K σ → OkA C O l G A σ a w → Q .normal a w) :
    ∀ (fuel : Nat) (listed : Array Bool) (σ : AS) (G : Gh) (a : Act) (w : World), listed.size = m → OkA C O l G (live base listed) σ a w → AnyD C all L base K fuel listed σ → wpAnyIn (Fw l) 0 C.P .any all Q fuel listed a w
  | 0, listed, σ, G, a, w, hm, k, h => ⟨h.1, hQ σ G _ a w (fun j hj => by rw [← hm]; exact live_lt j hj) h.2 k⟩
  | fuel + 1, listed, σ, G, a, w, hm, k, h => by
    refine ⟨fun h0 => hQ σ G _ a w (fun j hj => by rw [← hm]; exact live_lt j hj) (h.1 h0) k, fun i hi => ?_⟩
    obtain ⟨hiun, o, ho, _⟩ := mem_ready.1 hi
    obtain ⟨σ', h1, h2⟩ := h.2 i hi o ho
    have hok : opOk C.nt o = true := List.all_eq_true.1 hall o (by rw [← Array.getElem?_toList] at ho; exact List.mem_of_getElem? ho)
    unfold wpOpIn
    simp only [ho]
    exact h1.2.sound k hall hok (live_not hiun) (live_set (unlisted_lt hiun)) live_lt fun a' w' G' k' =>
      AnyD_sound hall hQ fuel _ σ' G' a' w' (by simpa using hm) k' h2

/-- A region whose order is open. -/
theorem draw_sound (hm : C.P.follows .mixedOrders = true) (hall : all.toList.all (opOk C.nt) = true) {L : Loc} (hd : drawOk L.loc all = true) {σ : AS} {G : Gh} {a : Act} {w : World} (k : Ok C O l G σ a w) {K : AS → Prop} {id : Nat} {Q : Exit → Act → World → Prop}
    (hx : XD C all L σ.next 0 all.toList σ K) (hQ : ∀ σ' G' A a' w', (∀ j, A j → j < σ.next + all.size) → K σ' → OkA C O l G' A σ' a' w' → Q .normal a' w') : (Code.region id all true).wpIn (Fw l) 0 C.P Q a w := by
  unfold drawOk at hd
  rw [Bool.and_eq_true] at hd
  obtain ⟨hlex, hcl⟩ := hd
  simp only [Region.lexB, Bool.and_eq_true] at hlex
  refine wpIn_region_any hm ?_
  have hlive : ∀ j, live σ.next (Array.replicate all.size false) j ↔ j < σ.next := fun j => by
    unfold live
    constructor
    · rintro (h | ⟨i, hi, _⟩)
      · exact h
      · by_cases e : i < all.size
        · simp [e] at hi
        · simp [e] at hi
    · exact .inl
  obtain ⟨S', E'⟩ := sat_same (w' := { w with drawn := w.drawn + 1 }) k.sat rfl rfl rfl rfl
  have k1 : OkA C O l G (below σ.next) σ a { w with drawn := w.drawn + 1 } := by
    refine ⟨S', fun t v ht => E'.rel _ _ (k.tmps t v ht), k.size, ?_, k.evo.trans E', fun r hr => ?_, k.nornd⟩
    · obtain ⟨bs, h1, h2, h3⟩ := k.defers
      exact ⟨bs, h1, h2, fun j id b hj hb => E'.rel _ _ (h3 j id b hj hb)⟩
    · obtain ⟨l0, h1, h2⟩ := k.rnd r hr
      exact ⟨l0, h1, E'.rel _ _ h2⟩
  have k2 : OkA C O l G (live σ.next (Array.replicate all.size false)) σ a { w with drawn := w.drawn + 1 } := k1.wide fun j hj => (hlive j).2 hj
  refine AnyD_sound (L := L) hall (m := all.size) hQ _ _ σ G _ _ (by simp) k2 ?_
  have := AnyD_lex (C := C) (L := L) (base := σ.next) (K := K) hall (fun i j oi oj hi hj hne h1 h2 => ?_) all.toList 0 (Array.replicate all.size false) σ (by simp) (by simpa using hlex.2) ⟨_, _, _, _, _, k2⟩ (fun k o _ hl => ?_) hx
  · simpa using this
  · have hil := (Array.getElem?_eq_some_iff.1 hi).1
    have hjl := (Array.getElem?_eq_some_iff.1 hj).1
    have h3 := List.all_eq_true.1 hcl i (List.mem_range.2 hil)
    have h4 := List.all_eq_true.1 h3 j (List.mem_range.2 hjl)
    simp only [hi, hj, Bool.or_eq_true, beq_iff_eq, Bool.not_eq_true'] at h4
    rcases h4 with (((h4 | h4) | h4) | h4) | h4
    · exact absurd h4 hne
    · exact .inl h4
    · rw [h1] at h4; cases h4
    · rw [h2] at h4; cases h4
    · exact .inr h4
  · exfalso
    by_cases e : k < all.size
    · simp [e] at hl
    · simp [e] at hl
end
end Go.Abs
