/- The abstract layer, part X: own arrays lent to a call that only reads; own arrays frozen for good. -/
import Derived.Test.YtlmkmmkhfkdagaaAbsW
set_option linter.unusedVariables false
set_option linter.unusedSimpArgs false
namespace Go.Abs
open Go.RowKit

section
variable {P : Program}

theorem FzL.rels {G : Gh} {w : World} {A A' : Nat → Prop} {h h' : Heap} {p : Nat → Prop} (S : SatH G w A h) (hA' : ∀ j, A j → ¬ p j → A' j) (hsub : ∀ j o, look j h' = some o → look j h = some o) {cs ds : List AV} (f : FzL p h cs ds) {vs : List Value} (r : Rels G w A h cs vs) : Rels (G.frz h p) w A' h' ds vs := by
  refine ⟨by rw [← f.1]; exact r.1, fun j d hj => ?_⟩
  have hl : j < cs.length := by rw [f.1]; exact (List.getElem?_eq_some_iff.1 hj).1
  have hc : cs[j]? = some cs[j] := List.getElem?_eq_getElem hl
  exact freezeVal S hA' hsub (f.2 j _ d hc hj) (r.2 j _ hc)

/-- A box of plain values. -/
def plainBox (o : AObj) : Prop := ∃ vs : List Value, o = .box (vs.map .sc)

/-- Own arrays are lent: the call reads them as frozen ones, and tells a plain value. What it may look at: boxes of plain values. -/
theorem ACallV.borrow {fv fv' : AV} {args args' : List AV} {h h1 : Heap} {nx : Nat} {K : AV → Heap → Nat → Prop} {r : Value} (p : Nat → Prop)
    (h1s : ∀ j o, look j h1 = some o → look j h = some o) (h1R : ∀ j o, look j h1 = some o → ¬ p j ∧ plainBox o)
    (hf : Fz p h fv fv') (ha : FzL p h args args')
    (hc : ∀ K', K' (.sc r) h1 nx → ACallV P fv' args' h1 nx K') (hk : K (.sc r) h nx) : ACallV P fv args h nx K := by
  intro G w x vs S rf rs
  have S1 : SatH (G.frz h p) w (below nx) h1 := freezeHeap S h1s (fun j o hj => (h1R j o hj).1) (fun j o hj => (S.obj j o (h1s j o hj)).1) (fun j o hj => by
    obtain ⟨_, us, rfl⟩ := h1R j o hj
    intro c hc
    obtain ⟨u, _, rfl⟩ := List.mem_map.1 hc
    exact .noRef rfl)
  have rf1 := freezeVal S (A' := below nx) (fun j hj _ => hj) h1s hf rf
  have rs1 := ha.rels S (A' := below nx) (fun j hj _ => hj) h1s rs
  refine (hc (fun r' h' nx' => r' = .sc r ∧ h' = h1 ∧ nx' = nx) ⟨rfl, rfl, rfl⟩ (G.frz h p) w x vs S1 rf1 rs1).mono fun e w' hl => ?_
  obtain ⟨v, r', h', nx', G', rfl, ⟨rfl, rfl, rfl⟩, S', E, rv⟩ := hl
  have hv := rv.sc_inv
  subst hv
  have hblk : ∀ b, b < w.heap.size → ¬ InHeap (G.frz h p) h' b → w'.heap[b]? = w.heap[b]? := E.frame
  have hzh : ∀ b, G.Z b → ¬ InHeap (G.frz h p) h' b := fun b hz ⟨i, o, a, hi, hloc, hb⟩ => S.zdis i o a (h1s i o hi) hloc (by rw [hb]; exact hz)
  have C : Compat G w G w' (below nx') h (below nx') h := by
    refine ⟨fun _ h => h, cellZ S fun b hz => hblk b (S.zin b hz) (hzh b hz), fun _ h => h, fun _ _ => objCompat_refl _ _⟩
  have O : ∀ id o, look id h = some o → RelO G w' (below nx') h id o := by
    intro id o hid
    have ro := (S.obj id o hid).2
    cases hi : look id h' with
    | none =>
      refine ro.compat C rfl rfl fun a hloc => hblk _ (ro.lt hloc) ?_
      rintro ⟨j, oj, aj, hj, hjl, hjb⟩
      have hne : j ≠ id := fun e => by rw [e, hi] at hj; cases hj
      exact S.inj j id oj o aj a (h1s j oj hj) hid hne hjl hloc hjb
    | some o' =>
      obtain ⟨hnp, us, rfl⟩ := h1R id o' hi
      have := h1s id _ hi
      rw [hid] at this
      cases this
      obtain ⟨b, T, vs0, g1, g2, g3, g4⟩ := ro
      obtain ⟨b', T', vs1, k1, k2, k3, k4⟩ := (S'.obj id _ hi).2
      have hb : b' = b := by
        have hp0 : Rel (G.frz h p) w (below nx') h' (.ptr id 0) (.pointer (some ⟨b, 0, none⟩)) := .ptr _ _ _ _ _ (S.obj id _ hid).1 rfl fun cs _ => ⟨b, g1, rfl⟩
        obtain ⟨_, _, h3⟩ := (E.rel _ _ hp0).ptr_inv
        obtain ⟨b2, h4, h5⟩ := h3 _ hi
        rw [k1] at h4
        cases h4
        cases h5
        rfl
      subst hb
      have hvs : vs1.toList = vs0.toList := by
        have det : ∀ (G : Gh) (w : World) (h : Heap) (l : List Value), Rels G w (below nx') h (us.map .sc) l → l = us := by
          intro G w h l hl
          apply List.ext_getElem?
          intro j
          have hlen : us.length = l.length := by simpa using hl.1
          rcases Nat.lt_or_ge j us.length with q | q
          · have h1 := hl.2 j (.sc us[j]) (by simp [q])
            have h2 := h1.sc_inv
            have q2 : j < l.length := by omega
            rw [List.getElem?_eq_getElem q, List.getElem?_eq_getElem q2, ← h2]
            simp [List.getD_eq_getElem?_getD, q2]
          · rw [List.getElem?_eq_none q, List.getElem?_eq_none (by omega)]
        rw [det _ _ _ _ g3, det _ _ _ _ k3]
      refine ⟨b', T', vs1, g1, k2, ?_, k4⟩
      rw [hvs]
      exact ⟨g3.1, fun j c hj => (g3.2 j c hj).compat C⟩
  refine ⟨v, .sc v, h, nx', G, rfl, hk, ⟨fun id o hid => ⟨(S.obj id o hid).1, O id o hid⟩, S.inj, S.zdis, fun b hb => Nat.lt_of_lt_of_le (S.zin b hb) E.size⟩, ⟨E.os, E.tape, E.output, E.size, fun b hb hn => ?_, fun b hb => .inl hb, fun b hb => .inl hb, fun _ h => h, fun v x hr => hr.compat C⟩, .sc ..⟩
  refine hblk b hb fun ⟨i, o, a, hi, hloc, he⟩ => hn ⟨i, o, a, h1s i o hi, hloc, he⟩

/-- Own arrays are frozen for good: behind the call they are not there any more. -/
theorem ACallV.freeze {fv fv' : AV} {args args' : List AV} {h h1 : Heap} {nx : Nat} {K : AV → Heap → Nat → Prop} (p : Nat → Prop)
    (h1s : ∀ j o, look j h1 = some o → look j h = some o) (h1p : ∀ j o, look j h1 = some o → ¬ p j) (hf : Fz p h fv fv') (ha : FzL p h args args') (hc : ACallV P fv' args' h1 nx K) : ACallV P fv args h nx K := by
  intro G w x vs S rf rs
  have S1 : SatH (G.frz h p) w (below nx) h1 := freezeHeap S h1s h1p (fun j o hj => (S.obj j o (h1s j o hj)).1) (fun j o hj => (S.obj j o (h1s j o hj)).2.refs)
  have rf1 := freezeVal S (A' := below nx) (fun j hj _ => hj) h1s hf rf
  have rs1 := ha.rels S (A' := below nx) (fun j hj _ => hj) h1s rs
  have E1 : Evo G w (below nx) h (G.frz h p) w (below nx) h1 := by
    refine ⟨rfl, rfl, rfl, Nat.le_refl _, fun _ _ _ => rfl, fun b hb => ?_, fun b hb => ?_, fun _ h => h, fun v x hv => Rel.restrict hv.refs (fun _ h => h) h1s (hv.frz _ _)⟩
    · obtain ⟨i, o, a, hi, hloc, he⟩ := hb
      exact .inl ⟨i, o, a, h1s i o hi, hloc, he⟩
    · rcases hb with hb | ⟨i, o, a, _, hl, hloc, he⟩
      · exact .inl hb
      · exact .inr (.inl ⟨i, o, a, hl, hloc, he⟩)
  refine (hc _ w x vs S1 rf1 rs1).mono fun e w' hl => ?_
  obtain ⟨v, r', h', nx', G', rfl, hk, S', E, rv⟩ := hl
  exact ⟨v, r', h', nx', G', rfl, hk, S', E1.trans E, rv⟩

/-- The same, of a function. -/
theorem Fz.fn0 {p : Nat → Prop} {h : Heap} (g : FuncId) : Fz p h (.fn (.func g) []) (.fn (.func g) []) := .fn rfl fun j c d hj _ => by simp at hj

theorem ACallV.of_fn0 {g : FuncId} {args : List AV} {h : Heap} {nx : Nat} {K : AV → Heap → Nat → Prop} (c : ACall P g args h nx K) : ACallV P (.fn (.func g) []) args h nx K := .of_fn (by simpa using c)
end

section
variable {C : Ctx} {T : Tab AV} {h : Heap} {nx : Nat} {m : List Nat}
/-- A call in a walk, own arrays lent. -/
theorem callX_borrow {fv fv' : AV} {args args' : List AV} {d : Option Tmp} {X : AS → Prop} {r : Value} (p : Nat → Prop) (h1 : Heap)
    (h1s : ∀ j o, look j h1 = some o → look j h = some o) (h1R : ∀ j o, look j h1 = some o → ¬ p j ∧ plainBox o) (hf : Fz p h fv fv') (ha : FzL p h args args')
    (hc : ∀ K', K' (.sc r) h1 nx → ACallV C.P fv' args' h1 nx K') (hk : X { (AS.put ⟨T, h, nx, m⟩ d (.sc r)) with heap := h, next := nx }) : callX C fv args d ⟨T, h, nx, m⟩ X :=
  ACallV.borrow p h1s h1R hf ha hc hk
/-- The same, where the call looks at no box. -/
theorem callX_lend {g : FuncId} {args args' : List AV} {d : Option Tmp} {X : AS → Prop} {r : Value} (p : Nat → Prop) (ha : FzL p h args args')
    (hc : ∀ K', K' (.sc r) nil' nx → ACall C.P g args' nil' nx K') (hk : X { (AS.put ⟨T, h, nx, m⟩ d (.sc r)) with heap := h, next := nx }) : callX C (.fn (.func g) []) args d ⟨T, h, nx, m⟩ X :=
  ACallV.borrow p (h1 := nil') (fun j o hj => by simp [look_nil] at hj) (fun j o hj => by simp [look_nil] at hj) (.fn0 g) ha (fun K' hk => .of_fn0 (hc K' hk)) hk

/-- The same in a region whose order is open: an own array of plain rows, and a function that looks at no box. -/
theorem callD_lend {g : FuncId} {d : Option Tmp} {σ : AS} {X : AS → Prop} {id g' sz : Nat} {L : List (List AV)} (r : Value) (hl : look id σ.heap = some (.arr g' sz L)) (hn : ∀ cs ∈ L, ∀ c ∈ cs, c.noRef = true)
    (hc : ∀ h nx K, K (.sc r) h nx → ACall C.P g [.lst sz L] h nx K) (hx : X (σ.put d (.sc r))) : callD C (.fn (.func g) []) [.own id g' 0] d σ X := by
  refine ⟨.sc r, ⟨.noRef rfl, fun h' nx' K' hs hk => ?_⟩, hx⟩
  have h2 : look id h' = some (.arr g' sz L) := by
    rw [hs id (.inr ⟨_, List.mem_singleton.2 rfl, fun A hA _ => hA.top rfl⟩)]
    exact hl
  refine ACallV.borrow (fun k => k = id) (h1 := nil') (fun j o hj => by simp [look_nil] at hj) (fun j o hj => by simp [look_nil] at hj) (.fn0 g) (args' := [.lst sz L]) ?_ (fun K' hk => .of_fn0 (hc _ _ K' hk)) hk
  exact .cons (.own rfl h2 hn rfl) (.nil _ _)
end

/-! ### A slice held against nil -/

/-- What a slice that is held against nil leaves open: it may be nil only if it is empty. -/
def nilX (v : Option (List (List AV))) (n : Bool) (d : Option Tmp) (σ : AS) (X : AS → Prop) : Prop := ∃ ls, v = some ls ∧ ∀ b : Bool, (ls ≠ [] → b = false) → X (σ.put d (.sc (.bool (b != n))))

theorem nilX_mk {ls : List (List AV)} {n : Bool} {d : Option Tmp} {σ : AS} {X : AS → Prop} (h1 : (ls = [] → X (σ.put d (.sc (.bool (true != n))))) ) (h2 : X (σ.put d (.sc (.bool (false != n))))) : nilX (some ls) n d σ X := by
  refine ⟨ls, rfl, fun b hb => ?_⟩
  cases b with
  | false => exact h2
  | true => exact h1 (by
      cases ls with
      | nil => rfl
      | cons a l => have := hb (by simp); cases this)

theorem nilX_eq {ls : List (List AV)} {d : Option Tmp} {σ : AS} {X : AS → Prop} (h1 : (ls = [] → X (σ.put d (.sc (.bool true)))) ) (h2 : X (σ.put d (.sc (.bool false)))) : nilX (some ls) false d σ X := nilX_mk h1 h2
theorem nilX_ne {ls : List (List AV)} {d : Option Tmp} {σ : AS} {X : AS → Prop} (h1 : (ls = [] → X (σ.put d (.sc (.bool false)))) ) (h2 : X (σ.put d (.sc (.bool true)))) : nilX (some ls) true d σ X := nilX_mk h1 h2

def nilY (e : Option TypeId) (C : Ctx) (al : Array Oper) (o : Oper) (v : Option (List (List AV))) (n : Bool) (d : Option Tmp) (σ : AS) (X : AS → Prop) : Prop := match e with
  | some _ => nilX v n d σ X
  | none => doOp C al o σ X
theorem nilY_some {e : TypeId} {C : Ctx} {al : Array Oper} {o : Oper} {v : Option (List (List AV))} {n : Bool} {d : Option Tmp} {σ : AS} {X : AS → Prop} : nilY (some e) C al o v n d σ X = nilX v n d σ X := rfl

theorem doOp_nileq {C : Ctx} {al : Array Oper} {d : Option Tmp} {ty : TypeId} {pos : String} {aft : Array Edge} {σ : AS} {X : AS → Prop} (t : TypeId) (x : Operand) (yt : TypeId) :
    doOp C al ⟨d, .binOp .eql t x (.const (.slice none 0 0)) yt, ty, pos, aft, none⟩ σ X = nilY ((tiOf C.P t).bind fun ti => ti.elem) C al ⟨d, .binOp .eql t x (.const (.slice none 0 0)) yt, ty, pos, aft, none⟩ (elems σ.heap (σ.ev x)) false d σ X := by
  cases ht : tiOf C.P t with
  | none => rfl
  | some ti =>
    cases he : ti.elem with
    | none => simp [nilY, he]
    | some e =>
      simp only [Option.bind_some, he, nilY]
      unfold doOp nilX
      simp [callOf, nilCmp, ht, he]

theorem doOp_nilne {C : Ctx} {al : Array Oper} {d : Option Tmp} {ty : TypeId} {pos : String} {aft : Array Edge} {σ : AS} {X : AS → Prop} (t : TypeId) (x : Operand) (yt : TypeId) :
    doOp C al ⟨d, .binOp .neq t x (.const (.slice none 0 0)) yt, ty, pos, aft, none⟩ σ X = nilY ((tiOf C.P t).bind fun ti => ti.elem) C al ⟨d, .binOp .neq t x (.const (.slice none 0 0)) yt, ty, pos, aft, none⟩ (elems σ.heap (σ.ev x)) true d σ X := by
  cases ht : tiOf C.P t with
  | none => rfl
  | some ti =>
    cases he : ti.elem with
    | none => simp [nilY, he]
    | some e =>
      simp only [Option.bind_some, he, nilY]
      unfold doOp nilX
      simp [callOf, nilCmp, ht, he]

end Go.Abs
