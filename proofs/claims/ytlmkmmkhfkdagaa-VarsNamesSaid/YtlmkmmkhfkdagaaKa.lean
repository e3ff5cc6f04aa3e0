/- The abstract layer: values by content, how they lie in memory, what an operation makes of them (first part). -/
import Derived.Below
import Derived.Laws.AppendOwn
import Derived.RangeFuncIn
import Derived.RangeFuncLeaves
import Derived.RangeFuncCalls
import Derived.Laws.StructEq
import Derived.Laws.Append
import Derived.Laws.Slices
import Derived.Laws.Tables

/- The abstract layer, part A: values by content, the abstract heap, the relation to the machine's values and worlds, how it is kept. Plain definitions and theorems over any program. -/
set_option linter.unusedVariables false
set_option linter.unusedSimpArgs false
namespace Go.Abs
open Go.RowKit

/-- A value by its content. -/
inductive AV where
  | any
  | sc (v : Value)
  | emp
  | lst (sz : Nat) (l : List (List AV))
  | own (id g lo : Nat)
  | ptr (id off : Nat)
  | eptr (id g i off : Nat)
  | cptr (cs : List AV)
  | fn (f : Fn) (caps : List AV)
  | agg (cs : List AV)
  | tup (cs : List AV)
  | mp (id : Nat)
  | yld (id : Nat)
  | mrk (id : Nat)
  deriving Inhabited

/-- What stands under a number. -/
abbrev Tab (α : Type) := Nat → Option α

/-- A loop over a function that is under way. -/
structure ALoop where
  st : LoopState
  pend : Option Code

  tmps : Tab AV
  nt : Nat
  params : Array Tmp
  assign : Code
  body : Code

/-- What a call has made, by its content. -/
inductive AObj where
  | box (cs : List AV)
  | arr (g sz : Nat) (L : List (List AV))
  | map (m : List (Value × AV))
  | loop (r : ALoop)
  | dfr

abbrev Heap := Tab AObj

def look {α : Type} (k : Nat) (h : Tab α) : Option α := h k
def nil' {α : Type} : Tab α := fun _ => none
/-- One more. -/
def hc {α : Type} (k : Nat) (v : α) (h : Tab α) : Tab α := fun j => if k = j then some v else look j h
/-- One turned, if it is there. -/
def upd {α : Type} (k : Nat) (x : α) (h : Tab α) : Tab α := fun j => if j = k then (look k h).map (fun _ => x) else look j h
/-- One gone. -/
def del {α : Type} (k : Nat) (h : Tab α) : Tab α := fun j => if j = k then none else look j h

theorem look_nil {α : Type} (k : Nat) : look k (nil' : Tab α) = none := rfl
theorem look_hc {α : Type} (k j : Nat) (v : α) (h : Tab α) : look j (hc k v h) = if k = j then some v else look j h := rfl
theorem look_upd {α : Type} (k j : Nat) (x : α) (h : Tab α) : look j (upd k x h) = if j = k then (look k h).map (fun _ => x) else look j h := rfl
theorem look_del {α : Type} (k j : Nat) (h : Tab α) : look j (del k h) = if j = k then none else look j h := rfl

/-- Where the machine keeps things: each abstract object's place and room; the blocks that nobody writes any more. -/
structure Gh where
  loc : Nat → Option Addr
  cap : Nat → Nat
  Z : Nat → Prop

/-- A slice value onto an array object of n elements, from lo on. -/
def OwnVal (G : Gh) (id sz n lo : Nat) (x : Value) : Prop :=
  lo ≤ n ∧ n ≤ G.cap id ∧ ∃ a, x = .slice a (n - lo) (G.cap id - lo) ∧ (lo < G.cap id → a = (G.loc id).map (fun b => ⟨b.block, b.off + lo * sz, none⟩))

/-- The machine's value x is what the abstract value says. -/
inductive Rel (G : Gh) (w : World) : (Nat → Prop) → Heap → AV → Value → Prop
  | any (A h x) : Rel G w A h .any x
  | sc (A h v) : Rel G w A h (.sc v) v
  | emp (A h a) : Rel G w A h .emp (.slice a 0 0)
  | lnil (A h sz a cap) : Rel G w A h (.lst sz []) (.slice a 0 cap)
  | lst (A h) (sz : Nat) (l : List (List AV)) (b off cap : Nat) (f : Nat → Nat → Value) (hl : l ≠ []) (hz : G.Z b) (hcap : l.length ≤ cap)
      (hsz : ∀ (i : Nat) (cs : List AV), l[i]? = some cs → cs.length = sz)
      (hc : ∀ (i : Nat) (cs : List AV), l[i]? = some cs → ∀ (j : Nat) (c : AV), cs[j]? = some c → w.cell? ⟨b, off + i * sz + j, none⟩ = some (f i j))
      (h1 : ∀ (i : Nat) (cs : List AV), l[i]? = some cs → ∀ (j : Nat) (c : AV), cs[j]? = some c → (f i j).oneCell' = true)
      (hr : ∀ (i : Nat) (cs : List AV), l[i]? = some cs → ∀ (j : Nat) (c : AV), cs[j]? = some c → Rel G w (fun _ => False) nil' c (f i j)) :
      Rel G w A h (.lst sz l) (.slice (some ⟨b, off, none⟩) l.length cap)
  | own (A h id g lo x) (hid : A id) (h1 : x.oneCell' = true)
      (ho : ∀ g' sz L, look id h = some (.arr g' sz L) → g ≤ g' ∧ (g = g' → OwnVal G id sz L.length lo x)) : Rel G w A h (.own id g lo) x
  | ptr (A h id off x) (hid : A id) (h1 : x.oneCell' = true)
      (ho : ∀ cs, look id h = some (.box cs) → ∃ b, G.loc id = some ⟨b, 0, none⟩ ∧ x = .pointer (some ⟨b, off, none⟩)) : Rel G w A h (.ptr id off) x
  | eptr (A h id g i off x) (hid : A id) (h1 : x.oneCell' = true)
      (ho : ∀ g' sz L, look id h = some (.arr g' sz L) → g ≤ g' ∧ (g = g' → ∃ b o, G.loc id = some ⟨b, o, none⟩ ∧ x = .pointer (some ⟨b, o + i * sz + off, none⟩))) :
      Rel G w A h (.eptr id g i off) x
  | cptr (A h) (cs : List AV) (b off : Nat) (f : Nat → Value) (hz : G.Z b)
      (hc : ∀ (j : Nat) (c : AV), cs[j]? = some c → w.cell? ⟨b, off + j, none⟩ = some (f j))
      (h1 : ∀ (j : Nat) (c : AV), cs[j]? = some c → (f j).oneCell' = true)
      (hr : ∀ (j : Nat) (c : AV), cs[j]? = some c → Rel G w (fun _ => False) nil' c (f j)) : Rel G w A h (.cptr cs) (.pointer (some ⟨b, off, none⟩))
  | fn (A h) (f : Fn) (cs : List AV) (vs : List Value) (hl : cs.length = vs.length)
      (hr : ∀ (j : Nat) (c : AV), cs[j]? = some c → Rel G w A h c (vs.getD j undef)) : Rel G w A h (.fn f cs) (.func f #[] vs.toArray)
  | agg (A h) (cs : List AV) (vs : List Value) (hl : cs.length = vs.length) (h1 : ∀ v ∈ vs, v.oneCell' = true)
      (hr : ∀ (j : Nat) (c : AV), cs[j]? = some c → Rel G w A h c (vs.getD j undef)) : Rel G w A h (.agg cs) (.agg vs.toArray)
  | tup (A h) (cs : List AV) (vs : List Value) (hl : cs.length = vs.length)
      (hr : ∀ (j : Nat) (c : AV), cs[j]? = some c → Rel G w A h c (vs.getD j undef)) : Rel G w A h (.tup cs) (.tuple vs.toArray)
  | mp (A h id x) (hid : A id) (h1 : x.oneCell' = true)
      (ho : ∀ m, look id h = some (.map m) → ∃ b, G.loc id = some ⟨b, 0, none⟩ ∧ x = .map (some b)) : Rel G w A h (.mp id) x
  | yld (A h id x) (hid : A id) (h1 : x.oneCell' = true)
      (ho : ∀ r, look id h = some (.loop r) → ∃ b, G.loc id = some ⟨b, 0, none⟩ ∧ x = .func (.yield b) #[] #[]) : Rel G w A h (.yld id) x
  | mrk (A h id x) (hid : A id) (h1 : x.oneCell' = true)
      (ho : look id h = some .dfr → ∃ b, G.loc id = some ⟨b, 0, none⟩ ∧ x = .chan (some b)) : Rel G w A h (.mrk id) x

/-- A list of values. -/
def Rels (G : Gh) (w : World) (A : Nat → Prop) (h : Heap) (cs : List AV) (vs : List Value) : Prop :=
  cs.length = vs.length ∧ ∀ (j : Nat) (c : AV), cs[j]? = some c → Rel G w A h c (vs.getD j undef)

/-- An object of the heap h' stands where one of h stood, for those who point at it. -/
def ObjCompat (G G' : Gh) (id : Nat) : Option AObj → Option AObj → Prop
  | _, none => True
  | none, some _ => False
  | some (.box _), some (.box _) => G'.loc id = G.loc id
  | some (.map _), some (.map _) => G'.loc id = G.loc id
  | some (.loop _), some (.loop _) => G'.loc id = G.loc id
  | some .dfr, some .dfr => G'.loc id = G.loc id
  | some (.arr g sz L), some (.arr g' sz' L') => g < g' ∨ (g = g' ∧ sz = sz' ∧ L.length = L'.length ∧ G'.loc id = G.loc id ∧ G'.cap id = G.cap id)
  | _, _ => False

/-- What holds of values at (A, h, G, w) holds at (A', h', G', w'). -/
structure Compat (G : Gh) (w : World) (G' : Gh) (w' : World) (A : Nat → Prop) (h : Heap) (A' : Nat → Prop) (h' : Heap) : Prop where
  z : ∀ b, G.Z b → G'.Z b
  cell : ∀ b o v, G.Z b → w.cell? ⟨b, o, none⟩ = some v → w'.cell? ⟨b, o, none⟩ = some v
  le : ∀ id, A id → A' id
  obj : ∀ id, A id → ObjCompat G G' id (look id h) (look id h')

theorem Compat.frozen {G G' : Gh} {w w' : World} {A A' : Nat → Prop} {h h' : Heap} (c : Compat G w G' w' A h A' h') : Compat G w G' w' (fun _ => False) nil' (fun _ => False) nil' :=
  ⟨c.z, c.cell, fun _ h => h, fun id hid => hid.elim⟩

theorem Rel.compat {G G' : Gh} {w w' : World} {A : Nat → Prop} {h : Heap} {v : AV} {x : Value} (r : Rel G w A h v x) :
    ∀ {A' : Nat → Prop} {h' : Heap}, Compat G w G' w' A h A' h' → Rel G' w' A' h' v x := by
  induction r with
  | any => intro A' h' _; exact .any ..
  | sc => intro A' h' _; exact .sc ..
  | emp => intro A' h' _; exact .emp ..
  | lnil => intro A' h' _; exact .lnil ..
  | lst A h sz l b off cap f hl hz hcap hsz hc h1 hr ih =>
    intro A' h' c
    exact .lst _ _ sz l b off cap f hl (c.z _ hz) hcap hsz (fun i cs hi j d hj => c.cell _ _ _ hz (hc i cs hi j d hj)) h1 (fun i cs hi j d hj => ih i cs hi j d hj c.frozen)
  | own A h id g lo x hid h1 ho =>
    intro A' h' c
    refine .own _ _ id g lo x (c.le _ hid) h1 fun g' sz L hL => ?_
    have ho' := c.obj id hid
    rw [hL] at ho'
    cases hl : look id h with
    | none => rw [hl] at ho'; exact ho'.elim
    | some o =>
      rw [hl] at ho'
      cases o with
      | arr g0 sz0 L0 =>
        have h2 := ho g0 sz0 L0 hl
        rcases ho' with hlt | ⟨rfl, rfl, hlen, hloc, hcap⟩
        · exact ⟨by omega, fun e => by omega⟩
        · refine ⟨h2.1, fun e => ?_⟩
          have h3 := h2.2 e
          rw [hlen] at h3
          unfold OwnVal at h3 ⊢
          rw [hloc, hcap]
          exact h3
      | box _ => exact ho'.elim
      | map _ => exact ho'.elim
      | loop _ => exact ho'.elim
      | dfr => exact ho'.elim
  | ptr A h id off x hid h1 ho =>
    intro A' h' c
    refine .ptr _ _ id off x (c.le _ hid) h1 fun cs hL => ?_
    have ho' := c.obj id hid
    rw [hL] at ho'
    cases hl : look id h with
    | none => rw [hl] at ho'; exact ho'.elim
    | some o =>
      rw [hl] at ho'
      cases o with
      | box cs0 =>
        obtain ⟨b, hb, hx⟩ := ho cs0 hl
        exact ⟨b, by rw [show G'.loc id = G.loc id from ho']; exact hb, hx⟩
      | arr _ _ _ => exact ho'.elim
      | map _ => exact ho'.elim
      | loop _ => exact ho'.elim
      | dfr => exact ho'.elim
  | eptr A h id g i off x hid h1 ho =>
    intro A' h' c
    refine .eptr _ _ id g i off x (c.le _ hid) h1 fun g' sz L hL => ?_
    have ho' := c.obj id hid
    rw [hL] at ho'
    cases hl : look id h with
    | none => rw [hl] at ho'; exact ho'.elim
    | some o =>
      rw [hl] at ho'
      cases o with
      | arr g0 sz0 L0 =>
        have h2 := ho g0 sz0 L0 hl
        rcases ho' with hlt | ⟨rfl, rfl, hlen, hloc, hcap⟩
        · exact ⟨by omega, fun e => by omega⟩
        · refine ⟨h2.1, fun e => ?_⟩
          rw [hloc]
          exact h2.2 e
      | box _ => exact ho'.elim
      | map _ => exact ho'.elim
      | loop _ => exact ho'.elim
      | dfr => exact ho'.elim
  | cptr A h cs b off f hz hc h1 hr ih =>
    intro A' h' c
    exact .cptr _ _ cs b off f (c.z _ hz) (fun j d hj => c.cell _ _ _ hz (hc j d hj)) h1 (fun j d hj => ih j d hj c.frozen)
  | fn A h f cs vs hl hr ih => intro A' h' c; exact .fn _ _ f cs vs hl fun j d hj => ih j d hj c
  | agg A h cs vs hl h1 hr ih => intro A' h' c; exact .agg _ _ cs vs hl h1 fun j d hj => ih j d hj c
  | tup A h cs vs hl hr ih => intro A' h' c; exact .tup _ _ cs vs hl fun j d hj => ih j d hj c
  | mp A h id x hid h1 ho =>
    intro A' h' c
    refine .mp _ _ id x (c.le _ hid) h1 fun cs hL => ?_
    have ho' := c.obj id hid
    rw [hL] at ho'
    cases hl : look id h with
    | none => rw [hl] at ho'; exact ho'.elim
    | some o =>
      rw [hl] at ho'
      cases o with
      | map cs0 =>
        obtain ⟨b, hb, hx⟩ := ho cs0 hl
        exact ⟨b, by rw [show G'.loc id = G.loc id from ho']; exact hb, hx⟩
      | arr _ _ _ => exact ho'.elim
      | box _ => exact ho'.elim
      | loop _ => exact ho'.elim
      | dfr => exact ho'.elim
  | yld A h id x hid h1 ho =>
    intro A' h' c
    refine .yld _ _ id x (c.le _ hid) h1 fun cs hL => ?_
    have ho' := c.obj id hid
    rw [hL] at ho'
    cases hl : look id h with
    | none => rw [hl] at ho'; exact ho'.elim
    | some o =>
      rw [hl] at ho'
      cases o with
      | loop cs0 =>
        obtain ⟨b, hb, hx⟩ := ho cs0 hl
        exact ⟨b, by rw [show G'.loc id = G.loc id from ho']; exact hb, hx⟩
      | arr _ _ _ => exact ho'.elim
      | box _ => exact ho'.elim
      | dfr => exact ho'.elim
      | map _ => exact ho'.elim
  | mrk A h id x hid h1 ho =>
    intro A' h' c
    refine .mrk _ _ id x (c.le _ hid) h1 fun hL => ?_
    have ho' := c.obj id hid
    rw [hL] at ho'
    cases hl : look id h with
    | none => rw [hl] at ho'; exact ho'.elim
    | some o =>
      rw [hl] at ho'
      cases o with
      | dfr =>
        obtain ⟨b, hb, hx⟩ := ho hl
        exact ⟨b, by rw [show G'.loc id = G.loc id from ho']; exact hb, hx⟩
      | arr _ _ _ => exact ho'.elim
      | box _ => exact ho'.elim
      | map _ => exact ho'.elim
      | loop _ => exact ho'.elim

theorem Rels.compat {G G' : Gh} {w w' : World} {A A' : Nat → Prop} {h h' : Heap} {cs : List AV} {vs : List Value} (r : Rels G w A h cs vs) (c : Compat G w G' w' A h A' h') : Rels G' w' A' h' cs vs :=
  ⟨r.1, fun j d hj => (r.2 j d hj).compat c⟩

/-! ### What a related value looks like -/
section
variable {G : Gh} {w : World} {A : Nat → Prop} {h : Heap} {x : Value}
theorem Rel.sc_inv {v : Value} (r : Rel G w A h (.sc v) x) : x = v := by cases r; rfl
theorem Rel.emp_inv (r : Rel G w A h .emp x) : ∃ a, x = .slice a 0 0 := by cases r; exact ⟨_, rfl⟩
theorem Rel.lst_inv {sz : Nat} {l : List (List AV)} (r : Rel G w A h (.lst sz l) x) : (l = [] ∧ ∃ a cap, x = .slice a 0 cap) ∨
    ∃ (b off cap : Nat) (f : Nat → Nat → Value), x = .slice (some ⟨b, off, none⟩) l.length cap ∧ l ≠ [] ∧ G.Z b ∧ l.length ≤ cap ∧
      (∀ (i : Nat) (cs : List AV), l[i]? = some cs → cs.length = sz) ∧
      (∀ (i : Nat) (cs : List AV), l[i]? = some cs → ∀ (j : Nat) (c : AV), cs[j]? = some c → w.cell? ⟨b, off + i * sz + j, none⟩ = some (f i j)) ∧
      (∀ (i : Nat) (cs : List AV), l[i]? = some cs → ∀ (j : Nat) (c : AV), cs[j]? = some c → (f i j).oneCell' = true) ∧
      (∀ (i : Nat) (cs : List AV), l[i]? = some cs → ∀ (j : Nat) (c : AV), cs[j]? = some c → Rel G w (fun _ => False) nil' c (f i j)) := by
  cases r
  · exact .inl ⟨rfl, _, _, rfl⟩
  · exact .inr ⟨_, _, _, _, rfl, ‹_›, ‹_›, ‹_›, ‹_›, ‹_›, ‹_›, ‹_›⟩
theorem Rel.own_inv {id g lo : Nat} (r : Rel G w A h (.own id g lo) x) : A id ∧ x.oneCell' = true ∧
    ∀ g' sz L, look id h = some (.arr g' sz L) → g ≤ g' ∧ (g = g' → OwnVal G id sz L.length lo x) := by
  cases r; exact ⟨‹_›, ‹_›, ‹_›⟩
theorem Rel.ptr_inv {id off : Nat} (r : Rel G w A h (.ptr id off) x) : A id ∧ x.oneCell' = true ∧
    ∀ cs, look id h = some (.box cs) → ∃ b, G.loc id = some ⟨b, 0, none⟩ ∧ x = .pointer (some ⟨b, off, none⟩) := by
  cases r; exact ⟨‹_›, ‹_›, ‹_›⟩
theorem Rel.eptr_inv {id g i off : Nat} (r : Rel G w A h (.eptr id g i off) x) : A id ∧ x.oneCell' = true ∧
    ∀ g' sz L, look id h = some (.arr g' sz L) → g ≤ g' ∧ (g = g' → ∃ b o, G.loc id = some ⟨b, o, none⟩ ∧ x = .pointer (some ⟨b, o + i * sz + off, none⟩)) := by
  cases r; exact ⟨‹_›, ‹_›, ‹_›⟩
theorem Rel.cptr_inv {cs : List AV} (r : Rel G w A h (.cptr cs) x) : ∃ (b off : Nat) (f : Nat → Value), x = .pointer (some ⟨b, off, none⟩) ∧ G.Z b ∧
      (∀ (j : Nat) (c : AV), cs[j]? = some c → w.cell? ⟨b, off + j, none⟩ = some (f j)) ∧
      (∀ (j : Nat) (c : AV), cs[j]? = some c → (f j).oneCell' = true) ∧
      (∀ (j : Nat) (c : AV), cs[j]? = some c → Rel G w (fun _ => False) nil' c (f j)) := by
  cases r; exact ⟨_, _, _, rfl, ‹_›, ‹_›, ‹_›, ‹_›⟩
theorem Rel.fn_inv {f : Fn} {cs : List AV} (r : Rel G w A h (.fn f cs) x) : ∃ vs, x = .func f #[] vs.toArray ∧ Rels G w A h cs vs := by
  cases r; exact ⟨_, rfl, ‹_›, ‹_›⟩
theorem Rel.agg_inv {cs : List AV} (r : Rel G w A h (.agg cs) x) : ∃ vs, x = .agg vs.toArray ∧ (∀ v ∈ vs, v.oneCell' = true) ∧ Rels G w A h cs vs := by
  cases r; exact ⟨_, rfl, ‹_›, ‹_›, ‹_›⟩
theorem Rel.tup_inv {cs : List AV} (r : Rel G w A h (.tup cs) x) : ∃ vs, x = .tuple vs.toArray ∧ Rels G w A h cs vs := by
  cases r; exact ⟨_, rfl, ‹_›, ‹_›⟩
theorem Rel.mp_inv {id : Nat} (r : Rel G w A h (.mp id) x) : A id ∧ x.oneCell' = true ∧ ∀ m, look id h = some (.map m) → ∃ b, G.loc id = some ⟨b, 0, none⟩ ∧ x = .map (some b) := by
  cases r; exact ⟨‹_›, ‹_›, ‹_›⟩
theorem Rel.yld_inv {id : Nat} (r : Rel G w A h (.yld id) x) : A id ∧ x.oneCell' = true ∧ ∀ m, look id h = some (.loop m) → ∃ b, G.loc id = some ⟨b, 0, none⟩ ∧ x = .func (.yield b) #[] #[] := by
  cases r; exact ⟨‹_›, ‹_›, ‹_›⟩
theorem Rel.mrk_inv {id : Nat} (r : Rel G w A h (.mrk id) x) : A id ∧ x.oneCell' = true ∧ (look id h = some .dfr → ∃ b, G.loc id = some ⟨b, 0, none⟩ ∧ x = .chan (some b)) := by
  cases r; exact ⟨‹_›, ‹_›, ‹_›⟩

/-- Is it surely one cell? -/
def AV.one : AV → Bool
  | .any | .agg _ | .tup _ => false
  | .sc v => v.oneCell'
  | _ => true
theorem Rel.one {v : AV} (r : Rel G w A h v x) (h1 : v.one = true) : x.oneCell' = true := by
  cases r <;> simp_all [AV.one, Value.oneCell']
end

/-- The object id of the abstract heap, as the machine keeps it. -/
def RelO (G : Gh) (w : World) (A : Nat → Prop) (h : Heap) (id : Nat) : AObj → Prop
  | .box cs => ∃ b T vs, G.loc id = some ⟨b, 0, none⟩ ∧ w.heap[b]? = some (.cells vs T (0, 0)) ∧ Rels G w A h cs vs.toList ∧ ∀ v ∈ vs.toList, v.oneCell' = true
  | .arr _ sz L => (L = [] ∧ G.loc id = none ∧ G.cap id = 0) ∨
      ∃ b o T vs, G.loc id = some ⟨b, o, none⟩ ∧ w.heap[b]? = some (.cells vs T (0, 0)) ∧ o + G.cap id * sz ≤ vs.size ∧ L.length ≤ G.cap id ∧
        (∀ (i : Nat) (cs : List AV), L[i]? = some cs → cs.length = sz) ∧
        (∀ (i : Nat) (cs : List AV), L[i]? = some cs → ∀ (j : Nat) (c : AV), cs[j]? = some c → Rel G w A h c (vs.getD (o + i * sz + j) undef) ∧ (vs.getD (o + i * sz + j) undef).oneCell' = true)
  | .map m => ∃ b es clock, G.loc id = some ⟨b, 0, none⟩ ∧ w.heap[b]? = some (.map es clock) ∧ m.length = es.size ∧
      (∀ (i : Nat) (k : Value) (v : AV), m[i]? = some (k, v) → ∃ e, es[i]? = some e ∧ e.key = k ∧ Rel G w A h v e.val)
  | .dfr => ∃ b, G.loc id = some ⟨b, 0, none⟩ ∧ w.heap[b]? = some (.deferred (some []))
  | .loop r => ∃ b tv d fn, G.loc id = some ⟨b, 0, none⟩ ∧
      w.heap[b]? = some (.loop { state := r.st, pending := r.pend, fn := fn, tmps := tv, params := r.params, assign := r.assign, body := r.body, defers := d }) ∧
      tv.size = r.nt ∧ (∀ t v, look t r.tmps = some v → Rel G w A h v (tv.getD t undef))

/-- The machine's memory holds the abstract heap. -/
structure SatH (G : Gh) (w : World) (A : Nat → Prop) (h : Heap) : Prop where
  obj : ∀ id o, look id h = some o → A id ∧ RelO G w A h id o
  inj : ∀ i j oi oj a b, look i h = some oi → look j h = some oj → i ≠ j → G.loc i = some a → G.loc j = some b → a.block ≠ b.block
  zdis : ∀ i o a, look i h = some o → G.loc i = some a → ¬ G.Z a.block
  zin : ∀ b, G.Z b → b < w.heap.size

/-- b is the block of an object of the heap. -/
def InHeap (G : Gh) (h : Heap) (b : Nat) : Prop := ∃ i o a, look i h = some o ∧ G.loc i = some a ∧ a.block = b

/-- From (A, h, G, w) to (A', h', G', w'): what may have turned, and that all values hold on. -/
structure Evo (G : Gh) (w : World) (A : Nat → Prop) (h : Heap) (G' : Gh) (w' : World) (A' : Nat → Prop) (h' : Heap) : Prop where
  os : w'.os = w.os
  tape : w'.tape = w.tape
  output : w'.output = w.output
  size : w.heap.size ≤ w'.heap.size
  frame : ∀ b, b < w.heap.size → ¬ InHeap G h b → w'.heap[b]? = w.heap[b]?
  prov : ∀ b, InHeap G' h' b → InHeap G h b ∨ w.heap.size ≤ b
  zprov : ∀ b, G'.Z b → G.Z b ∨ InHeap G h b ∨ w.heap.size ≤ b
  le : ∀ id, A id → A' id
  rel : ∀ v x, Rel G w A h v x → Rel G' w' A' h' v x

theorem Evo.refl (G : Gh) (w : World) (A : Nat → Prop) (h : Heap) : Evo G w A h G w A h :=
  ⟨rfl, rfl, rfl, Nat.le_refl _, fun _ _ _ => rfl, fun _ h => .inl h, fun _ h => .inl h, fun _ h => h, fun _ _ h => h⟩

theorem Evo.trans {G G1 G2 : Gh} {w w1 w2 : World} {n n1 n2 : Nat → Prop} {h h1 h2 : Heap} (e : Evo G w n h G1 w1 n1 h1) (f : Evo G1 w1 n1 h1 G2 w2 n2 h2) : Evo G w n h G2 w2 n2 h2 := by
  refine ⟨f.os.trans e.os, f.tape.trans e.tape, f.output.trans e.output, Nat.le_trans e.size f.size, fun b hb hn => ?_, fun b hb => ?_, fun b hb => ?_, fun i hi => f.le i (e.le i hi), fun v x r => f.rel v x (e.rel v x r)⟩
  · rw [f.frame b (Nat.lt_of_lt_of_le hb e.size) (fun hi => ?_), e.frame b hb hn]
    rcases e.prov b hi with h | h
    · exact hn h
    · omega
  · rcases f.prov b hb with h | h
    · exact e.prov b h
    · exact .inr (Nat.le_trans e.size h)
  · rcases f.zprov b hb with h | h | h
    · exact e.zprov b h
    · rcases e.prov b h with h | h
      · exact .inr (.inl h)
      · exact .inr (.inr h)
    · exact .inr (.inr (Nat.le_trans e.size h))

theorem Rels.evo {G G' : Gh} {w w' : World} {A A' : Nat → Prop} {h h' : Heap} {cs : List AV} {vs : List Value} (r : Rels G w A h cs vs) (e : Evo G w A h G' w' A' h') : Rels G' w' A' h' cs vs :=
  ⟨r.1, fun j d hj => e.rel _ _ (r.2 j d hj)⟩

theorem cell_of_heap {w : World} {b o : Nat} {vs : Array Value} {T : TypeId} {fz : Nat × Nat} (h : w.heap[b]? = some (.cells vs T fz)) : w.cell? ⟨b, o, none⟩ = vs[o]? := by
  simp [World.cell?, h]

theorem cell_same {w w' : World} {b : Nat} (h : w'.heap[b]? = w.heap[b]?) (o : Nat) : w'.cell? ⟨b, o, none⟩ = w.cell? ⟨b, o, none⟩ := by
  simp [World.cell?, h]

end Go.Abs

/- The abstract layer, part B: how the relation is kept by the machine's steps on memory: a new block, a write into an object's block, an object that moves, a draw, an object that is frozen or let go. -/
set_option linter.unusedVariables false
set_option linter.unusedSimpArgs false
namespace Go.Abs
open Go.RowKit

variable {G : Gh} {w : World} {A : Nat → Prop} {h : Heap}

theorem RelO.compat {G' : Gh} {w' : World} {A' : Nat → Prop} {h' : Heap} {id : Nat} {o : AObj} (r : RelO G w A h id o) (c : Compat G w G' w' A h A' h')
    (hloc : G'.loc id = G.loc id) (hcap : G'.cap id = G.cap id) (hb : ∀ a, G.loc id = some a → w'.heap[a.block]? = w.heap[a.block]?) : RelO G' w' A' h' id o := by
  cases o with
  | box cs =>
    obtain ⟨b, T, vs, h1, h2, h3, h4⟩ := r
    exact ⟨b, T, vs, by rw [hloc]; exact h1, by rw [hb _ h1]; exact h2, h3.compat c, h4⟩
  | arr g sz L =>
    rcases r with ⟨h1, h2, h3⟩ | ⟨b, o, T, vs, h1, h2, h3, h4, h5, h6⟩
    · exact .inl ⟨h1, by rw [hloc]; exact h2, by rw [hcap]; exact h3⟩
    · exact .inr ⟨b, o, T, vs, by rw [hloc]; exact h1, by rw [hb _ h1]; exact h2, by rw [hcap]; exact h3, by rw [hcap]; exact h4, h5, fun i cs hi j d hj => ⟨(h6 i cs hi j d hj).1.compat c, (h6 i cs hi j d hj).2⟩⟩
  | map m =>
    obtain ⟨b, es, clock, h1, h2, h3, h4⟩ := r
    exact ⟨b, es, clock, by rw [hloc]; exact h1, by rw [hb _ h1]; exact h2, h3, fun i k v hi => let ⟨e, h5, h6, h7⟩ := h4 i k v hi; ⟨e, h5, h6, h7.compat c⟩⟩
  | loop r0 =>
    obtain ⟨b, tv, d, fn, h1, h2, h3, h4⟩ := r
    exact ⟨b, tv, d, fn, by rw [hloc]; exact h1, by rw [hb _ h1]; exact h2, h3, fun t v ht => (h4 t v ht).compat c⟩
  | dfr =>
    obtain ⟨b, h1, h2⟩ := r
    exact ⟨b, by rw [hloc]; exact h1, by rw [hb _ h1]; exact h2⟩

theorem RelO.lt {id : Nat} {o : AObj} (r : RelO G w A h id o) {a : Addr} (ha : G.loc id = some a) : a.block < w.heap.size := by
  cases o with
  | box cs =>
    obtain ⟨b, T, vs, h1, h2, h3⟩ := r
    rw [h1] at ha; cases ha
    exact (Array.getElem?_eq_some_iff.1 h2).1
  | arr g sz L =>
    rcases r with ⟨h1, h2, h3⟩ | ⟨b, o, T, vs, h1, h2, _⟩
    · rw [h2] at ha; cases ha
    · rw [h1] at ha; cases ha
      exact (Array.getElem?_eq_some_iff.1 h2).1
  | map m =>
    obtain ⟨b, es, clock, h1, h2, _⟩ := r
    rw [h1] at ha; cases ha
    exact (Array.getElem?_eq_some_iff.1 h2).1
  | loop r0 =>
    obtain ⟨b, tv, d, fn, h1, h2, _⟩ := r
    rw [h1] at ha; cases ha
    exact (Array.getElem?_eq_some_iff.1 h2).1
  | dfr =>
    obtain ⟨b, h1, h2⟩ := r
    rw [h1] at ha; cases ha
    exact (Array.getElem?_eq_some_iff.1 h2).1

theorem objCompat_refl (id : Nat) (o : Option AObj) : ObjCompat G G id o o := by
  cases o with
  | none => trivial
  | some o =>
    cases o with
    | box _ => exact rfl
    | map _ => exact rfl
    | loop _ => exact rfl
    | dfr => exact rfl
    | arr g sz L => exact .inr ⟨rfl, rfl, rfl, rfl, rfl⟩

theorem SatH.blk (S : SatH G w A h) {id : Nat} {o : AObj} (hl : look id h = some o) {a : Addr} (ha : G.loc id = some a) : a.block < w.heap.size := (S.obj id o hl).2.lt ha

theorem cellZ (S : SatH G w A h) {w' : World} (hz : ∀ b, G.Z b → w'.heap[b]? = w.heap[b]?) : ∀ b o v, G.Z b → w.cell? ⟨b, o, none⟩ = some v → w'.cell? ⟨b, o, none⟩ = some v :=
  fun b o v hb hv => by rw [cell_same (hz b hb)]; exact hv

theorem look_upd_some {α : Type} {id i : Nat} {x o oi : α} {l : Tab α} (hl : look id l = some o) (hi : look i (upd id x l) = some oi) : ∃ o, look i l = some o := by
  rw [look_upd] at hi
  by_cases e : i = id
  · exact ⟨o, e ▸ hl⟩
  · simp only [e, if_false] at hi
    exact ⟨_, hi⟩

/-- A write into an object's own block. -/
theorem upd_obj (S : SatH G w A h) {id : Nat} {o o' : AObj} (hl : look id h = some o) {a : Addr} (ha : G.loc id = some a) {w' : World}
    (hos : w'.os = w.os) (htp : w'.tape = w.tape) (hout : w'.output = w.output) (hsz : w'.heap.size = w.heap.size)
    (hfr : ∀ b, b ≠ a.block → w'.heap[b]? = w.heap[b]?) (hc : ObjCompat G G id (some o) (some o'))
    (ho : Compat G w G w' A h A (upd id o' h) → RelO G w' A (upd id o' h) id o') :
    SatH G w' A (upd id o' h) ∧ Evo G w A h G w' A (upd id o' h) := by
  have hz : ∀ b, G.Z b → b ≠ a.block := fun b hb e => S.zdis id o a hl ha (e ▸ hb)
  have C : Compat G w G w' A h A (upd id o' h) := by
    refine ⟨fun _ h => h, cellZ S fun b hb => hfr b (hz b hb), fun _ h => h, fun j hj => ?_⟩
    rw [look_upd]
    by_cases e : j = id
    · subst e; simp only [if_true, hl]; exact hc
    · simp only [e, if_false]; exact objCompat_refl _ _
  refine ⟨⟨fun j oj hj => ?_, fun i j oi oj b c hi hj hne hb hc => ?_, fun i oi b hi hb => ?_, fun b hb => by rw [hsz]; exact S.zin b hb⟩, ⟨hos, htp, hout, by omega, fun b hb hn => ?_, fun b hb => ?_, fun b hb => .inl hb, fun _ h => h, fun v x r => r.compat C⟩⟩
  · rw [look_upd] at hj
    by_cases e : j = id
    · subst e
      simp only [if_true, hl, Option.map_some] at hj
      cases hj
      exact ⟨(S.obj _ _ hl).1, ho C⟩
    · simp only [e, if_false] at hj
      refine ⟨(S.obj _ _ hj).1, (S.obj _ _ hj).2.compat C rfl rfl fun b hb => hfr _ ?_⟩
      exact S.inj j id _ _ _ _ hj hl e hb ha
  · have hi' := look_upd_some hl hi
    have hj' := look_upd_some hl hj
    exact S.inj i j _ _ _ _ hi'.choose_spec hj'.choose_spec hne hb hc
  · have hi' := look_upd_some hl hi
    exact S.zdis i _ _ hi'.choose_spec hb
  · exact hfr b fun e => hn ⟨id, o, a, hl, ha, e.symm⟩
  · obtain ⟨i, oi, c, hi, hc, hb⟩ := hb
    have hi' := look_upd_some hl hi
    exact .inl ⟨i, _, c, hi'.choose_spec, hc, hb⟩

/-- The ghost with one object's place laid. -/
def Gh.put (G : Gh) (id : Nat) (l : Option Addr) (c : Nat) : Gh :=
  { G with loc := fun j => if j = id then l else G.loc j, cap := fun j => if j = id then c else G.cap j }

theorem Gh.put_loc_same (id : Nat) (l : Option Addr) (c : Nat) : (G.put id l c).loc id = l := by simp [Gh.put]
theorem Gh.put_cap_same (id : Nat) (l : Option Addr) (c : Nat) : (G.put id l c).cap id = c := by simp [Gh.put]
theorem Gh.put_loc_ne (id j : Nat) (l : Option Addr) (c : Nat) (e : j ≠ id) : (G.put id l c).loc j = G.loc j := by simp [Gh.put, e]
theorem Gh.put_cap_ne (id j : Nat) (l : Option Addr) (c : Nat) (e : j ≠ id) : (G.put id l c).cap j = G.cap j := by simp [Gh.put, e]

theorem objCompat_put {id j : Nat} {l : Option Addr} {c : Nat} (e : j ≠ id) (o : Option AObj) : ObjCompat G (G.put id l c) j o o := by
  cases o with
  | none => trivial
  | some o =>
    cases o with
    | box _ => exact Gh.put_loc_ne _ _ _ _ e
    | map _ => exact Gh.put_loc_ne _ _ _ _ e
    | loop _ => exact Gh.put_loc_ne _ _ _ _ e
    | dfr => exact Gh.put_loc_ne _ _ _ _ e
    | arr g sz L => exact .inr ⟨rfl, rfl, rfl, Gh.put_loc_ne _ _ _ _ e, Gh.put_cap_ne _ _ _ _ e⟩

theorem heap_alloc (w : World) (o : Obj) (b : Nat) (hb : b < w.heap.size) : (w.alloc o).heap[b]? = w.heap[b]? := Below.heap_alloc w o b hb
theorem heap_alloc_at (w : World) (o : Obj) : (w.alloc o).heap[w.heap.size]? = some o := heap_alloc_new w o

/-- A new object: in a new block, or (an array that has none yet) nowhere. -/
theorem new_obj (S : SatH G w A h) {id : Nat} (hA : ¬ A id) {A' : Nat → Prop} (hA' : ∀ j, A' j ↔ A j ∨ j = id) {o : AObj} {w' : World} {l : Option Addr} {c : Nat}
    (hos : w'.os = w.os) (htp : w'.tape = w.tape) (hout : w'.output = w.output) (hsz : w.heap.size ≤ w'.heap.size)
    (hfr : ∀ b, b < w.heap.size → w'.heap[b]? = w.heap[b]?) (hnew : ∀ a, l = some a → w.heap.size ≤ a.block ∧ a.block < w'.heap.size)
    (ho : Compat G w (G.put id l c) w' A h A' (hc id o h) → RelO (G.put id l c) w' A' (hc id o h) id o) :
    SatH (G.put id l c) w' A' (hc id o h) ∧ Evo G w A h (G.put id l c) w' A' (hc id o h) := by
  have hh : ∀ j oj, look j h = some oj → j ≠ id := fun j oj hj e => hA (e ▸ (S.obj j oj hj).1)
  have C : Compat G w (G.put id l c) w' A h A' (hc id o h) := by
    refine ⟨fun _ h => h, cellZ S fun b hb => hfr b (S.zin b hb), fun j hj => (hA' j).2 (.inl hj), fun j hj => ?_⟩
    have e : j ≠ id := fun e => hA (e ▸ hj)
    simp only [look_hc, if_neg (fun e' => e e'.symm : ¬ id = j)]
    exact objCompat_put e _
  refine ⟨⟨fun j oj hj => ?_, fun i j oi oj b d hi hj hne hb hd => ?_, fun i oi b hi hb => ?_, fun b hb => Nat.lt_of_lt_of_le (S.zin b hb) hsz⟩, ⟨hos, htp, hout, hsz, fun b hb hn => hfr b hb, fun b hb => ?_, fun b hb => .inl hb, fun j hj => (hA' j).2 (.inl hj), fun v x r => r.compat C⟩⟩
  · simp only [look_hc] at hj
    by_cases e : id = j
    · subst e
      simp only [if_true] at hj
      cases hj
      exact ⟨(hA' _).2 (.inr rfl), ho C⟩
    · simp only [e, if_false] at hj
      have e' : j ≠ id := fun x => e x.symm
      refine ⟨(hA' j).2 (.inl (S.obj _ _ hj).1), (S.obj _ _ hj).2.compat C (Gh.put_loc_ne _ _ _ _ e') (Gh.put_cap_ne _ _ _ _ e') fun b hb => hfr _ (S.blk hj hb)⟩
  · simp only [look_hc] at hi hj
    by_cases ei : id = i
    · subst ei
      by_cases ej : id = j
      · exact absurd ej hne
      · simp only [ej, if_false] at hj
        rw [Gh.put_loc_same] at hb
        rw [Gh.put_loc_ne _ _ _ _ (fun x => ej x.symm)] at hd
        have h1 := (hnew _ hb).1
        have h2 := S.blk hj hd
        omega
    · simp only [ei, if_false] at hi
      by_cases ej : id = j
      · subst ej
        rw [Gh.put_loc_same] at hd
        rw [Gh.put_loc_ne _ _ _ _ (fun x => ei x.symm)] at hb
        have h1 := (hnew _ hd).1
        have h2 := S.blk hi hb
        omega
      · simp only [ej, if_false] at hj
        rw [Gh.put_loc_ne _ _ _ _ (fun x => ei x.symm)] at hb
        rw [Gh.put_loc_ne _ _ _ _ (fun x => ej x.symm)] at hd
        exact S.inj i j _ _ _ _ hi hj hne hb hd
  · simp only [look_hc] at hi
    by_cases ei : id = i
    · subst ei
      rw [Gh.put_loc_same] at hb
      intro hz
      have h1 := (hnew _ hb).1
      have h2 := S.zin _ hz
      omega
    · simp only [ei, if_false] at hi
      rw [Gh.put_loc_ne _ _ _ _ (fun x => ei x.symm)] at hb
      exact S.zdis i _ _ hi hb
  · obtain ⟨i, oi, d, hi, hd, hb⟩ := hb
    simp only [look_hc] at hi
    by_cases ei : id = i
    · subst ei
      rw [Gh.put_loc_same] at hd
      exact .inr (hb ▸ (hnew _ hd).1)
    · simp only [ei, if_false] at hi
      rw [Gh.put_loc_ne _ _ _ _ (fun x => ei x.symm)] at hd
      exact .inl ⟨i, _, d, hi, hd, hb⟩

/-- An array that moves to a new block (or gets its first one): its generation has gone up. -/
theorem move_obj (S : SatH G w A h) {id g g' sz sz' : Nat} {L L' : List (List AV)} (hl : look id h = some (.arr g sz L)) (hg : g < g') {w' : World} {a : Addr} {c : Nat}
    (hos : w'.os = w.os) (htp : w'.tape = w.tape) (hout : w'.output = w.output) (hsz : w.heap.size ≤ w'.heap.size)
    (hfr : ∀ b, b < w.heap.size → b ≠ a.block → w'.heap[b]? = w.heap[b]?)
    (hnew : w.heap.size ≤ a.block ∧ a.block < w'.heap.size ∨ ∃ a0, G.loc id = some a0 ∧ a0.block = a.block)
    (ho : Compat G w (G.put id (some a) c) w' A h A (upd id (.arr g' sz' L') h) → RelO (G.put id (some a) c) w' A (upd id (.arr g' sz' L') h) id (.arr g' sz' L')) :
    SatH (G.put id (some a) c) w' A (upd id (.arr g' sz' L') h) ∧ Evo G w A h (G.put id (some a) c) w' A (upd id (.arr g' sz' L') h) := by
  have hab : ∀ b, G.Z b → b ≠ a.block := fun b hb e => by
    rcases hnew with h1 | ⟨a0, h1, h2⟩
    · have := S.zin b hb; omega
    · exact S.zdis id _ a0 hl h1 (by rw [h2, ← e]; exact hb)
  have hoth : ∀ j oj d, look j h = some oj → j ≠ id → G.loc j = some d → d.block ≠ a.block := fun j oj d hj e hd e' => by
    rcases hnew with h1 | ⟨a0, h1, h2⟩
    · have := S.blk hj hd; omega
    · exact S.inj j id _ _ _ _ hj hl e hd h1 (by rw [e', h2])
  have C : Compat G w (G.put id (some a) c) w' A h A (upd id (.arr g' sz' L') h) := by
    refine ⟨fun _ h => h, cellZ S fun b hb => hfr b (S.zin b hb) (hab b hb), fun _ h => h, fun j hj => ?_⟩
    rw [look_upd]
    by_cases e : j = id
    · subst e; simp only [if_true, hl]; exact .inl hg
    · simp only [e, if_false]; exact objCompat_put e _
  have hk : ∀ i oi, look i (upd id (.arr g' sz' L') h) = some oi → ∃ o, look i h = some o := fun i oi hi => look_upd_some hl hi
  refine ⟨⟨fun j oj hj => ?_, fun i j oi oj b d hi hj hne hb hd => ?_, fun i oi b hi hb => ?_, fun b hb => Nat.lt_of_lt_of_le (S.zin b hb) hsz⟩, ⟨hos, htp, hout, hsz, fun b hb hn => hfr b hb fun e => ?_, fun b hb => ?_, fun b hb => .inl hb, fun _ h => h, fun v x r => r.compat C⟩⟩
  · rw [look_upd] at hj
    by_cases e : j = id
    · subst e
      simp only [if_true, hl, Option.map_some] at hj
      cases hj
      exact ⟨(S.obj _ _ hl).1, ho C⟩
    · simp only [e, if_false] at hj
      exact ⟨(S.obj _ _ hj).1, (S.obj _ _ hj).2.compat C (Gh.put_loc_ne _ _ _ _ e) (Gh.put_cap_ne _ _ _ _ e) fun b hb => hfr _ (S.blk hj hb) (hoth j _ b hj e hb)⟩
  · obtain ⟨o1, hi'⟩ := hk i oi hi
    obtain ⟨o2, hj'⟩ := hk j oj hj
    clear hi hj
    have hi := hi'
    have hj := hj'
    clear hi' hj'
    by_cases ei : i = id
    · subst ei
      rw [Gh.put_loc_same] at hb
      cases hb
      rw [Gh.put_loc_ne _ _ _ _ (fun x => hne x.symm)] at hd
      exact fun x => hoth j _ d hj (fun x => hne x.symm) hd x.symm
    · rw [Gh.put_loc_ne _ _ _ _ ei] at hb
      by_cases ej : j = id
      · subst ej
        rw [Gh.put_loc_same] at hd
        cases hd
        exact hoth i _ b hi ei hb
      · rw [Gh.put_loc_ne _ _ _ _ ej] at hd
        exact S.inj i j _ _ _ _ hi hj hne hb hd
  · obtain ⟨o1, hi'⟩ := hk i oi hi
    clear hi
    have hi := hi'
    clear hi'
    by_cases ei : i = id
    · subst ei
      rw [Gh.put_loc_same] at hb
      cases hb
      exact fun hz => hab _ hz rfl
    · rw [Gh.put_loc_ne _ _ _ _ ei] at hb
      exact S.zdis i _ _ hi hb
  · subst e
    rcases hnew with h1 | ⟨a0, h1, h2⟩
    · omega
    · exact hn ⟨id, _, a0, hl, h1, h2⟩
  · obtain ⟨i, oi, d, hi, hd, hb⟩ := hb
    obtain ⟨o1, hi'⟩ := hk i oi hi
    clear hi
    have hi := hi'
    clear hi'
    by_cases ei : i = id
    · subst ei
      rw [Gh.put_loc_same] at hd
      cases hd
      rcases hnew with h1 | ⟨a0, h1, h2⟩
      · exact .inr (by omega)
      · exact .inl ⟨_, _, a0, hi, h1, by rw [h2, hb]⟩
    · rw [Gh.put_loc_ne _ _ _ _ ei] at hd
      exact .inl ⟨i, _, d, hi, hd, hb⟩

/-- A draw moves nothing. -/
theorem sat_same (S : SatH G w A h) {w' : World} (hos : w'.os = w.os) (htp : w'.tape = w.tape) (hout : w'.output = w.output) (hh : w'.heap = w.heap) :
    SatH G w' A h ∧ Evo G w A h G w' A h := by
  have C : Compat G w G w' A h A h := ⟨fun _ h => h, cellZ S fun b _ => by rw [hh], fun _ h => h, fun _ _ => objCompat_refl _ _⟩
  exact ⟨⟨fun j oj hj => ⟨(S.obj _ _ hj).1, (S.obj _ _ hj).2.compat C rfl rfl fun b _ => by rw [hh]⟩, S.inj, S.zdis, fun b hb => by rw [hh]; exact S.zin b hb⟩,
    ⟨hos, htp, hout, by rw [hh]; exact Nat.le_refl _, fun b _ _ => by rw [hh], fun _ h => .inl h, fun _ h => .inl h, fun _ h => h, fun v x r => r.compat C⟩⟩

/-- Objects are let go (nobody writes them any more; nobody reads them by their number). -/
theorem drop_heap (S : SatH G w A h) {h' : Heap} (hsub : ∀ i o, look i h' = some o → look i h = some o) : SatH G w A h' ∧ Evo G w A h G w A h' := by
  have C : Compat G w G w A h A h' := by
    refine ⟨fun _ h => h, fun _ _ _ _ h => h, fun _ h => h, fun j _ => ?_⟩
    cases hj : look j h' with
    | none => cases look j h <;> exact trivial
    | some o => rw [hsub j o hj]; exact objCompat_refl _ _
  exact ⟨⟨fun j oj hj => ⟨(S.obj _ _ (hsub _ _ hj)).1, (S.obj _ _ (hsub _ _ hj)).2.compat C rfl rfl fun _ _ => rfl⟩, fun i j oi oj a b hi hj => S.inj i j oi oj a b (hsub _ _ hi) (hsub _ _ hj), fun i o a hi => S.zdis i o a (hsub _ _ hi), S.zin⟩,
    ⟨rfl, rfl, rfl, Nat.le_refl _, fun _ _ _ => rfl, fun b ⟨i, o, a, hi, r⟩ => .inl ⟨i, o, a, hsub _ _ hi, r⟩, fun _ h => .inl h, fun _ h => h, fun v x r => r.compat C⟩⟩

end Go.Abs

/- The abstract layer, part C: the operations that only compute or read, by content, and that the machine's do the same. -/
set_option linter.unusedVariables false
set_option linter.unusedSimpArgs false
namespace Go.Abs
open Go.RowKit

/-! ### What is asked of types -/

def ofConst : Value → AV
  | .slice none 0 0 => .emp
  | v => .sc v

inductive SK where
  | bool | int | str
  deriving DecidableEq

structure FI where
  off : Nat
  size : Nat
  agg : Bool
  ty : TypeId

structure TI where
  size : Nat
  bytes : Nat
  agg : Bool
  zero : Option (List AV)
  elem : Option TypeId
  arr : Option (Nat × TypeId)
  mapk : Option (TypeId × TypeId)
  str : Bool
  int : Option IntKind
  iface : Bool
  bool : Bool
  func : Bool
  pointer : Bool
  fields : List FI
  fieldsOk : Bool
  zeroOk : Bool
  zsc : Bool
  eqk : Option (List SK)

def aggT (P : Program) (t : TypeId) : Bool := match P.underlying t with
  | some (.struct _) | some (.array _ _) => true
  | _ => false

/-- The kinds of a struct's cells, its fields lying one behind the other, none named _. -/
def flatFields (P : Program) (rec : TypeId → Option (List SK)) : List Field → Nat → Option (List SK)
  | [], _ => some []
  | f :: fs, o => match rec f.type with
    | none => none
    | some a => if f.name == "_" || f.offset != o || ((P.info? f.type).map (·.size)) != some a.length then none else (flatFields P rec fs (o + a.length)).map (a ++ ·)

/-- The kinds of a type's cells, where '==' of it is that of its cells, one by one. -/
def flatK (P : Program) : Nat → TypeId → Option (List SK)
  | 0, _ => none
  | n + 1, t => match P.underlying t with
    | some .bool => some [.bool]
    | some (.int _) => some [.int]
    | some .string => some [.str]
    | some (.struct fs) => if P.stoodInHeld t then none else flatFields P (flatK P n) fs.toList 0
    | _ => none

def tiOf (P : Program) (t : TypeId) : Option TI :=
  match P.info? t, P.underlying t with
  | some i, some d => some {
      size := i.size, bytes := i.bytes, agg := aggT P t, zero := i.zero.map fun v => v.cells.toList.map ofConst,
      elem := match d with | .slice e => some e | _ => none,
      arr := match d with | .array n e => some (n, e) | _ => none,
      mapk := match d with | .map k e => some (k, e) | _ => none,
      str := match d with | .string => true | _ => false,
      int := match d with | .int k => some k | _ => none,
      iface := match d with | .interface _ => true | _ => false,
      bool := match d with | .bool => true | _ => false,
      func := match d with | .func _ _ _ => true | _ => false,
      pointer := match d with | .pointer _ => true | _ => false,
      fields := match d with
        | .struct fs => fs.toList.map fun f => { off := f.offset, size := ((P.info? f.type).map (·.size)).getD 0, agg := aggT P f.type, ty := f.type }
        | _ => [],
      fieldsOk := match d with | .struct fs => fs.toList.all fun f => (P.info? f.type).isSome && (P.underlying f.type).isSome | _ => false,
      zeroOk := (i.zero.map fun v => v.cells.toList.all (·.oneCell') && v.cells.size == i.size).getD false,
      zsc := (i.zero.map fun v => v.oneCell').getD false,
      eqk := if P.eqGuardType P.depth t then none else flatK P 8 t }
  | _, _ => none

section
variable {P : Program} {t : TypeId} {ti : TI}
theorem tiOf_parts (h : tiOf P t = some ti) : ∃ i d, P.info? t = some i ∧ P.underlying t = some d ∧ ti.size = i.size ∧ ti.bytes = i.bytes ∧ ti.agg = aggT P t ∧ ti.zero = i.zero.map (fun v => v.cells.toList.map ofConst) ∧
    (∀ e, ti.elem = some e → d = .slice e) ∧ (∀ n e, ti.arr = some (n, e) → d = .array n e) ∧ (∀ k e, ti.mapk = some (k, e) → d = .map k e) ∧ (ti.str = true → d = .string) ∧ (∀ k, ti.int = some k → d = .int k) := by
  unfold tiOf at h
  split at h
  · rename_i i d hi hd
    cases h
    refine ⟨i, d, hi, hd, rfl, rfl, rfl, rfl, ?_, ?_, ?_, ?_, ?_⟩
    · intro e he; cases d <;> simp_all
    · intro n e he; cases d <;> simp_all
    · intro k e he; cases d <;> simp_all
    · intro he; cases d <;> simp_all
    · intro k he; cases d <;> simp_all
  · cases h

theorem tiOf_more (h : tiOf P t = some ti) : ∃ d, P.underlying t = some d ∧ (ti.iface = true → ∃ ms, d = .interface ms) ∧ (ti.bool = true → d = .bool) ∧ (ti.func = true → ∃ a b c, d = .func a b c) ∧ (ti.pointer = true → ∃ e, d = .pointer e) ∧
    (∀ (f : Nat) (fi : FI), ti.fields[f]? = some fi → ∃ (fs : Array Field) (fl : Field), d = .struct fs ∧ fs[f]? = some fl ∧ fi.off = fl.offset ∧ fi.size = ((P.info? fl.type).map (·.size)).getD 0 ∧ fi.agg = aggT P fl.type ∧ fi.ty = fl.type) ∧ (∀ ks, ti.eqk = some ks → P.eqGuardType P.depth t = false ∧ flatK P 8 t = some ks) := by
  unfold tiOf at h
  split at h
  · rename_i i d hi hd
    cases h
    refine ⟨d, hd, ?_, ?_, ?_, ?_, ?_, ?_⟩
    · intro he; cases d <;> simp_all
    · intro he; cases d <;> simp_all
    · intro he; cases d <;> simp_all
    · intro he; cases d <;> simp_all
    · intro f fi hf
      cases d <;> simp at hf
      rename_i fs
      obtain ⟨fl, hfl, rfl⟩ := hf
      exact ⟨fs, fl, rfl, hfl, rfl, rfl, rfl, rfl⟩
    · intro ks hk
      by_cases hg : P.eqGuardType P.depth t = true
      · simp [hg] at hk
      · simp only [hg] at hk
        exact ⟨by simpa using hg, hk⟩
  · cases h

theorem run_sizeOf (h : tiOf P t = some ti) (w : World) : (sizeOf t).run P w = .ok ti.size w := by
  obtain ⟨i, d, hi, _, hs, _⟩ := tiOf_parts h
  simp [sizeOf, typeInfo, hi, hs]

theorem run_isAgg (h : tiOf P t = some ti) (w : World) : (isAgg t).run P w = .ok ti.agg w := by
  obtain ⟨i, d, hi, hd, hs, _, ha, _⟩ := tiOf_parts h
  simp only [isAgg, Sem.run_bind, run_underlying hd, Result.andThen_ok, ha, aggT, hd]
  cases d <;> rfl
end

section
variable {P : Program} {t : TypeId} {ti : TI}
theorem tiOf_build (h : tiOf P t = some ti) : ∃ i d, P.info? t = some i ∧ P.underlying t = some d ∧ (ti.zeroOk = true → ∃ z, i.zero = some z ∧ (∀ u ∈ z.cells.toList, u.oneCell' = true) ∧ z.cells.size = i.size) ∧
    (ti.fieldsOk = true → ∃ fs, d = .struct fs ∧ (∀ f ∈ fs.toList, ((P.info? f.type).isSome && (P.underlying f.type).isSome) = true) ∧ ti.fields = fs.toList.map fun f => { off := f.offset, size := ((P.info? f.type).map (·.size)).getD 0, agg := aggT P f.type, ty := f.type }) := by
  unfold tiOf at h
  split at h
  · rename_i i d hi hd
    cases h
    refine ⟨i, d, hi, hd, ?_, ?_⟩
    · intro hz
      cases hzz : i.zero with
      | none => simp [hzz] at hz
      | some z =>
        simp only [hzz, Option.map_some, Option.getD_some] at hz
        rw [Bool.and_eq_true] at hz
        exact ⟨z, rfl, List.all_eq_true.1 hz.1, by simpa using hz.2⟩
    · intro hf
      cases d <;> first | cases hf | skip
      rename_i fs
      exact ⟨fs, rfl, List.all_eq_true.1 hf, rfl⟩
  · cases h
end

theorem tiOf_zsc {P : Program} {t : TypeId} {ti : TI} (h : tiOf P t = some ti) (hz : ti.zsc = true) : ∃ i z, P.info? t = some i ∧ i.zero = some z ∧ z.oneCell' = true := by
  unfold tiOf at h
  split at h
  · rename_i i d hi hd
    cases h
    cases hzz : i.zero with
    | none => simp [hzz] at hz
    | some z => exact ⟨i, z, hi, hzz, by simpa [hzz] using hz⟩
  · cases h

/-! ### Cells behind a pointer -/

section
variable {G : Gh} {w : World} {A : Nat → Prop} {h : Heap}

theorem Rel.widen {v : AV} {x : Value} (r : Rel G w (fun _ => False) nil' v x) : Rel G w A h v x :=
  r.compat ⟨fun _ h => h, fun _ _ _ _ h => h, fun _ h => h.elim, fun _ h => h.elim⟩

/-- The cells from a pointer on. -/
def ptrCells (h : Heap) : AV → Option (List AV)
  | .ptr id off => match look id h with
    | some (.box cs) => some (cs.drop off)
    | _ => none
  | .eptr id g i off => match look id h with
    | some (.arr g' _ L) => if g = g' then (L[i]?).map (·.drop off) else none
    | _ => none
  | .cptr cs => some cs
  | _ => none

theorem getD_of_lt {vs : List Value} {j : Nat} (hj : j < vs.length) : vs[j]? = some (vs.getD j undef) := by
  simp [List.getD, List.getElem?_eq_getElem hj]

theorem ptrCells_sound (S : SatH G w A h) {v : AV} {x : Value} (r : Rel G w A h v x) {cs : List AV} (hc : ptrCells h v = some cs) :
    ∃ b o, ∃ f : Nat → Value, x = .pointer (some ⟨b, o, none⟩) ∧ ∀ (j : Nat) (c : AV), cs[j]? = some c → w.cell? ⟨b, o + j, none⟩ = some (f j) ∧ (f j).oneCell' = true ∧ Rel G w A h c (f j) := by
  cases v with
  | ptr id off =>
    obtain ⟨hid, h1, ho⟩ := r.ptr_inv
    simp only [ptrCells] at hc
    cases hl : look id h with
    | none => simp [hl] at hc
    | some o =>
      cases o <;> simp [hl] at hc
      rename_i cs0
      subst hc
      obtain ⟨b, hb, rfl⟩ := ho _ hl
      obtain ⟨b', T, vs, hb', hh, hr, h1'⟩ := (S.obj _ _ hl).2
      rw [hb] at hb'
      cases hb'
      refine ⟨b, off, fun j => vs.toList.getD (off + j) undef, rfl, fun j c hj => ?_⟩
      rw [List.getElem?_drop] at hj
      have hlt : off + j < vs.toList.length := by rw [← hr.1]; exact (List.getElem?_eq_some_iff.1 hj).1
      have hg := getD_of_lt hlt
      refine ⟨?_, h1' _ ?_, hr.2 _ _ hj⟩
      · rw [cell_of_heap hh, ← hg, Array.getElem?_toList]
      · exact List.mem_of_getElem? hg
  | eptr id g i off =>
    obtain ⟨hid, h1, ho⟩ := r.eptr_inv
    simp only [ptrCells] at hc
    cases hl : look id h with
    | none => simp [hl] at hc
    | some o =>
      cases o <;> simp [hl] at hc
      rename_i g' sz L
      obtain ⟨rfl, cs0, hi, rfl⟩ := hc
      obtain ⟨b, o, hloc, rfl⟩ := (ho _ _ _ hl).2 rfl
      rcases (S.obj _ _ hl).2 with ⟨rfl, _, _⟩ | ⟨b', o', T, vs, h1', h2, h3, h4, h5, h6⟩
      · simp at hi
      · rw [hloc] at h1'
        cases h1'
        refine ⟨b, o + i * sz + off, fun j => vs.getD (o + i * sz + (off + j)) undef, rfl, fun j c hj => ?_⟩
        rw [List.getElem?_drop] at hj
        have h7 := h6 i cs0 hi (off + j) c hj
        refine ⟨?_, h7.2, h7.1⟩
        have hlen := h5 i cs0 hi
        have hj' : off + j < sz := hlen ▸ (List.getElem?_eq_some_iff.1 hj).1
        have hi' : i < L.length := (List.getElem?_eq_some_iff.1 hi).1
        have hlt : o + i * sz + (off + j) < vs.size := by
          have : i * sz + sz ≤ G.cap id * sz := by rw [← Nat.succ_mul]; exact Nat.mul_le_mul_right _ (by omega)
          omega
        rw [cell_of_heap h2, show o + i * sz + off + j = o + i * sz + (off + j) by omega]
        simp [Array.getD, hlt]
  | cptr cs0 =>
    obtain ⟨b, off, f, rfl, hz, hcell, h1, hr⟩ := r.cptr_inv
    simp only [ptrCells] at hc
    cases hc
    exact ⟨b, off, f, rfl, fun j c hj => ⟨hcell j c hj, h1 j c hj, (hr j c hj).widen⟩⟩
  | _ => simp [ptrCells] at hc

/-! ### Loading -/

def ldC (ti : TI) (cs : List AV) : Option AV :=
  if ti.agg then (if ti.size ≤ cs.length then some (.agg (cs.take ti.size)) else none) else cs.head?

def loadA (P : Program) (h : Heap) (t : TypeId) (a : AV) : Option AV :=
  match tiOf P t with
  | none => none
  | some ti => match ptrCells h a with
    | none => none
    | some cs => ldC ti cs

theorem loadA_sound {P : Program} (S : SatH G w A h) {t : TypeId} {a v : AV} {x : Value} (r : Rel G w A h a x) (hv : loadA P h t a = some v) :
    ∃ y, (Instr.loadAt t x).run P w = .ok y w ∧ Rel G w A h v y := by
  unfold loadA at hv
  cases hti : tiOf P t with
  | none => simp [hti] at hv
  | some ti =>
    simp only [hti] at hv
    cases hpc : ptrCells h a with
    | none => simp [hpc] at hv
    | some cs =>
      simp only [hpc] at hv
      obtain ⟨b, o, f, rfl, hf⟩ := ptrCells_sound S r hpc
      unfold ldC at hv
      simp only [Instr.loadAt, Instr.sureAddr, loadVar, Sem.run_bind, Sem.run_pure, Result.andThen_ok, run_isAgg hti]
      by_cases hag : ti.agg = true
      · simp only [hag, if_true] at hv ⊢
        split at hv
        · rename_i hsz
          cases hv
          have hl := run_loadCells (P := P) w ⟨b, o, none⟩ ti.size f (fun j hj => by
            have hj' : j < cs.length := by omega
            have := (hf j _ (List.getElem?_eq_getElem hj')).1
            simpa [Addr.add_lit] using this)
          simp only [Sem.run_bind, run_sizeOf hti, Result.andThen_ok, hl, Sem.run_pure]
          refine ⟨_, rfl, .agg _ _ _ _ (by simp; omega) ?_ ?_⟩
          · intro u hu
            simp only [List.mem_map, List.mem_range] at hu
            obtain ⟨j, hj, rfl⟩ := hu
            exact (hf j _ (List.getElem?_eq_getElem (by omega : j < cs.length))).2.1
          · intro j c hj
            rw [List.getElem?_take] at hj
            split at hj
            · rename_i hjs
              have := (hf j c hj).2.2
              simpa [List.getD, hjs] using this
            · cases hj
        · cases hv
      · simp only [hag, Bool.false_eq_true, if_false] at hv ⊢
        cases cs with
        | nil => simp at hv
        | cons c r0 =>
          simp only [List.head?_cons] at hv
          cases hv
          obtain ⟨h1, h2, h3⟩ := hf 0 _ rfl
          refine ⟨f 0, ?_, h3⟩
          simp only [run_load, Nat.add_zero] at h1 ⊢
          rw [h1]

/-! ### Addresses -/

def addOff (off : Nat) : AV → Option AV
  | .ptr id o => some (.ptr id (o + off))
  | .eptr id g i o => some (.eptr id g i (o + off))
  | .cptr cs => some (.cptr (cs.drop off))
  | _ => none

def fieldAddrA (P : Program) (h : Heap) (s : TypeId) (a : AV) (f : Nat) : Option AV :=
  match tiOf P s with
  | none => none
  | some ti => match ti.fields[f]? with
    | none => none
    | some fi => if fi.size = 0 then none else match ptrCells h a with
      | none => none
      | some _ => addOff fi.off a

theorem addOff_sound (S : SatH G w A h) {a v : AV} {off b o : Nat} (r : Rel G w A h a (.pointer (some ⟨b, o, none⟩))) (hp : (ptrCells h a).isSome = true) (hv : addOff off a = some v) :
    Rel G w A h v (.pointer (some ⟨b, o + off, none⟩)) := by
  cases a with
  | ptr id o' =>
    obtain ⟨hid, h1, ho⟩ := r.ptr_inv
    simp only [addOff] at hv
    cases hv
    refine .ptr _ _ _ _ _ hid rfl fun cs hl => ?_
    obtain ⟨b', hb, he⟩ := ho cs hl
    cases he
    exact ⟨b, hb, rfl⟩
  | eptr id g i o' =>
    obtain ⟨hid, h1, ho⟩ := r.eptr_inv
    simp only [addOff] at hv
    cases hv
    refine .eptr _ _ _ _ _ _ _ hid rfl fun g' sz L hl => ?_
    have h2 := ho g' sz L hl
    refine ⟨h2.1, fun e => ?_⟩
    obtain ⟨b', o'', hb, he⟩ := h2.2 e
    cases he
    exact ⟨b, o'', hb, by congr 3; omega⟩
  | cptr cs =>
    obtain ⟨b', o', f, he, hz, hc, h1, hr⟩ := r.cptr_inv
    simp only [addOff] at hv
    cases hv
    cases he
    refine .cptr _ _ _ b (o + off) (fun j => f (off + j)) hz (fun j c hj => ?_) (fun j c hj => ?_) (fun j c hj => ?_)
    · rw [List.getElem?_drop] at hj
      have := hc _ _ hj
      rwa [show o + (off + j) = o + off + j by omega] at this
    · rw [List.getElem?_drop] at hj; exact h1 _ _ hj
    · rw [List.getElem?_drop] at hj; exact hr _ _ hj
  | _ => simp [ptrCells] at hp

theorem fieldAddrA_sound {P : Program} (S : SatH G w A h) {s : TypeId} {a v : AV} {x : Value} {f : Nat} (r : Rel G w A h a x) (hv : fieldAddrA P h s a f = some v) :
    ∃ y, (Instr.fieldAt s x f).run P w = .ok y w ∧ Rel G w A h v y := by
  unfold fieldAddrA at hv
  cases hti : tiOf P s with
  | none => simp [hti] at hv
  | some ti =>
    simp only [hti] at hv
    cases hfi : ti.fields[f]? with
    | none => simp [hfi] at hv
    | some fi =>
      simp only [hfi] at hv
      split at hv
      · cases hv
      · rename_i hsz
        cases hpc : ptrCells h a with
        | none => simp [hpc] at hv
        | some cs =>
          simp only [hpc] at hv
          obtain ⟨b, o, _, rfl, _⟩ := ptrCells_sound S r hpc
          obtain ⟨d, hd, _, _, _, _, hfields, _⟩ := tiOf_more hti
          obtain ⟨fs, fl, rfl, hfl, ho, hsize, hag, _⟩ := hfields f fi hfi
          refine ⟨.pointer (some ⟨b, o + fi.off, none⟩), ?_, addOff_sound S r (by simp [hpc]) hv⟩
          cases hin : P.info? fl.type with
          | none => simp [hin] at hsize; omega
          | some i =>
            simp [hin] at hsize
            have hne : i.size ≠ 0 := by omega
            simp [Instr.fieldAt, run_underlying hd, hfl, Instr.sureAddr, fieldPlace, sizeOf, typeInfo, hin, hne, Addr.add_lit, ho]

/-- The elements of a slice, by content; 'none': no slice, or one that is out of date. -/
def elems (h : Heap) : AV → Option (List (List AV))
  | .emp => some []
  | .lst _ l => some l
  | .own id g lo => match look id h with
    | some (.arr g' _ L) => if g = g' then some (L.drop lo) else none
    | _ => none
  | _ => none

def indexAddrA (P : Program) (h : Heap) (t : TypeId) (x ix : AV) : Option AV :=
  match tiOf P t, ix with
  | some ti, .sc (.int _ i) =>
    if 0 ≤ i then
      match ti.elem with
      | some e => match tiOf P e with
        | none => none
        | some te => match x with
          | .lst sz l => if sz = te.size then (match l[i.toNat]? with
            | some cs => some (.cptr cs)
            | none => none) else none
          | .own id g lo => match look id h with
            | some (.arr g' sz L) => if g = g' ∧ sz = te.size ∧ lo + i.toNat < L.length then some (.eptr id g (lo + i.toNat) 0) else none
            | _ => none
          | _ => none
      | none => match ti.arr with
        | some (n, e) => match tiOf P e with
          | none => none
          | some te => if i < n ∧ te.size ≠ 0 then (match ptrCells h x with | none => none | some _ => addOff (i.toNat * te.size) x) else none
        | none => none
    else none
  | _, _ => none

theorem indexAddrA_sound {P : Program} (S : SatH G w A h) {t : TypeId} {a ia v : AV} {x ix : Value} (r : Rel G w A h a x) (ri : Rel G w A h ia ix) (hv : indexAddrA P h t a ia = some v) :
    ∃ y, (Instr.indexAt t x ix).run P w = .ok y w ∧ Rel G w A h v y := by
  unfold indexAddrA at hv
  cases hti : tiOf P t with
  | none => simp [hti] at hv
  | some ti =>
    simp only [hti] at hv
    split at hv
    case h_2 => cases hv
    case h_1 ti' k i heq =>
      cases heq
      obtain rfl := ri.sc_inv
      split at hv
      case isFalse => cases hv
      case isTrue h0 =>
        obtain ⟨inf, d, hin, hd, _, _, _, _, hel, har, _⟩ := tiOf_parts hti
        cases he : ti.elem with
        | some e =>
          simp only [he] at hv
          obtain rfl := hel e he
          cases hte : tiOf P e with
          | none => simp [hte] at hv
          | some te =>
            simp only [hte] at hv
            have hs := run_sizeOf (P := P) hte w
            cases a with
            | lst sz l =>
              simp only at hv
              split at hv
              · rename_i hsz
                cases hl : l[i.toNat]? with
                | none => simp [hl] at hv
                | some cs =>
                  simp only [hl] at hv
                  cases hv
                  rcases r.lst_inv with ⟨rfl, _⟩ | ⟨b, off, cap, f, rfl, hne, hz, hcap, hszs, hc, h1, hr⟩
                  · simp at hl
                  · have hlt : i.toNat < l.length := (List.getElem?_eq_some_iff.1 hl).1
                    have hi : i < (l.length : Int) := by omega
                    refine ⟨.pointer (some ⟨b, off + i.toNat * te.size, none⟩), ?_, ?_⟩
                    · simp [Instr.indexAt, asIntOf, run_underlying hd, h0, hi, hs, Addr.add_lit]
                    · rw [← hsz]
                      exact .cptr _ _ cs b _ (fun j => f i.toNat j) hz (fun j c hj => hc _ _ hl j c hj) (fun j c hj => h1 _ _ hl j c hj) (fun j c hj => hr _ _ hl j c hj)
              · cases hv
            | own id g lo =>
              simp only at hv
              cases hlk : look id h with
              | none => simp [hlk] at hv
              | some ob =>
                cases ob <;> simp [hlk] at hv
                rename_i g' sz L
                obtain ⟨⟨rfl, rfl, hlt⟩, rfl⟩ := hv
                · obtain ⟨hid, h1, ho⟩ := r.own_inv
                  obtain ⟨hlo, hn, a0, rfl, ha⟩ := (ho _ _ _ hlk).2 rfl
                  rcases (S.obj _ _ hlk).2 with ⟨rfl, _, _⟩ | ⟨b, o, T, vs, hloc, h2, h3, h4, h5, h6⟩
                  · simp at hlt
                  · have ha' := ha (by omega)
                    rw [hloc] at ha'
                    simp only [Option.map_some] at ha'
                    subst ha'
                    have hi : i < ((L.length - lo : Nat) : Int) := by omega
                    refine ⟨.pointer (some ⟨b, o + lo * te.size + i.toNat * te.size, none⟩), ?_, ?_⟩
                    · simp [Instr.indexAt, asIntOf, run_underlying hd, h0, hi, hs, Addr.add_lit]
                    · refine .eptr _ _ _ _ _ _ _ hid rfl fun g' sz' L' hl' => ?_
                      rw [hlk] at hl'
                      cases hl'
                      refine ⟨Nat.le_refl _, fun _ => ⟨b, o, hloc, ?_⟩⟩
                      congr 3
                      rw [Nat.add_mul]
                      omega
            | _ => simp at hv
        | none =>
          simp only [he] at hv
          cases har' : ti.arr with
          | none => simp [har'] at hv
          | some ne =>
            obtain ⟨n, e⟩ := ne
            simp only [har'] at hv
            obtain rfl := har n e har'
            cases hte : tiOf P e with
            | none => simp [hte] at hv
            | some te =>
              simp only [hte] at hv
              split at hv
              · rename_i hlt
                cases hpc : ptrCells h a with
                | none => simp [hpc] at hv
                | some cs =>
                  simp only [hpc] at hv
                  obtain ⟨b, o, _, rfl, _⟩ := ptrCells_sound S r hpc
                  refine ⟨_, ?_, addOff_sound S r (by simp [hpc]) hv⟩
                  have hs := run_sizeOf (P := P) hte w
                  simp [Instr.indexAt, asIntOf, run_underlying hd, h0, hlt.1, Instr.sureAddr, hs, Addr.add_lit]
              · cases hv
end
end Go.Abs

/- The abstract layer, part D: arithmetic, comparisons, structs, slices' cuts, texts' bytes, by content, and that the machine's operations do the same. -/
set_option linter.unusedVariables false
set_option linter.unusedSimpArgs false
namespace Go.Abs
open Go.RowKit

/-! ### Operators -/

def intBin (op : BinOp) (k : IntKind) (a b : Int) : Option Value :=
  match op with
  | .add => some (.int k (k.wrap (a + b)))
  | .sub => some (.int k (k.wrap (a - b)))
  | .mul => some (.int k (k.wrap (a * b)))
  | .quo => if b = 0 then none else some (.int k (k.wrap (a.tdiv b)))
  | .rem => if b = 0 then none else some (.int k (a.tmod b))
  | .eql => some (.bool (decide (a = b)))
  | .neq => some (.bool (!decide (a = b)))
  | .lss => some (.bool (decide (a < b)))
  | .leq => some (.bool (decide (a ≤ b)))
  | .gtr => some (.bool (decide (b < a)))
  | .geq => some (.bool (decide (b ≤ a)))
  | .shr => if 0 ≤ b then some (.int k (a.fdiv (2 ^ (min b.toNat k.bits)))) else none
  | _ => none

/-- Is a text ahead of another one? -/
def strLt (a b : ByteArray) : Bool := Op.bytesLess a.toList b.toList

def strBin (op : BinOp) (a b : ByteArray) : Option Value :=
  match op with
  | .add => if a.size + b.size ≤ 9223372036854775807 then some (.string (a ++ b)) else none
  | .eql => some (.bool (decide (a = b)))
  | .neq => some (.bool (!decide (a = b)))
  | .lss => some (.bool (strLt a b))
  | .leq => some (.bool (strLt a b || decide (a = b)))
  | .gtr => some (.bool (!(strLt a b || decide (a = b))))
  | .geq => some (.bool (!strLt a b))
  | _ => none

def eqCell : SK → AV → AV → Option Bool
  | .int, .sc (.int k a), .sc (.int k' b) => if k = k' then some (decide (a = b)) else none
  | .str, .sc (.string a), .sc (.string b) => some (decide (a = b))
  | .bool, .sc (.bool a), .sc (.bool b) => some (a == b)
  | _, _, _ => none

def eqCells : List SK → List AV → List AV → Option Bool
  | [], [], [] => some true
  | k :: ks, a :: as, b :: bs => match eqCell k a b, eqCells ks as bs with
    | some x, some y => some (x && y)
    | _, _ => none
  | _, _, _ => none

def boolOf (op : BinOp) (r : Option Bool) : Option AV :=
  match op, r with
  | .eql, some b => some (.sc (.bool b))
  | .neq, some b => some (.sc (.bool (!b)))
  | _, _ => none

/-- x == y for values other than numbers and texts. -/
def eqA (ti : TI) (x y : AV) : Option Bool :=
  match x, y with
  | .sc (.bool a), .sc (.bool b) => if ti.bool then some (a == b) else none
  | .sc .nilFunc, .sc .nilFunc => if ti.func then some true else none
  | .fn _ _, .sc .nilFunc => if ti.func then some false else none
  | .sc (.pointer none), .sc (.pointer none) => if ti.pointer then some true else none
  | .sc (.iface _ _), .sc .nilIface => if ti.iface then some false else none
  | .sc .nilIface, .sc (.iface _ _) => if ti.iface then some false else none
  | .agg cs, .agg ds => match ti.eqk with
    | some ks => if ti.agg then eqCells ks cs ds else none
    | none => none
  | _, _ => none

def isConstNil : Operand → Bool
  | .const .nilIface => true
  | _ => false

def binA (P : Program) (h : Heap) (op : BinOp) (t : TypeId) (xo yo : Operand) (x y : AV) : Option AV :=
  match x, y with
  | .sc (.int k a), .sc (.int k' b) => if k = k' then (intBin op k a b).map .sc else none
  | .sc (.string a), .sc (.string b) => (strBin op a b).map .sc
  | .sc .nilIface, .sc .nilIface => if isConstNil yo then (match tiOf P t with | some ti => if ti.iface then boolOf op (some true) else none | none => none) else none
  | x, .sc (.pointer none) => match tiOf P t with
    | none => none
    | some ti => if ti.pointer then (match x with
      | .sc (.pointer none) => boolOf op (some true)
      | x => match ptrCells h x with
        | some _ => boolOf op (some false)
        | none => none) else none
  | x, y => match tiOf P t with
    | none => none
    | some ti => boolOf op (eqA ti x y)

section
variable {P : Program} {G : Gh} {w : World} {A : Nat → Prop} {h : Heap}

theorem toList_eq_iff (a b : ByteArray) : (a.toList == b.toList) = decide (a = b) := by
  rw [← beq_toListBytes]
  by_cases e : a = b
  · subst e; rw [beq_toListBytes]; simp
  · rw [decide_eq_false e]
    rw [beq_toListBytes, ByteArray.toList_eq, ByteArray.toList_eq]
    obtain ⟨⟨x⟩⟩ := a
    obtain ⟨⟨y⟩⟩ := b
    have : ¬ (x = y) := fun h => e (by rw [h])
    simpa using this

theorem intBin_sound {op : BinOp} {k : IntKind} {a b : Int} {v : Value} (t : TypeId) (hv : intBin op k a b = some v) : (binOp op t (.int k a) (.int k b)).run P w = .ok v w := by
  unfold intBin at hv
  split at hv <;> simp at hv
  case h_4 => obtain ⟨hb, rfl⟩ := hv; simp [binOp_quo, Op.intDiv, hb]
  case h_5 => obtain ⟨hb, rfl⟩ := hv; simp [binOp_rem, Op.intDiv, hb]
  case h_12 =>
    obtain ⟨hb, rfl⟩ := hv
    have hb' : ¬ b < 0 := by omega
    simp [binOp_shr, Op.shift, hb']
  all_goals subst hv
  · simp [binOp_add, Op.intArith]
  · simp [binOp_sub, Op.intArith]
  · simp [binOp_mul, Op.intArith]
  · simp [binOp_eql]; rfl
  · simp [binOp_neq, bne]; rfl
  · simp [binOp_lss]
  · simp [binOp_leq]
  · simp [binOp_gtr]
  · simp [binOp_geq]

theorem strBin_sound {op : BinOp} {a b : ByteArray} {v : Value} (t : TypeId) (hv : strBin op a b = some v) : (binOp op t (.string a) (.string b)).run P w = .ok v w := by
  have hb : ∀ op, binOp op t (.string a) (.string b) = Op.stringOp op a b := fun op => by cases op <;> rfl
  rw [hb]
  unfold strBin at hv
  split at hv <;> simp at hv
  case h_1 =>
    obtain ⟨hsz, rfl⟩ := hv
    have : ¬ (9223372036854775807 < (a.size : Int) + (b.size : Int)) := by omega
    simp [Op.stringOp, this]
  all_goals subst hv
  all_goals simp [Op.stringOp, toList_eq_iff, strLt]

theorem eqGuard_other {op : BinOp} {t : TypeId} {xo yo : Operand} {x y : Value} (h1 : ∀ a b, ¬ (x = .agg a ∧ y = .agg b)) (h2 : ¬ (x = .nilIface ∧ y = .nilIface)) :
    (eqGuard op t xo yo x y).run P w = .ok () w := by
  cases x <;> cases y <;> first
    | exact absurd ⟨rfl, rfl⟩ h2
    | exact absurd ⟨rfl, rfl⟩ (h1 _ _)
    | (cases op <;> rfl)

def eqVal : SK → Value → Value → Option Bool
  | .int, .int k a, .int k' b => if k = k' then some (decide (a = b)) else none
  | .str, .string a, .string b => some (decide (a = b))
  | .bool, .bool a, .bool b => some (a == b)
  | _, _, _ => none

def eqVals : List SK → List Value → List Value → Option Bool
  | [], [], [] => some true
  | k :: ks, a :: as, b :: bs => match eqVal k a b, eqVals ks as bs with
    | some x, some y => some (x && y)
    | _, _ => none
  | _, _, _ => none

theorem eqVals_length : ∀ {ks : List SK} {as bs : List Value} {r : Bool}, eqVals ks as bs = some r → as.length = ks.length ∧ bs.length = ks.length
  | [], [], [], r, _ => ⟨rfl, rfl⟩
  | k :: ks, a :: as, b :: bs, r, h => by
    simp only [eqVals] at h
    split at h
    · rename_i x y h1 h2
      have := eqVals_length h2
      simp [this.1, this.2]
    · cases h
  | [], _ :: _, _, r, h => by simp [eqVals] at h
  | [], [], _ :: _, r, h => by simp [eqVals] at h
  | _ :: _, [], _, r, h => by simp [eqVals] at h
  | _ :: _, _ :: _, [], r, h => by simp [eqVals] at h

theorem eqVals_append : ∀ {k1 k2 : List SK} {as bs : List Value} {r : Bool}, eqVals (k1 ++ k2) as bs = some r →
    ∃ r1 r2, eqVals k1 (as.take k1.length) (bs.take k1.length) = some r1 ∧ eqVals k2 (as.drop k1.length) (bs.drop k1.length) = some r2 ∧ r = (r1 && r2)
  | [], k2, as, bs, r, h => ⟨true, r, by simp [eqVals], by simpa using h, by simp⟩
  | k :: k1, k2, [], bs, r, h => by simp [eqVals] at h
  | k :: k1, k2, a :: as, [], r, h => by simp [eqVals] at h
  | k :: k1, k2, a :: as, b :: bs, r, h => by
    simp only [List.cons_append, eqVals] at h
    split at h
    · rename_i x y h1 h2
      cases h
      obtain ⟨r1, r2, h3, h4, h5⟩ := eqVals_append h2
      exact ⟨x && r1, r2, by simp [eqVals, h1, h3], by simpa using h4, by rw [h5, Bool.and_assoc]⟩
    · cases h

theorem eqCell_vals {k : SK} {c d : AV} {x y : Value} {r : Bool} (hx : Rel G w A h c x) (hy : Rel G w A h d y) (he : eqCell k c d = some r) : eqVal k x y = some r := by
  unfold eqCell at he
  split at he
  · rw [hx.sc_inv, hy.sc_inv]; simpa [eqVal] using he
  · rw [hx.sc_inv, hy.sc_inv]; simpa [eqVal] using he
  · rw [hx.sc_inv, hy.sc_inv]; simpa [eqVal] using he
  · cases he

theorem Rels.cons_inv {c : AV} {cs : List AV} {vs : List Value} (r : Rels G w A h (c :: cs) vs) : ∃ v vs', vs = v :: vs' ∧ Rel G w A h c v ∧ Rels G w A h cs vs' := by
  obtain ⟨hl, hr⟩ := r
  cases vs with
  | nil => simp at hl
  | cons v vs => exact ⟨v, vs, rfl, hr 0 c rfl, by simpa using hl, fun j d hj => hr (j + 1) d (by simpa using hj)⟩

theorem eqCells_vals : ∀ {ks : List SK} {cs ds : List AV} {xs ys : List Value} {r : Bool}, Rels G w A h cs xs → Rels G w A h ds ys → eqCells ks cs ds = some r → eqVals ks xs ys = some r
  | [], [], [], xs, ys, r, hx, hy, he => by
    obtain rfl := List.eq_nil_of_length_eq_zero hx.1.symm
    obtain rfl := List.eq_nil_of_length_eq_zero hy.1.symm
    simpa [eqVals, eqCells] using he
  | k :: ks, c :: cs, d :: ds, xs, ys, r, hx, hy, he => by
    obtain ⟨x, xs', rfl, hx1, hx2⟩ := hx.cons_inv
    obtain ⟨y, ys', rfl, hy1, hy2⟩ := hy.cons_inv
    simp only [eqCells] at he
    split at he
    · rename_i a b h1 h2
      simp only [eqVals, eqCell_vals hx1 hy1 h1, eqCells_vals hx2 hy2 h2]
      exact he
    · cases he
  | [], _ :: _, _, _, _, r, _, _, h => by simp [eqCells] at h
  | [], [], _ :: _, _, _, r, _, _, h => by simp [eqCells] at h
  | _ :: _, [], _, _, _, r, _, _, h => by simp [eqCells] at h
  | _ :: _, _ :: _, [], _, _, r, _, _, h => by simp [eqCells] at h

theorem eqVals_one {k : SK} {as bs : List Value} {r : Bool} (he : eqVals [k] as bs = some r) : ∃ a b, as = [a] ∧ bs = [b] ∧ eqVal k a b = some r := by
  have hl := eqVals_length he
  match as, bs, hl with
  | [a], [b], _ =>
    refine ⟨a, b, rfl, rfl, ?_⟩
    simp only [eqVals] at he
    split at he
    · rename_i x y h1 h2
      cases h2
      simpa [h1] using he
    · cases he

/-- The value of a type out of its cells. -/
def ofCells (P : Program) (t : TypeId) (vs : List Value) : Value := if aggT P t then .agg vs.toArray else vs.headD undef

theorem run_part {t : TypeId} {xs : List Value} {o n : Nat} (hn : (P.info? t).map (·.size) = some n) (hu : (P.underlying t).isSome = true) (h1 : aggT P t = true ∨ n = 1) (hlen : o + n ≤ xs.length) :
    (part t xs.toArray o).run P w = .ok (ofCells P t ((xs.drop o).take n)) w := by
  obtain ⟨d, hd⟩ := Option.isSome_iff_exists.1 hu
  have hi : (isAgg t).run P w = .ok (aggT P t) w := by
    simp only [isAgg, Sem.run_bind, run_underlying hd, Result.andThen_ok, aggT, hd]
    cases d <;> rfl
  simp only [Option.map_eq_some_iff] at hn
  obtain ⟨i, hi', rfl⟩ := hn
  simp only [part, Sem.run_bind, hi, Result.andThen_ok]
  by_cases ha : aggT P t = true
  · simp only [ha, if_true, Sem.run_bind, sizeOf, typeInfo, run_program, Result.andThen_ok, hi', Sem.run_pure, ofCells]
    congr 1
    simp [List.extract_eq_take_drop]
  · rcases h1 with h1 | h1
    · exact absurd h1 ha
    · simp only [ha, Bool.false_eq_true, if_false, ofCells, h1]
      have hlt : o < xs.length := by omega
      have e : (xs.drop o).take 1 = [xs[o]] := by rw [List.drop_eq_getElem_cons hlt]; rfl
      have e2 : xs.toArray[o]? = some xs[o] := by simp [hlt]
      rw [e, e2]
      rfl

theorem flatK_scalar {n : Nat} {t : TypeId} {ks : List SK} (hk : flatK P n t = some ks) : (P.underlying t).isSome = true ∧ (aggT P t = true ∨ ks.length = 1) := by
  cases n with
  | zero => simp [flatK] at hk
  | succ n =>
    simp only [flatK] at hk
    split at hk
    · rename_i hu; cases hk; simp [hu]
    · rename_i hu; cases hk; simp [hu]
    · rename_i hu; cases hk; simp [hu]
    · rename_i hu; simp [hu, aggT]
    · cases hk

theorem eqFields_flat (d : Nat) {rec : TypeId → Option (List SK)} {xs ys : List Value}
    (hsc : ∀ t ks, rec t = some ks → (P.underlying t).isSome = true ∧ (aggT P t = true ∨ ks.length = 1))
    (ih : ∀ t ks, rec t = some ks → ∀ as bs r, eqVals ks as bs = some r → (Op.equalIn d t (ofCells P t as) (ofCells P t bs)).run P w = .ok r w) :
    ∀ (fs : List Field) (o : Nat) (ks : List SK) (r : Bool), flatFields P rec fs o = some ks → eqVals ks (xs.drop o) (ys.drop o) = some r →
      (Op.eqFields d xs.toArray ys.toArray fs).run P w = .ok r w
  | [], o, ks, r, hf, he => by
    simp only [flatFields] at hf
    cases hf
    have hl := eqVals_length he
    generalize xs.drop o = l1 at he hl
    generalize ys.drop o = l2 at he hl
    have h1 : l1 = [] := by simpa using hl.1
    have h2 : l2 = [] := by simpa using hl.2
    subst h1; subst h2
    simp only [eqVals] at he
    cases he
    simp [Op.eqFields]
  | f :: fs, o, ks, r, hf, he => by
    simp only [flatFields] at hf
    cases hr : rec f.type with
    | none => simp [hr] at hf
    | some a =>
      simp only [hr] at hf
      split at hf
      · cases hf
      · rename_i hc
        simp only [Bool.or_eq_true, bne_iff_ne, not_or, Decidable.not_not, beq_iff_eq, ne_eq] at hc
        obtain ⟨⟨hname, hoff⟩, hsz⟩ := hc
        simp only [Option.map_eq_some_iff] at hf
        obtain ⟨ks', hks', rfl⟩ := hf
        obtain ⟨r1, r2, h1, h2, rfl⟩ := eqVals_append he
        have hlen := eqVals_length he
        simp only [List.length_append, List.length_drop] at hlen
        have hlx : o + a.length ≤ xs.length ∨ a.length = 0 := by omega
        have hly : o + a.length ≤ ys.length ∨ a.length = 0 := by omega
        rw [List.drop_drop, List.drop_drop] at h2
        have hrest := eqFields_flat d hsc ih fs (o + a.length) ks' r2 hks' h2
        obtain ⟨hu, hag⟩ := hsc _ _ hr
        have hq := ih f.type a hr _ _ r1 h1
        by_cases ho : o + a.length ≤ xs.length ∧ o + a.length ≤ ys.length
        · have hp1 := run_part (P := P) (w := w) (xs := xs) (o := o) hsz hu hag ho.1
          have hp2 := run_part (P := P) (w := w) (xs := ys) (o := o) hsz hu hag ho.2
          rw [Op.eqFields, if_pos hname, hoff]
          simp only [Sem.run_bind, hp1, hp2, hq, Result.andThen_ok]
          cases r1
          · simp
          · simpa using hrest
        · have ha0 : a.length = 0 := by omega
          have hagg : aggT P f.type = true := by
            rcases hag with hag | hag
            · exact hag
            · omega
          have hp : ∀ zs : List Value, (part f.type zs.toArray o).run P w = .ok (ofCells P f.type ((zs.drop o).take a.length)) w := by
            intro zs
            obtain ⟨d', hd'⟩ := Option.isSome_iff_exists.1 hu
            have hi : (isAgg f.type).run P w = .ok (aggT P f.type) w := by
              simp only [isAgg, Sem.run_bind, run_underlying hd', Result.andThen_ok, aggT, hd']
              cases d' <;> rfl
            simp only [Option.map_eq_some_iff] at hsz
            obtain ⟨i, hi', hi2⟩ := hsz
            simp only [part, Sem.run_bind, hi, Result.andThen_ok, hagg, if_true, Sem.run_bind, sizeOf, typeInfo, run_program, Result.andThen_ok, hi', Sem.run_pure, ofCells, hi2, ha0]
            congr 1
            simp
          rw [Op.eqFields, if_pos hname, hoff]
          simp only [Sem.run_bind, hp, hq, Result.andThen_ok]
          cases r1
          · simp
          · simpa using hrest

theorem equal_flat : ∀ (n d : Nat) (t : TypeId) (ks : List SK), flatK P n t = some ks → ∀ as bs r, eqVals ks as bs = some r → (Op.equalIn (d + n) t (ofCells P t as) (ofCells P t bs)).run P w = .ok r w
  | 0, d, t, ks, hk, as, bs, r, he => by simp [flatK] at hk
  | n + 1, d, t, ks, hk, as, bs, r, he => by
    simp only [flatK] at hk
    split at hk
    · rename_i hu
      cases hk
      obtain ⟨a, b, rfl, rfl, hv⟩ := eqVals_one he
      cases a <;> cases b <;> simp [eqVal] at hv
      subst hv
      simp [ofCells, aggT, hu, Op.equalIn, run_underlying hu, ← Nat.add_assoc]
    · rename_i k hu
      cases hk
      obtain ⟨a, b, rfl, rfl, hv⟩ := eqVals_one he
      cases a <;> cases b <;> simp [eqVal] at hv
      obtain ⟨rfl, rfl⟩ := hv
      simp [ofCells, aggT, hu, Op.equalIn, run_underlying hu, ← Nat.add_assoc]
      rfl
    · rename_i hu
      cases hk
      obtain ⟨a, b, rfl, rfl, hv⟩ := eqVals_one he
      cases a <;> cases b <;> simp [eqVal] at hv
      subst hv
      rename_i s1 s2
      have := run_equalIn_string (P := P) w (d + n) t s1 s2 hu
      simp only [ofCells, aggT, hu, Bool.false_eq_true, if_false, List.headD_cons]
      rw [show d + (n + 1) = d + n + 1 from rfl, this, toList_eq_iff]
    · rename_i fs hu
      split at hk
      · cases hk
      · rename_i hst
        have hfo : P.fieldsOf t = fs := by simp [Program.fieldsOf, hu]
        have h1 := run_equalIn_struct (P := P) w (d + n) t as.toArray bs.toArray (by rw [hfo]; exact hu) (by simpa using hst)
        simp only [ofCells, aggT, hu, if_true]
        rw [show d + (n + 1) = d + n + 1 from rfl, h1, hfo]
        exact eqFields_flat (P := P) (w := w) (d + n) (rec := flatK P n) (fun t ks h => flatK_scalar h) (fun t ks h as bs r he => equal_flat n d t ks h as bs r he) fs.toList 0 ks r hk (by simpa using he)
    · cases hk

end
end Go.Abs

/- The abstract layer, part E: the other operations that only compute or read: operators, conversions, texts' bytes, lengths, cuts, structs built and taken apart. -/
set_option linter.unusedVariables false
set_option linter.unusedSimpArgs false
namespace Go.Abs
open Go.RowKit
section
variable {P : Program} {G : Gh} {w : World} {A : Nat → Prop} {h : Heap}

theorem boolOf_sound {op : BinOp} {t : TypeId} {x y : Value} {b : Option Bool} {v : AV} (hx : ∀ k n, x ≠ .int k n) (hs : ∀ s, x ≠ .string s) (hf : ∀ k n, x ≠ .float k n) (hc : ∀ k n m, x ≠ .complex k n m)
    (he : ∀ r, b = some r → (Op.equal t x y).run P w = .ok r w) (hv : boolOf op b = some v) : ∃ z, (binOp op t x y).run P w = .ok z w ∧ Rel G w A h v z := by
  cases b with
  | none => cases op <;> simp [boolOf] at hv
  | some r =>
    have he' := he r rfl
    cases op <;> simp only [boolOf] at hv <;> try cases hv
    · have : binOp .eql t x y = (do pure (.bool (← Op.equal t x y))) := by
        cases x <;> first
          | exact absurd rfl (hx _ _)
          | exact absurd rfl (hs _)
          | exact absurd rfl (hf _ _)
          | exact absurd rfl (hc _ _ _)
          | rfl
      refine ⟨.bool r, ?_, .sc ..⟩
      rw [this]
      simp [he']
    · have : binOp .neq t x y = (do pure (.bool (!(← Op.equal t x y)))) := by
        cases x <;> first
          | exact absurd rfl (hx _ _)
          | exact absurd rfl (hs _)
          | exact absurd rfl (hf _ _)
          | exact absurd rfl (hc _ _ _)
          | rfl
      refine ⟨.bool (!r), ?_, .sc ..⟩
      rw [this]
      simp [he']

theorem eqIn_bool (d : Nat) {t : TypeId} (hd : P.underlying t = some .bool) (a b : Bool) : (Op.equalIn (d + 1) t (.bool a) (.bool b)).run P w = .ok (a == b) w := by
  simp [Op.equalIn, run_underlying hd]
theorem eqIn_nilFunc (d : Nat) {t : TypeId} {p q : Array TypeId} {s : Bool} (hd : P.underlying t = some (.func p q s)) : (Op.equalIn (d + 1) t .nilFunc .nilFunc).run P w = .ok true w := by
  simp [Op.equalIn, run_underlying hd]
theorem eqIn_func (d : Nat) {t : TypeId} {p q : Array TypeId} {s : Bool} (hd : P.underlying t = some (.func p q s)) (f : Fn) (a b : Array Value) : (Op.equalIn (d + 1) t (.func f a b) .nilFunc).run P w = .ok false w := by
  simp [Op.equalIn, run_underlying hd]
theorem eqIn_nilPtr (d : Nat) {t e : TypeId} (hd : P.underlying t = some (.pointer e)) : (Op.equalIn (d + 1) t (.pointer none) (.pointer none)).run P w = .ok true w := by
  simp [Op.equalIn, run_underlying hd]
theorem eqIn_ptr (d : Nat) {t e : TypeId} (hd : P.underlying t = some (.pointer e)) (a : Addr) : (Op.equalIn (d + 1) t (.pointer (some a)) (.pointer none)).run P w = .ok false w := by
  simp [Op.equalIn, run_underlying hd]
theorem eqIn_ifaceNil (d : Nat) {t : TypeId} {ms : Array (String × TypeId)} (hd : P.underlying t = some (.interface ms)) (u : TypeId) (v : Value) : (Op.equalIn (d + 1) t (.iface u v) .nilIface).run P w = .ok false w := by
  simp [Op.equalIn, run_underlying hd]
theorem eqIn_nilIface (d : Nat) {t : TypeId} {ms : Array (String × TypeId)} (hd : P.underlying t = some (.interface ms)) (u : TypeId) (v : Value) : (Op.equalIn (d + 1) t .nilIface (.iface u v)).run P w = .ok false w := by
  simp [Op.equalIn, run_underlying hd]
theorem eqIn_nilNil (d : Nat) {t : TypeId} {ms : Array (String × TypeId)} (hd : P.underlying t = some (.interface ms)) : (Op.equalIn (d + 1) t .nilIface .nilIface).run P w = .ok true w := by
  simp [Op.equalIn, run_underlying hd]
theorem equal_succ (t : TypeId) (x y : Value) : Op.equal t x y = Op.equalIn (9999 + 1) t x y := rfl

theorem equal_sound {t : TypeId} {ti : TI} (hti : tiOf P t = some ti) {x y : AV} {a b : Value} (hx : Rel G w A h x a) (hy : Rel G w A h y b) {r : Bool} (he : eqA ti x y = some r) :
    (Op.equal t a b).run P w = .ok r w ∧ (∀ k n, a ≠ .int k n) ∧ (∀ s, a ≠ .string s) ∧ (∀ k n, a ≠ .float k n) ∧ (∀ k n m, a ≠ .complex k n m) ∧
      ((∃ xs ys, a = .agg xs ∧ b = .agg ys ∧ P.eqGuardType P.depth t = false) ∨ ((∀ c d, ¬ (a = .agg c ∧ b = .agg d)) ∧ ¬ (a = .nilIface ∧ b = .nilIface))) := by
  obtain ⟨d, hd, h1, h2, h3, h4, h5, h6⟩ := tiOf_more hti
  rw [equal_succ]
  unfold eqA at he
  split at he
  · obtain rfl := hx.sc_inv
    obtain rfl := hy.sc_inv
    split at he
    · rename_i hb
      obtain rfl := h2 hb
      cases he
      exact ⟨eqIn_bool _ hd _ _, by simp, by simp, by simp, by simp, .inr (by simp)⟩
    · cases he
  · obtain rfl := hx.sc_inv
    obtain rfl := hy.sc_inv
    split at he
    · rename_i hb
      obtain ⟨p, q, s, rfl⟩ := h3 hb
      cases he
      exact ⟨eqIn_nilFunc _ hd, by simp, by simp, by simp, by simp, .inr (by simp)⟩
    · cases he
  · obtain ⟨vs, rfl, _⟩ := hx.fn_inv
    obtain rfl := hy.sc_inv
    split at he
    · rename_i hb
      obtain ⟨p, q, s, rfl⟩ := h3 hb
      cases he
      exact ⟨eqIn_func _ hd _ _ _, by simp, by simp, by simp, by simp, .inr (by simp)⟩
    · cases he
  · obtain rfl := hx.sc_inv
    obtain rfl := hy.sc_inv
    split at he
    · rename_i hb
      obtain ⟨p, rfl⟩ := h4 hb
      cases he
      exact ⟨eqIn_nilPtr _ hd, by simp, by simp, by simp, by simp, .inr (by simp)⟩
    · cases he
  · obtain rfl := hx.sc_inv
    obtain rfl := hy.sc_inv
    split at he
    · rename_i hb
      obtain ⟨p, rfl⟩ := h1 hb
      cases he
      exact ⟨eqIn_ifaceNil _ hd _ _, by simp, by simp, by simp, by simp, .inr (by simp)⟩
    · cases he
  · obtain rfl := hx.sc_inv
    obtain rfl := hy.sc_inv
    split at he
    · rename_i hb
      obtain ⟨p, rfl⟩ := h1 hb
      cases he
      exact ⟨eqIn_nilIface _ hd _ _, by simp, by simp, by simp, by simp, .inr (by simp)⟩
    · cases he
  · split at he
    · rename_i cs ds ks hk
      split at he
      · rename_i hag
        obtain ⟨hg, hfl⟩ := h6 ks hk
        obtain ⟨xs, rfl, _, hxs⟩ := hx.agg_inv
        obtain ⟨ys, rfl, _, hys⟩ := hy.agg_inv
        have hev := eqCells_vals hxs hys he
        have heq := equal_flat (P := P) (w := w) 8 9992 t ks hfl xs ys r hev
        obtain ⟨_, _, _, _, _, _, hagg, _⟩ := tiOf_parts hti
        rw [hag] at hagg
        refine ⟨?_, by simp, by simp, by simp, by simp, .inl ⟨_, _, rfl, rfl, hg⟩⟩
        simpa only [ofCells, ← hagg, if_true] using heq
      · cases he
    · cases he
  · cases he

theorem binA_sound (S : SatH G w A h) {op : BinOp} {t : TypeId} {xo yo : Operand} {x y v : AV} {a b : Value} (hx : Rel G w A h x a) (hy : Rel G w A h y b) (hv : binA P h op t xo yo x y = some v) :
    ∃ z, (do eqGuard op t xo yo a b; binOp op t a b : Sem Value).run P w = .ok z w ∧ Rel G w A h v z := by
  have other : ∀ {ti : TI}, tiOf P t = some ti → boolOf op (eqA ti x y) = some v → ∃ z, (do eqGuard op t xo yo a b; binOp op t a b : Sem Value).run P w = .ok z w ∧ Rel G w A h v z := by
    intro ti hti hv
    cases he : eqA ti x y with
    | none => rw [he] at hv; cases op <;> simp [boolOf] at hv
    | some r =>
      obtain ⟨h1, h2, h3, h4, h5, h6⟩ := equal_sound hti hx hy he
      rw [he] at hv
      obtain ⟨z, h7, h8⟩ := boolOf_sound (P := P) (G := G) (w := w) (A := A) (h := h) (t := t) (y := b) h2 h3 h4 h5 (fun r' hr => by cases hr; exact h1) hv
      refine ⟨z, ?_, h8⟩
      have hg : (eqGuard op t xo yo a b).run P w = .ok () w := by
        rcases h6 with ⟨xs, ys, rfl, rfl, hg⟩ | ⟨h9, h10⟩
        · exact run_eqGuard_agg w op t xo yo xs ys hg
        · exact eqGuard_other h9 h10
      simp only [Sem.run_bind, hg, Result.andThen_ok, h7]
  unfold binA at hv
  split at hv
  · rename_i k n k' m
    obtain rfl := hx.sc_inv
    obtain rfl := hy.sc_inv
    split at hv
    · rename_i hk
      subst hk
      simp only [Option.map_eq_some_iff] at hv
      obtain ⟨z, hz, rfl⟩ := hv
      refine ⟨z, ?_, .sc ..⟩
      simp only [Sem.run_bind, eqGuard_other (P := P) (w := w) (op := op) (t := t) (xo := xo) (yo := yo) (x := .int k n) (y := .int k m) (by simp) (by simp), Result.andThen_ok]
      exact intBin_sound t hz
    · cases hv
  · obtain rfl := hx.sc_inv
    obtain rfl := hy.sc_inv
    simp only [Option.map_eq_some_iff] at hv
    obtain ⟨z, hz, rfl⟩ := hv
    refine ⟨z, ?_, .sc ..⟩
    rename_i s1 s2
    simp only [Sem.run_bind, eqGuard_other (P := P) (w := w) (op := op) (t := t) (xo := xo) (yo := yo) (x := .string s1) (y := .string s2) (by simp) (by simp), Result.andThen_ok]
    exact strBin_sound t hz
  · obtain rfl := hx.sc_inv
    obtain rfl := hy.sc_inv
    split at hv
    · rename_i hc
      cases yo <;> simp [isConstNil] at hc
      rename_i c
      split at hv
      · rename_i ti hti
        split at hv
        · rename_i hif
          obtain ⟨d, hd, h1, _⟩ := tiOf_more hti
          obtain ⟨ms, rfl⟩ := h1 hif
          obtain ⟨z, h7, h8⟩ := boolOf_sound (P := P) (G := G) (w := w) (A := A) (h := h) (t := t) (x := .nilIface) (y := .nilIface) (by simp) (by simp) (by simp) (by simp) (fun r' hr => by cases hr; exact eqIn_nilNil _ hd) hv
          refine ⟨z, ?_, h8⟩
          have hg : (eqGuard op t xo (.const c) .nilIface .nilIface).run P w = .ok () w := by rw [eqGuard_nil_constR]; rfl
          simp only [Sem.run_bind, hg, Result.andThen_ok, h7]
        · cases hv
      · cases hv
    · cases hv
  · obtain rfl := hy.sc_inv
    split at hv
    · cases hv
    · rename_i ti hti
      split at hv
      · rename_i hp
        obtain ⟨d, hd, _, _, _, h4, _⟩ := tiOf_more hti
        obtain ⟨e, rfl⟩ := h4 hp
        split at hv
        · obtain rfl := hx.sc_inv
          obtain ⟨z, h7, h8⟩ := boolOf_sound (P := P) (G := G) (w := w) (A := A) (h := h) (t := t) (x := .pointer none) (y := .pointer none) (by simp) (by simp) (by simp) (by simp) (fun r' hr => by cases hr; exact eqIn_nilPtr _ hd) hv
          refine ⟨z, ?_, h8⟩
          simp only [Sem.run_bind, eqGuard_other (P := P) (w := w) (op := op) (t := t) (xo := xo) (yo := yo) (x := .pointer none) (y := .pointer none) (by simp) (by simp), Result.andThen_ok, h7]
        · split at hv
          · rename_i cs hpc
            obtain ⟨b0, o0, _, rfl, _⟩ := ptrCells_sound S hx hpc
            obtain ⟨z, h7, h8⟩ := boolOf_sound (P := P) (G := G) (w := w) (A := A) (h := h) (t := t) (x := .pointer (some ⟨b0, o0, none⟩)) (y := .pointer none) (by simp) (by simp) (by simp) (by simp) (fun r' hr => by cases hr; exact eqIn_ptr _ hd _) hv
            refine ⟨z, ?_, h8⟩
            simp only [Sem.run_bind, eqGuard_other (P := P) (w := w) (op := op) (t := t) (xo := xo) (yo := yo) (x := .pointer (some ⟨b0, o0, none⟩)) (y := .pointer none) (by simp) (by simp), Result.andThen_ok, h7]
          · cases hv
      · cases hv
  · split at hv
    · cases hv
    · rename_i ti hti
      exact other hti hv

/-! ### One operand; conversions -/

def unA (op : UnOp) (x : AV) : Option AV :=
  match op, x with
  | .not, .sc (.bool b) => some (.sc (.bool (!b)))
  | .neg, .sc (.int k n) => some (.sc (.int k (k.wrap (0 - n))))
  | _, _ => none

theorem unA_sound {op : UnOp} {x v : AV} {a : Value} (hx : Rel G w A h x a) (hv : unA op x = some v) : ∃ z, (Op.unary op a).run P w = .ok z w ∧ Rel G w A h v z := by
  unfold unA at hv
  split at hv
  · obtain rfl := hx.sc_inv
    cases hv
    exact ⟨_, by simp [Op.unary], .sc ..⟩
  · obtain rfl := hx.sc_inv
    cases hv
    exact ⟨_, by simp [Op.unary, Op.intArith], .sc ..⟩
  · cases hv

def convA (P : Program) (src dst : TypeId) (x : AV) : Option AV :=
  match tiOf P src, tiOf P dst, x with
  | some _, some td, .sc (.int _ n) => td.int.map fun k => .sc (.int k (k.wrap n))
  | some ts, some td, .sc (.string s) => if ts.str && td.str then some (.sc (.string s)) else none
  | _, _, _ => none

theorem convA_sound {src dst : TypeId} {x v : AV} {a : Value} (hx : Rel G w A h x a) (hv : convA P src dst x = some v) : ∃ z, (convert src dst a).run P w = .ok z w ∧ Rel G w A h v z := by
  unfold convA at hv
  split at hv
  · rename_i ts td k n hs ht
    obtain rfl := hx.sc_inv
    simp only [Option.map_eq_some_iff] at hv
    obtain ⟨k', hk', rfl⟩ := hv
    obtain ⟨i, d, _, hd, _⟩ := tiOf_parts hs
    obtain ⟨i', d', _, hd', _, _, _, _, _, _, _, _, hint⟩ := tiOf_parts ht
    obtain rfl := hint k' hk'
    refine ⟨.int k' (k'.wrap n), ?_, .sc ..⟩
    simp only [convert, Sem.run_bind, run_underlying hd, run_underlying hd', Result.andThen_ok]
    cases d <;> simp [Conv.intToInt]
  · rename_i ts td s hs ht
    obtain rfl := hx.sc_inv
    split at hv
    · rename_i hc
      simp only [Bool.and_eq_true] at hc
      cases hv
      obtain ⟨i, d, _, hd, _, _, _, _, _, _, _, h1, _⟩ := tiOf_parts hs
      obtain ⟨i', d', _, hd', _, _, _, _, _, _, _, h2, _⟩ := tiOf_parts ht
      obtain rfl := h1 hc.1
      obtain rfl := h2 hc.2
      exact ⟨.string s, by simp [convert, run_underlying hd, run_underlying hd'], .sc ..⟩
    · cases hv
  · cases hv

def mkIfaceA (P : Program) (t : TypeId) (x : AV) : Option AV :=
  match tiOf P t, x with
  | some ti, .sc v => if ti.iface then none else some (.sc (.iface t v))
  | _, _ => none

theorem mkIfaceA_sound {t : TypeId} {x v : AV} {a : Value} (hx : Rel G w A h x a) (hv : mkIfaceA P t x = some v) : ∃ z, (Instr.makeInterface t a).run P w = .ok z w ∧ Rel G w A h v z := by
  unfold mkIfaceA at hv
  split at hv
  · rename_i ti u ht
    obtain rfl := hx.sc_inv
    split at hv
    · cases hv
    · rename_i hi
      cases hv
      refine ⟨.iface t a, ?_, .sc ..⟩
      unfold tiOf at ht
      split at ht
      · rename_i i d _ hd
        cases ht
        simp only [Instr.makeInterface, Sem.run_bind, run_underlying hd, Result.andThen_ok]
        cases d <;> first
          | rfl
          | simp at hi
      · cases ht
  · cases hv
end
end Go.Abs

/- The abstract layer, part F: lengths, cuts, texts' bytes, structs built and taken apart; all operations that only compute or read, together. -/
set_option linter.unusedVariables false
set_option linter.unusedSimpArgs false
namespace Go.Abs
open Go.RowKit
section
variable {P : Program} {G : Gh} {w : World} {A : Nat → Prop} {h : Heap}

/-! ### Lengths -/

def lenA (P : Program) (h : Heap) (t : TypeId) (x : AV) : Option AV :=
  match tiOf P t with
  | none => none
  | some ti =>
    if ti.elem.isSome then (elems h x).map fun l => .sc (.int .i64 l.length)
    else if ti.str then (match x with | .sc (.string s) => some (.sc (.int .i64 s.size)) | _ => none)
    else if ti.mapk.isSome then (match x with
      | .mp id => match look id h with
        | some (.map m) => some (.sc (.int .i64 m.length))
        | _ => none
      | _ => none)
    else none

theorem elems_len (S : SatH G w A h) {x : AV} {a : Value} (hx : Rel G w A h x a) {l : List (List AV)} (he : elems h x = some l) : ∃ b cap, a = .slice b l.length cap ∧ l.length ≤ cap := by
  unfold elems at he
  split at he
  · cases he
    obtain ⟨b, rfl⟩ := hx.emp_inv
    exact ⟨b, 0, rfl, Nat.le_refl _⟩
  · cases he
    rcases hx.lst_inv with ⟨rfl, b, cap, rfl⟩ | ⟨b, off, cap, f, rfl, _, _, hc, _⟩
    · exact ⟨b, cap, rfl, Nat.zero_le _⟩
    · exact ⟨_, cap, rfl, hc⟩
  · rename_i id g lo
    split at he
    · rename_i g' sz L hl
      split at he
      · rename_i hg
        cases he
        obtain ⟨_, _, ho⟩ := hx.own_inv
        obtain ⟨hlo, hn, b, rfl, _⟩ := (ho _ _ _ hl).2 hg
        exact ⟨b, _, by rw [List.length_drop], by rw [List.length_drop]; omega⟩
      · cases he
    · cases he
  · cases he

theorem lenA_sound (S : SatH G w A h) {t ty : TypeId} {x v : AV} {a : Value} (hx : Rel G w A h x a) (hv : lenA P h t x = some v) : ∃ z, (Builtin.len_ #[t] ty #[a]).run P w = .ok z w ∧ Rel G w A h v z := by
  unfold lenA at hv
  split at hv
  · cases hv
  · rename_i ti hti
    obtain ⟨i, d, hi, hd, _, _, _, _, hel, _, hmk, hst, _⟩ := tiOf_parts hti
    split at hv
    · rename_i hs
      obtain ⟨e, he⟩ := Option.isSome_iff_exists.1 hs
      obtain rfl := hel e he
      simp only [Option.map_eq_some_iff] at hv
      obtain ⟨l, hl, rfl⟩ := hv
      obtain ⟨b, cap, rfl, _⟩ := elems_len S hx hl
      exact ⟨_, by simp [Builtin.len_, run_underlying hd]; rfl, .sc ..⟩
    · split at hv
      · rename_i hs
        obtain rfl := hst hs
        split at hv
        · cases hv
          obtain rfl := hx.sc_inv
          exact ⟨_, by simp [Builtin.len_, run_underlying hd]; rfl, .sc ..⟩
        · cases hv
      · split at hv
        · rename_i hm
          obtain ⟨⟨k, e⟩, hke⟩ := Option.isSome_iff_exists.1 hm
          obtain rfl := hmk k e hke
          split at hv
          · split at hv
            · rename_i id m hl
              cases hv
              obtain ⟨_, _, ho⟩ := hx.mp_inv
              obtain ⟨b, hb, rfl⟩ := ho _ hl
              obtain ⟨b', es, clock, hb', hh, hlen, _⟩ := (S.obj _ _ hl).2
              rw [hb] at hb'
              cases hb'
              refine ⟨.int .i64 m.length, ?_, .sc ..⟩
              have hg : (getObj b).run P w = .ok (.map es clock) w := by simp [getObj, Sem.run, hh]
              simp [Builtin.len_, run_underlying hd, hg, hlen, goInt]
            · cases hv
          · cases hv
        · cases hv

/-! ### Cuts -/

/-- A bound of a cut: none; or a number. -/
def bnd : Option AV → Option (Option Int)
  | none => some none
  | some (.sc (.int _ i)) => some (some i)
  | _ => none

def cutStr (s : ByteArray) (lo hi : Option Int) : Option ByteArray :=
  let h := hi.getD s.size
  let l := lo.getD 0
  if 0 ≤ l ∧ l ≤ h ∧ h ≤ s.size then some (s.extract l.toNat h.toNat) else none

def sliceA (P : Program) (h : Heap) (t : TypeId) (x : AV) (lo hi mx : Option AV) : Option AV :=
  match tiOf P t, bnd lo, bnd hi, bnd mx with
  | some ti, some l, some hh, some m =>
    if ti.str then (match x, m with
      | .sc (.string s), none => (cutStr s l hh).map fun r => .sc (.string r)
      | _, _ => none)
    else match ti.elem with
      | none => none
      | some e => match tiOf P e with
        | none => none
        | some te => match x with
          | .emp => if (m.isNone || hh.isSome) = true ∧ l.getD 0 = 0 ∧ hh.getD 0 = 0 ∧ m.getD 0 = 0 then some .emp else none
          | .lst sz xs => if sz = te.size then (match m, hh with
            | none, hh =>
              if 0 ≤ l.getD 0 ∧ l.getD 0 ≤ hh.getD xs.length ∧ hh.getD xs.length ≤ xs.length then some (.lst sz ((xs.take (hh.getD xs.length).toNat).drop (l.getD 0).toNat)) else none
            | some c, some b =>
              if 0 ≤ l.getD 0 ∧ l.getD 0 ≤ b ∧ b ≤ c ∧ c ≤ xs.length then (if l.getD 0 = c then some .emp else some (.lst sz ((xs.take b.toNat).drop (l.getD 0).toNat))) else none
            | some _, none => none) else none
          | .own id g lo0 => match look id h with
            | some (.arr g' sz L) =>
              if m = none ∧ hh = none ∧ g = g' ∧ 0 ≤ l.getD 0 ∧ lo0 + l.getD 0 ≤ L.length ∧ sz = te.size then some (.own id g (lo0 + (l.getD 0).toNat)) else none
            | _ => none
          | _ => none
  | _, _, _, _ => none

theorem bnd_none {o : Option AV} (hb : bnd o = some none) : o = none := by
  unfold bnd at hb
  split at hb
  · rfl
  · cases hb
  · cases hb
theorem bnd_some {o : Option AV} {i : Int} (hb : bnd o = some (some i)) : ∃ k, o = some (.sc (.int k i)) := by
  unfold bnd at hb
  split at hb
  · cases hb
  · rename_i k j; cases hb; exact ⟨k, rfl⟩
  · cases hb

/-- The machine's operands of a cut. -/
def RelOpt (G : Gh) (w : World) (A : Nat → Prop) (h : Heap) : Option AV → Option Value → Prop
  | none, none => True
  | some v, some x => Rel G w A h v x
  | _, _ => False

theorem relOpt_bnd {o : Option AV} {x : Option Value} (r : RelOpt G w A h o x) {b : Option Int} (hb : bnd o = some b) : (b = none ∧ x = none) ∨ ∃ k i, b = some i ∧ x = some (.int k i) := by
  cases b with
  | none =>
    have := bnd_none hb
    subst this
    cases x with
    | none => exact .inl ⟨rfl, rfl⟩
    | some _ => exact r.elim
  | some i =>
    obtain ⟨k, rfl⟩ := bnd_some hb
    cases x with
    | none => exact r.elim
    | some x =>
      have : x = .int k i := Rel.sc_inv r
      subst this
      exact .inr ⟨k, i, rfl, rfl⟩

/-- The bounds, where they fit. -/
theorem run_bounds (isS : Bool) (len cap : Nat) (lx hx mx : Option Value) {l hh m : Option Int} (hl : (l = none ∧ lx = none) ∨ ∃ k i, l = some i ∧ lx = some (.int k i)) (hhh : (hh = none ∧ hx = none) ∨ ∃ k i, hh = some i ∧ hx = some (.int k i))
    (hm : (m = none ∧ mx = none) ∨ ∃ k i, m = some i ∧ mx = some (.int k i)) (hmh : m ≠ none → hh ≠ none)
    (hb : 0 ≤ l.getD 0 ∧ l.getD 0 ≤ hh.getD len ∧ hh.getD len ≤ m.getD cap ∧ m.getD cap ≤ cap) :
    (Instr.sliceBounds isS len cap lx hx mx).run P w = .ok ((l.getD 0).toNat, (hh.getD len).toNat, (m.getD cap).toNat) w := by
  have hbd : ∀ (k : IntKind) (i : Int) (y : Nat) (c : BoundsCode), 0 ≤ i → i ≤ y → (Instr.sliceBound (.int k i) y c).run P w = .ok i.toNat w := fun k i y c h0 h1 => by
    simp [Instr.sliceBound, asIntOf, h0, h1]
  rcases hm with ⟨rfl, rfl⟩ | ⟨km, im, rfl, rfl⟩
  · rcases hhh with ⟨rfl, rfl⟩ | ⟨kh, ih, rfl, rfl⟩
    · rcases hl with ⟨rfl, rfl⟩ | ⟨kl, il, rfl, rfl⟩
      · simp [Instr.sliceBounds]
      · simp only [Option.getD_some, Option.getD_none] at hb
        simp [Instr.sliceBounds, hbd kl il len _ hb.1 hb.2.1]
    · rcases hl with ⟨rfl, rfl⟩ | ⟨kl, il, rfl, rfl⟩
      · simp only [Option.getD_some, Option.getD_none] at hb
        simp [Instr.sliceBounds, hbd kh ih cap _ (by omega) hb.2.2.1]
      · simp only [Option.getD_some, Option.getD_none] at hb
        simp [Instr.sliceBounds, hbd kh ih cap _ (by omega) hb.2.2.1, hbd kl il ih.toNat _ hb.1 (by omega)]
  · rcases hhh with ⟨rfl, rfl⟩ | ⟨kh, ih, rfl, rfl⟩
    · exact absurd rfl (hmh (by simp))
    · rcases hl with ⟨rfl, rfl⟩ | ⟨kl, il, rfl, rfl⟩
      · simp only [Option.getD_some, Option.getD_none] at hb
        simp [Instr.sliceBounds, hbd km im cap _ (by omega) hb.2.2.2, hbd kh ih im.toNat _ (by omega) (by omega)]
      · simp only [Option.getD_some] at hb
        simp [Instr.sliceBounds, hbd km im cap _ (by omega) hb.2.2.2, hbd kh ih im.toNat _ (by omega) (by omega), hbd kl il ih.toNat _ hb.1 (by omega)]

theorem lst_cut {sz : Nat} {xs : List (List AV)} {a : Option Addr} {n cap l b c : Nat} (r : Rel G w A h (.lst sz xs) (.slice a n cap)) (h1 : l ≤ b) (h2 : b ≤ xs.length) (h3 : b ≤ c) (h4 : c ≤ cap) :
    Rel G w A h (.lst sz ((xs.take b).drop l)) (.slice (if c = l then a else a.map (·.add (l * sz))) (b - l) (c - l)) := by
  by_cases he : l = b
  · subst he
    have : (xs.take l).drop l = [] := List.drop_eq_nil_of_le (by simp; omega)
    rw [this, Nat.sub_self]
    exact .lnil ..
  · rcases r.lst_inv with ⟨rfl, _⟩ | ⟨b0, off, cap', f, hx, hne, hz, hcap, hsz, hc, h1c, hr⟩
    · simp at h2; omega
    · cases hx
      have hcl : ¬ c = l := by omega
      simp only [hcl, if_false, Option.map_some, Addr.add_lit]
      have hlen : ((xs.take b).drop l).length = b - l := by simp; omega
      have hget : ∀ (i : Nat) (cs : List AV), ((xs.take b).drop l)[i]? = some cs → xs[l + i]? = some cs := by
        intro i cs hi
        rw [List.getElem?_drop, List.getElem?_take] at hi
        split at hi
        · exact hi
        · cases hi
      rw [← hlen]
      refine .lst _ _ sz _ b0 (off + l * sz) (c - l) (fun i j => f (l + i) j) (fun e => by rw [e] at hlen; simp at hlen; omega) hz (by omega) (fun i cs hi => hsz _ _ (hget i cs hi)) (fun i cs hi j d hj => ?_) (fun i cs hi j d hj => h1c _ _ (hget i cs hi) j d hj) (fun i cs hi j d hj => hr _ _ (hget i cs hi) j d hj)
      have := hc _ _ (hget i cs hi) j d hj
      rwa [Nat.add_mul, ← Nat.add_assoc] at this

theorem sliceA_sound (S : SatH G w A h) {t : TypeId} {x v : AV} {a : Value} {lo hi mx : Option AV} {lx hx mxx : Option Value} (hx0 : Rel G w A h x a) (hl : RelOpt G w A h lo lx) (hh : RelOpt G w A h hi hx) (hm : RelOpt G w A h mx mxx)
    (hv : sliceA P h t x lo hi mx = some v) : ∃ z, (Instr.sliceAt t a lx hx mxx).run P w = .ok z w ∧ Rel G w A h v z := by
  unfold sliceA at hv
  split at hv
  case h_2 => cases hv
  rename_i ti l b m hti hbl hbh hbm
  have rl := relOpt_bnd hl hbl
  have rh := relOpt_bnd hh hbh
  have rm := relOpt_bnd hm hbm
  obtain ⟨inf, d, hin, hd, _, _, _, _, hel, _, _, hst, _⟩ := tiOf_parts hti
  split at hv
  · rename_i hs
    obtain rfl := hst hs
    split at hv
    · rename_i s
      obtain rfl := hx0.sc_inv
      simp only [Option.map_eq_some_iff] at hv
      obtain ⟨r, hr, rfl⟩ := hv
      unfold cutStr at hr
      simp only at hr
      split at hr
      · rename_i hb
        cases hr
        rcases rm with ⟨_, rfl⟩ | ⟨_, _, h', _⟩
        · have hbs := run_bounds (P := P) (w := w) false s.size s.size lx hx none (m := none) rl rh (.inl ⟨rfl, rfl⟩) (by simp) ⟨hb.1, hb.2.1, hb.2.2, Int.le_refl _⟩
          refine ⟨_, ?_, .sc ..⟩
          simp [Instr.sliceAt, Instr.slice, run_underlying hd, hbs]
        · cases h'
      · cases hr
    · cases hv
  · split at hv
    · cases hv
    · rename_i e he
      obtain rfl := hel e he
      split at hv
      · cases hv
      · rename_i te hte
        have hsz := run_sizeOf (P := P) hte w
        split at hv
        · -- emp
          split at hv
          · rename_i hc
            cases hv
            obtain ⟨b0, rfl⟩ := hx0.emp_inv
            have hmh : m ≠ none → b ≠ none := by
              intro h1 h2
              subst h2
              cases m <;> simp_all
            have hb : 0 ≤ l.getD 0 ∧ l.getD 0 ≤ b.getD (0 : Nat) ∧ b.getD (0 : Nat) ≤ m.getD (0 : Nat) ∧ m.getD (0 : Nat) ≤ (0 : Nat) := by
              obtain ⟨_, h1, h2, h3⟩ := hc
              refine ⟨by omega, ?_, ?_, ?_⟩ <;> simp only [Int.natCast_zero] <;> omega
            have hbs := run_bounds (P := P) (w := w) true 0 0 lx hx mxx rl rh rm hmh hb
            refine ⟨.slice b0 0 0, ?_, .emp ..⟩
            have h1 : (l.getD 0).toNat = 0 := by omega
            have h2 : (b.getD (0:Nat)).toNat = 0 := by have := hb.2.2.1; have := hb.2.2.2; omega
            have h3 : (m.getD (0:Nat)).toNat = 0 := by have := hb.2.2.2; omega
            rw [h1, h2, h3] at hbs
            simp [Instr.sliceAt, Instr.slice, run_underlying hd, hbs, hsz]
          · cases hv
        · -- lst
          rename_i sz xs
          split at hv
          case isFalse => cases hv
          rename_i hsze
          have hlen : ∃ b0 cap, a = .slice b0 xs.length cap ∧ xs.length ≤ cap := elems_len S hx0 rfl
          obtain ⟨b0, cap, rfl, hcap⟩ := hlen
          split at hv
          · split at hv
            · rename_i hb
              cases hv
              have hbs := run_bounds (P := P) (w := w) true xs.length cap lx hx mxx (m := none) rl rh rm (by simp) ⟨hb.1, hb.2.1, by have := hb.2.2; simp only [Option.getD_none]; omega, Int.le_refl _⟩
              refine ⟨_, ?_, lst_cut (l := (l.getD 0).toNat) (b := (b.getD xs.length).toNat) (c := cap) hx0 (by omega) (by omega) (by omega) (Nat.le_refl _)⟩
              simp [Instr.sliceAt, Instr.slice, run_underlying hd, hbs, hsz, ← hsze]
            · cases hv
          · rename_i c bb
            split at hv
            · rename_i hb
              have hbs := run_bounds (P := P) (w := w) true xs.length cap lx hx mxx (m := some c) (hh := some bb) rl rh rm (by simp) ⟨hb.1, hb.2.1, hb.2.2.1, by simp only [Option.getD_some]; omega⟩
              simp only [Option.getD_some] at hbs
              have hcut := lst_cut (l := (l.getD 0).toNat) (b := bb.toNat) (c := c.toNat) hx0 (by omega) (by omega) (by omega) (by omega)
              split at hv
              · rename_i hc
                cases hv
                refine ⟨.slice b0 0 0, ?_, .emp ..⟩
                have h1 : (l.getD 0).toNat = c.toNat := by omega
                have h2 : bb.toNat = c.toNat := by omega
                rw [h1, h2] at hbs
                simp [Instr.sliceAt, Instr.slice, run_underlying hd, hbs, hsz]
              · cases hv
                refine ⟨_, ?_, hcut⟩
                simp [Instr.sliceAt, Instr.slice, run_underlying hd, hbs, hsz, ← hsze]
            · cases hv
          · cases hv
        · -- own
          rename_i id g lo0
          split at hv
          · rename_i g' sz L hlk
            split at hv
            · rename_i hc
              obtain ⟨rfl, rfl, rfl, h0, hle, rfl⟩ := hc
              cases hv
              obtain ⟨hid, h1c, ho⟩ := hx0.own_inv
              obtain ⟨hlo, hn, b0, rfl, hb0⟩ := (ho _ _ _ hlk).2 rfl
              rcases rm with ⟨_, rfl⟩ | ⟨_, _, h', _⟩
              case inr => cases h'
              rcases rh with ⟨_, rfl⟩ | ⟨_, _, h', _⟩
              case inr => cases h'
              have hbs := run_bounds (P := P) (w := w) true (L.length - lo0) (G.cap id - lo0) lx none none (m := none) (hh := none) rl (.inl ⟨rfl, rfl⟩) (.inl ⟨rfl, rfl⟩) (by simp) ⟨h0, by simp only [Option.getD_none]; omega, by simp only [Option.getD_none]; omega, Int.le_refl _⟩
              refine ⟨.slice (if G.cap id - lo0 = (l.getD 0).toNat then b0 else b0.map (·.add ((l.getD 0).toNat * te.size))) (L.length - lo0 - (l.getD 0).toNat) (G.cap id - lo0 - (l.getD 0).toNat), ?_, ?_⟩
              · simp [Instr.sliceAt, Instr.slice, run_underlying hd, hbs, hsz]
              · refine .own _ _ _ _ _ _ hid rfl fun g'' sz' L' hl' => ?_
                rw [hlk] at hl'
                cases hl'
                refine ⟨Nat.le_refl _, fun _ => ⟨by omega, hn, (if G.cap id - lo0 = (l.getD 0).toNat then b0 else b0.map (·.add ((l.getD 0).toNat * te.size))), by rw [Nat.sub_sub, Nat.sub_sub], fun hlt => ?_⟩⟩
                · have hne : ¬ (G.cap id - lo0 = (l.getD 0).toNat) := by omega
                  simp only [hne, if_false]
                  rw [hb0 (by omega)]
                  cases G.loc id with
                  | none => rfl
                  | some ad =>
                    simp only [Option.map_some, Addr.add_lit]
                    congr 2
                    rw [Nat.add_mul, Nat.add_assoc]
            · cases hv
          · cases hv
        · cases hv

/-! ### Texts' bytes; structs' fields; tuples -/

def indexA (P : Program) (t : TypeId) (x ix : AV) : Option AV :=
  match tiOf P t, x, ix with
  | some ti, .sc (.string s), .sc (.int _ i) => if ti.str ∧ 0 ≤ i then (s[i.toNat]?).map fun b => .sc (.int .u8 b.toNat) else none
  | _, _, _ => none

theorem indexA_sound {t : TypeId} {x ix v : AV} {a b : Value} (hx : Rel G w A h x a) (hi : Rel G w A h ix b) (hv : indexA P t x ix = some v) : ∃ z, (Instr.index t a b).run P w = .ok z w ∧ Rel G w A h v z := by
  unfold indexA at hv
  split at hv
  · rename_i ti s k i hti
    obtain rfl := hx.sc_inv
    obtain rfl := hi.sc_inv
    split at hv
    · rename_i hc
      obtain ⟨inf, d, hin, hd, _, _, _, _, _, _, _, hst, _⟩ := tiOf_parts hti
      obtain rfl := hst hc.1
      simp only [Option.map_eq_some_iff] at hv
      obtain ⟨c, hcc, rfl⟩ := hv
      exact ⟨.int .u8 c.toNat, by simp [Instr.index, asIntOf, run_underlying hd, hc.2, hcc], .sc ..⟩
    · cases hv
  · cases hv

def extractA (x : AV) (i : Nat) : Option AV :=
  match x with
  | .tup cs => cs[i]?
  | _ => none

theorem extractA_sound {x v : AV} {a : Value} {i : Nat} (hx : Rel G w A h x a) (hv : extractA x i = some v) : ∃ z, (Instr.extract a i).run P w = .ok z w ∧ Rel G w A h v z := by
  unfold extractA at hv
  split at hv
  · obtain ⟨vs, rfl, hl, hr⟩ := hx.tup_inv
    have hlt : i < vs.length := hl ▸ (List.getElem?_eq_some_iff.1 hv).1
    have hg := getD_of_lt hlt
    exact ⟨vs.getD i undef, by simp only [Instr.extract, List.getElem?_toArray, hg]; rfl, hr _ _ hv⟩
  · cases hv

def fieldA (P : Program) (t : TypeId) (x : AV) (f : Nat) : Option AV :=
  match tiOf P t, x with
  | some ti, .agg cs => if ti.fieldsOk then (match ti.fields[f]? with
    | some fi => if fi.agg then (if fi.off + fi.size ≤ cs.length then some (.agg ((cs.drop fi.off).take fi.size)) else none) else cs[fi.off]?
    | none => none) else none
  | _, _ => none

theorem isAgg_run {t : TypeId} (hu : (P.underlying t).isSome = true) : (isAgg t).run P w = .ok (aggT P t) w := by
  obtain ⟨d, hd⟩ := Option.isSome_iff_exists.1 hu
  simp only [isAgg, Sem.run_bind, run_underlying hd, Result.andThen_ok, aggT, hd]
  cases d <;> rfl
end
end Go.Abs
