/- The abstract layer, part A: values by content, the abstract heap, the relation to the machine's values and worlds, how it is kept. Plain definitions and theorems over any program. -/
import Derived.Below
import Derived.Laws.AppendOwn
import Derived.RangeFuncIn
import Derived.RangeFuncLeaves
import Derived.RangeFuncCalls
set_option linter.unusedVariables false
set_option linter.unusedSimpArgs false
namespace Go.Abs
open Go.RowKit

/-- A value by its content. -/
inductive AV where
  | any
  | sc (v : Value)
  | emp
  | lst (sz : Nat) (l : List (List AV))
  | own (id g lo : Nat)
  | ptr (id off : Nat)
  | eptr (id g i off : Nat)
  | cptr (cs : List AV)
  | fn (f : Fn) (caps : List AV)
  | agg (cs : List AV)
  | tup (cs : List AV)
  | mp (id : Nat)
  | yld (id : Nat)
  | mrk (id : Nat)
  deriving Inhabited

/-- What stands under a number. -/
abbrev Tab (α : Type) := Nat → Option α

/-- A loop over a function that is under way. -/
structure ALoop where
  st : LoopState
  pend : Option Code

  tmps : Tab AV
  nt : Nat
  params : Array Tmp
  assign : Code
  body : Code

/-- What a call has made, by its content. -/
inductive AObj where
  | box (cs : List AV)
  | arr (g sz : Nat) (L : List (List AV))
  | map (m : List (Value × AV))
  | loop (r : ALoop)
  | dfr

abbrev Heap := Tab AObj

def look {α : Type} (k : Nat) (h : Tab α) : Option α := h k
def nil' {α : Type} : Tab α := fun _ => none
/-- One more. -/
def hc {α : Type} (k : Nat) (v : α) (h : Tab α) : Tab α := fun j => if k = j then some v else look j h
/-- One turned, if it is there. -/
def upd {α : Type} (k : Nat) (x : α) (h : Tab α) : Tab α := fun j => if j = k then (look k h).map (fun _ => x) else look j h
/-- One gone. -/
def del {α : Type} (k : Nat) (h : Tab α) : Tab α := fun j => if j = k then none else look j h

theorem look_nil {α : Type} (k : Nat) : look k (nil' : Tab α) = none := rfl
theorem look_hc {α : Type} (k j : Nat) (v : α) (h : Tab α) : look j (hc k v h) = if k = j then some v else look j h := rfl
theorem look_upd {α : Type} (k j : Nat) (x : α) (h : Tab α) : look j (upd k x h) = if j = k then (look k h).map (fun _ => x) else look j h := rfl
theorem look_del {α : Type} (k j : Nat) (h : Tab α) : look j (del k h) = if j = k then none else look j h := rfl

/-- Where the machine keeps things: each abstract object's place and room; the blocks that nobody writes any more. -/
structure Gh where
  loc : Nat → Option Addr
  cap : Nat → Nat
  Z : Nat → Prop

/-- A slice value onto an array object of n elements, from lo on. -/
def OwnVal (G : Gh) (id sz n lo : Nat) (x : Value) : Prop :=
  lo ≤ n ∧ n ≤ G.cap id ∧ ∃ a, x = .slice a (n - lo) (G.cap id - lo) ∧ (lo < G.cap id → a = (G.loc id).map (fun b => ⟨b.block, b.off + lo * sz, none⟩))

/-- The machine's value x is what the abstract value says. -/
inductive Rel (G : Gh) (w : World) : (Nat → Prop) → Heap → AV → Value → Prop
  | any (A h x) : Rel G w A h .any x
  | sc (A h v) : Rel G w A h (.sc v) v
  | emp (A h a) : Rel G w A h .emp (.slice a 0 0)
  | lnil (A h sz a cap) : Rel G w A h (.lst sz []) (.slice a 0 cap)
  | lst (A h) (sz : Nat) (l : List (List AV)) (b off cap : Nat) (f : Nat → Nat → Value) (hl : l ≠ []) (hz : G.Z b) (hcap : l.length ≤ cap)
      (hsz : ∀ (i : Nat) (cs : List AV), l[i]? = some cs → cs.length = sz)
      (hc : ∀ (i : Nat) (cs : List AV), l[i]? = some cs → ∀ (j : Nat) (c : AV), cs[j]? = some c → w.cell? ⟨b, off + i * sz + j, none⟩ = some (f i j))
      (h1 : ∀ (i : Nat) (cs : List AV), l[i]? = some cs → ∀ (j : Nat) (c : AV), cs[j]? = some c → (f i j).oneCell' = true)
      (hr : ∀ (i : Nat) (cs : List AV), l[i]? = some cs → ∀ (j : Nat) (c : AV), cs[j]? = some c → Rel G w (fun _ => False) nil' c (f i j)) :
      Rel G w A h (.lst sz l) (.slice (some ⟨b, off, none⟩) l.length cap)
  | own (A h id g lo x) (hid : A id) (h1 : x.oneCell' = true)
      (ho : ∀ g' sz L, look id h = some (.arr g' sz L) → g ≤ g' ∧ (g = g' → OwnVal G id sz L.length lo x)) : Rel G w A h (.own id g lo) x
  | ptr (A h id off x) (hid : A id) (h1 : x.oneCell' = true)
      (ho : ∀ cs, look id h = some (.box cs) → ∃ b, G.loc id = some ⟨b, 0, none⟩ ∧ x = .pointer (some ⟨b, off, none⟩)) : Rel G w A h (.ptr id off) x
  | eptr (A h id g i off x) (hid : A id) (h1 : x.oneCell' = true)
      (ho : ∀ g' sz L, look id h = some (.arr g' sz L) → g ≤ g' ∧ (g = g' → ∃ b o, G.loc id = some ⟨b, o, none⟩ ∧ x = .pointer (some ⟨b, o + i * sz + off, none⟩))) :
      Rel G w A h (.eptr id g i off) x
  | cptr (A h) (cs : List AV) (b off : Nat) (f : Nat → Value) (hz : G.Z b)
      (hc : ∀ (j : Nat) (c : AV), cs[j]? = some c → w.cell? ⟨b, off + j, none⟩ = some (f j))
      (h1 : ∀ (j : Nat) (c : AV), cs[j]? = some c → (f j).oneCell' = true)
      (hr : ∀ (j : Nat) (c : AV), cs[j]? = some c → Rel G w (fun _ => False) nil' c (f j)) : Rel G w A h (.cptr cs) (.pointer (some ⟨b, off, none⟩))
  | fn (A h) (f : Fn) (cs : List AV) (vs : List Value) (hl : cs.length = vs.length)
      (hr : ∀ (j : Nat) (c : AV), cs[j]? = some c → Rel G w A h c (vs.getD j undef)) : Rel G w A h (.fn f cs) (.func f #[] vs.toArray)
  | agg (A h) (cs : List AV) (vs : List Value) (hl : cs.length = vs.length) (h1 : ∀ v ∈ vs, v.oneCell' = true)
      (hr : ∀ (j : Nat) (c : AV), cs[j]? = some c → Rel G w A h c (vs.getD j undef)) : Rel G w A h (.agg cs) (.agg vs.toArray)
  | tup (A h) (cs : List AV) (vs : List Value) (hl : cs.length = vs.length)
      (hr : ∀ (j : Nat) (c : AV), cs[j]? = some c → Rel G w A h c (vs.getD j undef)) : Rel G w A h (.tup cs) (.tuple vs.toArray)
  | mp (A h id x) (hid : A id) (h1 : x.oneCell' = true)
      (ho : ∀ m, look id h = some (.map m) → ∃ b, G.loc id = some ⟨b, 0, none⟩ ∧ x = .map (some b)) : Rel G w A h (.mp id) x
  | yld (A h id x) (hid : A id) (h1 : x.oneCell' = true)
      (ho : ∀ r, look id h = some (.loop r) → ∃ b, G.loc id = some ⟨b, 0, none⟩ ∧ x = .func (.yield b) #[] #[]) : Rel G w A h (.yld id) x
  | mrk (A h id x) (hid : A id) (h1 : x.oneCell' = true)
      (ho : look id h = some .dfr → ∃ b, G.loc id = some ⟨b, 0, none⟩ ∧ x = .chan (some b)) : Rel G w A h (.mrk id) x

/-- A list of values. -/
def Rels (G : Gh) (w : World) (A : Nat → Prop) (h : Heap) (cs : List AV) (vs : List Value) : Prop :=
  cs.length = vs.length ∧ ∀ (j : Nat) (c : AV), cs[j]? = some c → Rel G w A h c (vs.getD j undef)

/-- An object of the heap h' stands where one of h stood, for those who point at it. -/
def ObjCompat (G G' : Gh) (id : Nat) : Option AObj → Option AObj → Prop
  | _, none => True
  | none, some _ => False
  | some (.box _), some (.box _) => G'.loc id = G.loc id
  | some (.map _), some (.map _) => G'.loc id = G.loc id
  | some (.loop _), some (.loop _) => G'.loc id = G.loc id
  | some .dfr, some .dfr => G'.loc id = G.loc id
  | some (.arr g sz L), some (.arr g' sz' L') => g < g' ∨ (g = g' ∧ sz = sz' ∧ L.length = L'.length ∧ G'.loc id = G.loc id ∧ G'.cap id = G.cap id)
  | _, _ => False

/-- What holds of values at (A, h, G, w) holds at (A', h', G', w'). -/
structure Compat (G : Gh) (w : World) (G' : Gh) (w' : World) (A : Nat → Prop) (h : Heap) (A' : Nat → Prop) (h' : Heap) : Prop where
  z : ∀ b, G.Z b → G'.Z b
  cell : ∀ b o v, G.Z b → w.cell? ⟨b, o, none⟩ = some v → w'.cell? ⟨b, o, none⟩ = some v
  le : ∀ id, A id → A' id
  obj : ∀ id, A id → ObjCompat G G' id (look id h) (look id h')

theorem Compat.frozen {G G' : Gh} {w w' : World} {A A' : Nat → Prop} {h h' : Heap} (c : Compat G w G' w' A h A' h') : Compat G w G' w' (fun _ => False) nil' (fun _ => False) nil' :=
  ⟨c.z, c.cell, fun _ h => h, fun id hid => hid.elim⟩

theorem Rel.compat {G G' : Gh} {w w' : World} {A : Nat → Prop} {h : Heap} {v : AV} {x : Value} (r : Rel G w A h v x) :
    ∀ {A' : Nat → Prop} {h' : Heap}, Compat G w G' w' A h A' h' → Rel G' w' A' h' v x := by
  induction r with
  | any => intro A' h' _; exact .any ..
  | sc => intro A' h' _; exact .sc ..
  | emp => intro A' h' _; exact .emp ..
  | lnil => intro A' h' _; exact .lnil ..
  | lst A h sz l b off cap f hl hz hcap hsz hc h1 hr ih =>
    intro A' h' c
    exact .lst _ _ sz l b off cap f hl (c.z _ hz) hcap hsz (fun i cs hi j d hj => c.cell _ _ _ hz (hc i cs hi j d hj)) h1 (fun i cs hi j d hj => ih i cs hi j d hj c.frozen)
  | own A h id g lo x hid h1 ho =>
    intro A' h' c
    refine .own _ _ id g lo x (c.le _ hid) h1 fun g' sz L hL => ?_
    have ho' := c.obj id hid
    rw [hL] at ho'
    cases hl : look id h with
    | none => rw [hl] at ho'; exact ho'.elim
    | some o =>
      rw [hl] at ho'
      cases o with
      | arr g0 sz0 L0 =>
        have h2 := ho g0 sz0 L0 hl
        rcases ho' with hlt | ⟨rfl, rfl, hlen, hloc, hcap⟩
        · exact ⟨by omega, fun e => by omega⟩
        · refine ⟨h2.1, fun e => ?_⟩
          have h3 := h2.2 e
          rw [hlen] at h3
          unfold OwnVal at h3 ⊢
          rw [hloc, hcap]
          exact h3
      | box _ => exact ho'.elim
      | map _ => exact ho'.elim
      | loop _ => exact ho'.elim
      | dfr => exact ho'.elim
  | ptr A h id off x hid h1 ho =>
    intro A' h' c
    refine .ptr _ _ id off x (c.le _ hid) h1 fun cs hL => ?_
    have ho' := c.obj id hid
    rw [hL] at ho'
    cases hl : look id h with
    | none => rw [hl] at ho'; exact ho'.elim
    | some o =>
      rw [hl] at ho'
      cases o with
      | box cs0 =>
        obtain ⟨b, hb, hx⟩ := ho cs0 hl
        exact ⟨b, by rw [show G'.loc id = G.loc id from ho']; exact hb, hx⟩
      | arr _ _ _ => exact ho'.elim
      | map _ => exact ho'.elim
      | loop _ => exact ho'.elim
      | dfr => exact ho'.elim
  | eptr A h id g i off x hid h1 ho =>
    intro A' h' c
    refine .eptr _ _ id g i off x (c.le _ hid) h1 fun g' sz L hL => ?_
    have ho' := c.obj id hid
    rw [hL] at ho'
    cases hl : look id h with
    | none => rw [hl] at ho'; exact ho'.elim
    | some o =>
      rw [hl] at ho'
      cases o with
      | arr g0 sz0 L0 =>
        have h2 := ho g0 sz0 L0 hl
        rcases ho' with hlt | ⟨rfl, rfl, hlen, hloc, hcap⟩
        · exact ⟨by omega, fun e => by omega⟩
        · refine ⟨h2.1, fun e => ?_⟩
          rw [hloc]
          exact h2.2 e
      | box _ => exact ho'.elim
      | map _ => exact ho'.elim
      | loop _ => exact ho'.elim
      | dfr => exact ho'.elim
  | cptr A h cs b off f hz hc h1 hr ih =>
    intro A' h' c
    exact .cptr _ _ cs b off f (c.z _ hz) (fun j d hj => c.cell _ _ _ hz (hc j d hj)) h1 (fun j d hj => ih j d hj c.frozen)
  | fn A h f cs vs hl hr ih => intro A' h' c; exact .fn _ _ f cs vs hl fun j d hj => ih j d hj c
  | agg A h cs vs hl h1 hr ih => intro A' h' c; exact .agg _ _ cs vs hl h1 fun j d hj => ih j d hj c
  | tup A h cs vs hl hr ih => intro A' h' c; exact .tup _ _ cs vs hl fun j d hj => ih j d hj c
  | mp A h id x hid h1 ho =>
    intro A' h' c
    refine .mp _ _ id x (c.le _ hid) h1 fun cs hL => ?_
    have ho' := c.obj id hid
    rw [hL] at ho'
    cases hl : look id h with
    | none => rw [hl] at ho'; exact ho'.elim
    | some o =>
      rw [hl] at ho'
      cases o with
      | map cs0 =>
        obtain ⟨b, hb, hx⟩ := ho cs0 hl
        exact ⟨b, by rw [show G'.loc id = G.loc id from ho']; exact hb, hx⟩
      | arr _ _ _ => exact ho'.elim
      | box _ => exact ho'.elim
      | loop _ => exact ho'.elim
      | dfr => exact ho'.elim
  | yld A h id x hid h1 ho =>
    intro A' h' c
    refine .yld _ _ id x (c.le _ hid) h1 fun cs hL => ?_
    have ho' := c.obj id hid
    rw [hL] at ho'
    cases hl : look id h with
    | none => rw [hl] at ho'; exact ho'.elim
    | some o =>
      rw [hl] at ho'
      cases o with
      | loop cs0 =>
        obtain ⟨b, hb, hx⟩ := ho cs0 hl
        exact ⟨b, by rw [show G'.loc id = G.loc id from ho']; exact hb, hx⟩
      | arr _ _ _ => exact ho'.elim
      | box _ => exact ho'.elim
      | dfr => exact ho'.elim
      | map _ => exact ho'.elim
  | mrk A h id x hid h1 ho =>
    intro A' h' c
    refine .mrk _ _ id x (c.le _ hid) h1 fun hL => ?_
    have ho' := c.obj id hid
    rw [hL] at ho'
    cases hl : look id h with
    | none => rw [hl] at ho'; exact ho'.elim
    | some o =>
      rw [hl] at ho'
      cases o with
      | dfr =>
        obtain ⟨b, hb, hx⟩ := ho hl
        exact ⟨b, by rw [show G'.loc id = G.loc id from ho']; exact hb, hx⟩
      | arr _ _ _ => exact ho'.elim
      | box _ => exact ho'.elim
      | map _ => exact ho'.elim
      | loop _ => exact ho'.elim

theorem Rels.compat {G G' : Gh} {w w' : World} {A A' : Nat → Prop} {h h' : Heap} {cs : List AV} {vs : List Value} (r : Rels G w A h cs vs) (c : Compat G w G' w' A h A' h') : Rels G' w' A' h' cs vs :=
  ⟨r.1, fun j d hj => (r.2 j d hj).compat c⟩

/-! ### What a related value looks like -/
section
variable {G : Gh} {w : World} {A : Nat → Prop} {h : Heap} {x : Value}
theorem Rel.sc_inv {v : Value} (r : Rel G w A h (.sc v) x) : x = v := by cases r; rfl
theorem Rel.emp_inv (r : Rel G w A h .emp x) : ∃ a, x = .slice a 0 0 := by cases r; exact ⟨_, rfl⟩
theorem Rel.lst_inv {sz : Nat} {l : List (List AV)} (r : Rel G w A h (.lst sz l) x) : (l = [] ∧ ∃ a cap, x = .slice a 0 cap) ∨
    ∃ (b off cap : Nat) (f : Nat → Nat → Value), x = .slice (some ⟨b, off, none⟩) l.length cap ∧ l ≠ [] ∧ G.Z b ∧ l.length ≤ cap ∧
      (∀ (i : Nat) (cs : List AV), l[i]? = some cs → cs.length = sz) ∧
      (∀ (i : Nat) (cs : List AV), l[i]? = some cs → ∀ (j : Nat) (c : AV), cs[j]? = some c → w.cell? ⟨b, off + i * sz + j, none⟩ = some (f i j)) ∧
      (∀ (i : Nat) (cs : List AV), l[i]? = some cs → ∀ (j : Nat) (c : AV), cs[j]? = some c → (f i j).oneCell' = true) ∧
      (∀ (i : Nat) (cs : List AV), l[i]? = some cs → ∀ (j : Nat) (c : AV), cs[j]? = some c → Rel G w (fun _ => False) nil' c (f i j)) := by
  cases r
  · exact .inl ⟨rfl, _, _, rfl⟩
  · exact .inr ⟨_, _, _, _, rfl, ‹_›, ‹_›, ‹_›, ‹_›, ‹_›, ‹_›, ‹_›⟩
theorem Rel.own_inv {id g lo : Nat} (r : Rel G w A h (.own id g lo) x) : A id ∧ x.oneCell' = true ∧
    ∀ g' sz L, look id h = some (.arr g' sz L) → g ≤ g' ∧ (g = g' → OwnVal G id sz L.length lo x) := by
  cases r; exact ⟨‹_›, ‹_›, ‹_›⟩
theorem Rel.ptr_inv {id off : Nat} (r : Rel G w A h (.ptr id off) x) : A id ∧ x.oneCell' = true ∧
    ∀ cs, look id h = some (.box cs) → ∃ b, G.loc id = some ⟨b, 0, none⟩ ∧ x = .pointer (some ⟨b, off, none⟩) := by
  cases r; exact ⟨‹_›, ‹_›, ‹_›⟩
theorem Rel.eptr_inv {id g i off : Nat} (r : Rel G w A h (.eptr id g i off) x) : A id ∧ x.oneCell' = true ∧
    ∀ g' sz L, look id h = some (.arr g' sz L) → g ≤ g' ∧ (g = g' → ∃ b o, G.loc id = some ⟨b, o, none⟩ ∧ x = .pointer (some ⟨b, o + i * sz + off, none⟩)) := by
  cases r; exact ⟨‹_›, ‹_›, ‹_›⟩
theorem Rel.cptr_inv {cs : List AV} (r : Rel G w A h (.cptr cs) x) : ∃ (b off : Nat) (f : Nat → Value), x = .pointer (some ⟨b, off, none⟩) ∧ G.Z b ∧
      (∀ (j : Nat) (c : AV), cs[j]? = some c → w.cell? ⟨b, off + j, none⟩ = some (f j)) ∧
      (∀ (j : Nat) (c : AV), cs[j]? = some c → (f j).oneCell' = true) ∧
      (∀ (j : Nat) (c : AV), cs[j]? = some c → Rel G w (fun _ => False) nil' c (f j)) := by
  cases r; exact ⟨_, _, _, rfl, ‹_›, ‹_›, ‹_›, ‹_›⟩
theorem Rel.fn_inv {f : Fn} {cs : List AV} (r : Rel G w A h (.fn f cs) x) : ∃ vs, x = .func f #[] vs.toArray ∧ Rels G w A h cs vs := by
  cases r; exact ⟨_, rfl, ‹_›, ‹_›⟩
theorem Rel.agg_inv {cs : List AV} (r : Rel G w A h (.agg cs) x) : ∃ vs, x = .agg vs.toArray ∧ (∀ v ∈ vs, v.oneCell' = true) ∧ Rels G w A h cs vs := by
  cases r; exact ⟨_, rfl, ‹_›, ‹_›, ‹_›⟩
theorem Rel.tup_inv {cs : List AV} (r : Rel G w A h (.tup cs) x) : ∃ vs, x = .tuple vs.toArray ∧ Rels G w A h cs vs := by
  cases r; exact ⟨_, rfl, ‹_›, ‹_›⟩
theorem Rel.mp_inv {id : Nat} (r : Rel G w A h (.mp id) x) : A id ∧ x.oneCell' = true ∧ ∀ m, look id h = some (.map m) → ∃ b, G.loc id = some ⟨b, 0, none⟩ ∧ x = .map (some b) := by
  cases r; exact ⟨‹_›, ‹_›, ‹_›⟩
theorem Rel.yld_inv {id : Nat} (r : Rel G w A h (.yld id) x) : A id ∧ x.oneCell' = true ∧ ∀ m, look id h = some (.loop m) → ∃ b, G.loc id = some ⟨b, 0, none⟩ ∧ x = .func (.yield b) #[] #[] := by
  cases r; exact ⟨‹_›, ‹_›, ‹_›⟩
theorem Rel.mrk_inv {id : Nat} (r : Rel G w A h (.mrk id) x) : A id ∧ x.oneCell' = true ∧ (look id h = some .dfr → ∃ b, G.loc id = some ⟨b, 0, none⟩ ∧ x = .chan (some b)) := by
  cases r; exact ⟨‹_›, ‹_›, ‹_›⟩

/-- Is it surely one cell? -/
def AV.one : AV → Bool
  | .any | .agg _ | .tup _ => false
  | .sc v => v.oneCell'
  | _ => true
theorem Rel.one {v : AV} (r : Rel G w A h v x) (h1 : v.one = true) : x.oneCell' = true := by
  cases r <;> simp_all [AV.one, Value.oneCell']
end

/-- The object id of the abstract heap, as the machine keeps it. -/
def RelO (G : Gh) (w : World) (A : Nat → Prop) (h : Heap) (id : Nat) : AObj → Prop
  | .box cs => ∃ b T vs, G.loc id = some ⟨b, 0, none⟩ ∧ w.heap[b]? = some (.cells vs T (0, 0)) ∧ Rels G w A h cs vs.toList ∧ ∀ v ∈ vs.toList, v.oneCell' = true
  | .arr _ sz L => (L = [] ∧ G.loc id = none ∧ G.cap id = 0) ∨
      ∃ b o T vs, G.loc id = some ⟨b, o, none⟩ ∧ w.heap[b]? = some (.cells vs T (0, 0)) ∧ o + G.cap id * sz ≤ vs.size ∧ L.length ≤ G.cap id ∧
        (∀ (i : Nat) (cs : List AV), L[i]? = some cs → cs.length = sz) ∧
        (∀ (i : Nat) (cs : List AV), L[i]? = some cs → ∀ (j : Nat) (c : AV), cs[j]? = some c → Rel G w A h c (vs.getD (o + i * sz + j) undef) ∧ (vs.getD (o + i * sz + j) undef).oneCell' = true)
  | .map m => ∃ b es clock, G.loc id = some ⟨b, 0, none⟩ ∧ w.heap[b]? = some (.map es clock) ∧ m.length = es.size ∧
      (∀ (i : Nat) (k : Value) (v : AV), m[i]? = some (k, v) → ∃ e, es[i]? = some e ∧ e.key = k ∧ Rel G w A h v e.val)
  | .dfr => ∃ b, G.loc id = some ⟨b, 0, none⟩ ∧ w.heap[b]? = some (.deferred (some []))
  | .loop r => ∃ b tv d fn, G.loc id = some ⟨b, 0, none⟩ ∧
      w.heap[b]? = some (.loop { state := r.st, pending := r.pend, fn := fn, tmps := tv, params := r.params, assign := r.assign, body := r.body, defers := d }) ∧
      tv.size = r.nt ∧ (∀ t v, look t r.tmps = some v → Rel G w A h v (tv.getD t undef))

/-- The machine's memory holds the abstract heap. -/
structure SatH (G : Gh) (w : World) (A : Nat → Prop) (h : Heap) : Prop where
  obj : ∀ id o, look id h = some o → A id ∧ RelO G w A h id o
  inj : ∀ i j oi oj a b, look i h = some oi → look j h = some oj → i ≠ j → G.loc i = some a → G.loc j = some b → a.block ≠ b.block
  zdis : ∀ i o a, look i h = some o → G.loc i = some a → ¬ G.Z a.block
  zin : ∀ b, G.Z b → b < w.heap.size

/-- b is the block of an object of the heap. -/
def InHeap (G : Gh) (h : Heap) (b : Nat) : Prop := ∃ i o a, look i h = some o ∧ G.loc i = some a ∧ a.block = b

/-- From (A, h, G, w) to (A', h', G', w'): what may have turned, and that all values hold on. -/
structure Evo (G : Gh) (w : World) (A : Nat → Prop) (h : Heap) (G' : Gh) (w' : World) (A' : Nat → Prop) (h' : Heap) : Prop where
  os : w'.os = w.os
  tape : w'.tape = w.tape
  output : w'.output = w.output
  size : w.heap.size ≤ w'.heap.size
  frame : ∀ b, b < w.heap.size → ¬ InHeap G h b → w'.heap[b]? = w.heap[b]?
  prov : ∀ b, InHeap G' h' b → InHeap G h b ∨ w.heap.size ≤ b
  zprov : ∀ b, G'.Z b → G.Z b ∨ InHeap G h b ∨ w.heap.size ≤ b
  le : ∀ id, A id → A' id
  rel : ∀ v x, Rel G w A h v x → Rel G' w' A' h' v x

theorem Evo.refl (G : Gh) (w : World) (A : Nat → Prop) (h : Heap) : Evo G w A h G w A h :=
  ⟨rfl, rfl, rfl, Nat.le_refl _, fun _ _ _ => rfl, fun _ h => .inl h, fun _ h => .inl h, fun _ h => h, fun _ _ h => h⟩

theorem Evo.trans {G G1 G2 : Gh} {w w1 w2 : World} {n n1 n2 : Nat → Prop} {h h1 h2 : Heap} (e : Evo G w n h G1 w1 n1 h1) (f : Evo G1 w1 n1 h1 G2 w2 n2 h2) : Evo G w n h G2 w2 n2 h2 := by
  refine ⟨f.os.trans e.os, f.tape.trans e.tape, f.output.trans e.output, Nat.le_trans e.size f.size, fun b hb hn => ?_, fun b hb => ?_, fun b hb => ?_, fun i hi => f.le i (e.le i hi), fun v x r => f.rel v x (e.rel v x r)⟩
  · rw [f.frame b (Nat.lt_of_lt_of_le hb e.size) (fun hi => ?_), e.frame b hb hn]
    rcases e.prov b hi with h | h
    · exact hn h
    · omega
  · rcases f.prov b hb with h | h
    · exact e.prov b h
    · exact .inr (Nat.le_trans e.size h)
  · rcases f.zprov b hb with h | h | h
    · exact e.zprov b h
    · rcases e.prov b h with h | h
      · exact .inr (.inl h)
      · exact .inr (.inr h)
    · exact .inr (.inr (Nat.le_trans e.size h))

theorem Rels.evo {G G' : Gh} {w w' : World} {A A' : Nat → Prop} {h h' : Heap} {cs : List AV} {vs : List Value} (r : Rels G w A h cs vs) (e : Evo G w A h G' w' A' h') : Rels G' w' A' h' cs vs :=
  ⟨r.1, fun j d hj => e.rel _ _ (r.2 j d hj)⟩

theorem cell_of_heap {w : World} {b o : Nat} {vs : Array Value} {T : TypeId} {fz : Nat × Nat} (h : w.heap[b]? = some (.cells vs T fz)) : w.cell? ⟨b, o, none⟩ = vs[o]? := by
  simp [World.cell?, h]

theorem cell_same {w w' : World} {b : Nat} (h : w'.heap[b]? = w.heap[b]?) (o : Nat) : w'.cell? ⟨b, o, none⟩ = w.cell? ⟨b, o, none⟩ := by
  simp [World.cell?, h]

end Go.Abs
