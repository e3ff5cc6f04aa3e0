/- The abstract layer, part C: the operations that only compute or read, by content, and that the machine's do the same. -/
import Derived.Test.YtlmkmmkhfkdagaaAbsB
import Derived.Laws.StructEq
import Derived.Laws.Append
import Derived.Laws.Slices
set_option linter.unusedVariables false
set_option linter.unusedSimpArgs false
namespace Go.Abs
open Go.RowKit

/-! ### What is asked of types -/

def ofConst : Value → AV
  | .slice none 0 0 => .emp
  | v => .sc v

inductive SK where
  | bool | int | str
  deriving DecidableEq

structure FI where
  off : Nat
  size : Nat
  agg : Bool
  ty : TypeId

structure TI where
  size : Nat
  bytes : Nat
  agg : Bool
  zero : Option (List AV)
  elem : Option TypeId
  arr : Option (Nat × TypeId)
  mapk : Option (TypeId × TypeId)
  str : Bool
  int : Option IntKind
  iface : Bool
  bool : Bool
  func : Bool
  pointer : Bool
  fields : List FI
  fieldsOk : Bool
  zeroOk : Bool
  zsc : Bool
  eqk : Option (List SK)

def aggT (P : Program) (t : TypeId) : Bool := match P.underlying t with
  | some (.struct _) | some (.array _ _) => true
  | _ => false

/-- The kinds of a struct's cells, its fields lying one behind the other, none named _. -/
def flatFields (P : Program) (rec : TypeId → Option (List SK)) : List Field → Nat → Option (List SK)
  | [], _ => some []
  | f :: fs, o => match rec f.type with
    | none => none
    | some a => if f.name == "_" || f.offset != o || ((P.info? f.type).map (·.size)) != some a.length then none else (flatFields P rec fs (o + a.length)).map (a ++ ·)

/-- The kinds of a type's cells, where '==' of it is that of its cells, one by one. -/
def flatK (P : Program) : Nat → TypeId → Option (List SK)
  | 0, _ => none
  | n + 1, t => match P.underlying t with
    | some .bool => some [.bool]
    | some (.int _) => some [.int]
    | some .string => some [.str]
    | some (.struct fs) => if P.stoodInHeld t then none else flatFields P (flatK P n) fs.toList 0
    | _ => none

def tiOf (P : Program) (t : TypeId) : Option TI :=
  match P.info? t, P.underlying t with
  | some i, some d => some {
      size := i.size, bytes := i.bytes, agg := aggT P t, zero := i.zero.map fun v => v.cells.toList.map ofConst,
      elem := match d with | .slice e => some e | _ => none,
      arr := match d with | .array n e => some (n, e) | _ => none,
      mapk := match d with | .map k e => some (k, e) | _ => none,
      str := match d with | .string => true | _ => false,
      int := match d with | .int k => some k | _ => none,
      iface := match d with | .interface _ => true | _ => false,
      bool := match d with | .bool => true | _ => false,
      func := match d with | .func _ _ _ => true | _ => false,
      pointer := match d with | .pointer _ => true | _ => false,
      fields := match d with
        | .struct fs => fs.toList.map fun f => { off := f.offset, size := ((P.info? f.type).map (·.size)).getD 0, agg := aggT P f.type, ty := f.type }
        | _ => [],
      fieldsOk := match d with | .struct fs => fs.toList.all fun f => (P.info? f.type).isSome && (P.underlying f.type).isSome | _ => false,
      zeroOk := (i.zero.map fun v => v.cells.toList.all (·.oneCell') && v.cells.size == i.size).getD false,
      zsc := (i.zero.map fun v => v.oneCell').getD false,
      eqk := if P.eqGuardType P.depth t then none else flatK P 8 t }
  | _, _ => none

section
variable {P : Program} {t : TypeId} {ti : TI}
theorem tiOf_parts (h : tiOf P t = some ti) : ∃ i d, P.info? t = some i ∧ P.underlying t = some d ∧ ti.size = i.size ∧ ti.bytes = i.bytes ∧ ti.agg = aggT P t ∧ ti.zero = i.zero.map (fun v => v.cells.toList.map ofConst) ∧
    (∀ e, ti.elem = some e → d = .slice e) ∧ (∀ n e, ti.arr = some (n, e) → d = .array n e) ∧ (∀ k e, ti.mapk = some (k, e) → d = .map k e) ∧ (ti.str = true → d = .string) ∧ (∀ k, ti.int = some k → d = .int k) := by
  unfold tiOf at h
  split at h
  · rename_i i d hi hd
    cases h
    refine ⟨i, d, hi, hd, rfl, rfl, rfl, rfl, ?_, ?_, ?_, ?_, ?_⟩
    · intro e he; cases d <;> simp_all
    · intro n e he; cases d <;> simp_all
    · intro k e he; cases d <;> simp_all
    · intro he; cases d <;> simp_all
    · intro k he; cases d <;> simp_all
  · cases h

theorem tiOf_more (h : tiOf P t = some ti) : ∃ d, P.underlying t = some d ∧ (ti.iface = true → ∃ ms, d = .interface ms) ∧ (ti.bool = true → d = .bool) ∧ (ti.func = true → ∃ a b c, d = .func a b c) ∧ (ti.pointer = true → ∃ e, d = .pointer e) ∧
    (∀ (f : Nat) (fi : FI), ti.fields[f]? = some fi → ∃ (fs : Array Field) (fl : Field), d = .struct fs ∧ fs[f]? = some fl ∧ fi.off = fl.offset ∧ fi.size = ((P.info? fl.type).map (·.size)).getD 0 ∧ fi.agg = aggT P fl.type ∧ fi.ty = fl.type) ∧ (∀ ks, ti.eqk = some ks → P.eqGuardType P.depth t = false ∧ flatK P 8 t = some ks) := by
  unfold tiOf at h
  split at h
  · rename_i i d hi hd
    cases h
    refine ⟨d, hd, ?_, ?_, ?_, ?_, ?_, ?_⟩
    · intro he; cases d <;> simp_all
    · intro he; cases d <;> simp_all
    · intro he; cases d <;> simp_all
    · intro he; cases d <;> simp_all
    · intro f fi hf
      cases d <;> simp at hf
      rename_i fs
      obtain ⟨fl, hfl, rfl⟩ := hf
      exact ⟨fs, fl, rfl, hfl, rfl, rfl, rfl, rfl⟩
    · intro ks hk
      by_cases hg : P.eqGuardType P.depth t = true
      · simp [hg] at hk
      · simp only [hg] at hk
        exact ⟨by simpa using hg, hk⟩
  · cases h

theorem run_sizeOf (h : tiOf P t = some ti) (w : World) : (sizeOf t).run P w = .ok ti.size w := by
  obtain ⟨i, d, hi, _, hs, _⟩ := tiOf_parts h
  simp [sizeOf, typeInfo, hi, hs]

theorem run_isAgg (h : tiOf P t = some ti) (w : World) : (isAgg t).run P w = .ok ti.agg w := by
  obtain ⟨i, d, hi, hd, hs, _, ha, _⟩ := tiOf_parts h
  simp only [isAgg, Sem.run_bind, run_underlying hd, Result.andThen_ok, ha, aggT, hd]
  cases d <;> rfl
end

section
variable {P : Program} {t : TypeId} {ti : TI}
theorem tiOf_build (h : tiOf P t = some ti) : ∃ i d, P.info? t = some i ∧ P.underlying t = some d ∧ (ti.zeroOk = true → ∃ z, i.zero = some z ∧ (∀ u ∈ z.cells.toList, u.oneCell' = true) ∧ z.cells.size = i.size) ∧
    (ti.fieldsOk = true → ∃ fs, d = .struct fs ∧ (∀ f ∈ fs.toList, ((P.info? f.type).isSome && (P.underlying f.type).isSome) = true) ∧ ti.fields = fs.toList.map fun f => { off := f.offset, size := ((P.info? f.type).map (·.size)).getD 0, agg := aggT P f.type, ty := f.type }) := by
  unfold tiOf at h
  split at h
  · rename_i i d hi hd
    cases h
    refine ⟨i, d, hi, hd, ?_, ?_⟩
    · intro hz
      cases hzz : i.zero with
      | none => simp [hzz] at hz
      | some z =>
        simp only [hzz, Option.map_some, Option.getD_some] at hz
        rw [Bool.and_eq_true] at hz
        exact ⟨z, rfl, List.all_eq_true.1 hz.1, by simpa using hz.2⟩
    · intro hf
      cases d <;> first | cases hf | skip
      rename_i fs
      exact ⟨fs, rfl, List.all_eq_true.1 hf, rfl⟩
  · cases h
end

theorem tiOf_zsc {P : Program} {t : TypeId} {ti : TI} (h : tiOf P t = some ti) (hz : ti.zsc = true) : ∃ i z, P.info? t = some i ∧ i.zero = some z ∧ z.oneCell' = true := by
  unfold tiOf at h
  split at h
  · rename_i i d hi hd
    cases h
    cases hzz : i.zero with
    | none => simp [hzz] at hz
    | some z => exact ⟨i, z, hi, hzz, by simpa [hzz] using hz⟩
  · cases h

/-! ### Cells behind a pointer -/

section
variable {G : Gh} {w : World} {A : Nat → Prop} {h : Heap}

theorem Rel.widen {v : AV} {x : Value} (r : Rel G w (fun _ => False) nil' v x) : Rel G w A h v x :=
  r.compat ⟨fun _ h => h, fun _ _ _ _ h => h, fun _ h => h.elim, fun _ h => h.elim⟩

/-- The cells from a pointer on. -/
def ptrCells (h : Heap) : AV → Option (List AV)
  | .ptr id off => match look id h with
    | some (.box cs) => some (cs.drop off)
    | _ => none
  | .eptr id g i off => match look id h with
    | some (.arr g' _ L) => if g = g' then (L[i]?).map (·.drop off) else none
    | _ => none
  | .cptr cs => some cs
  | _ => none

theorem getD_of_lt {vs : List Value} {j : Nat} (hj : j < vs.length) : vs[j]? = some (vs.getD j undef) := by
  simp [List.getD, List.getElem?_eq_getElem hj]

theorem ptrCells_sound (S : SatH G w A h) {v : AV} {x : Value} (r : Rel G w A h v x) {cs : List AV} (hc : ptrCells h v = some cs) :
    ∃ b o, ∃ f : Nat → Value, x = .pointer (some ⟨b, o, none⟩) ∧ ∀ (j : Nat) (c : AV), cs[j]? = some c → w.cell? ⟨b, o + j, none⟩ = some (f j) ∧ (f j).oneCell' = true ∧ Rel G w A h c (f j) := by
  cases v with
  | ptr id off =>
    obtain ⟨hid, h1, ho⟩ := r.ptr_inv
    simp only [ptrCells] at hc
    cases hl : look id h with
    | none => simp [hl] at hc
    | some o =>
      cases o <;> simp [hl] at hc
      rename_i cs0
      subst hc
      obtain ⟨b, hb, rfl⟩ := ho _ hl
      obtain ⟨b', T, vs, hb', hh, hr, h1'⟩ := (S.obj _ _ hl).2
      rw [hb] at hb'
      cases hb'
      refine ⟨b, off, fun j => vs.toList.getD (off + j) undef, rfl, fun j c hj => ?_⟩
      rw [List.getElem?_drop] at hj
      have hlt : off + j < vs.toList.length := by rw [← hr.1]; exact (List.getElem?_eq_some_iff.1 hj).1
      have hg := getD_of_lt hlt
      refine ⟨?_, h1' _ ?_, hr.2 _ _ hj⟩
      · rw [cell_of_heap hh, ← hg, Array.getElem?_toList]
      · exact List.mem_of_getElem? hg
  | eptr id g i off =>
    obtain ⟨hid, h1, ho⟩ := r.eptr_inv
    simp only [ptrCells] at hc
    cases hl : look id h with
    | none => simp [hl] at hc
    | some o =>
      cases o <;> simp [hl] at hc
      rename_i g' sz L
      obtain ⟨rfl, cs0, hi, rfl⟩ := hc
      obtain ⟨b, o, hloc, rfl⟩ := (ho _ _ _ hl).2 rfl
      rcases (S.obj _ _ hl).2 with ⟨rfl, _, _⟩ | ⟨b', o', T, vs, h1', h2, h3, h4, h5, h6⟩
      · simp at hi
      · rw [hloc] at h1'
        cases h1'
        refine ⟨b, o + i * sz + off, fun j => vs.getD (o + i * sz + (off + j)) undef, rfl, fun j c hj => ?_⟩
        rw [List.getElem?_drop] at hj
        have h7 := h6 i cs0 hi (off + j) c hj
        refine ⟨?_, h7.2, h7.1⟩
        have hlen := h5 i cs0 hi
        have hj' : off + j < sz := hlen ▸ (List.getElem?_eq_some_iff.1 hj).1
        have hi' : i < L.length := (List.getElem?_eq_some_iff.1 hi).1
        have hlt : o + i * sz + (off + j) < vs.size := by
          have : i * sz + sz ≤ G.cap id * sz := by rw [← Nat.succ_mul]; exact Nat.mul_le_mul_right _ (by omega)
          omega
        rw [cell_of_heap h2, show o + i * sz + off + j = o + i * sz + (off + j) by omega]
        simp [Array.getD, hlt]
  | cptr cs0 =>
    obtain ⟨b, off, f, rfl, hz, hcell, h1, hr⟩ := r.cptr_inv
    simp only [ptrCells] at hc
    cases hc
    exact ⟨b, off, f, rfl, fun j c hj => ⟨hcell j c hj, h1 j c hj, (hr j c hj).widen⟩⟩
  | _ => simp [ptrCells] at hc

/-! ### Loading -/

def ldC (ti : TI) (cs : List AV) : Option AV :=
  if ti.agg then (if ti.size ≤ cs.length then some (.agg (cs.take ti.size)) else none) else cs.head?

def loadA (P : Program) (h : Heap) (t : TypeId) (a : AV) : Option AV :=
  match tiOf P t with
  | none => none
  | some ti => match ptrCells h a with
    | none => none
    | some cs => ldC ti cs

theorem loadA_sound {P : Program} (S : SatH G w A h) {t : TypeId} {a v : AV} {x : Value} (r : Rel G w A h a x) (hv : loadA P h t a = some v) :
    ∃ y, (Instr.loadAt t x).run P w = .ok y w ∧ Rel G w A h v y := by
  unfold loadA at hv
  cases hti : tiOf P t with
  | none => simp [hti] at hv
  | some ti =>
    simp only [hti] at hv
    cases hpc : ptrCells h a with
    | none => simp [hpc] at hv
    | some cs =>
      simp only [hpc] at hv
      obtain ⟨b, o, f, rfl, hf⟩ := ptrCells_sound S r hpc
      unfold ldC at hv
      simp only [Instr.loadAt, Instr.sureAddr, loadVar, Sem.run_bind, Sem.run_pure, Result.andThen_ok, run_isAgg hti]
      by_cases hag : ti.agg = true
      · simp only [hag, if_true] at hv ⊢
        split at hv
        · rename_i hsz
          cases hv
          have hl := run_loadCells (P := P) w ⟨b, o, none⟩ ti.size f (fun j hj => by
            have hj' : j < cs.length := by omega
            have := (hf j _ (List.getElem?_eq_getElem hj')).1
            simpa [Addr.add_lit] using this)
          simp only [Sem.run_bind, run_sizeOf hti, Result.andThen_ok, hl, Sem.run_pure]
          refine ⟨_, rfl, .agg _ _ _ _ (by simp; omega) ?_ ?_⟩
          · intro u hu
            simp only [List.mem_map, List.mem_range] at hu
            obtain ⟨j, hj, rfl⟩ := hu
            exact (hf j _ (List.getElem?_eq_getElem (by omega : j < cs.length))).2.1
          · intro j c hj
            rw [List.getElem?_take] at hj
            split at hj
            · rename_i hjs
              have := (hf j c hj).2.2
              simpa [List.getD, hjs] using this
            · cases hj
        · cases hv
      · simp only [hag, Bool.false_eq_true, if_false] at hv ⊢
        cases cs with
        | nil => simp at hv
        | cons c r0 =>
          simp only [List.head?_cons] at hv
          cases hv
          obtain ⟨h1, h2, h3⟩ := hf 0 _ rfl
          refine ⟨f 0, ?_, h3⟩
          simp only [run_load, Nat.add_zero] at h1 ⊢
          rw [h1]

/-! ### Addresses -/

def addOff (off : Nat) : AV → Option AV
  | .ptr id o => some (.ptr id (o + off))
  | .eptr id g i o => some (.eptr id g i (o + off))
  | .cptr cs => some (.cptr (cs.drop off))
  | _ => none

def fieldAddrA (P : Program) (h : Heap) (s : TypeId) (a : AV) (f : Nat) : Option AV :=
  match tiOf P s with
  | none => none
  | some ti => match ti.fields[f]? with
    | none => none
    | some fi => if fi.size = 0 then none else match ptrCells h a with
      | none => none
      | some _ => addOff fi.off a

theorem addOff_sound (S : SatH G w A h) {a v : AV} {off b o : Nat} (r : Rel G w A h a (.pointer (some ⟨b, o, none⟩))) (hp : (ptrCells h a).isSome = true) (hv : addOff off a = some v) :
    Rel G w A h v (.pointer (some ⟨b, o + off, none⟩)) := by
  cases a with
  | ptr id o' =>
    obtain ⟨hid, h1, ho⟩ := r.ptr_inv
    simp only [addOff] at hv
    cases hv
    refine .ptr _ _ _ _ _ hid rfl fun cs hl => ?_
    obtain ⟨b', hb, he⟩ := ho cs hl
    cases he
    exact ⟨b, hb, rfl⟩
  | eptr id g i o' =>
    obtain ⟨hid, h1, ho⟩ := r.eptr_inv
    simp only [addOff] at hv
    cases hv
    refine .eptr _ _ _ _ _ _ _ hid rfl fun g' sz L hl => ?_
    have h2 := ho g' sz L hl
    refine ⟨h2.1, fun e => ?_⟩
    obtain ⟨b', o'', hb, he⟩ := h2.2 e
    cases he
    exact ⟨b, o'', hb, by congr 3; omega⟩
  | cptr cs =>
    obtain ⟨b', o', f, he, hz, hc, h1, hr⟩ := r.cptr_inv
    simp only [addOff] at hv
    cases hv
    cases he
    refine .cptr _ _ _ b (o + off) (fun j => f (off + j)) hz (fun j c hj => ?_) (fun j c hj => ?_) (fun j c hj => ?_)
    · rw [List.getElem?_drop] at hj
      have := hc _ _ hj
      rwa [show o + (off + j) = o + off + j by omega] at this
    · rw [List.getElem?_drop] at hj; exact h1 _ _ hj
    · rw [List.getElem?_drop] at hj; exact hr _ _ hj
  | _ => simp [ptrCells] at hp

theorem fieldAddrA_sound {P : Program} (S : SatH G w A h) {s : TypeId} {a v : AV} {x : Value} {f : Nat} (r : Rel G w A h a x) (hv : fieldAddrA P h s a f = some v) :
    ∃ y, (Instr.fieldAt s x f).run P w = .ok y w ∧ Rel G w A h v y := by
  unfold fieldAddrA at hv
  cases hti : tiOf P s with
  | none => simp [hti] at hv
  | some ti =>
    simp only [hti] at hv
    cases hfi : ti.fields[f]? with
    | none => simp [hfi] at hv
    | some fi =>
      simp only [hfi] at hv
      split at hv
      · cases hv
      · rename_i hsz
        cases hpc : ptrCells h a with
        | none => simp [hpc] at hv
        | some cs =>
          simp only [hpc] at hv
          obtain ⟨b, o, _, rfl, _⟩ := ptrCells_sound S r hpc
          obtain ⟨d, hd, _, _, _, _, hfields, _⟩ := tiOf_more hti
          obtain ⟨fs, fl, rfl, hfl, ho, hsize, hag, _⟩ := hfields f fi hfi
          refine ⟨.pointer (some ⟨b, o + fi.off, none⟩), ?_, addOff_sound S r (by simp [hpc]) hv⟩
          cases hin : P.info? fl.type with
          | none => simp [hin] at hsize; omega
          | some i =>
            simp [hin] at hsize
            have hne : i.size ≠ 0 := by omega
            simp [Instr.fieldAt, run_underlying hd, hfl, Instr.sureAddr, fieldPlace, sizeOf, typeInfo, hin, hne, Addr.add_lit, ho]

/-- The elements of a slice, by content; 'none': no slice, or one that is out of date. -/
def elems (h : Heap) : AV → Option (List (List AV))
  | .emp => some []
  | .lst _ l => some l
  | .own id g lo => match look id h with
    | some (.arr g' _ L) => if g = g' then some (L.drop lo) else none
    | _ => none
  | _ => none

def indexAddrA (P : Program) (h : Heap) (t : TypeId) (x ix : AV) : Option AV :=
  match tiOf P t, ix with
  | some ti, .sc (.int _ i) =>
    if 0 ≤ i then
      match ti.elem with
      | some e => match tiOf P e with
        | none => none
        | some te => match x with
          | .lst sz l => if sz = te.size then (match l[i.toNat]? with
            | some cs => some (.cptr cs)
            | none => none) else none
          | .own id g lo => match look id h with
            | some (.arr g' sz L) => if g = g' ∧ sz = te.size ∧ lo + i.toNat < L.length then some (.eptr id g (lo + i.toNat) 0) else none
            | _ => none
          | _ => none
      | none => match ti.arr with
        | some (n, e) => match tiOf P e with
          | none => none
          | some te => if i < n ∧ te.size ≠ 0 then (match ptrCells h x with | none => none | some _ => addOff (i.toNat * te.size) x) else none
        | none => none
    else none
  | _, _ => none

theorem indexAddrA_sound {P : Program} (S : SatH G w A h) {t : TypeId} {a ia v : AV} {x ix : Value} (r : Rel G w A h a x) (ri : Rel G w A h ia ix) (hv : indexAddrA P h t a ia = some v) :
    ∃ y, (Instr.indexAt t x ix).run P w = .ok y w ∧ Rel G w A h v y := by
  unfold indexAddrA at hv
  cases hti : tiOf P t with
  | none => simp [hti] at hv
  | some ti =>
    simp only [hti] at hv
    split at hv
    case h_2 => cases hv
    case h_1 ti' k i heq =>
      cases heq
      obtain rfl := ri.sc_inv
      split at hv
      case isFalse => cases hv
      case isTrue h0 =>
        obtain ⟨inf, d, hin, hd, _, _, _, _, hel, har, _⟩ := tiOf_parts hti
        cases he : ti.elem with
        | some e =>
          simp only [he] at hv
          obtain rfl := hel e he
          cases hte : tiOf P e with
          | none => simp [hte] at hv
          | some te =>
            simp only [hte] at hv
            have hs := run_sizeOf (P := P) hte w
            cases a with
            | lst sz l =>
              simp only at hv
              split at hv
              · rename_i hsz
                cases hl : l[i.toNat]? with
                | none => simp [hl] at hv
                | some cs =>
                  simp only [hl] at hv
                  cases hv
                  rcases r.lst_inv with ⟨rfl, _⟩ | ⟨b, off, cap, f, rfl, hne, hz, hcap, hszs, hc, h1, hr⟩
                  · simp at hl
                  · have hlt : i.toNat < l.length := (List.getElem?_eq_some_iff.1 hl).1
                    have hi : i < (l.length : Int) := by omega
                    refine ⟨.pointer (some ⟨b, off + i.toNat * te.size, none⟩), ?_, ?_⟩
                    · simp [Instr.indexAt, asIntOf, run_underlying hd, h0, hi, hs, Addr.add_lit]
                    · rw [← hsz]
                      exact .cptr _ _ cs b _ (fun j => f i.toNat j) hz (fun j c hj => hc _ _ hl j c hj) (fun j c hj => h1 _ _ hl j c hj) (fun j c hj => hr _ _ hl j c hj)
              · cases hv
            | own id g lo =>
              simp only at hv
              cases hlk : look id h with
              | none => simp [hlk] at hv
              | some ob =>
                cases ob <;> simp [hlk] at hv
                rename_i g' sz L
                obtain ⟨⟨rfl, rfl, hlt⟩, rfl⟩ := hv
                · obtain ⟨hid, h1, ho⟩ := r.own_inv
                  obtain ⟨hlo, hn, a0, rfl, ha⟩ := (ho _ _ _ hlk).2 rfl
                  rcases (S.obj _ _ hlk).2 with ⟨rfl, _, _⟩ | ⟨b, o, T, vs, hloc, h2, h3, h4, h5, h6⟩
                  · simp at hlt
                  · have ha' := ha (by omega)
                    rw [hloc] at ha'
                    simp only [Option.map_some] at ha'
                    subst ha'
                    have hi : i < ((L.length - lo : Nat) : Int) := by omega
                    refine ⟨.pointer (some ⟨b, o + lo * te.size + i.toNat * te.size, none⟩), ?_, ?_⟩
                    · simp [Instr.indexAt, asIntOf, run_underlying hd, h0, hi, hs, Addr.add_lit]
                    · refine .eptr _ _ _ _ _ _ _ hid rfl fun g' sz' L' hl' => ?_
                      rw [hlk] at hl'
                      cases hl'
                      refine ⟨Nat.le_refl _, fun _ => ⟨b, o, hloc, ?_⟩⟩
                      congr 3
                      rw [Nat.add_mul]
                      omega
            | _ => simp at hv
        | none =>
          simp only [he] at hv
          cases har' : ti.arr with
          | none => simp [har'] at hv
          | some ne =>
            obtain ⟨n, e⟩ := ne
            simp only [har'] at hv
            obtain rfl := har n e har'
            cases hte : tiOf P e with
            | none => simp [hte] at hv
            | some te =>
              simp only [hte] at hv
              split at hv
              · rename_i hlt
                cases hpc : ptrCells h a with
                | none => simp [hpc] at hv
                | some cs =>
                  simp only [hpc] at hv
                  obtain ⟨b, o, _, rfl, _⟩ := ptrCells_sound S r hpc
                  refine ⟨_, ?_, addOff_sound S r (by simp [hpc]) hv⟩
                  have hs := run_sizeOf (P := P) hte w
                  simp [Instr.indexAt, asIntOf, run_underlying hd, h0, hlt.1, Instr.sureAddr, hs, Addr.add_lit]
              · cases hv
end
end Go.Abs
