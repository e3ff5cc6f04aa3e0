/- The abstract layer, part D: arithmetic, comparisons, structs, slices' cuts, texts' bytes, by content, and that the machine's operations do the same. -/
import Derived.Test.YtlmkmmkhfkdagaaAbsC
set_option linter.unusedVariables false
set_option linter.unusedSimpArgs false
namespace Go.Abs
open Go.RowKit

/-! ### Operators -/

def intBin (op : BinOp) (k : IntKind) (a b : Int) : Option Value :=
  match op with
  | .add => some (.int k (k.wrap (a + b)))
  | .sub => some (.int k (k.wrap (a - b)))
  | .mul => some (.int k (k.wrap (a * b)))
  | .quo => if b = 0 then none else some (.int k (k.wrap (a.tdiv b)))
  | .rem => if b = 0 then none else some (.int k (a.tmod b))
  | .eql => some (.bool (decide (a = b)))
  | .neq => some (.bool (!decide (a = b)))
  | .lss => some (.bool (decide (a < b)))
  | .leq => some (.bool (decide (a ≤ b)))
  | .gtr => some (.bool (decide (b < a)))
  | .geq => some (.bool (decide (b ≤ a)))
  | _ => none

/-- Is a text ahead of another one? -/
def strLt (a b : ByteArray) : Bool := Op.bytesLess a.toList b.toList

def strBin (op : BinOp) (a b : ByteArray) : Option Value :=
  match op with
  | .add => if a.size + b.size ≤ 9223372036854775807 then some (.string (a ++ b)) else none
  | .eql => some (.bool (decide (a = b)))
  | .neq => some (.bool (!decide (a = b)))
  | .lss => some (.bool (strLt a b))
  | .leq => some (.bool (strLt a b || decide (a = b)))
  | .gtr => some (.bool (!(strLt a b || decide (a = b))))
  | .geq => some (.bool (!strLt a b))
  | _ => none

def eqCell : SK → AV → AV → Option Bool
  | .int, .sc (.int k a), .sc (.int k' b) => if k = k' then some (decide (a = b)) else none
  | .str, .sc (.string a), .sc (.string b) => some (decide (a = b))
  | .bool, .sc (.bool a), .sc (.bool b) => some (a == b)
  | _, _, _ => none

def eqCells : List SK → List AV → List AV → Option Bool
  | [], [], [] => some true
  | k :: ks, a :: as, b :: bs => match eqCell k a b, eqCells ks as bs with
    | some x, some y => some (x && y)
    | _, _ => none
  | _, _, _ => none

def boolOf (op : BinOp) (r : Option Bool) : Option AV :=
  match op, r with
  | .eql, some b => some (.sc (.bool b))
  | .neq, some b => some (.sc (.bool (!b)))
  | _, _ => none

/-- x == y for values other than numbers and texts. -/
def eqA (ti : TI) (x y : AV) : Option Bool :=
  match x, y with
  | .sc (.bool a), .sc (.bool b) => if ti.bool then some (a == b) else none
  | .sc .nilFunc, .sc .nilFunc => if ti.func then some true else none
  | .fn _ _, .sc .nilFunc => if ti.func then some false else none
  | .sc (.pointer none), .sc (.pointer none) => if ti.pointer then some true else none
  | .sc (.iface _ _), .sc .nilIface => if ti.iface then some false else none
  | .sc .nilIface, .sc (.iface _ _) => if ti.iface then some false else none
  | .agg cs, .agg ds => match ti.eqk with
    | some ks => if ti.agg then eqCells ks cs ds else none
    | none => none
  | _, _ => none

def isConstNil : Operand → Bool
  | .const .nilIface => true
  | _ => false

def binA (P : Program) (h : Heap) (op : BinOp) (t : TypeId) (xo yo : Operand) (x y : AV) : Option AV :=
  match x, y with
  | .sc (.int k a), .sc (.int k' b) => if k = k' then (intBin op k a b).map .sc else none
  | .sc (.string a), .sc (.string b) => (strBin op a b).map .sc
  | .sc .nilIface, .sc .nilIface => if isConstNil yo then (match tiOf P t with | some ti => if ti.iface then boolOf op (some true) else none | none => none) else none
  | x, .sc (.pointer none) => match tiOf P t with
    | none => none
    | some ti => if ti.pointer then (match x with
      | .sc (.pointer none) => boolOf op (some true)
      | x => match ptrCells h x with
        | some _ => boolOf op (some false)
        | none => none) else none
  | x, y => match tiOf P t with
    | none => none
    | some ti => boolOf op (eqA ti x y)

section
variable {P : Program} {G : Gh} {w : World} {A : Nat → Prop} {h : Heap}

theorem toList_eq_iff (a b : ByteArray) : (a.toList == b.toList) = decide (a = b) := by
  rw [← beq_toListBytes]
  by_cases e : a = b
  · subst e; rw [beq_toListBytes]; simp
  · rw [decide_eq_false e]
    rw [beq_toListBytes, ByteArray.toList_eq, ByteArray.toList_eq]
    obtain ⟨⟨x⟩⟩ := a
    obtain ⟨⟨y⟩⟩ := b
    have : ¬ (x = y) := fun h => e (by rw [h])
    simpa using this

theorem intBin_sound {op : BinOp} {k : IntKind} {a b : Int} {v : Value} (t : TypeId) (hv : intBin op k a b = some v) : (binOp op t (.int k a) (.int k b)).run P w = .ok v w := by
  unfold intBin at hv
  split at hv <;> simp at hv
  case h_4 => obtain ⟨hb, rfl⟩ := hv; simp [binOp_quo, Op.intDiv, hb]
  case h_5 => obtain ⟨hb, rfl⟩ := hv; simp [binOp_rem, Op.intDiv, hb]
  all_goals subst hv
  · simp [binOp_add, Op.intArith]
  · simp [binOp_sub, Op.intArith]
  · simp [binOp_mul, Op.intArith]
  · simp [binOp_eql]; rfl
  · simp [binOp_neq, bne]; rfl
  · simp [binOp_lss]
  · simp [binOp_leq]
  · simp [binOp_gtr]
  · simp [binOp_geq]

theorem strBin_sound {op : BinOp} {a b : ByteArray} {v : Value} (t : TypeId) (hv : strBin op a b = some v) : (binOp op t (.string a) (.string b)).run P w = .ok v w := by
  have hb : ∀ op, binOp op t (.string a) (.string b) = Op.stringOp op a b := fun op => by cases op <;> rfl
  rw [hb]
  unfold strBin at hv
  split at hv <;> simp at hv
  case h_1 =>
    obtain ⟨hsz, rfl⟩ := hv
    have : ¬ (9223372036854775807 < (a.size : Int) + (b.size : Int)) := by omega
    simp [Op.stringOp, this]
  all_goals subst hv
  all_goals simp [Op.stringOp, toList_eq_iff, strLt]

theorem eqGuard_other {op : BinOp} {t : TypeId} {xo yo : Operand} {x y : Value} (h1 : ∀ a b, ¬ (x = .agg a ∧ y = .agg b)) (h2 : ¬ (x = .nilIface ∧ y = .nilIface)) :
    (eqGuard op t xo yo x y).run P w = .ok () w := by
  cases x <;> cases y <;> first
    | exact absurd ⟨rfl, rfl⟩ h2
    | exact absurd ⟨rfl, rfl⟩ (h1 _ _)
    | (cases op <;> rfl)

def eqVal : SK → Value → Value → Option Bool
  | .int, .int k a, .int k' b => if k = k' then some (decide (a = b)) else none
  | .str, .string a, .string b => some (decide (a = b))
  | .bool, .bool a, .bool b => some (a == b)
  | _, _, _ => none

def eqVals : List SK → List Value → List Value → Option Bool
  | [], [], [] => some true
  | k :: ks, a :: as, b :: bs => match eqVal k a b, eqVals ks as bs with
    | some x, some y => some (x && y)
    | _, _ => none
  | _, _, _ => none

theorem eqVals_length : ∀ {ks : List SK} {as bs : List Value} {r : Bool}, eqVals ks as bs = some r → as.length = ks.length ∧ bs.length = ks.length
  | [], [], [], r, _ => ⟨rfl, rfl⟩
  | k :: ks, a :: as, b :: bs, r, h => by
    simp only [eqVals] at h
    split at h
    · rename_i x y h1 h2
      have := eqVals_length h2
      simp [this.1, this.2]
    · cases h
  | [], _ :: _, _, r, h => by simp [eqVals] at h
  | [], [], _ :: _, r, h => by simp [eqVals] at h
  | _ :: _, [], _, r, h => by simp [eqVals] at h
  | _ :: _, _ :: _, [], r, h => by simp [eqVals] at h

theorem eqVals_append : ∀ {k1 k2 : List SK} {as bs : List Value} {r : Bool}, eqVals (k1 ++ k2) as bs = some r →
    ∃ r1 r2, eqVals k1 (as.take k1.length) (bs.take k1.length) = some r1 ∧ eqVals k2 (as.drop k1.length) (bs.drop k1.length) = some r2 ∧ r = (r1 && r2)
  | [], k2, as, bs, r, h => ⟨true, r, by simp [eqVals], by simpa using h, by simp⟩
  | k :: k1, k2, [], bs, r, h => by simp [eqVals] at h
  | k :: k1, k2, a :: as, [], r, h => by simp [eqVals] at h
  | k :: k1, k2, a :: as, b :: bs, r, h => by
    simp only [List.cons_append, eqVals] at h
    split at h
    · rename_i x y h1 h2
      cases h
      obtain ⟨r1, r2, h3, h4, h5⟩ := eqVals_append h2
      exact ⟨x && r1, r2, by simp [eqVals, h1, h3], by simpa using h4, by rw [h5, Bool.and_assoc]⟩
    · cases h

theorem eqCell_vals {k : SK} {c d : AV} {x y : Value} {r : Bool} (hx : Rel G w A h c x) (hy : Rel G w A h d y) (he : eqCell k c d = some r) : eqVal k x y = some r := by
  unfold eqCell at he
  split at he
  · rw [hx.sc_inv, hy.sc_inv]; simpa [eqVal] using he
  · rw [hx.sc_inv, hy.sc_inv]; simpa [eqVal] using he
  · rw [hx.sc_inv, hy.sc_inv]; simpa [eqVal] using he
  · cases he

theorem Rels.cons_inv {c : AV} {cs : List AV} {vs : List Value} (r : Rels G w A h (c :: cs) vs) : ∃ v vs', vs = v :: vs' ∧ Rel G w A h c v ∧ Rels G w A h cs vs' := by
  obtain ⟨hl, hr⟩ := r
  cases vs with
  | nil => simp at hl
  | cons v vs => exact ⟨v, vs, rfl, hr 0 c rfl, by simpa using hl, fun j d hj => hr (j + 1) d (by simpa using hj)⟩

theorem eqCells_vals : ∀ {ks : List SK} {cs ds : List AV} {xs ys : List Value} {r : Bool}, Rels G w A h cs xs → Rels G w A h ds ys → eqCells ks cs ds = some r → eqVals ks xs ys = some r
  | [], [], [], xs, ys, r, hx, hy, he => by
    obtain rfl := List.eq_nil_of_length_eq_zero hx.1.symm
    obtain rfl := List.eq_nil_of_length_eq_zero hy.1.symm
    simpa [eqVals, eqCells] using he
  | k :: ks, c :: cs, d :: ds, xs, ys, r, hx, hy, he => by
    obtain ⟨x, xs', rfl, hx1, hx2⟩ := hx.cons_inv
    obtain ⟨y, ys', rfl, hy1, hy2⟩ := hy.cons_inv
    simp only [eqCells] at he
    split at he
    · rename_i a b h1 h2
      simp only [eqVals, eqCell_vals hx1 hy1 h1, eqCells_vals hx2 hy2 h2]
      exact he
    · cases he
  | [], _ :: _, _, _, _, r, _, _, h => by simp [eqCells] at h
  | [], [], _ :: _, _, _, r, _, _, h => by simp [eqCells] at h
  | _ :: _, [], _, _, _, r, _, _, h => by simp [eqCells] at h
  | _ :: _, _ :: _, [], _, _, r, _, _, h => by simp [eqCells] at h

theorem eqVals_one {k : SK} {as bs : List Value} {r : Bool} (he : eqVals [k] as bs = some r) : ∃ a b, as = [a] ∧ bs = [b] ∧ eqVal k a b = some r := by
  have hl := eqVals_length he
  match as, bs, hl with
  | [a], [b], _ =>
    refine ⟨a, b, rfl, rfl, ?_⟩
    simp only [eqVals] at he
    split at he
    · rename_i x y h1 h2
      cases h2
      simpa [h1] using he
    · cases he

/-- The value of a type out of its cells. -/
def ofCells (P : Program) (t : TypeId) (vs : List Value) : Value := if aggT P t then .agg vs.toArray else vs.headD undef

theorem run_part {t : TypeId} {xs : List Value} {o n : Nat} (hn : (P.info? t).map (·.size) = some n) (hu : (P.underlying t).isSome = true) (h1 : aggT P t = true ∨ n = 1) (hlen : o + n ≤ xs.length) :
    (part t xs.toArray o).run P w = .ok (ofCells P t ((xs.drop o).take n)) w := by
  obtain ⟨d, hd⟩ := Option.isSome_iff_exists.1 hu
  have hi : (isAgg t).run P w = .ok (aggT P t) w := by
    simp only [isAgg, Sem.run_bind, run_underlying hd, Result.andThen_ok, aggT, hd]
    cases d <;> rfl
  simp only [Option.map_eq_some_iff] at hn
  obtain ⟨i, hi', rfl⟩ := hn
  simp only [part, Sem.run_bind, hi, Result.andThen_ok]
  by_cases ha : aggT P t = true
  · simp only [ha, if_true, Sem.run_bind, sizeOf, typeInfo, run_program, Result.andThen_ok, hi', Sem.run_pure, ofCells]
    congr 1
    simp [List.extract_eq_take_drop]
  · rcases h1 with h1 | h1
    · exact absurd h1 ha
    · simp only [ha, Bool.false_eq_true, if_false, ofCells, h1]
      have hlt : o < xs.length := by omega
      have e : (xs.drop o).take 1 = [xs[o]] := by rw [List.drop_eq_getElem_cons hlt]; rfl
      have e2 : xs.toArray[o]? = some xs[o] := by simp [hlt]
      rw [e, e2]
      rfl

theorem flatK_scalar {n : Nat} {t : TypeId} {ks : List SK} (hk : flatK P n t = some ks) : (P.underlying t).isSome = true ∧ (aggT P t = true ∨ ks.length = 1) := by
  cases n with
  | zero => simp [flatK] at hk
  | succ n =>
    simp only [flatK] at hk
    split at hk
    · rename_i hu; cases hk; simp [hu]
    · rename_i hu; cases hk; simp [hu]
    · rename_i hu; cases hk; simp [hu]
    · rename_i hu; simp [hu, aggT]
    · cases hk

theorem eqFields_flat (d : Nat) {rec : TypeId → Option (List SK)} {xs ys : List Value}
    (hsc : ∀ t ks, rec t = some ks → (P.underlying t).isSome = true ∧ (aggT P t = true ∨ ks.length = 1))
    (ih : ∀ t ks, rec t = some ks → ∀ as bs r, eqVals ks as bs = some r → (Op.equalIn d t (ofCells P t as) (ofCells P t bs)).run P w = .ok r w) :
    ∀ (fs : List Field) (o : Nat) (ks : List SK) (r : Bool), flatFields P rec fs o = some ks → eqVals ks (xs.drop o) (ys.drop o) = some r →
      (Op.eqFields d xs.toArray ys.toArray fs).run P w = .ok r w
  | [], o, ks, r, hf, he => by
    simp only [flatFields] at hf
    cases hf
    have hl := eqVals_length he
    generalize xs.drop o = l1 at he hl
    generalize ys.drop o = l2 at he hl
    have h1 : l1 = [] := by simpa using hl.1
    have h2 : l2 = [] := by simpa using hl.2
    subst h1; subst h2
    simp only [eqVals] at he
    cases he
    simp [Op.eqFields]
  | f :: fs, o, ks, r, hf, he => by
    simp only [flatFields] at hf
    cases hr : rec f.type with
    | none => simp [hr] at hf
    | some a =>
      simp only [hr] at hf
      split at hf
      · cases hf
      · rename_i hc
        simp only [Bool.or_eq_true, bne_iff_ne, not_or, Decidable.not_not, beq_iff_eq, ne_eq] at hc
        obtain ⟨⟨hname, hoff⟩, hsz⟩ := hc
        simp only [Option.map_eq_some_iff] at hf
        obtain ⟨ks', hks', rfl⟩ := hf
        obtain ⟨r1, r2, h1, h2, rfl⟩ := eqVals_append he
        have hlen := eqVals_length he
        simp only [List.length_append, List.length_drop] at hlen
        have hlx : o + a.length ≤ xs.length ∨ a.length = 0 := by omega
        have hly : o + a.length ≤ ys.length ∨ a.length = 0 := by omega
        rw [List.drop_drop, List.drop_drop] at h2
        have hrest := eqFields_flat d hsc ih fs (o + a.length) ks' r2 hks' h2
        obtain ⟨hu, hag⟩ := hsc _ _ hr
        have hq := ih f.type a hr _ _ r1 h1
        by_cases ho : o + a.length ≤ xs.length ∧ o + a.length ≤ ys.length
        · have hp1 := run_part (P := P) (w := w) (xs := xs) (o := o) hsz hu hag ho.1
          have hp2 := run_part (P := P) (w := w) (xs := ys) (o := o) hsz hu hag ho.2
          rw [Op.eqFields, if_pos hname, hoff]
          simp only [Sem.run_bind, hp1, hp2, hq, Result.andThen_ok]
          cases r1
          · simp
          · simpa using hrest
        · have ha0 : a.length = 0 := by omega
          have hagg : aggT P f.type = true := by
            rcases hag with hag | hag
            · exact hag
            · omega
          have hp : ∀ zs : List Value, (part f.type zs.toArray o).run P w = .ok (ofCells P f.type ((zs.drop o).take a.length)) w := by
            intro zs
            obtain ⟨d', hd'⟩ := Option.isSome_iff_exists.1 hu
            have hi : (isAgg f.type).run P w = .ok (aggT P f.type) w := by
              simp only [isAgg, Sem.run_bind, run_underlying hd', Result.andThen_ok, aggT, hd']
              cases d' <;> rfl
            simp only [Option.map_eq_some_iff] at hsz
            obtain ⟨i, hi', hi2⟩ := hsz
            simp only [part, Sem.run_bind, hi, Result.andThen_ok, hagg, if_true, Sem.run_bind, sizeOf, typeInfo, run_program, Result.andThen_ok, hi', Sem.run_pure, ofCells, hi2, ha0]
            congr 1
            simp
          rw [Op.eqFields, if_pos hname, hoff]
          simp only [Sem.run_bind, hp, hq, Result.andThen_ok]
          cases r1
          · simp
          · simpa using hrest

theorem equal_flat : ∀ (n d : Nat) (t : TypeId) (ks : List SK), flatK P n t = some ks → ∀ as bs r, eqVals ks as bs = some r → (Op.equalIn (d + n) t (ofCells P t as) (ofCells P t bs)).run P w = .ok r w
  | 0, d, t, ks, hk, as, bs, r, he => by simp [flatK] at hk
  | n + 1, d, t, ks, hk, as, bs, r, he => by
    simp only [flatK] at hk
    split at hk
    · rename_i hu
      cases hk
      obtain ⟨a, b, rfl, rfl, hv⟩ := eqVals_one he
      cases a <;> cases b <;> simp [eqVal] at hv
      subst hv
      simp [ofCells, aggT, hu, Op.equalIn, run_underlying hu, ← Nat.add_assoc]
    · rename_i k hu
      cases hk
      obtain ⟨a, b, rfl, rfl, hv⟩ := eqVals_one he
      cases a <;> cases b <;> simp [eqVal] at hv
      obtain ⟨rfl, rfl⟩ := hv
      simp [ofCells, aggT, hu, Op.equalIn, run_underlying hu, ← Nat.add_assoc]
      rfl
    · rename_i hu
      cases hk
      obtain ⟨a, b, rfl, rfl, hv⟩ := eqVals_one he
      cases a <;> cases b <;> simp [eqVal] at hv
      subst hv
      rename_i s1 s2
      have := run_equalIn_string (P := P) w (d + n) t s1 s2 hu
      simp only [ofCells, aggT, hu, Bool.false_eq_true, if_false, List.headD_cons]
      rw [show d + (n + 1) = d + n + 1 from rfl, this, toList_eq_iff]
    · rename_i fs hu
      split at hk
      · cases hk
      · rename_i hst
        have hfo : P.fieldsOf t = fs := by simp [Program.fieldsOf, hu]
        have h1 := run_equalIn_struct (P := P) w (d + n) t as.toArray bs.toArray (by rw [hfo]; exact hu) (by simpa using hst)
        simp only [ofCells, aggT, hu, if_true]
        rw [show d + (n + 1) = d + n + 1 from rfl, h1, hfo]
        exact eqFields_flat (P := P) (w := w) (d + n) (rec := flatK P n) (fun t ks h => flatK_scalar h) (fun t ks h as bs r he => equal_flat n d t ks h as bs r he) fs.toList 0 ks r hk (by simpa using he)
    · cases hk

end
end Go.Abs
