/- The abstract layer, part E: the other operations that only compute or read: operators, conversions, texts' bytes, lengths, cuts, structs built and taken apart. -/
import Derived.Test.YtlmkmmkhfkdagaaAbsD
import Derived.Laws.Tables
set_option linter.unusedVariables false
set_option linter.unusedSimpArgs false
namespace Go.Abs
open Go.RowKit
section
variable {P : Program} {G : Gh} {w : World} {A : Nat → Prop} {h : Heap}

theorem boolOf_sound {op : BinOp} {t : TypeId} {x y : Value} {b : Option Bool} {v : AV} (hx : ∀ k n, x ≠ .int k n) (hs : ∀ s, x ≠ .string s) (hf : ∀ k n, x ≠ .float k n) (hc : ∀ k n m, x ≠ .complex k n m)
    (he : ∀ r, b = some r → (Op.equal t x y).run P w = .ok r w) (hv : boolOf op b = some v) : ∃ z, (binOp op t x y).run P w = .ok z w ∧ Rel G w A h v z := by
  cases b with
  | none => cases op <;> simp [boolOf] at hv
  | some r =>
    have he' := he r rfl
    cases op <;> simp only [boolOf] at hv <;> try cases hv
    · have : binOp .eql t x y = (do pure (.bool (← Op.equal t x y))) := by
        cases x <;> first
          | exact absurd rfl (hx _ _)
          | exact absurd rfl (hs _)
          | exact absurd rfl (hf _ _)
          | exact absurd rfl (hc _ _ _)
          | rfl
      refine ⟨.bool r, ?_, .sc ..⟩
      rw [this]
      simp [he']
    · have : binOp .neq t x y = (do pure (.bool (!(← Op.equal t x y)))) := by
        cases x <;> first
          | exact absurd rfl (hx _ _)
          | exact absurd rfl (hs _)
          | exact absurd rfl (hf _ _)
          | exact absurd rfl (hc _ _ _)
          | rfl
      refine ⟨.bool (!r), ?_, .sc ..⟩
      rw [this]
      simp [he']

theorem eqIn_bool (d : Nat) {t : TypeId} (hd : P.underlying t = some .bool) (a b : Bool) : (Op.equalIn (d + 1) t (.bool a) (.bool b)).run P w = .ok (a == b) w := by
  simp [Op.equalIn, run_underlying hd]
theorem eqIn_nilFunc (d : Nat) {t : TypeId} {p q : Array TypeId} {s : Bool} (hd : P.underlying t = some (.func p q s)) : (Op.equalIn (d + 1) t .nilFunc .nilFunc).run P w = .ok true w := by
  simp [Op.equalIn, run_underlying hd]
theorem eqIn_func (d : Nat) {t : TypeId} {p q : Array TypeId} {s : Bool} (hd : P.underlying t = some (.func p q s)) (f : Fn) (a b : Array Value) : (Op.equalIn (d + 1) t (.func f a b) .nilFunc).run P w = .ok false w := by
  simp [Op.equalIn, run_underlying hd]
theorem eqIn_nilPtr (d : Nat) {t e : TypeId} (hd : P.underlying t = some (.pointer e)) : (Op.equalIn (d + 1) t (.pointer none) (.pointer none)).run P w = .ok true w := by
  simp [Op.equalIn, run_underlying hd]
theorem eqIn_ptr (d : Nat) {t e : TypeId} (hd : P.underlying t = some (.pointer e)) (a : Addr) : (Op.equalIn (d + 1) t (.pointer (some a)) (.pointer none)).run P w = .ok false w := by
  simp [Op.equalIn, run_underlying hd]
theorem eqIn_ifaceNil (d : Nat) {t : TypeId} {ms : Array (String × TypeId)} (hd : P.underlying t = some (.interface ms)) (u : TypeId) (v : Value) : (Op.equalIn (d + 1) t (.iface u v) .nilIface).run P w = .ok false w := by
  simp [Op.equalIn, run_underlying hd]
theorem eqIn_nilIface (d : Nat) {t : TypeId} {ms : Array (String × TypeId)} (hd : P.underlying t = some (.interface ms)) (u : TypeId) (v : Value) : (Op.equalIn (d + 1) t .nilIface (.iface u v)).run P w = .ok false w := by
  simp [Op.equalIn, run_underlying hd]
theorem eqIn_nilNil (d : Nat) {t : TypeId} {ms : Array (String × TypeId)} (hd : P.underlying t = some (.interface ms)) : (Op.equalIn (d + 1) t .nilIface .nilIface).run P w = .ok true w := by
  simp [Op.equalIn, run_underlying hd]
theorem equal_succ (t : TypeId) (x y : Value) : Op.equal t x y = Op.equalIn (9999 + 1) t x y := rfl

theorem equal_sound {t : TypeId} {ti : TI} (hti : tiOf P t = some ti) {x y : AV} {a b : Value} (hx : Rel G w A h x a) (hy : Rel G w A h y b) {r : Bool} (he : eqA ti x y = some r) :
    (Op.equal t a b).run P w = .ok r w ∧ (∀ k n, a ≠ .int k n) ∧ (∀ s, a ≠ .string s) ∧ (∀ k n, a ≠ .float k n) ∧ (∀ k n m, a ≠ .complex k n m) ∧
      ((∃ xs ys, a = .agg xs ∧ b = .agg ys ∧ P.eqGuardType P.depth t = false) ∨ ((∀ c d, ¬ (a = .agg c ∧ b = .agg d)) ∧ ¬ (a = .nilIface ∧ b = .nilIface))) := by
  obtain ⟨d, hd, h1, h2, h3, h4, h5, h6⟩ := tiOf_more hti
  rw [equal_succ]
  unfold eqA at he
  split at he
  · obtain rfl := hx.sc_inv
    obtain rfl := hy.sc_inv
    split at he
    · rename_i hb
      obtain rfl := h2 hb
      cases he
      exact ⟨eqIn_bool _ hd _ _, by simp, by simp, by simp, by simp, .inr (by simp)⟩
    · cases he
  · obtain rfl := hx.sc_inv
    obtain rfl := hy.sc_inv
    split at he
    · rename_i hb
      obtain ⟨p, q, s, rfl⟩ := h3 hb
      cases he
      exact ⟨eqIn_nilFunc _ hd, by simp, by simp, by simp, by simp, .inr (by simp)⟩
    · cases he
  · obtain ⟨vs, rfl, _⟩ := hx.fn_inv
    obtain rfl := hy.sc_inv
    split at he
    · rename_i hb
      obtain ⟨p, q, s, rfl⟩ := h3 hb
      cases he
      exact ⟨eqIn_func _ hd _ _ _, by simp, by simp, by simp, by simp, .inr (by simp)⟩
    · cases he
  · obtain rfl := hx.sc_inv
    obtain rfl := hy.sc_inv
    split at he
    · rename_i hb
      obtain ⟨p, rfl⟩ := h4 hb
      cases he
      exact ⟨eqIn_nilPtr _ hd, by simp, by simp, by simp, by simp, .inr (by simp)⟩
    · cases he
  · obtain rfl := hx.sc_inv
    obtain rfl := hy.sc_inv
    split at he
    · rename_i hb
      obtain ⟨p, rfl⟩ := h1 hb
      cases he
      exact ⟨eqIn_ifaceNil _ hd _ _, by simp, by simp, by simp, by simp, .inr (by simp)⟩
    · cases he
  · obtain rfl := hx.sc_inv
    obtain rfl := hy.sc_inv
    split at he
    · rename_i hb
      obtain ⟨p, rfl⟩ := h1 hb
      cases he
      exact ⟨eqIn_nilIface _ hd _ _, by simp, by simp, by simp, by simp, .inr (by simp)⟩
    · cases he
  · split at he
    · rename_i cs ds ks hk
      split at he
      · rename_i hag
        obtain ⟨hg, hfl⟩ := h6 ks hk
        obtain ⟨xs, rfl, _, hxs⟩ := hx.agg_inv
        obtain ⟨ys, rfl, _, hys⟩ := hy.agg_inv
        have hev := eqCells_vals hxs hys he
        have heq := equal_flat (P := P) (w := w) 8 9992 t ks hfl xs ys r hev
        obtain ⟨_, _, _, _, _, _, hagg, _⟩ := tiOf_parts hti
        rw [hag] at hagg
        refine ⟨?_, by simp, by simp, by simp, by simp, .inl ⟨_, _, rfl, rfl, hg⟩⟩
        simpa only [ofCells, ← hagg, if_true] using heq
      · cases he
    · cases he
  · cases he

theorem binA_sound (S : SatH G w A h) {op : BinOp} {t : TypeId} {xo yo : Operand} {x y v : AV} {a b : Value} (hx : Rel G w A h x a) (hy : Rel G w A h y b) (hv : binA P h op t xo yo x y = some v) :
    ∃ z, (do eqGuard op t xo yo a b; binOp op t a b : Sem Value).run P w = .ok z w ∧ Rel G w A h v z := by
  have other : ∀ {ti : TI}, tiOf P t = some ti → boolOf op (eqA ti x y) = some v → ∃ z, (do eqGuard op t xo yo a b; binOp op t a b : Sem Value).run P w = .ok z w ∧ Rel G w A h v z := by
    intro ti hti hv
    cases he : eqA ti x y with
    | none => rw [he] at hv; cases op <;> simp [boolOf] at hv
    | some r =>
      obtain ⟨h1, h2, h3, h4, h5, h6⟩ := equal_sound hti hx hy he
      rw [he] at hv
      obtain ⟨z, h7, h8⟩ := boolOf_sound (P := P) (G := G) (w := w) (A := A) (h := h) (t := t) (y := b) h2 h3 h4 h5 (fun r' hr => by cases hr; exact h1) hv
      refine ⟨z, ?_, h8⟩
      have hg : (eqGuard op t xo yo a b).run P w = .ok () w := by
        rcases h6 with ⟨xs, ys, rfl, rfl, hg⟩ | ⟨h9, h10⟩
        · exact run_eqGuard_agg w op t xo yo xs ys hg
        · exact eqGuard_other h9 h10
      simp only [Sem.run_bind, hg, Result.andThen_ok, h7]
  unfold binA at hv
  split at hv
  · rename_i k n k' m
    obtain rfl := hx.sc_inv
    obtain rfl := hy.sc_inv
    split at hv
    · rename_i hk
      subst hk
      simp only [Option.map_eq_some_iff] at hv
      obtain ⟨z, hz, rfl⟩ := hv
      refine ⟨z, ?_, .sc ..⟩
      simp only [Sem.run_bind, eqGuard_other (P := P) (w := w) (op := op) (t := t) (xo := xo) (yo := yo) (x := .int k n) (y := .int k m) (by simp) (by simp), Result.andThen_ok]
      exact intBin_sound t hz
    · cases hv
  · obtain rfl := hx.sc_inv
    obtain rfl := hy.sc_inv
    simp only [Option.map_eq_some_iff] at hv
    obtain ⟨z, hz, rfl⟩ := hv
    refine ⟨z, ?_, .sc ..⟩
    rename_i s1 s2
    simp only [Sem.run_bind, eqGuard_other (P := P) (w := w) (op := op) (t := t) (xo := xo) (yo := yo) (x := .string s1) (y := .string s2) (by simp) (by simp), Result.andThen_ok]
    exact strBin_sound t hz
  · obtain rfl := hx.sc_inv
    obtain rfl := hy.sc_inv
    split at hv
    · rename_i hc
      cases yo <;> simp [isConstNil] at hc
      rename_i c
      split at hv
      · rename_i ti hti
        split at hv
        · rename_i hif
          obtain ⟨d, hd, h1, _⟩ := tiOf_more hti
          obtain ⟨ms, rfl⟩ := h1 hif
          obtain ⟨z, h7, h8⟩ := boolOf_sound (P := P) (G := G) (w := w) (A := A) (h := h) (t := t) (x := .nilIface) (y := .nilIface) (by simp) (by simp) (by simp) (by simp) (fun r' hr => by cases hr; exact eqIn_nilNil _ hd) hv
          refine ⟨z, ?_, h8⟩
          have hg : (eqGuard op t xo (.const c) .nilIface .nilIface).run P w = .ok () w := by rw [eqGuard_nil_constR]; rfl
          simp only [Sem.run_bind, hg, Result.andThen_ok, h7]
        · cases hv
      · cases hv
    · cases hv
  · obtain rfl := hy.sc_inv
    split at hv
    · cases hv
    · rename_i ti hti
      split at hv
      · rename_i hp
        obtain ⟨d, hd, _, _, _, h4, _⟩ := tiOf_more hti
        obtain ⟨e, rfl⟩ := h4 hp
        split at hv
        · obtain rfl := hx.sc_inv
          obtain ⟨z, h7, h8⟩ := boolOf_sound (P := P) (G := G) (w := w) (A := A) (h := h) (t := t) (x := .pointer none) (y := .pointer none) (by simp) (by simp) (by simp) (by simp) (fun r' hr => by cases hr; exact eqIn_nilPtr _ hd) hv
          refine ⟨z, ?_, h8⟩
          simp only [Sem.run_bind, eqGuard_other (P := P) (w := w) (op := op) (t := t) (xo := xo) (yo := yo) (x := .pointer none) (y := .pointer none) (by simp) (by simp), Result.andThen_ok, h7]
        · split at hv
          · rename_i cs hpc
            obtain ⟨b0, o0, _, rfl, _⟩ := ptrCells_sound S hx hpc
            obtain ⟨z, h7, h8⟩ := boolOf_sound (P := P) (G := G) (w := w) (A := A) (h := h) (t := t) (x := .pointer (some ⟨b0, o0, none⟩)) (y := .pointer none) (by simp) (by simp) (by simp) (by simp) (fun r' hr => by cases hr; exact eqIn_ptr _ hd _) hv
            refine ⟨z, ?_, h8⟩
            simp only [Sem.run_bind, eqGuard_other (P := P) (w := w) (op := op) (t := t) (xo := xo) (yo := yo) (x := .pointer (some ⟨b0, o0, none⟩)) (y := .pointer none) (by simp) (by simp), Result.andThen_ok, h7]
          · cases hv
      · cases hv
  · split at hv
    · cases hv
    · rename_i ti hti
      exact other hti hv

/-! ### One operand; conversions -/

def unA (op : UnOp) (x : AV) : Option AV :=
  match op, x with
  | .not, .sc (.bool b) => some (.sc (.bool (!b)))
  | .neg, .sc (.int k n) => some (.sc (.int k (k.wrap (0 - n))))
  | _, _ => none

theorem unA_sound {op : UnOp} {x v : AV} {a : Value} (hx : Rel G w A h x a) (hv : unA op x = some v) : ∃ z, (Op.unary op a).run P w = .ok z w ∧ Rel G w A h v z := by
  unfold unA at hv
  split at hv
  · obtain rfl := hx.sc_inv
    cases hv
    exact ⟨_, by simp [Op.unary], .sc ..⟩
  · obtain rfl := hx.sc_inv
    cases hv
    exact ⟨_, by simp [Op.unary, Op.intArith], .sc ..⟩
  · cases hv

def convA (P : Program) (src dst : TypeId) (x : AV) : Option AV :=
  match tiOf P src, tiOf P dst, x with
  | some _, some td, .sc (.int _ n) => td.int.map fun k => .sc (.int k (k.wrap n))
  | some ts, some td, .sc (.string s) => if ts.str && td.str then some (.sc (.string s)) else none
  | _, _, _ => none

theorem convA_sound {src dst : TypeId} {x v : AV} {a : Value} (hx : Rel G w A h x a) (hv : convA P src dst x = some v) : ∃ z, (convert src dst a).run P w = .ok z w ∧ Rel G w A h v z := by
  unfold convA at hv
  split at hv
  · rename_i ts td k n hs ht
    obtain rfl := hx.sc_inv
    simp only [Option.map_eq_some_iff] at hv
    obtain ⟨k', hk', rfl⟩ := hv
    obtain ⟨i, d, _, hd, _⟩ := tiOf_parts hs
    obtain ⟨i', d', _, hd', _, _, _, _, _, _, _, _, hint⟩ := tiOf_parts ht
    obtain rfl := hint k' hk'
    refine ⟨.int k' (k'.wrap n), ?_, .sc ..⟩
    simp only [convert, Sem.run_bind, run_underlying hd, run_underlying hd', Result.andThen_ok]
    cases d <;> simp [Conv.intToInt]
  · rename_i ts td s hs ht
    obtain rfl := hx.sc_inv
    split at hv
    · rename_i hc
      simp only [Bool.and_eq_true] at hc
      cases hv
      obtain ⟨i, d, _, hd, _, _, _, _, _, _, _, h1, _⟩ := tiOf_parts hs
      obtain ⟨i', d', _, hd', _, _, _, _, _, _, _, h2, _⟩ := tiOf_parts ht
      obtain rfl := h1 hc.1
      obtain rfl := h2 hc.2
      exact ⟨.string s, by simp [convert, run_underlying hd, run_underlying hd'], .sc ..⟩
    · cases hv
  · cases hv

def mkIfaceA (P : Program) (t : TypeId) (x : AV) : Option AV :=
  match tiOf P t, x with
  | some ti, .sc v => if ti.iface then none else some (.sc (.iface t v))
  | _, _ => none

theorem mkIfaceA_sound {t : TypeId} {x v : AV} {a : Value} (hx : Rel G w A h x a) (hv : mkIfaceA P t x = some v) : ∃ z, (Instr.makeInterface t a).run P w = .ok z w ∧ Rel G w A h v z := by
  unfold mkIfaceA at hv
  split at hv
  · rename_i ti u ht
    obtain rfl := hx.sc_inv
    split at hv
    · cases hv
    · rename_i hi
      cases hv
      refine ⟨.iface t a, ?_, .sc ..⟩
      unfold tiOf at ht
      split at ht
      · rename_i i d _ hd
        cases ht
        simp only [Instr.makeInterface, Sem.run_bind, run_underlying hd, Result.andThen_ok]
        cases d <;> first
          | rfl
          | simp at hi
      · cases ht
  · cases hv
end
end Go.Abs
