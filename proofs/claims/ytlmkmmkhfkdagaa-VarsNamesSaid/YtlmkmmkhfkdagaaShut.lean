/- From what a law is handed to the abstract layer, and back: reading the arguments, and what the call leaves of them. -/
import Derived.Test.YtlmkmmkhfkdagaaKe
import Derived.Test.YtlmkmmkhfkdagaaModel
import Derived.Carry
import Derived.Deep.Slices
import Derived.ChangeArms
set_option linter.unusedVariables false
set_option linter.unusedSimpArgs false
namespace Go.Abs
open Go.RowKit

/-- All that is there is frozen. -/
def G0 (w : World) : Gh := ⟨fun _ => none, fun _ => 0, fun b => b < w.heap.size⟩

theorem calls_of_acall {P : Program} {f : FuncId} {avs : List AV} {vs : List Value} {w : World} (h : ACall P f avs nil' 0 (fun r _ _ => r = .sc (.bool true))) (rs : Rels (G0 w) w (below 0) nil' avs vs) :
    Calls P f vs.toArray w fun e w' => e = .returned (.bool true) ∧ Below w.heap.size w w' := by
  have S : SatH (G0 w) w (below 0) nil' := ⟨fun id o hi => by simp [look_nil] at hi, fun i j oi oj a b hi => by simp [look_nil] at hi, fun i o a hi => by simp [look_nil] at hi, fun b hb => hb⟩
  refine (h.2 (G0 w) w vs S rs).mono fun e w' hl => ?_
  obtain ⟨v, r, h', nx', G', rfl, rfl, S', E, rv⟩ := hl
  have := rv.sc_inv
  subst this
  exact ⟨rfl, ⟨E.os, E.tape, E.output, E.size, fun k hk => E.frame k hk fun ⟨i, o, a, hi, _⟩ => by simp [look_nil] at hi⟩⟩

/-! ### What a type's cells are -/

inductive SKd where
  | b
  | i (k : IntKind)
  | s
  | sl (t e : TypeId)

section
variable {H : Type} {enc : TypeId × Value → H} {P : Program} {W : World}

def SKd.ok (enc : TypeId × Value → H) (P : Program) (W : World) : SKd → Value → Prop
  | .b, v => ∃ b, v = .bool b
  | .i k, v => ∃ n, v = .int k n ∧ (Lit.int k n).wf = true
  | .s, v => ∃ s, v = .string s ∧ s.size ≤ maxLen
  | .sl t e, v => P.underlying t = some (.slice e) ∧ ∃ fuel x, DataW.trod enc P W 0 (fun _ => true) true fuel t [v] = some x

def shapeFs (P : Program) (total : Nat) (g : TypeId → Option (List SKd)) : Nat → List Field → Option (List SKd)
  | off, [] => if off = total then some [] else none
  | off, f :: fs => match g f.type with
    | none => none
    | some kf => if f.offset = off ∧ P.cellsOf f.type = kf.length then (shapeFs P total g (off + kf.length) fs).map (kf ++ ·) else none

def shapeOf (P : Program) : Nat → TypeId → Option (List SKd)
  | 0, _ => none
  | n + 1, t => match P.underlying t with
    | some .bool => some [.b]
    | some (.int k) => some [.i k]
    | some .string => some [.s]
    | some (.slice e) => some [.sl t e]
    | some (.struct fs) => shapeFs P (P.cellsOf t) (shapeOf P n) 0 fs.toList
    | _ => none

/-- The cells are of that shape. -/
inductive Mt (enc : TypeId × Value → H) (P : Program) (W : World) : List SKd → List Value → Prop
  | nil : Mt enc P W [] []
  | cons {k : SKd} {v : Value} {ks : List SKd} {vs : List Value} (h : k.ok enc P W v) (hs : Mt enc P W ks vs) : Mt enc P W (k :: ks) (v :: vs)

theorem Mt.append {a b : List SKd} {x y : List Value} (h1 : Mt enc P W a x) (h2 : Mt enc P W b y) : Mt enc P W (a ++ b) (x ++ y) := by
  induction h1 with
  | nil => exact h2
  | cons h _ ih => exact .cons h ih

theorem Mt.length {a : List SKd} {x : List Value} (h : Mt enc P W a x) : a.length = x.length := by
  induction h with
  | nil => rfl
  | cons _ _ ih => simp [ih]

theorem Mt.one {a : List SKd} {x : List Value} (h : Mt enc P W a x) : ∀ v ∈ x, v.oneCell' = true := by
  induction h with
  | nil => simp
  | cons hk _ ih =>
    rename_i k v ks vs _
    intro u hu
    rcases List.mem_cons.1 hu with rfl | hu
    · cases k with
      | b => obtain ⟨b, rfl⟩ := hk; rfl
      | i k => obtain ⟨n, rfl, _⟩ := hk; rfl
      | s => obtain ⟨n, rfl, _⟩ := hk; rfl
      | sl t e =>
        obtain ⟨ht, fuel, x, hx⟩ := hk
        rcases DataW.trod_slice ht hx with ⟨h0, _⟩ | ⟨a, len, cap, _, _, _, _, h0, _⟩
        · cases h0; rfl
        · cases h0; rfl
    · exact ih u hu

theorem Mt.uncons {k : SKd} {ks : List SKd} {x : List Value} (h : Mt enc P W (k :: ks) x) : ∃ v vs, x = v :: vs ∧ k.ok enc P W v ∧ Mt enc P W ks vs := by
  cases h with
  | cons h hs => exact ⟨_, _, rfl, h, hs⟩
theorem Mt.unnil {x : List Value} (h : Mt enc P W [] x) : x = [] := by cases h; rfl

theorem shapeFs_sound {total : Nat} {g : TypeId → Option (List SKd)} {cs : List Value} (hcs : cs.length = total) (hg : ∀ t kf piece, g t = some kf → (∃ fuel x, DataW.trod enc P W 0 (fun _ => true) true fuel t piece = some x) → Mt enc P W kf piece) :
    ∀ (fs : List Field) (off : Nat) (ks : List SKd), shapeFs P total g off fs = some ks → (∀ f ∈ fs, ∃ fuel x, DataW.trod enc P W 0 (fun _ => true) true fuel f.type ((cs.drop f.offset).take (P.cellsOf f.type)) = some x) → Mt enc P W ks (cs.drop off)
  | [], off, ks, h, _ => by
    simp only [shapeFs] at h
    split at h
    · rename_i e
      cases h
      rw [List.drop_eq_nil_of_le (by omega)]
      exact .nil
    · cases h
  | f :: fs, off, ks, h, hf => by
    simp only [shapeFs] at h
    split at h
    · cases h
    · rename_i kf hkf
      split at h
      · rename_i hc
        obtain ⟨hc1, hc2⟩ := hc
        simp only [Option.map_eq_some_iff] at h
        obtain ⟨kr, hr, rfl⟩ := h
        have h1 := hg f.type kf _ hkf (hf f (by simp))
        rw [hc1, hc2] at h1
        have h2 := shapeFs_sound hcs hg fs (off + kf.length) kr hr fun f' hf' => hf f' (by simp [hf'])
        have := h1.append h2
        rwa [show cs.drop (off + kf.length) = (cs.drop off).drop kf.length by rw [List.drop_drop], List.take_append_drop] at this
      · cases h

theorem shapeOf_sound : ∀ (n : Nat) (t : TypeId) (ks : List SKd) (cs : List Value), shapeOf P n t = some ks → (∃ fuel x, DataW.trod enc P W 0 (fun _ => true) true fuel t cs = some x) → Mt enc P W ks cs
  | 0, _, _, _, h, _ => by simp [shapeOf] at h
  | n + 1, t, ks, cs, h, hx => by
    obtain ⟨fuel, x, hx⟩ := hx
    have hx0 := hx
    cases fuel with
    | zero => simp [DataW.trod] at hx
    | succ fuel =>
      simp only [shapeOf] at h
      split at h
      · rename_i ht
        cases h
        unfold DataW.trod at hx
        simp only [ht] at hx
        split at hx <;> simp_all
        exact .cons ⟨_, rfl⟩ .nil
      · rename_i k ht
        cases h
        unfold DataW.trod at hx
        simp only [ht] at hx
        split at hx <;> simp_all
        exact .cons ⟨_, rfl, hx.1.2⟩ .nil
      · rename_i ht
        cases h
        unfold DataW.trod at hx
        simp only [ht] at hx
        split at hx <;> simp_all
        exact .cons ⟨_, rfl, hx.1⟩ .nil
      · rename_i e ht
        cases h
        rcases DataW.trod_slice ht hx0 with ⟨h0, _⟩ | ⟨a, len, cap, _, _, _, _, h0, _⟩
        · subst h0; exact .cons ⟨ht, _, _, hx0⟩ .nil
        · subst h0; exact .cons ⟨ht, _, _, hx0⟩ .nil
      · rename_i fs ht
        obtain ⟨xs, m, _, _, hlen, hxl, hxs⟩ := DataW.trod_struct ht hx0
        have := shapeFs_sound hlen (fun t kf piece h1 h2 => shapeOf_sound n t kf piece h1 h2) fs.toList 0 ks h fun f hf => by
          obtain ⟨i, hi⟩ := List.getElem?_of_mem hf
          have hi' : fs[i]? = some f := by rw [← Array.getElem?_toList]; exact hi
          have h3 := hxs i f hi'
          have hlt : i < xs.length := by rw [hxl]; exact (Array.getElem?_eq_some_iff.1 hi').1
          rw [List.getElem?_eq_getElem hlt] at h3
          exact ⟨m, _, h3⟩
        simpa using this
      · cases h

/-- A slice's rows. -/
theorem rows_of {t e : TypeId} {v : Value} {n : Nat} {ks : List SKd} (ht : P.underlying t = some (.slice e)) (hpos : 0 < P.cellsOf e) (hsh : shapeOf P n e = some ks) (hx : ∃ fuel x, DataW.trod enc P W 0 (fun _ => true) true fuel t [v] = some x) (A : Nat → Prop) (h : Heap) :
    ∃ rows : List (List Value), Rel (G0 W) W A h (.lst (P.cellsOf e) (rows.map fun r => r.map .sc)) v ∧ (∀ r ∈ rows, Mt enc P W ks r) ∧ rows.length ≤ maxLen := by
  obtain ⟨fuel, x, hx⟩ := hx
  rcases Deep.open_slice ht hx with ⟨h0, _⟩ | ⟨a, len, cap, m, nn, D, Pl, h0, hb, hlc, hcm, hm, _, hel⟩
  · cases h0
    exact ⟨[], .lnil .., by simp, Nat.zero_le _⟩
  · cases h0
    simp only [if_true] at hm
    rw [hm] at hel
    obtain ⟨R, hR⟩ := Deep.choose_lt (α := List Value) (n := len) (p := fun i cs => W.cells? 0 (a.add (i * P.cellsOf e)) (P.cellsOf e) = some cs ∧ DataW.trod enc P W 0 (fun _ => true) true nn e cs = some (D i, Pl i)) fun i hi => by
      obtain ⟨cs, h1, h2⟩ := hel i (by omega)
      exact ⟨cs, h1, h2⟩
    have hmt : ∀ i, i < len → Mt enc P W ks (R i) := fun i hi => shapeOf_sound n e ks (R i) hsh ⟨_, _, (hR i hi).2⟩
    refine ⟨(List.range len).map R, ?_, fun r hr => ?_, by simp; omega⟩
    · rcases Nat.eq_zero_or_pos len with h0 | hl0
      · subst h0; exact .lnil ..
      · have cell : ∀ i, i < len → ∀ j, j < P.cellsOf e → W.cell? (a.add (i * P.cellsOf e + j)) = (R i)[j]? := fun i hi j hj => by
          obtain ⟨_, _, h3⟩ := World.cells?_some (hR i hi).1
          rw [← h3 j hj, Deep.add_add]
        have hspot : a.spot = none := by
          have h1 := cell 0 hl0 0 hpos
          have hlen := (World.cells?_some (hR 0 hl0).1).2.1
          rw [Nat.zero_mul, Nat.zero_add, List.getElem?_eq_getElem (by omega)] at h1
          exact World.cell?_spot (by simpa [Addr.add] using h1)
        obtain ⟨b, off, spot⟩ := a
        simp only at hspot
        subst hspot
        have hadd : ∀ k, (Addr.mk b off none).add k = ⟨b, off + k, none⟩ := fun k => by
          unfold Addr.add
          by_cases hk : k = 0 <;> simp [hk]
        have hlenR : ((List.range len).map R).map (fun r => r.map AV.sc) ≠ [] := by
          intro hh
          have := congrArg List.length hh
          simp at this
          omega
        have hget : ∀ (i : Nat) (cs : List AV), (((List.range len).map R).map (fun r => r.map AV.sc))[i]? = some cs → i < len ∧ cs = (R i).map .sc := fun i cs hi => by
          simp only [List.getElem?_map, Option.map_eq_some_iff] at hi
          obtain ⟨r, ⟨k, hk, rfl⟩, rfl⟩ := hi
          have hil := (List.getElem?_eq_some_iff.1 hk).1
          simp at hil
          rw [List.getElem?_range hil] at hk
          cases hk
          exact ⟨hil, rfl⟩
        have hRl : ∀ i, i < len → (R i).length = P.cellsOf e := fun i hi => (World.cells?_some (hR i hi).1).2.1
        have key : Rel (G0 W) W A h (.lst (P.cellsOf e) (((List.range len).map R).map fun r => r.map .sc)) (.slice (some ⟨b, off, none⟩) (((List.range len).map R).map fun r => r.map AV.sc).length cap) := by
          refine .lst A h (P.cellsOf e) _ b off cap (fun i j => (R i).getD j undef) hlenR ?_ ?_ ?_ ?_ ?_ ?_
          · have h1 := cell 0 hl0 0 hpos
            rw [hadd, List.getElem?_eq_getElem (by rw [hRl 0 hl0]; exact hpos)] at h1
            show b < W.heap.size
            rcases Nat.lt_or_ge b W.heap.size with q | q
            · exact q
            · simp [World.cell?, Array.getElem?_eq_none q] at h1
          · simp; omega
          · intro i cs hi
            obtain ⟨hil, rfl⟩ := hget i cs hi
            simp [hRl i hil]
          · intro i cs hi j c hj
            obtain ⟨hil, rfl⟩ := hget i cs hi
            have hjl : j < (R i).length := by
              have := (List.getElem?_eq_some_iff.1 hj).1
              simpa using this
            have h1 := cell i hil j (by rw [← hRl i hil]; exact hjl)
            rw [hadd] at h1
            rw [Nat.add_assoc, h1]
            simp [List.getD_eq_getElem?_getD, hjl]
          · intro i cs hi j c hj
            obtain ⟨hil, rfl⟩ := hget i cs hi
            have hjl : j < (R i).length := by
              have := (List.getElem?_eq_some_iff.1 hj).1
              simpa using this
            refine (hmt i hil).one _ ?_
            simp [List.getD_eq_getElem?_getD, hjl]
          · intro i cs hi j c hj
            obtain ⟨hil, rfl⟩ := hget i cs hi
            simp only [List.getElem?_map, Option.map_eq_some_iff] at hj
            obtain ⟨u, hu, rfl⟩ := hj
            rw [List.getD_eq_getElem?_getD, hu]
            exact .sc ..
        simpa using key
    · obtain ⟨i, hi, rfl⟩ := List.mem_map.1 hr
      exact hmt i (List.mem_range.1 hi)

/-- Rows of plain values, read deeper. -/
theorem lst_deep {α : Type} {G : Gh} {w : World} {A : Nat → Prop} {h : Heap} {sz : Nat} {fl : α → List AV} : ∀ {rows : List (List Value)} {xs : List α} {v : Value}, xs.length = rows.length → Rel G w A h (.lst sz (rows.map fun r => r.map .sc)) v →
    (∀ (i : Nat) (r : List Value) (x : α), rows[i]? = some r → xs[i]? = some x → Rels G w (fun _ => False) nil' (fl x) r) → Rel G w A h (.lst sz (xs.map fl)) v := by
  intro rows xs v hlen hr hx
  rcases hr.lst_inv with ⟨hnil, a, cap, rfl⟩ | ⟨b, off, cap, f, rfl, h1, h2, h3, h4, h5, h6, h7⟩
  · have : rows = [] := by simpa using hnil
    subst this
    have : xs = [] := List.eq_nil_of_length_eq_zero (by simpa using hlen)
    subst this
    exact .lnil ..
  · have hl0 : (rows.map fun r => r.map AV.sc).length = (xs.map fl).length := by simp [hlen]
    rw [hl0] at h3 ⊢
    have get : ∀ (i : Nat) (cs : List AV), (xs.map fl)[i]? = some cs → ∃ r x, rows[i]? = some r ∧ xs[i]? = some x ∧ cs = fl x ∧ Rels G w (fun _ => False) nil' (fl x) r := fun i cs hi => by
      simp only [List.getElem?_map, Option.map_eq_some_iff] at hi
      obtain ⟨x, hxi, rfl⟩ := hi
      have hil := (List.getElem?_eq_some_iff.1 hxi).1
      have hri : rows[i]? = some rows[i] := List.getElem?_eq_getElem (by omega)
      exact ⟨_, x, hri, hxi, rfl, hx i _ x hri hxi⟩
    have cellOf : ∀ (i : Nat) (r : List Value) (j : Nat) (u : Value), rows[i]? = some r → r[j]? = some u → w.cell? ⟨b, off + i * sz + j, none⟩ = some (f i j) ∧ f i j = u ∧ (f i j).oneCell' = true := fun i r j u hi hj => by
      have e1 : (rows.map fun r => r.map AV.sc)[i]? = some (r.map .sc) := by simp [hi]
      have e2 : (r.map AV.sc)[j]? = some (.sc u) := by simp [hj]
      exact ⟨h5 i _ e1 j _ e2, (h7 i _ e1 j _ e2).sc_inv, h6 i _ e1 j _ e2⟩
    refine .lst A h sz _ b off cap f (fun e => h1 (List.eq_nil_of_length_eq_zero (by rw [hl0, e]; rfl))) h2 h3 (fun i cs hi => ?_) (fun i cs hi j c hj => ?_) (fun i cs hi j c hj => ?_) (fun i cs hi j c hj => ?_)
    · obtain ⟨r, x, hri, hxi, rfl, hrel⟩ := get i cs hi
      rw [hrel.1]
      have := h4 i (r.map .sc) (by simp [hri])
      simpa using this
    all_goals
      obtain ⟨r, x, hri, hxi, rfl, hrel⟩ := get i cs hi
      have hjl : j < r.length := by rw [← hrel.1]; exact (List.getElem?_eq_some_iff.1 hj).1
      obtain ⟨g1, g2, g3⟩ := cellOf i r j _ hri (List.getElem?_eq_getElem hjl)
    · exact g1
    · exact g3
    · have := hrel.2 j c hj
      rw [List.getD_eq_getElem?_getD, List.getElem?_eq_getElem hjl] at this
      rw [g2]
      exact this

theorem rows_fl {α : Type} {Q : α → Prop} {R : α → List Value → Prop} {rows : List (List Value)} (h : ∀ r ∈ rows, ∃ x, R x r ∧ Q x) : ∃ xs : List α, xs.length = rows.length ∧ (∀ (i : Nat) (r : List Value) (x : α), rows[i]? = some r → xs[i]? = some x → R x r) ∧ ∀ x ∈ xs, Q x := by
  induction rows with
  | nil => exact ⟨[], rfl, fun i r x hi => by simp at hi, by simp⟩
  | cons r rows ih =>
    obtain ⟨xs, h1, h2, h3⟩ := ih fun r' hr' => h r' (by simp [hr'])
    obtain ⟨x, h4, h5⟩ := h r (by simp)
    refine ⟨x :: xs, by simp [h1], fun i r' x' hi hx => ?_, fun y hy => ?_⟩
    · cases i with
      | zero => simp at hi hx; subst hi; subst hx; exact h4
      | succ i => exact h2 i r' x' (by simpa using hi) (by simpa using hx)
    · rcases List.mem_cons.1 hy with rfl | hy
      · exact h5
      · exact h3 y hy

theorem rows_model {α : Type} {Q : α → Prop} (fl : α → List AV) {rows : List (List Value)} (h : ∀ r ∈ rows, ∃ x, r.map AV.sc = fl x ∧ Q x) : ∃ xs : List α, (rows.map fun r => r.map AV.sc) = xs.map fl ∧ ∀ x ∈ xs, Q x := by
  induction rows with
  | nil => exact ⟨[], rfl, by simp⟩
  | cons r rows ih =>
    obtain ⟨xs, h1, h2⟩ := ih fun r' hr' => h r' (by simp [hr'])
    obtain ⟨x, h3, h4⟩ := h r (by simp)
    refine ⟨x :: xs, by simp only [List.map_cons, h3, h1], fun y hy => ?_⟩
    rcases List.mem_cons.1 hy with rfl | hy
    · exact h4
    · exact h2 y hy

theorem Mt.cells {r : List Value} (h : Mt enc P W [.i .i64, .s, .i .u8, .i .i64, .s] r) : ∃ c : CellM, r.map AV.sc = flCell c ∧ c.v.t.size ≤ maxLen := by
  obtain ⟨v1, _, rfl, ⟨n1, rfl, _⟩, g1⟩ := h.uncons
  obtain ⟨v2, _, rfl, ⟨n2, rfl, _⟩, g2⟩ := g1.uncons
  obtain ⟨v3, _, rfl, ⟨n3, rfl, _⟩, g3⟩ := g2.uncons
  obtain ⟨v4, _, rfl, ⟨n4, rfl, _⟩, g4⟩ := g3.uncons
  obtain ⟨v5, _, rfl, ⟨n5, rfl, hs⟩, g5⟩ := g4.uncons
  obtain rfl := g5.unnil
  exact ⟨⟨n1, n2, ⟨n3, n4, n5⟩⟩, rfl, hs⟩

theorem Mt.sets {r : List Value} (h : Mt enc P W [.s, .i .u8, .i .i64, .s] r) : ∃ c : SetM, r.map AV.sc = flSet c ∧ c.v.t.size ≤ maxLen := by
  obtain ⟨v2, _, rfl, ⟨n2, rfl, _⟩, g1⟩ := h.uncons
  obtain ⟨v3, _, rfl, ⟨n3, rfl, _⟩, g2⟩ := g1.uncons
  obtain ⟨v4, _, rfl, ⟨n4, rfl, _⟩, g3⟩ := g2.uncons
  obtain ⟨v5, _, rfl, ⟨n5, rfl, hs⟩, g4⟩ := g3.uncons
  obtain rfl := g4.unnil
  exact ⟨⟨n2, ⟨n3, n4, n5⟩⟩, rfl, hs⟩

theorem Mt.vars {r : List Value} (h : Mt enc P W [.s, .i .u8, .i .i64, .s] r) : ∃ c : VarM, r.map AV.sc = flVar c ∧ c.init.t.size ≤ maxLen := by
  obtain ⟨v2, _, rfl, ⟨n2, rfl, _⟩, g1⟩ := h.uncons
  obtain ⟨v3, _, rfl, ⟨n3, rfl, _⟩, g2⟩ := g1.uncons
  obtain ⟨v4, _, rfl, ⟨n4, rfl, _⟩, g3⟩ := g2.uncons
  obtain ⟨v5, _, rfl, ⟨n5, rfl, hs⟩, g4⟩ := g3.uncons
  obtain rfl := g4.unnil
  exact ⟨⟨n2, ⟨n3, n4, n5⟩⟩, rfl, hs⟩

theorem Mt.items {r : List Value} (h : Mt enc P W [.i .i64, .i .i64, .i .u8, .s, .i .i64, .i .i64, .i .u8, .s] r) : ∃ c : ItemM, r.map AV.sc = flItem c ∧ True := by
  obtain ⟨v1, _, rfl, ⟨n1, rfl, _⟩, g1⟩ := h.uncons
  obtain ⟨v2, _, rfl, ⟨n2, rfl, _⟩, g2⟩ := g1.uncons
  obtain ⟨v3, _, rfl, ⟨n3, rfl, _⟩, g3⟩ := g2.uncons
  obtain ⟨v4, _, rfl, ⟨n4, rfl, _⟩, g4⟩ := g3.uncons
  obtain ⟨v5, _, rfl, ⟨n5, rfl, _⟩, g5⟩ := g4.uncons
  obtain ⟨v6, _, rfl, ⟨n6, rfl, _⟩, g6⟩ := g5.uncons
  obtain ⟨v7, _, rfl, ⟨n7, rfl, _⟩, g7⟩ := g6.uncons
  obtain ⟨v8, _, rfl, ⟨n8, rfl, _⟩, g8⟩ := g7.uncons
  obtain rfl := g8.unnil
  exact ⟨⟨n1, n2, n3, n4, n5, n6, n7, n8⟩, rfl, trivial⟩
end
end Go.Abs
