/- The abstract layer, part F: lengths, cuts, texts' bytes, structs built and taken apart; all operations that only compute or read, together. -/
import Derived.Test.YtlmkmmkhfkdagaaAbsE
set_option linter.unusedVariables false
set_option linter.unusedSimpArgs false
namespace Go.Abs
open Go.RowKit
section
variable {P : Program} {G : Gh} {w : World} {A : Nat → Prop} {h : Heap}

/-! ### Lengths -/

def lenA (P : Program) (h : Heap) (t : TypeId) (x : AV) : Option AV :=
  match tiOf P t with
  | none => none
  | some ti =>
    if ti.elem.isSome then (elems h x).map fun l => .sc (.int .i64 l.length)
    else if ti.str then (match x with | .sc (.string s) => some (.sc (.int .i64 s.size)) | _ => none)
    else if ti.mapk.isSome then (match x with
      | .mp id => match look id h with
        | some (.map m) => some (.sc (.int .i64 m.length))
        | _ => none
      | _ => none)
    else none

theorem elems_len (S : SatH G w A h) {x : AV} {a : Value} (hx : Rel G w A h x a) {l : List (List AV)} (he : elems h x = some l) : ∃ b cap, a = .slice b l.length cap ∧ l.length ≤ cap := by
  unfold elems at he
  split at he
  · cases he
    obtain ⟨b, rfl⟩ := hx.emp_inv
    exact ⟨b, 0, rfl, Nat.le_refl _⟩
  · cases he
    rcases hx.lst_inv with ⟨rfl, b, cap, rfl⟩ | ⟨b, off, cap, f, rfl, _, _, hc, _⟩
    · exact ⟨b, cap, rfl, Nat.zero_le _⟩
    · exact ⟨_, cap, rfl, hc⟩
  · rename_i id g lo
    split at he
    · rename_i g' sz L hl
      split at he
      · rename_i hg
        cases he
        obtain ⟨_, _, ho⟩ := hx.own_inv
        obtain ⟨hlo, hn, b, rfl, _⟩ := (ho _ _ _ hl).2 hg
        exact ⟨b, _, by rw [List.length_drop], by rw [List.length_drop]; omega⟩
      · cases he
    · cases he
  · cases he

theorem lenA_sound (S : SatH G w A h) {t ty : TypeId} {x v : AV} {a : Value} (hx : Rel G w A h x a) (hv : lenA P h t x = some v) : ∃ z, (Builtin.len_ #[t] ty #[a]).run P w = .ok z w ∧ Rel G w A h v z := by
  unfold lenA at hv
  split at hv
  · cases hv
  · rename_i ti hti
    obtain ⟨i, d, hi, hd, _, _, _, _, hel, _, hmk, hst, _⟩ := tiOf_parts hti
    split at hv
    · rename_i hs
      obtain ⟨e, he⟩ := Option.isSome_iff_exists.1 hs
      obtain rfl := hel e he
      simp only [Option.map_eq_some_iff] at hv
      obtain ⟨l, hl, rfl⟩ := hv
      obtain ⟨b, cap, rfl, _⟩ := elems_len S hx hl
      exact ⟨_, by simp [Builtin.len_, run_underlying hd]; rfl, .sc ..⟩
    · split at hv
      · rename_i hs
        obtain rfl := hst hs
        split at hv
        · cases hv
          obtain rfl := hx.sc_inv
          exact ⟨_, by simp [Builtin.len_, run_underlying hd]; rfl, .sc ..⟩
        · cases hv
      · split at hv
        · rename_i hm
          obtain ⟨⟨k, e⟩, hke⟩ := Option.isSome_iff_exists.1 hm
          obtain rfl := hmk k e hke
          split at hv
          · split at hv
            · rename_i id m hl
              cases hv
              obtain ⟨_, _, ho⟩ := hx.mp_inv
              obtain ⟨b, hb, rfl⟩ := ho _ hl
              obtain ⟨b', es, clock, hb', hh, hlen, _⟩ := (S.obj _ _ hl).2
              rw [hb] at hb'
              cases hb'
              refine ⟨.int .i64 m.length, ?_, .sc ..⟩
              have hg : (getObj b).run P w = .ok (.map es clock) w := by simp [getObj, Sem.run, hh]
              simp [Builtin.len_, run_underlying hd, hg, hlen, goInt]
            · cases hv
          · cases hv
        · cases hv

/-! ### Cuts -/

/-- A bound of a cut: none; or a number. -/
def bnd : Option AV → Option (Option Int)
  | none => some none
  | some (.sc (.int _ i)) => some (some i)
  | _ => none

def cutStr (s : ByteArray) (lo hi : Option Int) : Option ByteArray :=
  let h := hi.getD s.size
  let l := lo.getD 0
  if 0 ≤ l ∧ l ≤ h ∧ h ≤ s.size then some (s.extract l.toNat h.toNat) else none

def sliceA (P : Program) (h : Heap) (t : TypeId) (x : AV) (lo hi mx : Option AV) : Option AV :=
  match tiOf P t, bnd lo, bnd hi, bnd mx with
  | some ti, some l, some hh, some m =>
    if ti.str then (match x, m with
      | .sc (.string s), none => (cutStr s l hh).map fun r => .sc (.string r)
      | _, _ => none)
    else match ti.elem with
      | none => none
      | some e => match tiOf P e with
        | none => none
        | some te => match x with
          | .emp => if (m.isNone || hh.isSome) = true ∧ l.getD 0 = 0 ∧ hh.getD 0 = 0 ∧ m.getD 0 = 0 then some .emp else none
          | .lst sz xs => if sz = te.size then (match m, hh with
            | none, hh =>
              if 0 ≤ l.getD 0 ∧ l.getD 0 ≤ hh.getD xs.length ∧ hh.getD xs.length ≤ xs.length then some (.lst sz ((xs.take (hh.getD xs.length).toNat).drop (l.getD 0).toNat)) else none
            | some c, some b =>
              if 0 ≤ l.getD 0 ∧ l.getD 0 ≤ b ∧ b ≤ c ∧ c ≤ xs.length then (if l.getD 0 = c then some .emp else some (.lst sz ((xs.take b.toNat).drop (l.getD 0).toNat))) else none
            | some _, none => none) else none
          | .own id g lo0 => match look id h with
            | some (.arr g' sz L) =>
              if m = none ∧ hh = none ∧ g = g' ∧ 0 ≤ l.getD 0 ∧ lo0 + l.getD 0 ≤ L.length ∧ sz = te.size then some (.own id g (lo0 + (l.getD 0).toNat)) else none
            | _ => none
          | _ => none
  | _, _, _, _ => none

theorem bnd_none {o : Option AV} (hb : bnd o = some none) : o = none := by
  unfold bnd at hb
  split at hb
  · rfl
  · cases hb
  · cases hb
theorem bnd_some {o : Option AV} {i : Int} (hb : bnd o = some (some i)) : ∃ k, o = some (.sc (.int k i)) := by
  unfold bnd at hb
  split at hb
  · cases hb
  · rename_i k j; cases hb; exact ⟨k, rfl⟩
  · cases hb

/-- The machine's operands of a cut. -/
def RelOpt (G : Gh) (w : World) (A : Nat → Prop) (h : Heap) : Option AV → Option Value → Prop
  | none, none => True
  | some v, some x => Rel G w A h v x
  | _, _ => False

theorem relOpt_bnd {o : Option AV} {x : Option Value} (r : RelOpt G w A h o x) {b : Option Int} (hb : bnd o = some b) : (b = none ∧ x = none) ∨ ∃ k i, b = some i ∧ x = some (.int k i) := by
  cases b with
  | none =>
    have := bnd_none hb
    subst this
    cases x with
    | none => exact .inl ⟨rfl, rfl⟩
    | some _ => exact r.elim
  | some i =>
    obtain ⟨k, rfl⟩ := bnd_some hb
    cases x with
    | none => exact r.elim
    | some x =>
      have : x = .int k i := Rel.sc_inv r
      subst this
      exact .inr ⟨k, i, rfl, rfl⟩

/-- The bounds, where they fit. -/
theorem run_bounds (isS : Bool) (len cap : Nat) (lx hx mx : Option Value) {l hh m : Option Int} (hl : (l = none ∧ lx = none) ∨ ∃ k i, l = some i ∧ lx = some (.int k i)) (hhh : (hh = none ∧ hx = none) ∨ ∃ k i, hh = some i ∧ hx = some (.int k i))
    (hm : (m = none ∧ mx = none) ∨ ∃ k i, m = some i ∧ mx = some (.int k i)) (hmh : m ≠ none → hh ≠ none)
    (hb : 0 ≤ l.getD 0 ∧ l.getD 0 ≤ hh.getD len ∧ hh.getD len ≤ m.getD cap ∧ m.getD cap ≤ cap) :
    (Instr.sliceBounds isS len cap lx hx mx).run P w = .ok ((l.getD 0).toNat, (hh.getD len).toNat, (m.getD cap).toNat) w := by
  have hbd : ∀ (k : IntKind) (i : Int) (y : Nat) (c : BoundsCode), 0 ≤ i → i ≤ y → (Instr.sliceBound (.int k i) y c).run P w = .ok i.toNat w := fun k i y c h0 h1 => by
    simp [Instr.sliceBound, asIntOf, h0, h1]
  rcases hm with ⟨rfl, rfl⟩ | ⟨km, im, rfl, rfl⟩
  · rcases hhh with ⟨rfl, rfl⟩ | ⟨kh, ih, rfl, rfl⟩
    · rcases hl with ⟨rfl, rfl⟩ | ⟨kl, il, rfl, rfl⟩
      · simp [Instr.sliceBounds]
      · simp only [Option.getD_some, Option.getD_none] at hb
        simp [Instr.sliceBounds, hbd kl il len _ hb.1 hb.2.1]
    · rcases hl with ⟨rfl, rfl⟩ | ⟨kl, il, rfl, rfl⟩
      · simp only [Option.getD_some, Option.getD_none] at hb
        simp [Instr.sliceBounds, hbd kh ih cap _ (by omega) hb.2.2.1]
      · simp only [Option.getD_some, Option.getD_none] at hb
        simp [Instr.sliceBounds, hbd kh ih cap _ (by omega) hb.2.2.1, hbd kl il ih.toNat _ hb.1 (by omega)]
  · rcases hhh with ⟨rfl, rfl⟩ | ⟨kh, ih, rfl, rfl⟩
    · exact absurd rfl (hmh (by simp))
    · rcases hl with ⟨rfl, rfl⟩ | ⟨kl, il, rfl, rfl⟩
      · simp only [Option.getD_some, Option.getD_none] at hb
        simp [Instr.sliceBounds, hbd km im cap _ (by omega) hb.2.2.2, hbd kh ih im.toNat _ (by omega) (by omega)]
      · simp only [Option.getD_some] at hb
        simp [Instr.sliceBounds, hbd km im cap _ (by omega) hb.2.2.2, hbd kh ih im.toNat _ (by omega) (by omega), hbd kl il ih.toNat _ hb.1 (by omega)]

theorem lst_cut {sz : Nat} {xs : List (List AV)} {a : Option Addr} {n cap l b c : Nat} (r : Rel G w A h (.lst sz xs) (.slice a n cap)) (h1 : l ≤ b) (h2 : b ≤ xs.length) (h3 : b ≤ c) (h4 : c ≤ cap) :
    Rel G w A h (.lst sz ((xs.take b).drop l)) (.slice (if c = l then a else a.map (·.add (l * sz))) (b - l) (c - l)) := by
  by_cases he : l = b
  · subst he
    have : (xs.take l).drop l = [] := List.drop_eq_nil_of_le (by simp; omega)
    rw [this, Nat.sub_self]
    exact .lnil ..
  · rcases r.lst_inv with ⟨rfl, _⟩ | ⟨b0, off, cap', f, hx, hne, hz, hcap, hsz, hc, h1c, hr⟩
    · simp at h2; omega
    · cases hx
      have hcl : ¬ c = l := by omega
      simp only [hcl, if_false, Option.map_some, Addr.add_lit]
      have hlen : ((xs.take b).drop l).length = b - l := by simp; omega
      have hget : ∀ (i : Nat) (cs : List AV), ((xs.take b).drop l)[i]? = some cs → xs[l + i]? = some cs := by
        intro i cs hi
        rw [List.getElem?_drop, List.getElem?_take] at hi
        split at hi
        · exact hi
        · cases hi
      rw [← hlen]
      refine .lst _ _ sz _ b0 (off + l * sz) (c - l) (fun i j => f (l + i) j) (fun e => by rw [e] at hlen; simp at hlen; omega) hz (by omega) (fun i cs hi => hsz _ _ (hget i cs hi)) (fun i cs hi j d hj => ?_) (fun i cs hi j d hj => h1c _ _ (hget i cs hi) j d hj) (fun i cs hi j d hj => hr _ _ (hget i cs hi) j d hj)
      have := hc _ _ (hget i cs hi) j d hj
      rwa [Nat.add_mul, ← Nat.add_assoc] at this

theorem sliceA_sound (S : SatH G w A h) {t : TypeId} {x v : AV} {a : Value} {lo hi mx : Option AV} {lx hx mxx : Option Value} (hx0 : Rel G w A h x a) (hl : RelOpt G w A h lo lx) (hh : RelOpt G w A h hi hx) (hm : RelOpt G w A h mx mxx)
    (hv : sliceA P h t x lo hi mx = some v) : ∃ z, (Instr.sliceAt t a lx hx mxx).run P w = .ok z w ∧ Rel G w A h v z := by
  unfold sliceA at hv
  split at hv
  case h_2 => cases hv
  rename_i ti l b m hti hbl hbh hbm
  have rl := relOpt_bnd hl hbl
  have rh := relOpt_bnd hh hbh
  have rm := relOpt_bnd hm hbm
  obtain ⟨inf, d, hin, hd, _, _, _, _, hel, _, _, hst, _⟩ := tiOf_parts hti
  split at hv
  · rename_i hs
    obtain rfl := hst hs
    split at hv
    · rename_i s
      obtain rfl := hx0.sc_inv
      simp only [Option.map_eq_some_iff] at hv
      obtain ⟨r, hr, rfl⟩ := hv
      unfold cutStr at hr
      simp only at hr
      split at hr
      · rename_i hb
        cases hr
        rcases rm with ⟨_, rfl⟩ | ⟨_, _, h', _⟩
        · have hbs := run_bounds (P := P) (w := w) false s.size s.size lx hx none (m := none) rl rh (.inl ⟨rfl, rfl⟩) (by simp) ⟨hb.1, hb.2.1, hb.2.2, Int.le_refl _⟩
          refine ⟨_, ?_, .sc ..⟩
          simp [Instr.sliceAt, Instr.slice, run_underlying hd, hbs]
        · cases h'
      · cases hr
    · cases hv
  · split at hv
    · cases hv
    · rename_i e he
      obtain rfl := hel e he
      split at hv
      · cases hv
      · rename_i te hte
        have hsz := run_sizeOf (P := P) hte w
        split at hv
        · -- emp
          split at hv
          · rename_i hc
            cases hv
            obtain ⟨b0, rfl⟩ := hx0.emp_inv
            have hmh : m ≠ none → b ≠ none := by
              intro h1 h2
              subst h2
              cases m <;> simp_all
            have hb : 0 ≤ l.getD 0 ∧ l.getD 0 ≤ b.getD (0 : Nat) ∧ b.getD (0 : Nat) ≤ m.getD (0 : Nat) ∧ m.getD (0 : Nat) ≤ (0 : Nat) := by
              obtain ⟨_, h1, h2, h3⟩ := hc
              refine ⟨by omega, ?_, ?_, ?_⟩ <;> simp only [Int.natCast_zero] <;> omega
            have hbs := run_bounds (P := P) (w := w) true 0 0 lx hx mxx rl rh rm hmh hb
            refine ⟨.slice b0 0 0, ?_, .emp ..⟩
            have h1 : (l.getD 0).toNat = 0 := by omega
            have h2 : (b.getD (0:Nat)).toNat = 0 := by have := hb.2.2.1; have := hb.2.2.2; omega
            have h3 : (m.getD (0:Nat)).toNat = 0 := by have := hb.2.2.2; omega
            rw [h1, h2, h3] at hbs
            simp [Instr.sliceAt, Instr.slice, run_underlying hd, hbs, hsz]
          · cases hv
        · -- lst
          rename_i sz xs
          split at hv
          case isFalse => cases hv
          rename_i hsze
          have hlen : ∃ b0 cap, a = .slice b0 xs.length cap ∧ xs.length ≤ cap := elems_len S hx0 rfl
          obtain ⟨b0, cap, rfl, hcap⟩ := hlen
          split at hv
          · split at hv
            · rename_i hb
              cases hv
              have hbs := run_bounds (P := P) (w := w) true xs.length cap lx hx mxx (m := none) rl rh rm (by simp) ⟨hb.1, hb.2.1, by have := hb.2.2; simp only [Option.getD_none]; omega, Int.le_refl _⟩
              refine ⟨_, ?_, lst_cut (l := (l.getD 0).toNat) (b := (b.getD xs.length).toNat) (c := cap) hx0 (by omega) (by omega) (by omega) (Nat.le_refl _)⟩
              simp [Instr.sliceAt, Instr.slice, run_underlying hd, hbs, hsz, ← hsze]
            · cases hv
          · rename_i c bb
            split at hv
            · rename_i hb
              have hbs := run_bounds (P := P) (w := w) true xs.length cap lx hx mxx (m := some c) (hh := some bb) rl rh rm (by simp) ⟨hb.1, hb.2.1, hb.2.2.1, by simp only [Option.getD_some]; omega⟩
              simp only [Option.getD_some] at hbs
              have hcut := lst_cut (l := (l.getD 0).toNat) (b := bb.toNat) (c := c.toNat) hx0 (by omega) (by omega) (by omega) (by omega)
              split at hv
              · rename_i hc
                cases hv
                refine ⟨.slice b0 0 0, ?_, .emp ..⟩
                have h1 : (l.getD 0).toNat = c.toNat := by omega
                have h2 : bb.toNat = c.toNat := by omega
                rw [h1, h2] at hbs
                simp [Instr.sliceAt, Instr.slice, run_underlying hd, hbs, hsz]
              · cases hv
                refine ⟨_, ?_, hcut⟩
                simp [Instr.sliceAt, Instr.slice, run_underlying hd, hbs, hsz, ← hsze]
            · cases hv
          · cases hv
        · -- own
          rename_i id g lo0
          split at hv
          · rename_i g' sz L hlk
            split at hv
            · rename_i hc
              obtain ⟨rfl, rfl, rfl, h0, hle, rfl⟩ := hc
              cases hv
              obtain ⟨hid, h1c, ho⟩ := hx0.own_inv
              obtain ⟨hlo, hn, b0, rfl, hb0⟩ := (ho _ _ _ hlk).2 rfl
              rcases rm with ⟨_, rfl⟩ | ⟨_, _, h', _⟩
              case inr => cases h'
              rcases rh with ⟨_, rfl⟩ | ⟨_, _, h', _⟩
              case inr => cases h'
              have hbs := run_bounds (P := P) (w := w) true (L.length - lo0) (G.cap id - lo0) lx none none (m := none) (hh := none) rl (.inl ⟨rfl, rfl⟩) (.inl ⟨rfl, rfl⟩) (by simp) ⟨h0, by simp only [Option.getD_none]; omega, by simp only [Option.getD_none]; omega, Int.le_refl _⟩
              refine ⟨.slice (if G.cap id - lo0 = (l.getD 0).toNat then b0 else b0.map (·.add ((l.getD 0).toNat * te.size))) (L.length - lo0 - (l.getD 0).toNat) (G.cap id - lo0 - (l.getD 0).toNat), ?_, ?_⟩
              · simp [Instr.sliceAt, Instr.slice, run_underlying hd, hbs, hsz]
              · refine .own _ _ _ _ _ _ hid rfl fun g'' sz' L' hl' => ?_
                rw [hlk] at hl'
                cases hl'
                refine ⟨Nat.le_refl _, fun _ => ⟨by omega, hn, (if G.cap id - lo0 = (l.getD 0).toNat then b0 else b0.map (·.add ((l.getD 0).toNat * te.size))), by rw [Nat.sub_sub, Nat.sub_sub], fun hlt => ?_⟩⟩
                · have hne : ¬ (G.cap id - lo0 = (l.getD 0).toNat) := by omega
                  simp only [hne, if_false]
                  rw [hb0 (by omega)]
                  cases G.loc id with
                  | none => rfl
                  | some ad =>
                    simp only [Option.map_some, Addr.add_lit]
                    congr 2
                    rw [Nat.add_mul, Nat.add_assoc]
            · cases hv
          · cases hv
        · cases hv

/-! ### Texts' bytes; structs' fields; tuples -/

def indexA (P : Program) (t : TypeId) (x ix : AV) : Option AV :=
  match tiOf P t, x, ix with
  | some ti, .sc (.string s), .sc (.int _ i) => if ti.str ∧ 0 ≤ i then (s[i.toNat]?).map fun b => .sc (.int .u8 b.toNat) else none
  | _, _, _ => none

theorem indexA_sound {t : TypeId} {x ix v : AV} {a b : Value} (hx : Rel G w A h x a) (hi : Rel G w A h ix b) (hv : indexA P t x ix = some v) : ∃ z, (Instr.index t a b).run P w = .ok z w ∧ Rel G w A h v z := by
  unfold indexA at hv
  split at hv
  · rename_i ti s k i hti
    obtain rfl := hx.sc_inv
    obtain rfl := hi.sc_inv
    split at hv
    · rename_i hc
      obtain ⟨inf, d, hin, hd, _, _, _, _, _, _, _, hst, _⟩ := tiOf_parts hti
      obtain rfl := hst hc.1
      simp only [Option.map_eq_some_iff] at hv
      obtain ⟨c, hcc, rfl⟩ := hv
      exact ⟨.int .u8 c.toNat, by simp [Instr.index, asIntOf, run_underlying hd, hc.2, hcc], .sc ..⟩
    · cases hv
  · cases hv

def extractA (x : AV) (i : Nat) : Option AV :=
  match x with
  | .tup cs => cs[i]?
  | _ => none

theorem extractA_sound {x v : AV} {a : Value} {i : Nat} (hx : Rel G w A h x a) (hv : extractA x i = some v) : ∃ z, (Instr.extract a i).run P w = .ok z w ∧ Rel G w A h v z := by
  unfold extractA at hv
  split at hv
  · obtain ⟨vs, rfl, hl, hr⟩ := hx.tup_inv
    have hlt : i < vs.length := hl ▸ (List.getElem?_eq_some_iff.1 hv).1
    have hg := getD_of_lt hlt
    exact ⟨vs.getD i undef, by simp only [Instr.extract, List.getElem?_toArray, hg]; rfl, hr _ _ hv⟩
  · cases hv

def fieldA (P : Program) (t : TypeId) (x : AV) (f : Nat) : Option AV :=
  match tiOf P t, x with
  | some ti, .agg cs => if ti.fieldsOk then (match ti.fields[f]? with
    | some fi => if fi.agg then (if fi.off + fi.size ≤ cs.length then some (.agg ((cs.drop fi.off).take fi.size)) else none) else cs[fi.off]?
    | none => none) else none
  | _, _ => none

theorem isAgg_run {t : TypeId} (hu : (P.underlying t).isSome = true) : (isAgg t).run P w = .ok (aggT P t) w := by
  obtain ⟨d, hd⟩ := Option.isSome_iff_exists.1 hu
  simp only [isAgg, Sem.run_bind, run_underlying hd, Result.andThen_ok, aggT, hd]
  cases d <;> rfl
end
end Go.Abs
