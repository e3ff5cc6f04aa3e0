/- The abstract layer, part L: slices built out of their elements; maps. -/
import Derived.Test.YtlmkmmkhfkdagaaAbsK
set_option linter.unusedVariables false
set_option linter.unusedSimpArgs false
namespace Go.Abs
open Go.RowKit
section
variable {P : Program} {G : Gh} {w : World} {A : Nat → Prop} {h : Heap}

def rowsA (sz : Nat) : Nat → List (Nat × AV) → Option (List (List AV))
  | _, [] => some []
  | k, (i, v) :: r => if i = k then (match cellsA v, rowsA sz (k + 1) r with
    | some cs, some rest => if cs.length = sz then some (cs :: rest) else none
    | _, _ => none) else none

theorem rowsA_fill {sz : Nat} : ∀ {parts : List (Nat × AV)} {k : Nat} {rows : List (List AV)} {cur : List AV}, rowsA sz k parts = some rows → k * sz + rows.length * sz = cur.length →
    fillA (fun i => some (i * sz, sz)) cur parts = some (cur.take (k * sz) ++ rows.flatten) ∧ (∀ cs ∈ rows, cs.length = sz) ∧ rows.length = parts.length
  | [], k, rows, cur, hr, hl => by
    simp only [rowsA] at hr
    cases hr
    simp only [List.length_nil, Nat.zero_mul, Nat.add_zero] at hl
    refine ⟨?_, by simp, rfl⟩
    simp only [fillA, List.flatten_nil, List.append_nil]
    rw [hl, List.take_length]
  | (i, v) :: r, k, rows, cur, hr, hl => by
    simp only [rowsA] at hr
    split at hr
    · rename_i hik
      subst hik
      split at hr
      · rename_i cs rest hcs hrest
        split at hr
        · rename_i hsz
          cases hr
          simp only [List.length_cons, Nat.succ_mul] at hl
          have hput : (putAt cur (i * sz) cs).length = cur.length := putAt_length (by omega)
          obtain ⟨h1, h2, h3⟩ := rowsA_fill (cur := putAt cur (i * sz) cs) hrest (by rw [hput, Nat.succ_mul]; omega)
          refine ⟨?_, by simpa [hsz] using h2, by simp [h3]⟩
          simp only [fillA, hcs, hsz, true_and]
          rw [if_pos (by omega), h1]
          congr 1
          rw [List.flatten_cons, ← List.append_assoc]
          congr 1
          unfold putAt
          rw [Nat.succ_mul, List.take_append_of_le_length (by simp; omega), List.take_of_length_le (by simp; omega)]
        · cases hr
      · cases hr
    · cases hr

def buildSliceA (P : Program) (h : Heap) (id : Nat) (t : TypeId) (len : Nat) (parts : List (Nat × AV)) : Option (AV × Heap) :=
  match tiOf P t with
  | none => none
  | some ti => match ti.elem with
    | none => none
    | some e => match tiOf P e with
      | none => none
      | some te => match rowsA te.size 0 parts with
        | none => none
        | some rows => if te.zeroOk ∧ rows.length = len ∧ len * te.size ≤ 16777216 then some (.own id 0 0, hc id (.arr 0 te.size rows) h) else none

theorem buildSliceA_sound (S : SatH G w A h) {id : Nat} (hA : ¬ A id) {A' : Nat → Prop} (hA' : ∀ j, A' j ↔ A j ∨ j = id) {t : TypeId} {len : Nat} {parts : List (Nat × AV)} {ps : Array (Nat × Value)} {v : AV} {h' : Heap}
    (hl : parts.length = ps.toList.length) (hp : ∀ (j : Nat) (i : Nat) (v : AV) (p : Nat × Value), parts[j]? = some (i, v) → ps.toList[j]? = some p → p.1 = i ∧ Rel G w A h v p.2)
    (hv : buildSliceA P h id t len parts = some (v, h')) : StepOk G w A h ((Instr.buildSlice t len ps).run P w) v A' h' := by
  unfold buildSliceA at hv
  split at hv
  · cases hv
  rename_i ti hti
  split at hv
  · cases hv
  rename_i e he
  split at hv
  · cases hv
  rename_i te hte
  split at hv
  · cases hv
  rename_i rows hrows
  split at hv
  case isFalse => cases hv
  rename_i hc
  obtain ⟨hzok, hlen, hmax⟩ := hc
  cases hv
  obtain ⟨_, d, _, hd, _, _, _, _, hel, _⟩ := tiOf_parts hti
  obtain rfl := hel e he
  obtain ⟨i, d', hi, hd', hsize, hbytes, _⟩ := tiOf_parts hte
  obtain ⟨i', _, hi', _, hzo, _⟩ := tiOf_build hte
  rw [hi] at hi'
  cases hi'
  obtain ⟨z, hz, hz1, hzs⟩ := hzo hzok
  have hso := run_sizeOf (P := P) hte w
  generalize hcur : (Array.range (len * te.size)).map (fun k => (if len * te.size = 0 then (#[] : Array Value) else z.cells)[k % (if len * te.size = 0 then (#[] : Array Value) else z.cells).size]!) = cur
  have hcl : cur.size = len * te.size := by rw [← hcur]; simp
  have hc1 : ∀ u ∈ cur.toList, u.oneCell' = true := by
    intro u hu
    rw [← hcur] at hu
    simp only [Array.toList_map, Array.toList_range, List.mem_map, List.mem_range] at hu
    obtain ⟨k, hk, rfl⟩ := hu
    have h0 : ¬ (len * te.size = 0) := by omega
    simp only [h0, if_false]
    have hzs0 : 0 < z.cells.size := by
      rw [hzs, ← hsize]
      rcases Nat.eq_zero_or_pos te.size with q | q
      · rw [q] at hk; omega
      · exact q
    have hm := Nat.mod_lt k hzs0
    rw [getElem!_pos z.cells _ hm]
    exact hz1 _ (by simp)
  have hRel : Rels G w A h (List.replicate cur.size .any) cur.toList := ⟨by simp, fun j c hj => by
    have := List.eq_of_mem_replicate (List.mem_of_getElem? hj)
    subst this
    exact .any ..⟩
  obtain ⟨hfill, hrsz, hrl⟩ := rowsA_fill (cur := List.replicate cur.size .any) hrows (by simp [hcl, hlen])
  simp only [Nat.zero_mul, List.take_zero, List.nil_append] at hfill
  obtain ⟨out, ho1, ho2, ho3⟩ := fillA_sound hRel hc1 hl hp hfill
  have hrsz' : ∀ (i : Nat) (cs : List AV), rows[i]? = some cs → cs.length = te.size := fun i cs hi => hrsz cs (List.mem_of_getElem? hi)
  have hrun : (Instr.buildSlice t len ps).run P w = .ok (.slice (some ⟨w.heap.size, 0, none⟩) len len) (w.alloc (.cells out e)) := by
    have hmx : ¬ (len * te.size > 2 ^ 24) := by omega
    by_cases h0 : len * te.size = 0
    · simp only [h0, if_true] at hcur ho1
      subst hcur
      simp only [Instr.buildSlice, Sem.run_bind, run_underlying hd, Result.andThen_ok, hso, Sem.run_ite, h0, if_true, Sem.run_pure, if_neg (by omega : ¬ (0 > 2 ^ 24))]
      simp only [ho1]
      simp [newRow]
    · simp only [h0, if_false] at hcur
      subst hcur
      simp only [Instr.buildSlice, Sem.run_bind, run_underlying hd, Result.andThen_ok, hso, Sem.run_ite, h0, hmx, if_false, Sem.run_pure, zeroValue, typeInfo, run_program, hi, hz]
      simp only [ho1]
      simp [newRow]
  have N := new_obj (o := .arr 0 te.size rows) (w' := w.alloc (.cells out e)) (l := some ⟨w.heap.size, 0, none⟩) (c := len) S hA hA' rfl rfl rfl (by simp) (fun b hb => Below.heap_alloc w _ b hb) (fun a ha => by cases ha; simp) (fun C => by
    refine .inr ⟨w.heap.size, 0, e, out, Gh.put_loc_same _ _ _, heap_alloc_at w _, ?_, by rw [Gh.put_cap_same, hlen]; exact Nat.le_refl _, hrsz', ?_⟩
    · rw [Gh.put_cap_same, Nat.zero_add]
      have : out.toList.length = len * te.size := by rw [← ho2.1, flat_len hrsz', hlen]
      rw [Array.length_toList] at this
      omega
    · exact relO_flat hrsz' (ho2.compat C) ho3 (fun k _ => by rw [Nat.zero_add, Array.getElem?_toList]))
  refine ⟨_, _, _, hrun, N.1, N.2, .own _ _ _ _ _ _ ((hA' id).2 (.inr rfl)) rfl fun g' sz L' hl' => ?_⟩
  simp only [look_hc, if_true] at hl'
  cases hl'
  exact ⟨Nat.le_refl _, fun _ => ⟨Nat.zero_le _, by rw [Gh.put_cap_same, hlen]; exact Nat.le_refl _, _, by rw [Gh.put_cap_same, hlen]; rfl, fun _ => by rw [Gh.put_loc_same]; simp⟩⟩

/-! ### Maps -/

theorem makeMapA_sound (S : SatH G w A h) {id : Nat} (hA : ¬ A id) {A' : Nat → Prop} (hA' : ∀ j, A' j ↔ A j ∨ j = id) {t : TypeId} :
    StepOk G w A h ((Instr.makeMap t none).run P w) (.mp id) A' (hc id (.map []) h) := by
  have hrun : (Instr.makeMap t none).run P w = .ok (.map (some w.heap.size)) (w.alloc (.map #[] 0)) := by simp [Instr.makeMap]
  have N := new_obj (o := .map []) (w' := w.alloc (.map #[] 0)) (l := some ⟨w.heap.size, 0, none⟩) (c := 0) S hA hA' rfl rfl rfl (by simp) (fun b hb => Below.heap_alloc w _ b hb) (fun a ha => by cases ha; simp)
    (fun C => ⟨w.heap.size, #[], 0, Gh.put_loc_same _ _ _, heap_alloc_at w _, by simp, by simp⟩)
  exact ⟨_, _, _, hrun, N.1, N.2, .mp _ _ _ _ ((hA' id).2 (.inr rfl)) rfl fun m hl => ⟨w.heap.size, Gh.put_loc_same _ _ _, rfl⟩⟩

/-- Are two keys the same one? -/
def keyEq : Value → Value → Option Bool
  | .int k a, .int k' b => if k = k' then some (decide (a = b)) else none
  | .string a, .string b => some (decide (a = b))
  | _, _ => none

/-- What stands under a key. -/
def mapFind (k : Value) : List (Value × AV) → Option (Option (Nat × AV))
  | [] => some none
  | (k', v) :: r => match keyEq k k' with
    | some true => some (some (0, v))
    | some false => (mapFind k r).map fun o => o.map fun p => (p.1 + 1, p.2)
    | none => none

def keyOk (P : Program) (kt : TypeId) : Value → Bool
  | .int _ _ => match tiOf P kt with | some ti => ti.int.isSome | none => false
  | .string _ => match tiOf P kt with | some ti => ti.str | none => false
  | _ => false

def lookupA (P : Program) (h : Heap) (t : TypeId) (m k : AV) (ok : Bool) : Option AV :=
  match tiOf P t, m, k with
  | some ti, .mp id, .sc kv => match ti.mapk, look id h with
    | some (kt, et), some (.map es) => if keyOk P kt kv then (match mapFind kv es, tiOf P et with
      | some (some (_, v)), _ => some (if ok then .tup [v, .sc (.bool true)] else v)
      | some none, some te => match te.zero with
        | some [z] => if te.zsc then some (if ok then .tup [z, .sc (.bool false)] else z) else none
        | _ => none
      | _, _ => none) else none
    | _, _ => none
  | _, _, _ => none

theorem keyEq_now {kt : TypeId} {kv k' : Value} {d : TypeDesc} (hd : P.underlying kt = some d) (hk : keyOk P kt kv = true) {b : Bool} (he : keyEq kv k' = some b) : Instr.sameNow d kv k' = some b := by
  unfold keyOk at hk
  split at hk
  · rename_i k n
    cases k' <;> simp [keyEq] at he
    rename_i k2 n2
    obtain ⟨rfl, rfl⟩ := he
    split at hk
    · rename_i ti hti
      obtain ⟨k3, hk3⟩ := Option.isSome_iff_exists.1 hk
      obtain ⟨_, d', _, hd', _, _, _, _, _, _, _, _, hint⟩ := tiOf_parts hti
      rw [hd] at hd'
      cases hd'
      obtain rfl := hint k3 hk3
      simp [Instr.sameNow]
      rfl
    · cases hk
  · rename_i s1
    cases k' <;> simp [keyEq] at he
    subst he
    split at hk
    · rename_i ti hti
      obtain ⟨_, d', _, hd', _, _, _, _, _, _, _, hst, _⟩ := tiOf_parts hti
      rw [hd] at hd'
      cases hd'
      obtain rfl := hst hk
      simp only [Instr.sameNow]
      congr 1
      rw [beq_toListBytes, toList_eq_iff]
    · cases hk
  · cases hk

theorem findNow_sound {kt : TypeId} {kv : Value} {d : TypeDesc} (hd : P.underlying kt = some d) (hk : keyOk P kt kv = true) : ∀ {m : List (Value × AV)} {es : List MapEntry} {i : Nat} {r : Option (Nat × AV)}, m.length = es.length →
    (∀ (j : Nat) (k : Value) (v : AV), m[j]? = some (k, v) → ∃ e, es[j]? = some e ∧ e.key = k ∧ Rel G w A h v e.val) → mapFind kv m = some r →
    match r with
    | none => Instr.findNow d kv es i = some none
    | some (j, v) => ∃ e, es[j]? = some e ∧ Rel G w A h v e.val ∧ Instr.findNow d kv es i = some (some (i + j, e.val)) ∧ keyEq kv e.key = some true
  | [], [], i, r, _, _, hf => by
    simp only [mapFind] at hf
    cases hf
    rfl
  | [], _ :: _, _, _, hl, _, _ => by simp at hl
  | _ :: _, [], _, _, hl, _, _ => by simp at hl
  | (k', v) :: m, e :: es, i, r, hl, hp, hf => by
    obtain ⟨e', he', hkey, hrel⟩ := hp 0 k' v rfl
    simp at he'
    subst he'
    simp only [mapFind] at hf
    split at hf
    · rename_i hke
      cases hf
      rw [← hkey] at hke
      exact ⟨e, rfl, hrel, by simp only [Instr.findNow, keyEq_now hd hk hke, Nat.add_zero], hke⟩
    · rename_i hke
      rw [← hkey] at hke
      simp only [Option.map_eq_some_iff] at hf
      obtain ⟨r0, hr0, rfl⟩ := hf
      have ih := findNow_sound (m := m) (es := es) (i := i + 1) hd hk (by simpa using hl) (fun j k v hj => by
        obtain ⟨e2, h2⟩ := hp (j + 1) k v (by simpa using hj)
        exact ⟨e2, by simpa using h2⟩) hr0
      cases r0 with
      | none =>
        simp only [Option.map_none, Instr.findNow, keyEq_now hd hk hke]
        exact ih
      | some p =>
        obtain ⟨j, v2⟩ := p
        obtain ⟨e2, h1, h2, h3, h4⟩ := ih
        refine ⟨e2, by simpa using h1, h2, ?_, h4⟩
        simp only [Instr.findNow, keyEq_now hd hk hke, h3]
        congr 3
        omega
    · cases hf

theorem checkKey_ok {kt : TypeId} {kv : Value} {d : TypeDesc} (hd : P.underlying kt = some d) (hk : keyOk P kt kv = true) (e : Bool) (n : Nat) : (Instr.checkKey e (n + 1) kt kv).run P w = .ok () w := by
  unfold keyOk at hk
  split at hk
  · split at hk
    · rename_i ti hti
      obtain ⟨k3, hk3⟩ := Option.isSome_iff_exists.1 hk
      obtain ⟨_, d', _, hd', _, _, _, _, _, _, _, _, hint⟩ := tiOf_parts hti
      rw [hd] at hd'
      cases hd'
      obtain rfl := hint k3 hk3
      simp [Instr.checkKey, run_underlying hd]
    · cases hk
  · split at hk
    · rename_i ti hti
      obtain ⟨_, d', _, hd', _, _, _, _, _, _, _, hst, _⟩ := tiOf_parts hti
      rw [hd] at hd'
      cases hd'
      obtain rfl := hst hk
      simp [Instr.checkKey, run_underlying hd]
    · cases hk
  · cases hk

theorem run_getObj_map {b : Nat} {es : Array MapEntry} {clock : Nat} (hh : w.heap[b]? = some (.map es clock)) : (getObj b).run P w = .ok (.map es clock) w := by simp [getObj, Sem.run, hh]

theorem checkKey_10000 {kt : TypeId} {kv : Value} {d : TypeDesc} (hd : P.underlying kt = some d) (hk : keyOk P kt kv = true) (e : Bool) : (Instr.checkKey e 10000 kt kv).run P w = .ok () w := checkKey_ok hd hk e 9999

theorem lookupA_sound (S : SatH G w A h) {t : TypeId} {m k v : AV} {mv kv : Value} {ok : Bool} (rm : Rel G w A h m mv) (rk : Rel G w A h k kv) (hv : lookupA P h t m k ok = some v) :
    ∃ z, (Instr.lookup t mv kv ok).run P w = .ok z w ∧ Rel G w A h v z := by
  unfold lookupA at hv
  split at hv
  case h_2 => cases hv
  rename_i ti id kv0 hti
  obtain rfl := rk.sc_inv
  split at hv
  case h_2 => cases hv
  rename_i kt et es hmk hl
  split at hv
  case isFalse => cases hv
  rename_i hkok
  obtain ⟨_, d, _, hd, _, _, _, _, _, _, hmap, _⟩ := tiOf_parts hti
  obtain rfl := hmap kt et hmk
  obtain ⟨_, _, ho⟩ := rm.mp_inv
  obtain ⟨b, hb, rfl⟩ := ho _ hl
  obtain ⟨b', ens, clock, hb', hh, hlen, hpt⟩ := (S.obj _ _ hl).2
  rw [hb] at hb'
  cases hb'
  have hkd : ∃ dk, P.underlying kt = some dk := by
    unfold keyOk at hkok
    split at hkok
    · split at hkok
      · rename_i ti hti; obtain ⟨_, d', _, hd', _⟩ := tiOf_parts hti; exact ⟨d', hd'⟩
      · cases hkok
    · split at hkok
      · rename_i ti hti; obtain ⟨_, d', _, hd', _⟩ := tiOf_parts hti; exact ⟨d', hd'⟩
      · cases hkok
    · cases hkok
  obtain ⟨dk, hdk⟩ := hkd
  have hgo := run_getObj_map (P := P) hh
  have hck := checkKey_10000 (P := P) (w := w) hdk hkok
  have hpt' : ∀ (j : Nat) (k : Value) (v : AV), es[j]? = some (k, v) → ∃ e, ens.toList[j]? = some e ∧ e.key = k ∧ Rel G w A h v e.val := fun j k v hj => by
    obtain ⟨e, he, h2⟩ := hpt j k v hj
    exact ⟨e, by simpa using he, h2⟩
  split at hv
  · rename_i tt j v0 hf
    obtain ⟨e, he, hre, hfn, _⟩ := findNow_sound (i := 0) hdk hkok (by simpa using hlen) hpt' hf
    simp only [Option.some.injEq] at hv
    subst hv
    have hfk : (Instr.findKey kt kv ens.toList).run P w = .ok (some (j, e.val)) w := by
      simp [Instr.findKey, run_underlying hdk, hfn]
    cases ok
    · exact ⟨e.val, by simp [Instr.lookup, run_underlying hd, hgo, hck, hfk], hre⟩
    · refine ⟨.tuple #[e.val, .bool true], by simp [Instr.lookup, run_underlying hd, hgo, hck, hfk], ?_⟩
      exact .tup _ _ _ [e.val, .bool true] rfl fun j c hj => by
        match j, hj with
        | 0, hj => simp at hj; subst hj; exact hre
        | 1, hj => simp at hj; subst hj; exact .sc ..
  · rename_i te hf hte
    split at hv
    · rename_i z hz
      split at hv
      case isFalse => cases hv
      rename_i hzs
      simp only [Option.some.injEq] at hv
      subst hv
      have hfn := findNow_sound (i := 0) hdk hkok (by simpa using hlen) hpt' hf
      have hfk : (Instr.findKey kt kv ens.toList).run P w = .ok none w := by
        simp [Instr.findKey, run_underlying hdk, hfn]
      obtain ⟨i, d', hi, hd', _, _, _, hzero, _⟩ := tiOf_parts hte
      obtain ⟨i2, zv, hi2, hiz, hz1⟩ := tiOf_zsc hte hzs
      rw [hi] at hi2
      cases hi2
      rw [hz] at hzero
      simp only [hiz, Option.map_some, Option.some.injEq] at hzero
      have hzr : (zeroValue et).run P w = .ok zv w := by simp [zeroValue, typeInfo, hi, hiz]
      have hrz : Rel G w A h z zv := by
        rw [oneCell_cells hz1] at hzero
        simp at hzero
        rw [hzero]
        exact rel_ofConst _
      cases ok
      · exact ⟨zv, by simp [Instr.lookup, run_underlying hd, hgo, hck, hfk, hzr], hrz⟩
      · refine ⟨.tuple #[zv, .bool false], by simp [Instr.lookup, run_underlying hd, hgo, hck, hfk, hzr], ?_⟩
        exact .tup _ _ _ [zv, .bool false] rfl fun j c hj => by
          match j, hj with
          | 0, hj => simp at hj; subst hj; exact hrz
          | 1, hj => simp at hj; subst hj; exact .sc ..
    · cases hv
  · cases hv

def mapSetA (h : Heap) (P : Program) (t : TypeId) (m k v : AV) : Option Heap :=
  match tiOf P t, m, k with
  | some ti, .mp id, .sc kv => match ti.mapk, look id h with
    | some (kt, _), some (.map es) => if keyOk P kt kv then (match mapFind kv es with
      | some (some (j, _)) => some (upd id (.map (es.set j (kv, v))) h)
      | some none => some (upd id (.map (es ++ [(kv, v)])) h)
      | none => none) else none
    | _, _ => none
  | _, _, _ => none

theorem sameBits_of_keyEq {a b : Value} (hk : keyEq a b = some true) (n : Nat) : Instr.sameBits n b a = true := by
  unfold keyEq at hk
  split at hk
  · rename_i k x k' y
    split at hk
    · rename_i hkk
      subst hkk
      simp at hk
      subst hk
      cases n <;> simp [Instr.sameBits, beq_toListBytes]
    · cases hk
  · simp at hk
    subst hk
    cases n <;> simp [Instr.sameBits, beq_toListBytes]
  · cases hk

theorem run_setObj_map {b : Nat} {es : Array MapEntry} {clock : Nat} (hh : w.heap[b]? = some (.map es clock)) (o : Obj) : (setObj b o).run P w = .ok () { w with heap := w.heap.setIfInBounds b o } := by simp [setObj, Sem.run, hh]

theorem mapSetA_sound (S : SatH G w A h) {t : TypeId} {m k v : AV} {mv kv vv : Value} (rm : Rel G w A h m mv) (rk : Rel G w A h k kv) (rv : Rel G w A h v vv) {h' : Heap} (hv : mapSetA h P t m k v = some h') :
    ∃ w', (Instr.mapUpdate t mv kv vv).run P w = .ok () w' ∧ SatH G w' A h' ∧ Evo G w A h G w' A h' := by
  unfold mapSetA at hv
  split at hv
  case h_2 => cases hv
  rename_i ti id kv0 hti
  obtain rfl := rk.sc_inv
  split at hv
  case h_2 => cases hv
  rename_i kt et es hmk hl
  split at hv
  case isFalse => cases hv
  rename_i hkok
  obtain ⟨_, d, _, hd, _, _, _, _, _, _, hmap, _⟩ := tiOf_parts hti
  obtain rfl := hmap kt et hmk
  obtain ⟨_, _, ho⟩ := rm.mp_inv
  obtain ⟨b, hb, rfl⟩ := ho _ hl
  obtain ⟨b', ens, clock, hb', hh, hlen, hpt⟩ := (S.obj _ _ hl).2
  rw [hb] at hb'
  cases hb'
  have hkd : ∃ dk, P.underlying kt = some dk := by
    unfold keyOk at hkok
    split at hkok
    · split at hkok
      · rename_i ti hti; obtain ⟨_, d', _, hd', _⟩ := tiOf_parts hti; exact ⟨d', hd'⟩
      · cases hkok
    · split at hkok
      · rename_i ti hti; obtain ⟨_, d', _, hd', _⟩ := tiOf_parts hti; exact ⟨d', hd'⟩
      · cases hkok
    · cases hkok
  obtain ⟨dk, hdk⟩ := hkd
  have hblt : b < w.heap.size := (Array.getElem?_eq_some_iff.1 hh).1
  have hgo := run_getObj_map (P := P) hh
  have hck := checkKey_10000 (P := P) (w := w) hdk hkok
  have hpt' : ∀ (j : Nat) (k : Value) (v : AV), es[j]? = some (k, v) → ∃ e, ens.toList[j]? = some e ∧ e.key = k ∧ Rel G w A h v e.val := fun j k v hj => by
    obtain ⟨e, he, h2⟩ := hpt j k v hj
    exact ⟨e, by simpa using he, h2⟩
  have fin : ∀ (o : Obj) (es' : List (Value × AV)) (ens' : Array MapEntry) (c' : Nat), o = .map ens' c' → es'.length = ens'.size →
      (∀ (i : Nat) (k : Value) (v : AV), es'[i]? = some (k, v) → ∃ e, ens'[i]? = some e ∧ e.key = k ∧ Rel G w A h v e.val) →
      SatH G { w with heap := w.heap.setIfInBounds b o } A (upd id (.map es') h) ∧ Evo G w A h G { w with heap := w.heap.setIfInBounds b o } A (upd id (.map es') h) := by
    intro o es' ens' c' ho' hl' hp'
    subst ho'
    refine upd_obj S hl hb rfl rfl rfl (by simp) (fun b' hb' => by
      show (w.heap.setIfInBounds b _)[b']? = _
      rw [Array.getElem?_setIfInBounds_ne (fun e => hb' e.symm)]) rfl fun C => ⟨b, ens', c', hb, ?_, hl', fun i k v hi => ?_⟩
    · show (w.heap.setIfInBounds b _)[b]? = _
      rw [Array.getElem?_setIfInBounds_self_of_lt hblt]
    · obtain ⟨e, h1, h2, h3⟩ := hp' i k v hi
      exact ⟨e, h1, h2, h3.compat C⟩
  split at hv
  · rename_i j v0 hf
    cases hv
    obtain ⟨e, he, hre, hfn, hke⟩ := findNow_sound (i := 0) hdk hkok (by simpa using hlen) hpt' hf
    have hfk : (Instr.findKey kt kv ens.toList).run P w = .ok (some (j, e.val)) w := by
      simp [Instr.findKey, run_underlying hdk, hfn]
    have he' : ens[j]? = some e := by simpa using he
    have hsb := sameBits_of_keyEq hke 10000
    have hks : (Instr.keyThatStays e.key kv).run P w = .ok kv w := by simp [Instr.keyThatStays, hsb]
    have F := fin (.map (ens.modify j fun e => { e with key := kv, val := vv }) clock) (es.set j (kv, v)) _ clock rfl (by simp [hlen]) (fun i k u hi => by
      rw [List.getElem?_set] at hi
      by_cases hji : j = i
      · subst hji
        have hjl : j < es.length := by rw [hlen]; exact (Array.getElem?_eq_some_iff.1 he').1
        simp only [if_true, hjl] at hi
        cases hi
        exact ⟨{ e with key := kv, val := vv }, by rw [Array.getElem?_modify, if_pos rfl, he']; rfl, rfl, rv⟩
      · rw [if_neg hji] at hi
        obtain ⟨e2, h1, h2⟩ := hpt i k u hi
        exact ⟨e2, by rw [Array.getElem?_modify, if_neg hji]; exact h1, h2⟩)
    refine ⟨_, ?_, F⟩
    simp only [Instr.mapUpdate, Sem.run_bind, run_underlying hd, Result.andThen_ok, hgo, hck, hfk, he', Option.map_some, Option.getD_some, hks, run_setObj_map hh]
  · rename_i hf
    cases hv
    have hfn := findNow_sound (i := 0) hdk hkok (by simpa using hlen) hpt' hf
    have hfk : (Instr.findKey kt kv ens.toList).run P w = .ok none w := by
      simp [Instr.findKey, run_underlying hdk, hfn]
    have F := fin (.map (ens.push { key := kv, val := vv, born := clock }) (clock + 1)) (es ++ [(kv, v)]) _ (clock + 1) rfl (by simp [hlen]) (fun i k u hi => by
      by_cases hlt : i < es.length
      · rw [List.getElem?_append_left hlt] at hi
        obtain ⟨e2, h1, h2⟩ := hpt i k u hi
        refine ⟨e2, ?_, h2⟩
        rw [Array.getElem?_push, if_neg (by omega)]
        exact h1
      · rw [List.getElem?_append_right (by omega)] at hi
        cases hd2 : i - es.length with
        | zero =>
          rw [hd2] at hi
          simp at hi
          obtain ⟨rfl, rfl⟩ := hi
          have : i = ens.size := by omega
          subst this
          exact ⟨_, by rw [Array.getElem?_push, if_pos rfl], rfl, rv⟩
        | succ n => rw [hd2] at hi; simp at hi)
    refine ⟨_, ?_, F⟩
    simp only [Instr.mapUpdate, Sem.run_bind, run_underlying hd, Result.andThen_ok, hgo, hck, hfk, run_setObj_map hh]
  · cases hv

end
end Go.Abs
