/- The abstract layer, part Q: what is shown by content, the machine does. -/
import Derived.Test.YtlmkmmkhfkdagaaAbsOb
import Derived.RangeFuncRecord
set_option linter.unusedVariables false
set_option linter.unusedSimpArgs false
namespace Go.Abs
open Go.RowKit

def codeOk (nt : Nat) : Code → Bool
  | .seq a b => codeOk nt a && codeOk nt b
  | .cond _ a b => codeOk nt a && codeOk nt b
  | .block _ c => codeOk nt c
  | .loop c => codeOk nt c
  | .region _ ops _ => ops.toList.all (opOk nt)
  | .rangeFunc _ ps a b => ps.toList.all (fun p => decide (p < nt)) && codeOk nt a && codeOk nt b
  | .scope b => codeOk nt b
  | _ => true

def XI.ok (nt : Nat) : XI → Bool
  | .code c => codeOk nt c
  | .ops all l => all.toList.all (opOk nt) && l.all (opOk nt)
  | .inB _ => true

theorem popExit_ok {nt id : Nat} : ∀ {k k' : List XI}, popExit id k = some k' → k.all (XI.ok nt) = true → k'.all (XI.ok nt) = true
  | [], k', h, _ => by simp [popExit] at h
  | .inB i :: k, k', h, ho => by
    simp only [popExit] at h
    simp only [List.all_cons, Bool.and_eq_true] at ho
    split at h
    · cases h; exact ho.2
    · exact popExit_ok h ho.2
  | .code c :: k, k', h, ho => by
    simp only [List.all_cons, Bool.and_eq_true] at ho
    exact popExit_ok (by simpa [popExit] using h) ho.2
  | .ops a l :: k, k', h, ho => by
    simp only [List.all_cons, Bool.and_eq_true] at ho
    exact popExit_ok (by simpa [popExit] using h) ho.2

section
variable {C : Ctx} {O : Orig} {l : Option Nat}

/-- The machine's post of an abstract one. -/
def QM (C : Ctx) (O : Orig) (l : Option Nat) (Q : Exit → AS → Prop) (e : Exit) (a : Act) (w : World) : Prop := ∃ σ' G', Q e σ' ∧ Ok C O l G' σ' a w

theorem okPut {G : Gh} {σ : AS} {a : Act} {w : World} (k : Ok C O l G σ a w) {d : Option Tmp} {v : AV} {x : Value} (hd : ∀ t, d = some t → t < C.nt) (r : Rel G w (below σ.next) σ.heap v x) : Ok C O l G (σ.put d v) (a.put d x) w := by
  have := OkA.put k hd r
  cases d <;> exact this

/-- One operation that is carried out. -/
theorem op_sound {o : Oper} {G : Gh} {σ : AS} {a : Act} {w : World} (k : Ok C O l G σ a w) (hok : opOk C.nt o = true) {X : AS → Prop} {K : Act → World → Prop} {Q' : Exit → Act → World → Prop}
    (hK : ∀ σ' G' a' w', X σ' → Ok C O l G' σ' a' w' → K a' w')
    (h : match callOf o.op with
      | some (f, args) => ACallV C.P (σ.ev f) (args.map σ.ev) σ.heap σ.next (fun r h' nx' => X { (σ.put o.dst r) with heap := h', next := nx' })
      | none => match nilCmp C.P o.op with
        | some (n, x) => ∃ ls, elems σ.heap (σ.ev x) = some ls ∧ ∀ b : Bool, (ls ≠ [] → b = false) → X (σ.put o.dst (.sc (.bool (b != n))))
        | none => ∃ r, opA C.P σ.heap σ.next σ.ev o.op = some r ∧ X (σ.next' o.dst r)) : o.wpIn (Fw l) 0 C.P a w K Q' := by
  refine ⟨fun _ _ => trivial, ?_⟩
  cases hc : callOf o.op with
  | some fa =>
    obtain ⟨f, args⟩ := fa
    simp only [hc] at h
    obtain ⟨args', tys, ho, rfl⟩ : ∃ args' tys, o.op = .call { callee := .value f, args := args', argTypes := tys } ∧ args = args'.toList := by
      unfold callOf at hc
      split at hc
      · rename_i f' a' t' heq
        cases hc
        exact ⟨_, _, heq, rfl⟩
      · cases hc
    have hsem : o.semAt (Fw l).round a.eval = execOp a.eval o := Oper.semAt_eq _ _ _ (fun c => by rw [ho]; simp)
    have hrs : Rels G w (below σ.next) σ.heap (args'.toList.map σ.ev) (args'.toList.map a.eval) := by
      rw [rels_iff]
      refine ⟨by simp, fun j c v hj hv => ?_⟩
      simp only [List.getElem?_map] at hj hv
      cases hq : args'.toList[j]? with
      | none => simp [hq] at hj
      | some q =>
        simp only [hq, Option.map_some, Option.some.injEq] at hj hv
        subst hj
        subst hv
        exact k.ev q
    have hcall := h G w (a.eval f) _ k.sat (k.ev f) hrs
    have harr : (args'.toList.map a.eval).toArray = args'.map a.eval := by apply Array.ext'; simp
    rw [harr] at hcall
    have hexec : (execOp a.eval o).run C.P w = (do let d ← Deferred.ofValue (a.eval f) (args'.map a.eval); invoke d.target d.args : Sem Next).run C.P w := by
      simp only [execOp, ho]
      exact run_call
    have fin : ∀ e w', Left G w σ.heap σ.next (fun r h' nx' => X { (σ.put o.dst r) with heap := h', next := nx' }) e w' → (match e, w' with
        | .returned v, w' => K (a.put o.dst v) w'
        | .panicked chain, w' => Q' (.panic chain) a w'
        | .outgrown, _ => LetsOut Q') := by
      intro e w' hl
      obtain ⟨v, r, h', nx', G', rfl, hX, S', E', R'⟩ := hl
      exact hK _ G' _ _ hX (k.step (opOk_dst hok) S' E' R' _)
    rw [hsem, hexec]
    rcases hcall with ⟨g, as, h1, h2⟩ | ⟨l', g, tmps, as, body, h1, h2⟩
    · rw [h1]
      refine ⟨fun hd => by simp [Fw, Fence.wide] at hd, ?_⟩
      have h3 := callsIn_wide (n := 0) |>.2 h2
      exact CallsIn.mono (F := Fw l) h3 (fun e w' hl => fin e w' hl)
    · rw [h1]
      refine ⟨fun hd => by simp [Fw, Fence.wide] at hd, ?_⟩
      exact RoundIn.mono (F := Fw l) h2 (fun e w' hl => fin e w' hl)
  | none =>
    simp only [hc] at h
    cases hn : nilCmp C.P o.op with
    | some nx =>
      obtain ⟨n, x⟩ := nx
      simp only [hn] at h
      obtain ⟨ls, hls, hb⟩ := h
      obtain ⟨op, t, yt, ho, ti, hti, hel, hop⟩ : ∃ op t yt, o.op = .binOp op t x (.const (.slice none 0 0)) yt ∧ ∃ ti, tiOf C.P t = some ti ∧ ti.elem.isSome = true ∧ ((op = .eql ∧ n = false) ∨ (op = .neq ∧ n = true)) := by
        unfold nilCmp at hn
        split at hn
        · rename_i op t x' yt heq
          split at hn
          · rename_i ti hti
            split at hn
            · rename_i hel
              cases op <;> simp at hn
              · obtain ⟨rfl, rfl⟩ := hn; exact ⟨_, _, _, heq, ti, hti, hel, .inl ⟨rfl, rfl⟩⟩
              · obtain ⟨rfl, rfl⟩ := hn; exact ⟨_, _, _, heq, ti, hti, hel, .inr ⟨rfl, rfl⟩⟩
            · cases hn
          · cases hn
        · cases hn
      have hsem : o.semAt (Fw l).round a.eval = execOp a.eval o := Oper.semAt_eq _ _ _ (fun c => by rw [ho]; simp)
      obtain ⟨bb, cap, hx, _⟩ := elems_len k.sat (k.ev x) hls
      obtain ⟨i, d, hi, hd, _, _, _, _, hels, _⟩ := tiOf_parts hti
      obtain ⟨e, he⟩ := Option.isSome_iff_exists.1 hel
      obtain rfl := hels e he
      have heq : ∀ dd, (Op.equalIn (dd + 1) t (.slice bb ls.length cap) (.slice none 0 0)).run C.P w = .ok bb.isNone w := by
        intro dd
        cases bb <;> simp [Op.equalIn, run_underlying hd]
      have hbn : ls ≠ [] → bb.isNone = false := by
        intro hne
        have hr := k.ev x
        rw [hx] at hr
        cases hb : bb with
        | some _ => rfl
        | none =>
          exfalso
          subst hb
          have hlen : ls.length ≠ 0 := fun e => hne (List.eq_nil_of_length_eq_zero e)
          unfold elems at hls
          split at hls
          · cases hls; exact hne rfl
          · rename_i sz l0 hev
            cases hls
            rw [hev] at hr
            rcases hr.lst_inv with ⟨rfl, _⟩ | ⟨b, off, cap', f, hx', _⟩
            · exact hne rfl
            · cases hx'
          · rename_i id g lo hev
            rw [hev] at hr
            split at hls
            · rename_i g' sz L hlk
              split at hls
              · rename_i hg
                cases hls
                obtain ⟨_, _, ho⟩ := hr.own_inv
                obtain ⟨hlo, hnn, b0, hx', hb0⟩ := (ho _ _ _ hlk).2 hg
                injection hx' with e1 e2 e3
                subst e1
                rw [List.length_drop] at hlen
                have h8 := hb0 (by omega)
                rcases (k.sat.obj _ _ hlk).2 with ⟨rfl, _, _⟩ | ⟨b', o', T, vs, hloc, _⟩
                · simp at hlen
                · rw [hloc] at h8; cases h8
              · cases hls
            · cases hls
          · cases hls
      have hexec : (execOp a.eval o).run C.P w = .ok (.value (.bool (bb.isNone != n))) w := by
        simp only [execOp, ho, Sem.run_bind]
        have hg : (eqGuard op t x (.const (.slice none 0 0)) (a.eval x) (a.eval (.const (.slice none 0 0)))).run C.P w = .ok () w := by
          rw [hx]
          exact eqGuard_other (by simp) (by simp)
        rw [hg]
        simp only [Result.andThen_ok, hx]
        have he2 : (Op.equal t (.slice bb ls.length cap) (.slice none 0 0)).run C.P w = .ok bb.isNone w := heq 9999
        rcases hop with ⟨rfl, rfl⟩ | ⟨rfl, rfl⟩
        · have : binOp .eql t (.slice bb ls.length cap) (a.eval (.const (.slice none 0 0))) = (do pure (.bool (← Op.equal t (.slice bb ls.length cap) (.slice none 0 0)))) := rfl
          rw [this]
          simp [he2]
        · have : binOp .neq t (.slice bb ls.length cap) (a.eval (.const (.slice none 0 0))) = (do pure (.bool (!(← Op.equal t (.slice bb ls.length cap) (.slice none 0 0))))) := rfl
          rw [this]
          simp [he2]
      rw [hsem, hexec]
      exact hK _ G _ _ (hb bb.isNone hbn) (okPut k (opOk_dst hok) (.sc ..))
    | none =>
      simp only [hn] at h
      obtain ⟨⟨v, h', fr⟩, hop, hX⟩ := h
      have hsem : o.semAt (Fw l).round a.eval = execOp a.eval o := Oper.semAt_eq _ _ _ (opA_notDefer hop)
      obtain ⟨n, x, w', G', h1, h2, S', E', R'⟩ := opA_sound k.sat (A' := below (if fr then σ.next + 1 else σ.next)) (by unfold below; omega) k.ev hop (below_succ _ _)
      rw [hsem, h1]
      rcases h2 with rfl | ⟨rfl, rfl⟩
      · exact hK _ G' _ _ hX (k.step (opOk_dst hok) S' E' R' _)
      · exact hK _ G' _ _ hX (k.step (opOk_dst hok) S' E' R' _)

/-- A row of operations, in the order of the text. -/
theorem ops_sound {all : Array Oper} {rest : List Oper} {o : Oper} {G : Gh} {σ : AS} {a : Act} {w : World} (k : Ok C O l G σ a w) (hall : all.toList.all (opOk C.nt) = true) (hok : opOk C.nt o = true) {X : AS → Prop} {K : Exit → Act → World → Prop}
    (hK : ∀ σ' G' a' w', X σ' → Ok C O l G' σ' a' w' → wpListIn (Fw l) 0 C.P all K rest a' w')
    (h : ∃ t : Bool, (match o.guard with | none => t = true | some (j, want) => ∃ b, gv all σ j = .sc (.bool b) ∧ t = (b == want)) ∧
      (t = false → X (σ.put o.dst .any)) ∧
      (t = true → match callOf o.op with
        | some (f, args) => ACallV C.P (σ.ev f) (args.map σ.ev) σ.heap σ.next (fun r h' nx' => X { (σ.put o.dst r) with heap := h', next := nx' })
        | none => match nilCmp C.P o.op with
          | some (n, x) => ∃ ls, elems σ.heap (σ.ev x) = some ls ∧ ∀ b : Bool, (ls ≠ [] → b = false) → X (σ.put o.dst (.sc (.bool (b != n))))
          | none => ∃ r, opA C.P σ.heap σ.next σ.ev o.op = some r ∧ X (σ.next' o.dst r))) : wpListIn (Fw l) 0 C.P all K (o :: rest) a w := by
  obtain ⟨t, hg, h1, h2⟩ := h
  have hw : Region.wanted o (yielded all a.tmps) = t := by
    unfold Region.wanted
    cases hgd : o.guard with
    | none => rw [hgd] at hg; exact hg.symm
    | some jw =>
      obtain ⟨j, want⟩ := jw
      rw [hgd] at hg
      obtain ⟨b, hb, ht⟩ := hg
      simp only
      rw [gv_sound k hall hb, ht]
      cases b <;> cases want <;> rfl
  simp only [wpListIn, hw]
  cases t with
  | true =>
    simp only [if_true]
    exact op_sound k hok (X := X) (fun σ' G' a' w' hx hk => hK σ' G' a' w' hx hk) (h2 rfl)
  | false =>
    simp only [Bool.false_eq_true, if_false]
    exact ⟨fun _ _ => trivial, hK _ _ _ _ (h1 rfl) (okPut k (opOk_dst hok) (.any ..))⟩

/-! ### A range over a function -/

theorem run_enterLoop_in {l0 : Nat} {r0 : Loop} {w : World} {P : Program} (h : w.heap[l0]? = some (.loop r0)) (fn : FuncId) (tmps : Array Value) (ps : Array Tmp) (assign body : Code) :
    (Instr.enterLoop fn tmps ps assign body (some l0)).run P w =
      .ok (w.heap.size, []) (w.alloc (.loop { state := .ready, pending := none, fn, tmps, params := ps, assign, body, defers := r0.defers })) := by
  unfold Instr.enterLoop
  simp only [Sem.run_bind, run_getLoop h, run_newObj_alloc, Result.andThen, Sem.run_pure]

/-- A new object that values lead to by its block. -/
theorem new_at {G : Gh} {w : World} {A A' : Nat → Prop} {h : Heap} (S : SatH G w A h) {id : Nat} (hA : ¬ A id) (hA' : ∀ j, A' j ↔ A j ∨ j = id) {o : AObj} {ob : Obj}
    (ho : Compat G w (G.put id (some ⟨w.heap.size, 0, none⟩) 0) (w.alloc ob) A h A' (hc id o h) → RelO (G.put id (some ⟨w.heap.size, 0, none⟩) 0) (w.alloc ob) A' (hc id o h) id o) :
    SatH (G.put id (some ⟨w.heap.size, 0, none⟩) 0) (w.alloc ob) A' (hc id o h) ∧ Evo G w A h (G.put id (some ⟨w.heap.size, 0, none⟩) 0) (w.alloc ob) A' (hc id o h) :=
  new_obj S hA hA' rfl rfl rfl (by simp) (fun b hb => Below.heap_alloc w _ b hb) (fun a ha => by cases ha; simp) ho

/-- The loop's record laid. -/
theorem loop_new {G : Gh} {w : World} {A A' : Nat → Prop} {h : Heap} (S : SatH G w A h) {id : Nat} (hA : ¬ A id) (hA' : ∀ j, A' j ↔ A j ∨ j = id) {T : Tab AV} {tv : Array Value} {nt : Nat} (hsz : tv.size = nt) (ht : ∀ t v, look t T = some v → Rel G w A h v (tv.getD t undef))
    (ps : Array Tmp) (as body : Code) (fn : FuncId) (d : Nat) : ∃ G', SatH G' (w.alloc (.loop { state := .ready, pending := none, fn, tmps := tv, params := ps, assign := as, body, defers := d })) A' (hc id (.loop { st := .ready, pend := none, tmps := T, nt, params := ps, assign := as, body }) h) ∧
      Evo G w A h G' (w.alloc (.loop { state := .ready, pending := none, fn, tmps := tv, params := ps, assign := as, body, defers := d })) A' (hc id (.loop { st := .ready, pend := none, tmps := T, nt, params := ps, assign := as, body }) h) ∧
      Rel G' (w.alloc (.loop { state := .ready, pending := none, fn, tmps := tv, params := ps, assign := as, body, defers := d })) A' (hc id (.loop { st := .ready, pend := none, tmps := T, nt, params := ps, assign := as, body }) h) (.yld id) (.func (.yield w.heap.size) #[] #[]) := by
  obtain ⟨S', E'⟩ := new_at S hA hA' (o := .loop { st := .ready, pend := none, tmps := T, nt, params := ps, assign := as, body }) (ob := .loop { state := .ready, pending := none, fn, tmps := tv, params := ps, assign := as, body, defers := d })
    fun C => ⟨w.heap.size, tv, d, fn, Gh.put_loc_same _ _ _, heap_alloc_at w _, hsz, fun t v hv => (ht t v hv).compat C⟩
  exact ⟨_, S', E', .yld _ _ _ _ ((hA' id).2 (.inr rfl)) rfl fun r _ => ⟨w.heap.size, Gh.put_loc_same _ _ _, rfl⟩⟩

theorem dfr_new {G : Gh} {w : World} {A A' : Nat → Prop} {h : Heap} (S : SatH G w A h) {id : Nat} (hA : ¬ A id) (hA' : ∀ j, A' j ↔ A j ∨ j = id) :
    ∃ G', SatH G' (w.alloc (.deferred (some []))) A' (hc id .dfr h) ∧ Evo G w A h G' (w.alloc (.deferred (some []))) A' (hc id .dfr h) ∧ Rel G' (w.alloc (.deferred (some []))) A' (hc id .dfr h) (.mrk id) (.chan (some w.heap.size)) := by
  obtain ⟨S', E'⟩ := new_at S hA hA' (o := .dfr) (ob := .deferred (some [])) fun C => ⟨w.heap.size, Gh.put_loc_same _ _ _, heap_alloc_at w _⟩
  exact ⟨_, S', E', .mrk _ _ _ _ ((hA' id).2 (.inr rfl)) rfl fun _ => ⟨w.heap.size, Gh.put_loc_same _ _ _, rfl⟩⟩

/-- The record turned. -/
theorem loop_turn {G : Gh} {w : World} {A : Nat → Prop} {h : Heap} (S : SatH G w A h) {id : Nat} {r : ALoop} (hl : look id h = some (.loop r)) {l0 : Nat} (ry : Rel G w A h (.yld id) (.func (.yield l0) #[] #[])) (st : LoopState) (pend : Option Code) :
    ∃ L : Loop, w.heap[l0]? = some (.loop L) ∧ L.state = r.st ∧ L.pending = r.pend ∧ L.params = r.params ∧ L.assign = r.assign ∧ L.body = r.body ∧ L.tmps.size = r.nt ∧ (∀ t v, look t r.tmps = some v → Rel G w A h v (L.tmps.getD t undef)) ∧
      SatH G (w.putObj l0 (.loop { L with state := st, pending := pend })) A (upd id (.loop { r with st := st, pend := pend }) h) ∧
      Evo G w A h G (w.putObj l0 (.loop { L with state := st, pending := pend })) A (upd id (.loop { r with st := st, pend := pend }) h) := by
  obtain ⟨b, hloc, he⟩ := ry.yld_inv.2.2 r hl
  cases he
  obtain ⟨_, b', tv, d, fn, hloc', hb, hsz, ht⟩ := S.obj _ _ hl
  rw [hloc] at hloc'
  cases hloc'
  refine ⟨_, hb, rfl, rfl, rfl, rfl, rfl, hsz, ht, ?_⟩
  have hlt : l0 < w.heap.size := (Array.getElem?_eq_some_iff.1 hb).1
  refine upd_obj S hl hloc rfl rfl rfl (by simp) (fun j hj => World.putObj_heap_other hj) rfl fun C => ⟨l0, tv, d, fn, hloc, World.putObj_heap_same hlt, hsz, fun t v hv => (ht t v hv).compat C⟩

theorem range_sound {G : Gh} {σ : AS} {a : Act} {w : World} (k : Ok C O l G σ a w) {f : Operand} {ps : Array Tmp} {as body : Code} {Q : Exit → Act → World → Prop} {X : Option Code → AS → Prop}
    (hr : ∀ r, C.rid = some r → ∃ rr, look r σ.heap = some (.loop rr)) {g : FuncId} {caps : List AV} (hf : σ.ev f = .fn (.func g) caps)
    (hcl : ACall C.P g (.yld (rangeIn C σ ps as body).1 :: caps) (rangeIn C σ ps as body).2.heap (rangeIn C σ ps as body).2.next (fun _ h' nx' =>
      ∃ r', look (rangeIn C σ ps as body).1 h' = some (.loop r') ∧ r'.st ≠ .busy ∧ X r'.pend (rangeOut (rangeIn C σ ps as body).2 (rangeIn C σ ps as body).1 r' h' nx')))
    (hX : ∀ j σ' G' a' w', X j σ' → Ok C O l G' σ' a' w' → (match j with
      | none => Q .normal a' w'
      | some c => c.wpIn (Fw l) 0 C.P Q a' w')) : (Code.rangeFunc f ps as body).wpIn (Fw l) 0 C.P Q a w := by
  refine wpIn_rangeFunc fun fn _ => ?_
  -- the loop entered
  have enter : ∃ l1 mark w1 G1, (Instr.enterLoop fn a.tmps ps as body (Fw l).round).run C.P w = .ok (l1, mark) w1 ∧ Ok C O l G1 (rangeIn C σ ps as body).2 { a with defers := mark ++ a.defers } w1 ∧
      Rel G1 w1 (below (rangeIn C σ ps as body).2.next) (rangeIn C σ ps as body).2.heap (.yld (rangeIn C σ ps as body).1) (.func (.yield l1) #[] #[]) ∧ Rel G1 w1 (below (rangeIn C σ ps as body).2.next) (rangeIn C σ ps as body).2.heap (σ.ev f) (a.eval f) := by
    cases hrid : C.rid with
    | none =>
      have hl := k.nornd hrid
      subst hl
      obtain ⟨G1, S1, E1, R1⟩ := dfr_new k.sat (id := σ.next) (A' := below (σ.next + 1)) (by unfold below; omega) (by unfold below; omega)
      obtain ⟨G2, S2, E2, R2⟩ := loop_new S1 (id := σ.next + 1) (A' := below (σ.next + 2)) (by unfold below; omega) (by unfold below; omega) (T := σ.tmps) (tv := a.tmps) (nt := C.nt) k.size (fun t v hv => E1.rel _ _ (k.tmps t v hv)) ps as body fn w.heap.size
      have hrun := run_enterLoop_outer (P := C.P) (w := w) fn a.tmps ps as body
      have e : rangeIn C σ ps as body = (σ.next + 1, { σ with heap := hc (σ.next + 1) (.loop (loopRec C σ ps as body)) (hc σ.next .dfr σ.heap), next := σ.next + 2, marks := σ.next :: σ.marks }) := by simp only [rangeIn, hrid]
      rw [e]
      refine ⟨_, _, _, G2, hrun, ?_, by rw [World.size_alloc] at R2; exact R2, E2.rel _ _ (E1.rel _ _ (k.ev f))⟩
      have E := E1.trans E2
      refine ⟨S2, fun t v hv => E.rel _ _ (k.tmps t v hv), k.size, ?_, k.evo.trans E, fun r h => (by rw [hrid] at h; cases h), fun _ => rfl⟩
      obtain ⟨bs, h1, h2, h3⟩ := k.defers
      refine ⟨w.heap.size :: bs, by simp [h1], by simp [h2], fun j id b hj hb => ?_⟩
      cases j with
      | zero => simp at hj hb; subst hj; subst hb; exact E2.rel _ _ R1
      | succ j => exact E.rel _ _ (h3 j id b (by simpa using hj) (by simpa using hb))
    | some r =>
      obtain ⟨l0, rfl, ry⟩ := k.rnd r hrid
      obtain ⟨rr, hrr⟩ := hr r hrid
      obtain ⟨L, hL, _⟩ := loop_turn k.sat hrr ry .ready none
      obtain ⟨G2, S2, E2, R2⟩ := loop_new k.sat (id := σ.next) (A' := below (σ.next + 1)) (by unfold below; omega) (by unfold below; omega) (T := σ.tmps) (tv := a.tmps) (nt := C.nt) k.size (fun t v hv => k.tmps t v hv) ps as body fn L.defers
      have hrun := run_enterLoop_in (P := C.P) hL fn a.tmps ps as body
      have e : rangeIn C σ ps as body = (σ.next, { σ with heap := hc σ.next (.loop (loopRec C σ ps as body)) σ.heap, next := σ.next + 1 }) := by simp only [rangeIn, hrid]
      rw [e]
      refine ⟨_, _, _, G2, hrun, ?_, R2, E2.rel _ _ (k.ev f)⟩
      refine ⟨S2, fun t v hv => E2.rel _ _ (k.tmps t v hv), k.size, ?_, k.evo.trans E2, fun r' h => ?_, fun h => (by rw [hrid] at h; cases h)⟩
      · obtain ⟨bs, h1, h2, h3⟩ := k.defers
        exact ⟨bs, by simp [h1], h2, fun j id b hj hb => E2.rel _ _ (h3 j id b hj hb)⟩
      · rw [hrid] at h
        cases h
        exact ⟨l0, rfl, E2.rel _ _ ry⟩
  obtain ⟨l1, mark, w1, G1, h1, k1, ry, rf⟩ := enter
  rw [hf] at rf
  obtain ⟨cs, hfe, hcs⟩ := rf.fn_inv
  have hvs : Rels G1 w1 (below (rangeIn C σ ps as body).2.next) (rangeIn C σ ps as body).2.heap (.yld (rangeIn C σ ps as body).1 :: caps) (.func (.yield l1) #[] #[] :: cs) :=
    ⟨by simp [hcs.1], fun j c hj => by
      cases j with
      | zero => simp at hj; subst hj; exact ry
      | succ j => exact hcs.2 j c (by simpa using hj)⟩
  have hcall := hcl.2 G1 w1 _ k1.sat hvs
  refine ⟨l1, mark, w1, { target := .fn (.func g) cs.toArray, args := #[.func (.yield l1) #[] #[]] }, w1, g, (.func (.yield l1) #[] #[] :: cs).toArray, w1, h1, ?_, fun _ _ => trivial, ?_, fun h => by simp [Fw, Fence.wide] at h, ?_⟩
  · simp only [resolve, rangeCall, hfe]
    simp [Deferred.ofValue, Act.eval]
  · simp [invoke, run_callFunc hcl.1]
  · refine CallsIn.mono (F := Fw l) (callsIn_wide (n := 0) |>.2 hcall) fun e w' hl => ?_
    obtain ⟨v, r, h', nx', G', rfl, ⟨r', hr', hst, hx⟩, S', E', R'⟩ := hl
    obtain ⟨L, hL, hLs, hLp, _, _, _, _, _, S2, E2⟩ := loop_turn S' hr' (E'.rel _ _ ry) .exhausted r'.pend
    have hend := run_endLoop (P := C.P) hL (by rw [hLs]; exact hst)
    have hrec : ({ L with state := .exhausted, pending := r'.pend } : Loop) = { L with state := .exhausted } := by rw [← hLp]
    rw [hrec] at S2 E2
    have E := E'.trans E2
    have k2 : Ok C O l G' (rangeOut (rangeIn C σ ps as body).2 (rangeIn C σ ps as body).1 r' h' nx') { a with defers := mark ++ a.defers } (w'.putObj l1 (.loop { L with state := .exhausted })) := by
      refine ⟨S2, fun t v hv => E.rel _ _ (k1.tmps t v hv), k1.size, ?_, k1.evo.trans E, fun r'' h => ?_, k1.nornd⟩
      · obtain ⟨bs, h5, h6, h7⟩ := k1.defers
        exact ⟨bs, h5, h6, fun j id b hj hb => E.rel _ _ (h7 j id b hj hb)⟩
      · obtain ⟨l0, h5, h6⟩ := k1.rnd r'' h
        exact ⟨l0, h5, E.rel _ _ h6⟩
    refine ⟨L.pending, _, hend, ?_⟩
    have h9 := hX r'.pend _ G' _ _ hx k2
    have hgo : ∀ j : Option Code, j = r'.pend → (match j with
      | none => Q .normal { a with defers := mark ++ a.defers } (w'.putObj l1 (.loop { L with state := .exhausted }))
      | some c => c.wpIn (Fw l) 0 C.P Q { a with defers := mark ++ a.defers } (w'.putObj l1 (.loop { L with state := .exhausted }))) := fun j hj => by rw [hj]; exact h9
    exact hgo _ hLp

theorem xt_sound (hm : C.P.follows .mixedOrders = true) : ∀ (n : Nat) (todo : List XI) (Q : Exit → AS → Prop) (σ : AS), tsz todo ≤ n → todo.all (XI.ok C.nt) = true → xt C Q todo σ → ∀ G a w, Ok C O l G σ a w →
    kq (Fw l) C.P (QM C O l Q) todo .normal a w := by
  intro n
  induction n with
  | zero =>
    intro todo Q σ hn hok h G a w k
    cases todo with
    | nil => rw [xt] at h; exact ⟨σ, G, h, k⟩
    | cons x r =>
      exfalso
      cases x with
      | code c => have := csz_pos c; simp only [tsz, XI.sz] at hn; omega
      | ops al l' => simp only [tsz, XI.sz] at hn; omega
      | inB i => simp only [tsz, XI.sz] at hn; omega
  | succ n ih =>
    intro todo Q σ hn hok h G a w k
    cases todo with
    | nil => rw [xt] at h; exact ⟨σ, G, h, k⟩
    | cons x r =>
      simp only [List.all_cons, Bool.and_eq_true] at hok
      cases x with
      | inB i =>
        rw [xt] at h
        simp only [kq]
        exact ih r Q σ (by simp only [tsz, XI.sz] at hn; omega) hok.2 h G a w k
      | ops al l' =>
        simp only [XI.ok, Bool.and_eq_true] at hok
        have hal := hok.1.1
        cases l' with
        | nil =>
          rw [xt] at h
          simp only [kq, wpListIn]
          exact ih r Q σ (by simp only [tsz, XI.sz, List.length_nil] at hn; omega) hok.2 h G a w k
        | cons o rest =>
          rw [xt] at h
          simp only [kq]
          simp only [List.all_cons, Bool.and_eq_true] at hok
          refine ops_sound k hal hok.1.2.1 (X := fun σ' => xt C Q (.ops al rest :: r) σ') (fun σ' G' a' w' hx hk => ?_) h
          have := ih (.ops al rest :: r) Q σ' (by simp only [tsz, XI.sz, List.length_cons] at hn ⊢; omega) (by simp only [List.all_cons, XI.ok, Bool.and_eq_true]; exact ⟨⟨hal, hok.1.2.2⟩, hok.2⟩) hx G' a' w' hk
          simpa only [kq] using this
      | code c =>
        cases c with
        | skip =>
          rw [xt] at h
          simp only [kq]
          exact wpIn_skip (ih r Q σ (by simp only [tsz, XI.sz, csz] at hn; omega) hok.2 h G a w k)
        | seq x y =>
          rw [xt] at h
          simp only [kq]
          simp only [XI.ok, codeOk, Bool.and_eq_true] at hok
          have := ih (.code x :: .code y :: r) Q σ (by simp only [tsz, XI.sz, csz] at hn ⊢; omega) (by simp only [List.all_cons, XI.ok, Bool.and_eq_true]; exact ⟨hok.1.1, hok.1.2, hok.2⟩) h G a w k
          simp only [kq] at this
          refine wpIn_seq (wpIn_mono this fun e a w hq => ?_)
          cases e <;> exact hq
        | cond c x y =>
          rw [xt] at h
          simp only [kq]
          simp only [XI.ok, codeOk, Bool.and_eq_true] at hok
          obtain ⟨t, ht, hx, hy⟩ := h
          have hr := k.ev c
          rw [ht] at hr
          have hv := hr.sc_inv
          refine wpIn_cond hv ?_
          cases t with
          | true =>
            have := ih (.code x :: r) Q σ (by simp only [tsz, XI.sz, csz] at hn ⊢; omega) (by simp only [List.all_cons, XI.ok, Bool.and_eq_true]; exact ⟨hok.1.1, hok.2⟩) (hx rfl) G a w k
            simpa only [kq, if_true] using this
          | false =>
            have := ih (.code y :: r) Q σ (by simp only [tsz, XI.sz, csz] at hn ⊢; omega) (by simp only [List.all_cons, XI.ok, Bool.and_eq_true]; exact ⟨hok.1.2, hok.2⟩) (hy rfl) G a w k
            simpa only [kq, Bool.false_eq_true, if_false] using this
        | block id c =>
          rw [xt] at h
          simp only [kq]
          simp only [XI.ok, codeOk] at hok
          have := ih (.code c :: .inB id :: r) Q σ (by simp only [tsz, XI.sz, csz] at hn ⊢; omega) (by simp only [List.all_cons, XI.ok, Bool.and_eq_true]; exact ⟨hok.1, trivial, hok.2⟩) h G a w k
          simp only [kq] at this
          refine wpIn_block (wpIn_mono this fun e a w hq => ?_)
          cases e with
          | exit id' =>
            simp only [Exit.inBlock]
            simp only at hq
            by_cases e : id' = id
            · simpa [e] using hq
            · simpa [e] using hq
          | _ => exact hq
        | exit id =>
          rw [xt] at h
          simp only [kq]
          refine wpIn_exit ?_
          split at h
          · rename_i k' hp
            rw [kq_exit_some hp]
            have hsz := popExit_sz hp
            exact ih k' Q σ (by simp only [tsz, XI.sz, csz] at hn; omega) (popExit_ok hp hok.2) h G a w k
          · rename_i hp
            rw [kq_exit_none hp]
            exact ⟨σ, G, h, k⟩
        | ret =>
          rw [xt] at h
          simp only [kq]
          refine wpIn_ret ?_
          rw [kq_other (by simp) (by simp)]
          exact ⟨σ, G, h, k⟩
        | label l' =>
          rw [xt] at h
          simp only [kq]
          exact wpIn_label (ih r Q σ (by simp only [tsz, XI.sz, csz] at hn; omega) hok.2 h G a w k)
        | region id ops draw =>
          cases draw with
          | true =>
            rw [xt] at h
            simp only [kq]
            simp only [XI.ok, codeOk] at hok
            obtain ⟨L, hd, hx⟩ := h
            refine draw_sound hm hok.1 hd k hx fun σ' G' A a' w' hA hK k' => ?_
            have hsz : σ.next + ops.size = ({ σ' with next := σ.next + ops.size } : AS).next := rfl
            have k2 : Ok C O l G' { σ' with next := σ.next + ops.size } a' w' := (k'.wide hA).next _
            exact ih r Q _ (by simp only [tsz, XI.sz, csz] at hn; omega) hok.2 hK G' a' w' k2
          | false =>
            rw [xt] at h
            simp only [kq]
            simp only [XI.ok, codeOk] at hok
            have := ih (.ops ops ops.toList :: r) Q σ (by simp only [tsz, XI.sz, csz, Array.length_toList] at hn ⊢; omega) (by simp only [List.all_cons, XI.ok, Bool.and_eq_true]; exact ⟨⟨hok.1, hok.1⟩, hok.2⟩) h G a w k
            simp only [kq] at this
            exact wpIn_region_list this
        | loop c =>
          rw [xt] at h
          simp only [kq]
          simp only [XI.ok, codeOk] at hok
          obtain ⟨m, hx⟩ := h
          let Kq : Exit → AS → Prop := fun e σ' => match e with
            | .exit id => (match hp : popExit id r with
              | some k' => xt C Q k' σ'
              | none => Q (.exit id) σ')
            | e => Q e σ'
          let J : Nat → Act → World → Prop := fun m a w => ∃ σ G, XLoopN (fun Q' σ' => xt C Q' [.code c] σ') Kq m σ ∧ Ok C O l G σ a w
          have hJ : ∃ m, J m a w := ⟨m, σ, G, hx, k⟩
          have hmono : ∀ (a : Act) (w : World), (∃ m, J m a w) → ∃ m, J m a w ∧ ∀ m', J m' a w → m ≤ m' := by
            intro a w hex
            obtain ⟨m, hm⟩ := hex
            induction m using Nat.strongRecOn with
            | _ m ihm =>
              by_cases hlt : ∃ m', m' < m ∧ J m' a w
              · obtain ⟨m', h1, h2⟩ := hlt; exact ihm m' h1 h2
              · exact ⟨m, hm, fun m' h' => by
                  rcases Nat.lt_or_ge m' m with q | q
                  · exact absurd ⟨m', q, h'⟩ hlt
                  · exact q⟩
          let μ : Act → World → Nat := fun a w => @dite Nat (∃ m, J m a w) (Classical.propDecidable _) (fun hex => Classical.choose (hmono a w hex)) (fun _ => 0)
          have hμ : ∀ a w m, J m a w → μ a w ≤ m ∧ J (μ a w) a w := by
            intro a w m hj
            have hex : ∃ m, J m a w := ⟨m, hj⟩
            have e : μ a w = Classical.choose (hmono a w hex) := by simp only [μ, hex, dif_pos]
            have hs := Classical.choose_spec (hmono a w hex)
            rw [e]
            exact ⟨hs.2 m hj, hs.1⟩
          refine wpIn_loop (fun a w => ∃ m, J m a w) μ hJ (fun a w hI => ?_)
          obtain ⟨m, hm0⟩ := hI
          obtain ⟨_, σ1, G1, hx1, k1⟩ := hμ a w m hm0
          cases hmu : μ a w with
          | zero => rw [hmu] at hx1; exact hx1.elim
          | succ m1 =>
            rw [hmu] at hx1
            simp only [XLoopN] at hx1
            have := ih [.code c] _ σ1 (by simp only [tsz, XI.sz, csz] at hn ⊢; omega) (by simpa [XI.ok] using hok.1) hx1 G1 a w k1
            simp only [kq] at this
            refine wpIn_mono this fun e a' w' hq => ?_
            obtain ⟨σ2, G2, hq2, k2⟩ := hq
            cases e with
            | normal =>
              have hj : J m1 a' w' := ⟨σ2, G2, hq2, k2⟩
              exact ⟨⟨m1, hj⟩, by have := (hμ a' w' m1 hj).1; omega⟩
            | exit id =>
              simp only [Exit.then]
              simp only [Kq] at hq2
              split at hq2
              · rename_i k' hp
                rw [kq_exit_some hp]
                have hsz := popExit_sz hp
                exact ih k' Q σ2 (by simp only [tsz, XI.sz, csz] at hn; omega) (popExit_ok hp hok.2) hq2 G2 a' w' k2
              · rename_i hp
                rw [kq_exit_none hp]
                exact ⟨σ2, G2, hq2, k2⟩
            | goto t => simp only [Exit.then]; rw [kq_other (by simp) (by simp)]; exact ⟨σ2, G2, hq2, k2⟩
            | ret => simp only [Exit.then]; rw [kq_other (by simp) (by simp)]; exact ⟨σ2, G2, hq2, k2⟩
            | panic ch => simp only [Exit.then]; rw [kq_other (by simp) (by simp)]; exact ⟨σ2, G2, hq2, k2⟩
            | outgrown => simp only [Exit.then]; rw [kq_other (by simp) (by simp)]; exact ⟨σ2, G2, hq2, k2⟩
        | goto l' => rw [xt] at h; exact h.elim
        | scope b => rw [xt] at h; exact h.elim
        | refuse s => rw [xt] at h; exact h.elim
        | rangeFunc f ps x y =>
          rw [xt] at h
          simp only [kq]
          obtain ⟨h1, g, caps, hf, hc⟩ := h
          refine range_sound (X := fun j σ' => match j with
              | none => xt C Q r σ'
              | some .ret => Q .ret σ'
              | some (.exit i) => (match hp : popExit i r with
                | some k' => xt C Q k' σ'
                | none => Q (.exit i) σ')
              | _ => False) k h1 hf (hc.mono fun v h' nx' hq => ?_) (fun j σ' G' a' w' hx k' => ?_)
          · obtain ⟨r', h2, h3, h4⟩ := hq
            refine ⟨r', h2, h3, ?_⟩
            cases hp : r'.pend with
            | none => rw [hp] at h4; exact h4
            | some c => rw [hp] at h4; cases c <;> exact h4
          · cases j with
            | none =>
              simp only at hx ⊢
              exact ih r Q σ' (by simp only [tsz, XI.sz, csz] at hn; omega) hok.2 hx G' a' w' k'
            | some c =>
              cases c <;> try exact hx.elim
              · simp only at hx ⊢
                refine wpIn_exit ?_
                split at hx
                · rename_i k2 hp
                  rw [kq_exit_some hp]
                  have hsz := popExit_sz hp
                  exact ih k2 Q σ' (by simp only [tsz, XI.sz, csz] at hn; omega) (popExit_ok hp hok.2) hx G' a' w' k'
                · rename_i hp
                  rw [kq_exit_none hp]
                  exact ⟨σ', G', hx, k'⟩
              · simp only at hx ⊢
                refine wpIn_ret ?_
                rw [kq_other (by simp) (by simp)]
                exact ⟨σ', G', hx, k'⟩
end
end Go.Abs
