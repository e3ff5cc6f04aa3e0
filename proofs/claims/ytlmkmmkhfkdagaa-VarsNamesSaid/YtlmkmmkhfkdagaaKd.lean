/- The abstract layer: what is shown by content the machine does; the equations of a walk. -/
import Derived.Test.YtlmkmmkhfkdagaaKc
import Derived.RangeFuncRecord

/- The abstract layer, part Q: what is shown by content, the machine does. -/
set_option linter.unusedVariables false
set_option linter.unusedSimpArgs false
namespace Go.Abs
open Go.RowKit

def codeOk (nt : Nat) : Code → Bool
  | .seq a b => codeOk nt a && codeOk nt b
  | .cond _ a b => codeOk nt a && codeOk nt b
  | .block _ c => codeOk nt c
  | .loop c => codeOk nt c
  | .region _ ops _ => ops.toList.all (opOk nt)
  | .rangeFunc _ ps a b => ps.toList.all (fun p => decide (p < nt)) && codeOk nt a && codeOk nt b
  | .scope b => codeOk nt b
  | _ => true

def XI.ok (nt : Nat) : XI → Bool
  | .code c => codeOk nt c
  | .ops all l => all.toList.all (opOk nt) && l.all (opOk nt)
  | .inB _ => true

theorem popExit_ok {nt id : Nat} : ∀ {k k' : List XI}, popExit id k = some k' → k.all (XI.ok nt) = true → k'.all (XI.ok nt) = true
  | [], k', h, _ => by simp [popExit] at h
  | .inB i :: k, k', h, ho => by
    simp only [popExit] at h
    simp only [List.all_cons, Bool.and_eq_true] at ho
    split at h
    · cases h; exact ho.2
    · exact popExit_ok h ho.2
  | .code c :: k, k', h, ho => by
    simp only [List.all_cons, Bool.and_eq_true] at ho
    exact popExit_ok (by simpa [popExit] using h) ho.2
  | .ops a l :: k, k', h, ho => by
    simp only [List.all_cons, Bool.and_eq_true] at ho
    exact popExit_ok (by simpa [popExit] using h) ho.2

section
variable {C : Ctx} {O : Orig} {l : Option Nat}

/-- The machine's post of an abstract one. -/
def QM (C : Ctx) (O : Orig) (l : Option Nat) (Q : Exit → AS → Prop) (e : Exit) (a : Act) (w : World) : Prop := ∃ σ' G', Q e σ' ∧ Ok C O l G' σ' a w

theorem okPut {G : Gh} {σ : AS} {a : Act} {w : World} (k : Ok C O l G σ a w) {d : Option Tmp} {v : AV} {x : Value} (hd : ∀ t, d = some t → t < C.nt) (r : Rel G w (below σ.next) σ.heap v x) : Ok C O l G (σ.put d v) (a.put d x) w := by
  have := OkA.put k hd r
  cases d <;> exact this

/-- One operation that is carried out. -/
theorem op_sound {o : Oper} {G : Gh} {σ : AS} {a : Act} {w : World} (k : Ok C O l G σ a w) (hok : opOk C.nt o = true) {X : AS → Prop} {K : Act → World → Prop} {Q' : Exit → Act → World → Prop}
    (hK : ∀ σ' G' a' w', X σ' → Ok C O l G' σ' a' w' → K a' w')
    (h : match callOf o.op with
      | some (f, args) => ACallV C.P (σ.ev f) (args.map σ.ev) σ.heap σ.next (fun r h' nx' => X { (σ.put o.dst r) with heap := h', next := nx' })
      | none => match nilCmp C.P o.op with
        | some (n, x) => ∃ ls, elems σ.heap (σ.ev x) = some ls ∧ ∀ b : Bool, (ls ≠ [] → b = false) → X (σ.put o.dst (.sc (.bool (b != n))))
        | none => ∃ r, opX C.P σ.heap σ.next σ.ev o.op = some r ∧ X (σ.next' o.dst r)) : o.wpIn (Fw l) 0 C.P a w K Q' := by
  refine ⟨fun _ _ => trivial, ?_⟩
  cases hc : callOf o.op with
  | some fa =>
    obtain ⟨f, args⟩ := fa
    simp only [hc] at h
    obtain ⟨args', tys, ho, rfl⟩ : ∃ args' tys, o.op = .call { callee := .value f, args := args', argTypes := tys } ∧ args = args'.toList := by
      unfold callOf at hc
      split at hc
      · rename_i f' a' t' heq
        cases hc
        exact ⟨_, _, heq, rfl⟩
      · cases hc
    have hsem : o.semAt (Fw l).round a.eval = execOp a.eval o := Oper.semAt_eq _ _ _ (fun c => by rw [ho]; simp)
    have hrs : Rels G w (below σ.next) σ.heap (args'.toList.map σ.ev) (args'.toList.map a.eval) := by
      rw [rels_iff]
      refine ⟨by simp, fun j c v hj hv => ?_⟩
      simp only [List.getElem?_map] at hj hv
      cases hq : args'.toList[j]? with
      | none => simp [hq] at hj
      | some q =>
        simp only [hq, Option.map_some, Option.some.injEq] at hj hv
        subst hj
        subst hv
        exact k.ev q
    have hcall := h G w (a.eval f) _ k.sat (k.ev f) hrs
    have harr : (args'.toList.map a.eval).toArray = args'.map a.eval := by apply Array.ext'; simp
    rw [harr] at hcall
    have hexec : (execOp a.eval o).run C.P w = (do let d ← Deferred.ofValue (a.eval f) (args'.map a.eval); invoke d.target d.args : Sem Next).run C.P w := by
      simp only [execOp, ho]
      exact run_call
    have fin : ∀ e w', Left G w σ.heap σ.next (fun r h' nx' => X { (σ.put o.dst r) with heap := h', next := nx' }) e w' → (match e, w' with
        | .returned v, w' => K (a.put o.dst v) w'
        | .panicked chain, w' => Q' (.panic chain) a w'
        | .outgrown, _ => LetsOut Q') := by
      intro e w' hl
      obtain ⟨v, r, h', nx', G', rfl, hX, S', E', R'⟩ := hl
      exact hK _ G' _ _ hX (k.step (opOk_dst hok) S' E' R' _)
    rw [hsem, hexec]
    rcases hcall with ⟨g, as, h1, h2⟩ | ⟨l', g, tmps, as, body, h1, h2⟩
    · rw [h1]
      refine ⟨fun hd => by simp [Fw, Fence.wide] at hd, ?_⟩
      have h3 := callsIn_wide (n := 0) |>.2 h2
      exact CallsIn.mono (F := Fw l) h3 (fun e w' hl => fin e w' hl)
    · rw [h1]
      refine ⟨fun hd => by simp [Fw, Fence.wide] at hd, ?_⟩
      exact RoundIn.mono (F := Fw l) h2 (fun e w' hl => fin e w' hl)
  | none =>
    simp only [hc] at h
    cases hn : nilCmp C.P o.op with
    | some nx =>
      obtain ⟨n, x⟩ := nx
      simp only [hn] at h
      obtain ⟨ls, hls, hb⟩ := h
      obtain ⟨op, t, yt, ho, ti, hti, hel, hop⟩ : ∃ op t yt, o.op = .binOp op t x (.const (.slice none 0 0)) yt ∧ ∃ ti, tiOf C.P t = some ti ∧ ti.elem.isSome = true ∧ ((op = .eql ∧ n = false) ∨ (op = .neq ∧ n = true)) := by
        unfold nilCmp at hn
        split at hn
        · rename_i op t x' yt heq
          split at hn
          · rename_i ti hti
            split at hn
            · rename_i hel
              cases op <;> simp at hn
              · obtain ⟨rfl, rfl⟩ := hn; exact ⟨_, _, _, heq, ti, hti, hel, .inl ⟨rfl, rfl⟩⟩
              · obtain ⟨rfl, rfl⟩ := hn; exact ⟨_, _, _, heq, ti, hti, hel, .inr ⟨rfl, rfl⟩⟩
            · cases hn
          · cases hn
        · cases hn
      have hsem : o.semAt (Fw l).round a.eval = execOp a.eval o := Oper.semAt_eq _ _ _ (fun c => by rw [ho]; simp)
      obtain ⟨bb, cap, hx, _⟩ := elems_len k.sat (k.ev x) hls
      obtain ⟨i, d, hi, hd, _, _, _, _, hels, _⟩ := tiOf_parts hti
      obtain ⟨e, he⟩ := Option.isSome_iff_exists.1 hel
      obtain rfl := hels e he
      have heq : ∀ dd, (Op.equalIn (dd + 1) t (.slice bb ls.length cap) (.slice none 0 0)).run C.P w = .ok bb.isNone w := by
        intro dd
        cases bb <;> simp [Op.equalIn, run_underlying hd]
      have hbn : ls ≠ [] → bb.isNone = false := by
        intro hne
        have hr := k.ev x
        rw [hx] at hr
        cases hb : bb with
        | some _ => rfl
        | none =>
          exfalso
          subst hb
          have hlen : ls.length ≠ 0 := fun e => hne (List.eq_nil_of_length_eq_zero e)
          unfold elems at hls
          split at hls
          · cases hls; exact hne rfl
          · rename_i sz l0 hev
            cases hls
            rw [hev] at hr
            rcases hr.lst_inv with ⟨rfl, _⟩ | ⟨b, off, cap', f, hx', _⟩
            · exact hne rfl
            · cases hx'
          · rename_i id g lo hev
            rw [hev] at hr
            split at hls
            · rename_i g' sz L hlk
              split at hls
              · rename_i hg
                cases hls
                obtain ⟨_, _, ho⟩ := hr.own_inv
                obtain ⟨hlo, hnn, b0, hx', hb0⟩ := (ho _ _ _ hlk).2 hg
                injection hx' with e1 e2 e3
                subst e1
                rw [List.length_drop] at hlen
                have h8 := hb0 (by omega)
                rcases (k.sat.obj _ _ hlk).2 with ⟨rfl, _, _⟩ | ⟨b', o', T, vs, hloc, _⟩
                · simp at hlen
                · rw [hloc] at h8; cases h8
              · cases hls
            · cases hls
          · cases hls
      have hexec : (execOp a.eval o).run C.P w = .ok (.value (.bool (bb.isNone != n))) w := by
        simp only [execOp, ho, Sem.run_bind]
        have hg : (eqGuard op t x (.const (.slice none 0 0)) (a.eval x) (a.eval (.const (.slice none 0 0)))).run C.P w = .ok () w := by
          rw [hx]
          exact eqGuard_other (by simp) (by simp)
        rw [hg]
        simp only [Result.andThen_ok, hx]
        have he2 : (Op.equal t (.slice bb ls.length cap) (.slice none 0 0)).run C.P w = .ok bb.isNone w := heq 9999
        rcases hop with ⟨rfl, rfl⟩ | ⟨rfl, rfl⟩
        · have : binOp .eql t (.slice bb ls.length cap) (a.eval (.const (.slice none 0 0))) = (do pure (.bool (← Op.equal t (.slice bb ls.length cap) (.slice none 0 0)))) := rfl
          rw [this]
          simp [he2]
        · have : binOp .neq t (.slice bb ls.length cap) (a.eval (.const (.slice none 0 0))) = (do pure (.bool (!(← Op.equal t (.slice bb ls.length cap) (.slice none 0 0))))) := rfl
          rw [this]
          simp [he2]
      rw [hsem, hexec]
      exact hK _ G _ _ (hb bb.isNone hbn) (okPut k (opOk_dst hok) (.sc ..))
    | none =>
      simp only [hn] at h
      obtain ⟨⟨v, h', fr⟩, hop, hX⟩ := h
      have hsem : o.semAt (Fw l).round a.eval = execOp a.eval o := Oper.semAt_eq _ _ _ (opX_notDefer hop)
      obtain ⟨n, x, w', G', h1, h2, S', E', R'⟩ := opX_sound k.sat (A' := below (if fr then σ.next + 1 else σ.next)) (by unfold below; omega) k.ev hop (below_succ _ _)
      rw [hsem, h1]
      rcases h2 with rfl | ⟨rfl, rfl⟩
      · exact hK _ G' _ _ hX (k.step (opOk_dst hok) S' E' R' _)
      · exact hK _ G' _ _ hX (k.step (opOk_dst hok) S' E' R' _)

/-- A row of operations, in the order of the text. -/
theorem ops_sound {all : Array Oper} {rest : List Oper} {o : Oper} {G : Gh} {σ : AS} {a : Act} {w : World} (k : Ok C O l G σ a w) (hall : all.toList.all (opOk C.nt) = true) (hok : opOk C.nt o = true) {X : AS → Prop} {K : Exit → Act → World → Prop}
    (hK : ∀ σ' G' a' w', X σ' → Ok C O l G' σ' a' w' → wpListIn (Fw l) 0 C.P all K rest a' w')
    (h : ∃ t : Bool, (match o.guard with | none => t = true | some (j, want) => gdOk (gv all σ j) want t) ∧
      (t = false → X (σ.put o.dst (.sc undef))) ∧
      (t = true → match callOf o.op with
        | some (f, args) => ACallV C.P (σ.ev f) (args.map σ.ev) σ.heap σ.next (fun r h' nx' => X { (σ.put o.dst r) with heap := h', next := nx' })
        | none => match nilCmp C.P o.op with
          | some (n, x) => ∃ ls, elems σ.heap (σ.ev x) = some ls ∧ ∀ b : Bool, (ls ≠ [] → b = false) → X (σ.put o.dst (.sc (.bool (b != n))))
          | none => ∃ r, opX C.P σ.heap σ.next σ.ev o.op = some r ∧ X (σ.next' o.dst r))) : wpListIn (Fw l) 0 C.P all K (o :: rest) a w := by
  obtain ⟨t, hg, h1, h2⟩ := h
  have hw : Region.wanted o (yielded all a.tmps) = t := by
    unfold Region.wanted
    cases hgd : o.guard with
    | none => rw [hgd] at hg; exact hg.symm
    | some jw =>
      obtain ⟨j, want⟩ := jw
      rw [hgd] at hg
      rcases hg with ⟨b, hb, ht⟩ | ⟨hb, ht⟩
      · simp only
        rw [gv_sound k hall hb, ht]
        cases b <;> cases want <;> rfl
      · simp only
        rw [gv_undef k hb, ht]
        rfl
  simp only [wpListIn, hw]
  cases t with
  | true =>
    simp only [if_true]
    exact op_sound k hok (X := X) (fun σ' G' a' w' hx hk => hK σ' G' a' w' hx hk) (h2 rfl)
  | false =>
    simp only [Bool.false_eq_true, if_false]
    exact ⟨fun _ _ => trivial, hK _ _ _ _ (h1 rfl) (okPut k (opOk_dst hok) (.sc ..))⟩

/-! ### A range over a function -/

theorem run_enterLoop_in {l0 : Nat} {r0 : Loop} {w : World} {P : Program} (h : w.heap[l0]? = some (.loop r0)) (fn : FuncId) (tmps : Array Value) (ps : Array Tmp) (assign body : Code) :
    (Instr.enterLoop fn tmps ps assign body (some l0)).run P w =
      .ok (w.heap.size, []) (w.alloc (.loop { state := .ready, pending := none, fn, tmps, params := ps, assign, body, defers := r0.defers })) := by
  unfold Instr.enterLoop
  simp only [Sem.run_bind, run_getLoop h, run_newObj_alloc, Result.andThen, Sem.run_pure]

/-- A new object that values lead to by its block. -/
theorem new_at {G : Gh} {w : World} {A A' : Nat → Prop} {h : Heap} (S : SatH G w A h) {id : Nat} (hA : ¬ A id) (hA' : ∀ j, A' j ↔ A j ∨ j = id) {o : AObj} {ob : Obj}
    (ho : Compat G w (G.put id (some ⟨w.heap.size, 0, none⟩) 0) (w.alloc ob) A h A' (hc id o h) → RelO (G.put id (some ⟨w.heap.size, 0, none⟩) 0) (w.alloc ob) A' (hc id o h) id o) :
    SatH (G.put id (some ⟨w.heap.size, 0, none⟩) 0) (w.alloc ob) A' (hc id o h) ∧ Evo G w A h (G.put id (some ⟨w.heap.size, 0, none⟩) 0) (w.alloc ob) A' (hc id o h) :=
  new_obj S hA hA' rfl rfl rfl (by simp) (fun b hb => Below.heap_alloc w _ b hb) (fun a ha => by cases ha; simp) ho

/-- The loop's record laid. -/
theorem loop_new {G : Gh} {w : World} {A A' : Nat → Prop} {h : Heap} (S : SatH G w A h) {id : Nat} (hA : ¬ A id) (hA' : ∀ j, A' j ↔ A j ∨ j = id) {T : Tab AV} {tv : Array Value} {nt : Nat} (hsz : tv.size = nt) (ht : ∀ t v, look t T = some v → Rel G w A h v (tv.getD t undef))
    (ps : Array Tmp) (as body : Code) (fn : FuncId) (d : Nat) : ∃ G', SatH G' (w.alloc (.loop { state := .ready, pending := none, fn, tmps := tv, params := ps, assign := as, body, defers := d })) A' (hc id (.loop { st := .ready, pend := none, tmps := T, nt, params := ps, assign := as, body }) h) ∧
      Evo G w A h G' (w.alloc (.loop { state := .ready, pending := none, fn, tmps := tv, params := ps, assign := as, body, defers := d })) A' (hc id (.loop { st := .ready, pend := none, tmps := T, nt, params := ps, assign := as, body }) h) ∧
      Rel G' (w.alloc (.loop { state := .ready, pending := none, fn, tmps := tv, params := ps, assign := as, body, defers := d })) A' (hc id (.loop { st := .ready, pend := none, tmps := T, nt, params := ps, assign := as, body }) h) (.yld id) (.func (.yield w.heap.size) #[] #[]) := by
  obtain ⟨S', E'⟩ := new_at S hA hA' (o := .loop { st := .ready, pend := none, tmps := T, nt, params := ps, assign := as, body }) (ob := .loop { state := .ready, pending := none, fn, tmps := tv, params := ps, assign := as, body, defers := d })
    fun C => ⟨w.heap.size, tv, d, fn, Gh.put_loc_same _ _ _, heap_alloc_at w _, hsz, fun t v hv => (ht t v hv).compat C⟩
  exact ⟨_, S', E', .yld _ _ _ _ ((hA' id).2 (.inr rfl)) rfl fun r _ => ⟨w.heap.size, Gh.put_loc_same _ _ _, rfl⟩⟩

theorem dfr_new {G : Gh} {w : World} {A A' : Nat → Prop} {h : Heap} (S : SatH G w A h) {id : Nat} (hA : ¬ A id) (hA' : ∀ j, A' j ↔ A j ∨ j = id) :
    ∃ G', SatH G' (w.alloc (.deferred (some []))) A' (hc id .dfr h) ∧ Evo G w A h G' (w.alloc (.deferred (some []))) A' (hc id .dfr h) ∧ Rel G' (w.alloc (.deferred (some []))) A' (hc id .dfr h) (.mrk id) (.chan (some w.heap.size)) := by
  obtain ⟨S', E'⟩ := new_at S hA hA' (o := .dfr) (ob := .deferred (some [])) fun C => ⟨w.heap.size, Gh.put_loc_same _ _ _, heap_alloc_at w _⟩
  exact ⟨_, S', E', .mrk _ _ _ _ ((hA' id).2 (.inr rfl)) rfl fun _ => ⟨w.heap.size, Gh.put_loc_same _ _ _, rfl⟩⟩

/-- The record turned. -/
theorem loop_turn {G : Gh} {w : World} {A : Nat → Prop} {h : Heap} (S : SatH G w A h) {id : Nat} {r : ALoop} (hl : look id h = some (.loop r)) {l0 : Nat} (ry : Rel G w A h (.yld id) (.func (.yield l0) #[] #[])) (st : LoopState) (pend : Option Code) :
    ∃ L : Loop, w.heap[l0]? = some (.loop L) ∧ L.state = r.st ∧ L.pending = r.pend ∧ L.params = r.params ∧ L.assign = r.assign ∧ L.body = r.body ∧ L.tmps.size = r.nt ∧ (∀ t v, look t r.tmps = some v → Rel G w A h v (L.tmps.getD t undef)) ∧
      SatH G (w.putObj l0 (.loop { L with state := st, pending := pend })) A (upd id (.loop { r with st := st, pend := pend }) h) ∧
      Evo G w A h G (w.putObj l0 (.loop { L with state := st, pending := pend })) A (upd id (.loop { r with st := st, pend := pend }) h) := by
  obtain ⟨b, hloc, he⟩ := ry.yld_inv.2.2 r hl
  cases he
  obtain ⟨_, b', tv, d, fn, hloc', hb, hsz, ht⟩ := S.obj _ _ hl
  rw [hloc] at hloc'
  cases hloc'
  refine ⟨_, hb, rfl, rfl, rfl, rfl, rfl, hsz, ht, ?_⟩
  have hlt : l0 < w.heap.size := (Array.getElem?_eq_some_iff.1 hb).1
  refine upd_obj S hl hloc rfl rfl rfl (by simp) (fun j hj => World.putObj_heap_other hj) rfl fun C => ⟨l0, tv, d, fn, hloc, World.putObj_heap_same hlt, hsz, fun t v hv => (ht t v hv).compat C⟩

theorem range_sound {G : Gh} {σ : AS} {a : Act} {w : World} (k : Ok C O l G σ a w) {f : Operand} {ps : Array Tmp} {as body : Code} {Q : Exit → Act → World → Prop} {X : Option Code → AS → Prop}
    (hr : ∀ r, C.rid = some r → ∃ rr, look r σ.heap = some (.loop rr)) {g : FuncId} {caps : List AV} (hf : σ.ev f = .fn (.func g) caps)
    (hcl : ACall C.P g (.yld (rangeIn C σ ps as body).1 :: caps) (rangeIn C σ ps as body).2.heap (rangeIn C σ ps as body).2.next (fun _ h' nx' =>
      ∃ r', look (rangeIn C σ ps as body).1 h' = some (.loop r') ∧ r'.st ≠ .busy ∧ X r'.pend (rangeOut (rangeIn C σ ps as body).2 (rangeIn C σ ps as body).1 r' h' nx')))
    (hX : ∀ j σ' G' a' w', X j σ' → Ok C O l G' σ' a' w' → (match j with
      | none => Q .normal a' w'
      | some c => c.wpIn (Fw l) 0 C.P Q a' w')) : (Code.rangeFunc f ps as body).wpIn (Fw l) 0 C.P Q a w := by
  refine wpIn_rangeFunc fun fn _ => ?_
  -- the loop entered
  have enter : ∃ l1 mark w1 G1, (Instr.enterLoop fn a.tmps ps as body (Fw l).round).run C.P w = .ok (l1, mark) w1 ∧ Ok C O l G1 (rangeIn C σ ps as body).2 { a with defers := mark ++ a.defers } w1 ∧
      Rel G1 w1 (below (rangeIn C σ ps as body).2.next) (rangeIn C σ ps as body).2.heap (.yld (rangeIn C σ ps as body).1) (.func (.yield l1) #[] #[]) ∧ Rel G1 w1 (below (rangeIn C σ ps as body).2.next) (rangeIn C σ ps as body).2.heap (σ.ev f) (a.eval f) := by
    cases hrid : C.rid with
    | none =>
      have hl := k.nornd hrid
      subst hl
      obtain ⟨G1, S1, E1, R1⟩ := dfr_new k.sat (id := σ.next) (A' := below (σ.next + 1)) (by unfold below; omega) (by unfold below; omega)
      obtain ⟨G2, S2, E2, R2⟩ := loop_new S1 (id := σ.next + 1) (A' := below (σ.next + 2)) (by unfold below; omega) (by unfold below; omega) (T := σ.tmps) (tv := a.tmps) (nt := C.nt) k.size (fun t v hv => E1.rel _ _ (k.tmps t v hv)) ps as body fn w.heap.size
      have hrun := run_enterLoop_outer (P := C.P) (w := w) fn a.tmps ps as body
      have e : rangeIn C σ ps as body = (σ.next + 1, { σ with heap := hc (σ.next + 1) (.loop (loopRec C σ ps as body)) (hc σ.next .dfr σ.heap), next := σ.next + 2, marks := σ.next :: σ.marks }) := by simp only [rangeIn, hrid]
      rw [e]
      refine ⟨_, _, _, G2, hrun, ?_, by rw [World.size_alloc] at R2; exact R2, E2.rel _ _ (E1.rel _ _ (k.ev f))⟩
      have E := E1.trans E2
      refine ⟨S2, fun t v hv => E.rel _ _ (k.tmps t v hv), k.size, ?_, k.evo.trans E, fun r h => (by rw [hrid] at h; cases h), fun _ => rfl⟩
      obtain ⟨bs, h1, h2, h3⟩ := k.defers
      refine ⟨w.heap.size :: bs, by simp [h1], by simp [h2], fun j id b hj hb => ?_⟩
      cases j with
      | zero => simp at hj hb; subst hj; subst hb; exact E2.rel _ _ R1
      | succ j => exact E.rel _ _ (h3 j id b (by simpa using hj) (by simpa using hb))
    | some r =>
      obtain ⟨l0, rfl, ry⟩ := k.rnd r hrid
      obtain ⟨rr, hrr⟩ := hr r hrid
      obtain ⟨L, hL, _⟩ := loop_turn k.sat hrr ry .ready none
      obtain ⟨G2, S2, E2, R2⟩ := loop_new k.sat (id := σ.next) (A' := below (σ.next + 1)) (by unfold below; omega) (by unfold below; omega) (T := σ.tmps) (tv := a.tmps) (nt := C.nt) k.size (fun t v hv => k.tmps t v hv) ps as body fn L.defers
      have hrun := run_enterLoop_in (P := C.P) hL fn a.tmps ps as body
      have e : rangeIn C σ ps as body = (σ.next, { σ with heap := hc σ.next (.loop (loopRec C σ ps as body)) σ.heap, next := σ.next + 1 }) := by simp only [rangeIn, hrid]
      rw [e]
      refine ⟨_, _, _, G2, hrun, ?_, R2, E2.rel _ _ (k.ev f)⟩
      refine ⟨S2, fun t v hv => E2.rel _ _ (k.tmps t v hv), k.size, ?_, k.evo.trans E2, fun r' h => ?_, fun h => (by rw [hrid] at h; cases h)⟩
      · obtain ⟨bs, h1, h2, h3⟩ := k.defers
        exact ⟨bs, by simp [h1], h2, fun j id b hj hb => E2.rel _ _ (h3 j id b hj hb)⟩
      · rw [hrid] at h
        cases h
        exact ⟨l0, rfl, E2.rel _ _ ry⟩
  obtain ⟨l1, mark, w1, G1, h1, k1, ry, rf⟩ := enter
  rw [hf] at rf
  obtain ⟨cs, hfe, hcs⟩ := rf.fn_inv
  have hvs : Rels G1 w1 (below (rangeIn C σ ps as body).2.next) (rangeIn C σ ps as body).2.heap (.yld (rangeIn C σ ps as body).1 :: caps) (.func (.yield l1) #[] #[] :: cs) :=
    ⟨by simp [hcs.1], fun j c hj => by
      cases j with
      | zero => simp at hj; subst hj; exact ry
      | succ j => exact hcs.2 j c (by simpa using hj)⟩
  have hcall := hcl.2 G1 w1 _ k1.sat hvs
  refine ⟨l1, mark, w1, { target := .fn (.func g) cs.toArray, args := #[.func (.yield l1) #[] #[]] }, w1, g, (.func (.yield l1) #[] #[] :: cs).toArray, w1, h1, ?_, fun _ _ => trivial, ?_, fun h => by simp [Fw, Fence.wide] at h, ?_⟩
  · simp only [resolve, rangeCall, hfe]
    simp [Deferred.ofValue, Act.eval]
  · simp [invoke, run_callFunc hcl.1]
  · refine CallsIn.mono (F := Fw l) (callsIn_wide (n := 0) |>.2 hcall) fun e w' hl => ?_
    obtain ⟨v, r, h', nx', G', rfl, ⟨r', hr', hst, hx⟩, S', E', R'⟩ := hl
    obtain ⟨L, hL, hLs, hLp, _, _, _, _, _, S2, E2⟩ := loop_turn S' hr' (E'.rel _ _ ry) .exhausted r'.pend
    have hend := run_endLoop (P := C.P) hL (by rw [hLs]; exact hst)
    have hrec : ({ L with state := .exhausted, pending := r'.pend } : Loop) = { L with state := .exhausted } := by rw [← hLp]
    rw [hrec] at S2 E2
    have E := E'.trans E2
    have k2 : Ok C O l G' (rangeOut (rangeIn C σ ps as body).2 (rangeIn C σ ps as body).1 r' h' nx') { a with defers := mark ++ a.defers } (w'.putObj l1 (.loop { L with state := .exhausted })) := by
      refine ⟨S2, fun t v hv => E.rel _ _ (k1.tmps t v hv), k1.size, ?_, k1.evo.trans E, fun r'' h => ?_, k1.nornd⟩
      · obtain ⟨bs, h5, h6, h7⟩ := k1.defers
        exact ⟨bs, h5, h6, fun j id b hj hb => E.rel _ _ (h7 j id b hj hb)⟩
      · obtain ⟨l0, h5, h6⟩ := k1.rnd r'' h
        exact ⟨l0, h5, E.rel _ _ h6⟩
    refine ⟨L.pending, _, hend, ?_⟩
    have h9 := hX r'.pend _ G' _ _ hx k2
    have hgo : ∀ j : Option Code, j = r'.pend → (match j with
      | none => Q .normal { a with defers := mark ++ a.defers } (w'.putObj l1 (.loop { L with state := .exhausted }))
      | some c => c.wpIn (Fw l) 0 C.P Q { a with defers := mark ++ a.defers } (w'.putObj l1 (.loop { L with state := .exhausted }))) := fun j hj => by rw [hj]; exact h9
    exact hgo _ hLp

theorem xt_sound (hm : C.P.follows .mixedOrders = true) : ∀ (n : Nat) (todo : List XI) (Q : Exit → AS → Prop) (σ : AS), tsz todo ≤ n → todo.all (XI.ok C.nt) = true → xt C Q todo σ → ∀ G a w, Ok C O l G σ a w →
    kq (Fw l) C.P (QM C O l Q) todo .normal a w := by
  intro n
  induction n with
  | zero =>
    intro todo Q σ hn hok h G a w k
    cases todo with
    | nil => rw [xt] at h; exact ⟨σ, G, h, k⟩
    | cons x r =>
      exfalso
      cases x with
      | code c => have := csz_pos c; simp only [tsz, XI.sz] at hn; omega
      | ops al l' => simp only [tsz, XI.sz] at hn; omega
      | inB i => simp only [tsz, XI.sz] at hn; omega
  | succ n ih =>
    intro todo Q σ hn hok h G a w k
    cases todo with
    | nil => rw [xt] at h; exact ⟨σ, G, h, k⟩
    | cons x r =>
      simp only [List.all_cons, Bool.and_eq_true] at hok
      cases x with
      | inB i =>
        rw [xt] at h
        simp only [kq]
        exact ih r Q σ (by simp only [tsz, XI.sz] at hn; omega) hok.2 h G a w k
      | ops al l' =>
        simp only [XI.ok, Bool.and_eq_true] at hok
        have hal := hok.1.1
        cases l' with
        | nil =>
          rw [xt] at h
          simp only [kq, wpListIn]
          exact ih r Q σ (by simp only [tsz, XI.sz, List.length_nil] at hn; omega) hok.2 h G a w k
        | cons o rest =>
          rw [xt] at h
          simp only [kq]
          simp only [List.all_cons, Bool.and_eq_true] at hok
          refine ops_sound k hal hok.1.2.1 (X := fun σ' => xt C Q (.ops al rest :: r) σ') (fun σ' G' a' w' hx hk => ?_) h
          have := ih (.ops al rest :: r) Q σ' (by simp only [tsz, XI.sz, List.length_cons] at hn ⊢; omega) (by simp only [List.all_cons, XI.ok, Bool.and_eq_true]; exact ⟨⟨hal, hok.1.2.2⟩, hok.2⟩) hx G' a' w' hk
          simpa only [kq] using this
      | code c =>
        cases c with
        | skip =>
          rw [xt] at h
          simp only [kq]
          exact wpIn_skip (ih r Q σ (by simp only [tsz, XI.sz, csz] at hn; omega) hok.2 h G a w k)
        | seq x y =>
          rw [xt] at h
          simp only [kq]
          simp only [XI.ok, codeOk, Bool.and_eq_true] at hok
          have := ih (.code x :: .code y :: r) Q σ (by simp only [tsz, XI.sz, csz] at hn ⊢; omega) (by simp only [List.all_cons, XI.ok, Bool.and_eq_true]; exact ⟨hok.1.1, hok.1.2, hok.2⟩) h G a w k
          simp only [kq] at this
          refine wpIn_seq (wpIn_mono this fun e a w hq => ?_)
          cases e <;> exact hq
        | cond c x y =>
          rw [xt] at h
          simp only [kq]
          simp only [XI.ok, codeOk, Bool.and_eq_true] at hok
          obtain ⟨t, ht, hx, hy⟩ := h
          have hr := k.ev c
          rw [ht] at hr
          have hv := hr.sc_inv
          refine wpIn_cond hv ?_
          cases t with
          | true =>
            have := ih (.code x :: r) Q σ (by simp only [tsz, XI.sz, csz] at hn ⊢; omega) (by simp only [List.all_cons, XI.ok, Bool.and_eq_true]; exact ⟨hok.1.1, hok.2⟩) (hx rfl) G a w k
            simpa only [kq, if_true] using this
          | false =>
            have := ih (.code y :: r) Q σ (by simp only [tsz, XI.sz, csz] at hn ⊢; omega) (by simp only [List.all_cons, XI.ok, Bool.and_eq_true]; exact ⟨hok.1.2, hok.2⟩) (hy rfl) G a w k
            simpa only [kq, Bool.false_eq_true, if_false] using this
        | block id c =>
          rw [xt] at h
          simp only [kq]
          simp only [XI.ok, codeOk] at hok
          have := ih (.code c :: .inB id :: r) Q σ (by simp only [tsz, XI.sz, csz] at hn ⊢; omega) (by simp only [List.all_cons, XI.ok, Bool.and_eq_true]; exact ⟨hok.1, trivial, hok.2⟩) h G a w k
          simp only [kq] at this
          refine wpIn_block (wpIn_mono this fun e a w hq => ?_)
          cases e with
          | exit id' =>
            simp only [Exit.inBlock]
            simp only at hq
            by_cases e : id' = id
            · simpa [e] using hq
            · simpa [e] using hq
          | _ => exact hq
        | exit id =>
          rw [xt] at h
          simp only [kq]
          refine wpIn_exit ?_
          split at h
          · rename_i k' hp
            rw [kq_exit_some hp]
            have hsz := popExit_sz hp
            exact ih k' Q σ (by simp only [tsz, XI.sz, csz] at hn; omega) (popExit_ok hp hok.2) h G a w k
          · rename_i hp
            rw [kq_exit_none hp]
            exact ⟨σ, G, h, k⟩
        | ret =>
          rw [xt] at h
          simp only [kq]
          refine wpIn_ret ?_
          rw [kq_other (by simp) (by simp)]
          exact ⟨σ, G, h, k⟩
        | label l' =>
          rw [xt] at h
          simp only [kq]
          exact wpIn_label (ih r Q σ (by simp only [tsz, XI.sz, csz] at hn; omega) hok.2 h G a w k)
        | region id ops draw =>
          cases draw with
          | true =>
            rw [xt] at h
            simp only [kq]
            simp only [XI.ok, codeOk] at hok
            obtain ⟨L, hd, hx⟩ := h
            refine draw_sound hm hok.1 hd k hx fun σ' G' A a' w' hA hK k' => ?_
            have hsz : σ.next + ops.size = ({ σ' with next := σ.next + ops.size } : AS).next := rfl
            have k2 : Ok C O l G' { σ' with next := σ.next + ops.size } a' w' := (k'.wide hA).next _
            exact ih r Q _ (by simp only [tsz, XI.sz, csz] at hn; omega) hok.2 hK G' a' w' k2
          | false =>
            rw [xt] at h
            simp only [kq]
            simp only [XI.ok, codeOk] at hok
            have := ih (.ops ops ops.toList :: r) Q σ (by simp only [tsz, XI.sz, csz, Array.length_toList] at hn ⊢; omega) (by simp only [List.all_cons, XI.ok, Bool.and_eq_true]; exact ⟨⟨hok.1, hok.1⟩, hok.2⟩) h G a w k
            simp only [kq] at this
            exact wpIn_region_list this
        | loop c =>
          rw [xt] at h
          simp only [kq]
          simp only [XI.ok, codeOk] at hok
          obtain ⟨m, hx⟩ := h
          let Kq : Exit → AS → Prop := fun e σ' => match e with
            | .exit id => (match hp : popExit id r with
              | some k' => xt C Q k' σ'
              | none => Q (.exit id) σ')
            | e => Q e σ'
          let J : Nat → Act → World → Prop := fun m a w => ∃ σ G, XLoopN (fun Q' σ' => xt C Q' [.code c] σ') Kq m σ ∧ Ok C O l G σ a w
          have hJ : ∃ m, J m a w := ⟨m, σ, G, hx, k⟩
          have hmono : ∀ (a : Act) (w : World), (∃ m, J m a w) → ∃ m, J m a w ∧ ∀ m', J m' a w → m ≤ m' := by
            intro a w hex
            obtain ⟨m, hm⟩ := hex
            induction m using Nat.strongRecOn with
            | _ m ihm =>
              by_cases hlt : ∃ m', m' < m ∧ J m' a w
              · obtain ⟨m', h1, h2⟩ := hlt; exact ihm m' h1 h2
              · exact ⟨m, hm, fun m' h' => by
                  rcases Nat.lt_or_ge m' m with q | q
                  · exact absurd ⟨m', q, h'⟩ hlt
                  · exact q⟩
          let μ : Act → World → Nat := fun a w => @dite Nat (∃ m, J m a w) (Classical.propDecidable _) (fun hex => Classical.choose (hmono a w hex)) (fun _ => 0)
          have hμ : ∀ a w m, J m a w → μ a w ≤ m ∧ J (μ a w) a w := by
            intro a w m hj
            have hex : ∃ m, J m a w := ⟨m, hj⟩
            have e : μ a w = Classical.choose (hmono a w hex) := by simp only [μ, hex, dif_pos]
            have hs := Classical.choose_spec (hmono a w hex)
            rw [e]
            exact ⟨hs.2 m hj, hs.1⟩
          refine wpIn_loop (fun a w => ∃ m, J m a w) μ hJ (fun a w hI => ?_)
          obtain ⟨m, hm0⟩ := hI
          obtain ⟨_, σ1, G1, hx1, k1⟩ := hμ a w m hm0
          cases hmu : μ a w with
          | zero => rw [hmu] at hx1; exact hx1.elim
          | succ m1 =>
            rw [hmu] at hx1
            simp only [XLoopN] at hx1
            have := ih [.code c] _ σ1 (by simp only [tsz, XI.sz, csz] at hn ⊢; omega) (by simpa [XI.ok] using hok.1) hx1 G1 a w k1
            simp only [kq] at this
            refine wpIn_mono this fun e a' w' hq => ?_
            obtain ⟨σ2, G2, hq2, k2⟩ := hq
            cases e with
            | normal =>
              have hj : J m1 a' w' := ⟨σ2, G2, hq2, k2⟩
              exact ⟨⟨m1, hj⟩, by have := (hμ a' w' m1 hj).1; omega⟩
            | exit id =>
              simp only [Exit.then]
              simp only [Kq] at hq2
              split at hq2
              · rename_i k' hp
                rw [kq_exit_some hp]
                have hsz := popExit_sz hp
                exact ih k' Q σ2 (by simp only [tsz, XI.sz, csz] at hn; omega) (popExit_ok hp hok.2) hq2 G2 a' w' k2
              · rename_i hp
                rw [kq_exit_none hp]
                exact ⟨σ2, G2, hq2, k2⟩
            | goto t => simp only [Exit.then]; rw [kq_other (by simp) (by simp)]; exact ⟨σ2, G2, hq2, k2⟩
            | ret => simp only [Exit.then]; rw [kq_other (by simp) (by simp)]; exact ⟨σ2, G2, hq2, k2⟩
            | panic ch => simp only [Exit.then]; rw [kq_other (by simp) (by simp)]; exact ⟨σ2, G2, hq2, k2⟩
            | outgrown => simp only [Exit.then]; rw [kq_other (by simp) (by simp)]; exact ⟨σ2, G2, hq2, k2⟩
        | goto l' => rw [xt] at h; exact h.elim
        | scope b => rw [xt] at h; exact h.elim
        | refuse s => rw [xt] at h; exact h.elim
        | rangeFunc f ps x y =>
          rw [xt] at h
          simp only [kq]
          obtain ⟨h1, g, caps, hf, hc⟩ := h
          refine range_sound (X := fun j σ' => match j with
              | none => xt C Q r σ'
              | some .ret => Q .ret σ'
              | some (.exit i) => (match hp : popExit i r with
                | some k' => xt C Q k' σ'
                | none => Q (.exit i) σ')
              | _ => False) k h1 hf (hc.mono fun v h' nx' hq => ?_) (fun j σ' G' a' w' hx k' => ?_)
          · obtain ⟨r', h2, h3, h4⟩ := hq
            refine ⟨r', h2, h3, ?_⟩
            cases hp : r'.pend with
            | none => rw [hp] at h4; exact h4
            | some c => rw [hp] at h4; cases c <;> exact h4
          · cases j with
            | none =>
              simp only at hx ⊢
              exact ih r Q σ' (by simp only [tsz, XI.sz, csz] at hn; omega) hok.2 hx G' a' w' k'
            | some c =>
              cases c <;> try exact hx.elim
              · simp only at hx ⊢
                refine wpIn_exit ?_
                split at hx
                · rename_i k2 hp
                  rw [kq_exit_some hp]
                  have hsz := popExit_sz hp
                  exact ih k2 Q σ' (by simp only [tsz, XI.sz, csz] at hn; omega) (popExit_ok hp hok.2) hx G' a' w' k'
                · rename_i hp
                  rw [kq_exit_none hp]
                  exact ⟨σ', G', hx, k'⟩
              · simp only at hx ⊢
                refine wpIn_ret ?_
                rw [kq_other (by simp) (by simp)]
                exact ⟨σ', G', hx, k'⟩
end
end Go.Abs

/- The abstract layer, part S: a function's contract out of its body. -/
set_option linter.unusedVariables false
set_option linter.unusedSimpArgs false
namespace Go.Abs
open Go.RowKit

section
variable {P : Program} {G : Gh} {w : World} {A : Nat → Prop} {h : Heap}

/-- An object is turned into what the abstract heap does not speak of. -/
theorem kill_obj (S : SatH G w A h) {id : Nat} {o : AObj} (hl : look id h = some o) {a : Addr} (ha : G.loc id = some a) {w' : World}
    (hos : w'.os = w.os) (htp : w'.tape = w.tape) (hout : w'.output = w.output) (hsz : w'.heap.size = w.heap.size)
    (hfr : ∀ b, b ≠ a.block → w'.heap[b]? = w.heap[b]?) : SatH G w' A (del id h) ∧ Evo G w A h G w' A (del id h) := by
  have hz : ∀ b, G.Z b → b ≠ a.block := fun b hb e => S.zdis id o a hl ha (e ▸ hb)
  have hsub : ∀ i o, look i (del id h) = some o → i ≠ id ∧ look i h = some o := fun i o hi => by
    rw [look_del] at hi
    by_cases e : i = id
    · simp [e] at hi
    · simpa [e] using hi
  have C : Compat G w G w' A h A (del id h) := by
    refine ⟨fun _ h => h, cellZ S fun b hb => hfr b (hz b hb), fun _ h => h, fun j hj => ?_⟩
    cases hj : look j (del id h) with
    | none => cases look j h <;> exact trivial
    | some o => rw [(hsub j o hj).2]; exact objCompat_refl _ _
  refine ⟨⟨fun j oj hj => ?_, fun i j oi oj b c hi hj hne hb hc => S.inj i j _ _ _ _ (hsub _ _ hi).2 (hsub _ _ hj).2 hne hb hc, fun i oi b hi hb => S.zdis i _ _ (hsub _ _ hi).2 hb, fun b hb => by rw [hsz]; exact S.zin b hb⟩,
    ⟨hos, htp, hout, by omega, fun b hb hn => hfr b fun e => hn ⟨id, o, a, hl, ha, e.symm⟩, fun b ⟨i, oi, c, hi, r⟩ => .inl ⟨i, oi, c, (hsub _ _ hi).2, r⟩, fun b hb => .inl hb, fun _ h => h, fun v x r => r.compat C⟩⟩
  obtain ⟨hne, hj'⟩ := hsub _ _ hj
  exact ⟨(S.obj _ _ hj').1, (S.obj _ _ hj').2.compat C rfl rfl fun b hb => hfr _ (S.inj j id _ _ _ _ hj' hl hne hb ha)⟩

theorem run_getObj_dfr {b : Nat} {o : Option (List Deferred)} (hh : w.heap[b]? = some (.deferred o)) : (getObj b).run P w = .ok (.deferred o) w := by simp [getObj, Sem.run, hh]
theorem run_setObj_dfr {b : Nat} {o0 : Option (List Deferred)} (hh : w.heap[b]? = some (.deferred o0)) (o : Obj) : (setObj b o).run P w = .ok () { w with heap := w.heap.setIfInBounds b o } := by simp [setObj, Sem.run, hh]

/-- A mark's block is shut. -/
theorem take_mark (S : SatH G w A h) {id b : Nat} (hl : look id h = some .dfr) (r : Rel G w A h (.mrk id) (.chan (some b))) :
    ∃ w', (Instr.takeDeferred b).run P w = .ok [] w' ∧ SatH G w' A (del id h) ∧ Evo G w A h G w' A (del id h) := by
  obtain ⟨b', hloc, he⟩ := r.mrk_inv.2.2 hl
  cases he
  obtain ⟨_, b', hloc', hb⟩ := S.obj _ _ hl
  rw [hloc] at hloc'
  cases hloc'
  refine ⟨{ w with heap := w.heap.setIfInBounds b (.deferred none) }, ?_, kill_obj S hl hloc rfl rfl rfl (by simp) fun j hj => ?_⟩
  · simp only [Instr.takeDeferred, Sem.run_bind, run_getObj_dfr hb, Result.andThen_ok, run_setObj_dfr hb, Sem.run_pure]
  · simp only
    exact Array.getElem?_setIfInBounds_ne (fun e => hj e.symm)
end

/-- The heap without the marks. -/
def dels : List Nat → Heap → Heap
  | [], h => h
  | i :: is, h => dels is (del i h)

/-- Marks that are open. -/
def MarksOk : List Nat → Heap → Prop
  | [], _ => True
  | i :: is, h => look i h = some .dfr ∧ MarksOk is (del i h)

/-- A frame's deferred calls, all of them marks, are taken. -/
theorem marks_leave {P : Program} {F : Fence} {n : Nat} {fn : Func} {tmps : Array Value} {R : Ending → World → Prop} {G : Gh} {A : Nat → Prop} : ∀ (ids bs : List Nat) (h : Heap) (w : World), SatH G w A h → bs.length = ids.length →
    (∀ (j id b : Nat), ids[j]? = some id → bs[j]? = some b → Rel G w A h (.mrk id) (.chan (some b))) → MarksOk ids h →
    (∀ w', SatH G w' A (dels ids h) → Evo G w A h G w' A (dels ids h) → ∃ v, (results fn tmps).run P w' = .ok v w' ∧ R (.returned v) w') →
    LeavesInM F n P fn tmps R (bs.map fun b => { target := .collected b, args := #[] }) .returning w
  | [], bs, h, w, S, hl, _, _, k => by
    cases bs with
    | nil => simp only [List.map_nil, LeavesInM, LeavesIn]; exact k w S (Evo.refl ..)
    | cons b bs => simp at hl
  | id :: ids, bs, h, w, S, hl, hr, hm, k => by
    cases bs with
    | nil => simp at hl
    | cons b bs =>
      simp only [List.map_cons, LeavesInM]
      refine ⟨by simp, .inl ?_⟩
      obtain ⟨w', h1, S', E'⟩ := take_mark (P := P) S hm.1 (hr 0 id b rfl rfl)
      refine ⟨b, w', rfl, h1, marks_leave ids bs (del id h) w' S' (by simpa using hl) (fun j i c hj hc => E'.rel _ _ (hr (j + 1) i c (by simpa using hj) (by simpa using hc))) hm.2 fun w'' S'' E'' => k w'' S'' (E'.trans E'')⟩

/-! ### Results -/

def resA (P : Program) (h : Heap) (σ : AS) : ResultVar → Option AV
  | .tmp t => some (σ.ev (.tmp t))
  | .cell a t => loadA P h t (σ.ev (.tmp a))

def resL (P : Program) (h : Heap) (σ : AS) : List ResultVar → Option (List AV)
  | [] => some []
  | r :: rs => match resA P h σ r, resL P h σ rs with
    | some v, some vs => some (v :: vs)
    | _, _ => none

def resultA (P : Program) (h : Heap) (σ : AS) (rs : List ResultVar) : Option AV := match resL P h σ rs with
  | some [v] => some v
  | some vs => some (.tup vs)
  | none => none

/-- What a body's end must answer. -/
def retQ (P : Program) (rs : List ResultVar) (K : AV → Heap → Nat → Prop) (e : Exit) (σ : AS) : Prop := match e with
  | .normal | .ret => MarksOk σ.marks σ.heap ∧ ∃ v, resultA P (dels σ.marks σ.heap) σ rs = some v ∧ K v (dels σ.marks σ.heap) σ.next
  | _ => False

theorem resL_len {P : Program} {h : Heap} {σ : AS} : ∀ {rs : List ResultVar} {vs : List AV}, resL P h σ rs = some vs → vs.length = rs.length
  | [], vs, e => by cases e; rfl
  | r :: rs, vs, e => by
    simp only [resL] at e
    split at e
    · rename_i v ws h1 h2
      cases e
      simp [resL_len h2]
    · cases e

theorem run_loadVar {P : Program} {t : TypeId} {x y : Value} {w : World} (h : (Instr.loadAt t x).run P w = .ok y w) : (do loadVar t (← asAddr x) : Sem Value).run P w = .ok y w := by
  simp only [Instr.loadAt, Instr.sureAddr, Sem.run_bind] at h ⊢
  cases x <;> simp_all [asAddr]
  rename_i p
  cases p <;> simp_all

theorem results_list {P : Program} {G : Gh} {w : World} {A : Nat → Prop} {h : Heap} (S : SatH G w A h) {σ : AS} {tmps : Array Value} (ht : ∀ t v, look t σ.tmps = some v → Rel G w A h v (tmps.getD t undef)) :
    ∀ {rs : List ResultVar} {vs : List AV}, resL P h σ rs = some vs → ∃ xs, (rs.mapM (fun
    | .tmp t => pure (tmps.getD t undef)
    | .cell a t => do loadVar t (← asAddr (tmps.getD a undef)) : ResultVar → Sem Value)).run P w = .ok xs w ∧ Rels G w A h vs xs
  | [], vs, e => by
    cases e
    exact ⟨[], by simp, rfl, fun j c hj => by simp at hj⟩
  | r :: rs, vs, e => by
    simp only [resL] at e
    split at e
    · rename_i v ws h1 h2
      cases e
      obtain ⟨xs, h3, h4⟩ := results_list S ht h2
      have hev : ∀ t, Rel G w A h (σ.ev (.tmp t)) (tmps.getD t undef) := fun t => by
        simp only [AS.ev]
        cases hl : look t σ.tmps with
        | none => exact .any ..
        | some v => exact ht t v hl
      have : ∃ x, ((match r with
        | .tmp t => pure (tmps.getD t undef)
        | .cell a t => do loadVar t (← asAddr (tmps.getD a undef)) : Sem Value)).run P w = .ok x w ∧ Rel G w A h v x := by
        cases r with
        | tmp t =>
          simp only [resA, Option.some.injEq] at h1
          subst h1
          exact ⟨_, rfl, hev t⟩
        | cell a t =>
          simp only [resA] at h1
          obtain ⟨y, h5, h6⟩ := loadA_sound S (hev a) h1
          exact ⟨y, run_loadVar h5, h6⟩
      obtain ⟨x, h5, h6⟩ := this
      refine ⟨x :: xs, ?_, by simp [h4.1], fun j c hj => ?_⟩
      · rw [List.mapM_cons]
        simp only [Sem.run_bind]
        rw [h5]
        simp only [Result.andThen_ok, h3, Sem.run_pure]
      · cases j with
        | zero => simp at hj; subst hj; exact h6
        | succ j => exact h4.2 j c (by simpa using hj)
    · cases e

theorem resultA_sound {P : Program} {G : Gh} {w : World} {A : Nat → Prop} {h : Heap} (S : SatH G w A h) {σ : AS} {tmps : Array Value} (ht : ∀ t v, look t σ.tmps = some v → Rel G w A h v (tmps.getD t undef))
    {fn : Func} {v : AV} (hv : resultA P h σ fn.results.toList = some v) : ∃ x, (results fn tmps).run P w = .ok x w ∧ Rel G w A h v x := by
  unfold resultA at hv
  cases hl : resL P h σ fn.results.toList with
  | none => simp [hl] at hv
  | some vs =>
    obtain ⟨xs, h1, h2⟩ := results_list S ht hl
    have hrun : (results fn tmps).run P w = .ok (if h : xs.toArray.size = 1 then xs.toArray[0] else .tuple xs.toArray) w := by
      unfold results
      rw [Array.mapM_eq_mapM_toList]
      have hmap : ∀ (s : Sem (List Value)), s.run P w = .ok xs w → (do let vs ← List.toArray <$> s; pure (if h : vs.size = 1 then vs[0] else .tuple vs) : Sem Value).run P w = .ok (if h : xs.toArray.size = 1 then xs.toArray[0] else .tuple xs.toArray) w := by
        intro s hs
        have e : (List.toArray <$> s : Sem (Array Value)) = (s >>= fun x => pure x.toArray) := rfl
        rw [e]
        simp only [Sem.run_bind, hs, Result.andThen_ok, Sem.run_pure]
      exact hmap _ h1
    refine ⟨_, hrun, ?_⟩
    simp only [hl] at hv
    split at hv
    · rename_i v' he
      cases he
      cases hv
      obtain ⟨x, rfl⟩ : ∃ x, xs = [x] := by
        have := h2.1
        cases xs with
        | nil => simp at this
        | cons a l => cases l with
          | nil => exact ⟨a, rfl⟩
          | cons b l => simp at this
      have := h2.2 0 v rfl
      simpa using this
    · rename_i vs' hne he
      cases he
      cases hv
      have hlen : ¬ xs.toArray.size = 1 := fun e => by
        have h3 := h2.1
        simp at e
        rw [e] at h3
        cases vs with
        | nil => simp at h3
        | cons a l => cases l with
          | nil => exact hne a rfl
          | cons b l => simp at h3
      simp only [hlen, dif_neg, not_false_eq_true]
      exact .tup _ _ vs xs h2.1 h2.2
    · cases hv

/-! ### Contracts -/

/-- Arguments as temporaries. -/
def argsT : Nat → List AV → Tab AV
  | _, [] => nil'
  | i, a :: as => hc i a (argsT (i + 1) as)

theorem look_argsT : ∀ (as : List AV) (i t : Nat), look t (argsT i as) = if i ≤ t then as[t - i]? else none
  | [], i, t => by simp [argsT, look_nil]
  | a :: as, i, t => by
    simp only [argsT, look_hc, look_argsT as]
    by_cases e : i = t
    · subst e; simp
    · by_cases h1 : i ≤ t
      · have h2 : i + 1 ≤ t := by omega
        have h3 : t - i = (t - (i + 1)) + 1 := by omega
        simp [e, h1, h2, h3]
      · have h2 : ¬ i + 1 ≤ t := by omega
        simp [e, h1, h2]

/-- What a body ends with, held against what the contract says. -/
inductive Fin (nx0 : Nat) (h0 : Heap) (K : AV → Heap → Nat → Prop) (v : AV) (h : Heap) (nx : Nat) : Prop
  | keep (hk : K v h nx)
  | pure (r' : AV) (ho : ∀ j, j < nx0 → look j h = look j h0) (hf : Fz (fun i => nx0 ≤ i) h v r') (hk : K r' h0 nx0)
  | wrote (r' : AV) (h1 : Heap) (ho : ∀ j o, look j h1 = some o → look j h = some o) (hold : ∀ j o, look j h1 = some o → look j h0 = some o ∨ (j < nx0 ∧ ORefs (below nx0) o)) (hf : Fz (fun i => nx0 ≤ i) h v r') (hk : K r' h1 nx0)

theorem ACall.of_body {P : Program} (hm : P.follows .mixedOrders = true) {f : FuncId} {fn : Func} {c : Code} (hf : P.funcs[f]? = some fn) (hb : fn.body = some c) (hc : callable P f = true) {args : List AV} (hn : args.length ≤ fn.ntmps) (hok : codeOk fn.ntmps c = true)
    {h : Heap} {nx : Nat} {K : AV → Heap → Nat → Prop}
    (hx : xt ⟨P, fn.ntmps, none⟩ (retQ P fn.results.toList (Fin nx h K)) [.code c] ⟨argsT 0 args, h, nx, []⟩) : ACall P f args h nx K := by
  refine ⟨hc, fun G w vs S rs => callsIn_wide (n := 0) |>.1 (callsIn_of_wp_marks hf hb trivial ?_)⟩
  have k : Ok ⟨P, fn.ntmps, none⟩ ⟨G, w, below nx, h⟩ none G ⟨argsT 0 args, h, nx, []⟩ { tmps := vs.toArray ++ Array.replicate (fn.ntmps - vs.toArray.size) undef, defers := [] } w := by
    refine ⟨S, fun t v ht => ?_, ?_, ⟨[], rfl, rfl, fun j id b hj => by simp at hj⟩, Evo.refl .., fun r hr => (by cases hr), fun _ => rfl⟩
    · rw [look_argsT] at ht
      simp only [Nat.zero_le, if_true, Nat.sub_zero] at ht
      have hlt : t < args.length := (List.getElem?_eq_some_iff.1 ht).1
      have := rs.2 t v ht
      have hlt' : t < vs.length := by rw [← rs.1]; exact hlt
      have e : (vs.toArray ++ Array.replicate (fn.ntmps - vs.toArray.size) undef).getD t undef = vs.getD t undef := by
        simp only [Array.getD_eq_getD_getElem?, List.getD_eq_getElem?_getD]
        rw [Array.getElem?_append_left (by simpa using hlt')]
        simp
      rw [e]
      exact this
    · have := rs.1
      simp
      omega
  have h1 := xt_sound (C := ⟨P, fn.ntmps, none⟩) (O := ⟨G, w, below nx, h⟩) (l := none) hm _ [.code c] _ _ (Nat.le_refl _) (by simpa [XI.ok] using hok) hx G _ w k
  simp only [kq] at h1
  refine wpIn_mono h1 fun e a w' hq => ?_
  obtain ⟨σ, G', hq, k'⟩ := hq
  have fin : (MarksOk σ.marks σ.heap ∧ ∃ v, resultA P (dels σ.marks σ.heap) σ fn.results.toList = some v ∧ Fin nx h K v (dels σ.marks σ.heap) σ.next) → LeavesInM Fence.wide 0 P fn a.tmps (Left G w h nx K) a.defers .returning w' := by
    rintro ⟨hmk, v, hv, hfin⟩
    obtain ⟨bs, h2, h3, h4⟩ := k'.defers
    rw [h2]
    refine marks_leave σ.marks bs σ.heap w' k'.sat h3 h4 hmk fun w'' S'' E'' => ?_
    obtain ⟨x, hx1, hx2⟩ := resultA_sound (P := P) S'' (fun t v ht => E''.rel _ _ (k'.tmps t v ht)) hv
    refine ⟨x, hx1, ?_⟩
    have E := k'.evo.trans E''
    cases hfin with
    | keep hk => exact ⟨x, v, _, _, G', rfl, hk, S'', E, hx2⟩
    | pure r' ho hfz hk =>
      refine left_frozen S S'' E hx2 (fun j o hj => ?_) (fun j o hj => .inl hj) hfz hk
      rw [ho j (S.obj j o hj).1]
      exact hj
    | wrote r' h1 ho hold hfz hk => exact left_frozen S S'' E hx2 ho hold hfz hk
  cases e with
  | normal => exact fin hq
  | ret => exact fin hq
  | exit i => exact hq.elim
  | goto l => exact hq.elim
  | panic c => exact hq.elim
  | outgrown => exact hq.elim
end Go.Abs

/- The abstract layer, part T: the equations by which a walk goes. -/
set_option linter.unusedVariables false
set_option linter.unusedSimpArgs false
namespace Go.Abs
open Go.RowKit

def ob {α : Type} : Option α → (α → Prop) → Prop
  | some a, f => f a
  | none, _ => False
theorem ob_some {α : Type} (a : α) (f : α → Prop) : ob (some a) f = f a := rfl
theorem ob_map {α β : Type} (x : Option α) (g : α → β) (f : β → Prop) : ob (x.map g) f = ob x fun a => f (g a) := by cases x <;> rfl
theorem ob_ite {α : Type} (c : Prop) [Decidable c] (a : α) (f : α → Prop) : ob (if c then some a else none) f = (c ∧ f a) := by
  by_cases h : c <;> simp [h, ob]
theorem ob_iff {α : Type} (x : Option α) (f : α → Prop) : ob x f = ∃ a, x = some a ∧ f a := by cases x <;> simp [ob]

/-- One operation. -/
def doOp (C : Ctx) (all : Array Oper) (o : Oper) (σ : AS) (X : AS → Prop) : Prop :=
  ∃ t : Bool, (match o.guard with | none => t = true | some (j, want) => gdOk (gv all σ j) want t) ∧
    (t = false → X (σ.put o.dst (.sc undef))) ∧
    (t = true → match callOf o.op with
      | some (f, args) => ACallV C.P (σ.ev f) (args.map σ.ev) σ.heap σ.next (fun r h' nx' => X { (σ.put o.dst r) with heap := h', next := nx' })
      | none => match nilCmp C.P o.op with
        | some (n, x) => ∃ ls, elems σ.heap (σ.ev x) = some ls ∧ ∀ b : Bool, (ls ≠ [] → b = false) → X (σ.put o.dst (.sc (.bool (b != n))))
        | none => ∃ r, opX C.P σ.heap σ.next σ.ev o.op = some r ∧ X (σ.next' o.dst r))

/-- One operation of a region whose order is open. -/
def doD (fl : Bool) (C : Ctx) (all : Array Oper) (id : Nat) (o : Oper) (σ : AS) (X : AS → Prop) : Prop :=
  ∃ t : Bool, (match o.guard with | none => t = true | some (j, want) => gdOk (gv all σ j) want t) ∧
    (t = false → X (σ.put o.dst (.sc undef))) ∧
    (t = true → match callOf o.op with
      | some (f, args) => ∃ r, PureCall C.P σ.heap (σ.ev f) (args.map σ.ev) r ∧ X (σ.put o.dst r)
      | none => nilCmp C.P o.op = none ∧ ∃ r, opD fl C.P σ.heap id σ.ev o.op = some r ∧ X { (σ.put o.dst r.1) with heap := r.2.1 })

/-- A branch. -/
def condX (v : AV) (C : Ctx) (Q : Exit → AS → Prop) (k1 k2 : List XI) (σ : AS) : Prop := ∃ t, v = .sc (.bool t) ∧ (t = true → xt C Q k1 σ) ∧ (t = false → xt C Q k2 σ)
section
variable {C : Ctx} {Q : Exit → AS → Prop} {A B : List XI} {σ : AS}
theorem condX_true : condX (.sc (.bool true)) C Q A B σ = xt C Q A σ := by simp [condX]
theorem condX_false : condX (.sc (.bool false)) C Q A B σ = xt C Q B σ := by simp [condX]
theorem condX_bool (b : Bool) : condX (.sc (.bool b)) C Q A B σ = ((b = true → xt C Q A σ) ∧ (b = false → xt C Q B σ)) := by simp [condX]
theorem condX_decide (p : Prop) [Decidable p] : condX (.sc (.bool (decide p))) C Q A B σ = ((p → xt C Q A σ) ∧ (¬ p → xt C Q B σ)) := by simp [condX]
theorem condX_not (p : Bool) : condX (.sc (.bool (!p))) C Q A B σ = condX (.sc (.bool p)) C Q B A σ := by cases p <;> simp [condX]
end
/-- What is left to do behind one operation. -/
def obV (x : Option AV) (d : Option Tmp) (σ : AS) (X : AS → Prop) : Prop := ob x fun v => X (σ.put d v)
def obH (x : Option Heap) (d : Option Tmp) (v : AV) (n : Nat) (σ : AS) (X : AS → Prop) : Prop := ob x fun h => X { (σ.put d v) with heap := h, next := n }
def obC (x : Option (List AV)) (d : Option Tmp) (v : AV) (n : Nat) (σ : AS) (X : AS → Prop) : Prop := ob x fun cs => X { (σ.put d v) with heap := hc σ.next (.box cs) σ.heap, next := n }
def obB (x : Option (AV × Heap)) (d : Option Tmp) (n : Nat) (σ : AS) (X : AS → Prop) : Prop := ob x fun p => X { (σ.put d p.1) with heap := p.2, next := n }
def obR (x : Option (AV × Heap × Bool)) (d : Option Tmp) (σ : AS) (X : AS → Prop) : Prop := ob x fun r => X (σ.next' d r)
def pickX (v a b : AV) (d : Option Tmp) (σ : AS) (X : AS → Prop) : Prop := ∃ t, v = .sc (.bool t) ∧ X (σ.put d (if t then a else b))
def guardX (v : AV) (want : Bool) (C : Ctx) (al : Array Oper) (o : Oper) (σ : AS) (X : AS → Prop) : Prop := (∃ b, v = .sc (.bool b) ∧ ((b == want) = false → X (σ.put o.dst (.sc undef))) ∧ ((b == want) = true → doOp C al o σ X)) ∨ (v = .sc undef ∧ X (σ.put o.dst (.sc undef)))
def callX (C : Ctx) (f : AV) (as : List AV) (d : Option Tmp) (σ : AS) (X : AS → Prop) : Prop := ACallV C.P f as σ.heap σ.next (fun r h' nx' => X { (σ.put d r) with heap := h', next := nx' })
def loopX (c : Code) (C : Ctx) (Q : Exit → AS → Prop) (k : List XI) (σ : AS) : Prop := ∃ n, XLoopN (fun Q' σ' => xt C Q' [.code c] σ') (fun e σ' => match e with
      | .exit id => (match popExit id k with
        | some k' => xt C Q k' σ'
        | none => Q (.exit id) σ')
      | e => Q e σ') n σ

/-- A slice cut. -/
def sliceQ (P : Program) (t : TypeId) (x : AV) (lo hi mx : Option AV) (d : Option Tmp) (σ : AS) (X : AS → Prop) : Prop := ob (sliceXA P σ.heap t x lo hi mx) fun r => X (σ.next' d r)

section
variable {d : Option Tmp} {σ : AS} {X : AS → Prop}
theorem sliceQ_lst {P : Program} {t : TypeId} {sz : Nat} {l : List (List AV)} {lo hi mx : Option AV} : sliceQ P t (.lst sz l) lo hi mx d σ X = obV (sliceA P σ.heap t (.lst sz l) lo hi mx) d σ X := by
  unfold sliceQ obV
  simp only [sliceXA]
  cases sliceA P σ.heap t (.lst sz l) lo hi mx <;> cases d <;> rfl
theorem sliceQ_emp {P : Program} {t : TypeId} {lo hi mx : Option AV} : sliceQ P t .emp lo hi mx d σ X = obV (sliceA P σ.heap t .emp lo hi mx) d σ X := by
  unfold sliceQ obV
  simp only [sliceXA]
  cases sliceA P σ.heap t .emp lo hi mx <;> cases d <;> rfl
theorem sliceQ_sc {P : Program} {t : TypeId} {v : Value} {lo hi mx : Option AV} : sliceQ P t (.sc v) lo hi mx d σ X = obV (sliceA P σ.heap t (.sc v) lo hi mx) d σ X := by
  unfold sliceQ obV
  simp only [sliceXA]
  cases sliceA P σ.heap t (.sc v) lo hi mx <;> cases d <;> rfl
theorem sliceQ_own {P : Program} {t : TypeId} {id g lo0 : Nat} {lo mx : Option AV} : sliceQ P t (.own id g lo0) lo none mx d σ X = obV (sliceA P σ.heap t (.own id g lo0) lo none mx) d σ X := by
  unfold sliceQ obV
  simp only [sliceXA]
  cases sliceA P σ.heap t (.own id g lo0) lo none mx <;> cases d <;> rfl
theorem sliceQ_cut {P : Program} {t : TypeId} {id g lo0 : Nat} {b : AV} {lo : Option AV} : sliceQ P t (.own id g lo0) lo (some b) none d σ X = obB (sliceO P σ.heap t (.own id g lo0) lo (some b)) d σ.next σ X := by
  unfold sliceQ obB
  simp only [sliceXA]
  cases sliceO P σ.heap t (.own id g lo0) lo (some b) <;> cases d <;> rfl
theorem obV_some (v : AV) : obV (some v) d σ X = X (σ.put d v) := rfl
theorem obH_some (h : Heap) (v : AV) (n : Nat) : obH (some h) d v n σ X = X { (σ.put d v) with heap := h, next := n } := rfl
theorem obC_some (cs : List AV) (v : AV) (n : Nat) : obC (some cs) d v n σ X = X { (σ.put d v) with heap := hc σ.next (.box cs) σ.heap, next := n } := rfl
theorem obB_some (v : AV) (h : Heap) (n : Nat) : obB (some (v, h)) d n σ X = X { (σ.put d v) with heap := h, next := n } := rfl
theorem obR_some (r : AV × Heap × Bool) : obR (some r) d σ X = X (σ.next' d r) := rfl
theorem obV_ite (c : Prop) [Decidable c] (v : AV) : obV (if c then some v else none) d σ X = (c ∧ X (σ.put d v)) := ob_ite ..
theorem obH_ite (c : Prop) [Decidable c] (h : Heap) (v : AV) (n : Nat) : obH (if c then some h else none) d v n σ X = (c ∧ X { (σ.put d v) with heap := h, next := n }) := ob_ite ..
theorem obB_ite (c : Prop) [Decidable c] (p : AV × Heap) (n : Nat) : obB (if c then some p else none) d n σ X = (c ∧ X { (σ.put d p.1) with heap := p.2, next := n }) := ob_ite ..
theorem obR_ite (c : Prop) [Decidable c] (r : AV × Heap × Bool) : obR (if c then some r else none) d σ X = (c ∧ X (σ.next' d r)) := ob_ite ..
theorem pickX_bool (b : Bool) (x y : AV) : pickX (.sc (.bool b)) x y d σ X = X (σ.put d (if b then x else y)) := by simp [pickX]
theorem pickX_true (x y : AV) : pickX (.sc (.bool true)) x y d σ X = X (σ.put d x) := by simp [pickX]
theorem pickX_false (x y : AV) : pickX (.sc (.bool false)) x y d σ X = X (σ.put d y) := by simp [pickX]
theorem pickX_sc (b x y : Bool) : pickX (.sc (.bool b)) (.sc (.bool x)) (.sc (.bool y)) d σ X = X (σ.put d (.sc (.bool (if b then x else y)))) := by cases b <;> simp [pickX]
theorem guardX_bool (b want : Bool) {C : Ctx} {al : Array Oper} {o : Oper} : guardX (.sc (.bool b)) want C al o σ X = ((b ≠ want → X (σ.put o.dst (.sc undef))) ∧ (b = want → doOp C al o σ X)) := by simp [guardX, undef]
theorem guardX_true {C : Ctx} {al : Array Oper} {o : Oper} : guardX (.sc (.bool true)) true C al o σ X = doOp C al o σ X := by simp [guardX, undef]
theorem guardX_false {C : Ctx} {al : Array Oper} {o : Oper} : guardX (.sc (.bool false)) false C al o σ X = doOp C al o σ X := by simp [guardX, undef]
theorem guardX_tf {C : Ctx} {al : Array Oper} {o : Oper} : guardX (.sc (.bool true)) false C al o σ X = X (σ.put o.dst (.sc undef)) := by simp [guardX, undef]
theorem guardX_ft {C : Ctx} {al : Array Oper} {o : Oper} : guardX (.sc (.bool false)) true C al o σ X = X (σ.put o.dst (.sc undef)) := by simp [guardX, undef]
theorem guardX_undef {C : Ctx} {al : Array Oper} {o : Oper} {want : Bool} : guardX (.sc undef) want C al o σ X = X (σ.put o.dst (.sc undef)) := by simp [guardX, undef]
end

section
variable {C : Ctx} {Q : Exit → AS → Prop} {k : List XI} {σ : AS}
theorem xt_nil : xt C Q [] σ = Q .normal σ := by rw [xt]
theorem xt_inB (i : Nat) : xt C Q (.inB i :: k) σ = xt C Q k σ := by rw [xt]
theorem xt_ops0 (al : Array Oper) : xt C Q (.ops al [] :: k) σ = xt C Q k σ := by rw [xt]
theorem xt_ops1 (al : Array Oper) (o : Oper) (rest : List Oper) : xt C Q (.ops al (o :: rest) :: k) σ = doOp C al o σ (xt C Q (.ops al rest :: k)) := by rw [xt]; rfl
theorem xt_skip : xt C Q (.code .skip :: k) σ = xt C Q k σ := by rw [xt]
theorem xt_seq (a b : Code) : xt C Q (.code (.seq a b) :: k) σ = xt C Q (.code a :: .code b :: k) σ := by rw [xt]
theorem xt_cond (c : Operand) (a b : Code) : xt C Q (.code (.cond c a b) :: k) σ = condX (σ.ev c) C Q (.code a :: k) (.code b :: k) σ := by rw [xt]; rfl
theorem xt_block (i : Nat) (c : Code) : xt C Q (.code (.block i c) :: k) σ = xt C Q (.code c :: .inB i :: k) σ := by rw [xt]
theorem xt_exit (i : Nat) : xt C Q (.code (.exit i) :: k) σ = (match popExit i k with
    | some k' => xt C Q k' σ
    | none => Q (.exit i) σ) := by
  rw [xt]
  split <;> rename_i h <;> simp [h]
theorem xt_ret : xt C Q (.code .ret :: k) σ = Q .ret σ := by rw [xt]
theorem xt_label (l : Nat) : xt C Q (.code (.label l) :: k) σ = xt C Q k σ := by rw [xt]
theorem xt_region (i : Nat) (ops : Array Oper) : xt C Q (.code (.region i ops false) :: k) σ = xt C Q (.ops ops ops.toList :: k) σ := by rw [xt]
theorem xt_draw (i : Nat) (ops : Array Oper) : xt C Q (.code (.region i ops true) :: k) σ = (∃ L : Loc, drawOk L.loc ops = true ∧ XD C ops L σ.next 0 ops.toList σ (fun σ' => xt C Q k { σ' with next := σ.next + ops.size })) := by rw [xt]
theorem xt_loop (c : Code) : xt C Q (.code (.loop c) :: k) σ = loopX c C Q k σ := by
  unfold loopX
  rw [xt]
  have : (fun (e : Exit) (σ' : AS) => match e with
      | .exit id => (match hp : popExit id k with
        | some k' => xt C Q k' σ'
        | none => Q (.exit id) σ')
      | e => Q e σ') = (fun (e : Exit) (σ' : AS) => match e with
      | .exit id => (match popExit id k with
        | some k' => xt C Q k' σ'
        | none => Q (.exit id) σ')
      | e => Q e σ') := by
    funext e σ'
    cases e <;> simp only
    rename_i id
    split <;> rename_i h <;> simp [h]
  exact congrArg (fun K => ∃ n, XLoopN (fun Q' σ' => xt C Q' [.code c] σ') K n σ) this

theorem xd_nil (all : Array Oper) (L : Loc) (b i : Nat) (K : AS → Prop) : XD C all L b i [] σ K = K σ := rfl
theorem xd_cons (all : Array Oper) (L : Loc) (b i : Nat) (o : Oper) (rest : List Oper) (K : AS → Prop) : XD C all L b i (o :: rest) σ K = (locOk L.cl (L.loc.getD i 0) o σ ∧ doD (L.frz.getD i false) C all (b + i) o σ fun σ' => XD C all L b (i + 1) rest σ' K) := rfl
end

section
variable {C : Ctx} {al : Array Oper} {σ : AS} {X : AS → Prop} {d : Option Tmp} {ty : TypeId} {pos : String} {aft : Array Edge}

theorem doOp_guard {op : Op} {j : Nat} {want : Bool} : doOp C al ⟨d, op, ty, pos, aft, some (j, want)⟩ σ X = guardX (gv al σ j) want C al ⟨d, op, ty, pos, aft, none⟩ σ X := by
  unfold guardX doOp
  simp only [eq_iff_iff]
  constructor
  · rintro ⟨t, ⟨b, h1, rfl⟩ | ⟨h1, rfl⟩, h2, h3⟩
    · exact .inl ⟨b, h1, h2, fun hb => ⟨true, rfl, fun h => (by cases h), fun _ => h3 hb⟩⟩
    · exact .inr ⟨h1, h2 rfl⟩
  · rintro (⟨b, h1, h2, h3⟩ | ⟨h1, h2⟩)
    · refine ⟨b == want, .inl ⟨b, h1, rfl⟩, h2, fun hb => ?_⟩
      obtain ⟨t, rfl, _, h4⟩ := h3 hb
      exact h4 rfl
    · exact ⟨false, .inr ⟨h1, rfl⟩, fun _ => h2, fun h => (by cases h)⟩

theorem doOp_plain {op : Op} (h1 : callOf op = none) (h2 : nilCmp C.P op = none) : doOp C al ⟨d, op, ty, pos, aft, none⟩ σ X = ob (opX C.P σ.heap σ.next σ.ev op) fun r => X (σ.next' d r) := by
  unfold doOp
  simp only [h1, h2, ob_iff]
  simp

theorem next'_false (v : AV) : σ.next' d (v, σ.heap, false) = σ.put d v := by cases d <;> rfl
theorem next'_heap (v : AV) (h : Heap) : σ.next' d (v, h, false) = { (σ.put d v) with heap := h, next := σ.next } := by cases d <;> rfl
theorem next'_true (v : AV) (h : Heap) : σ.next' d (v, h, true) = { (σ.put d v) with heap := h, next := σ.next + 1 } := by cases d <;> rfl

theorem doOp_move (x : Operand) : doOp C al ⟨d, .move x, ty, pos, aft, none⟩ σ X = X (σ.put d (σ.ev x)) := by
  rw [doOp_plain rfl rfl]; simp only [opX, opA, ob_some, next'_false, next'_true]
theorem doOp_assign (x : Operand) : doOp C al ⟨d, .assign x, ty, pos, aft, none⟩ σ X = X (σ.put d (σ.ev x)) := by
  rw [doOp_plain rfl rfl]; simp only [opX, opA, ob_some, next'_false, next'_true]
theorem doOp_pick (c a b : Operand) : doOp C al ⟨d, .pick c a b, ty, pos, aft, none⟩ σ X = pickX (σ.ev c) (σ.ev a) (σ.ev b) d σ X := by
  rw [doOp_plain rfl rfl, ob_iff]
  simp only [opX, opA, pickX, eq_iff_iff]
  constructor
  · rintro ⟨r, h, hx⟩
    split at h
    · rename_i t ht
      cases h
      exact ⟨t, ht, by simpa only [next'_false] using hx⟩
    · cases h
  · rintro ⟨t, ht, hx⟩
    exact ⟨_, by rw [ht], by simpa only [next'_false] using hx⟩
theorem doOp_alloc (t : TypeId) : doOp C al ⟨d, .alloc t, ty, pos, aft, none⟩ σ X = obH (allocA C.P σ.next t σ.heap) d (.ptr σ.next 0) (σ.next + 1) σ X := by
  unfold obH
  rw [doOp_plain rfl rfl]; simp only [opX, opA, ob_map, next'_false, next'_true]
theorem doOp_box (t : TypeId) (x : Operand) : doOp C al ⟨d, .box t x, ty, pos, aft, none⟩ σ X = obC (cellsA (σ.ev x)) d (.ptr σ.next 0) (σ.next + 1) σ X := by
  unfold obC
  rw [doOp_plain rfl rfl]; simp only [opX, opA, ob_map, next'_false, next'_true]
theorem doOp_build (t : TypeId) (ps : Array (Nat × Operand)) : doOp C al ⟨d, .build t ps, ty, pos, aft, none⟩ σ X = obV (buildA C.P t (ps.toList.map fun p => (p.1, σ.ev p.2))) d σ X := by
  unfold obV
  rw [doOp_plain rfl rfl]; simp only [opX, opA, ob_map, next'_false, next'_true]
theorem doOp_buildSlice (t : TypeId) (n : Nat) (ps : Array (Nat × Operand)) : doOp C al ⟨d, .buildSlice t n ps, ty, pos, aft, none⟩ σ X = obB (buildSliceA C.P σ.heap σ.next t n (ps.toList.map fun p => (p.1, σ.ev p.2))) d (σ.next + 1) σ X := by
  unfold obB
  rw [doOp_plain rfl rfl]; simp only [opX, opA, ob_map, next'_false, next'_true]
theorem doOp_load (t : TypeId) (a : Operand) : doOp C al ⟨d, .load t a, ty, pos, aft, none⟩ σ X = obV (loadA C.P σ.heap t (σ.ev a)) d σ X := by
  unfold obV
  rw [doOp_plain rfl rfl]; simp only [opX, opA, ob_map, next'_false, next'_true]
theorem doOp_store (t : TypeId) (a x : Operand) : doOp C al ⟨d, .store t a x, ty, pos, aft, none⟩ σ X = obH (storeA C.P σ.heap t (σ.ev a) (σ.ev x)) d .any σ.next σ X := by
  unfold obH
  rw [doOp_plain rfl rfl]; simp only [opX, opA, ob_map, next'_heap]
theorem doOp_binOp {op : BinOp} {t : TypeId} {x y : Operand} {yt : TypeId} (h : ∀ v, y = .const v → v ≠ .slice none 0 0) : doOp C al ⟨d, .binOp op t x y yt, ty, pos, aft, none⟩ σ X = obV (binA C.P σ.heap op t x y (σ.ev x) (σ.ev y)) d σ X := by
  unfold obV
  have hn : nilCmp C.P (.binOp op t x y yt) = none := by
    unfold nilCmp
    split
    · rename_i heq
      cases heq
      exact absurd rfl (h _ rfl)
    · rfl
  rw [doOp_plain rfl hn]; simp only [opX, opA, ob_map, next'_false, next'_true]
theorem doOp_bin_tmp (op : BinOp) (t : TypeId) (x : Operand) (y : Tmp) (yt : TypeId) : doOp C al ⟨d, .binOp op t x (.tmp y) yt, ty, pos, aft, none⟩ σ X = obV (binA C.P σ.heap op t x (.tmp y) (σ.ev x) (σ.ev (.tmp y))) d σ X := doOp_binOp (by simp)
theorem doOp_bin_int (op : BinOp) (t : TypeId) (x : Operand) (k : IntKind) (n : Int) (yt : TypeId) : doOp C al ⟨d, .binOp op t x (.const (.int k n)) yt, ty, pos, aft, none⟩ σ X = obV (binA C.P σ.heap op t x (.const (.int k n)) (σ.ev x) (.sc (.int k n))) d σ X := doOp_binOp (by simp)
theorem doOp_bin_str (op : BinOp) (t : TypeId) (x : Operand) (s : ByteArray) (yt : TypeId) : doOp C al ⟨d, .binOp op t x (.const (.string s)) yt, ty, pos, aft, none⟩ σ X = obV (binA C.P σ.heap op t x (.const (.string s)) (σ.ev x) (.sc (.string s))) d σ X := doOp_binOp (by simp)
theorem doOp_bin_bool (op : BinOp) (t : TypeId) (x : Operand) (s : Bool) (yt : TypeId) : doOp C al ⟨d, .binOp op t x (.const (.bool s)) yt, ty, pos, aft, none⟩ σ X = obV (binA C.P σ.heap op t x (.const (.bool s)) (σ.ev x) (.sc (.bool s))) d σ X := doOp_binOp (by simp)
theorem doOp_bin_ptr (op : BinOp) (t : TypeId) (x : Operand) (yt : TypeId) : doOp C al ⟨d, .binOp op t x (.const (.pointer none)) yt, ty, pos, aft, none⟩ σ X = obV (binA C.P σ.heap op t x (.const (.pointer none)) (σ.ev x) (.sc (.pointer none))) d σ X := doOp_binOp (by simp)
theorem doOp_bin_nilf (op : BinOp) (t : TypeId) (x : Operand) (yt : TypeId) : doOp C al ⟨d, .binOp op t x (.const .nilFunc) yt, ty, pos, aft, none⟩ σ X = obV (binA C.P σ.heap op t x (.const .nilFunc) (σ.ev x) (.sc .nilFunc)) d σ X := doOp_binOp (by simp)
theorem doOp_bin_nili (op : BinOp) (t : TypeId) (x : Operand) (yt : TypeId) : doOp C al ⟨d, .binOp op t x (.const .nilIface) yt, ty, pos, aft, none⟩ σ X = obV (binA C.P σ.heap op t x (.const .nilIface) (σ.ev x) (.sc .nilIface)) d σ X := doOp_binOp (by simp)
theorem doOp_unOp (op : UnOp) (t : TypeId) (x : Operand) : doOp C al ⟨d, .unOp op t x, ty, pos, aft, none⟩ σ X = obV (unA op (σ.ev x)) d σ X := by
  unfold obV
  rw [doOp_plain rfl rfl]; simp only [opX, opA, ob_map, next'_false, next'_true]
theorem doOp_convert (s t : TypeId) (x : Operand) : doOp C al ⟨d, .convert s t x, ty, pos, aft, none⟩ σ X = obV (convA C.P s t (σ.ev x)) d σ X := by
  unfold obV
  rw [doOp_plain rfl rfl]; simp only [opX, opA, ob_map, next'_false, next'_true]
theorem doOp_iface (t : TypeId) (x : Operand) : doOp C al ⟨d, .makeInterface t x, ty, pos, aft, none⟩ σ X = obV (mkIfaceA C.P t (σ.ev x)) d σ X := by
  unfold obV
  rw [doOp_plain rfl rfl]; simp only [opX, opA, ob_map, next'_false, next'_true]
theorem doOp_makeFunc (f : Fn) (caps : Array Operand) : doOp C al ⟨d, .makeFunc f #[] caps, ty, pos, aft, none⟩ σ X = X (σ.put d (.fn f (caps.toList.map σ.ev))) := by
  rw [doOp_plain rfl rfl]; simp only [opX, opA, List.size_toArray, List.length_nil, if_true, ob_some, next'_false, next'_true]
theorem doOp_makeMap (t : TypeId) : doOp C al ⟨d, .makeMap t none, ty, pos, aft, none⟩ σ X = X { (σ.put d (.mp σ.next)) with heap := hc σ.next (.map []) σ.heap, next := σ.next + 1 } := by
  rw [doOp_plain rfl rfl]; simp only [opX, opA, ob_some, next'_false, next'_true]
theorem doOp_slice (t : TypeId) (x : Operand) (lo hi mx : Option Operand) : doOp C al ⟨d, .slice t x lo hi mx, ty, pos, aft, none⟩ σ X = sliceQ C.P t (σ.ev x) (lo.map σ.ev) (hi.map σ.ev) (mx.map σ.ev) d σ X := by
  unfold sliceQ
  rw [doOp_plain rfl rfl]; simp only [opX]
theorem doOp_clear (x : Operand) (t : TypeId) : doOp C al ⟨d, .call { callee := .builtin .clear, args := #[x], argTypes := #[t] }, ty, pos, aft, none⟩ σ X = obH (clearA C.P σ.heap t (σ.ev x)) d .any σ.next σ X := by
  unfold obH
  rw [doOp_plain rfl rfl]; simp only [opX, ob_map, next'_heap]
theorem doOp_fieldAddr (t : TypeId) (x : Operand) (f : Nat) : doOp C al ⟨d, .fieldAddr t x f, ty, pos, aft, none⟩ σ X = obV (fieldAddrA C.P σ.heap t (σ.ev x) f) d σ X := by
  unfold obV
  rw [doOp_plain rfl rfl]; simp only [opX, opA, ob_map, next'_false, next'_true]
theorem doOp_field (t : TypeId) (x : Operand) (f : Nat) : doOp C al ⟨d, .field t x f, ty, pos, aft, none⟩ σ X = obV (fieldA C.P t (σ.ev x) f) d σ X := by
  unfold obV
  rw [doOp_plain rfl rfl]; simp only [opX, opA, ob_map, next'_false, next'_true]
theorem doOp_indexAddr (t : TypeId) (x i : Operand) : doOp C al ⟨d, .indexAddr t x i, ty, pos, aft, none⟩ σ X = obV (indexAddrA C.P σ.heap t (σ.ev x) (σ.ev i)) d σ X := by
  unfold obV
  rw [doOp_plain rfl rfl]; simp only [opX, opA, ob_map, next'_false, next'_true]
theorem doOp_index (t : TypeId) (x i : Operand) : doOp C al ⟨d, .index t x i, ty, pos, aft, none⟩ σ X = obV (indexA C.P t (σ.ev x) (σ.ev i)) d σ X := by
  unfold obV
  rw [doOp_plain rfl rfl]; simp only [opX, opA, ob_map, next'_false, next'_true]
theorem doOp_lookup (t : TypeId) (m key : Operand) (ok : Bool) : doOp C al ⟨d, .lookup t m key ok, ty, pos, aft, none⟩ σ X = obV (lookupA C.P σ.heap t (σ.ev m) (σ.ev key) ok) d σ X := by
  unfold obV
  rw [doOp_plain rfl rfl]; simp only [opX, opA, ob_map, next'_false, next'_true]
theorem doOp_mapUpdate (t : TypeId) (m key x : Operand) : doOp C al ⟨d, .mapUpdate t m key x, ty, pos, aft, none⟩ σ X = obH (mapSetA σ.heap C.P t (σ.ev m) (σ.ev key) (σ.ev x)) d .any σ.next σ X := by
  unfold obH
  rw [doOp_plain rfl rfl]; simp only [opX, opA, ob_map, next'_heap]
theorem doOp_insert (t : TypeId) (m key x : Operand) : doOp C al ⟨d, .insert t m key x, ty, pos, aft, none⟩ σ X = obH (mapSetA σ.heap C.P t (σ.ev m) (σ.ev key) (σ.ev x)) d .any σ.next σ X := by
  unfold obH
  rw [doOp_plain rfl rfl]; simp only [opX, opA, ob_map, next'_heap]
theorem doOp_extract (x : Operand) (i : Nat) : doOp C al ⟨d, .extract x i, ty, pos, aft, none⟩ σ X = obV (extractA (σ.ev x) i) d σ X := by
  unfold obV
  rw [doOp_plain rfl rfl]; simp only [opX, opA, ob_map, next'_false, next'_true]
theorem doOp_len (x : Operand) (t : TypeId) : doOp C al ⟨d, .call { callee := .builtin .len, args := #[x], argTypes := #[t] }, ty, pos, aft, none⟩ σ X = obV (lenA C.P σ.heap t (σ.ev x)) d σ X := by
  unfold obV
  rw [doOp_plain rfl rfl]; simp only [opX, opA, ob_map, next'_false, next'_true]
theorem doOp_append (s x : Operand) (t : TypeId) : doOp C al ⟨d, .call { callee := .builtin .append, args := #[s, x], argTypes := #[t, t] }, ty, pos, aft, none⟩ σ X = obR (appendA C.P σ.heap σ.next t (σ.ev s) (σ.ev x)) d σ X := by
  unfold obR
  rw [doOp_plain rfl rfl]; simp only [opX, opA, if_true]
theorem doOp_call (f : Operand) (args : Array Operand) (tys : Array TypeId) : doOp C al ⟨d, .call { callee := .value f, args := args, argTypes := tys }, ty, pos, aft, none⟩ σ X =
    callX C (σ.ev f) (args.toList.map σ.ev) d σ X := by
  unfold doOp callX
  simp [callOf]
theorem doOp_nil {op : BinOp} {t : TypeId} {x : Operand} {yt : TypeId} : doOp C al ⟨d, .binOp op t x (.const (.slice none 0 0)) yt, ty, pos, aft, none⟩ σ X = match nilCmp C.P (.binOp op t x (.const (.slice none 0 0)) yt) with
    | some (n, x) => ∃ ls, elems σ.heap (σ.ev x) = some ls ∧ ∀ b : Bool, (ls ≠ [] → b = false) → X (σ.put d (.sc (.bool (b != n))))
    | none => ob (opX C.P σ.heap σ.next σ.ev (.binOp op t x (.const (.slice none 0 0)) yt)) fun r => X (σ.next' d r) := by
  unfold doOp
  simp only [callOf, ob_iff]
  split <;> rename_i h <;> simp [h]

theorem gv_dst {all : Array Oper} {j : Nat} {op : Op} {t : Tmp} {e} (h : all[j]? = some ⟨some t, op, ty, pos, aft, e⟩) : gv all σ j = σ.ev (.tmp t) := by simp [gv, h]

/-! ### The parts, in the forms a walk wants -/
section
variable {P : Program} {h : Heap}
theorem binA_int (op : BinOp) (t : TypeId) (x y : Operand) (k : IntKind) (a b : Int) : binA P h op t x y (.sc (.int k a)) (.sc (.int k b)) = (intBin op k a b).map .sc := by simp [binA]
theorem binA_str (op : BinOp) (t : TypeId) (x y : Operand) (a b : ByteArray) : binA P h op t x y (.sc (.string a)) (.sc (.string b)) = (strBin op a b).map .sc := rfl
theorem binA_agg (op : BinOp) (t : TypeId) (x y : Operand) (a b : List AV) : binA P h op t x y (.agg a) (.agg b) = (match tiOf P t with
    | none => none
    | some ti => boolOf op (match ti.eqk with
    | some ks => if ti.agg then eqCells ks a b else none
    | none => none)) := rfl
theorem binA_bool (op : BinOp) (t : TypeId) (x y : Operand) (a b : Bool) : binA P h op t x y (.sc (.bool a)) (.sc (.bool b)) = (match tiOf P t with
    | none => none
    | some ti => boolOf op (if ti.bool then some (a == b) else none)) := rfl
theorem eqCell_int (k : IntKind) (a b : Int) : eqCell .int (.sc (.int k a)) (.sc (.int k b)) = some (decide (a = b)) := by simp [eqCell]
theorem eqCell_str (a b : ByteArray) : eqCell .str (.sc (.string a)) (.sc (.string b)) = some (decide (a = b)) := rfl
theorem eqCell_bool (a b : Bool) : eqCell .bool (.sc (.bool a)) (.sc (.bool b)) = some (a == b) := rfl

theorem elems_emp : elems h .emp = some [] := rfl
theorem elems_lst (sz : Nat) (l : List (List AV)) : elems h (.lst sz l) = some l := rfl
theorem elems_own {id g lo : Nat} : elems h (.own id g lo) = (match look id h with
    | some (.arr g' _ L) => if g = g' then some (L.drop lo) else none
    | _ => none) := rfl
theorem cellsA_sc {v : Value} (h : v.oneCell' = true) : cellsA (.sc v) = some [.sc v] := by simp [cellsA, AV.one, h]
theorem cellsA_int (k : IntKind) (n : Int) : cellsA (.sc (.int k n)) = some [.sc (.int k n)] := rfl
theorem cellsA_str (s : ByteArray) : cellsA (.sc (.string s)) = some [.sc (.string s)] := rfl
theorem cellsA_bool (s : Bool) : cellsA (.sc (.bool s)) = some [.sc (.bool s)] := rfl
theorem cellsA_agg (l : List AV) : cellsA (.agg l) = some l := rfl
theorem cellsA_emp : cellsA .emp = some [.emp] := rfl
theorem cellsA_lst (sz : Nat) (l : List (List AV)) : cellsA (.lst sz l) = some [.lst sz l] := rfl
theorem cellsA_own (id g lo : Nat) : cellsA (.own id g lo) = some [.own id g lo] := rfl
theorem cellsA_ptr (id o : Nat) : cellsA (.ptr id o) = some [.ptr id o] := rfl
theorem cellsA_fn (f : Fn) (cs : List AV) : cellsA (.fn f cs) = some [.fn f cs] := rfl
theorem cellsA_mp (id : Nat) : cellsA (.mp id) = some [.mp id] := rfl
theorem cellsA_yld (id : Nat) : cellsA (.yld id) = some [.yld id] := rfl

theorem putAt_all {α : Type} (cs ns : List α) (h : ns.length = cs.length) : putAt cs 0 ns = ns := by simp [putAt, h]
theorem put_at0 {α : Type} (c : α) (cs : List α) (n : α) : putAt (c :: cs) 0 [n] = n :: cs := by simp [putAt]
theorem put_atS {α : Type} (c : α) (cs : List α) (o : Nat) (ns : List α) : putAt (c :: cs) (o + 1) ns = c :: putAt cs o ns := by simp [putAt, Nat.add_right_comm]

theorem box_id {α : Type} (nx : Nat) (a b : α) : (if nx + 1 = nx then a else b) = b := by simp
end

theorem ev_tmp (T : Tab AV) (h : Heap) (n : Nat) (m : List Nat) (t : Tmp) : (AS.mk T h n m).ev (.tmp t) = (look t T).getD .any := rfl
theorem ev_const (v : Value) : σ.ev (.const v) = ofConst v := rfl
theorem ev_func (f : FuncId) : σ.ev (.func f) = .fn (.func f) [] := rfl
theorem put_some (T : Tab AV) (h : Heap) (n : Nat) (m : List Nat) (t : Tmp) (v : AV) : (AS.mk T h n m).put (some t) v = ⟨hc t v T, h, n, m⟩ := rfl
theorem put_none (v : AV) : σ.put none v = σ := rfl
theorem next_put (T : Tab AV) (h : Heap) (n : Nat) (m : List Nat) (t : Tmp) (v : AV) (h' : Heap) (fr : Bool) : (AS.mk T h n m).next' (some t) (v, h', fr) = ⟨hc t v T, h', if fr then n + 1 else n, m⟩ := rfl
end
end Go.Abs
