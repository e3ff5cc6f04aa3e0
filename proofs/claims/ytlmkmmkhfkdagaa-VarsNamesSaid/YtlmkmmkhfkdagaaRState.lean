/- Reading a state, rows of sets, rows of variables out of a law's arguments. -/
import Derived.Test.YtlmkmmkhfkdagaaShut
import Derived.Test.YtlmkmmkhfkdagaaSeatT
set_option linter.unusedVariables false
set_option linter.unusedSimpArgs false
set_option maxRecDepth 8000
namespace Go.Abs.Try
open Go Go.Abs Go.Proofs

section
variable {H : Type} {enc : TypeId × Value → H} {W : World}

theorem laid : laidOutB Try.prog = true := by kernel_rfl

theorem und_items : Try.prog.underlying 23 = some (.slice 54) := by kernel_rfl
theorem und_cells : Try.prog.underlying 24 = some (.slice 39) := by kernel_rfl
theorem und_sets : Try.prog.underlying 50 = some (.slice 49) := by kernel_rfl
theorem und_vars : Try.prog.underlying 28 = some (.slice 37) := by kernel_rfl
theorem shape_item : shapeOf Try.prog 6 54 = some [.i .i64, .i .i64, .i .u8, .s, .i .i64, .i .i64, .i .u8, .s] := by kernel_rfl
theorem shape_cell : shapeOf Try.prog 6 39 = some [.i .i64, .s, .i .u8, .i .i64, .s] := by kernel_rfl
theorem shape_set : shapeOf Try.prog 6 49 = some [.s, .i .u8, .i .i64, .s] := by kernel_rfl
theorem shape_var : shapeOf Try.prog 6 37 = some [.s, .i .u8, .i .i64, .s] := by kernel_rfl
theorem shape_val : shapeOf Try.prog 6 35 = some [.i .u8, .i .i64, .s] := by kernel_rfl
theorem cells_item : Try.prog.cellsOf 54 = 8 := by kernel_rfl
theorem cells_cell : Try.prog.cellsOf 39 = 5 := by kernel_rfl
theorem cells_set : Try.prog.cellsOf 49 = 4 := by kernel_rfl
theorem cells_var : Try.prog.cellsOf 37 = 4 := by kernel_rfl

/-- Which types the two other slices of a state have. -/
noncomputable def restOk : Bool := match shapeOf Try.prog 6 27 with
  | some [.i .i64, .i .i64, .sl t3 e3, .sl t4 e4, .sl t5 e5, .sl t6 e6] => t4 == 23 && t5 == 24 && decide (0 < Try.prog.cellsOf e3) && decide (0 < Try.prog.cellsOf e6) && (shapeOf Try.prog 6 e3).isSome && (shapeOf Try.prog 6 e6).isSome
  | _ => false
theorem restOk_true : restOk = true := by kernel_rfl

theorem rels_cons {G : Gh} {A : Nat → Prop} {h : Heap} {c : AV} {cs : List AV} {v : Value} {vs : List Value} (h1 : Rel G W A h c v) (h2 : Rels G W A h cs vs) : Rels G W A h (c :: cs) (v :: vs) :=
  ⟨by simp [h2.1], fun j d hj => by
    cases j with
    | zero => simp at hj; subst hj; exact h1
    | succ j => exact h2.2 j d (by simpa using hj)⟩
theorem rels_nil {G : Gh} {A : Nat → Prop} {h : Heap} : Rels G W A h [] [] := ⟨rfl, fun j d hj => by simp at hj⟩

theorem open_cells {v : Value} (hx : ∃ fuel x, DataW.trod enc Try.prog W 0 (fun _ => true) true fuel 24 [v] = some x) (A : Nat → Prop) (h : Heap) : ∃ cs : List CellM, Rel (G0 W) W A h (.lst 5 (cs.map flCell)) v := by
  obtain ⟨rows, hr, hm, hlen⟩ := rows_of und_cells (by rw [cells_cell]; omega) shape_cell hx A h
  obtain ⟨xs, h1, _⟩ := rows_model flCell fun r hr => (hm r hr).cells
  rw [cells_cell, h1] at hr
  exact ⟨xs, hr⟩
theorem open_items {v : Value} (hx : ∃ fuel x, DataW.trod enc Try.prog W 0 (fun _ => true) true fuel 23 [v] = some x) (A : Nat → Prop) (h : Heap) : ∃ cs : List ItemM, Rel (G0 W) W A h (.lst 8 (cs.map flItem)) v := by
  obtain ⟨rows, hr, hm, hlen⟩ := rows_of und_items (by rw [cells_item]; omega) shape_item hx A h
  obtain ⟨xs, h1, _⟩ := rows_model flItem fun r hr => (hm r hr).items
  rw [cells_item, h1] at hr
  exact ⟨xs, hr⟩
theorem open_sets {v : Value} (hx : ∃ fuel x, DataW.trod enc Try.prog W 0 (fun _ => true) true fuel 50 [v] = some x) (A : Nat → Prop) (h : Heap) : ∃ cs : List SetM, Rel (G0 W) W A h (.lst 4 (cs.map flSet)) v ∧ ∀ c ∈ cs, c.v.t.size ≤ maxLen := by
  obtain ⟨rows, hr, hm, hlen⟩ := rows_of und_sets (by rw [cells_set]; omega) shape_set hx A h
  obtain ⟨xs, h1, h2⟩ := rows_model flSet fun r hr => (hm r hr).sets
  rw [cells_set, h1] at hr
  exact ⟨xs, hr, h2⟩
theorem open_vars {v : Value} (hx : ∃ fuel x, DataW.trod enc Try.prog W 0 (fun _ => true) true fuel 28 [v] = some x) (A : Nat → Prop) (h : Heap) : ∃ cs : List VarM, Rel (G0 W) W A h (.lst 4 (cs.map flVar)) v := by
  obtain ⟨rows, hr, hm, hlen⟩ := rows_of und_vars (by rw [cells_var]; omega) shape_var hx A h
  obtain ⟨xs, h1, _⟩ := rows_model flVar fun r hr => (hm r hr).vars
  rw [cells_var, h1] at hr
  exact ⟨xs, hr⟩
theorem open_rest {t e : TypeId} {v : Value} (hpos : decide (0 < Try.prog.cellsOf e) = true) (hsh : (shapeOf Try.prog 6 e).isSome = true) (hv : (SKd.sl t e).ok enc Try.prog W v) (A : Nat → Prop) (h : Heap) : ∃ sz l, Rel (G0 W) W A h (.lst sz l) v := by
  obtain ⟨ks, hks⟩ := Option.isSome_iff_exists.1 hsh
  obtain ⟨rows, hr, _, _⟩ := rows_of hv.1 (of_decide_eq_true hpos) hks hv.2 A h
  exact ⟨_, _, hr⟩

theorem open_state {v : Value} {base : Nat} (hok : Value.okWide Try.prog W .any base 27 v) (hx : ∃ fuel x, DataW.trod enc Try.prog W 0 (fun _ => true) true fuel 27 v.cells.toList = some x) (A : Nat → Prop) (h : Heap) :
    ∃ s : StM, Rel (G0 W) W A h (.agg (flSt s)) v ∧ (∃ sd ld, s.defs = .lst sd ld) ∧ ∃ sw lw, s.watches = .lst sw lw := by
  have hr := restOk_true
  unfold restOk at hr
  split at hr
  · rename_i t3 e3 t4 e4 t5 e5 t6 e6 hsh
    simp only [Bool.and_eq_true, beq_iff_eq] at hr
    obtain ⟨⟨⟨⟨⟨rfl, rfl⟩, p3⟩, p6⟩, s3⟩, s6⟩ := hr
    have hmt := shapeOf_sound 6 27 _ _ hsh hx
    unfold Value.okWide at hok
    split at hok
    · obtain ⟨cs, rfl, _, _⟩ := hok
      have hone := hmt.one
      obtain ⟨v1, w1, e1, ⟨n1, rfl, _⟩, g1⟩ := hmt.uncons
      obtain ⟨v2, w2, rfl, ⟨n2, rfl, _⟩, g2⟩ := g1.uncons
      obtain ⟨v3, w3, rfl, h3, g3⟩ := g2.uncons
      obtain ⟨v4, w4, rfl, h4, g4⟩ := g3.uncons
      obtain ⟨v5, w5, rfl, h5, g5⟩ := g4.uncons
      obtain ⟨v6, w6, rfl, h6, g6⟩ := g5.uncons
      obtain rfl := g6.unnil
      obtain ⟨sd, ld, r3⟩ := open_rest p3 s3 h3 A h
      obtain ⟨items, r4⟩ := open_items h4.2 A h
      obtain ⟨cells, r5⟩ := open_cells h5.2 A h
      obtain ⟨sw, lw, r6⟩ := open_rest p6 s6 h6 A h
      refine ⟨⟨n1, n2, .lst sd ld, items, cells, .lst sw lw⟩, ?_, ⟨sd, ld, rfl⟩, sw, lw, rfl⟩
      have hcs : cs = [.int .i64 n1, .int .i64 n2, v3, v4, v5, v6].toArray := by
        apply Array.ext'
        exact e1
      have hall := rels_cons (.sc A h (.int .i64 n1)) (rels_cons (.sc A h (.int .i64 n2)) (rels_cons r3 (rels_cons r4 (rels_cons r5 (rels_cons r6 rels_nil)))))
      subst hcs
      exact .agg A h _ _ hall.1 (fun u hu => hone u (by simpa [Value.cells] using hu)) hall.2
    · obtain ⟨cs, rfl, _, _⟩ := hok
      have hone := hmt.one
      obtain ⟨v1, w1, e1, ⟨n1, rfl, _⟩, g1⟩ := hmt.uncons
      obtain ⟨v2, w2, rfl, ⟨n2, rfl, _⟩, g2⟩ := g1.uncons
      obtain ⟨v3, w3, rfl, h3, g3⟩ := g2.uncons
      obtain ⟨v4, w4, rfl, h4, g4⟩ := g3.uncons
      obtain ⟨v5, w5, rfl, h5, g5⟩ := g4.uncons
      obtain ⟨v6, w6, rfl, h6, g6⟩ := g5.uncons
      obtain rfl := g6.unnil
      obtain ⟨sd, ld, r3⟩ := open_rest p3 s3 h3 A h
      obtain ⟨items, r4⟩ := open_items h4.2 A h
      obtain ⟨cells, r5⟩ := open_cells h5.2 A h
      obtain ⟨sw, lw, r6⟩ := open_rest p6 s6 h6 A h
      refine ⟨⟨n1, n2, .lst sd ld, items, cells, .lst sw lw⟩, ?_, ⟨sd, ld, rfl⟩, sw, lw, rfl⟩
      have hcs : cs = [.int .i64 n1, .int .i64 n2, v3, v4, v5, v6].toArray := by
        apply Array.ext'
        exact e1
      have hall := rels_cons (.sc A h (.int .i64 n1)) (rels_cons (.sc A h (.int .i64 n2)) (rels_cons r3 (rels_cons r4 (rels_cons r5 (rels_cons r6 rels_nil)))))
      subst hcs
      exact .agg A h _ _ hall.1 (fun u hu => hone u (by simpa [Value.cells] using hu)) hall.2
    · rename_i hn1 hn2
      exact absurd (show Try.prog.underlying 27 = some (.struct ((match Try.prog.underlying 27 with | some (.struct fs) => fs | _ => #[]))) by kernel_rfl) (hn1 _)
  · cases hr

theorem open_val {v : Value} {base : Nat} (hok : Value.okWide Try.prog W .any base 35 v) (hx : ∃ fuel x, DataW.trod enc Try.prog W 0 (fun _ => true) true fuel 35 v.cells.toList = some x) (A : Nat → Prop) (h : Heap) :
    ∃ x : ValM, Rel (G0 W) W A h (.agg (flVal x)) v ∧ x.t.size ≤ maxLen := by
  have hmt := shapeOf_sound 6 35 _ _ shape_val hx
  have hs : ∃ cs, v = .agg cs := by
    unfold Value.okWide at hok
    split at hok
    · obtain ⟨cs, rfl, _, _⟩ := hok; exact ⟨_, rfl⟩
    · obtain ⟨cs, rfl, _, _⟩ := hok; exact ⟨_, rfl⟩
    · rename_i hn1 hn2
      exact absurd (show Try.prog.underlying 35 = some (.struct ((match Try.prog.underlying 35 with | some (.struct fs) => fs | _ => #[]))) by kernel_rfl) (hn1 _)
  obtain ⟨cs, rfl⟩ := hs
  have hone := hmt.one
  obtain ⟨v1, w1, e1, ⟨n1, rfl, _⟩, g1⟩ := hmt.uncons
  obtain ⟨v2, w2, rfl, ⟨n2, rfl, _⟩, g2⟩ := g1.uncons
  obtain ⟨v3, w3, rfl, ⟨n3, rfl, hsz⟩, g3⟩ := g2.uncons
  obtain rfl := g3.unnil
  have hcs : cs = [.int .u8 n1, .int .i64 n2, .string n3].toArray := by
    apply Array.ext'
    exact e1
  subst hcs
  have hall := rels_cons (.sc A h (.int .u8 n1)) (rels_cons (.sc A h (.int .i64 n2)) (rels_cons (.sc A h (.string n3)) (rels_nil (G := G0 W) (W := W))))
  exact ⟨⟨n1, n2, n3⟩, .agg A h _ _ hall.1 (fun u hu => hone u (by simpa [Value.cells] using hu)) hall.2, hsz⟩

theorem open_i64 {v : Value} {t : TypeId} (hsh : shapeOf Try.prog 6 t = some [.i .i64]) (hx : ∃ fuel x, DataW.trod enc Try.prog W 0 (fun _ => true) true fuel t v.cells.toList = some x) (hc : v.cells.toList = [v]) : ∃ n, v = .int .i64 n := by
  have hmt := shapeOf_sound 6 t _ _ hsh hx
  rw [hc] at hmt
  obtain ⟨v1, w1, e1, ⟨n1, rfl, _⟩, g1⟩ := hmt.uncons
  obtain rfl := g1.unnil
  exact ⟨n1, by simpa using e1⟩
end
end Go.Abs.Try
