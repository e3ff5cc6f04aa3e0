/- Reading a state whole: its processes and its watches too. -/
import Derived.Test.YtlmkmmkhfkdagaaRState
import Derived.Test.YtlmkmmkhfkdagaaDeepM
set_option linter.unusedVariables false
set_option linter.unusedSimpArgs false
set_option maxRecDepth 8000
namespace Go.Abs.Try
open Go Go.Abs Go.Proofs

section
variable {H : Type} {enc : TypeId × Value → H} {W : World}
theorem und_texts : Try.prog.underlying 98 = some (.slice 9) := by kernel_rfl
theorem und_nodes : Try.prog.underlying 81 = some (.slice 100) := by kernel_rfl
theorem und_flows : Try.prog.underlying 82 = some (.slice 103) := by kernel_rfl
theorem und_procs : Try.prog.underlying 22 = some (.slice 84) := by kernel_rfl
theorem und_watches : Try.prog.underlying 25 = some (.slice 86) := by kernel_rfl
theorem shape_text : shapeOf Try.prog 6 9 = some [.s] := by kernel_rfl
theorem shape_flow : shapeOf Try.prog 6 103 = some [.i .i64, .i .i64, .s, .b] := by kernel_rfl
theorem shape_node : shapeOf Try.prog 6 100 = some [.s, .i .u8, .i .i64, .i .i64, .i .u8, .s, .s, .s, .b, .sl 28 37, .sl 98 9] := by kernel_rfl
theorem shape_proc : shapeOf Try.prog 6 84 = some [.s, .sl 28 37, .sl 81 100, .sl 82 103] := by kernel_rfl
theorem shape_watch : shapeOf Try.prog 6 86 = some [.i .i64, .i .i64, .i .i64, .i .u8, .s, .i .i64, .b] := by kernel_rfl
theorem shape_state : shapeOf Try.prog 6 27 = some [.i .i64, .i .i64, .sl 22 84, .sl 23 54, .sl 24 39, .sl 25 86] := by kernel_rfl
theorem cells_text : Try.prog.cellsOf 9 = 1 := by kernel_rfl
theorem cells_flow : Try.prog.cellsOf 103 = 4 := by kernel_rfl
theorem cells_node : Try.prog.cellsOf 100 = 11 := by kernel_rfl
theorem cells_proc : Try.prog.cellsOf 84 = 4 := by kernel_rfl
theorem cells_watch : Try.prog.cellsOf 86 = 7 := by kernel_rfl

theorem open_vars2 {v : Value} (hx : ∃ fuel x, DataW.trod enc Try.prog W 0 (fun _ => true) true fuel 28 [v] = some x) (A : Nat → Prop) (h : Heap) : ∃ cs : List VarM, Rel (G0 W) W A h (.lst 4 (cs.map flVar)) v ∧ cs.length ≤ maxLen := by
  obtain ⟨rows, hr, hm, hlen⟩ := rows_of und_vars (by rw [cells_var]; omega) shape_var hx A h
  obtain ⟨xs, h1, _⟩ := rows_model flVar fun r hr => (hm r hr).vars
  rw [cells_var, h1] at hr
  have := congrArg List.length h1
  simp only [List.length_map] at this
  exact ⟨xs, hr, by omega⟩

theorem open_texts {v : Value} (hx : ∃ fuel x, DataW.trod enc Try.prog W 0 (fun _ => true) true fuel 98 [v] = some x) (A : Nat → Prop) (h : Heap) : ∃ cs : List ByteArray, Rel (G0 W) W A h (.lst 1 (cs.map flText)) v ∧ cs.length ≤ maxLen := by
  obtain ⟨rows, hr, hm, hlen⟩ := rows_of und_texts (by rw [cells_text]; omega) shape_text hx A h
  obtain ⟨xs, h1, _⟩ := rows_model (Q := fun _ => True) flText fun r hr => by
    obtain ⟨v1, _, rfl, ⟨n1, rfl, _⟩, g⟩ := (hm r hr).uncons
    obtain rfl := g.unnil
    exact ⟨n1, rfl, trivial⟩
  rw [cells_text, h1] at hr
  have := congrArg List.length h1
  simp only [List.length_map] at this
  exact ⟨xs, hr, by omega⟩

theorem open_flows {v : Value} (hx : ∃ fuel x, DataW.trod enc Try.prog W 0 (fun _ => true) true fuel 82 [v] = some x) (A : Nat → Prop) (h : Heap) : ∃ cs : List FlowM, Rel (G0 W) W A h (.lst 4 (cs.map flFlow)) v ∧ cs.length ≤ maxLen := by
  obtain ⟨rows, hr, hm, hlen⟩ := rows_of und_flows (by rw [cells_flow]; omega) shape_flow hx A h
  obtain ⟨xs, h1, _⟩ := rows_model (Q := fun _ => True) flFlow fun r hr => by
    obtain ⟨v1, _, rfl, ⟨n1, rfl, _⟩, g1⟩ := (hm r hr).uncons
    obtain ⟨v2, _, rfl, ⟨n2, rfl, _⟩, g2⟩ := g1.uncons
    obtain ⟨v3, _, rfl, ⟨n3, rfl, _⟩, g3⟩ := g2.uncons
    obtain ⟨v4, _, rfl, ⟨n4, rfl⟩, g4⟩ := g3.uncons
    obtain rfl := g4.unnil
    exact ⟨⟨n1, n2, n3, n4⟩, rfl, trivial⟩
  rw [cells_flow, h1] at hr
  have := congrArg List.length h1
  simp only [List.length_map] at this
  exact ⟨xs, hr, by omega⟩

theorem open_watches {v : Value} (hx : ∃ fuel x, DataW.trod enc Try.prog W 0 (fun _ => true) true fuel 25 [v] = some x) (A : Nat → Prop) (h : Heap) : ∃ cs : List WatchM, Rel (G0 W) W A h (.lst 7 (cs.map flWatch)) v ∧ cs.length ≤ maxLen := by
  obtain ⟨rows, hr, hm, hlen⟩ := rows_of und_watches (by rw [cells_watch]; omega) shape_watch hx A h
  obtain ⟨xs, h1, _⟩ := rows_model (Q := fun _ => True) flWatch fun r hr => by
    obtain ⟨v1, _, rfl, ⟨n1, rfl, _⟩, g1⟩ := (hm r hr).uncons
    obtain ⟨v2, _, rfl, ⟨n2, rfl, _⟩, g2⟩ := g1.uncons
    obtain ⟨v3, _, rfl, ⟨n3, rfl, _⟩, g3⟩ := g2.uncons
    obtain ⟨v4, _, rfl, ⟨n4, rfl, _⟩, g4⟩ := g3.uncons
    obtain ⟨v5, _, rfl, ⟨n5, rfl, _⟩, g5⟩ := g4.uncons
    obtain ⟨v6, _, rfl, ⟨n6, rfl, _⟩, g6⟩ := g5.uncons
    obtain ⟨v7, _, rfl, ⟨n7, rfl⟩, g7⟩ := g6.uncons
    obtain rfl := g7.unnil
    exact ⟨⟨n1, n2, n3, n4, n5, n6, n7⟩, rfl, trivial⟩
  rw [cells_watch, h1] at hr
  have := congrArg List.length h1
  simp only [List.length_map] at this
  exact ⟨xs, hr, by omega⟩

theorem open_nodes {v : Value} (hx : ∃ fuel x, DataW.trod enc Try.prog W 0 (fun _ => true) true fuel 81 [v] = some x) (A : Nat → Prop) (h : Heap) :
    ∃ cs : List NodeM, Rel (G0 W) W A h (.lst 11 (cs.map flNode)) v ∧ cs.length ≤ maxLen ∧ ∀ n ∈ cs, n.vars.length ≤ 9223372036854775807 ∧ n.back.length ≤ 9223372036854775807 := by
  obtain ⟨rows, hr, hm, hlen⟩ := rows_of und_nodes (by rw [cells_node]; omega) shape_node hx A h
  obtain ⟨xs, h1, h2, h3⟩ := rows_fl (Q := fun n : NodeM => n.vars.length ≤ 9223372036854775807 ∧ n.back.length ≤ 9223372036854775807) (R := fun x r => Rels (G0 W) W (fun _ => False) nil' (flNode x) r) fun r hr => by
    obtain ⟨v1, _, rfl, ⟨n1, rfl, _⟩, g1⟩ := (hm r hr).uncons
    obtain ⟨v2, _, rfl, ⟨n2, rfl, _⟩, g2⟩ := g1.uncons
    obtain ⟨v3, _, rfl, ⟨n3, rfl, _⟩, g3⟩ := g2.uncons
    obtain ⟨v4, _, rfl, ⟨n4, rfl, _⟩, g4⟩ := g3.uncons
    obtain ⟨v5, _, rfl, ⟨n5, rfl, _⟩, g5⟩ := g4.uncons
    obtain ⟨v6, _, rfl, ⟨n6, rfl, _⟩, g6⟩ := g5.uncons
    obtain ⟨v7, _, rfl, ⟨n7, rfl, _⟩, g7⟩ := g6.uncons
    obtain ⟨v8, _, rfl, ⟨n8, rfl, _⟩, g8⟩ := g7.uncons
    obtain ⟨v9, _, rfl, ⟨n9, rfl⟩, g9⟩ := g8.uncons
    obtain ⟨v10, _, rfl, k10, g10⟩ := g9.uncons
    obtain ⟨v11, _, rfl, k11, g11⟩ := g10.uncons
    obtain rfl := g11.unnil
    obtain ⟨vs, r10, l10⟩ := open_vars2 k10.2 (fun _ => False) nil'
    obtain ⟨ts, r11, l11⟩ := open_texts k11.2 (fun _ => False) nil'
    exact ⟨⟨n1, n2, n3, n4, n5, n6, n7, n8, n9, vs, ts⟩, rels_cons (.sc ..) (rels_cons (.sc ..) (rels_cons (.sc ..) (rels_cons (.sc ..) (rels_cons (.sc ..) (rels_cons (.sc ..) (rels_cons (.sc ..) (rels_cons (.sc ..) (rels_cons (.sc ..) (rels_cons r10 (rels_cons r11 rels_nil)))))))))), l10, l11⟩
  rw [cells_node] at hr
  exact ⟨xs, lst_deep h1 hr h2, by omega, h3⟩

theorem open_procs {v : Value} (hx : ∃ fuel x, DataW.trod enc Try.prog W 0 (fun _ => true) true fuel 22 [v] = some x) (A : Nat → Prop) (h : Heap) :
    ∃ cs : List ProcM, Rel (G0 W) W A h (.lst 4 (cs.map flProc)) v ∧ cs.length ≤ maxLen ∧ ∀ p ∈ cs, p.fits := by
  obtain ⟨rows, hr, hm, hlen⟩ := rows_of und_procs (by rw [cells_proc]; omega) shape_proc hx A h
  obtain ⟨xs, h1, h2, h3⟩ := rows_fl (Q := fun p : ProcM => p.fits) (R := fun x r => Rels (G0 W) W (fun _ => False) nil' (flProc x) r) fun r hr => by
    obtain ⟨v1, _, rfl, ⟨n1, rfl, _⟩, g1⟩ := (hm r hr).uncons
    obtain ⟨v2, _, rfl, k2, g2⟩ := g1.uncons
    obtain ⟨v3, _, rfl, k3, g3⟩ := g2.uncons
    obtain ⟨v4, _, rfl, k4, g4⟩ := g3.uncons
    obtain rfl := g4.unnil
    obtain ⟨vs, r2, l2⟩ := open_vars2 k2.2 (fun _ => False) nil'
    obtain ⟨ns, r3, l3, f3⟩ := open_nodes k3.2 (fun _ => False) nil'
    obtain ⟨fs, r4, l4⟩ := open_flows k4.2 (fun _ => False) nil'
    exact ⟨⟨n1, vs, ns, fs⟩, rels_cons (.sc ..) (rels_cons r2 (rels_cons r3 (rels_cons r4 rels_nil))), l2, l3, l4, f3⟩
  rw [cells_proc] at hr
  exact ⟨xs, lst_deep h1 hr h2, by omega, h3⟩

theorem open_state2 {v : Value} {base : Nat} (hok : Value.okWide Try.prog W .any base 27 v) (hx : ∃ fuel x, DataW.trod enc Try.prog W 0 (fun _ => true) true fuel 27 v.cells.toList = some x) (A : Nat → Prop) (h : Heap) :
    ∃ s : StM, Rel (G0 W) W A h (.agg (flSt s)) v ∧ (∃ ps : List ProcM, s.defs = .lst 4 (ps.map flProc) ∧ ∀ p ∈ ps, p.fits) ∧ ∃ ws : List WatchM, s.watches = .lst 7 (ws.map flWatch) := by
  have hmt := shapeOf_sound 6 27 _ _ shape_state hx
  have hs : ∃ cs, v = .agg cs := by
    unfold Value.okWide at hok
    split at hok
    · obtain ⟨cs, rfl, _, _⟩ := hok; exact ⟨_, rfl⟩
    · obtain ⟨cs, rfl, _, _⟩ := hok; exact ⟨_, rfl⟩
    · rename_i hn1 hn2
      exact absurd (show Try.prog.underlying 27 = some (.struct ((match Try.prog.underlying 27 with | some (.struct fs) => fs | _ => #[]))) by kernel_rfl) (hn1 _)
  obtain ⟨cs, rfl⟩ := hs
  have hone := hmt.one
  obtain ⟨v1, w1, e1, ⟨n1, rfl, _⟩, g1⟩ := hmt.uncons
  obtain ⟨v2, w2, rfl, ⟨n2, rfl, _⟩, g2⟩ := g1.uncons
  obtain ⟨v3, w3, rfl, h3, g3⟩ := g2.uncons
  obtain ⟨v4, w4, rfl, h4, g4⟩ := g3.uncons
  obtain ⟨v5, w5, rfl, h5, g5⟩ := g4.uncons
  obtain ⟨v6, w6, rfl, h6, g6⟩ := g5.uncons
  obtain rfl := g6.unnil
  obtain ⟨ps, r3, _, hfit⟩ := open_procs h3.2 A h
  obtain ⟨items, r4⟩ := open_items h4.2 A h
  obtain ⟨cells, r5⟩ := open_cells h5.2 A h
  obtain ⟨ws, r6, _⟩ := open_watches h6.2 A h
  refine ⟨⟨n1, n2, .lst 4 (ps.map flProc), items, cells, .lst 7 (ws.map flWatch)⟩, ?_, ⟨ps, rfl, hfit⟩, ws, rfl⟩
  have hcs : cs = [.int .i64 n1, .int .i64 n2, v3, v4, v5, v6].toArray := by
    apply Array.ext'
    exact e1
  have hall := rels_cons (.sc A h (.int .i64 n1)) (rels_cons (.sc A h (.int .i64 n2)) (rels_cons r3 (rels_cons r4 (rels_cons r5 (rels_cons r6 rels_nil)))))
  subst hcs
  exact .agg A h _ _ hall.1 (fun u hu => hone u (by simpa [Value.cells] using hu)) hall.2
end
end Go.Abs.Try
