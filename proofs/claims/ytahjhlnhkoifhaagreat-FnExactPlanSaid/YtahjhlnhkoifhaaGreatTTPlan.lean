/- FnExactPlan: for all arguments the law answers true. A text of its proof: what functions of the program and of the reference answer; no conditions but those that each theorem names. -/
import Derived.Test.YtahjhlnhkoifhaaGreatPRPlan
set_option linter.unusedSimpArgs false
set_option linter.unusedVariables false
set_option maxRecDepth 100000
namespace Go.Proofs.YtahjhlnhkoifhaaGreat.Plan
open Go Go.Lev
structure Tables where
  mem : Int
  shape : Shape
  tlb : Int
  costs : Costs
  pad : Int
  guard : Int
  major : Int
  parts : List PartRow
  devs : List Int
  chans : List ChanRow
  slots : List Slot
  deriving DecidableEq
def Tables.cells (t : Tables) (a b c d : LV) : Row := [.int .i64 t.mem, .int .i64 t.shape.sets, .int .i64 t.shape.ways, .int .i64 t.shape.line, .int .i64 t.tlb, .int .i64 t.costs.base, .int .i64 t.costs.mul, .int .i64 t.costs.mem, .int .i64 t.costs.miss, .int .i64 t.costs.walk, .int .i64 t.costs.trap, .int .i64 t.costs.line, .int .i64 t.pad, .int .i64 t.guard, .int .i64 t.major, a, b, c, d]
/-- What is read: lists. -/
def Tables.row (b : Bool) (t : Tables) : Row := t.cells (.list 5 (t.parts.map (PartRow.row b))) (.list 1 (t.devs.map IntR)) (.list 4 (t.chans.map ChanRow.row)) (.list 3 (t.slots.map Slot.row))
/-- What is owned: arrays. -/
def Tables.own (t : Tables) : Row := t.cells (.arr 5 (t.parts.map (PartRow.row true))) (.arr 1 (t.devs.map IntR)) (.arr 4 (t.chans.map ChanRow.row)) (.arr 3 (t.slots.map Slot.row))
def Tables.sz (t : Tables) : Int := t.parts.length + total PartRow.sz t.parts + t.devs.length + t.chans.length + t.slots.length
structure Tables.fit (t : Tables) : Prop where
  p : ∀ p ∈ t.parts, p.fit
  parts : t.parts.length * 64 ≤ 140737488355328
  devs : t.devs.length * 8 ≤ 140737488355328
  chans : t.chans.length * 32 ≤ 140737488355328
  slots : t.slots.length * 24 ≤ 140737488355328
theorem PartRow.sz_nn (p : PartRow) : 0 ≤ p.sz := by unfold PartRow.sz; omega

theorem szTables_ok (b : Bool) (t : Tables) (left : Int) (hf : t.fit) (h0 : 0 ≤ left) (h1 : left ≤ 1000000000000000000) :
    L 9 [.agg (t.row b), .int .i64 left] [] = some ([.int .i64 (if left - t.sz < 0 then -1 else left - t.sz)], []) := by
  obtain ⟨fp, f1, f2, f3, f4⟩ := hf
  have hn := total_nonneg PartRow.sz_nn t.parts
  have hs : t.sz = t.parts.length + total PartRow.sz t.parts + t.devs.length + t.chans.length + t.slots.length := rfl
  have e1 : (-1 : Int) < 0 := by decide
  have c1 := szPartRowS_ok b t.parts left fp f1 h0 h1
  rw [e9]
  by_cases g1 : left - (t.parts.length + total PartRow.sz t.parts) < 0
  · rw [if_pos g1] at c1
    have g : left - t.sz < 0 := by omega
    simp only [c9, runF_eq, ex0, ex1, ex2, ex3, ex4, ex5, ex6, ex7, ex8, Nat.reduceAdd, Nat.reduceMul, Nat.reduceSub, Nat.reduceDiv, Nat.reduceEqDiff, Nat.reduceLT, Nat.reduceGT, Nat.reduceLeDiff, reduceIte, reduceCtorEq, Tables.row, Tables.cells, l37, c1, e1, g]
  rw [if_neg g1] at c1
  have c2 := szIntS_ok (t.devs.map IntR) (left - (t.parts.length + total PartRow.sz t.parts)) (by simp; omega) (by omega) (by omega)
  rw [List.length_map] at c2
  by_cases g2 : left - (t.parts.length + total PartRow.sz t.parts) - t.devs.length < 0
  · rw [if_pos g2] at c2
    have g : left - t.sz < 0 := by omega
    simp only [c9, runF_eq, ex0, ex1, ex2, ex3, ex4, ex5, ex6, ex7, ex8, Nat.reduceAdd, Nat.reduceMul, Nat.reduceSub, Nat.reduceDiv, Nat.reduceEqDiff, Nat.reduceLT, Nat.reduceGT, Nat.reduceLeDiff, reduceIte, reduceCtorEq, Tables.row, Tables.cells, l37, c1, e1, g, g1, l38, c2]
  rw [if_neg g2] at c2
  have c3 := szChanRowS_ok (t.chans.map ChanRow.row) (left - (t.parts.length + total PartRow.sz t.parts) - t.devs.length) (by simp; omega) (by omega) (by omega)
  rw [List.length_map] at c3
  by_cases g3 : left - (t.parts.length + total PartRow.sz t.parts) - t.devs.length - t.chans.length < 0
  · rw [if_pos g3] at c3
    have g : left - t.sz < 0 := by omega
    simp only [c9, runF_eq, ex0, ex1, ex2, ex3, ex4, ex5, ex6, ex7, ex8, Nat.reduceAdd, Nat.reduceMul, Nat.reduceSub, Nat.reduceDiv, Nat.reduceEqDiff, Nat.reduceLT, Nat.reduceGT, Nat.reduceLeDiff, reduceIte, reduceCtorEq, Tables.row, Tables.cells, l37, c1, e1, g, g1, l38, c2, g2, l39, c3]
  rw [if_neg g3] at c3
  have c4 := szSlotS_ok (t.slots.map Slot.row) (left - (t.parts.length + total PartRow.sz t.parts) - t.devs.length - t.chans.length) (by simp; omega) (by omega) (by omega)
  rw [List.length_map] at c4
  by_cases g4 : left - (t.parts.length + total PartRow.sz t.parts) - t.devs.length - t.chans.length - t.slots.length < 0
  · rw [if_pos g4] at c4
    have g : left - t.sz < 0 := by omega
    simp only [c9, runF_eq, ex0, ex1, ex2, ex3, ex4, ex5, ex6, ex7, ex8, Nat.reduceAdd, Nat.reduceMul, Nat.reduceSub, Nat.reduceDiv, Nat.reduceEqDiff, Nat.reduceLT, Nat.reduceGT, Nat.reduceLeDiff, reduceIte, reduceCtorEq, Tables.row, Tables.cells, l37, c1, e1, g, g1, l38, c2, g2, l39, c3, g3, l40, c4]
  · rw [if_neg g4] at c4
    have g : ¬ left - t.sz < 0 := by omega
    have ge : left - (t.parts.length + total PartRow.sz t.parts) - t.devs.length - t.chans.length - t.slots.length = left - t.sz := by omega
    rw [ge] at c4
    simp only [c9, runF_eq, ex0, ex1, ex2, ex3, ex4, ex5, ex6, ex7, ex8, Nat.reduceAdd, Nat.reduceMul, Nat.reduceSub, Nat.reduceDiv, Nat.reduceEqDiff, Nat.reduceLT, Nat.reduceGT, Nat.reduceLeDiff, reduceIte, reduceCtorEq, Tables.row, Tables.cells, l37, c1, e1, g, g1, l38, c2, g2, l39, c3, g3, l40, c4]

theorem toTables_ok (b : Bool) (t : Tables) (hf : t.fit) : L 11 [.agg (t.row b)] [] = some ([.agg t.own], []) := by
  obtain ⟨fp, f1, f2, f3, f4⟩ := hf
  have c1 := toPartRowS_ok b t.parts fp f1
  have c2 := toIntS_ok t.devs f2
  have c3 := toChanRowS_ok t.chans f3
  have c4 := toSlotS_ok t.slots f4
  have p1 : rowsPlain (t.parts.map (PartRow.row true)) = true := rowsPlain_map (PartRow.plain _) _
  have p2 : rowsPlain (t.devs.map IntR) = true := rowsPlain_map (fun _ => rfl) _
  have p3 : rowsPlain (t.chans.map ChanRow.row) = true := rowsPlain_map (fun _ => rfl) _
  have p4 : rowsPlain (t.slots.map Slot.row) = true := rowsPlain_map (fun _ => rfl) _
  have v1 : vw (t.parts.map (PartRow.row true)) 0 t.parts.length = t.parts.map (PartRow.row true) := vw_full (by simp)
  have v2 : vw (t.devs.map IntR) 0 t.devs.length = t.devs.map IntR := vw_full (by simp)
  have v3 : vw (t.chans.map ChanRow.row) 0 t.chans.length = t.chans.map ChanRow.row := vw_full (by simp)
  have v4 : vw (t.slots.map Slot.row) 0 t.slots.length = t.slots.map Slot.row := vw_full (by simp)
  rw [e11]
  simp only [c11, runF_eq, ex0, ex1, ex2, ex3, ex4, ex5, ex6, ex7, ex8, Nat.reduceAdd, Nat.reduceMul, Nat.reduceSub, Nat.reduceDiv, Nat.reduceEqDiff, Nat.reduceLT, Nat.reduceGT, Nat.reduceLeDiff, reduceIte, reduceCtorEq, Tables.row, Tables.own, Tables.cells, List.length_map, l44, toShape_ok, l45, toCosts_ok, l46, c1, l12, c2, l47, c3, l48, c4, p1, p2, p3, p4, v1, v2, v3, v4]

set_option maxHeartbeats 1000000 in
theorem eqTables_ok (b b' : Bool) (t u : Tables) (hf : t.fit) : L 14 [.agg (t.row b), .agg (u.row b')] [] = some ([.bool (decide (t = u))], []) := by
  obtain ⟨fp, f1, f2, f3, f4⟩ := hf
  have c1 := eqPartRowS_ok b b' t.parts u.parts fp (by omega)
  have c2 := eqIntS_ok t.devs u.devs (by omega)
  have c3 := eqChanRowS_ok t.chans u.chans (by omega)
  have c4 := eqSlotS_ok t.slots u.slots (by omega)
  rw [e14]
  simp only [c14, runF_eq, ex0, ex1, ex2, ex3, ex4, ex5, ex6, ex7, ex8, Nat.reduceAdd, Nat.reduceMul, Nat.reduceSub, Nat.reduceDiv, Nat.reduceEqDiff, Nat.reduceLT, Nat.reduceGT, Nat.reduceLeDiff, reduceIte, reduceCtorEq, Tables.row, Tables.cells, l54, eqShape_ok, l55, eqCosts_ok, l56, c1, l15, c2, l57, c3, l58, c4]
  clear c1 c2 c3 c4 fp f1 f2 f3 f4
  obtain ⟨mem, ⟨s1, s2, s3⟩, tlb, ⟨k1, k2, k3, k4, k5, k6, k7⟩, pad, guard, major, parts, devs, chans, slots⟩ := t
  obtain ⟨mem', ⟨s1', s2', s3'⟩, tlb', ⟨k1', k2', k3', k4', k5', k6', k7'⟩, pad', guard', major', parts', devs', chans', slots'⟩ := u
  simp only [Tables.mk.injEq]
  generalize Shape.mk s1 s2 s3 = s, Shape.mk s1' s2' s3' = s', Costs.mk k1 k2 k3 k4 k5 k6 k7 = k, Costs.mk k1' k2' k3' k4' k5' k6' k7' = k'
  repeat' split
  all_goals first | (simp_all; done) | grind

def Tables.cost (t : Tables) : Int := total PartRow.cost t.parts + total costInt t.devs + total ChanRow.cost t.chans + total Slot.cost t.slots
def Tables.mk' (t : Tables) (k : Int) : Tables :=
  { t with
    parts := marks PartRow.cost PartRow.mk' t.parts k
    devs := marks costInt mkInt t.devs (k + total PartRow.cost t.parts)
    chans := marks ChanRow.cost ChanRow.mk' t.chans (k + total PartRow.cost t.parts + total costInt t.devs)
    slots := marks Slot.cost Slot.mk' t.slots (k + total PartRow.cost t.parts + total costInt t.devs + total ChanRow.cost t.chans) }
theorem ctotal (ws : List ChanRow) : total ChanRow.cost ws = 4 * ws.length := by
  induction ws with
  | nil => rfl
  | cons w r ih => simp only [total, ih, ChanRow.cost, List.length_cons]; omega
theorem stotal (ws : List Slot) : total Slot.cost ws = 3 * ws.length := by
  induction ws with
  | nil => rfl
  | cons w r ih => simp only [total, ih, Slot.cost, List.length_cons]; omega
theorem itotal (ws : List Int) : total costInt ws = ws.length := by
  induction ws with
  | nil => rfl
  | cons w r ih => simp only [total, ih, costInt, List.length_cons]; omega

theorem markTables_ok (t : Tables) (k : Int) (hf : t.fit) (h0 : 1 ≤ k) (h1 : k + t.cost ≤ 100000000000000000) :
    L 16 [.agg (t.cells (.sl 5 900015 0 t.parts.length) (.sl 1 900016 0 t.devs.length) (.sl 4 900017 0 t.chans.length) (.sl 3 900018 0 t.slots.length)), .int .i64 k]
      [(900015, some (t.parts.map (PartRow.row true))), (900016, some (t.devs.map IntR)), (900017, some (t.chans.map ChanRow.row)), (900018, some (t.slots.map Slot.row))]
    = some ([.int .i64 (k + t.cost)], [(900015, some ((t.mk' k).parts.map (PartRow.row true))), (900016, some ((t.mk' k).devs.map IntR)), (900017, some ((t.mk' k).chans.map ChanRow.row)), (900018, some ((t.mk' k).slots.map Slot.row))]) := by
  obtain ⟨fp, f1, f2, f3, f4⟩ := hf
  have n1 := total_nonneg PartRow.cost_nn t.parts
  have n2 := itotal t.devs
  have n3 := ctotal t.chans
  have n4 := stotal t.slots
  have ht : t.cost = total PartRow.cost t.parts + total costInt t.devs + total ChanRow.cost t.chans + total Slot.cost t.slots := rfl
  have c1 := markPartRowS_ok t.parts k fp (by omega) h0 (by omega)
  have c2 := markIntS_ok t.devs (k + total PartRow.cost t.parts) (by omega) (by omega) (by omega)
  have c3 := markChanRowS_ok t.chans (k + total PartRow.cost t.parts + total costInt t.devs) (by omega) (by omega) (by omega)
  have c4 := markSlotS_ok t.slots (k + total PartRow.cost t.parts + total costInt t.devs + total ChanRow.cost t.chans) (by omega) (by omega) (by omega)
  have ge : k + total PartRow.cost t.parts + total costInt t.devs + total ChanRow.cost t.chans + total Slot.cost t.slots = k + t.cost := by omega
  rw [ge] at c4
  have p1 : rowsPlain (t.parts.map (PartRow.row true)) = true := rowsPlain_map (PartRow.plain _) _
  have p2 : rowsPlain (t.devs.map IntR) = true := rowsPlain_map (fun _ => rfl) _
  have p3 : rowsPlain (t.chans.map ChanRow.row) = true := rowsPlain_map (fun _ => rfl) _
  have p4 : rowsPlain (t.slots.map Slot.row) = true := rowsPlain_map (fun _ => rfl) _
  have q1 : rowsPlain ((marks PartRow.cost PartRow.mk' t.parts k).map (PartRow.row true)) = true := rowsPlain_map (PartRow.plain _) _
  have q2 : rowsPlain ((marks costInt mkInt t.devs (k + total PartRow.cost t.parts)).map IntR) = true := rowsPlain_map (fun _ => rfl) _
  have q3 : rowsPlain ((marks ChanRow.cost ChanRow.mk' t.chans (k + total PartRow.cost t.parts + total costInt t.devs)).map ChanRow.row) = true := rowsPlain_map (fun _ => rfl) _
  have q4 : rowsPlain ((marks Slot.cost Slot.mk' t.slots (k + total PartRow.cost t.parts + total costInt t.devs + total ChanRow.cost t.chans)).map Slot.row) = true := rowsPlain_map (fun _ => rfl) _
  rw [e16]
  simp only [c16, runF_eq, ex0, ex1, ex2, ex3, ex4, ex5, ex6, ex7, ex8, Nat.reduceAdd, Nat.reduceMul, Nat.reduceSub, Nat.reduceDiv, Nat.reduceEqDiff, Nat.reduceLT, Nat.reduceGT, Nat.reduceLeDiff, reduceIte, reduceCtorEq, Tables.cells, Tables.mk', List.length_map, marks_length, l59, c1, l17, c2, l60, c3, l61, c4, p1, p2, p3, p4, q1, q2, q3, q4]

theorem heldTables_ok (b : Bool) (t : Tables) (k : Int) (hf : t.fit) (h0 : 1 ≤ k) (h1 : k + t.cost ≤ 100000000000000000) :
    L 18 [.agg ((t.mk' k).row b), .int .i64 k] [] = some ([.int .i64 (k + t.cost)], []) := by
  obtain ⟨fp, f1, f2, f3, f4⟩ := hf
  have n1 := total_nonneg PartRow.cost_nn t.parts
  have n2 := itotal t.devs
  have n3 := ctotal t.chans
  have n4 := stotal t.slots
  have ht : t.cost = total PartRow.cost t.parts + total costInt t.devs + total ChanRow.cost t.chans + total Slot.cost t.slots := rfl
  have c1 := heldPartRowS_ok b t.parts k fp (by omega) h0 (by omega)
  have c2 := heldIntS_ok t.devs (k + total PartRow.cost t.parts) (by omega) (by omega) (by omega)
  have c3 := heldChanRowS_ok t.chans (k + total PartRow.cost t.parts + total costInt t.devs) (by omega) (by omega) (by omega)
  have c4 := heldSlotS_ok t.slots (k + total PartRow.cost t.parts + total costInt t.devs + total ChanRow.cost t.chans) (by omega) (by omega) (by omega)
  have ge : k + total PartRow.cost t.parts + total costInt t.devs + total ChanRow.cost t.chans + total Slot.cost t.slots = k + t.cost := by omega
  rw [ge] at c4
  have g1 : ¬ k + total PartRow.cost t.parts < 0 := by omega
  have g2 : ¬ k + total PartRow.cost t.parts + total costInt t.devs < 0 := by omega
  have g3 : ¬ k + total PartRow.cost t.parts + total costInt t.devs + total ChanRow.cost t.chans < 0 := by omega
  have g4 : ¬ k + t.cost < 0 := by omega
  rw [e18]
  simp only [c18, runF_eq, ex0, ex1, ex2, ex3, ex4, ex5, ex6, ex7, ex8, Nat.reduceAdd, Nat.reduceMul, Nat.reduceSub, Nat.reduceDiv, Nat.reduceEqDiff, Nat.reduceLT, Nat.reduceGT, Nat.reduceLeDiff, reduceIte, reduceCtorEq, Tables.row, Tables.cells, Tables.mk', l62, c1, l63, c2, l64, c3, l65, c4, g1, g2, g3, g4]
end Go.Proofs.YtahjhlnhkoifhaaGreat.Plan
