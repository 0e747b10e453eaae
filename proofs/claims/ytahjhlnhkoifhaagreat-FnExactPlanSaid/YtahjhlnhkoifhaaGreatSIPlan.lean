/- FnExactPlan: for all arguments the law answers true. A text of its proof: what functions of the program and of the reference answer; no conditions but those that each theorem names. -/
import Derived.Test.YtahjhlnhkoifhaaGreatSHPlan
set_option linter.unusedSimpArgs false
set_option linter.unusedVariables false
set_option maxRecDepth 100000
namespace Go.Proofs.YtahjhlnhkoifhaaGreat.Plan
open Go Go.Lev
theorem any_not {α : Type} (p : α → Bool) : ∀ xs : List α, (xs.any fun x => !(p x)) = !(xs.all p)
  | [] => rfl
  | x :: r => by rw [List.any_cons, List.all_cons, any_not p r, Bool.not_and]
def soundI (t : Tables) : Bool := headOk t && (inB t.parts.length 1 6 && ((foldO (partStep t) 0 [] t.parts).isSome && (decide (t.devs.length ≤ 8) && (t.devs.all (fun d => inB d 0 (t.parts.length - 1)) && (decide (t.chans.length ≤ 8) && (t.chans.all (chanIn t.parts.length) && (decide (wpad t.costs t.shape t.chans ≤ t.pad) && slotsOk t)))))))
set_option maxHeartbeats 8000000 in
theorem isSound_ok (b : Bool) (t : Tables) (hf : t.fit) : L 49 [.agg (t.row b)] [] = some ([.bool (soundI t)], []) := by
  have hf' := hf
  obtain ⟨fp, f1, f2, f3, f4⟩ := hf'
  have hs : L 92 [.agg [.int .i64 t.shape.sets, .int .i64 t.shape.ways, .int .i64 t.shape.line]] [] = some ([.bool (shapeOk t.shape)], []) := isShape_ok _ _ _
  have hc : L 93 [.agg [.int .i64 t.costs.base, .int .i64 t.costs.mul, .int .i64 t.costs.mem, .int .i64 t.costs.miss, .int .i64 t.costs.walk, .int .i64 t.costs.trap, .int .i64 t.costs.line]] [] = some ([.bool (costsOk t.costs)], []) := areCosts_ok _ _ _ _ _ _ _
  have hap := areParts_ok b t hf
  have has := areSlots_ok b t hf
  simp only [Tables.row, Tables.cells] at hap has
  rw [e49]
  have r2e : ∀ v, (inB t.mem 64 2048 && decide (t.mem.tmod 4 = 0)) = v → v = false → headOk t = false := fun v h1 h2 => by
    rw [h2] at h1
    simp only [headOk, h1, Bool.false_and]
  cases r2 : (inB t.mem 64 2048 && decide (t.mem.tmod 4 = 0)) with
  | false =>
    have hh : headOk t = false := r2e _ r2 rfl
    simp only [c49, runF_eq, ex0, ex1, ex2, ex3, ex4, ex5, ex6, ex7, ex8, Nat.reduceAdd, Nat.reduceMul, Nat.reduceSub, Nat.reduceDiv, Nat.reduceEqDiff, Nat.reduceLT, Nat.reduceGT, Nat.reduceLeDiff, reduceIte, reduceCtorEq, Tables.row, Tables.cells, l91, isMem_ok, l92, hs, l52, within_ok, l93, hc, l94, isSpan_ok, r2, soundI, hh, Bool.false_and]
  | true =>
  cases q3 : shapeOk t.shape with
  | false =>
    rw [q3] at hs
    have hh : headOk t = false := by simp [headOk, q3]
    simp only [c49, runF_eq, ex0, ex1, ex2, ex3, ex4, ex5, ex6, ex7, ex8, Nat.reduceAdd, Nat.reduceMul, Nat.reduceSub, Nat.reduceDiv, Nat.reduceEqDiff, Nat.reduceLT, Nat.reduceGT, Nat.reduceLeDiff, reduceIte, reduceCtorEq, Tables.row, Tables.cells, l91, isMem_ok, l92, hs, l52, within_ok, l93, hc, l94, isSpan_ok, r2, q3, soundI, hh, Bool.false_and]
  | true =>
  rw [q3] at hs
  cases r4 : inB t.tlb 1 8 with
  | false =>
    have hh : headOk t = false := by simp [headOk, r4]
    simp only [c49, runF_eq, ex0, ex1, ex2, ex3, ex4, ex5, ex6, ex7, ex8, Nat.reduceAdd, Nat.reduceMul, Nat.reduceSub, Nat.reduceDiv, Nat.reduceEqDiff, Nat.reduceLT, Nat.reduceGT, Nat.reduceLeDiff, reduceIte, reduceCtorEq, Tables.row, Tables.cells, l91, isMem_ok, l92, hs, l52, within_ok, l93, hc, l94, isSpan_ok, r2, r4, soundI, hh, Bool.false_and]
  | true =>
  cases hk : costsOk t.costs with
  | false =>
    rw [hk] at hc
    have hh : headOk t = false := by simp [headOk, hk]
    simp only [c49, runF_eq, ex0, ex1, ex2, ex3, ex4, ex5, ex6, ex7, ex8, Nat.reduceAdd, Nat.reduceMul, Nat.reduceSub, Nat.reduceDiv, Nat.reduceEqDiff, Nat.reduceLT, Nat.reduceGT, Nat.reduceLeDiff, reduceIte, reduceCtorEq, Tables.row, Tables.cells, l91, isMem_ok, l92, hs, l52, within_ok, l93, hc, l94, isSpan_ok, r2, r4, hk, soundI, hh, Bool.false_and]
  | true =>
  rw [hk] at hc
  cases r6 : inB t.pad 1 5000 with
  | false =>
    have hh : headOk t = false := by simp [headOk, r6]
    simp only [c49, runF_eq, ex0, ex1, ex2, ex3, ex4, ex5, ex6, ex7, ex8, Nat.reduceAdd, Nat.reduceMul, Nat.reduceSub, Nat.reduceDiv, Nat.reduceEqDiff, Nat.reduceLT, Nat.reduceGT, Nat.reduceLeDiff, reduceIte, reduceCtorEq, Tables.row, Tables.cells, l91, isMem_ok, l92, hs, l52, within_ok, l93, hc, l94, isSpan_ok, r2, r4, r6, soundI, hh, Bool.false_and]
  | true =>
  cases r7 : inB t.guard 1 5000 with
  | false =>
    have hh : headOk t = false := by simp [headOk, r7]
    simp only [c49, runF_eq, ex0, ex1, ex2, ex3, ex4, ex5, ex6, ex7, ex8, Nat.reduceAdd, Nat.reduceMul, Nat.reduceSub, Nat.reduceDiv, Nat.reduceEqDiff, Nat.reduceLT, Nat.reduceGT, Nat.reduceLeDiff, reduceIte, reduceCtorEq, Tables.row, Tables.cells, l91, isMem_ok, l92, hs, l52, within_ok, l93, hc, l94, isSpan_ok, r2, r4, r6, r7, soundI, hh, Bool.false_and]
  | true =>
  cases r8 : inB t.major 1 5000 with
  | false =>
    have hh : headOk t = false := by simp [headOk, r8]
    simp only [c49, runF_eq, ex0, ex1, ex2, ex3, ex4, ex5, ex6, ex7, ex8, Nat.reduceAdd, Nat.reduceMul, Nat.reduceSub, Nat.reduceDiv, Nat.reduceEqDiff, Nat.reduceLT, Nat.reduceGT, Nat.reduceLeDiff, reduceIte, reduceCtorEq, Tables.row, Tables.cells, l91, isMem_ok, l92, hs, l52, within_ok, l93, hc, l94, isSpan_ok, r2, r4, r6, r7, r8, soundI, hh, Bool.false_and]
  | true =>
  have hw := worstStep_ok t.costs hk
  by_cases r9 : t.guard < wstep t.costs
  · have hh : headOk t = false := by
      have : decide (wstep t.costs ≤ t.guard) = false := by simp; omega
      simp only [headOk, this, Bool.and_false]
    simp only [c49, runF_eq, ex0, ex1, ex2, ex3, ex4, ex5, ex6, ex7, ex8, Nat.reduceAdd, Nat.reduceMul, Nat.reduceSub, Nat.reduceDiv, Nat.reduceEqDiff, Nat.reduceLT, Nat.reduceGT, Nat.reduceLeDiff, reduceIte, reduceCtorEq, Tables.row, Tables.cells, l91, isMem_ok, l92, hs, l52, within_ok, l93, hc, l94, isSpan_ok, r2, r4, r6, r7, r8, l95, hw, r9, soundI, hh, Bool.false_and]
  · have hh : headOk t = true := by
      have : decide (wstep t.costs ≤ t.guard) = true := by simp; omega
      simp only [headOk, this, r2, q3, r4, hk, r6, r7, r8, Bool.and_self, Bool.true_and]
    cases g0 : inB t.parts.length 1 6 with
    | false =>
      simp only [c49, runF_eq, ex0, ex1, ex2, ex3, ex4, ex5, ex6, ex7, ex8, Nat.reduceAdd, Nat.reduceMul, Nat.reduceSub, Nat.reduceDiv, Nat.reduceEqDiff, Nat.reduceLT, Nat.reduceGT, Nat.reduceLeDiff, reduceIte, reduceCtorEq, ren0_pimm, frzCell_int, frzCell_str, frzCell_bool, Tables.row, Tables.cells, List.length_map, l91, isMem_ok, r2, l92, hs, l52, within_ok, r4, l93, hc, l94, isSpan_ok, r6, r7, r8, l95, hw, r9, g0, soundI, hh, Bool.true_and, Bool.false_and]
    | true =>
    have g0' := inB_iff.1 g0
    have hap := hap (by omega)
    cases g1 : (foldO (partStep t) 0 [] t.parts).isSome with
    | false =>
      rw [g1] at hap
      simp only [c49, runF_eq, ex0, ex1, ex2, ex3, ex4, ex5, ex6, ex7, ex8, Nat.reduceAdd, Nat.reduceMul, Nat.reduceSub, Nat.reduceDiv, Nat.reduceEqDiff, Nat.reduceLT, Nat.reduceGT, Nat.reduceLeDiff, reduceIte, reduceCtorEq, ren0_pimm, frzCell_int, frzCell_str, frzCell_bool, Tables.row, Tables.cells, List.length_map, l91, isMem_ok, r2, l92, hs, l52, within_ok, r4, l93, hc, l94, isSpan_ok, r6, r7, r8, l95, hw, r9, g0, l96, hap, soundI, hh, g1, Bool.true_and, Bool.false_and]
    | true =>
    rw [g1] at hap
    by_cases g2 : (8 : Int) < t.devs.length
    · have g2' : decide (t.devs.length ≤ 8) = false := by simp; omega
      simp only [c49, runF_eq, ex0, ex1, ex2, ex3, ex4, ex5, ex6, ex7, ex8, Nat.reduceAdd, Nat.reduceMul, Nat.reduceSub, Nat.reduceDiv, Nat.reduceEqDiff, Nat.reduceLT, Nat.reduceGT, Nat.reduceLeDiff, reduceIte, reduceCtorEq, ren0_pimm, frzCell_int, frzCell_str, frzCell_bool, Tables.row, Tables.cells, List.length_map, l91, isMem_ok, r2, l92, hs, l52, within_ok, r4, l93, hc, l94, isSpan_ok, r6, r7, r8, l95, hw, r9, g0, l96, hap, g2, soundI, hh, g1, g2', Bool.true_and, Bool.false_and]
    have g2' : decide (t.devs.length ≤ 8) = true := by simp; omega
    have hd := ContainsFuncI_ok t.devs 97 [.pimm [.int .i64 t.parts.length]] (.inr ⟨_, rfl⟩) (fun d => !(inB d 0 (t.parts.length - 1))) (by omega) (fun d _ => by
      rw [l97 (by decide)]
      exact isSound1_ok d t.parts.length (by omega))
    rw [any_not] at hd
    cases g3 : t.devs.all (fun d => inB d 0 (t.parts.length - 1)) with
    | false =>
      rw [g3] at hd
      simp only [c49, runF_eq, ex0, ex1, ex2, ex3, ex4, ex5, ex6, ex7, ex8, Nat.reduceAdd, Nat.reduceMul, Nat.reduceSub, Nat.reduceDiv, Nat.reduceEqDiff, Nat.reduceLT, Nat.reduceGT, Nat.reduceLeDiff, reduceIte, reduceCtorEq, ren0_pimm, frzCell_int, frzCell_str, frzCell_bool, Tables.row, Tables.cells, List.length_map, l91, isMem_ok, r2, l92, hs, l52, within_ok, r4, l93, hc, l94, isSpan_ok, r6, r7, r8, l95, hw, r9, g0, l96, hap, g2, l50, hd, soundI, hh, g1, g2', g3, Bool.true_and, Bool.false_and]
    | true =>
    rw [g3] at hd
    by_cases g4 : (8 : Int) < t.chans.length
    · have g4' : decide (t.chans.length ≤ 8) = false := by simp; omega
      simp only [c49, runF_eq, ex0, ex1, ex2, ex3, ex4, ex5, ex6, ex7, ex8, Nat.reduceAdd, Nat.reduceMul, Nat.reduceSub, Nat.reduceDiv, Nat.reduceEqDiff, Nat.reduceLT, Nat.reduceGT, Nat.reduceLeDiff, reduceIte, reduceCtorEq, ren0_pimm, frzCell_int, frzCell_str, frzCell_bool, Tables.row, Tables.cells, List.length_map, l91, isMem_ok, r2, l92, hs, l52, within_ok, r4, l93, hc, l94, isSpan_ok, r6, r7, r8, l95, hw, r9, g0, l96, hap, g2, l50, hd, g4, soundI, hh, g1, g2', g3, g4', Bool.true_and, Bool.false_and]
    have g4' : decide (t.chans.length ≤ 8) = true := by simp; omega
    have hd2 := ContainsFuncC_ok t.chans 99 [.pimm [.int .i64 t.parts.length]] (.inr ⟨_, rfl⟩) (fun r => !(chanIn t.parts.length r)) (by omega) (fun r _ => by
      rw [l99 (by decide)]
      exact isSound2_ok r t.parts.length)
    rw [any_not] at hd2
    cases g5 : t.chans.all (chanIn t.parts.length) with
    | false =>
      rw [g5] at hd2
      simp only [c49, runF_eq, ex0, ex1, ex2, ex3, ex4, ex5, ex6, ex7, ex8, Nat.reduceAdd, Nat.reduceMul, Nat.reduceSub, Nat.reduceDiv, Nat.reduceEqDiff, Nat.reduceLT, Nat.reduceGT, Nat.reduceLeDiff, reduceIte, reduceCtorEq, ren0_pimm, frzCell_int, frzCell_str, frzCell_bool, Tables.row, Tables.cells, List.length_map, l91, isMem_ok, r2, l92, hs, l52, within_ok, r4, l93, hc, l94, isSpan_ok, r6, r7, r8, l95, hw, r9, g0, l96, hap, g2, l50, hd, g4, l98, hd2, soundI, hh, g1, g2', g3, g4', g5, Bool.true_and, Bool.false_and]
    | true =>
    rw [g5] at hd2
    have hr : ∀ r ∈ t.chans, chanOk r = true := fun r hr => by
      have := List.all_eq_true.1 g5 r hr
      simp only [chanIn, Bool.and_eq_true] at this
      exact this.1
    have hwp := worstPad_ok t.costs t.shape t.chans hk q3 (by omega) hr
    have has := has hh
    by_cases g6 : t.pad < wpad t.costs t.shape t.chans
    · have g6' : decide (wpad t.costs t.shape t.chans ≤ t.pad) = false := by simp; omega
      simp only [c49, runF_eq, ex0, ex1, ex2, ex3, ex4, ex5, ex6, ex7, ex8, Nat.reduceAdd, Nat.reduceMul, Nat.reduceSub, Nat.reduceDiv, Nat.reduceEqDiff, Nat.reduceLT, Nat.reduceGT, Nat.reduceLeDiff, reduceIte, reduceCtorEq, ren0_pimm, frzCell_int, frzCell_str, frzCell_bool, Tables.row, Tables.cells, List.length_map, l91, isMem_ok, r2, l92, hs, l52, within_ok, r4, l93, hc, l94, isSpan_ok, r6, r7, r8, l95, hw, r9, g0, l96, hap, g2, l50, hd, g4, l98, hd2, l101, hwp, g6, soundI, hh, g1, g2', g3, g4', g5, g6', Bool.true_and, Bool.false_and]
    · have g6' : decide (wpad t.costs t.shape t.chans ≤ t.pad) = true := by simp; omega
      simp only [c49, runF_eq, ex0, ex1, ex2, ex3, ex4, ex5, ex6, ex7, ex8, Nat.reduceAdd, Nat.reduceMul, Nat.reduceSub, Nat.reduceDiv, Nat.reduceEqDiff, Nat.reduceLT, Nat.reduceGT, Nat.reduceLeDiff, reduceIte, reduceCtorEq, ren0_pimm, frzCell_int, frzCell_str, frzCell_bool, Tables.row, Tables.cells, List.length_map, l91, isMem_ok, r2, l92, hs, l52, within_ok, r4, l93, hc, l94, isSpan_ok, r6, r7, r8, l95, hw, r9, g0, l96, hap, g2, l50, hd, g4, l98, hd2, l101, hwp, g6, l102, has, soundI, hh, g1, g2', g3, g4', g5, g6', Bool.true_and]
end Go.Proofs.YtahjhlnhkoifhaaGreat.Plan
