/- FnExactPlan: for all arguments the law answers true. A text of its proof: what functions of the program and of the reference answer; no conditions but those that each theorem names. -/
import Derived.Test.YtahjhlnhkoifhaaGreatTTPlan
import Derived.Test.YtahjhlnhkoifhaaGreatZG3
set_option linter.unusedSimpArgs false
set_option linter.unusedVariables false
set_option maxRecDepth 100000
namespace Go.Proofs.YtahjhlnhkoifhaaGreat.Plan
open Go Go.Lev
theorem bool_ok {a b : Bool} {o : Heap} (h : a = true ↔ b = true) : some ([LV.bool a], o) = some ([LV.bool b], o) := by
  rw [Bool.eq_iff_iff.2 h]
def inB (x a b : Int) : Bool := decide (a ≤ x ∧ x ≤ b)
theorem inB_iff {x a b : Int} : inB x a b = true ↔ a ≤ x ∧ x ≤ b := by simp [inB]
theorem l01In_ok (x a b : Int) : L 42 [.int .i64 x, .int .i64 a, .int .i64 b] [] = some ([.bool (inB x a b)], []) := by
  rw [e42]
  simp only [c42, runF_eq, ex0, ex1, ex2, ex3, ex4, ex5, ex6, ex7, ex8, Nat.reduceAdd, Nat.reduceMul, Nat.reduceSub, Nat.reduceDiv, Nat.reduceEqDiff, Nat.reduceLT, Nat.reduceGT, Nat.reduceLeDiff, reduceIte, reduceCtorEq]
  by_cases h : a ≤ x <;> simp [inB, h]
theorem within_ok (x a b : Int) : L 52 [.int .i64 x, .int .i64 a, .int .i64 b] [] = some ([.bool (inB x a b)], []) := by
  rw [e52]
  simp only [c52, runF_eq, ex0, ex1, ex2, ex3, ex4, ex5, ex6, ex7, ex8, Nat.reduceAdd, Nat.reduceMul, Nat.reduceSub, Nat.reduceDiv, Nat.reduceEqDiff, Nat.reduceLT, Nat.reduceGT, Nat.reduceLeDiff, reduceIte, reduceCtorEq]
  by_cases h : a ≤ x <;> simp [inB, h]
theorem isMem_ok (x : Int) : L 91 [.int .i64 x] [] = some ([.bool (inB x 64 2048 && decide (x.tmod 4 = 0))], []) := by
  rw [e91]
  simp only [c91, runF_eq, ex0, ex1, ex2, ex3, ex4, ex5, ex6, ex7, ex8, Nat.reduceAdd, Nat.reduceMul, Nat.reduceSub, Nat.reduceDiv, Nat.reduceEqDiff, Nat.reduceLT, Nat.reduceGT, Nat.reduceLeDiff, reduceIte, reduceCtorEq, l52, within_ok]
  cases inB x 64 2048 <;> simp
theorem isSpan_ok (x : Int) : L 94 [.int .i64 x] [] = some ([.bool (inB x 1 5000)], []) := by
  rw [e94]
  simp only [c94, runF_eq, ex0, ex1, ex2, ex3, ex4, ex5, ex6, ex7, ex8, Nat.reduceAdd, Nat.reduceMul, Nat.reduceSub, Nat.reduceDiv, Nat.reduceEqDiff, Nat.reduceLT, Nat.reduceGT, Nat.reduceLeDiff, reduceIte, reduceCtorEq, l52, within_ok]
def shapeOk (s : Shape) : Bool := decide ((s.sets = 1 ∨ s.sets = 2 ∨ s.sets = 4 ∨ s.sets = 8 ∨ s.sets = 16) ∧ (s.line = 4 ∨ s.line = 8 ∨ s.line = 16 ∨ s.line = 32) ∧ 1 ≤ s.ways ∧ s.ways ≤ 4)
theorem ShapeOk_ok (x0 x1 x2 : Int) : L 127 [.agg [.int .i64 x0, .int .i64 x1, .int .i64 x2]] [] = some ([.bool (shapeOk ⟨x0, x1, x2⟩)], []) := by
  rw [e127]
  simp only [c127, runF_eq, ex0, ex1, ex2, ex3, ex4, ex5, ex6, ex7, ex8, Nat.reduceAdd, Nat.reduceMul, Nat.reduceSub, Nat.reduceDiv, Nat.reduceEqDiff, Nat.reduceLT, Nat.reduceGT, Nat.reduceLeDiff, reduceIte, reduceCtorEq, l42, l01In_ok]
  (try (repeat' split)) <;> (apply bool_ok; simp only [shapeOk, inB_iff, Bool.and_eq_true, Bool.or_eq_true, Bool.not_eq_true', Bool.not_eq_true, Bool.eq_false_iff, ne_eq, decide_eq_true_eq, true_iff, false_iff, iff_true, iff_false, Bool.false_eq_true, not_false_eq_true] at *; try omega)
def costsOk (c : Costs) : Bool := inB c.base 1 20 && inB c.mul 0 50 && inB c.mem 0 50 && inB c.miss 0 50 && inB c.walk 0 50 && inB c.trap 0 50 && inB c.line 0 50
theorem CostsOk_ok (x0 x1 x2 x3 x4 x5 x6 : Int) : L 128 [.agg [.int .i64 x0, .int .i64 x1, .int .i64 x2, .int .i64 x3, .int .i64 x4, .int .i64 x5, .int .i64 x6]] [] = some ([.bool (costsOk ⟨x0, x1, x2, x3, x4, x5, x6⟩)], []) := by
  rw [e128]
  simp only [c128, runF_eq, ex0, ex1, ex2, ex3, ex4, ex5, ex6, ex7, ex8, Nat.reduceAdd, Nat.reduceMul, Nat.reduceSub, Nat.reduceDiv, Nat.reduceEqDiff, Nat.reduceLT, Nat.reduceGT, Nat.reduceLeDiff, reduceIte, reduceCtorEq, l42, l01In_ok]
  (try (repeat' split)) <;> (apply bool_ok; simp only [costsOk, inB_iff, Bool.and_eq_true, Bool.or_eq_true, Bool.not_eq_true', Bool.not_eq_true, Bool.eq_false_iff, ne_eq, decide_eq_true_eq, true_iff, false_iff, iff_true, iff_false, Bool.false_eq_true, not_false_eq_true] at *; try omega)
theorem areCosts_ok (x0 x1 x2 x3 x4 x5 x6 : Int) : L 93 [.agg [.int .i64 x0, .int .i64 x1, .int .i64 x2, .int .i64 x3, .int .i64 x4, .int .i64 x5, .int .i64 x6]] [] = some ([.bool (costsOk ⟨x0, x1, x2, x3, x4, x5, x6⟩)], []) := by
  have hl := all_loop (S := LL 57) (b := b93_0) [x1, x2, x3, x4, x5, x6] (fun _ x => inB x 0 50)
    (fun k => ⟨[(1, .ptr 1000 0 0), (17, .agg [.int .i64 x1, .int .i64 x2, .int .i64 x3, .int .i64 x4, .int .i64 x5, .int .i64 x6]), (18, .int .i64 (k : Int))], [(1000, some [[.int .i64 x0, .int .i64 x1, .int .i64 x2, .int .i64 x3, .int .i64 x4, .int .i64 x5, .int .i64 x6]])]⟩)
    (fun k x => ⟨[(2, .bool false)], [(1000, some [[.int .i64 x0, .int .i64 x1, .int .i64 x2, .int .i64 x3, .int .i64 x4, .int .i64 x5, .int .i64 x6]])]⟩) 0 ⟨[(19, .bool false), (1, .ptr 1000 0 0), (17, .agg [.int .i64 x1, .int .i64 x2, .int .i64 x3, .int .i64 x4, .int .i64 x5, .int .i64 x6]), (18, .int .i64 6)], [(1000, some [[.int .i64 x0, .int .i64 x1, .int .i64 x2, .int .i64 x3, .int .i64 x4, .int .i64 x5, .int .i64 x6]])]⟩
    (fun k x hx => by
      have hk : k < 6 := (List.getElem?_eq_some_iff.1 hx).1
      have hk' : (k : Int) < 6 := by omega
      have hw : IntKind.i64.wrap ((k : Int) + 1) = ((k + 1 : Nat) : Int) := wrap_succ (by omega)
      have hx' : [LV.int .i64 x1, LV.int .i64 x2, LV.int .i64 x3, LV.int .i64 x4, LV.int .i64 x5, LV.int .i64 x6][k]? = some (.int .i64 x) := by
        have := congrArg (Option.map (LV.int .i64)) hx
        rw [← List.getElem?_map] at this
        exact this
      cases h : inB x 0 50 <;> simp only [b93_0, ex0, ex1, ex2, ex3, ex4, ex5, ex6, ex7, ex8, Nat.reduceAdd, Nat.reduceMul, Nat.reduceSub, Nat.reduceDiv, Nat.reduceEqDiff, Nat.reduceLT, Nat.reduceGT, Nat.reduceLeDiff, reduceIte, reduceCtorEq, hk', hw, Int.cast_ofNat_Int, Nat.mul_one, List.drop_zero, hx', l52, within_ok, h]) (by
      simp only [b93_0, ex0, ex1, ex2, ex3, ex4, ex5, ex6, ex7, ex8, Nat.reduceAdd, Nat.reduceMul, Nat.reduceSub, Nat.reduceDiv, Nat.reduceEqDiff, Nat.reduceLT, Nat.reduceGT, Nat.reduceLeDiff, reduceIte, reduceCtorEq, Int.cast_ofNat_Int, Int.lt_irrefl])
  rw [show ((0 : Nat) : Int) = 0 from rfl] at hl
  rw [e93]
  by_cases h : allK (fun _ x => inB x 0 50) 0 [x1, x2, x3, x4, x5, x6] = true
  · have hl := hl.1 h
    simp only [c93, runF_eq, ex0, ex1, ex2, ex3, ex4, ex5, ex6, ex7, ex8, Nat.reduceAdd, Nat.reduceMul, Nat.reduceSub, Nat.reduceDiv, Nat.reduceEqDiff, Nat.reduceLT, Nat.reduceGT, Nat.reduceLeDiff, reduceIte, reduceCtorEq, hl, l52, within_ok]
    simp only [allK, Bool.and_true, Bool.and_eq_true] at h
    simp [costsOk, h]
  · obtain ⟨k, x, hx, hl⟩ := hl.2 (by simpa using h)
    simp only [c93, runF_eq, ex0, ex1, ex2, ex3, ex4, ex5, ex6, ex7, ex8, Nat.reduceAdd, Nat.reduceMul, Nat.reduceSub, Nat.reduceDiv, Nat.reduceEqDiff, Nat.reduceLT, Nat.reduceGT, Nat.reduceLeDiff, reduceIte, reduceCtorEq, hl]
    simp only [allK, Bool.and_true, Bool.and_eq_true] at h
    have : costsOk ⟨x0, x1, x2, x3, x4, x5, x6⟩ = false := by
      rw [← Bool.not_eq_true]
      intro hc
      simp only [costsOk, Bool.and_eq_true] at hc
      exact h ⟨hc.1.1.1.1.1.2, hc.1.1.1.1.2, hc.1.1.1.2, hc.1.1.2, hc.1.2, hc.2⟩
    simp [this]
theorem pow_and : ∀ n : Fin 33, (IntKind.i64.wrap ((BitVec.ofInt IntKind.i64.bits (n.val : Int) &&& BitVec.ofInt IntKind.i64.bits (IntKind.i64.wrap ((n.val : Int) - 1))).toNat : Int) = 0) = (n.val = 0 ∨ n.val = 1 ∨ n.val = 2 ∨ n.val = 4 ∨ n.val = 8 ∨ n.val = 16 ∨ n.val = 32) := by
  intro n; apply propext; revert n; decide
theorem isPower_ok (x : Int) (h : inB x 1 32 = true) : L 136 [.int .i64 x] [] = some ([.bool (decide (x = 1 ∨ x = 2 ∨ x = 4 ∨ x = 8 ∨ x = 16 ∨ x = 32))], []) := by
  rw [inB_iff] at h
  obtain ⟨n, rfl⟩ : ∃ n : Nat, x = n := ⟨x.toNat, by omega⟩
  have hp := pow_and ⟨n, by omega⟩
  have h0 : (0 : Int) < n := by omega
  rw [e136]
  simp only [c136, runF_eq, ex0, ex1, ex2, ex3, ex4, ex5, ex6, ex7, ex8, Nat.reduceAdd, Nat.reduceMul, Nat.reduceSub, Nat.reduceDiv, Nat.reduceEqDiff, Nat.reduceLT, Nat.reduceGT, Nat.reduceLeDiff, reduceIte, reduceCtorEq, hp, h0]
  apply bool_ok; simp only [decide_eq_true_eq]; omega
theorem isShape_ok (x0 x1 x2 : Int) : L 92 [.agg [.int .i64 x0, .int .i64 x1, .int .i64 x2]] [] = some ([.bool (shapeOk ⟨x0, x1, x2⟩)], []) := by
  have p0 := isPower_ok x0
  have p2 := isPower_ok x2
  rw [e92]
  cases h0 : inB x0 1 16 <;> cases h1 : inB x1 1 4 <;> cases h2 : inB x2 4 32 <;>
    simp only [Bool.eq_false_iff, ne_eq, inB_iff] at h0 h1 h2 <;>
    first
    | rw [inB_iff] at p0; have p0 := p0 (by omega)
    | skip
  all_goals
    first
    | rw [inB_iff] at p2; have p2 := p2 (by omega)
    | skip
  all_goals
    simp only [c92, runF_eq, ex0, ex1, ex2, ex3, ex4, ex5, ex6, ex7, ex8, Nat.reduceAdd, Nat.reduceMul, Nat.reduceSub, Nat.reduceDiv, Nat.reduceEqDiff, Nat.reduceLT, Nat.reduceGT, Nat.reduceLeDiff, reduceIte, reduceCtorEq, l52, within_ok, l136, p0, p2, show inB x0 1 16 = decide (1 ≤ x0 ∧ x0 ≤ 16) from rfl, show inB x1 1 4 = decide (1 ≤ x1 ∧ x1 ≤ 4) from rfl, show inB x2 4 32 = decide (4 ≤ x2 ∧ x2 ≤ 32) from rfl, h0, h1, h2, and_self, decide_true, decide_false]
    (try (repeat' split)) <;> (apply bool_ok; simp only [shapeOk, inB_iff, Bool.and_eq_true, Bool.or_eq_true, Bool.not_eq_true', Bool.not_eq_true, Bool.eq_false_iff, ne_eq, decide_eq_true_eq, true_iff, false_iff, iff_true, iff_false, Bool.false_eq_true, not_false_eq_true] at *; try omega)
end Go.Proofs.YtahjhlnhkoifhaaGreat.Plan
