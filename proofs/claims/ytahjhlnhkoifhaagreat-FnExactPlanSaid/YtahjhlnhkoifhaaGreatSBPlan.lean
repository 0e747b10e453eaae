/- FnExactPlan: for all arguments the law answers true. A text of its proof: what functions of the program and of the reference answer; no conditions but those that each theorem names. -/
import Derived.Test.YtahjhlnhkoifhaaGreatSAPlan
set_option linter.unusedSimpArgs false
set_option linter.unusedVariables false
set_option maxRecDepth 100000
namespace Go.Proofs.YtahjhlnhkoifhaaGreat.Plan
open Go Go.Lev
/-! What a step costs. -/
def forms : List Int := [0, 7, 7, 7, 7, 7, 7, 7, 7, 7, 7, 7, 7, 11, 9, 11, 11, 11, 11, 11, 11, 11, 9, 10, 1, 11, 11, 11, 9, 9, 0, 0, 8]
theorem l02Forms_ok : L 173 [] [] = some ([.arr 1 (forms.map IntR)], []) := by
  rw [e173]
  simp only [c173, runF_eq, ex0, ex1, ex2, ex3, ex4, ex5, ex6, ex7, ex8, Nat.reduceAdd, Nat.reduceMul, Nat.reduceSub, Nat.reduceDiv, Nat.reduceEqDiff, Nat.reduceLT, Nat.reduceGT, Nat.reduceLeDiff, reduceIte, reduceCtorEq, forms, List.map, IntR]
  rfl
theorem forms_nn : ∀ n : Fin 33, ∃ v : Int, 0 ≤ v ∧ forms[n.val]? = some v := fun n => ⟨forms[n.val]'n.isLt, by revert n; decide, List.getElem?_eq_getElem _⟩
theorem FormOf_ok (n : Nat) (h : n < 33) : ∃ v : Int, 0 ≤ v ∧ L 169 [.int .i64 n] [] = some ([.int .i64 v], []) := by
  obtain ⟨v, hv, hg⟩ := forms_nn ⟨n, h⟩
  refine ⟨v, hv, ?_⟩
  have h1 : inB (n : Int) 0 32 = true := inB_iff.2 (by omega)
  have h2 : (n : Int) < 33 := by omega
  have h3 : ¬ (n : Int) < 0 := by omega
  have hl : forms.length = 33 := rfl
  have hp : rowsPlain (forms.map IntR) = true := rowsPlain_map (fun _ => rfl) _
  have hv' : vw (forms.map IntR) 0 33 = forms.map IntR := vw_full (by simp [hl])
  rw [e169]
  simp only [c169, runF_eq, ex0, ex1, ex2, ex3, ex4, ex5, ex6, ex7, ex8, Nat.reduceAdd, Nat.reduceMul, Nat.reduceSub, Nat.reduceDiv, Nat.reduceEqDiff, Nat.reduceLT, Nat.reduceGT, Nat.reduceLeDiff, reduceIte, reduceCtorEq, l42, l01In_ok, h1, l173, l02Forms_ok, List.length_map, hl, Int.cast_ofNat_Int, h2, h3, hp, hv', List.getElem?_map, hg, IntR]
def opc (c : Costs) (op : Int) : Int := if op = 9 ∨ op = 10 then c.base + c.mul else if 15 ≤ op ∧ op ≤ 18 then c.base + c.mem else if 25 ≤ op then c.base + c.trap else c.base
theorem costsOk_iff {c : Costs} : costsOk c = true ↔ (1 ≤ c.base ∧ c.base ≤ 20) ∧ (0 ≤ c.mul ∧ c.mul ≤ 50) ∧ (0 ≤ c.mem ∧ c.mem ≤ 50) ∧ (0 ≤ c.miss ∧ c.miss ≤ 50) ∧ (0 ≤ c.walk ∧ c.walk ≤ 50) ∧ (0 ≤ c.trap ∧ c.trap ≤ 50) ∧ 0 ≤ c.line ∧ c.line ≤ 50 := by
  simp only [costsOk, Bool.and_eq_true, inB_iff, and_assoc]
theorem opc_le {c : Costs} (h : costsOk c = true) (op : Int) : 0 ≤ opc c op ∧ opc c op ≤ 70 := by
  rw [costsOk_iff] at h
  unfold opc
  repeat' split
  all_goals omega
theorem OpCost_ok (c : Costs) (h : costsOk c = true) (n : Nat) (hn : n < 33) : L 153 [.agg [.int .i64 c.base, .int .i64 c.mul, .int .i64 c.mem, .int .i64 c.miss, .int .i64 c.walk, .int .i64 c.trap, .int .i64 c.line], .int .i64 n] [] = some ([.int .i64 (opc c n)], []) := by
  have hc := costsOk_iff.1 h
  obtain ⟨v, hv, hF⟩ := FormOf_ok n hn
  have hv' : ¬ v < 0 := by omega
  have w1 : IntKind.i64.wrap (c.base + c.mul) = c.base + c.mul := wrap_eq (by omega) (by omega)
  have w2 : IntKind.i64.wrap (c.base + c.mem) = c.base + c.mem := wrap_eq (by omega) (by omega)
  have w3 : IntKind.i64.wrap (c.base + c.trap) = c.base + c.trap := wrap_eq (by omega) (by omega)
  rw [e153]
  simp only [c153, runF_eq, ex0, ex1, ex2, ex3, ex4, ex5, ex6, ex7, ex8, Nat.reduceAdd, Nat.reduceMul, Nat.reduceSub, Nat.reduceDiv, Nat.reduceEqDiff, Nat.reduceLT, Nat.reduceGT, Nat.reduceLeDiff, reduceIte, reduceCtorEq, l128, CostsOk_ok, h, l169, hF, hv', l42, l01In_ok, w1, w2, w3]
  simp only [opc, inB_iff]
  repeat' split
  all_goals first | rfl | omega
theorem opCost_ok (c : Costs) (h : costsOk c = true) (n : Nat) (hn : n < 33) : L 160 [.agg [.int .i64 c.base, .int .i64 c.mul, .int .i64 c.mem, .int .i64 c.miss, .int .i64 c.walk, .int .i64 c.trap, .int .i64 c.line], .int .i64 n] [] = some ([.int .i64 (opc c n)], []) := by
  have hc := costsOk_iff.1 h
  have w1 : IntKind.i64.wrap (c.base + c.mul) = c.base + c.mul := wrap_eq (by omega) (by omega)
  have w2 : IntKind.i64.wrap (c.base + c.mem) = c.base + c.mem := wrap_eq (by omega) (by omega)
  have w3 : IntKind.i64.wrap (c.base + c.trap) = c.base + c.trap := wrap_eq (by omega) (by omega)
  rw [e160]
  simp only [c160, runF_eq, ex0, ex1, ex2, ex3, ex4, ex5, ex6, ex7, ex8, Nat.reduceAdd, Nat.reduceMul, Nat.reduceSub, Nat.reduceDiv, Nat.reduceEqDiff, Nat.reduceLT, Nat.reduceGT, Nat.reduceLeDiff, reduceIte, reduceCtorEq, l52, within_ok, w1, w2, w3]
  simp only [opc, inB_iff]
  repeat' split
  all_goals first | rfl | omega
def acc (c : Costs) (x y z : Bool) : Int := (if x then 0 else c.miss) + (if y then 0 else c.walk) + (if z then c.line else 0)
theorem AccessCost_ok (c : Costs) (h : costsOk c = true) (x y z : Bool) : L 170 [.agg [.int .i64 c.base, .int .i64 c.mul, .int .i64 c.mem, .int .i64 c.miss, .int .i64 c.walk, .int .i64 c.trap, .int .i64 c.line], .agg [.bool x, .bool y, .bool z]] [] = some ([.int .i64 (acc c x y z)], []) := by
  have hc := costsOk_iff.1 h
  rw [e170]
  have w1 : IntKind.i64.wrap c.miss = c.miss := wrap_eq (by omega) (by omega)
  have w2 : IntKind.i64.wrap c.walk = c.walk := wrap_eq (by omega) (by omega)
  have w3 : IntKind.i64.wrap c.line = c.line := wrap_eq (by omega) (by omega)
  have w4 : IntKind.i64.wrap (c.miss + c.walk) = c.miss + c.walk := wrap_eq (by omega) (by omega)
  have w5 : IntKind.i64.wrap (c.miss + c.line) = c.miss + c.line := wrap_eq (by omega) (by omega)
  have w6 : IntKind.i64.wrap (c.walk + c.line) = c.walk + c.line := wrap_eq (by omega) (by omega)
  have w7 : IntKind.i64.wrap (c.miss + c.walk + c.line) = c.miss + c.walk + c.line := wrap_eq (by omega) (by omega)
  cases x <;> cases y <;> cases z <;>
  simp only [c170, runF_eq, ex0, ex1, ex2, ex3, ex4, ex5, ex6, ex7, ex8, Nat.reduceAdd, Nat.reduceMul, Nat.reduceSub, Nat.reduceDiv, Nat.reduceEqDiff, Nat.reduceLT, Nat.reduceGT, Nat.reduceLeDiff, reduceIte, reduceCtorEq, l128, CostsOk_ok, h, Int.zero_add, Int.add_zero, w1, w2, w3, w4, w5, w6, w7, acc, Bool.false_eq_true, if_true, if_false]
theorem accessCost_ok (c : Costs) (h : costsOk c = true) : L 161 [.agg [.int .i64 c.base, .int .i64 c.mul, .int .i64 c.mem, .int .i64 c.miss, .int .i64 c.walk, .int .i64 c.trap, .int .i64 c.line], .agg [.bool false, .bool false, .bool true]] [] = some ([.int .i64 (c.miss + c.walk + c.line)], []) := by
  have hc := costsOk_iff.1 h
  rw [e161]
  have w1 : IntKind.i64.wrap c.miss = c.miss := wrap_eq (by omega) (by omega)
  have w4 : IntKind.i64.wrap (c.miss + c.walk) = c.miss + c.walk := wrap_eq (by omega) (by omega)
  have w7 : IntKind.i64.wrap (c.miss + c.walk + c.line) = c.miss + c.walk + c.line := wrap_eq (by omega) (by omega)
  simp only [c161, runF_eq, ex0, ex1, ex2, ex3, ex4, ex5, ex6, ex7, ex8, Nat.reduceAdd, Nat.reduceMul, Nat.reduceSub, Nat.reduceDiv, Nat.reduceEqDiff, Nat.reduceLT, Nat.reduceGT, Nat.reduceLeDiff, reduceIte, reduceCtorEq, Int.zero_add, Int.add_zero, w1, w4, w7]
theorem WorstAccess_ok (c : Costs) (h : costsOk c = true) : L 154 [.agg [.int .i64 c.base, .int .i64 c.mul, .int .i64 c.mem, .int .i64 c.miss, .int .i64 c.walk, .int .i64 c.trap, .int .i64 c.line]] [] = some ([.int .i64 (c.miss + c.walk + c.line)], []) := by
  have hc := costsOk_iff.1 h
  have hl := fold_loop (S := LL 36) (b := b154_0) (List.range 8) (fun _ m k => max m (acc c (decide (Int.tmod (k : Nat) 2 = 1)) (decide (Int.tmod (Int.tdiv (k : Nat) 2) 2 = 1)) (decide (Int.tdiv (k : Nat) 4 = 1))))
    (fun k m => ⟨[(1, .ptr 1000 0 0), (3, .int .i64 m), (4, .int .i64 (k : Int))], [(1000, some [[.int .i64 c.base, .int .i64 c.mul, .int .i64 c.mem, .int .i64 c.miss, .int .i64 c.walk, .int .i64 c.trap, .int .i64 c.line]])]⟩)
    0 (fun m => ⟨[(7, .bool false), (6, .int .i64 8), (1, .ptr 1000 0 0), (3, .int .i64 m), (4, .int .i64 8)], [(1000, some [[.int .i64 c.base, .int .i64 c.mul, .int .i64 c.mem, .int .i64 c.miss, .int .i64 c.walk, .int .i64 c.trap, .int .i64 c.line]])]⟩)
    (fun _ _ => True) (fun k x m hx _ => by
      obtain ⟨hk, rfl⟩ : k < 8 ∧ x = k := by
        obtain ⟨h1, h2⟩ := List.getElem?_eq_some_iff.1 hx
        simp at h1 h2
        exact ⟨h1, h2.symm⟩
      refine ⟨?_, trivial⟩
      have hk' : (x : Int) < 8 := by omega
      have hw : IntKind.i64.wrap ((x : Int) + 1) = ((x + 1 : Nat) : Int) := wrap_succ (by omega)
      have hw2 : IntKind.i64.wrap (Int.tdiv (x : Int) 2) = Int.tdiv x 2 := by
        rw [Int.tdiv_eq_ediv_of_nonneg (by omega)]
        exact wrap_eq (by omega) (by omega)
      have hw4 : IntKind.i64.wrap (Int.tdiv (x : Int) 4) = Int.tdiv x 4 := by
        rw [Int.tdiv_eq_ediv_of_nonneg (by omega)]
        exact wrap_eq (by omega) (by omega)
      have n2 : ¬ (2 : Int) = 0 := by decide
      have n4 : ¬ (4 : Int) = 0 := by decide
      have ha := AccessCost_ok c h (decide (Int.tmod (x : Nat) 2 = 1)) (decide (Int.tmod (Int.tdiv (x : Nat) 2) 2 = 1)) (decide (Int.tdiv (x : Nat) 4 = 1))
      generalize acc c (decide (Int.tmod (x : Nat) 2 = 1)) (decide (Int.tmod (Int.tdiv (x : Nat) 2) 2 = 1)) (decide (Int.tdiv (x : Nat) 4 = 1)) = v at *
      simp only [b154_0, ex0, ex1, ex2, ex3, ex4, ex5, ex6, ex7, ex8, Nat.reduceAdd, Nat.reduceMul, Nat.reduceSub, Nat.reduceDiv, Nat.reduceEqDiff, Nat.reduceLT, Nat.reduceGT, Nat.reduceLeDiff, reduceIte, reduceCtorEq, hk', hw, hw2, hw4, n2, n4, l170, ha]
      by_cases hg : m < v
      · rw [show max m v = v by omega]
        simp only [ex0, ex1, ex2, ex3, ex4, ex5, ex6, ex7, ex8, Nat.reduceAdd, Nat.reduceMul, Nat.reduceSub, Nat.reduceDiv, Nat.reduceEqDiff, Nat.reduceLT, Nat.reduceGT, Nat.reduceLeDiff, reduceIte, reduceCtorEq, hg, hw]
      · rw [show max m v = m by omega]
        simp only [ex0, ex1, ex2, ex3, ex4, ex5, ex6, ex7, ex8, Nat.reduceAdd, Nat.reduceMul, Nat.reduceSub, Nat.reduceDiv, Nat.reduceEqDiff, Nat.reduceLT, Nat.reduceGT, Nat.reduceLeDiff, reduceIte, reduceCtorEq, hg, hw]) (fun m _ => by
      simp only [b154_0, ex0, ex1, ex2, ex3, ex4, ex5, ex6, ex7, ex8, Nat.reduceAdd, Nat.reduceMul, Nat.reduceSub, Nat.reduceDiv, Nat.reduceEqDiff, Nat.reduceLT, Nat.reduceGT, Nat.reduceLeDiff, reduceIte, reduceCtorEq, List.length_range, Int.cast_ofNat_Int, Int.lt_irrefl]) (-1) trivial
  obtain ⟨_, hl⟩ := hl
  have hv : foldK (fun _ m k => max m (acc c (decide (Int.tmod (k : Nat) 2 = 1)) (decide (Int.tmod (Int.tdiv (k : Nat) 2) 2 = 1)) (decide (Int.tdiv (k : Nat) 4 = 1)))) 0 (-1) (List.range 8) = c.miss + c.walk + c.line := by
    rw [show List.range 8 = [0, 1, 2, 3, 4, 5, 6, 7] from rfl]
    simp [foldK, acc]
    omega
  rw [hv, show ((0 : Nat) : Int) = 0 from rfl] at hl
  rw [e154]
  simp only [c154, runF_eq, ex0, ex1, ex2, ex3, ex4, ex5, ex6, ex7, ex8, Nat.reduceAdd, Nat.reduceMul, Nat.reduceSub, Nat.reduceDiv, Nat.reduceEqDiff, Nat.reduceLT, Nat.reduceGT, Nat.reduceLeDiff, reduceIte, reduceCtorEq, hl]
def worst (c : Costs) : Int := foldK (fun _ m (k : Nat) => max m (opc c k)) 0 0 (List.range 33)
def wstep (c : Costs) : Int := worst c + 2 * (c.miss + c.walk + c.line) + c.trap
theorem WorstStep_ok (c : Costs) (h : costsOk c = true) : 0 ≤ worst c ∧ worst c ≤ 70 ∧ L 129 [.agg [.int .i64 c.base, .int .i64 c.mul, .int .i64 c.mem, .int .i64 c.miss, .int .i64 c.walk, .int .i64 c.trap, .int .i64 c.line]] [] = some ([.int .i64 (wstep c)], []) := by
  have hc := costsOk_iff.1 h
  have hl := fold_loop (S := LL 37) (b := b129_0) (List.range 33) (fun _ m (k : Nat) => max m (opc c k))
    (fun k m => ⟨[(1, .ptr 1000 0 0), (3, .int .i64 m), (4, .int .i64 (k : Int))], [(1000, some [[.int .i64 c.base, .int .i64 c.mul, .int .i64 c.mem, .int .i64 c.miss, .int .i64 c.walk, .int .i64 c.trap, .int .i64 c.line]])]⟩)
    0 (fun m => ⟨[(9, .bool false), (8, .int .i64 33), (1, .ptr 1000 0 0), (3, .int .i64 m), (4, .int .i64 33)], [(1000, some [[.int .i64 c.base, .int .i64 c.mul, .int .i64 c.mem, .int .i64 c.miss, .int .i64 c.walk, .int .i64 c.trap, .int .i64 c.line]])]⟩)
    (fun _ m => 0 ≤ m ∧ m ≤ 70) (fun k x m hx hm => by
      obtain ⟨hk, rfl⟩ : k < 33 ∧ x = k := by
        obtain ⟨h1, h2⟩ := List.getElem?_eq_some_iff.1 hx
        simp at h1 h2
        exact ⟨h1, h2.symm⟩
      have hk' : (x : Int) < 33 := by omega
      have hw : IntKind.i64.wrap ((x : Int) + 1) = ((x + 1 : Nat) : Int) := wrap_succ (by omega)
      have ha := OpCost_ok c h x hk
      have hb := opc_le h x
      generalize opc c x = v at *
      refine ⟨?_, by omega⟩
      by_cases hg : m < v
      · rw [show max m v = v by omega]
        simp only [b129_0, ex0, ex1, ex2, ex3, ex4, ex5, ex6, ex7, ex8, Nat.reduceAdd, Nat.reduceMul, Nat.reduceSub, Nat.reduceDiv, Nat.reduceEqDiff, Nat.reduceLT, Nat.reduceGT, Nat.reduceLeDiff, reduceIte, reduceCtorEq, hk', l153, ha, hg, hw]
      · rw [show max m v = m by omega]
        simp only [b129_0, ex0, ex1, ex2, ex3, ex4, ex5, ex6, ex7, ex8, Nat.reduceAdd, Nat.reduceMul, Nat.reduceSub, Nat.reduceDiv, Nat.reduceEqDiff, Nat.reduceLT, Nat.reduceGT, Nat.reduceLeDiff, reduceIte, reduceCtorEq, hk', l153, ha, hg, hw]) (fun m _ => by
      simp only [b129_0, ex0, ex1, ex2, ex3, ex4, ex5, ex6, ex7, ex8, Nat.reduceAdd, Nat.reduceMul, Nat.reduceSub, Nat.reduceDiv, Nat.reduceEqDiff, Nat.reduceLT, Nat.reduceGT, Nat.reduceLeDiff, reduceIte, reduceCtorEq, List.length_range, Int.cast_ofNat_Int, Int.lt_irrefl]) 0 (by omega)
  obtain ⟨hb, hl⟩ := hl
  change 0 ≤ worst c ∧ worst c ≤ 70 at hb
  rw [show foldK (fun _ m (k : Nat) => max m (opc c k)) 0 0 (List.range 33) = worst c from rfl, show ((0 : Nat) : Int) = 0 from rfl] at hl
  refine ⟨hb.1, hb.2, ?_⟩
  have w1 : IntKind.i64.wrap (2 * (c.miss + c.walk + c.line)) = 2 * (c.miss + c.walk + c.line) := wrap_eq (by omega) (by omega)
  have w2 : IntKind.i64.wrap (worst c + 2 * (c.miss + c.walk + c.line)) = worst c + 2 * (c.miss + c.walk + c.line) := wrap_eq (by omega) (by omega)
  have w3 : IntKind.i64.wrap (worst c + 2 * (c.miss + c.walk + c.line) + c.trap) = worst c + 2 * (c.miss + c.walk + c.line) + c.trap := wrap_eq (by omega) (by omega)
  rw [e129]
  simp only [c129, runF_eq, ex0, ex1, ex2, ex3, ex4, ex5, ex6, ex7, ex8, Nat.reduceAdd, Nat.reduceMul, Nat.reduceSub, Nat.reduceDiv, Nat.reduceEqDiff, Nat.reduceLT, Nat.reduceGT, Nat.reduceLeDiff, reduceIte, reduceCtorEq, l128, CostsOk_ok, h, hl, l154, WorstAccess_ok c h, w1, w2, w3, wstep]
theorem implWorstStep_ok (c : Costs) (h : costsOk c = true) : L 137 [.agg [.int .i64 c.base, .int .i64 c.mul, .int .i64 c.mem, .int .i64 c.miss, .int .i64 c.walk, .int .i64 c.trap, .int .i64 c.line]] [] = some ([.int .i64 (wstep c)], []) := by
  have hc := costsOk_iff.1 h
  have hl := fold_loop (S := LL 61) (b := b137_0) (List.range 33) (fun _ m (k : Nat) => max m (opc c k))
    (fun k m => ⟨[(1, .ptr 1000 0 0), (3, .int .i64 m), (8, .int .i64 (k : Int))], [(1000, some [[.int .i64 c.base, .int .i64 c.mul, .int .i64 c.mem, .int .i64 c.miss, .int .i64 c.walk, .int .i64 c.trap, .int .i64 c.line]])]⟩)
    0 (fun m => ⟨[(9, .bool false), (1, .ptr 1000 0 0), (3, .int .i64 m), (8, .int .i64 33)], [(1000, some [[.int .i64 c.base, .int .i64 c.mul, .int .i64 c.mem, .int .i64 c.miss, .int .i64 c.walk, .int .i64 c.trap, .int .i64 c.line]])]⟩)
    (fun _ m => 0 ≤ m ∧ m ≤ 70) (fun k x m hx hm => by
      obtain ⟨hk, rfl⟩ : k < 33 ∧ x = k := by
        obtain ⟨h1, h2⟩ := List.getElem?_eq_some_iff.1 hx
        simp at h1 h2
        exact ⟨h1, h2.symm⟩
      have hk' : (x : Int) < 33 := by omega
      have hw : IntKind.i64.wrap ((x : Int) + 1) = ((x + 1 : Nat) : Int) := wrap_succ (by omega)
      have ha := opCost_ok c h x hk
      have hb := opc_le h x
      generalize opc c x = v at *
      refine ⟨?_, by omega⟩
      rw [show max m v = if m < v then v else m by split <;> omega]
      simp only [b137_0, ex0, ex1, ex2, ex3, ex4, ex5, ex6, ex7, ex8, Nat.reduceAdd, Nat.reduceMul, Nat.reduceSub, Nat.reduceDiv, Nat.reduceEqDiff, Nat.reduceLT, Nat.reduceGT, Nat.reduceLeDiff, reduceIte, reduceCtorEq, hk', l160, ha, hw]) (fun m _ => by
      simp only [b137_0, ex0, ex1, ex2, ex3, ex4, ex5, ex6, ex7, ex8, Nat.reduceAdd, Nat.reduceMul, Nat.reduceSub, Nat.reduceDiv, Nat.reduceEqDiff, Nat.reduceLT, Nat.reduceGT, Nat.reduceLeDiff, reduceIte, reduceCtorEq, List.length_range, Int.cast_ofNat_Int, Int.lt_irrefl]) 0 (by omega)
  obtain ⟨hb, hl⟩ := hl
  change 0 ≤ worst c ∧ worst c ≤ 70 at hb
  rw [show foldK (fun _ m (k : Nat) => max m (opc c k)) 0 0 (List.range 33) = worst c from rfl, show ((0 : Nat) : Int) = 0 from rfl] at hl
  have w1 : IntKind.i64.wrap (2 * (c.miss + c.walk + c.line)) = 2 * (c.miss + c.walk + c.line) := wrap_eq (by omega) (by omega)
  have w2 : IntKind.i64.wrap (worst c + 2 * (c.miss + c.walk + c.line)) = worst c + 2 * (c.miss + c.walk + c.line) := wrap_eq (by omega) (by omega)
  have w3 : IntKind.i64.wrap (worst c + 2 * (c.miss + c.walk + c.line) + c.trap) = worst c + 2 * (c.miss + c.walk + c.line) + c.trap := wrap_eq (by omega) (by omega)
  rw [e137]
  simp only [c137, runF_eq, ex0, ex1, ex2, ex3, ex4, ex5, ex6, ex7, ex8, Nat.reduceAdd, Nat.reduceMul, Nat.reduceSub, Nat.reduceDiv, Nat.reduceEqDiff, Nat.reduceLT, Nat.reduceGT, Nat.reduceLeDiff, reduceIte, reduceCtorEq, l93, areCosts_ok, h, hl, l161, accessCost_ok c h, w1, w2, w3, wstep]
theorem worstStep_ok (c : Costs) (h : costsOk c = true) : L 95 [.agg [.int .i64 c.base, .int .i64 c.mul, .int .i64 c.mem, .int .i64 c.miss, .int .i64 c.walk, .int .i64 c.trap, .int .i64 c.line]] [] = some ([.int .i64 (wstep c)], []) := by
  rw [e95]
  simp only [c95, runF_eq, ex0, ex1, ex2, ex3, ex4, ex5, ex6, ex7, ex8, Nat.reduceAdd, Nat.reduceMul, Nat.reduceSub, Nat.reduceDiv, Nat.reduceEqDiff, Nat.reduceLT, Nat.reduceGT, Nat.reduceLeDiff, reduceIte, reduceCtorEq, l137, implWorstStep_ok c h]
end Go.Proofs.YtahjhlnhkoifhaaGreat.Plan
