/- FnExactPlan: for all arguments the law answers true. A text of its proof: what functions of the program and of the reference answer; no conditions but those that each theorem names. -/
import Derived.Test.YtahjhlnhkoifhaaGreatSCPlan
set_option linter.unusedSimpArgs false
set_option linter.unusedVariables false
set_option maxRecDepth 100000
namespace Go.Proofs.YtahjhlnhkoifhaaGreat.Plan
open Go Go.Lev
/-! The reference's rules for tables. -/
def headOk (t : Tables) : Bool := inB t.mem 64 2048 && decide (t.mem.tmod 4 = 0) && shapeOk t.shape && inB t.tlb 1 8 && costsOk t.costs && inB t.pad 1 5000 && inB t.guard 1 5000 && inB t.major 1 5000 && decide (wstep t.costs ≤ t.guard)
theorem l13Head_ok (b : Bool) (t : Tables) : L 84 [.agg (t.row b)] [] = some ([.bool (headOk t)], []) := by
  have n4 : ¬ (4 : Int) = 0 := by decide
  have hs : L 127 [.agg [.int .i64 t.shape.sets, .int .i64 t.shape.ways, .int .i64 t.shape.line]] [] = some ([.bool (shapeOk t.shape)], []) := ShapeOk_ok _ _ _
  have hc : L 128 [.agg [.int .i64 t.costs.base, .int .i64 t.costs.mul, .int .i64 t.costs.mem, .int .i64 t.costs.miss, .int .i64 t.costs.walk, .int .i64 t.costs.trap, .int .i64 t.costs.line]] [] = some ([.bool (costsOk t.costs)], []) := CostsOk_ok _ _ _ _ _ _ _
  rw [e84]
  cases hk : costsOk t.costs with
  | true =>
    obtain ⟨_, _, hw⟩ := WorstStep_ok t.costs hk
    simp only [c84, runF_eq, ex0, ex1, ex2, ex3, ex4, ex5, ex6, ex7, ex8, Nat.reduceAdd, Nat.reduceMul, Nat.reduceSub, Nat.reduceDiv, Nat.reduceEqDiff, Nat.reduceLT, Nat.reduceGT, Nat.reduceLeDiff, reduceIte, reduceCtorEq, Tables.row, Tables.cells, l42, l01In_ok, n4, l127, hs, l128, hc, hk, l129, hw]
    (try (repeat' split)) <;> (apply bool_ok; simp_all [headOk])
  | false =>
    simp only [c84, runF_eq, ex0, ex1, ex2, ex3, ex4, ex5, ex6, ex7, ex8, Nat.reduceAdd, Nat.reduceMul, Nat.reduceSub, Nat.reduceDiv, Nat.reduceEqDiff, Nat.reduceLT, Nat.reduceGT, Nat.reduceLeDiff, reduceIte, reduceCtorEq, Tables.row, Tables.cells, l42, l01In_ok, n4, l127, hs, l128, hc, hk]
    (try (repeat' split)) <;> (apply bool_ok; simp_all [headOk])
def fitsB (mem : Int) (w : Window) : Bool := windowOk w && decide (w.base + w.size ≤ mem)
def runB (a : Int) (w : Window) : Bool := has a w && decide (w.perm.tdiv 4 = 1)
def partOk (mem : Int) (p : PartRow) : Bool := nameOk p.name && policyOk p.policy && inB p.windows.length 1 4 && p.windows.all (fitsB mem) && p.windows.any (runB p.entry) && decide (p.entry.tmod 4 = 0)
theorem foldO_all_any {α : Type} (c d : α → Bool) : ∀ (xs : List α) (k : Nat) (s : Bool), foldO (fun _ s x => if c x then some (s || d x) else none) k s xs = if xs.all c then some (s || xs.any d) else none
  | [], k, s => by simp [foldO]
  | x :: r, k, s => by
    simp only [foldO, List.all_cons, List.any_cons]
    by_cases hc : c x = true
    · simp [hc, foldO_all_any c d r, Bool.or_assoc]
    · simp [hc]
theorem l13PartOk_ok (p : PartRow) (mem : Int) (hf : p.fit) : L 130 [.agg [.str p.name, .int .i64 p.entry, .int .i64 p.policy.kind, .int .i64 p.policy.most, .list 3 (p.windows.map Window.row)], .int .i64 mem] [] = some ([.bool (partOk mem p)], []) := by
  have n4 : ¬ (4 : Int) = 0 := by decide
  obtain ⟨f1, f2⟩ := hf
  have hl := foldO_loop (S := LL 44) (b := b130_0) p.windows (fun _ s w => if fitsB mem w then some (s || runB p.entry w) else none)
    (fun k s => ⟨[(1, .int .i64 mem), (2, .ptr 2000 0 0), (5, .bool s), (6, .int .i64 (k : Int))], [(2000, some [[.str p.name, .int .i64 p.entry, .int .i64 p.policy.kind, .int .i64 p.policy.most, .list 3 (p.windows.map Window.row)]])]⟩)
    (fun k s w => (.ret, ⟨[(4, .bool false)], [(7000, some [[.int .i64 w.base, .int .i64 w.size, .int .i64 w.perm]]), (7000, some [[.int .i64 0, .int .i64 0, .int .i64 0]]), (2000, some [[.str p.name, .int .i64 p.entry, .int .i64 p.policy.kind, .int .i64 p.policy.most, .list 3 (p.windows.map Window.row)]])]⟩))
    (fun s => (.exit 0, ⟨[(1, .int .i64 mem), (2, .ptr 2000 0 0), (5, .bool s), (6, .int .i64 (p.windows.length : Int)), (29, .bool false)], [(2000, some [[.str p.name, .int .i64 p.entry, .int .i64 p.policy.kind, .int .i64 p.policy.most, .list 3 (p.windows.map Window.row)]])]⟩))
    (fun _ _ => True) (fun k w s hx _ => by
      have hk : k < p.windows.length := (List.getElem?_eq_some_iff.1 hx).1
      have hw : IntKind.i64.wrap ((k : Int) + 1) = ((k + 1 : Nat) : Int) := wrap_succ (by omega)
      have hwo : L 157 [.agg [.int .i64 w.base, .int .i64 w.size, .int .i64 w.perm]] [] = some ([.bool (windowOk w)], []) := WindowOk_ok _ _ _
      cases hb : windowOk w with
      | false =>
        have hfb : fitsB mem w = false := by simp [fitsB, hb]
        simp only [hfb, b130_0, ex0, ex1, ex2, ex3, ex4, ex5, ex6, ex7, ex8, Nat.reduceAdd, Nat.reduceMul, Nat.reduceSub, Nat.reduceDiv, Nat.reduceEqDiff, Nat.reduceLT, Nat.reduceGT, Nat.reduceLeDiff, reduceIte, reduceCtorEq, List.length_map, List.getElem?_map, hx, Int.ofNat_lt, hk, hw, Window.row, l157, hwo, hb, ite_false, Bool.false_eq_true]
      | true =>
        have hb' := windowOk_iff.1 hb
        have w1 : IntKind.i64.wrap (w.base + w.size) = w.base + w.size := wrap_eq (by omega) (by omega)
        have hh : L 158 [.agg [.int .i64 w.base, .int .i64 w.size, .int .i64 w.perm], .int .i64 p.entry] [] = some ([.bool (has p.entry w)], []) := l07Has_ok _ _ _ _ hb
        have w2 : IntKind.i64.wrap (w.perm.tdiv 4) = w.perm.tdiv 4 := by
          rw [Int.tdiv_eq_ediv_of_nonneg (by omega)]
          exact wrap_eq (by omega) (by omega)
        by_cases hm : mem < w.base + w.size
        · have hfb : fitsB mem w = false := by simp [fitsB]; omega
          simp only [hfb, b130_0, ex0, ex1, ex2, ex3, ex4, ex5, ex6, ex7, ex8, Nat.reduceAdd, Nat.reduceMul, Nat.reduceSub, Nat.reduceDiv, Nat.reduceEqDiff, Nat.reduceLT, Nat.reduceGT, Nat.reduceLeDiff, reduceIte, reduceCtorEq, List.length_map, List.getElem?_map, hx, Int.ofNat_lt, hk, hw, Window.row, l157, hwo, hb, w1, hm, ite_false, Bool.false_eq_true]
        · have hfb : fitsB mem w = true := by simp [fitsB, hb]; omega
          have w3 : IntKind.i64.wrap 1 = 1 := by decide
          cases hha : has p.entry w <;> by_cases hp4 : w.perm.tdiv 4 = 1 <;>
            simp only [hfb, runB, b130_0, ex0, ex1, ex2, ex3, ex4, ex5, ex6, ex7, ex8, Nat.reduceAdd, Nat.reduceMul, Nat.reduceSub, Nat.reduceDiv, Nat.reduceEqDiff, Nat.reduceLT, Nat.reduceGT, Nat.reduceLeDiff, reduceIte, reduceCtorEq, List.length_map, List.getElem?_map, hx, Int.ofNat_lt, hk, hw, Window.row, l157, hwo, hb, w1, w2, w3, hm, n4, l158, hh, hha, hp4, ite_true, Bool.and_true, Bool.and_false, Bool.or_true, Bool.or_false, decide_true, decide_false, and_true, Bool.and_self, true_and]) (fun s _ => by
      simp only [b130_0, ex0, ex1, ex2, ex3, ex4, ex5, ex6, ex7, ex8, Nat.reduceAdd, Nat.reduceMul, Nat.reduceSub, Nat.reduceDiv, Nat.reduceEqDiff, Nat.reduceLT, Nat.reduceGT, Nat.reduceLeDiff, reduceIte, reduceCtorEq, List.length_map, Int.lt_irrefl]) p.windows 0 false rfl (Nat.zero_le _) trivial
  rw [foldO_all_any, show ((0 : Nat) : Int) = 0 from rfl] at hl
  have hn := NameOk_ok p.name f1
  have hpo : L 156 [.agg [.int .i64 p.policy.kind, .int .i64 p.policy.most]] [] = some ([.bool (policyOk p.policy)], []) := PolicyOk_ok _ _
  rw [e130]
  cases h1 : nameOk p.name <;> cases h2 : policyOk p.policy <;> cases h3 : inB p.windows.length 1 4 <;> rw [h1] at hn <;> rw [h2] at hpo
  case true.true.true =>
    cases h4 : p.windows.all (fitsB mem) with
    | true =>
      rw [h4] at hl
      simp only [if_true, Bool.false_or] at hl
      cases h5 : p.windows.any (runB p.entry) <;> rw [h5] at hl <;>
        simp only [c130, runF_eq, ex0, ex1, ex2, ex3, ex4, ex5, ex6, ex7, ex8, Nat.reduceAdd, Nat.reduceMul, Nat.reduceSub, Nat.reduceDiv, Nat.reduceEqDiff, Nat.reduceLT, Nat.reduceGT, Nat.reduceLeDiff, reduceIte, reduceCtorEq, List.length_map, l155, hn, l156, hpo, l42, l01In_ok, h3, hl.2, n4, partOk, h1, h2, h4, h5, Bool.true_and, Bool.false_and, Bool.and_self]
    | false =>
      rw [h4] at hl
      obtain ⟨j, t, y, _, _, _, hl⟩ := hl
      simp only [c130, runF_eq, ex0, ex1, ex2, ex3, ex4, ex5, ex6, ex7, ex8, Nat.reduceAdd, Nat.reduceMul, Nat.reduceSub, Nat.reduceDiv, Nat.reduceEqDiff, Nat.reduceLT, Nat.reduceGT, Nat.reduceLeDiff, reduceIte, reduceCtorEq, List.length_map, l155, hn, l156, hpo, l42, l01In_ok, h3, hl, n4, partOk, h1, h2, h4, Bool.true_and, Bool.false_and, Bool.and_self, Bool.and_false]
  all_goals
    simp only [c130, runF_eq, ex0, ex1, ex2, ex3, ex4, ex5, ex6, ex7, ex8, Nat.reduceAdd, Nat.reduceMul, Nat.reduceSub, Nat.reduceDiv, Nat.reduceEqDiff, Nat.reduceLT, Nat.reduceGT, Nat.reduceLeDiff, reduceIte, reduceCtorEq, List.length_map, l155, hn, l156, hpo, l42, l01In_ok, h3, partOk, h1, h2, Bool.true_and, Bool.false_and, Bool.and_self, Bool.and_false]
def allW (ps : List PartRow) : List Window := ps.flatMap PartRow.windows
theorem foldK_allW : ∀ (ps : List PartRow) (k : Nat) (s : List Window), foldK (fun _ s (p : PartRow) => s ++ p.windows) k s ps = s ++ allW ps
  | [], k, s => by simp [foldK, allW]
  | p :: r, k, s => by rw [foldK, foldK_allW r]; simp [allW, List.append_assoc]
theorem l13Windows_ok (b : Bool) (ps : List PartRow) (hl : ps.length < 1000000) (hf : ∀ p ∈ ps, p.windows.length ≤ 4) : L 131 [.list 5 (ps.map (PartRow.row b))] [] = some ([.arr 3 ((allW ps).map Window.row)], []) := by
  have hlp := fold_loop (S := LL 45) (b := b131_0) ps (fun _ s (p : PartRow) => s ++ p.windows)
    (fun k s => ⟨[(0, .list 5 (ps.map (PartRow.row b))), (3, .sl 3 500030 0 s.length), (4, .int .i64 (k : Int))], [(500030, some (s.map Window.row))]⟩) 0
    (fun s => ⟨[(9, .bool false), (8, .int .i64 (ps.length : Int)), (7, .list 5 (ps.map (PartRow.row b))), (6, .int .i64 (ps.length : Int)), (0, .list 5 (ps.map (PartRow.row b))), (3, .sl 3 500030 0 s.length), (4, .int .i64 (ps.length : Int))], [(500030, some (s.map Window.row))]⟩)
    (fun k s => s.length ≤ 4 * k) (fun k p s hx hs => by
      have hk : k < ps.length := (List.getElem?_eq_some_iff.1 hx).1
      have h4 := hf p (List.mem_of_getElem? hx)
      have hw : IntKind.i64.wrap ((k : Int) + 1) = ((k + 1 : Nat) : Int) := wrap_succ (by omega)
      have hsc : rowsScalar (p.windows.map Window.row) = true := rowsScalar_map (fun _ => rfl) _
      have hp1 : rowsPlain (s.map Window.row ++ p.windows.map Window.row) = true := by rw [← List.map_append]; exact rowsPlain_map (fun _ => rfl) _
      have hv : vw (s.map Window.row) 0 s.length = s.map Window.row := vw_full (by simp)
      have hc : (s.length + p.windows.length) * 24 ≤ 140737488355328 := by omega
      refine ⟨?_, by rw [List.length_append]; omega⟩
      simp only [b131_0, ex0, ex1, ex2, ex3, ex4, ex5, ex6, ex7, ex8, Nat.reduceAdd, Nat.reduceMul, Nat.reduceSub, Nat.reduceDiv, Nat.reduceEqDiff, Nat.reduceLT, Nat.reduceGT, Nat.reduceLeDiff, reduceIte, reduceCtorEq, List.length_map, List.getElem?_map, hx, Int.ofNat_lt, hk, hw, PartRow.row, ldi_cell, hsc, hp1, hv, hc, Nat.zero_add, List.length_append, List.map_append]) (fun s _ => by
      simp only [b131_0, ex0, ex1, ex2, ex3, ex4, ex5, ex6, ex7, ex8, Nat.reduceAdd, Nat.reduceMul, Nat.reduceSub, Nat.reduceDiv, Nat.reduceEqDiff, Nat.reduceLT, Nat.reduceGT, Nat.reduceLeDiff, reduceIte, reduceCtorEq, List.length_map, Int.lt_irrefl]) [] (by simp)
  obtain ⟨hsz, hlp⟩ := hlp
  rw [foldK_allW, List.nil_append, show ((0 : Nat) : Int) = 0 from rfl] at hlp
  have hp2 : rowsPlain ((allW ps).map Window.row) = true := rowsPlain_map (fun _ => rfl) _
  have hv : vw ((allW ps).map Window.row) 0 (allW ps).length = (allW ps).map Window.row := vw_full (by simp)
  simp only [List.map_nil, List.length_nil] at hlp
  rw [e131]
  simp only [c131, runF_eq, ex0, ex1, ex2, ex3, ex4, ex5, ex6, ex7, ex8, Nat.reduceAdd, Nat.reduceMul, Nat.reduceSub, Nat.reduceDiv, Nat.reduceEqDiff, Nat.reduceLT, Nat.reduceGT, Nat.reduceLeDiff, reduceIte, reduceCtorEq, hlp, hp2, hv]
end Go.Proofs.YtahjhlnhkoifhaaGreat.Plan
