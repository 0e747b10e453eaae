/- FnExactPlan: for all arguments the law answers true. A text of its proof: what functions of the program and of the reference answer; no conditions but those that each theorem names. -/
import Derived.Test.YtahjhlnhkoifhaaGreatSEPlan
set_option linter.unusedSimpArgs false
set_option linter.unusedVariables false
set_option maxRecDepth 100000
namespace Go.Proofs.YtahjhlnhkoifhaaGreat.Plan
open Go Go.Lev
/-! The reference's rules for channels and slots. -/
theorem mul_bd {a b A B : Int} (h1 : 0 ≤ a) (h2 : a ≤ A) (h3 : 0 ≤ b) (h4 : b ≤ B) : 0 ≤ a * b ∧ a * b ≤ A * B :=
  ⟨Int.mul_nonneg h1 h3, Int.mul_le_mul h2 h4 h3 (by omega)⟩
def chanOk (r : ChanRow) : Bool := decide ((0 ≤ r.src ∧ r.src ≤ 5) ∧ (0 ≤ r.dst ∧ r.dst ≤ 5) ∧ r.src ≠ r.dst ∧ (r.kind = 0 ∧ r.depth = 0 ∨ r.kind = 1 ∧ 1 ≤ r.depth ∧ r.depth ≤ 8))
theorem chanOk_iff {r : ChanRow} : chanOk r = true ↔ (0 ≤ r.src ∧ r.src ≤ 5) ∧ (0 ≤ r.dst ∧ r.dst ≤ 5) ∧ r.src ≠ r.dst ∧ (r.kind = 0 ∧ r.depth = 0 ∨ r.kind = 1 ∧ 1 ≤ r.depth ∧ r.depth ≤ 8) := by
  simp only [chanOk, decide_eq_true_eq]
theorem ChanOk_ok (x0 x1 x2 x3 : Int) : L 132 [.agg [.int .i64 x0, .int .i64 x1, .int .i64 x2, .int .i64 x3]] [] = some ([.bool (chanOk ⟨x0, x1, x2, x3⟩)], []) := by
  rw [e132]
  simp only [c132, runF_eq, ex0, ex1, ex2, ex3, ex4, ex5, ex6, ex7, ex8, Nat.reduceAdd, Nat.reduceMul, Nat.reduceSub, Nat.reduceDiv, Nat.reduceEqDiff, Nat.reduceLT, Nat.reduceGT, Nat.reduceLeDiff, reduceIte, reduceCtorEq, l42, l01In_ok]
  (try (repeat' split)) <;> (apply bool_ok; simp only [chanOk, inB_iff, Bool.and_eq_true, Bool.or_eq_true, Bool.not_eq_true', Bool.not_eq_true, Bool.eq_false_iff, ne_eq, decide_eq_true_eq, true_iff, false_iff, iff_true, iff_false, Bool.false_eq_true, not_false_eq_true] at *; try omega)
theorem isChan_ok (x0 x1 x2 x3 : Int) : L 100 [.agg [.int .i64 x0, .int .i64 x1, .int .i64 x2, .int .i64 x3]] [] = some ([.bool (chanOk ⟨x0, x1, x2, x3⟩)], []) := by
  rw [e100]
  simp only [c100, runF_eq, ex0, ex1, ex2, ex3, ex4, ex5, ex6, ex7, ex8, Nat.reduceAdd, Nat.reduceMul, Nat.reduceSub, Nat.reduceDiv, Nat.reduceEqDiff, Nat.reduceLT, Nat.reduceGT, Nat.reduceLeDiff, reduceIte, reduceCtorEq, l52, within_ok]
  (try (repeat' split)) <;> (apply bool_ok; simp only [chanOk, inB_iff, Bool.and_eq_true, Bool.or_eq_true, Bool.not_eq_true', Bool.not_eq_true, Bool.eq_false_iff, ne_eq, decide_eq_true_eq, true_iff, false_iff, iff_true, iff_false, Bool.false_eq_true, not_false_eq_true] at *; try omega)
def padStep (c : Costs) (m : Int) (r : ChanRow) : Int := m + c.base * max 1 r.depth
def pad0 (c : Costs) (s : Shape) : Int := 16 * c.base + s.sets * s.ways * c.line
def wpad (c : Costs) (s : Shape) (rs : List ChanRow) : Int := foldK (fun _ m r => padStep c m r) 0 (pad0 c s) rs
theorem shapeOk_iff {s : Shape} : shapeOk s = true ↔ (s.sets = 1 ∨ s.sets = 2 ∨ s.sets = 4 ∨ s.sets = 8 ∨ s.sets = 16) ∧ (s.line = 4 ∨ s.line = 8 ∨ s.line = 16 ∨ s.line = 32) ∧ 1 ≤ s.ways ∧ s.ways ≤ 4 := by
  simp only [shapeOk, decide_eq_true_eq]
theorem pad0_bd {c : Costs} {s : Shape} (hc : costsOk c = true) (hs : shapeOk s = true) : (0 ≤ s.sets * s.ways ∧ s.sets * s.ways ≤ 64) ∧ (0 ≤ s.sets * s.ways * c.line ∧ s.sets * s.ways * c.line ≤ 3200) ∧ 0 ≤ pad0 c s ∧ pad0 c s ≤ 3520 := by
  rw [costsOk_iff] at hc
  rw [shapeOk_iff] at hs
  obtain ⟨h1, h2⟩ := mul_bd (a := s.sets) (A := 16) (b := s.ways) (B := 4) (by omega) (by omega) (by omega) (by omega)
  obtain ⟨h3, h4⟩ := mul_bd (a := s.sets * s.ways) (A := 64) (b := c.line) (B := 50) h1 (by omega) (by omega) (by omega)
  unfold pad0
  omega
theorem padStep_bd {c : Costs} {r : ChanRow} (m : Int) (hc : costsOk c = true) (hr : chanOk r = true) : (0 ≤ c.base * max 1 r.depth ∧ c.base * max 1 r.depth ≤ 160) ∧ m ≤ padStep c m r ∧ padStep c m r ≤ m + 160 := by
  rw [costsOk_iff] at hc
  rw [chanOk_iff] at hr
  obtain ⟨h1, h2⟩ := mul_bd (a := c.base) (A := 20) (b := max 1 r.depth) (B := 8) (by omega) (by omega) (by omega) (by omega)
  unfold padStep
  omega
theorem WorstPad_ok (c : Costs) (s : Shape) (rs : List ChanRow) (hc : costsOk c = true) (hs : shapeOk s = true) (hl : rs.length ≤ 8) (hr : ∀ r ∈ rs, chanOk r = true) :
    L 133 [.agg [.int .i64 c.base, .int .i64 c.mul, .int .i64 c.mem, .int .i64 c.miss, .int .i64 c.walk, .int .i64 c.trap, .int .i64 c.line], .agg [.int .i64 s.sets, .int .i64 s.ways, .int .i64 s.line], .list 4 (rs.map ChanRow.row)] [] = some ([.int .i64 (wpad c s rs)], []) := by
  have hc' := costsOk_iff.1 hc
  obtain ⟨b1, b2, b3⟩ := pad0_bd hc hs
  have hlp := fold_loop (S := LL 48) (b := b133_0) rs (fun _ m r => padStep c m r)
    (fun k m => ⟨[(2, .list 4 (rs.map ChanRow.row)), (3, .ptr 3000 0 0), (7, .int .i64 m), (8, .int .i64 (k : Int))], [(3000, some [[.int .i64 c.base, .int .i64 c.mul, .int .i64 c.mem, .int .i64 c.miss, .int .i64 c.walk, .int .i64 c.trap, .int .i64 c.line]])]⟩) 0
    (fun m => ⟨[(37, .bool false), (36, .int .i64 (rs.length : Int)), (35, .list 4 (rs.map ChanRow.row)), (34, .int .i64 (rs.length : Int)), (2, .list 4 (rs.map ChanRow.row)), (3, .ptr 3000 0 0), (7, .int .i64 m), (8, .int .i64 (rs.length : Int))], [(3000, some [[.int .i64 c.base, .int .i64 c.mul, .int .i64 c.mem, .int .i64 c.miss, .int .i64 c.walk, .int .i64 c.trap, .int .i64 c.line]])]⟩)
    (fun k m => 0 ≤ m ∧ m ≤ 4000 + 200 * k) (fun k r m hx hm => by
      have hk : k < rs.length := (List.getElem?_eq_some_iff.1 hx).1
      have hw : IntKind.i64.wrap ((k : Int) + 1) = ((k + 1 : Nat) : Int) := wrap_succ (by omega)
      have hrk := hr r (List.mem_of_getElem? hx)
      obtain ⟨q1, q2⟩ := padStep_bd m hc hrk
      refine ⟨?_, by omega⟩
      have hco : L 132 [.agg [.int .i64 r.kind, .int .i64 r.src, .int .i64 r.dst, .int .i64 r.depth]] [] = some ([.bool true], []) := by rw [← hrk]; exact ChanOk_ok _ _ _ _
      have hri := chanOk_iff.1 hrk
      by_cases h0 : r.kind = 0
      · have hst : padStep c m r = m + c.base := by
          unfold padStep
          rw [show max 1 r.depth = 1 by omega, Int.mul_one]
        have w1 : IntKind.i64.wrap (m + c.base) = m + c.base := wrap_eq (by omega) (by omega)
        rw [h0] at hco
        simp only [b133_0, ex0, ex1, ex2, ex3, ex4, ex5, ex6, ex7, ex8, Nat.reduceAdd, Nat.reduceMul, Nat.reduceSub, Nat.reduceDiv, Nat.reduceEqDiff, Nat.reduceLT, Nat.reduceGT, Nat.reduceLeDiff, reduceIte, reduceCtorEq, List.length_map, List.getElem?_map, hx, Int.ofNat_lt, hk, hw, ChanRow.row, l132, hco, h0, w1, hst]
      · have hst : padStep c m r = m + c.base * r.depth := by
          unfold padStep
          rw [show max 1 r.depth = r.depth by omega]
        rw [show max 1 r.depth = r.depth by omega] at q1
        have w1 : IntKind.i64.wrap (c.base * r.depth) = c.base * r.depth := wrap_eq (by omega) (by omega)
        have w2 : IntKind.i64.wrap (m + c.base * r.depth) = m + c.base * r.depth := wrap_eq (by omega) (by omega)
        simp only [b133_0, ex0, ex1, ex2, ex3, ex4, ex5, ex6, ex7, ex8, Nat.reduceAdd, Nat.reduceMul, Nat.reduceSub, Nat.reduceDiv, Nat.reduceEqDiff, Nat.reduceLT, Nat.reduceGT, Nat.reduceLeDiff, reduceIte, reduceCtorEq, List.length_map, List.getElem?_map, hx, Int.ofNat_lt, hk, hw, ChanRow.row, l132, hco, h0, w1, w2, hst]) (fun m _ => by
      simp only [b133_0, ex0, ex1, ex2, ex3, ex4, ex5, ex6, ex7, ex8, Nat.reduceAdd, Nat.reduceMul, Nat.reduceSub, Nat.reduceDiv, Nat.reduceEqDiff, Nat.reduceLT, Nat.reduceGT, Nat.reduceLeDiff, reduceIte, reduceCtorEq, List.length_map, Int.lt_irrefl]) (pad0 c s) (by omega)
  obtain ⟨_, hlp⟩ := hlp
  rw [show ((0 : Nat) : Int) = 0 from rfl] at hlp
  have hcc : L 128 [.agg [.int .i64 c.base, .int .i64 c.mul, .int .i64 c.mem, .int .i64 c.miss, .int .i64 c.walk, .int .i64 c.trap, .int .i64 c.line]] [] = some ([.bool true], []) := by rw [← hc]; exact CostsOk_ok _ _ _ _ _ _ _
  have hss : L 127 [.agg [.int .i64 s.sets, .int .i64 s.ways, .int .i64 s.line]] [] = some ([.bool true], []) := by rw [← hs]; exact ShapeOk_ok _ _ _
  have n8 : ¬ (8 : Int) < rs.length := by omega
  have w1 : IntKind.i64.wrap (16 * c.base) = 16 * c.base := wrap_eq (by omega) (by omega)
  have w2 : IntKind.i64.wrap (s.sets * s.ways) = s.sets * s.ways := wrap_eq (by omega) (by omega)
  have w3 : IntKind.i64.wrap (s.sets * s.ways * c.line) = s.sets * s.ways * c.line := wrap_eq (by omega) (by omega)
  have w4 : IntKind.i64.wrap (16 * c.base + s.sets * s.ways * c.line) = pad0 c s := by
    unfold pad0 at *
    exact wrap_eq (by omega) (by omega)
  rw [e133]
  simp only [c133, runF_eq, ex0, ex1, ex2, ex3, ex4, ex5, ex6, ex7, ex8, Nat.reduceAdd, Nat.reduceMul, Nat.reduceSub, Nat.reduceDiv, Nat.reduceEqDiff, Nat.reduceLT, Nat.reduceGT, Nat.reduceLeDiff, reduceIte, reduceCtorEq, List.length_map, l128, hcc, l127, hss, n8, w1, w2, w3, w4, hlp, wpad]
def chanIn (n : Int) (r : ChanRow) : Bool := chanOk r && (decide (r.src < n) && decide (r.dst < n))
def chansOk (t : Tables) : Bool := decide (t.devs.length ≤ 8) && (decide (t.chans.length ≤ 8) && (t.devs.all (fun d => inB d 0 (t.parts.length - 1)) && (t.chans.all (chanIn t.parts.length) && decide (wpad t.costs t.shape t.chans ≤ t.pad))))
theorem l13Chans_0 (b : Bool) (t : Tables) (hf : t.fit) :
    (t.devs.all (fun d => inB d 0 (t.parts.length - 1)) = true → kLoop (LL 49) b86_0 ⟨[(1, .ptr 1000 0 0), (3, .int .i64 0)], [(1000, some [t.row b])]⟩ = some (.exit 0, ⟨[(1, .ptr 1000 0 0), (3, .int .i64 (t.devs.length : Int)), (19, .bool false)], [(1000, some [t.row b])]⟩)) ∧
    (t.devs.all (fun d => inB d 0 (t.parts.length - 1)) = false → ∃ (k : Nat) (d : Int), t.devs[k]? = some d ∧ kLoop (LL 49) b86_0 ⟨[(1, .ptr 1000 0 0), (3, .int .i64 0)], [(1000, some [t.row b])]⟩ = some (.ret, ⟨[(2, .bool false), (1, .ptr 1000 0 0), (3, .int .i64 (k : Int)), (32, .bool true)], [(1000, some [t.row b])]⟩)) := by
  obtain ⟨fp, f1, f2, f3, f4⟩ := hf
  have hl := all_loop (S := LL 49) (b := b86_0) t.devs (fun _ d => inB d 0 (t.parts.length - 1))
    (fun k => ⟨[(1, .ptr 1000 0 0), (3, .int .i64 (k : Int))], [(1000, some [t.row b])]⟩) (fun k d => ⟨[(2, .bool false), (1, .ptr 1000 0 0), (3, .int .i64 (k : Int)), (32, .bool true)], [(1000, some [t.row b])]⟩) 0
    ⟨[(1, .ptr 1000 0 0), (3, .int .i64 (t.devs.length : Int)), (19, .bool false)], [(1000, some [t.row b])]⟩ (fun k d hx => by
      have hk : k < t.devs.length := (List.getElem?_eq_some_iff.1 hx).1
      have hw : IntKind.i64.wrap ((k : Int) + 1) = ((k + 1 : Nat) : Int) := wrap_succ (by omega)
      have w1 : IntKind.i64.wrap ((t.parts.length : Int) - 1) = (t.parts.length : Int) - 1 := wrap_eq (by omega) (by omega)
      cases ha : inB d 0 (t.parts.length - 1) <;>
      simp only [b86_0, ex0, ex1, ex2, ex3, ex4, ex5, ex6, ex7, ex8, Nat.reduceAdd, Nat.reduceMul, Nat.reduceSub, Nat.reduceDiv, Nat.reduceEqDiff, Nat.reduceLT, Nat.reduceGT, Nat.reduceLeDiff, reduceIte, reduceCtorEq, Tables.row, Tables.cells, List.length_map, List.getElem?_map, hx, Int.ofNat_lt, hk, hw, IntR, w1, l42, l01In_ok, ha, if_true, if_false, Bool.false_eq_true]) (by
      simp only [b86_0, ex0, ex1, ex2, ex3, ex4, ex5, ex6, ex7, ex8, Nat.reduceAdd, Nat.reduceMul, Nat.reduceSub, Nat.reduceDiv, Nat.reduceEqDiff, Nat.reduceLT, Nat.reduceGT, Nat.reduceLeDiff, reduceIte, reduceCtorEq, Tables.row, Tables.cells, List.length_map, Int.lt_irrefl])
  rw [show ((0 : Nat) : Int) = 0 from rfl, allK_all] at hl
  exact hl
theorem l13Chans_1 (b : Bool) (t : Tables) (hf : t.fit) :
    (t.chans.all (chanIn t.parts.length) = true → kLoop (LL 49) b86_1 ⟨[(1, .ptr 1000 0 0), (4, .int .i64 0)], [(1000, some [t.row b])]⟩ = some (.exit 2, ⟨[(1, .ptr 1000 0 0), (4, .int .i64 (t.chans.length : Int)), (37, .bool false)], [(1000, some [t.row b])]⟩)) ∧
    (t.chans.all (chanIn t.parts.length) = false → ∃ (k : Nat) (r : ChanRow), t.chans[k]? = some r ∧ kLoop (LL 49) b86_1 ⟨[(1, .ptr 1000 0 0), (4, .int .i64 0)], [(1000, some [t.row b])]⟩ = some (.ret, ⟨[(2, .bool false), (1, .ptr 1000 0 0), (4, .int .i64 (k : Int)), (70, .bool true)], [(1000, some [t.row b])]⟩)) := by
  obtain ⟨fp, f1, f2, f3, f4⟩ := hf
  have hl := all_loop (S := LL 49) (b := b86_1) t.chans (fun _ => chanIn t.parts.length)
    (fun k => ⟨[(1, .ptr 1000 0 0), (4, .int .i64 (k : Int))], [(1000, some [t.row b])]⟩) (fun k d => ⟨[(2, .bool false), (1, .ptr 1000 0 0), (4, .int .i64 (k : Int)), (70, .bool true)], [(1000, some [t.row b])]⟩) 2
    ⟨[(1, .ptr 1000 0 0), (4, .int .i64 (t.chans.length : Int)), (37, .bool false)], [(1000, some [t.row b])]⟩ (fun k r hx => by
      have hk : k < t.chans.length := (List.getElem?_eq_some_iff.1 hx).1
      have hw : IntKind.i64.wrap ((k : Int) + 1) = ((k + 1 : Nat) : Int) := wrap_succ (by omega)
      have hco : L 132 [.agg [.int .i64 r.kind, .int .i64 r.src, .int .i64 r.dst, .int .i64 r.depth]] [] = some ([.bool (chanOk r)], []) := ChanOk_ok _ _ _ _
      cases ha : chanOk r with
      | false =>
        have hc : chanIn t.parts.length r = false := by simp [chanIn, ha]
        simp only [b86_1, ex0, ex1, ex2, ex3, ex4, ex5, ex6, ex7, ex8, Nat.reduceAdd, Nat.reduceMul, Nat.reduceSub, Nat.reduceDiv, Nat.reduceEqDiff, Nat.reduceLT, Nat.reduceGT, Nat.reduceLeDiff, reduceIte, reduceCtorEq, Tables.row, Tables.cells, List.length_map, List.getElem?_map, hx, Int.ofNat_lt, hk, hw, ChanRow.row, l132, hco, ha, hc, if_true, if_false, Bool.false_eq_true]
      | true =>
        by_cases h1 : (t.parts.length : Int) ≤ r.src
        · have hc : chanIn t.parts.length r = false := by simp [chanIn]; omega
          simp only [b86_1, ex0, ex1, ex2, ex3, ex4, ex5, ex6, ex7, ex8, Nat.reduceAdd, Nat.reduceMul, Nat.reduceSub, Nat.reduceDiv, Nat.reduceEqDiff, Nat.reduceLT, Nat.reduceGT, Nat.reduceLeDiff, reduceIte, reduceCtorEq, Tables.row, Tables.cells, List.length_map, List.getElem?_map, hx, Int.ofNat_lt, hk, hw, ChanRow.row, l132, hco, ha, hc, h1, if_true, if_false, Bool.false_eq_true]
        · by_cases h2 : (t.parts.length : Int) ≤ r.dst
          · have hc : chanIn t.parts.length r = false := by simp [chanIn]; omega
            simp only [b86_1, ex0, ex1, ex2, ex3, ex4, ex5, ex6, ex7, ex8, Nat.reduceAdd, Nat.reduceMul, Nat.reduceSub, Nat.reduceDiv, Nat.reduceEqDiff, Nat.reduceLT, Nat.reduceGT, Nat.reduceLeDiff, reduceIte, reduceCtorEq, Tables.row, Tables.cells, List.length_map, List.getElem?_map, hx, Int.ofNat_lt, hk, hw, ChanRow.row, l132, hco, ha, hc, h1, h2, if_true, if_false, Bool.false_eq_true]
          · have hc : chanIn t.parts.length r = true := by simp [chanIn, ha]; omega
            simp only [b86_1, ex0, ex1, ex2, ex3, ex4, ex5, ex6, ex7, ex8, Nat.reduceAdd, Nat.reduceMul, Nat.reduceSub, Nat.reduceDiv, Nat.reduceEqDiff, Nat.reduceLT, Nat.reduceGT, Nat.reduceLeDiff, reduceIte, reduceCtorEq, Tables.row, Tables.cells, List.length_map, List.getElem?_map, hx, Int.ofNat_lt, hk, hw, ChanRow.row, l132, hco, ha, hc, h1, h2, if_true, if_false, Bool.false_eq_true]) (by
      simp only [b86_1, ex0, ex1, ex2, ex3, ex4, ex5, ex6, ex7, ex8, Nat.reduceAdd, Nat.reduceMul, Nat.reduceSub, Nat.reduceDiv, Nat.reduceEqDiff, Nat.reduceLT, Nat.reduceGT, Nat.reduceLeDiff, reduceIte, reduceCtorEq, Tables.row, Tables.cells, List.length_map, Int.lt_irrefl])
  rw [show ((0 : Nat) : Int) = 0 from rfl, allK_all] at hl
  exact hl
theorem headOk_iff {t : Tables} : headOk t = true ↔ (64 ≤ t.mem ∧ t.mem ≤ 2048) ∧ t.mem.tmod 4 = 0 ∧ shapeOk t.shape = true ∧ (1 ≤ t.tlb ∧ t.tlb ≤ 8) ∧ costsOk t.costs = true ∧ (1 ≤ t.pad ∧ t.pad ≤ 5000) ∧ (1 ≤ t.guard ∧ t.guard ≤ 5000) ∧ (1 ≤ t.major ∧ t.major ≤ 5000) ∧ wstep t.costs ≤ t.guard := by
  simp only [headOk, Bool.and_eq_true, inB_iff, decide_eq_true_eq, and_assoc]
theorem l13Chans_ok (b : Bool) (t : Tables) (hf : t.fit) (hh : headOk t = true) : L 86 [.agg (t.row b)] [] = some ([.bool (chansOk t)], []) := by
  have h0 := l13Chans_0 b t hf
  have h1 := l13Chans_1 b t hf
  have hh' := headOk_iff.1 hh
  simp only [Tables.row, Tables.cells] at h0 h1
  rw [e86]
  by_cases g0 : (8 : Int) < t.devs.length
  · have g0' : decide (t.devs.length ≤ 8) = false := by simp; omega
    simp only [c86, runF_eq, ex0, ex1, ex2, ex3, ex4, ex5, ex6, ex7, ex8, Nat.reduceAdd, Nat.reduceMul, Nat.reduceSub, Nat.reduceDiv, Nat.reduceEqDiff, Nat.reduceLT, Nat.reduceGT, Nat.reduceLeDiff, reduceIte, reduceCtorEq, Tables.row, Tables.cells, List.length_map, g0, chansOk, g0', Bool.false_and]
  have g0' : decide (t.devs.length ≤ 8) = true := by simp; omega
  by_cases g1 : (8 : Int) < t.chans.length
  · have g1' : decide (t.chans.length ≤ 8) = false := by simp; omega
    simp only [c86, runF_eq, ex0, ex1, ex2, ex3, ex4, ex5, ex6, ex7, ex8, Nat.reduceAdd, Nat.reduceMul, Nat.reduceSub, Nat.reduceDiv, Nat.reduceEqDiff, Nat.reduceLT, Nat.reduceGT, Nat.reduceLeDiff, reduceIte, reduceCtorEq, Tables.row, Tables.cells, List.length_map, g0, g1, chansOk, g0', g1', Bool.true_and, Bool.false_and]
  have g1' : decide (t.chans.length ≤ 8) = true := by simp; omega
  cases g2 : t.devs.all (fun d => inB d 0 (t.parts.length - 1)) with
  | false =>
    obtain ⟨k, d, _, h0⟩ := h0.2 g2
    simp only [c86, runF_eq, ex0, ex1, ex2, ex3, ex4, ex5, ex6, ex7, ex8, Nat.reduceAdd, Nat.reduceMul, Nat.reduceSub, Nat.reduceDiv, Nat.reduceEqDiff, Nat.reduceLT, Nat.reduceGT, Nat.reduceLeDiff, reduceIte, reduceCtorEq, Tables.row, Tables.cells, List.length_map, g0, g1, h0, chansOk, g0', g1', g2, Bool.true_and, Bool.false_and]
  | true =>
    cases g3 : t.chans.all (chanIn t.parts.length) with
    | false =>
      obtain ⟨k, d, _, h1⟩ := h1.2 g3
      simp only [c86, runF_eq, ex0, ex1, ex2, ex3, ex4, ex5, ex6, ex7, ex8, Nat.reduceAdd, Nat.reduceMul, Nat.reduceSub, Nat.reduceDiv, Nat.reduceEqDiff, Nat.reduceLT, Nat.reduceGT, Nat.reduceLeDiff, reduceIte, reduceCtorEq, Tables.row, Tables.cells, List.length_map, g0, g1, h0.1 g2, h1, chansOk, g0', g1', g2, g3, Bool.true_and, Bool.false_and]
    | true =>
      have hr : ∀ r ∈ t.chans, chanOk r = true := fun r hr => by
        have := List.all_eq_true.1 g3 r hr
        simp only [chanIn, Bool.and_eq_true] at this
        exact this.1
      have hwp := WorstPad_ok t.costs t.shape t.chans hh'.2.2.2.2.1 hh'.2.2.1 (by omega) hr
      simp only [c86, runF_eq, ex0, ex1, ex2, ex3, ex4, ex5, ex6, ex7, ex8, Nat.reduceAdd, Nat.reduceMul, Nat.reduceSub, Nat.reduceDiv, Nat.reduceEqDiff, Nat.reduceLT, Nat.reduceGT, Nat.reduceLeDiff, reduceIte, reduceCtorEq, Tables.row, Tables.cells, List.length_map, g0, g1, h0.1 g2, h1.1 g3, l133, hwp, chansOk, g0', g1', g2, g3, Bool.true_and]
def slotStep (t : Tables) (e : Int) (s : Slot) : Option Int := if (0 ≤ s.part ∧ s.part < t.parts.length) ∧ e ≤ s.start ∧ t.pad + t.guard < s.len ∧ s.start + s.len ≤ t.major then some (s.start + s.len) else none
def slotsOk (t : Tables) : Bool := inB t.slots.length 1 16 && (foldO (fun _ e s => slotStep t e s) 0 0 t.slots).isSome
theorem l13Slots_ok (b : Bool) (t : Tables) (hf : t.fit) (hh : headOk t = true) : L 87 [.agg (t.row b)] [] = some ([.bool (slotsOk t)], []) := by
  obtain ⟨fp, f1, f2, f3, f4⟩ := hf
  have hh' := headOk_iff.1 hh
  have hl := foldO_loop (S := LL 50) (b := b87_0) t.slots (fun _ e s => slotStep t e s)
    (fun k e => ⟨[(1, .ptr 1000 0 0), (3, .int .i64 e), (4, .int .i64 (k : Int))], [(1000, some [t.row b])]⟩)
    (fun k e s => (.ret, ⟨[(2, .bool false)], [(5000, some [[.int .i64 s.part, .int .i64 s.start, .int .i64 s.len]]), (5000, some [[.int .i64 0, .int .i64 0, .int .i64 0]]), (1000, some [t.row b])]⟩))
    (fun e => (.exit 0, ⟨[(1, .ptr 1000 0 0), (3, .int .i64 e), (4, .int .i64 (t.slots.length : Int)), (15, .bool false)], [(1000, some [t.row b])]⟩))
    (fun _ e => 0 ≤ e ∧ e ≤ 5000) (fun k s e hx he => by
      have hk : k < t.slots.length := (List.getElem?_eq_some_iff.1 hx).1
      have hw : IntKind.i64.wrap ((k : Int) + 1) = ((k + 1 : Nat) : Int) := wrap_succ (by omega)
      have w1 : IntKind.i64.wrap ((t.parts.length : Int) - 1) = (t.parts.length : Int) - 1 := wrap_eq (by omega) (by omega)
      have w2 : IntKind.i64.wrap (t.pad + t.guard) = t.pad + t.guard := wrap_eq (by omega) (by omega)
      have w3 : IntKind.i64.wrap (t.pad + t.guard + 1) = t.pad + t.guard + 1 := wrap_eq (by omega) (by omega)
      cases g1 : inB s.part 0 ((t.parts.length : Int) - 1) with
      | false =>
        have hs : slotStep t s.part s = none ∧ slotStep t e s = none := by
          rw [← Bool.not_eq_true, inB_iff] at g1
          unfold slotStep
          exact ⟨if_neg (by omega), if_neg (by omega)⟩
        simp only [hs.2, b87_0, ex0, ex1, ex2, ex3, ex4, ex5, ex6, ex7, ex8, Nat.reduceAdd, Nat.reduceMul, Nat.reduceSub, Nat.reduceDiv, Nat.reduceEqDiff, Nat.reduceLT, Nat.reduceGT, Nat.reduceLeDiff, reduceIte, reduceCtorEq, Tables.row, Tables.cells, List.length_map, List.getElem?_map, hx, Int.ofNat_lt, hk, hw, Slot.row, w1, l42, l01In_ok, g1]
      | true =>
        cases g2 : inB s.start e 5000 with
        | false =>
          have hs : slotStep t e s = none := by
            rw [inB_iff] at g1
            rw [← Bool.not_eq_true, inB_iff] at g2
            unfold slotStep
            exact if_neg (by omega)
          simp only [hs, b87_0, ex0, ex1, ex2, ex3, ex4, ex5, ex6, ex7, ex8, Nat.reduceAdd, Nat.reduceMul, Nat.reduceSub, Nat.reduceDiv, Nat.reduceEqDiff, Nat.reduceLT, Nat.reduceGT, Nat.reduceLeDiff, reduceIte, reduceCtorEq, Tables.row, Tables.cells, List.length_map, List.getElem?_map, hx, Int.ofNat_lt, hk, hw, Slot.row, w1, l42, l01In_ok, g1, g2]
        | true =>
          cases g3 : inB s.len (t.pad + t.guard + 1) 5000 with
          | false =>
            have hs : slotStep t e s = none := by
              rw [inB_iff] at g1 g2
              rw [← Bool.not_eq_true, inB_iff] at g3
              unfold slotStep
              exact if_neg (by omega)
            simp only [hs, b87_0, ex0, ex1, ex2, ex3, ex4, ex5, ex6, ex7, ex8, Nat.reduceAdd, Nat.reduceMul, Nat.reduceSub, Nat.reduceDiv, Nat.reduceEqDiff, Nat.reduceLT, Nat.reduceGT, Nat.reduceLeDiff, reduceIte, reduceCtorEq, Tables.row, Tables.cells, List.length_map, List.getElem?_map, hx, Int.ofNat_lt, hk, hw, Slot.row, w1, w2, w3, l42, l01In_ok, g1, g2, g3]
          | true =>
            have g1' := inB_iff.1 g1
            have g2' := inB_iff.1 g2
            have g3' := inB_iff.1 g3
            have w4 : IntKind.i64.wrap (s.start + s.len) = s.start + s.len := wrap_eq (by omega) (by omega)
            by_cases g4 : t.major < s.start + s.len
            · have hs : slotStep t e s = none := by
                unfold slotStep
                exact if_neg (by omega)
              simp only [hs, b87_0, ex0, ex1, ex2, ex3, ex4, ex5, ex6, ex7, ex8, Nat.reduceAdd, Nat.reduceMul, Nat.reduceSub, Nat.reduceDiv, Nat.reduceEqDiff, Nat.reduceLT, Nat.reduceGT, Nat.reduceLeDiff, reduceIte, reduceCtorEq, Tables.row, Tables.cells, List.length_map, List.getElem?_map, hx, Int.ofNat_lt, hk, hw, Slot.row, w1, w2, w3, w4, l42, l01In_ok, g1, g2, g3, g4]
            · have hs : slotStep t e s = some (s.start + s.len) := by
                unfold slotStep
                exact if_pos (by omega)
              simp only [hs, b87_0, ex0, ex1, ex2, ex3, ex4, ex5, ex6, ex7, ex8, Nat.reduceAdd, Nat.reduceMul, Nat.reduceSub, Nat.reduceDiv, Nat.reduceEqDiff, Nat.reduceLT, Nat.reduceGT, Nat.reduceLeDiff, reduceIte, reduceCtorEq, Tables.row, Tables.cells, List.length_map, List.getElem?_map, hx, Int.ofNat_lt, hk, hw, Slot.row, w1, w2, w3, w4, l42, l01In_ok, g1, g2, g3, g4]
              omega) (fun e _ => by
      simp only [b87_0, ex0, ex1, ex2, ex3, ex4, ex5, ex6, ex7, ex8, Nat.reduceAdd, Nat.reduceMul, Nat.reduceSub, Nat.reduceDiv, Nat.reduceEqDiff, Nat.reduceLT, Nat.reduceGT, Nat.reduceLeDiff, reduceIte, reduceCtorEq, Tables.row, Tables.cells, List.length_map, Int.lt_irrefl]) t.slots 0 0 rfl (Nat.zero_le _) (by omega)
  rw [show ((0 : Nat) : Int) = 0 from rfl] at hl
  simp only [Tables.row, Tables.cells] at hl
  rw [e87]
  cases g0 : inB t.slots.length 1 16 with
  | false => simp only [c87, runF_eq, ex0, ex1, ex2, ex3, ex4, ex5, ex6, ex7, ex8, Nat.reduceAdd, Nat.reduceMul, Nat.reduceSub, Nat.reduceDiv, Nat.reduceEqDiff, Nat.reduceLT, Nat.reduceGT, Nat.reduceLeDiff, reduceIte, reduceCtorEq, Tables.row, Tables.cells, List.length_map, l42, l01In_ok, g0, slotsOk, Bool.false_and]
  | true =>
    cases hfo : foldO (fun _ e s => slotStep t e s) 0 0 t.slots with
    | some e =>
      rw [hfo] at hl
      simp only [c87, runF_eq, ex0, ex1, ex2, ex3, ex4, ex5, ex6, ex7, ex8, Nat.reduceAdd, Nat.reduceMul, Nat.reduceSub, Nat.reduceDiv, Nat.reduceEqDiff, Nat.reduceLT, Nat.reduceGT, Nat.reduceLeDiff, reduceIte, reduceCtorEq, Tables.row, Tables.cells, List.length_map, l42, l01In_ok, g0, hl.2, slotsOk, hfo, Option.isSome_some, Bool.and_self]
    | none =>
      rw [hfo] at hl
      obtain ⟨_, _, _, _, _, _, hl⟩ := hl
      simp only [c87, runF_eq, ex0, ex1, ex2, ex3, ex4, ex5, ex6, ex7, ex8, Nat.reduceAdd, Nat.reduceMul, Nat.reduceSub, Nat.reduceDiv, Nat.reduceEqDiff, Nat.reduceLT, Nat.reduceGT, Nat.reduceLeDiff, reduceIte, reduceCtorEq, Tables.row, Tables.cells, List.length_map, l42, l01In_ok, g0, hl, slotsOk, hfo, Option.isSome_none, Bool.and_false]
def soundOk (t : Tables) : Bool := headOk t && (partsOk t && (chansOk t && slotsOk t))
theorem Sound_ok (b : Bool) (t : Tables) (hf : t.fit) : L 41 [.agg (t.row b)] [] = some ([.bool (soundOk t)], []) := by
  have h1 := l13Head_ok b t
  have h2 := l13Parts_ok b t hf
  have h3 := l13Chans_ok b t hf
  have h4 := l13Slots_ok b t hf
  simp only [Tables.row, Tables.cells] at h1 h2 h3 h4
  rw [e41]
  cases g1 : headOk t with
  | false => simp only [c41, runF_eq, ex0, ex1, ex2, ex3, ex4, ex5, ex6, ex7, ex8, Nat.reduceAdd, Nat.reduceMul, Nat.reduceSub, Nat.reduceDiv, Nat.reduceEqDiff, Nat.reduceLT, Nat.reduceGT, Nat.reduceLeDiff, reduceIte, reduceCtorEq, Tables.row, Tables.cells, l84, h1, g1, soundOk, Bool.false_and]
  | true =>
    cases g2 : partsOk t <;> cases g3 : chansOk t <;> simp only [c41, runF_eq, ex0, ex1, ex2, ex3, ex4, ex5, ex6, ex7, ex8, Nat.reduceAdd, Nat.reduceMul, Nat.reduceSub, Nat.reduceDiv, Nat.reduceEqDiff, Nat.reduceLT, Nat.reduceGT, Nat.reduceLeDiff, reduceIte, reduceCtorEq, Tables.row, Tables.cells, l84, h1, l85, h2, l86, h3 g1, l87, h4 g1, g1, g2, g3, soundOk, Bool.false_and, Bool.true_and]
end Go.Proofs.YtahjhlnhkoifhaaGreat.Plan
