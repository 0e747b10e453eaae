/- FnExactPlan: for all arguments the law answers true. A text of its proof: what functions of the program and of the reference answer; no conditions but those that each theorem names. -/
import Derived.Test.YtahjhlnhkoifhaaGreatIXPlan
set_option linter.unusedSimpArgs false
set_option linter.unusedVariables false
set_option maxRecDepth 100000
namespace Go.Proofs.YtahjhlnhkoifhaaGreat.Plan
open Go Go.Lev
/-! Names, policies, windows. -/
def low (x : UInt8) : Bool := inB x.toNat 97 122
def labelOk (s : ByteArray) : Bool := s.data.toList.all low && inB s.size 1 12
def nameOk (s : ByteArray) : Bool := labelOk s && decide (s.size ≤ 8)
theorem data_get (s : ByteArray) (k : Nat) : s.data[k]? = s.data.toList[k]? := by rw [Array.getElem?_toList]
theorem data_len (s : ByteArray) : s.data.toList.length = s.size := by rw [Array.length_toList]; rfl
theorem LabelOk_ok (s : ByteArray) (h : s.size ≤ 140737488355328) : L 171 [.str s] [] = some ([.bool (labelOk s)], []) := by
  have hlen : (s.data.toList.take 13).length = min 13 s.size := by rw [List.length_take, data_len]
  have hl := all_loop (S := LL 39) (b := b171_0) (s.data.toList.take 13) (fun _ => low) (fun k => ⟨[(0, .str s), (3, .int .i64 (k : Int))], []⟩) (fun k x => ⟨[(2, .bool false), (0, .str s), (3, .int .i64 (k : Int)), (19, .bool true)], []⟩) 0
    ⟨[(0, .str s), (3, .int .i64 (min 13 s.size : Nat)), (11, .bool false)], []⟩ (fun k x hx => by
      have hk := (List.getElem?_eq_some_iff.1 hx).1
      rw [hlen] at hk
      have h1 : (k : Int) < s.size := by omega
      have h2 : (k : Int) < 13 := by omega
      have hx' : s.data[k]? = some x := by
        rw [List.getElem?_take] at hx
        rw [data_get]
        split at hx
        · exact hx
        · cases hx
      have hw : IntKind.i64.wrap ((k : Int) + 1) = ((k + 1 : Nat) : Int) := wrap_succ (by omega)
      have hb : IntKind.i64.wrap (x.toNat : Int) = x.toNat := wrap_eq (by omega) (by have := x.toNat_lt; omega)
      cases hc : low x <;> have hc' := hc <;> unfold low at hc' <;> simp only [b171_0, ex0, ex1, ex2, ex3, ex4, ex5, ex6, ex7, ex8, Nat.reduceAdd, Nat.reduceMul, Nat.reduceSub, Nat.reduceDiv, Nat.reduceEqDiff, Nat.reduceLT, Nat.reduceGT, Nat.reduceLeDiff, reduceIte, reduceCtorEq, h1, h2, hx', hw, hb, l42, l01In_ok, hc', hc]) (by
      rw [hlen]
      have h2 : ¬ ((min 13 s.size : Nat) : Int) < s.size ∨ ¬ ((min 13 s.size : Nat) : Int) < 13 := by omega
      by_cases h1 : ((min 13 s.size : Nat) : Int) < s.size
      · have h2 : ¬ ((min 13 s.size : Nat) : Int) < 13 := by omega
        simp only [b171_0, ex0, ex1, ex2, ex3, ex4, ex5, ex6, ex7, ex8, Nat.reduceAdd, Nat.reduceMul, Nat.reduceSub, Nat.reduceDiv, Nat.reduceEqDiff, Nat.reduceLT, Nat.reduceGT, Nat.reduceLeDiff, reduceIte, reduceCtorEq, h1, h2]
      · simp only [b171_0, ex0, ex1, ex2, ex3, ex4, ex5, ex6, ex7, ex8, Nat.reduceAdd, Nat.reduceMul, Nat.reduceSub, Nat.reduceDiv, Nat.reduceEqDiff, Nat.reduceLT, Nat.reduceGT, Nat.reduceLeDiff, reduceIte, reduceCtorEq, h1])
  rw [show ((0 : Nat) : Int) = 0 from rfl, allK_all] at hl
  have hlast : inB s.size 1 12 = true → s.data.toList.take 13 = s.data.toList := fun hi => by
    rw [inB_iff] at hi
    exact List.take_of_length_le (by rw [data_len]; omega)
  rw [e171]
  cases ha : (s.data.toList.take 13).all low with
  | true =>
    simp only [c171, runF_eq, ex0, ex1, ex2, ex3, ex4, ex5, ex6, ex7, ex8, Nat.reduceAdd, Nat.reduceMul, Nat.reduceSub, Nat.reduceDiv, Nat.reduceEqDiff, Nat.reduceLT, Nat.reduceGT, Nat.reduceLeDiff, reduceIte, reduceCtorEq, hl.1 ha, l42, l01In_ok]
    apply bool_ok
    rw [labelOk, Bool.and_eq_true]
    exact ⟨fun hi => ⟨by rw [← hlast hi]; exact ha, hi⟩, fun hi => hi.2⟩
  | false =>
    obtain ⟨k, x, _, hl⟩ := hl.2 ha
    simp only [c171, runF_eq, ex0, ex1, ex2, ex3, ex4, ex5, ex6, ex7, ex8, Nat.reduceAdd, Nat.reduceMul, Nat.reduceSub, Nat.reduceDiv, Nat.reduceEqDiff, Nat.reduceLT, Nat.reduceGT, Nat.reduceLeDiff, reduceIte, reduceCtorEq, hl]
    apply bool_ok
    rw [labelOk, Bool.and_eq_true]
    refine ⟨fun hi => (by cases hi), fun hi => ?_⟩
    rw [hlast hi.2, hi.1] at ha
    cases ha
theorem NameOk_ok (s : ByteArray) (h : s.size ≤ 140737488355328) : L 155 [.str s] [] = some ([.bool (nameOk s)], []) := by
  rw [e155]
  by_cases h8 : s.size ≤ 8
  · have h8' : (s.size : Int) ≤ 8 := by omega
    simp only [c155, runF_eq, ex0, ex1, ex2, ex3, ex4, ex5, ex6, ex7, ex8, Nat.reduceAdd, Nat.reduceMul, Nat.reduceSub, Nat.reduceDiv, Nat.reduceEqDiff, Nat.reduceLT, Nat.reduceGT, Nat.reduceLeDiff, reduceIte, reduceCtorEq, h8', l171, LabelOk_ok s h]
    simp [nameOk, h8]
  · have h8' : ¬ (s.size : Int) ≤ 8 := by omega
    simp only [c155, runF_eq, ex0, ex1, ex2, ex3, ex4, ex5, ex6, ex7, ex8, Nat.reduceAdd, Nat.reduceMul, Nat.reduceSub, Nat.reduceDiv, Nat.reduceEqDiff, Nat.reduceLT, Nat.reduceGT, Nat.reduceLeDiff, reduceIte, reduceCtorEq, h8']
    simp [nameOk, h8]
theorem isLabel_ok (s : ByteArray) (h : s.size ≤ 140737488355328) : L 162 [.str s] [] = some ([.bool (labelOk s)], []) := by
  have hl := all_loop (S := LL 63) (b := b162_0) s.data.toList (fun _ => low) (fun k => ⟨[(0, .str s), (5, .int .i64 (s.size : Int)), (6, .int .i64 (k : Int))], []⟩) (fun k x => ⟨[(2, .bool false)], []⟩) 0
    ⟨[(7, .bool false), (0, .str s), (5, .int .i64 (s.size : Int)), (6, .int .i64 (s.size : Int))], []⟩ (fun k x hx => by
      have hk := (List.getElem?_eq_some_iff.1 hx).1
      rw [data_len] at hk
      have h1 : (k : Int) < s.size := by omega
      have hx' : s.data[k]? = some x := by rw [data_get]; exact hx
      have hw : IntKind.i64.wrap ((k : Int) + 1) = ((k + 1 : Nat) : Int) := wrap_succ (by omega)
      have hlow : low x = decide (97 ≤ (x.toNat : Int) ∧ (x.toNat : Int) ≤ 122) := rfl
      by_cases h3 : (x.toNat : Int) < 97
      · have hc : low x = false := by rw [hlow]; simp; omega
        simp only [b162_0, ex0, ex1, ex2, ex3, ex4, ex5, ex6, ex7, ex8, Nat.reduceAdd, Nat.reduceMul, Nat.reduceSub, Nat.reduceDiv, Nat.reduceEqDiff, Nat.reduceLT, Nat.reduceGT, Nat.reduceLeDiff, reduceIte, reduceCtorEq, h1, hx', hw, h3, hc]
      · by_cases h4 : 122 < (x.toNat : Int)
        · have hc : low x = false := by rw [hlow]; simp; omega
          simp only [b162_0, ex0, ex1, ex2, ex3, ex4, ex5, ex6, ex7, ex8, Nat.reduceAdd, Nat.reduceMul, Nat.reduceSub, Nat.reduceDiv, Nat.reduceEqDiff, Nat.reduceLT, Nat.reduceGT, Nat.reduceLeDiff, reduceIte, reduceCtorEq, h1, hx', hw, h3, h4, hc]
        · have hc : low x = true := by rw [hlow]; simp; omega
          simp only [b162_0, ex0, ex1, ex2, ex3, ex4, ex5, ex6, ex7, ex8, Nat.reduceAdd, Nat.reduceMul, Nat.reduceSub, Nat.reduceDiv, Nat.reduceEqDiff, Nat.reduceLT, Nat.reduceGT, Nat.reduceLeDiff, reduceIte, reduceCtorEq, h1, hx', hw, h3, h4, hc]) (by
      simp only [b162_0, ex0, ex1, ex2, ex3, ex4, ex5, ex6, ex7, ex8, Nat.reduceAdd, Nat.reduceMul, Nat.reduceSub, Nat.reduceDiv, Nat.reduceEqDiff, Nat.reduceLT, Nat.reduceGT, Nat.reduceLeDiff, reduceIte, reduceCtorEq, data_len, Int.lt_irrefl])
  rw [show ((0 : Nat) : Int) = 0 from rfl, allK_all] at hl
  rw [e162]
  cases ha : s.data.toList.all low with
  | true =>
    simp only [c162, runF_eq, ex0, ex1, ex2, ex3, ex4, ex5, ex6, ex7, ex8, Nat.reduceAdd, Nat.reduceMul, Nat.reduceSub, Nat.reduceDiv, Nat.reduceEqDiff, Nat.reduceLT, Nat.reduceGT, Nat.reduceLeDiff, reduceIte, reduceCtorEq, hl.1 ha, l52, within_ok]
    simp [labelOk, ha]
  | false =>
    obtain ⟨k, x, _, hl⟩ := hl.2 ha
    simp only [c162, runF_eq, ex0, ex1, ex2, ex3, ex4, ex5, ex6, ex7, ex8, Nat.reduceAdd, Nat.reduceMul, Nat.reduceSub, Nat.reduceDiv, Nat.reduceEqDiff, Nat.reduceLT, Nat.reduceGT, Nat.reduceLeDiff, reduceIte, reduceCtorEq, hl]
    simp only [labelOk, ha, Bool.false_and]
theorem isName_ok (s : ByteArray) (h : s.size ≤ 140737488355328) : L 138 [.str s] [] = some ([.bool (nameOk s)], []) := by
  rw [e138]
  have h8 : decide ((s.size : Int) ≤ 8) = decide (s.size ≤ 8) := by simp only [decide_eq_decide]; omega
  cases hb : labelOk s <;> simp only [c138, runF_eq, ex0, ex1, ex2, ex3, ex4, ex5, ex6, ex7, ex8, Nat.reduceAdd, Nat.reduceMul, Nat.reduceSub, Nat.reduceDiv, Nat.reduceEqDiff, Nat.reduceLT, Nat.reduceGT, Nat.reduceLeDiff, reduceIte, reduceCtorEq, l162, isLabel_ok s h, hb, h8, nameOk, Bool.false_and, Bool.true_and]
def policyOk (p : Policy) : Bool := decide ((p.kind = 1 ∧ 0 ≤ p.most ∧ p.most ≤ 100) ∨ ((p.kind = 0 ∨ p.kind = 2) ∧ p.most = 0))
theorem PolicyOk_ok (x0 x1 : Int) : L 156 [.agg [.int .i64 x0, .int .i64 x1]] [] = some ([.bool (policyOk ⟨x0, x1⟩)], []) := by
  rw [e156]
  simp only [c156, runF_eq, ex0, ex1, ex2, ex3, ex4, ex5, ex6, ex7, ex8, Nat.reduceAdd, Nat.reduceMul, Nat.reduceSub, Nat.reduceDiv, Nat.reduceEqDiff, Nat.reduceLT, Nat.reduceGT, Nat.reduceLeDiff, reduceIte, reduceCtorEq, l42, l01In_ok]
  (try (repeat' split)) <;> (apply bool_ok; simp only [policyOk, inB_iff, Bool.and_eq_true, Bool.or_eq_true, Bool.not_eq_true', Bool.not_eq_true, Bool.eq_false_iff, ne_eq, decide_eq_true_eq, true_iff, false_iff, iff_true, iff_false, Bool.false_eq_true, not_false_eq_true] at *; try omega)
theorem isPolicy_ok (x0 x1 : Int) : L 140 [.agg [.int .i64 x0, .int .i64 x1]] [] = some ([.bool (policyOk ⟨x0, x1⟩)], []) := by
  rw [e140]
  simp only [c140, runF_eq, ex0, ex1, ex2, ex3, ex4, ex5, ex6, ex7, ex8, Nat.reduceAdd, Nat.reduceMul, Nat.reduceSub, Nat.reduceDiv, Nat.reduceEqDiff, Nat.reduceLT, Nat.reduceGT, Nat.reduceLeDiff, reduceIte, reduceCtorEq, l52, within_ok]
  (try (repeat' split)) <;> (apply bool_ok; simp only [policyOk, inB_iff, Bool.and_eq_true, Bool.or_eq_true, Bool.not_eq_true', Bool.not_eq_true, Bool.eq_false_iff, ne_eq, decide_eq_true_eq, true_iff, false_iff, iff_true, iff_false, Bool.false_eq_true, not_false_eq_true] at *; try omega)
def windowOk (w : Window) : Bool := decide (0 ≤ w.base ∧ 4 ≤ w.size ∧ w.base.tmod 4 = 0 ∧ w.size.tmod 4 = 0 ∧ w.base + w.size ≤ 2048 ∧ 1 ≤ w.perm ∧ w.perm ≤ 7)
theorem windowOk_iff {w : Window} : windowOk w = true ↔ 0 ≤ w.base ∧ 4 ≤ w.size ∧ w.base.tmod 4 = 0 ∧ w.size.tmod 4 = 0 ∧ w.base + w.size ≤ 2048 ∧ 1 ≤ w.perm ∧ w.perm ≤ 7 := by
  simp only [windowOk, decide_eq_true_eq]
theorem WindowOk_ok (x0 x1 x2 : Int) : L 157 [.agg [.int .i64 x0, .int .i64 x1, .int .i64 x2]] [] = some ([.bool (windowOk ⟨x0, x1, x2⟩)], []) := by
  have n4 : ¬ (4 : Int) = 0 := by decide
  rw [e157]
  by_cases hr : 0 ≤ x0 ∧ x0 ≤ 2048 ∧ x1 ≤ 2048 ∧ 4 ≤ x1
  · have w1 : IntKind.i64.wrap (x0 + x1) = x0 + x1 := wrap_eq (by omega) (by omega)
    simp only [c157, runF_eq, ex0, ex1, ex2, ex3, ex4, ex5, ex6, ex7, ex8, Nat.reduceAdd, Nat.reduceMul, Nat.reduceSub, Nat.reduceDiv, Nat.reduceEqDiff, Nat.reduceLT, Nat.reduceGT, Nat.reduceLeDiff, reduceIte, reduceCtorEq, l42, l01In_ok, n4, w1]
    (try (repeat' split)) <;> (apply bool_ok; simp only [windowOk, inB_iff, Bool.and_eq_true, Bool.or_eq_true, Bool.not_eq_true', Bool.not_eq_true, Bool.eq_false_iff, ne_eq, decide_eq_true_eq, true_iff, false_iff, iff_true, iff_false, Bool.false_eq_true, not_false_eq_true] at *; try omega)
  · simp only [c157, runF_eq, ex0, ex1, ex2, ex3, ex4, ex5, ex6, ex7, ex8, Nat.reduceAdd, Nat.reduceMul, Nat.reduceSub, Nat.reduceDiv, Nat.reduceEqDiff, Nat.reduceLT, Nat.reduceGT, Nat.reduceLeDiff, reduceIte, reduceCtorEq, l42, l01In_ok, n4]
    (try (repeat' split)) <;> (apply bool_ok; simp only [windowOk, inB_iff, Bool.and_eq_true, Bool.or_eq_true, Bool.not_eq_true', Bool.not_eq_true, Bool.eq_false_iff, ne_eq, decide_eq_true_eq, true_iff, false_iff, iff_true, iff_false, Bool.false_eq_true, not_false_eq_true] at *; try omega)
theorem isWindow_ok (x0 x1 x2 : Int) : L 141 [.agg [.int .i64 x0, .int .i64 x1, .int .i64 x2]] [] = some ([.bool (windowOk ⟨x0, x1, x2⟩)], []) := by
  have n4 : ¬ (4 : Int) = 0 := by decide
  rw [e141]
  by_cases hr : 4 ≤ x1 ∧ x1 ≤ 2048
  · have w1 : IntKind.i64.wrap (2048 - x1) = 2048 - x1 := wrap_eq (by omega) (by omega)
    simp only [c141, runF_eq, ex0, ex1, ex2, ex3, ex4, ex5, ex6, ex7, ex8, Nat.reduceAdd, Nat.reduceMul, Nat.reduceSub, Nat.reduceDiv, Nat.reduceEqDiff, Nat.reduceLT, Nat.reduceGT, Nat.reduceLeDiff, reduceIte, reduceCtorEq, l52, within_ok, n4, w1]
    (try (repeat' split)) <;> (apply bool_ok; simp only [windowOk, inB_iff, Bool.and_eq_true, Bool.or_eq_true, Bool.not_eq_true', Bool.not_eq_true, Bool.eq_false_iff, ne_eq, decide_eq_true_eq, true_iff, false_iff, iff_true, iff_false, Bool.false_eq_true, not_false_eq_true] at *; try omega)
  · simp only [c141, runF_eq, ex0, ex1, ex2, ex3, ex4, ex5, ex6, ex7, ex8, Nat.reduceAdd, Nat.reduceMul, Nat.reduceSub, Nat.reduceDiv, Nat.reduceEqDiff, Nat.reduceLT, Nat.reduceGT, Nat.reduceLeDiff, reduceIte, reduceCtorEq, l52, within_ok, n4]
    (try (repeat' split)) <;> (apply bool_ok; simp only [windowOk, inB_iff, Bool.and_eq_true, Bool.or_eq_true, Bool.not_eq_true', Bool.not_eq_true, Bool.eq_false_iff, ne_eq, decide_eq_true_eq, true_iff, false_iff, iff_true, iff_false, Bool.false_eq_true, not_false_eq_true] at *; try omega)
def has (a : Int) (w : Window) : Bool := decide (w.base ≤ a ∧ a < w.base + w.size)
theorem l07Has_ok (x0 x1 x2 a : Int) (h : windowOk ⟨x0, x1, x2⟩ = true) : L 158 [.agg [.int .i64 x0, .int .i64 x1, .int .i64 x2], .int .i64 a] [] = some ([.bool (has a ⟨x0, x1, x2⟩)], []) := by
  rw [windowOk_iff] at h; dsimp only at h
  have w1 : IntKind.i64.wrap (x0 + x1) = x0 + x1 := wrap_eq (by omega) (by omega)
  rw [e158]
  simp only [c158, runF_eq, ex0, ex1, ex2, ex3, ex4, ex5, ex6, ex7, ex8, Nat.reduceAdd, Nat.reduceMul, Nat.reduceSub, Nat.reduceDiv, Nat.reduceEqDiff, Nat.reduceLT, Nat.reduceGT, Nat.reduceLeDiff, reduceIte, reduceCtorEq, w1]
  (try (repeat' split)) <;> (apply bool_ok; simp only [has, inB_iff, Bool.and_eq_true, Bool.or_eq_true, Bool.not_eq_true', Bool.not_eq_true, Bool.eq_false_iff, ne_eq, decide_eq_true_eq, true_iff, false_iff, iff_true, iff_false, Bool.false_eq_true, not_false_eq_true] at *; try omega)
theorem windowAt1_ok (x0 x1 x2 a : Int) (h : windowOk ⟨x0, x1, x2⟩ = true) : L 172 [.agg [.int .i64 x0, .int .i64 x1, .int .i64 x2], .pimm [.int .i64 a]] [] = some ([.bool (has a ⟨x0, x1, x2⟩)], []) := by
  rw [windowOk_iff] at h; dsimp only at h
  have w1 : IntKind.i64.wrap (x0 + x1) = x0 + x1 := wrap_eq (by omega) (by omega)
  rw [e172]
  simp only [c172, runF_eq, ex0, ex1, ex2, ex3, ex4, ex5, ex6, ex7, ex8, Nat.reduceAdd, Nat.reduceMul, Nat.reduceSub, Nat.reduceDiv, Nat.reduceEqDiff, Nat.reduceLT, Nat.reduceGT, Nat.reduceLeDiff, reduceIte, reduceCtorEq, w1]
  (try (repeat' split)) <;> (apply bool_ok; simp only [has, inB_iff, Bool.and_eq_true, Bool.or_eq_true, Bool.not_eq_true', Bool.not_eq_true, Bool.eq_false_iff, ne_eq, decide_eq_true_eq, true_iff, false_iff, iff_true, iff_false, Bool.false_eq_true, not_false_eq_true] at *; try omega)
theorem windowAt_ok (ws : List Window) (a : Int) (hl : ws.length < 4000000000000000000) (h : ∀ w ∈ ws, windowOk w = true) : L 166 [.list 3 (ws.map Window.row), .int .i64 a] [] = some ([.int .i64 (findK (has a) 0 ws)], []) := by
  have hi := IndexFuncW_ok ws 172 [.pimm [.int .i64 a]] (.inr ⟨_, rfl⟩) (has a) hl (fun w hw => by
    rw [l172 (by decide)]
    exact windowAt1_ok w.base w.size w.perm a (h w hw))
  rw [e166]
  simp only [c166, runF_eq, ex0, ex1, ex2, ex3, ex4, ex5, ex6, ex7, ex8, Nat.reduceAdd, Nat.reduceMul, Nat.reduceSub, Nat.reduceDiv, Nat.reduceEqDiff, Nat.reduceLT, Nat.reduceGT, Nat.reduceLeDiff, reduceIte, reduceCtorEq, ren0_pimm, frzCell_int, frzCell_str, frzCell_bool, l165, hi]
def apart (v w : Window) : Bool := decide (v.base + v.size ≤ w.base ∨ w.base + w.size ≤ v.base)
theorem areApart_ok (x0 x1 x2 y0 y1 y2 : Int) (h : windowOk ⟨x0, x1, x2⟩ = true) (h' : windowOk ⟨y0, y1, y2⟩ = true) : L 144 [.agg [.int .i64 x0, .int .i64 x1, .int .i64 x2], .agg [.int .i64 y0, .int .i64 y1, .int .i64 y2]] [] = some ([.bool (apart ⟨x0, x1, x2⟩ ⟨y0, y1, y2⟩)], []) := by
  rw [windowOk_iff] at h h'; dsimp only at h h'
  have w1 : IntKind.i64.wrap (x0 + x1) = x0 + x1 := wrap_eq (by omega) (by omega)
  have w2 : IntKind.i64.wrap (y0 + y1) = y0 + y1 := wrap_eq (by omega) (by omega)
  rw [e144]
  simp only [c144, runF_eq, ex0, ex1, ex2, ex3, ex4, ex5, ex6, ex7, ex8, Nat.reduceAdd, Nat.reduceMul, Nat.reduceSub, Nat.reduceDiv, Nat.reduceEqDiff, Nat.reduceLT, Nat.reduceGT, Nat.reduceLeDiff, reduceIte, reduceCtorEq, w1, w2]
  (try (repeat' split)) <;> (apply bool_ok; simp only [apart, inB_iff, Bool.and_eq_true, Bool.or_eq_true, Bool.not_eq_true', Bool.not_eq_true, Bool.eq_false_iff, ne_eq, decide_eq_true_eq, true_iff, false_iff, iff_true, iff_false, Bool.false_eq_true, not_false_eq_true] at *; try omega)
theorem areParts1_ok (x0 x1 x2 y0 y1 y2 : Int) (h : windowOk ⟨x0, x1, x2⟩ = true) (h' : windowOk ⟨y0, y1, y2⟩ = true) : L 143 [.agg [.int .i64 x0, .int .i64 x1, .int .i64 x2], .pimm [.int .i64 y0, .int .i64 y1, .int .i64 y2]] [] = some ([.bool (!(apart ⟨x0, x1, x2⟩ ⟨y0, y1, y2⟩))], []) := by
  rw [e143]
  simp only [c143, runF_eq, ex0, ex1, ex2, ex3, ex4, ex5, ex6, ex7, ex8, Nat.reduceAdd, Nat.reduceMul, Nat.reduceSub, Nat.reduceDiv, Nat.reduceEqDiff, Nat.reduceLT, Nat.reduceGT, Nat.reduceLeDiff, reduceIte, reduceCtorEq, l144, areApart_ok x0 x1 x2 y0 y1 y2 h h']
theorem partNamed1_ok (p : PartRow) (s : ByteArray) : L 164 [.agg [.str p.name, .int .i64 p.entry, .int .i64 p.policy.kind, .int .i64 p.policy.most, .list 3 (p.windows.map Window.row)], .pimm [.str s]] [] = some ([.bool (decide (p.name = s))], []) := by
  rw [e164]
  simp only [c164, runF_eq, ex0, ex1, ex2, ex3, ex4, ex5, ex6, ex7, ex8, Nat.reduceAdd, Nat.reduceMul, Nat.reduceSub, Nat.reduceDiv, Nat.reduceEqDiff, Nat.reduceLT, Nat.reduceGT, Nat.reduceLeDiff, reduceIte, reduceCtorEq, strEq_iff]
theorem partNamed_ok (b : Bool) (t : Tables) (s : ByteArray) (hl : t.parts.length < 4000000000000000000) : L 139 [.agg (t.row b), .str s] [] = some ([.int .i64 (findK (fun p => decide (p.name = s)) 0 t.parts)], []) := by
  have hi := IndexFuncP_ok b t.parts 164 [.pimm [.str s]] (.inr ⟨_, rfl⟩) (fun p => decide (p.name = s)) hl (fun w hw => by
    rw [l164 (by decide)]
    exact partNamed1_ok w s)
  rw [e139]
  simp only [c139, runF_eq, ex0, ex1, ex2, ex3, ex4, ex5, ex6, ex7, ex8, Nat.reduceAdd, Nat.reduceMul, Nat.reduceSub, Nat.reduceDiv, Nat.reduceEqDiff, Nat.reduceLT, Nat.reduceGT, Nat.reduceLeDiff, reduceIte, reduceCtorEq, Tables.row, Tables.cells, ren0_pimm, frzCell_int, frzCell_str, frzCell_bool, l163, hi]
theorem perm_and : ∀ n : Fin 8, (IntKind.i64.wrap ((BitVec.ofInt IntKind.i64.bits (n.val : Int) &&& BitVec.ofInt IntKind.i64.bits 4).toNat : Int) = 0) = (n.val < 4) := by
  intro n; apply propext; revert n; decide
def runs (p : PartRow) (a : Int) : Bool := match p.windows.find? (has a) with
  | some w => decide (4 ≤ w.perm)
  | none => false
theorem findK_find {α : Type} (p : α → Bool) : ∀ (xs : List α) (k : Nat), (findK p k xs = -1 ∧ xs.find? p = none) ∨ ∃ j x, findK p k xs = ((k + j : Nat) : Int) ∧ xs.find? p = some x ∧ xs[j]? = some x
  | [], k => .inl ⟨rfl, rfl⟩
  | x :: r, k => by
    cases hp : p x with
    | true => exact .inr ⟨0, x, by simp [findK, hp], by simp [hp], rfl⟩
    | false =>
      rcases findK_find p r (k + 1) with ⟨h1, h2⟩ | ⟨j, y, h1, h2, h3⟩
      · exact .inl ⟨by simp [findK, hp, h1], by simp [hp, h2]⟩
      · exact .inr ⟨j + 1, y, by simp only [findK, hp]; rw [if_neg (by simp), h1]; congr 1; omega, by simp [hp, h2], by simpa using h3⟩
theorem runsAt_ok (p : PartRow) (a : Int) (hl : p.windows.length < 4000000000000000000) (h : ∀ w ∈ p.windows, windowOk w = true) : L 145 [.agg [.str p.name, .int .i64 p.entry, .int .i64 p.policy.kind, .int .i64 p.policy.most, .list 3 (p.windows.map Window.row)], .int .i64 a] [] = some ([.bool (runs p a)], []) := by
  have hw := windowAt_ok p.windows a hl h
  rw [e145]
  rcases findK_find (has a) p.windows 0 with ⟨h1, h2⟩ | ⟨j, x, h1, h2, h3⟩
  · rw [h1] at hw
    have n : ¬ (0 : Int) ≤ -1 := by decide
    simp only [c145, runF_eq, ex0, ex1, ex2, ex3, ex4, ex5, ex6, ex7, ex8, Nat.reduceAdd, Nat.reduceMul, Nat.reduceSub, Nat.reduceDiv, Nat.reduceEqDiff, Nat.reduceLT, Nat.reduceGT, Nat.reduceLeDiff, reduceIte, reduceCtorEq, l166, hw, n]
    simp [runs, h2]
  · rw [h1, Nat.zero_add] at hw
    have hx := windowOk_iff.1 (h x (List.mem_of_getElem? h3))
    obtain ⟨n, hn⟩ : ∃ n : Nat, x.perm = n := ⟨x.perm.toNat, by omega⟩
    have hp := perm_and ⟨n, by omega⟩
    have hj : (j : Int) < p.windows.length := by
      have := (List.getElem?_eq_some_iff.1 h3).1
      omega
    have hj0 : (0 : Int) ≤ j := by omega
    simp only [c145, runF_eq, ex0, ex1, ex2, ex3, ex4, ex5, ex6, ex7, ex8, Nat.reduceAdd, Nat.reduceMul, Nat.reduceSub, Nat.reduceDiv, Nat.reduceEqDiff, Nat.reduceLT, Nat.reduceGT, Nat.reduceLeDiff, reduceIte, reduceCtorEq, l166, hw, List.getElem?_map, h3, Window.row, hn, hp, hj, hj0]
    apply bool_ok
    simp [runs, h2, hn]
    omega
end Go.Proofs.YtahjhlnhkoifhaaGreat.Plan
