/- FnExactPlan: for all arguments the law answers true. A text of its proof: what functions of the program and of the reference answer; no conditions but those that each theorem names. -/
import Derived.Test.YtahjhlnhkoifhaaGreatSDPlan
set_option linter.unusedSimpArgs false
set_option linter.unusedVariables false
set_option maxRecDepth 100000
namespace Go.Proofs.YtahjhlnhkoifhaaGreat.Plan
open Go Go.Lev
/-! The reference's rules for partitions. -/
def nameNew (ps : List PartRow) (k : Nat) (p : PartRow) : Bool := (ps.take k).all fun q => !decide (q.name = p.name)
def apartNew (ws : List Window) (k : Nat) (w : Window) : Bool := (ws.take k).all fun v => apart v w
def partsOk (t : Tables) : Bool := inB t.parts.length 1 6 && (allK (fun k p => partOk t.mem p && nameNew t.parts k p) 0 t.parts && allK (apartNew (allW t.parts)) 0 (allW t.parts))
theorem take_get {α : Type} {xs : List α} {i k : Nat} {x : α} (h : (xs.take i)[k]? = some x) : k < i ∧ xs[k]? = some x := by
  rw [List.getElem?_take] at h
  split at h
  · exact ⟨by assumption, h⟩
  · cases h
theorem l13Parts_0 (b : Bool) (t : Tables) (i : Nat) (p : PartRow) (hi : t.parts[i]? = some p) (hlen : t.parts.length < 1000000000000000) :
    (nameNew t.parts i p = true → kLoop (LL 46) b85_0 ⟨[(1, .ptr 1000 0 0), (3, .int .i64 (i : Int)), (4, .int .i64 0)], [(1000, some [t.row b])]⟩ = some (.exit 2, ⟨[(31, .bool false), (30, .int .i64 (i : Int)), (29, .int .i64 (i : Int)), (1, .ptr 1000 0 0), (3, .int .i64 (i : Int)), (4, .int .i64 (i : Int))], [(1000, some [t.row b])]⟩)) ∧
    (nameNew t.parts i p = false → kLoop (LL 46) b85_0 ⟨[(1, .ptr 1000 0 0), (3, .int .i64 (i : Int)), (4, .int .i64 0)], [(1000, some [t.row b])]⟩ = some (.ret, ⟨[(2, .bool false)], [(1000, some [t.row b])]⟩)) := by
  have hil : i < t.parts.length := (List.getElem?_eq_some_iff.1 hi).1
  have hl := all_loop (S := LL 46) (b := b85_0) (t.parts.take i) (fun _ q => !decide (q.name = p.name))
    (fun k => ⟨[(1, .ptr 1000 0 0), (3, .int .i64 (i : Int)), (4, .int .i64 (k : Int))], [(1000, some [t.row b])]⟩) (fun k q => ⟨[(2, .bool false)], [(1000, some [t.row b])]⟩) 2
    ⟨[(31, .bool false), (30, .int .i64 (i : Int)), (29, .int .i64 (i : Int)), (1, .ptr 1000 0 0), (3, .int .i64 (i : Int)), (4, .int .i64 (i : Int))], [(1000, some [t.row b])]⟩ (fun k q hq => by
      obtain ⟨hk, hq⟩ := take_get hq
      have hkl : k < t.parts.length := by omega
      have hw : IntKind.i64.wrap ((k : Int) + 1) = ((k + 1 : Nat) : Int) := wrap_succ (by omega)
      by_cases he : q.name = p.name <;> simp only [b85_0, ex0, ex1, ex2, ex3, ex4, ex5, ex6, ex7, ex8, Nat.reduceAdd, Nat.reduceMul, Nat.reduceSub, Nat.reduceDiv, Nat.reduceEqDiff, Nat.reduceLT, Nat.reduceGT, Nat.reduceLeDiff, reduceIte, reduceCtorEq, Tables.row, Tables.cells, List.length_map, List.getElem?_map, hq, hi, Int.ofNat_lt, hk, hkl, hil, hw, PartRow.row, ldi_cell, strEq_iff, he, decide_true, decide_false, Bool.not_true, Bool.not_false, if_true, if_false, Bool.false_eq_true]) (by
      rw [List.length_take, Nat.min_eq_left (by omega)]
      simp only [b85_0, ex0, ex1, ex2, ex3, ex4, ex5, ex6, ex7, ex8, Nat.reduceAdd, Nat.reduceMul, Nat.reduceSub, Nat.reduceDiv, Nat.reduceEqDiff, Nat.reduceLT, Nat.reduceGT, Nat.reduceLeDiff, reduceIte, reduceCtorEq, Tables.row, Tables.cells, Int.lt_irrefl])
  rw [show ((0 : Nat) : Int) = 0 from rfl, allK_all] at hl
  refine ⟨hl.1, fun h => ?_⟩
  obtain ⟨_, _, _, h⟩ := hl.2 h
  exact h
theorem l13Parts_1 (b : Bool) (t : Tables) (hf : t.fit) :
    (allK (fun k p => partOk t.mem p && nameNew t.parts k p) 0 t.parts = true → kLoop (LL 46) b85_1 ⟨[(1, .ptr 1000 0 0), (3, .int .i64 0)], [(1000, some [t.row b])]⟩ = some (.exit 0, ⟨[(1, .ptr 1000 0 0), (3, .int .i64 (t.parts.length : Int)), (17, .bool false)], [(1000, some [t.row b])]⟩)) ∧
    (allK (fun k p => partOk t.mem p && nameNew t.parts k p) 0 t.parts = false → ∃ (k : Nat) (p : PartRow), t.parts[k]? = some p ∧ kLoop (LL 46) b85_1 ⟨[(1, .ptr 1000 0 0), (3, .int .i64 0)], [(1000, some [t.row b])]⟩ = some (.ret, if partOk t.mem p then ⟨[(2, .bool false)], [(1000, some [t.row b])]⟩ else ⟨[(2, .bool false), (1, .ptr 1000 0 0), (3, .int .i64 (k : Int)), (28, .bool true)], [(1000, some [t.row b])]⟩)) := by
  have hpl := hf.parts
  have hl := all_loop (S := LL 46) (b := b85_1) t.parts (fun k p => partOk t.mem p && nameNew t.parts k p)
    (fun k => ⟨[(1, .ptr 1000 0 0), (3, .int .i64 (k : Int))], [(1000, some [t.row b])]⟩)
    (fun k p => if partOk t.mem p then ⟨[(2, .bool false)], [(1000, some [t.row b])]⟩ else ⟨[(2, .bool false), (1, .ptr 1000 0 0), (3, .int .i64 (k : Int)), (28, .bool true)], [(1000, some [t.row b])]⟩) 0
    ⟨[(1, .ptr 1000 0 0), (3, .int .i64 (t.parts.length : Int)), (17, .bool false)], [(1000, some [t.row b])]⟩ (fun k p hp => by
      have hk : k < t.parts.length := (List.getElem?_eq_some_iff.1 hp).1
      have hw : IntKind.i64.wrap ((k : Int) + 1) = ((k + 1 : Nat) : Int) := wrap_succ (by omega)
      have hpo := l13PartOk_ok p t.mem (hf.p p (List.mem_of_getElem? hp))
      have h0 := l13Parts_0 b t k p hp (by omega)
      simp only [Tables.row, Tables.cells] at h0
      cases hb : partOk t.mem p with
      | false =>
        rw [hb] at hpo
        simp only [b85_1, ex0, ex1, ex2, ex3, ex4, ex5, ex6, ex7, ex8, Nat.reduceAdd, Nat.reduceMul, Nat.reduceSub, Nat.reduceDiv, Nat.reduceEqDiff, Nat.reduceLT, Nat.reduceGT, Nat.reduceLeDiff, reduceIte, reduceCtorEq, Tables.row, Tables.cells, List.length_map, List.getElem?_map, hp, Int.ofNat_lt, hk, hw, PartRow.row, ldi_cell, l130, hpo, Bool.false_and, if_false, Bool.false_eq_true]
      | true =>
        rw [hb] at hpo
        cases hn : nameNew t.parts k p with
        | true =>
          simp only [b85_1, ex0, ex1, ex2, ex3, ex4, ex5, ex6, ex7, ex8, Nat.reduceAdd, Nat.reduceMul, Nat.reduceSub, Nat.reduceDiv, Nat.reduceEqDiff, Nat.reduceLT, Nat.reduceGT, Nat.reduceLeDiff, reduceIte, reduceCtorEq, Tables.row, Tables.cells, List.length_map, List.getElem?_map, hp, Int.ofNat_lt, hk, hw, PartRow.row, ldi_cell, l130, hpo, h0.1 hn, Bool.and_self, if_true]
        | false =>
          simp only [b85_1, ex0, ex1, ex2, ex3, ex4, ex5, ex6, ex7, ex8, Nat.reduceAdd, Nat.reduceMul, Nat.reduceSub, Nat.reduceDiv, Nat.reduceEqDiff, Nat.reduceLT, Nat.reduceGT, Nat.reduceLeDiff, reduceIte, reduceCtorEq, Tables.row, Tables.cells, List.length_map, List.getElem?_map, hp, Int.ofNat_lt, hk, hw, PartRow.row, ldi_cell, l130, hpo, h0.2 hn, Bool.and_false, if_true, if_false, Bool.false_eq_true]) (by
      simp only [b85_1, ex0, ex1, ex2, ex3, ex4, ex5, ex6, ex7, ex8, Nat.reduceAdd, Nat.reduceMul, Nat.reduceSub, Nat.reduceDiv, Nat.reduceEqDiff, Nat.reduceLT, Nat.reduceGT, Nat.reduceLeDiff, reduceIte, reduceCtorEq, Tables.row, Tables.cells, List.length_map, Int.lt_irrefl])
  rw [show ((0 : Nat) : Int) = 0 from rfl] at hl
  exact hl
theorem l13Parts_2 (ws : List Window) (i : Nat) (w : Window) (hi : ws[i]? = some w) (hok : ∀ v ∈ ws, windowOk v = true) (hsz : ws.length < 1000000) :
    (apartNew ws i w = true → kLoop (LL 46) b85_2 ⟨[(5, .list 3 (ws.map Window.row)), (6, .int .i64 (i : Int)), (7, .int .i64 0)], []⟩ = some (.exit 6, ⟨[(58, .bool false), (57, .int .i64 (i : Int)), (56, .int .i64 (i : Int)), (5, .list 3 (ws.map Window.row)), (6, .int .i64 (i : Int)), (7, .int .i64 (i : Int))], []⟩)) ∧
    (apartNew ws i w = false → kLoop (LL 46) b85_2 ⟨[(5, .list 3 (ws.map Window.row)), (6, .int .i64 (i : Int)), (7, .int .i64 0)], []⟩ = some (.ret, ⟨[(2, .bool false)], []⟩)) := by
  have hil : i < ws.length := (List.getElem?_eq_some_iff.1 hi).1
  have hl := all_loop (S := LL 46) (b := b85_2) (ws.take i) (fun _ v => apart v w)
    (fun k => ⟨[(5, .list 3 (ws.map Window.row)), (6, .int .i64 (i : Int)), (7, .int .i64 (k : Int))], []⟩) (fun k q => ⟨[(2, .bool false)], []⟩) 6
    ⟨[(58, .bool false), (57, .int .i64 (i : Int)), (56, .int .i64 (i : Int)), (5, .list 3 (ws.map Window.row)), (6, .int .i64 (i : Int)), (7, .int .i64 (i : Int))], []⟩ (fun k v hv => by
      obtain ⟨hk, hv⟩ := take_get hv
      have hkl : k < ws.length := by omega
      have hw : IntKind.i64.wrap ((k : Int) + 1) = ((k + 1 : Nat) : Int) := wrap_succ (by omega)
      have h1 := windowOk_iff.1 (hok v (List.mem_of_getElem? hv))
      have h2 := windowOk_iff.1 (hok w (List.mem_of_getElem? hi))
      have w1 : IntKind.i64.wrap (v.base + v.size) = v.base + v.size := wrap_eq (by omega) (by omega)
      have w2 : IntKind.i64.wrap (w.base + w.size) = w.base + w.size := wrap_eq (by omega) (by omega)
      by_cases ha : v.base < w.base + w.size
      · by_cases hc : w.base < v.base + v.size
        · have he : apart v w = false := by simp [apart]; omega
          simp only [b85_2, ex0, ex1, ex2, ex3, ex4, ex5, ex6, ex7, ex8, Nat.reduceAdd, Nat.reduceMul, Nat.reduceSub, Nat.reduceDiv, Nat.reduceEqDiff, Nat.reduceLT, Nat.reduceGT, Nat.reduceLeDiff, reduceIte, reduceCtorEq, List.length_map, List.getElem?_map, hv, hi, Int.ofNat_lt, hk, hkl, hil, hw, Window.row, w1, w2, ha, hc, he, if_false, Bool.false_eq_true]
        · have he : apart v w = true := by simp [apart]; omega
          simp only [b85_2, ex0, ex1, ex2, ex3, ex4, ex5, ex6, ex7, ex8, Nat.reduceAdd, Nat.reduceMul, Nat.reduceSub, Nat.reduceDiv, Nat.reduceEqDiff, Nat.reduceLT, Nat.reduceGT, Nat.reduceLeDiff, reduceIte, reduceCtorEq, List.length_map, List.getElem?_map, hv, hi, Int.ofNat_lt, hk, hkl, hil, hw, Window.row, w1, w2, ha, hc, he, if_true]
      · have he : apart v w = true := by simp [apart]; omega
        simp only [b85_2, ex0, ex1, ex2, ex3, ex4, ex5, ex6, ex7, ex8, Nat.reduceAdd, Nat.reduceMul, Nat.reduceSub, Nat.reduceDiv, Nat.reduceEqDiff, Nat.reduceLT, Nat.reduceGT, Nat.reduceLeDiff, reduceIte, reduceCtorEq, List.length_map, List.getElem?_map, hv, hi, Int.ofNat_lt, hk, hkl, hil, hw, Window.row, w1, w2, ha, he, if_true]) (by
      rw [List.length_take, Nat.min_eq_left (by omega)]
      simp only [b85_2, ex0, ex1, ex2, ex3, ex4, ex5, ex6, ex7, ex8, Nat.reduceAdd, Nat.reduceMul, Nat.reduceSub, Nat.reduceDiv, Nat.reduceEqDiff, Nat.reduceLT, Nat.reduceGT, Nat.reduceLeDiff, reduceIte, reduceCtorEq, Int.lt_irrefl])
  rw [show ((0 : Nat) : Int) = 0 from rfl, allK_all] at hl
  refine ⟨hl.1, fun h => ?_⟩
  obtain ⟨_, _, _, h⟩ := hl.2 h
  exact h
theorem l13Parts_3 (ws : List Window) (hok : ∀ v ∈ ws, windowOk v = true) (hsz : ws.length < 1000000) :
    (allK (apartNew ws) 0 ws = true → kLoop (LL 46) b85_3 ⟨[(5, .list 3 (ws.map Window.row)), (6, .int .i64 0)], []⟩ = some (.exit 4, ⟨[(53, .bool false), (52, .int .i64 (ws.length : Int)), (51, .list 3 (ws.map Window.row)), (50, .int .i64 (ws.length : Int)), (5, .list 3 (ws.map Window.row)), (6, .int .i64 (ws.length : Int))], []⟩)) ∧
    (allK (apartNew ws) 0 ws = false → kLoop (LL 46) b85_3 ⟨[(5, .list 3 (ws.map Window.row)), (6, .int .i64 0)], []⟩ = some (.ret, ⟨[(2, .bool false)], []⟩)) := by
  have hl := all_loop (S := LL 46) (b := b85_3) ws (apartNew ws)
    (fun k => ⟨[(5, .list 3 (ws.map Window.row)), (6, .int .i64 (k : Int))], []⟩) (fun k q => ⟨[(2, .bool false)], []⟩) 4
    ⟨[(53, .bool false), (52, .int .i64 (ws.length : Int)), (51, .list 3 (ws.map Window.row)), (50, .int .i64 (ws.length : Int)), (5, .list 3 (ws.map Window.row)), (6, .int .i64 (ws.length : Int))], []⟩ (fun k v hv => by
      have hk : k < ws.length := (List.getElem?_eq_some_iff.1 hv).1
      have hw : IntKind.i64.wrap ((k : Int) + 1) = ((k + 1 : Nat) : Int) := wrap_succ (by omega)
      have h2 := l13Parts_2 ws k v hv hok hsz
      cases ha : apartNew ws k v with
      | true => simp only [b85_3, ex0, ex1, ex2, ex3, ex4, ex5, ex6, ex7, ex8, Nat.reduceAdd, Nat.reduceMul, Nat.reduceSub, Nat.reduceDiv, Nat.reduceEqDiff, Nat.reduceLT, Nat.reduceGT, Nat.reduceLeDiff, reduceIte, reduceCtorEq, List.length_map, Int.ofNat_lt, hk, hw, h2.1 ha, if_true]
      | false => simp only [b85_3, ex0, ex1, ex2, ex3, ex4, ex5, ex6, ex7, ex8, Nat.reduceAdd, Nat.reduceMul, Nat.reduceSub, Nat.reduceDiv, Nat.reduceEqDiff, Nat.reduceLT, Nat.reduceGT, Nat.reduceLeDiff, reduceIte, reduceCtorEq, List.length_map, Int.ofNat_lt, hk, hw, h2.2 ha, if_false, Bool.false_eq_true]) (by
      simp only [b85_3, ex0, ex1, ex2, ex3, ex4, ex5, ex6, ex7, ex8, Nat.reduceAdd, Nat.reduceMul, Nat.reduceSub, Nat.reduceDiv, Nat.reduceEqDiff, Nat.reduceLT, Nat.reduceGT, Nat.reduceLeDiff, reduceIte, reduceCtorEq, List.length_map, Int.lt_irrefl])
  rw [show ((0 : Nat) : Int) = 0 from rfl] at hl
  refine ⟨hl.1, fun h => ?_⟩
  obtain ⟨_, _, _, h⟩ := hl.2 h
  exact h
theorem parts_ok1 {t : Tables} (h : allK (fun k p => partOk t.mem p && nameNew t.parts k p) 0 t.parts = true) : ∀ p ∈ t.parts, partOk t.mem p = true := fun p hp => by
  obtain ⟨i, hi⟩ := List.getElem?_of_mem hp
  have := allK_iff.1 h i p hi
  rw [Nat.zero_add, Bool.and_eq_true] at this
  exact this.1
theorem partOk_iff {mem : Int} {p : PartRow} : partOk mem p = true ↔ nameOk p.name = true ∧ policyOk p.policy = true ∧ (1 ≤ (p.windows.length : Int) ∧ (p.windows.length : Int) ≤ 4) ∧ (∀ w ∈ p.windows, windowOk w = true ∧ w.base + w.size ≤ mem) ∧ (∃ w ∈ p.windows, has p.entry w = true ∧ w.perm.tdiv 4 = 1) ∧ p.entry.tmod 4 = 0 := by
  simp only [partOk, fitsB, runB, Bool.and_eq_true, inB_iff, List.all_eq_true, List.any_eq_true, decide_eq_true_eq, and_assoc]
theorem allW_len : ∀ (ps : List PartRow), (∀ p ∈ ps, p.windows.length ≤ 4) → (allW ps).length ≤ 4 * ps.length
  | [], _ => by simp [allW]
  | p :: r, h => by
    have h1 := h p (by simp)
    have h2 := allW_len r (fun q hq => h q (by simp [hq]))
    simp only [allW, List.flatMap_cons, List.length_append, List.length_cons] at *
    omega
theorem l13Parts_ok (b : Bool) (t : Tables) (hf : t.fit) : L 85 [.agg (t.row b)] [] = some ([.bool (partsOk t)], []) := by
  have hl1 := l13Parts_1 b t hf
  simp only [Tables.row, Tables.cells] at hl1
  rw [e85]
  cases h0 : inB t.parts.length 1 6 with
  | false => simp only [c85, runF_eq, ex0, ex1, ex2, ex3, ex4, ex5, ex6, ex7, ex8, Nat.reduceAdd, Nat.reduceMul, Nat.reduceSub, Nat.reduceDiv, Nat.reduceEqDiff, Nat.reduceLT, Nat.reduceGT, Nat.reduceLeDiff, reduceIte, reduceCtorEq, Tables.row, Tables.cells, List.length_map, l42, l01In_ok, h0, partsOk, Bool.false_and]
  | true =>
    cases h1 : allK (fun k p => partOk t.mem p && nameNew t.parts k p) 0 t.parts with
    | false =>
      obtain ⟨k, p, _, hl⟩ := hl1.2 h1
      cases hb : partOk t.mem p <;> rw [hb] at hl <;> simp only [if_true, if_false, Bool.false_eq_true] at hl <;>
        simp only [c85, runF_eq, ex0, ex1, ex2, ex3, ex4, ex5, ex6, ex7, ex8, Nat.reduceAdd, Nat.reduceMul, Nat.reduceSub, Nat.reduceDiv, Nat.reduceEqDiff, Nat.reduceLT, Nat.reduceGT, Nat.reduceLeDiff, reduceIte, reduceCtorEq, Tables.row, Tables.cells, List.length_map, l42, l01In_ok, h0, hl, partsOk, h1, Bool.false_and, Bool.and_false]
    | true =>
      have hps := parts_ok1 h1
      have hw4 : ∀ p ∈ t.parts, p.windows.length ≤ 4 := fun p hp => by
        have := (partOk_iff.1 (hps p hp)).2.2.1
        omega
      have hwin : ∀ v ∈ allW t.parts, windowOk v = true := fun v hv => by
        simp only [allW, List.mem_flatMap] at hv
        obtain ⟨p, hp, hv⟩ := hv
        exact ((partOk_iff.1 (hps p hp)).2.2.2.1 v hv).1
      rw [inB_iff] at h0
      have hln := allW_len t.parts hw4
      have hl3 := l13Parts_3 (allW t.parts) hwin (by omega)
      have hwi := l13Windows_ok b t.parts (by omega) hw4
      have h0' : inB t.parts.length 1 6 = true := inB_iff.2 h0
      cases h2 : allK (apartNew (allW t.parts)) 0 (allW t.parts) with
      | true => simp only [c85, runF_eq, ex0, ex1, ex2, ex3, ex4, ex5, ex6, ex7, ex8, Nat.reduceAdd, Nat.reduceMul, Nat.reduceSub, Nat.reduceDiv, Nat.reduceEqDiff, Nat.reduceLT, Nat.reduceGT, Nat.reduceLeDiff, reduceIte, reduceCtorEq, Tables.row, Tables.cells, List.length_map, l42, l01In_ok, h0', hl1.1 h1, l131, hwi, hl3.1 h2, partsOk, h1, h2, Bool.and_self]
      | false => simp only [c85, runF_eq, ex0, ex1, ex2, ex3, ex4, ex5, ex6, ex7, ex8, Nat.reduceAdd, Nat.reduceMul, Nat.reduceSub, Nat.reduceDiv, Nat.reduceEqDiff, Nat.reduceLT, Nat.reduceGT, Nat.reduceLeDiff, reduceIte, reduceCtorEq, Tables.row, Tables.cells, List.length_map, l42, l01In_ok, h0', hl1.1 h1, l131, hwi, hl3.2 h2, partsOk, h1, h2, Bool.and_false]
end Go.Proofs.YtahjhlnhkoifhaaGreat.Plan
