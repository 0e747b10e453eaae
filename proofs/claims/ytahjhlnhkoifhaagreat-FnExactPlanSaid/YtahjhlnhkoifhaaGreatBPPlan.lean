/- FnExactPlan: for all arguments the law answers true. A text of its proof: what functions of the program and of the reference answer; no conditions but those that each theorem names. -/
import Derived.Test.YtahjhlnhkoifhaaGreatTBPlan
import Derived.Test.YtahjhlnhkoifhaaGreatZG1
set_option linter.unusedSimpArgs false
set_option linter.unusedVariables false
set_option maxRecDepth 100000
namespace Go.Proofs.YtahjhlnhkoifhaaGreat.Plan
open Go Go.Lev
structure Window where
  base : Int
  size : Int
  perm : Int
  deriving DecidableEq
def Window.row (w : Window) : Row := [.int .i64 w.base, .int .i64 w.size, .int .i64 w.perm]
theorem toWindow_ok (x0 x1 x2 : Int) : L 159 [.agg [.int .i64 x0, .int .i64 x1, .int .i64 x2]] [] = some ([.agg [.int .i64 x0, .int .i64 x1, .int .i64 x2]], []) := by
  rw [e159]
  simp only [c159, runF_eq, ex0, ex1, ex2, ex3, ex4, ex5, ex6, ex7, ex8, Nat.reduceAdd, Nat.reduceMul, Nat.reduceSub, Nat.reduceDiv, Nat.reduceEqDiff, Nat.reduceLT, Nat.reduceGT, Nat.reduceLeDiff, reduceIte, reduceCtorEq]
theorem eqWindow_ok (x0 x1 x2 x0' x1' x2' : Int) : L 167 [.agg [.int .i64 x0, .int .i64 x1, .int .i64 x2], .agg [.int .i64 x0', .int .i64 x1', .int .i64 x2']] [] = some ([.bool (decide (Window.mk x0 x1 x2 = Window.mk x0' x1' x2'))], []) := by
  rw [e167]
  simp only [c167, runF_eq, ex0, ex1, ex2, ex3, ex4, ex5, ex6, ex7, ex8, Nat.reduceAdd, Nat.reduceMul, Nat.reduceSub, Nat.reduceDiv, Nat.reduceEqDiff, Nat.reduceLT, Nat.reduceGT, Nat.reduceLeDiff, reduceIte, reduceCtorEq]
  simp only [Window.mk.injEq]
  repeat' split
  all_goals simp_all
theorem szWindowS_ok (xs : Lev.Rows) (left : Int) (h : xs.length < 4000000000000000000) (h0 : 0 ≤ left) (h1 : left ≤ 2000000000000000000) : L 126 [.list 3 xs, .int .i64 left] [] = some ([.int .i64 (if left - xs.length < 0 then -1 else left - xs.length)], []) := by
  rw [e126]
  simp only [c126, runF_eq, ex0, ex1, ex2, ex3, ex4, ex5, ex6, ex7, ex8, Nat.reduceAdd, Nat.reduceMul, Nat.reduceSub, Nat.reduceDiv, Nat.reduceEqDiff, Nat.reduceLT, Nat.reduceGT, Nat.reduceLeDiff, reduceIte, reduceCtorEq]
  rw [wrap_eq (by omega) (by omega)]
  split <;> simp_all
theorem toWindowS_ok (ws : List Window) (h : ws.length * 24 ≤ 140737488355328) : L 135 [.list 3 (ws.map Window.row)] [] = some ([.arr 3 (ws.map Window.row)], []) := by
  have hloop := fill_loop (S := LL 20) (b := b135_0) (n := ws.length) (fun k X => ⟨[(0, .list 3 (ws.map Window.row)), (3, .sl 3 500030 0 ws.length), (4, .int .i64 (k : Int))], [(500030, some X)]⟩) (List.replicate ws.length [.int .i64 0, .int .i64 0, .int .i64 0]) (ws.map Window.row) (by simp) (by simp) (by simp [rowsPlain, LV.plain]) (rowsPlain_map (fun _ => rfl) ws) (fun k hk X r hX hg hr hp hp' => by
    have hx : ws[k]? = some ws[k] := by simp [hk]
    rw [List.getElem?_replicate, if_pos hk] at hg
    rw [List.getElem?_map, hx] at hr
    obtain rfl := Option.some.inj hr
    have hw : IntKind.i64.wrap ((k : Int) + 1) = ((k + 1 : Nat) : Int) := wrap_succ (by omega)
    simp only [Option.map_some, Window.row] at hp'
    simp only [b135_0, ex0, ex1, ex2, ex3, ex4, ex5, ex6, ex7, ex8, Nat.reduceAdd, Nat.reduceMul, Nat.reduceSub, Nat.reduceDiv, Nat.reduceEqDiff, Nat.reduceLT, Nat.reduceGT, Nat.reduceLeDiff, reduceIte, reduceCtorEq, List.length_map, List.getElem?_map, hx, Int.ofNat_lt, hk, hw, l159, toWindow_ok, Window.row, hg, hp'])
  have hfin := hloop.trans (kLoop_exit (i := 0) (s' := ⟨[(11, .bool false), (10, .int .i64 (ws.length : Int)), (9, .list 3 (ws.map Window.row)), (8, .int .i64 (ws.length : Int)), (0, .list 3 (ws.map Window.row)), (3, .sl 3 500030 0 ws.length), (4, .int .i64 (ws.length : Int))], [(500030, some (ws.map Window.row))]⟩) (by
    simp only [b135_0, ex0, ex1, ex2, ex3, ex4, ex5, ex6, ex7, ex8, Nat.reduceAdd, Nat.reduceMul, Nat.reduceSub, Nat.reduceDiv, Nat.reduceEqDiff, Nat.reduceLT, Nat.reduceGT, Nat.reduceLeDiff, reduceIte, reduceCtorEq, List.length_map, Int.lt_irrefl]))
  rw [show ((0 : Nat) : Int) = 0 from rfl] at hfin
  have hp : rowsPlain (List.replicate ws.length [.int .i64 0, .int .i64 0, .int .i64 0]) = true := by simp [rowsPlain, LV.plain]
  have hp2 : rowsPlain (ws.map Window.row) = true := rowsPlain_map (fun _ => rfl) ws
  have hv : vw (ws.map Window.row) 0 ws.length = ws.map Window.row := vw_full (by simp)
  have h' : (ws.length : Int) * ((24 : Nat) : Int) ≤ 140737488355328 := by omega
  rw [e135]
  simp only [c135, runF_eq, ex0, ex1, ex2, ex3, ex4, ex5, ex6, ex7, ex8, Nat.reduceAdd, Nat.reduceMul, Nat.reduceSub, Nat.reduceDiv, Nat.reduceEqDiff, Nat.reduceLT, Nat.reduceGT, Nat.reduceLeDiff, reduceIte, reduceCtorEq, List.length_map, hp, hp2, hv, h', hfin]
theorem eqWindowS_ok (ws vs : List Window) (h : ws.length < 4000000000000000000) : L 150 [.list 3 (ws.map Window.row), .list 3 (vs.map Window.row)] [] = some ([.bool (decide (ws = vs))], []) := by
  rw [e150]
  by_cases hl : ws.length = vs.length
  · have hloop := eq_loop (S := LL 89) (b := b150_0) ws vs hl (fun k => ⟨[(0, .list 3 (ws.map Window.row)), (1, .list 3 (vs.map Window.row)), (5, .int .i64 (k : Int))], []⟩) ⟨[(4, .bool false)], []⟩ ⟨[(14, .bool false), (13, .int .i64 (ws.length : Int)), (12, .list 3 (ws.map Window.row)), (11, .int .i64 (ws.length : Int)), (0, .list 3 (ws.map Window.row)), (1, .list 3 (vs.map Window.row)), (5, .int .i64 (ws.length : Int))], []⟩ (fun k x y hx hy => by
      have hk : k < ws.length := (List.getElem?_eq_some_iff.1 hx).1
      have hw : IntKind.i64.wrap ((k : Int) + 1) = ((k + 1 : Nat) : Int) := wrap_succ (by omega)
      simp only [b150_0, ex0, ex1, ex2, ex3, ex4, ex5, ex6, ex7, ex8, Nat.reduceAdd, Nat.reduceMul, Nat.reduceSub, Nat.reduceDiv, Nat.reduceEqDiff, Nat.reduceLT, Nat.reduceGT, Nat.reduceLeDiff, reduceIte, reduceCtorEq, List.length_map, List.getElem?_map, hx, hy, Int.ofNat_lt, hk, hw, l167, eqWindow_ok, Window.row]
      by_cases e : x = y <;> simp [e]) (by
      simp only [b150_0, ex0, ex1, ex2, ex3, ex4, ex5, ex6, ex7, ex8, Nat.reduceAdd, Nat.reduceMul, Nat.reduceSub, Nat.reduceDiv, Nat.reduceEqDiff, Nat.reduceLT, Nat.reduceGT, Nat.reduceLeDiff, reduceIte, reduceCtorEq, List.length_map, Int.lt_irrefl])
    rw [show ((0 : Nat) : Int) = 0 from rfl] at hloop
    simp only [c150, runF_eq, ex0, ex1, ex2, ex3, ex4, ex5, ex6, ex7, ex8, Nat.reduceAdd, Nat.reduceMul, Nat.reduceSub, Nat.reduceDiv, Nat.reduceEqDiff, Nat.reduceLT, Nat.reduceGT, Nat.reduceLeDiff, reduceIte, reduceCtorEq, List.length_map, hl, hloop]
    by_cases e : ws = vs
    · subst e; simp
    · simp [e]
  · have hl' : ¬ ((ws.length : Int) = (vs.length : Int)) := by omega
    have e : ws ≠ vs := fun e => hl (by rw [e])
    simp only [c150, runF_eq, ex0, ex1, ex2, ex3, ex4, ex5, ex6, ex7, ex8, Nat.reduceAdd, Nat.reduceMul, Nat.reduceSub, Nat.reduceDiv, Nat.reduceEqDiff, Nat.reduceLT, Nat.reduceGT, Nat.reduceLeDiff, reduceIte, reduceCtorEq, List.length_map, hl', e]
def Window.mk' (_ : Window) (k : Int) : Window := ⟨k, k + 1, k + 2⟩
def Window.cost (_ : Window) : Int := 3
theorem markWindowS_ok (ws : List Window) (k0 : Int) (h : ws.length < 1000000000000000) (h0 : 0 ≤ k0) (h1 : k0 + total Window.cost ws ≤ 1000000000000000000) : L 112 [.sl 3 900000 0 ws.length, .int .i64 k0] [(900000, some (ws.map Window.row))] = some ([.int .i64 (k0 + total Window.cost ws)], [(900000, some ((marks Window.cost Window.mk' ws k0).map Window.row))]) := by
  have hloop := fill_loop (S := LL 99) (b := b112_0) (n := ws.length) (fun k X => ⟨[(0, .sl 3 900000 0 ws.length), (1, .int .i64 (offs Window.cost ws k0 k)), (5, .int .i64 (k : Int))], [(900000, some X)]⟩) (ws.map Window.row) ((marks Window.cost Window.mk' ws k0).map Window.row) (by simp) (by simp [marks_length]) (rowsPlain_map (fun _ => rfl) _) (rowsPlain_map (fun _ => rfl) _) (fun k hk X r hX hg hr hp hp' => by
    have hx : ws[k]? = some ws[k] := by simp [hk]
    have ho := offs_le (c := Window.cost) (fun _ => by simp [Window.cost]) ws k0 k _ hx
    have hn := offs_succ Window.cost ws k0 k _ hx
    rw [List.getElem?_map, marks_get, hx] at hr
    obtain rfl := Option.some.inj hr
    rw [List.getElem?_map, hx] at hg
    have hkX : k < X.length := by omega
    have hw : IntKind.i64.wrap ((k : Int) + 1) = ((k + 1 : Nat) : Int) := wrap_succ (by omega)
    simp only [Window.cost] at ho hn
    have w1 : IntKind.i64.wrap (offs Window.cost ws k0 k + 1) = offs Window.cost ws k0 k + 1 := wrap_eq (by omega) (by omega)
    have w2 : IntKind.i64.wrap (offs Window.cost ws k0 k + 2) = offs Window.cost ws k0 k + 2 := wrap_eq (by omega) (by omega)
    have w3 : IntKind.i64.wrap (offs Window.cost ws k0 k + 3) = offs Window.cost ws k0 k + 3 := wrap_eq (by omega) (by omega)
    simp only [Option.map_some, Window.row, Window.mk'] at hp' hg
    simp only [b112_0, ex0, ex1, ex2, ex3, ex4, ex5, ex6, ex7, ex8, Nat.reduceAdd, Nat.reduceMul, Nat.reduceSub, Nat.reduceDiv, Nat.reduceEqDiff, Nat.reduceLT, Nat.reduceGT, Nat.reduceLeDiff, reduceIte, reduceCtorEq, hX, Int.ofNat_lt, hk, hw, hg, Window.row, Window.mk', List.getElem?_set_self hkX, List.length_set, List.set_set, hp', Int.add_assoc, hn, w1, w2, w3, Int.reduceAdd])
  have hfin := hloop.trans (kLoop_exit (i := 0) (s' := ⟨[(9, .bool false), (8, .int .i64 (ws.length : Int)), (7, .sl 3 900000 0 ws.length), (6, .int .i64 (ws.length : Int)), (0, .sl 3 900000 0 ws.length), (1, .int .i64 (offs Window.cost ws k0 ws.length)), (5, .int .i64 (ws.length : Int))], [(900000, some ((marks Window.cost Window.mk' ws k0).map Window.row))]⟩) (by
    simp only [b112_0, ex0, ex1, ex2, ex3, ex4, ex5, ex6, ex7, ex8, Nat.reduceAdd, Nat.reduceMul, Nat.reduceSub, Nat.reduceDiv, Nat.reduceEqDiff, Nat.reduceLT, Nat.reduceGT, Nat.reduceLeDiff, reduceIte, reduceCtorEq, Int.lt_irrefl]))
  rw [show ((0 : Nat) : Int) = 0 from rfl, show offs Window.cost ws k0 0 = k0 by cases ws <;> rfl, offs_end] at hfin
  have hp : rowsPlain (ws.map Window.row) = true := rowsPlain_map (fun _ => rfl) _
  have hp2 : rowsPlain ((marks Window.cost Window.mk' ws k0).map Window.row) = true := rowsPlain_map (fun _ => rfl) _
  rw [e112]
  simp only [c112, runF_eq, ex0, ex1, ex2, ex3, ex4, ex5, ex6, ex7, ex8, Nat.reduceAdd, Nat.reduceMul, Nat.reduceSub, Nat.reduceDiv, Nat.reduceEqDiff, Nat.reduceLT, Nat.reduceGT, Nat.reduceLeDiff, reduceIte, reduceCtorEq, hp, hp2, hfin]
theorem heldWindowS_ok (ws : List Window) (k0 : Int) (h : ws.length < 1000000000000000) (h0 : 0 ≤ k0) (h1 : k0 + total Window.cost ws ≤ 1000000000000000000) : L 113 [.list 3 ((marks Window.cost Window.mk' ws k0).map Window.row), .int .i64 k0] [] = some ([.int .i64 (k0 + total Window.cost ws)], []) := by
  have hloop := loop_to (S := LL 105) (b := b113_0) (n := ws.length) (st := fun k => ⟨[(0, .list 3 ((marks Window.cost Window.mk' ws k0).map Window.row)), (1, .int .i64 (offs Window.cost ws k0 k)), (5, .int .i64 (k : Int))], []⟩) (fun k hk => by
    have hx : ws[k]? = some ws[k] := by simp [hk]
    have ho := offs_le (c := Window.cost) (fun _ => by simp [Window.cost]) ws k0 k _ hx
    have hn := offs_succ Window.cost ws k0 k _ hx
    have hw : IntKind.i64.wrap ((k : Int) + 1) = ((k + 1 : Nat) : Int) := wrap_succ (by omega)
    simp only [Window.cost] at ho hn
    have w1 : IntKind.i64.wrap (offs Window.cost ws k0 k + 1) = offs Window.cost ws k0 k + 1 := wrap_eq (by omega) (by omega)
    have w2 : IntKind.i64.wrap (offs Window.cost ws k0 k + 2) = offs Window.cost ws k0 k + 2 := wrap_eq (by omega) (by omega)
    have w3 : IntKind.i64.wrap (offs Window.cost ws k0 k + 3) = offs Window.cost ws k0 k + 3 := wrap_eq (by omega) (by omega)
    simp only [b113_0, ex0, ex1, ex2, ex3, ex4, ex5, ex6, ex7, ex8, Nat.reduceAdd, Nat.reduceMul, Nat.reduceSub, Nat.reduceDiv, Nat.reduceEqDiff, Nat.reduceLT, Nat.reduceGT, Nat.reduceLeDiff, reduceIte, reduceCtorEq, List.length_map, marks_length, List.getElem?_map, marks_get, hx, Int.ofNat_lt, hk, hw, Window.row, Window.mk', Int.add_assoc, hn, w1, w2, w3, Int.reduceAdd])
  have hfin := hloop.trans (kLoop_exit (i := 0) (s' := ⟨[(9, .bool false), (8, .int .i64 (ws.length : Int)), (7, .list 3 ((marks Window.cost Window.mk' ws k0).map Window.row)), (6, .int .i64 (ws.length : Int)), (0, .list 3 ((marks Window.cost Window.mk' ws k0).map Window.row)), (1, .int .i64 (offs Window.cost ws k0 ws.length)), (5, .int .i64 (ws.length : Int))], []⟩) (by
    simp only [b113_0, ex0, ex1, ex2, ex3, ex4, ex5, ex6, ex7, ex8, Nat.reduceAdd, Nat.reduceMul, Nat.reduceSub, Nat.reduceDiv, Nat.reduceEqDiff, Nat.reduceLT, Nat.reduceGT, Nat.reduceLeDiff, reduceIte, reduceCtorEq, List.length_map, marks_length, Int.lt_irrefl]))
  rw [show ((0 : Nat) : Int) = 0 from rfl, show offs Window.cost ws k0 0 = k0 by cases ws <;> rfl, offs_end] at hfin
  rw [e113]
  simp only [c113, runF_eq, ex0, ex1, ex2, ex3, ex4, ex5, ex6, ex7, ex8, Nat.reduceAdd, Nat.reduceMul, Nat.reduceSub, Nat.reduceDiv, Nat.reduceEqDiff, Nat.reduceLT, Nat.reduceGT, Nat.reduceLeDiff, reduceIte, reduceCtorEq, hfin]
structure Slot where
  part : Int
  start : Int
  len : Int
  deriving DecidableEq
def Slot.row (w : Slot) : Row := [.int .i64 w.part, .int .i64 w.start, .int .i64 w.len]
theorem toSlot_ok (x0 x1 x2 : Int) : L 90 [.agg [.int .i64 x0, .int .i64 x1, .int .i64 x2]] [] = some ([.agg [.int .i64 x0, .int .i64 x1, .int .i64 x2]], []) := by
  rw [e90]
  simp only [c90, runF_eq, ex0, ex1, ex2, ex3, ex4, ex5, ex6, ex7, ex8, Nat.reduceAdd, Nat.reduceMul, Nat.reduceSub, Nat.reduceDiv, Nat.reduceEqDiff, Nat.reduceLT, Nat.reduceGT, Nat.reduceLeDiff, reduceIte, reduceCtorEq]
theorem eqSlot_ok (x0 x1 x2 x0' x1' x2' : Int) : L 110 [.agg [.int .i64 x0, .int .i64 x1, .int .i64 x2], .agg [.int .i64 x0', .int .i64 x1', .int .i64 x2']] [] = some ([.bool (decide (Slot.mk x0 x1 x2 = Slot.mk x0' x1' x2'))], []) := by
  rw [e110]
  simp only [c110, runF_eq, ex0, ex1, ex2, ex3, ex4, ex5, ex6, ex7, ex8, Nat.reduceAdd, Nat.reduceMul, Nat.reduceSub, Nat.reduceDiv, Nat.reduceEqDiff, Nat.reduceLT, Nat.reduceGT, Nat.reduceLeDiff, reduceIte, reduceCtorEq]
  simp only [Slot.mk.injEq]
  repeat' split
  all_goals simp_all
theorem szSlotS_ok (xs : Lev.Rows) (left : Int) (h : xs.length < 4000000000000000000) (h0 : 0 ≤ left) (h1 : left ≤ 2000000000000000000) : L 40 [.list 3 xs, .int .i64 left] [] = some ([.int .i64 (if left - xs.length < 0 then -1 else left - xs.length)], []) := by
  rw [e40]
  simp only [c40, runF_eq, ex0, ex1, ex2, ex3, ex4, ex5, ex6, ex7, ex8, Nat.reduceAdd, Nat.reduceMul, Nat.reduceSub, Nat.reduceDiv, Nat.reduceEqDiff, Nat.reduceLT, Nat.reduceGT, Nat.reduceLeDiff, reduceIte, reduceCtorEq]
  rw [wrap_eq (by omega) (by omega)]
  split <;> simp_all
theorem toSlotS_ok (ws : List Slot) (h : ws.length * 24 ≤ 140737488355328) : L 48 [.list 3 (ws.map Slot.row)] [] = some ([.arr 3 (ws.map Slot.row)], []) := by
  have hloop := fill_loop (S := LL 27) (b := b48_0) (n := ws.length) (fun k X => ⟨[(0, .list 3 (ws.map Slot.row)), (3, .sl 3 500030 0 ws.length), (4, .int .i64 (k : Int))], [(500030, some X)]⟩) (List.replicate ws.length [.int .i64 0, .int .i64 0, .int .i64 0]) (ws.map Slot.row) (by simp) (by simp) (by simp [rowsPlain, LV.plain]) (rowsPlain_map (fun _ => rfl) ws) (fun k hk X r hX hg hr hp hp' => by
    have hx : ws[k]? = some ws[k] := by simp [hk]
    rw [List.getElem?_replicate, if_pos hk] at hg
    rw [List.getElem?_map, hx] at hr
    obtain rfl := Option.some.inj hr
    have hw : IntKind.i64.wrap ((k : Int) + 1) = ((k + 1 : Nat) : Int) := wrap_succ (by omega)
    simp only [Option.map_some, Slot.row] at hp'
    simp only [b48_0, ex0, ex1, ex2, ex3, ex4, ex5, ex6, ex7, ex8, Nat.reduceAdd, Nat.reduceMul, Nat.reduceSub, Nat.reduceDiv, Nat.reduceEqDiff, Nat.reduceLT, Nat.reduceGT, Nat.reduceLeDiff, reduceIte, reduceCtorEq, List.length_map, List.getElem?_map, hx, Int.ofNat_lt, hk, hw, l90, toSlot_ok, Slot.row, hg, hp'])
  have hfin := hloop.trans (kLoop_exit (i := 0) (s' := ⟨[(11, .bool false), (10, .int .i64 (ws.length : Int)), (9, .list 3 (ws.map Slot.row)), (8, .int .i64 (ws.length : Int)), (0, .list 3 (ws.map Slot.row)), (3, .sl 3 500030 0 ws.length), (4, .int .i64 (ws.length : Int))], [(500030, some (ws.map Slot.row))]⟩) (by
    simp only [b48_0, ex0, ex1, ex2, ex3, ex4, ex5, ex6, ex7, ex8, Nat.reduceAdd, Nat.reduceMul, Nat.reduceSub, Nat.reduceDiv, Nat.reduceEqDiff, Nat.reduceLT, Nat.reduceGT, Nat.reduceLeDiff, reduceIte, reduceCtorEq, List.length_map, Int.lt_irrefl]))
  rw [show ((0 : Nat) : Int) = 0 from rfl] at hfin
  have hp : rowsPlain (List.replicate ws.length [.int .i64 0, .int .i64 0, .int .i64 0]) = true := by simp [rowsPlain, LV.plain]
  have hp2 : rowsPlain (ws.map Slot.row) = true := rowsPlain_map (fun _ => rfl) ws
  have hv : vw (ws.map Slot.row) 0 ws.length = ws.map Slot.row := vw_full (by simp)
  have h' : (ws.length : Int) * ((24 : Nat) : Int) ≤ 140737488355328 := by omega
  rw [e48]
  simp only [c48, runF_eq, ex0, ex1, ex2, ex3, ex4, ex5, ex6, ex7, ex8, Nat.reduceAdd, Nat.reduceMul, Nat.reduceSub, Nat.reduceDiv, Nat.reduceEqDiff, Nat.reduceLT, Nat.reduceGT, Nat.reduceLeDiff, reduceIte, reduceCtorEq, List.length_map, hp, hp2, hv, h', hfin]
theorem eqSlotS_ok (ws vs : List Slot) (h : ws.length < 4000000000000000000) : L 58 [.list 3 (ws.map Slot.row), .list 3 (vs.map Slot.row)] [] = some ([.bool (decide (ws = vs))], []) := by
  rw [e58]
  by_cases hl : ws.length = vs.length
  · have hloop := eq_loop (S := LL 96) (b := b58_0) ws vs hl (fun k => ⟨[(0, .list 3 (ws.map Slot.row)), (1, .list 3 (vs.map Slot.row)), (5, .int .i64 (k : Int))], []⟩) ⟨[(4, .bool false)], []⟩ ⟨[(14, .bool false), (13, .int .i64 (ws.length : Int)), (12, .list 3 (ws.map Slot.row)), (11, .int .i64 (ws.length : Int)), (0, .list 3 (ws.map Slot.row)), (1, .list 3 (vs.map Slot.row)), (5, .int .i64 (ws.length : Int))], []⟩ (fun k x y hx hy => by
      have hk : k < ws.length := (List.getElem?_eq_some_iff.1 hx).1
      have hw : IntKind.i64.wrap ((k : Int) + 1) = ((k + 1 : Nat) : Int) := wrap_succ (by omega)
      simp only [b58_0, ex0, ex1, ex2, ex3, ex4, ex5, ex6, ex7, ex8, Nat.reduceAdd, Nat.reduceMul, Nat.reduceSub, Nat.reduceDiv, Nat.reduceEqDiff, Nat.reduceLT, Nat.reduceGT, Nat.reduceLeDiff, reduceIte, reduceCtorEq, List.length_map, List.getElem?_map, hx, hy, Int.ofNat_lt, hk, hw, l110, eqSlot_ok, Slot.row]
      by_cases e : x = y <;> simp [e]) (by
      simp only [b58_0, ex0, ex1, ex2, ex3, ex4, ex5, ex6, ex7, ex8, Nat.reduceAdd, Nat.reduceMul, Nat.reduceSub, Nat.reduceDiv, Nat.reduceEqDiff, Nat.reduceLT, Nat.reduceGT, Nat.reduceLeDiff, reduceIte, reduceCtorEq, List.length_map, Int.lt_irrefl])
    rw [show ((0 : Nat) : Int) = 0 from rfl] at hloop
    simp only [c58, runF_eq, ex0, ex1, ex2, ex3, ex4, ex5, ex6, ex7, ex8, Nat.reduceAdd, Nat.reduceMul, Nat.reduceSub, Nat.reduceDiv, Nat.reduceEqDiff, Nat.reduceLT, Nat.reduceGT, Nat.reduceLeDiff, reduceIte, reduceCtorEq, List.length_map, hl, hloop]
    by_cases e : ws = vs
    · subst e; simp
    · simp [e]
  · have hl' : ¬ ((ws.length : Int) = (vs.length : Int)) := by omega
    have e : ws ≠ vs := fun e => hl (by rw [e])
    simp only [c58, runF_eq, ex0, ex1, ex2, ex3, ex4, ex5, ex6, ex7, ex8, Nat.reduceAdd, Nat.reduceMul, Nat.reduceSub, Nat.reduceDiv, Nat.reduceEqDiff, Nat.reduceLT, Nat.reduceGT, Nat.reduceLeDiff, reduceIte, reduceCtorEq, List.length_map, hl', e]
def Slot.mk' (_ : Slot) (k : Int) : Slot := ⟨k, k + 1, k + 2⟩
def Slot.cost (_ : Slot) : Int := 3
theorem markSlotS_ok (ws : List Slot) (k0 : Int) (h : ws.length < 1000000000000000) (h0 : 0 ≤ k0) (h1 : k0 + total Slot.cost ws ≤ 1000000000000000000) : L 61 [.sl 3 900000 0 ws.length, .int .i64 k0] [(900000, some (ws.map Slot.row))] = some ([.int .i64 (k0 + total Slot.cost ws)], [(900000, some ((marks Slot.cost Slot.mk' ws k0).map Slot.row))]) := by
  have hloop := fill_loop (S := LL 103) (b := b61_0) (n := ws.length) (fun k X => ⟨[(0, .sl 3 900000 0 ws.length), (1, .int .i64 (offs Slot.cost ws k0 k)), (5, .int .i64 (k : Int))], [(900000, some X)]⟩) (ws.map Slot.row) ((marks Slot.cost Slot.mk' ws k0).map Slot.row) (by simp) (by simp [marks_length]) (rowsPlain_map (fun _ => rfl) _) (rowsPlain_map (fun _ => rfl) _) (fun k hk X r hX hg hr hp hp' => by
    have hx : ws[k]? = some ws[k] := by simp [hk]
    have ho := offs_le (c := Slot.cost) (fun _ => by simp [Slot.cost]) ws k0 k _ hx
    have hn := offs_succ Slot.cost ws k0 k _ hx
    rw [List.getElem?_map, marks_get, hx] at hr
    obtain rfl := Option.some.inj hr
    rw [List.getElem?_map, hx] at hg
    have hkX : k < X.length := by omega
    have hw : IntKind.i64.wrap ((k : Int) + 1) = ((k + 1 : Nat) : Int) := wrap_succ (by omega)
    simp only [Slot.cost] at ho hn
    have w1 : IntKind.i64.wrap (offs Slot.cost ws k0 k + 1) = offs Slot.cost ws k0 k + 1 := wrap_eq (by omega) (by omega)
    have w2 : IntKind.i64.wrap (offs Slot.cost ws k0 k + 2) = offs Slot.cost ws k0 k + 2 := wrap_eq (by omega) (by omega)
    have w3 : IntKind.i64.wrap (offs Slot.cost ws k0 k + 3) = offs Slot.cost ws k0 k + 3 := wrap_eq (by omega) (by omega)
    simp only [Option.map_some, Slot.row, Slot.mk'] at hp' hg
    simp only [b61_0, ex0, ex1, ex2, ex3, ex4, ex5, ex6, ex7, ex8, Nat.reduceAdd, Nat.reduceMul, Nat.reduceSub, Nat.reduceDiv, Nat.reduceEqDiff, Nat.reduceLT, Nat.reduceGT, Nat.reduceLeDiff, reduceIte, reduceCtorEq, hX, Int.ofNat_lt, hk, hw, hg, Slot.row, Slot.mk', List.getElem?_set_self hkX, List.length_set, List.set_set, hp', Int.add_assoc, hn, w1, w2, w3, Int.reduceAdd])
  have hfin := hloop.trans (kLoop_exit (i := 0) (s' := ⟨[(9, .bool false), (8, .int .i64 (ws.length : Int)), (7, .sl 3 900000 0 ws.length), (6, .int .i64 (ws.length : Int)), (0, .sl 3 900000 0 ws.length), (1, .int .i64 (offs Slot.cost ws k0 ws.length)), (5, .int .i64 (ws.length : Int))], [(900000, some ((marks Slot.cost Slot.mk' ws k0).map Slot.row))]⟩) (by
    simp only [b61_0, ex0, ex1, ex2, ex3, ex4, ex5, ex6, ex7, ex8, Nat.reduceAdd, Nat.reduceMul, Nat.reduceSub, Nat.reduceDiv, Nat.reduceEqDiff, Nat.reduceLT, Nat.reduceGT, Nat.reduceLeDiff, reduceIte, reduceCtorEq, Int.lt_irrefl]))
  rw [show ((0 : Nat) : Int) = 0 from rfl, show offs Slot.cost ws k0 0 = k0 by cases ws <;> rfl, offs_end] at hfin
  have hp : rowsPlain (ws.map Slot.row) = true := rowsPlain_map (fun _ => rfl) _
  have hp2 : rowsPlain ((marks Slot.cost Slot.mk' ws k0).map Slot.row) = true := rowsPlain_map (fun _ => rfl) _
  rw [e61]
  simp only [c61, runF_eq, ex0, ex1, ex2, ex3, ex4, ex5, ex6, ex7, ex8, Nat.reduceAdd, Nat.reduceMul, Nat.reduceSub, Nat.reduceDiv, Nat.reduceEqDiff, Nat.reduceLT, Nat.reduceGT, Nat.reduceLeDiff, reduceIte, reduceCtorEq, hp, hp2, hfin]
theorem heldSlotS_ok (ws : List Slot) (k0 : Int) (h : ws.length < 1000000000000000) (h0 : 0 ≤ k0) (h1 : k0 + total Slot.cost ws ≤ 1000000000000000000) : L 65 [.list 3 ((marks Slot.cost Slot.mk' ws k0).map Slot.row), .int .i64 k0] [] = some ([.int .i64 (k0 + total Slot.cost ws)], []) := by
  have hloop := loop_to (S := LL 109) (b := b65_0) (n := ws.length) (st := fun k => ⟨[(0, .list 3 ((marks Slot.cost Slot.mk' ws k0).map Slot.row)), (1, .int .i64 (offs Slot.cost ws k0 k)), (5, .int .i64 (k : Int))], []⟩) (fun k hk => by
    have hx : ws[k]? = some ws[k] := by simp [hk]
    have ho := offs_le (c := Slot.cost) (fun _ => by simp [Slot.cost]) ws k0 k _ hx
    have hn := offs_succ Slot.cost ws k0 k _ hx
    have hw : IntKind.i64.wrap ((k : Int) + 1) = ((k + 1 : Nat) : Int) := wrap_succ (by omega)
    simp only [Slot.cost] at ho hn
    have w1 : IntKind.i64.wrap (offs Slot.cost ws k0 k + 1) = offs Slot.cost ws k0 k + 1 := wrap_eq (by omega) (by omega)
    have w2 : IntKind.i64.wrap (offs Slot.cost ws k0 k + 2) = offs Slot.cost ws k0 k + 2 := wrap_eq (by omega) (by omega)
    have w3 : IntKind.i64.wrap (offs Slot.cost ws k0 k + 3) = offs Slot.cost ws k0 k + 3 := wrap_eq (by omega) (by omega)
    simp only [b65_0, ex0, ex1, ex2, ex3, ex4, ex5, ex6, ex7, ex8, Nat.reduceAdd, Nat.reduceMul, Nat.reduceSub, Nat.reduceDiv, Nat.reduceEqDiff, Nat.reduceLT, Nat.reduceGT, Nat.reduceLeDiff, reduceIte, reduceCtorEq, List.length_map, marks_length, List.getElem?_map, marks_get, hx, Int.ofNat_lt, hk, hw, Slot.row, Slot.mk', Int.add_assoc, hn, w1, w2, w3, Int.reduceAdd])
  have hfin := hloop.trans (kLoop_exit (i := 0) (s' := ⟨[(9, .bool false), (8, .int .i64 (ws.length : Int)), (7, .list 3 ((marks Slot.cost Slot.mk' ws k0).map Slot.row)), (6, .int .i64 (ws.length : Int)), (0, .list 3 ((marks Slot.cost Slot.mk' ws k0).map Slot.row)), (1, .int .i64 (offs Slot.cost ws k0 ws.length)), (5, .int .i64 (ws.length : Int))], []⟩) (by
    simp only [b65_0, ex0, ex1, ex2, ex3, ex4, ex5, ex6, ex7, ex8, Nat.reduceAdd, Nat.reduceMul, Nat.reduceSub, Nat.reduceDiv, Nat.reduceEqDiff, Nat.reduceLT, Nat.reduceGT, Nat.reduceLeDiff, reduceIte, reduceCtorEq, List.length_map, marks_length, Int.lt_irrefl]))
  rw [show ((0 : Nat) : Int) = 0 from rfl, show offs Slot.cost ws k0 0 = k0 by cases ws <;> rfl, offs_end] at hfin
  rw [e65]
  simp only [c65, runF_eq, ex0, ex1, ex2, ex3, ex4, ex5, ex6, ex7, ex8, Nat.reduceAdd, Nat.reduceMul, Nat.reduceSub, Nat.reduceDiv, Nat.reduceEqDiff, Nat.reduceLT, Nat.reduceGT, Nat.reduceLeDiff, reduceIte, reduceCtorEq, hfin]
structure ChanRow where
  kind : Int
  src : Int
  dst : Int
  depth : Int
  deriving DecidableEq
def ChanRow.row (w : ChanRow) : Row := [.int .i64 w.kind, .int .i64 w.src, .int .i64 w.dst, .int .i64 w.depth]
theorem toChanRow_ok (x0 x1 x2 x3 : Int) : L 89 [.agg [.int .i64 x0, .int .i64 x1, .int .i64 x2, .int .i64 x3]] [] = some ([.agg [.int .i64 x0, .int .i64 x1, .int .i64 x2, .int .i64 x3]], []) := by
  rw [e89]
  simp only [c89, runF_eq, ex0, ex1, ex2, ex3, ex4, ex5, ex6, ex7, ex8, Nat.reduceAdd, Nat.reduceMul, Nat.reduceSub, Nat.reduceDiv, Nat.reduceEqDiff, Nat.reduceLT, Nat.reduceGT, Nat.reduceLeDiff, reduceIte, reduceCtorEq]
theorem eqChanRow_ok (x0 x1 x2 x3 x0' x1' x2' x3' : Int) : L 109 [.agg [.int .i64 x0, .int .i64 x1, .int .i64 x2, .int .i64 x3], .agg [.int .i64 x0', .int .i64 x1', .int .i64 x2', .int .i64 x3']] [] = some ([.bool (decide (ChanRow.mk x0 x1 x2 x3 = ChanRow.mk x0' x1' x2' x3'))], []) := by
  rw [e109]
  simp only [c109, runF_eq, ex0, ex1, ex2, ex3, ex4, ex5, ex6, ex7, ex8, Nat.reduceAdd, Nat.reduceMul, Nat.reduceSub, Nat.reduceDiv, Nat.reduceEqDiff, Nat.reduceLT, Nat.reduceGT, Nat.reduceLeDiff, reduceIte, reduceCtorEq]
  simp only [ChanRow.mk.injEq]
  repeat' split
  all_goals simp_all
theorem szChanRowS_ok (xs : Lev.Rows) (left : Int) (h : xs.length < 4000000000000000000) (h0 : 0 ≤ left) (h1 : left ≤ 2000000000000000000) : L 39 [.list 4 xs, .int .i64 left] [] = some ([.int .i64 (if left - xs.length < 0 then -1 else left - xs.length)], []) := by
  rw [e39]
  simp only [c39, runF_eq, ex0, ex1, ex2, ex3, ex4, ex5, ex6, ex7, ex8, Nat.reduceAdd, Nat.reduceMul, Nat.reduceSub, Nat.reduceDiv, Nat.reduceEqDiff, Nat.reduceLT, Nat.reduceGT, Nat.reduceLeDiff, reduceIte, reduceCtorEq]
  rw [wrap_eq (by omega) (by omega)]
  split <;> simp_all
theorem toChanRowS_ok (ws : List ChanRow) (h : ws.length * 32 ≤ 140737488355328) : L 47 [.list 4 (ws.map ChanRow.row)] [] = some ([.arr 4 (ws.map ChanRow.row)], []) := by
  have hloop := fill_loop (S := LL 25) (b := b47_0) (n := ws.length) (fun k X => ⟨[(0, .list 4 (ws.map ChanRow.row)), (3, .sl 4 500030 0 ws.length), (4, .int .i64 (k : Int))], [(500030, some X)]⟩) (List.replicate ws.length [.int .i64 0, .int .i64 0, .int .i64 0, .int .i64 0]) (ws.map ChanRow.row) (by simp) (by simp) (by simp [rowsPlain, LV.plain]) (rowsPlain_map (fun _ => rfl) ws) (fun k hk X r hX hg hr hp hp' => by
    have hx : ws[k]? = some ws[k] := by simp [hk]
    rw [List.getElem?_replicate, if_pos hk] at hg
    rw [List.getElem?_map, hx] at hr
    obtain rfl := Option.some.inj hr
    have hw : IntKind.i64.wrap ((k : Int) + 1) = ((k + 1 : Nat) : Int) := wrap_succ (by omega)
    simp only [Option.map_some, ChanRow.row] at hp'
    simp only [b47_0, ex0, ex1, ex2, ex3, ex4, ex5, ex6, ex7, ex8, Nat.reduceAdd, Nat.reduceMul, Nat.reduceSub, Nat.reduceDiv, Nat.reduceEqDiff, Nat.reduceLT, Nat.reduceGT, Nat.reduceLeDiff, reduceIte, reduceCtorEq, List.length_map, List.getElem?_map, hx, Int.ofNat_lt, hk, hw, l89, toChanRow_ok, ChanRow.row, hg, hp'])
  have hfin := hloop.trans (kLoop_exit (i := 0) (s' := ⟨[(11, .bool false), (10, .int .i64 (ws.length : Int)), (9, .list 4 (ws.map ChanRow.row)), (8, .int .i64 (ws.length : Int)), (0, .list 4 (ws.map ChanRow.row)), (3, .sl 4 500030 0 ws.length), (4, .int .i64 (ws.length : Int))], [(500030, some (ws.map ChanRow.row))]⟩) (by
    simp only [b47_0, ex0, ex1, ex2, ex3, ex4, ex5, ex6, ex7, ex8, Nat.reduceAdd, Nat.reduceMul, Nat.reduceSub, Nat.reduceDiv, Nat.reduceEqDiff, Nat.reduceLT, Nat.reduceGT, Nat.reduceLeDiff, reduceIte, reduceCtorEq, List.length_map, Int.lt_irrefl]))
  rw [show ((0 : Nat) : Int) = 0 from rfl] at hfin
  have hp : rowsPlain (List.replicate ws.length [.int .i64 0, .int .i64 0, .int .i64 0, .int .i64 0]) = true := by simp [rowsPlain, LV.plain]
  have hp2 : rowsPlain (ws.map ChanRow.row) = true := rowsPlain_map (fun _ => rfl) ws
  have hv : vw (ws.map ChanRow.row) 0 ws.length = ws.map ChanRow.row := vw_full (by simp)
  have h' : (ws.length : Int) * ((32 : Nat) : Int) ≤ 140737488355328 := by omega
  rw [e47]
  simp only [c47, runF_eq, ex0, ex1, ex2, ex3, ex4, ex5, ex6, ex7, ex8, Nat.reduceAdd, Nat.reduceMul, Nat.reduceSub, Nat.reduceDiv, Nat.reduceEqDiff, Nat.reduceLT, Nat.reduceGT, Nat.reduceLeDiff, reduceIte, reduceCtorEq, List.length_map, hp, hp2, hv, h', hfin]
theorem eqChanRowS_ok (ws vs : List ChanRow) (h : ws.length < 4000000000000000000) : L 57 [.list 4 (ws.map ChanRow.row), .list 4 (vs.map ChanRow.row)] [] = some ([.bool (decide (ws = vs))], []) := by
  rw [e57]
  by_cases hl : ws.length = vs.length
  · have hloop := eq_loop (S := LL 94) (b := b57_0) ws vs hl (fun k => ⟨[(0, .list 4 (ws.map ChanRow.row)), (1, .list 4 (vs.map ChanRow.row)), (5, .int .i64 (k : Int))], []⟩) ⟨[(4, .bool false)], []⟩ ⟨[(14, .bool false), (13, .int .i64 (ws.length : Int)), (12, .list 4 (ws.map ChanRow.row)), (11, .int .i64 (ws.length : Int)), (0, .list 4 (ws.map ChanRow.row)), (1, .list 4 (vs.map ChanRow.row)), (5, .int .i64 (ws.length : Int))], []⟩ (fun k x y hx hy => by
      have hk : k < ws.length := (List.getElem?_eq_some_iff.1 hx).1
      have hw : IntKind.i64.wrap ((k : Int) + 1) = ((k + 1 : Nat) : Int) := wrap_succ (by omega)
      simp only [b57_0, ex0, ex1, ex2, ex3, ex4, ex5, ex6, ex7, ex8, Nat.reduceAdd, Nat.reduceMul, Nat.reduceSub, Nat.reduceDiv, Nat.reduceEqDiff, Nat.reduceLT, Nat.reduceGT, Nat.reduceLeDiff, reduceIte, reduceCtorEq, List.length_map, List.getElem?_map, hx, hy, Int.ofNat_lt, hk, hw, l109, eqChanRow_ok, ChanRow.row]
      by_cases e : x = y <;> simp [e]) (by
      simp only [b57_0, ex0, ex1, ex2, ex3, ex4, ex5, ex6, ex7, ex8, Nat.reduceAdd, Nat.reduceMul, Nat.reduceSub, Nat.reduceDiv, Nat.reduceEqDiff, Nat.reduceLT, Nat.reduceGT, Nat.reduceLeDiff, reduceIte, reduceCtorEq, List.length_map, Int.lt_irrefl])
    rw [show ((0 : Nat) : Int) = 0 from rfl] at hloop
    simp only [c57, runF_eq, ex0, ex1, ex2, ex3, ex4, ex5, ex6, ex7, ex8, Nat.reduceAdd, Nat.reduceMul, Nat.reduceSub, Nat.reduceDiv, Nat.reduceEqDiff, Nat.reduceLT, Nat.reduceGT, Nat.reduceLeDiff, reduceIte, reduceCtorEq, List.length_map, hl, hloop]
    by_cases e : ws = vs
    · subst e; simp
    · simp [e]
  · have hl' : ¬ ((ws.length : Int) = (vs.length : Int)) := by omega
    have e : ws ≠ vs := fun e => hl (by rw [e])
    simp only [c57, runF_eq, ex0, ex1, ex2, ex3, ex4, ex5, ex6, ex7, ex8, Nat.reduceAdd, Nat.reduceMul, Nat.reduceSub, Nat.reduceDiv, Nat.reduceEqDiff, Nat.reduceLT, Nat.reduceGT, Nat.reduceLeDiff, reduceIte, reduceCtorEq, List.length_map, hl', e]
def ChanRow.mk' (_ : ChanRow) (k : Int) : ChanRow := ⟨k, k + 1, k + 2, k + 3⟩
def ChanRow.cost (_ : ChanRow) : Int := 4
theorem markChanRowS_ok (ws : List ChanRow) (k0 : Int) (h : ws.length < 1000000000000000) (h0 : 0 ≤ k0) (h1 : k0 + total ChanRow.cost ws ≤ 1000000000000000000) : L 60 [.sl 4 900000 0 ws.length, .int .i64 k0] [(900000, some (ws.map ChanRow.row))] = some ([.int .i64 (k0 + total ChanRow.cost ws)], [(900000, some ((marks ChanRow.cost ChanRow.mk' ws k0).map ChanRow.row))]) := by
  have hloop := fill_loop (S := LL 102) (b := b60_0) (n := ws.length) (fun k X => ⟨[(0, .sl 4 900000 0 ws.length), (1, .int .i64 (offs ChanRow.cost ws k0 k)), (5, .int .i64 (k : Int))], [(900000, some X)]⟩) (ws.map ChanRow.row) ((marks ChanRow.cost ChanRow.mk' ws k0).map ChanRow.row) (by simp) (by simp [marks_length]) (rowsPlain_map (fun _ => rfl) _) (rowsPlain_map (fun _ => rfl) _) (fun k hk X r hX hg hr hp hp' => by
    have hx : ws[k]? = some ws[k] := by simp [hk]
    have ho := offs_le (c := ChanRow.cost) (fun _ => by simp [ChanRow.cost]) ws k0 k _ hx
    have hn := offs_succ ChanRow.cost ws k0 k _ hx
    rw [List.getElem?_map, marks_get, hx] at hr
    obtain rfl := Option.some.inj hr
    rw [List.getElem?_map, hx] at hg
    have hkX : k < X.length := by omega
    have hw : IntKind.i64.wrap ((k : Int) + 1) = ((k + 1 : Nat) : Int) := wrap_succ (by omega)
    simp only [ChanRow.cost] at ho hn
    have w1 : IntKind.i64.wrap (offs ChanRow.cost ws k0 k + 1) = offs ChanRow.cost ws k0 k + 1 := wrap_eq (by omega) (by omega)
    have w2 : IntKind.i64.wrap (offs ChanRow.cost ws k0 k + 2) = offs ChanRow.cost ws k0 k + 2 := wrap_eq (by omega) (by omega)
    have w3 : IntKind.i64.wrap (offs ChanRow.cost ws k0 k + 3) = offs ChanRow.cost ws k0 k + 3 := wrap_eq (by omega) (by omega)
    have w4 : IntKind.i64.wrap (offs ChanRow.cost ws k0 k + 4) = offs ChanRow.cost ws k0 k + 4 := wrap_eq (by omega) (by omega)
    simp only [Option.map_some, ChanRow.row, ChanRow.mk'] at hp' hg
    simp only [b60_0, ex0, ex1, ex2, ex3, ex4, ex5, ex6, ex7, ex8, Nat.reduceAdd, Nat.reduceMul, Nat.reduceSub, Nat.reduceDiv, Nat.reduceEqDiff, Nat.reduceLT, Nat.reduceGT, Nat.reduceLeDiff, reduceIte, reduceCtorEq, hX, Int.ofNat_lt, hk, hw, hg, ChanRow.row, ChanRow.mk', List.getElem?_set_self hkX, List.length_set, List.set_set, hp', Int.add_assoc, hn, w1, w2, w3, w4, Int.reduceAdd])
  have hfin := hloop.trans (kLoop_exit (i := 0) (s' := ⟨[(9, .bool false), (8, .int .i64 (ws.length : Int)), (7, .sl 4 900000 0 ws.length), (6, .int .i64 (ws.length : Int)), (0, .sl 4 900000 0 ws.length), (1, .int .i64 (offs ChanRow.cost ws k0 ws.length)), (5, .int .i64 (ws.length : Int))], [(900000, some ((marks ChanRow.cost ChanRow.mk' ws k0).map ChanRow.row))]⟩) (by
    simp only [b60_0, ex0, ex1, ex2, ex3, ex4, ex5, ex6, ex7, ex8, Nat.reduceAdd, Nat.reduceMul, Nat.reduceSub, Nat.reduceDiv, Nat.reduceEqDiff, Nat.reduceLT, Nat.reduceGT, Nat.reduceLeDiff, reduceIte, reduceCtorEq, Int.lt_irrefl]))
  rw [show ((0 : Nat) : Int) = 0 from rfl, show offs ChanRow.cost ws k0 0 = k0 by cases ws <;> rfl, offs_end] at hfin
  have hp : rowsPlain (ws.map ChanRow.row) = true := rowsPlain_map (fun _ => rfl) _
  have hp2 : rowsPlain ((marks ChanRow.cost ChanRow.mk' ws k0).map ChanRow.row) = true := rowsPlain_map (fun _ => rfl) _
  rw [e60]
  simp only [c60, runF_eq, ex0, ex1, ex2, ex3, ex4, ex5, ex6, ex7, ex8, Nat.reduceAdd, Nat.reduceMul, Nat.reduceSub, Nat.reduceDiv, Nat.reduceEqDiff, Nat.reduceLT, Nat.reduceGT, Nat.reduceLeDiff, reduceIte, reduceCtorEq, hp, hp2, hfin]
theorem heldChanRowS_ok (ws : List ChanRow) (k0 : Int) (h : ws.length < 1000000000000000) (h0 : 0 ≤ k0) (h1 : k0 + total ChanRow.cost ws ≤ 1000000000000000000) : L 64 [.list 4 ((marks ChanRow.cost ChanRow.mk' ws k0).map ChanRow.row), .int .i64 k0] [] = some ([.int .i64 (k0 + total ChanRow.cost ws)], []) := by
  have hloop := loop_to (S := LL 108) (b := b64_0) (n := ws.length) (st := fun k => ⟨[(0, .list 4 ((marks ChanRow.cost ChanRow.mk' ws k0).map ChanRow.row)), (1, .int .i64 (offs ChanRow.cost ws k0 k)), (5, .int .i64 (k : Int))], []⟩) (fun k hk => by
    have hx : ws[k]? = some ws[k] := by simp [hk]
    have ho := offs_le (c := ChanRow.cost) (fun _ => by simp [ChanRow.cost]) ws k0 k _ hx
    have hn := offs_succ ChanRow.cost ws k0 k _ hx
    have hw : IntKind.i64.wrap ((k : Int) + 1) = ((k + 1 : Nat) : Int) := wrap_succ (by omega)
    simp only [ChanRow.cost] at ho hn
    have w1 : IntKind.i64.wrap (offs ChanRow.cost ws k0 k + 1) = offs ChanRow.cost ws k0 k + 1 := wrap_eq (by omega) (by omega)
    have w2 : IntKind.i64.wrap (offs ChanRow.cost ws k0 k + 2) = offs ChanRow.cost ws k0 k + 2 := wrap_eq (by omega) (by omega)
    have w3 : IntKind.i64.wrap (offs ChanRow.cost ws k0 k + 3) = offs ChanRow.cost ws k0 k + 3 := wrap_eq (by omega) (by omega)
    have w4 : IntKind.i64.wrap (offs ChanRow.cost ws k0 k + 4) = offs ChanRow.cost ws k0 k + 4 := wrap_eq (by omega) (by omega)
    simp only [b64_0, ex0, ex1, ex2, ex3, ex4, ex5, ex6, ex7, ex8, Nat.reduceAdd, Nat.reduceMul, Nat.reduceSub, Nat.reduceDiv, Nat.reduceEqDiff, Nat.reduceLT, Nat.reduceGT, Nat.reduceLeDiff, reduceIte, reduceCtorEq, List.length_map, marks_length, List.getElem?_map, marks_get, hx, Int.ofNat_lt, hk, hw, ChanRow.row, ChanRow.mk', Int.add_assoc, hn, w1, w2, w3, w4, Int.reduceAdd])
  have hfin := hloop.trans (kLoop_exit (i := 0) (s' := ⟨[(9, .bool false), (8, .int .i64 (ws.length : Int)), (7, .list 4 ((marks ChanRow.cost ChanRow.mk' ws k0).map ChanRow.row)), (6, .int .i64 (ws.length : Int)), (0, .list 4 ((marks ChanRow.cost ChanRow.mk' ws k0).map ChanRow.row)), (1, .int .i64 (offs ChanRow.cost ws k0 ws.length)), (5, .int .i64 (ws.length : Int))], []⟩) (by
    simp only [b64_0, ex0, ex1, ex2, ex3, ex4, ex5, ex6, ex7, ex8, Nat.reduceAdd, Nat.reduceMul, Nat.reduceSub, Nat.reduceDiv, Nat.reduceEqDiff, Nat.reduceLT, Nat.reduceGT, Nat.reduceLeDiff, reduceIte, reduceCtorEq, List.length_map, marks_length, Int.lt_irrefl]))
  rw [show ((0 : Nat) : Int) = 0 from rfl, show offs ChanRow.cost ws k0 0 = k0 by cases ws <;> rfl, offs_end] at hfin
  rw [e64]
  simp only [c64, runF_eq, ex0, ex1, ex2, ex3, ex4, ex5, ex6, ex7, ex8, Nat.reduceAdd, Nat.reduceMul, Nat.reduceSub, Nat.reduceDiv, Nat.reduceEqDiff, Nat.reduceLT, Nat.reduceGT, Nat.reduceLeDiff, reduceIte, reduceCtorEq, hfin]
structure Shape where
  sets : Int
  ways : Int
  line : Int
  deriving DecidableEq
def Shape.row (w : Shape) : Row := [.int .i64 w.sets, .int .i64 w.ways, .int .i64 w.line]
theorem toShape_ok (x0 x1 x2 : Int) : L 44 [.agg [.int .i64 x0, .int .i64 x1, .int .i64 x2]] [] = some ([.agg [.int .i64 x0, .int .i64 x1, .int .i64 x2]], []) := by
  rw [e44]
  simp only [c44, runF_eq, ex0, ex1, ex2, ex3, ex4, ex5, ex6, ex7, ex8, Nat.reduceAdd, Nat.reduceMul, Nat.reduceSub, Nat.reduceDiv, Nat.reduceEqDiff, Nat.reduceLT, Nat.reduceGT, Nat.reduceLeDiff, reduceIte, reduceCtorEq]
theorem eqShape_ok (x0 x1 x2 x0' x1' x2' : Int) : L 54 [.agg [.int .i64 x0, .int .i64 x1, .int .i64 x2], .agg [.int .i64 x0', .int .i64 x1', .int .i64 x2']] [] = some ([.bool (decide (Shape.mk x0 x1 x2 = Shape.mk x0' x1' x2'))], []) := by
  rw [e54]
  simp only [c54, runF_eq, ex0, ex1, ex2, ex3, ex4, ex5, ex6, ex7, ex8, Nat.reduceAdd, Nat.reduceMul, Nat.reduceSub, Nat.reduceDiv, Nat.reduceEqDiff, Nat.reduceLT, Nat.reduceGT, Nat.reduceLeDiff, reduceIte, reduceCtorEq]
  simp only [Shape.mk.injEq]
  repeat' split
  all_goals simp_all
structure Costs where
  base : Int
  mul : Int
  mem : Int
  miss : Int
  walk : Int
  trap : Int
  line : Int
  deriving DecidableEq
def Costs.row (w : Costs) : Row := [.int .i64 w.base, .int .i64 w.mul, .int .i64 w.mem, .int .i64 w.miss, .int .i64 w.walk, .int .i64 w.trap, .int .i64 w.line]
theorem toCosts_ok (x0 x1 x2 x3 x4 x5 x6 : Int) : L 45 [.agg [.int .i64 x0, .int .i64 x1, .int .i64 x2, .int .i64 x3, .int .i64 x4, .int .i64 x5, .int .i64 x6]] [] = some ([.agg [.int .i64 x0, .int .i64 x1, .int .i64 x2, .int .i64 x3, .int .i64 x4, .int .i64 x5, .int .i64 x6]], []) := by
  rw [e45]
  simp only [c45, runF_eq, ex0, ex1, ex2, ex3, ex4, ex5, ex6, ex7, ex8, Nat.reduceAdd, Nat.reduceMul, Nat.reduceSub, Nat.reduceDiv, Nat.reduceEqDiff, Nat.reduceLT, Nat.reduceGT, Nat.reduceLeDiff, reduceIte, reduceCtorEq]
theorem eqCosts_ok (x0 x1 x2 x3 x4 x5 x6 x0' x1' x2' x3' x4' x5' x6' : Int) : L 55 [.agg [.int .i64 x0, .int .i64 x1, .int .i64 x2, .int .i64 x3, .int .i64 x4, .int .i64 x5, .int .i64 x6], .agg [.int .i64 x0', .int .i64 x1', .int .i64 x2', .int .i64 x3', .int .i64 x4', .int .i64 x5', .int .i64 x6']] [] = some ([.bool (decide (Costs.mk x0 x1 x2 x3 x4 x5 x6 = Costs.mk x0' x1' x2' x3' x4' x5' x6'))], []) := by
  rw [e55]
  simp only [c55, runF_eq, ex0, ex1, ex2, ex3, ex4, ex5, ex6, ex7, ex8, Nat.reduceAdd, Nat.reduceMul, Nat.reduceSub, Nat.reduceDiv, Nat.reduceEqDiff, Nat.reduceLT, Nat.reduceGT, Nat.reduceLeDiff, reduceIte, reduceCtorEq]
  simp only [Costs.mk.injEq]
  repeat' split
  all_goals simp_all
structure Policy where
  kind : Int
  most : Int
  deriving DecidableEq
def Policy.row (w : Policy) : Row := [.int .i64 w.kind, .int .i64 w.most]
theorem toPolicy_ok (x0 x1 : Int) : L 134 [.agg [.int .i64 x0, .int .i64 x1]] [] = some ([.agg [.int .i64 x0, .int .i64 x1]], []) := by
  rw [e134]
  simp only [c134, runF_eq, ex0, ex1, ex2, ex3, ex4, ex5, ex6, ex7, ex8, Nat.reduceAdd, Nat.reduceMul, Nat.reduceSub, Nat.reduceDiv, Nat.reduceEqDiff, Nat.reduceLT, Nat.reduceGT, Nat.reduceLeDiff, reduceIte, reduceCtorEq]
theorem eqPolicy_ok (x0 x1 x0' x1' : Int) : L 149 [.agg [.int .i64 x0, .int .i64 x1], .agg [.int .i64 x0', .int .i64 x1']] [] = some ([.bool (decide (Policy.mk x0 x1 = Policy.mk x0' x1'))], []) := by
  rw [e149]
  simp only [c149, runF_eq, ex0, ex1, ex2, ex3, ex4, ex5, ex6, ex7, ex8, Nat.reduceAdd, Nat.reduceMul, Nat.reduceSub, Nat.reduceDiv, Nat.reduceEqDiff, Nat.reduceLT, Nat.reduceGT, Nat.reduceLeDiff, reduceIte, reduceCtorEq]
  simp only [Policy.mk.injEq]
  repeat' split
  all_goals simp_all
def IntR (x : Int) : Row := [.int .i64 x]
def mkInt (_ : Int) (k : Int) : Int := k
def costInt (_ : Int) : Int := 1
theorem szIntS_ok (xs : Lev.Rows) (left : Int) (h : xs.length < 4000000000000000000) (h0 : 0 ≤ left) (h1 : left ≤ 2000000000000000000) : L 38 [.list 1 xs, .int .i64 left] [] = some ([.int .i64 (if left - xs.length < 0 then -1 else left - xs.length)], []) := by
  rw [e38]
  simp only [c38, runF_eq, ex0, ex1, ex2, ex3, ex4, ex5, ex6, ex7, ex8, Nat.reduceAdd, Nat.reduceMul, Nat.reduceSub, Nat.reduceDiv, Nat.reduceEqDiff, Nat.reduceLT, Nat.reduceGT, Nat.reduceLeDiff, reduceIte, reduceCtorEq]
  rw [wrap_eq (by omega) (by omega)]
  split <;> simp_all
theorem toIntS_ok (ws : List Int) (h : ws.length * 8 ≤ 140737488355328) : L 12 [.list 1 (ws.map IntR)] [] = some ([.arr 1 (ws.map IntR)], []) := by
  have hloop := fill_loop (S := LL 23) (b := b12_0) (n := ws.length) (fun k X => ⟨[(0, .list 1 (ws.map IntR)), (3, .sl 1 500030 0 ws.length), (4, .int .i64 (k : Int))], [(500030, some X)]⟩) (List.replicate ws.length [.int .i64 0]) (ws.map IntR) (by simp) (by simp) (by simp [rowsPlain, LV.plain]) (rowsPlain_map (fun _ => rfl) ws) (fun k hk X r hX hg hr hp hp' => by
    have hx : ws[k]? = some ws[k] := by simp [hk]
    rw [List.getElem?_replicate, if_pos hk] at hg
    rw [List.getElem?_map, hx] at hr
    obtain rfl := Option.some.inj hr
    have hw : IntKind.i64.wrap ((k : Int) + 1) = ((k + 1 : Nat) : Int) := wrap_succ (by omega)
    simp only [Option.map_some, IntR] at hp'
    simp only [b12_0, ex0, ex1, ex2, ex3, ex4, ex5, ex6, ex7, ex8, Nat.reduceAdd, Nat.reduceMul, Nat.reduceSub, Nat.reduceDiv, Nat.reduceEqDiff, Nat.reduceLT, Nat.reduceGT, Nat.reduceLeDiff, reduceIte, reduceCtorEq, List.length_map, List.getElem?_map, hx, Int.ofNat_lt, hk, hw, IntR, hg, hp'])
  have hfin := hloop.trans (kLoop_exit (i := 0) (s' := ⟨[(11, .bool false), (10, .int .i64 (ws.length : Int)), (9, .list 1 (ws.map IntR)), (8, .int .i64 (ws.length : Int)), (0, .list 1 (ws.map IntR)), (3, .sl 1 500030 0 ws.length), (4, .int .i64 (ws.length : Int))], [(500030, some (ws.map IntR))]⟩) (by
    simp only [b12_0, ex0, ex1, ex2, ex3, ex4, ex5, ex6, ex7, ex8, Nat.reduceAdd, Nat.reduceMul, Nat.reduceSub, Nat.reduceDiv, Nat.reduceEqDiff, Nat.reduceLT, Nat.reduceGT, Nat.reduceLeDiff, reduceIte, reduceCtorEq, List.length_map, Int.lt_irrefl]))
  rw [show ((0 : Nat) : Int) = 0 from rfl] at hfin
  have hp : rowsPlain (List.replicate ws.length [.int .i64 0]) = true := by simp [rowsPlain, LV.plain]
  have hp2 : rowsPlain (ws.map IntR) = true := rowsPlain_map (fun _ => rfl) ws
  have hv : vw (ws.map IntR) 0 ws.length = ws.map IntR := vw_full (by simp)
  have h' : (ws.length : Int) * ((8 : Nat) : Int) ≤ 140737488355328 := by omega
  rw [e12]
  simp only [c12, runF_eq, ex0, ex1, ex2, ex3, ex4, ex5, ex6, ex7, ex8, Nat.reduceAdd, Nat.reduceMul, Nat.reduceSub, Nat.reduceDiv, Nat.reduceEqDiff, Nat.reduceLT, Nat.reduceGT, Nat.reduceLeDiff, reduceIte, reduceCtorEq, List.length_map, hp, hp2, hv, h', hfin]
theorem eqIntS_ok (ws vs : List Int) (h : ws.length < 4000000000000000000) : L 15 [.list 1 (ws.map IntR), .list 1 (vs.map IntR)] [] = some ([.bool (decide (ws = vs))], []) := by
  rw [e15]
  by_cases hl : ws.length = vs.length
  · have hloop := eq_loop (S := LL 92) (b := b15_0) ws vs hl (fun k => ⟨[(0, .list 1 (ws.map IntR)), (1, .list 1 (vs.map IntR)), (5, .int .i64 (k : Int))], []⟩) ⟨[(4, .bool false)], []⟩ ⟨[(14, .bool false), (13, .int .i64 (ws.length : Int)), (12, .list 1 (ws.map IntR)), (11, .int .i64 (ws.length : Int)), (0, .list 1 (ws.map IntR)), (1, .list 1 (vs.map IntR)), (5, .int .i64 (ws.length : Int))], []⟩ (fun k x y hx hy => by
      have hk : k < ws.length := (List.getElem?_eq_some_iff.1 hx).1
      have hw : IntKind.i64.wrap ((k : Int) + 1) = ((k + 1 : Nat) : Int) := wrap_succ (by omega)
      simp only [b15_0, ex0, ex1, ex2, ex3, ex4, ex5, ex6, ex7, ex8, Nat.reduceAdd, Nat.reduceMul, Nat.reduceSub, Nat.reduceDiv, Nat.reduceEqDiff, Nat.reduceLT, Nat.reduceGT, Nat.reduceLeDiff, reduceIte, reduceCtorEq, List.length_map, List.getElem?_map, hx, hy, Int.ofNat_lt, hk, hw, IntR]
      by_cases e : x = y <;> simp [e]) (by
      simp only [b15_0, ex0, ex1, ex2, ex3, ex4, ex5, ex6, ex7, ex8, Nat.reduceAdd, Nat.reduceMul, Nat.reduceSub, Nat.reduceDiv, Nat.reduceEqDiff, Nat.reduceLT, Nat.reduceGT, Nat.reduceLeDiff, reduceIte, reduceCtorEq, List.length_map, Int.lt_irrefl])
    rw [show ((0 : Nat) : Int) = 0 from rfl] at hloop
    simp only [c15, runF_eq, ex0, ex1, ex2, ex3, ex4, ex5, ex6, ex7, ex8, Nat.reduceAdd, Nat.reduceMul, Nat.reduceSub, Nat.reduceDiv, Nat.reduceEqDiff, Nat.reduceLT, Nat.reduceGT, Nat.reduceLeDiff, reduceIte, reduceCtorEq, List.length_map, hl, hloop]
    by_cases e : ws = vs
    · subst e; simp
    · simp [e]
  · have hl' : ¬ ((ws.length : Int) = (vs.length : Int)) := by omega
    have e : ws ≠ vs := fun e => hl (by rw [e])
    simp only [c15, runF_eq, ex0, ex1, ex2, ex3, ex4, ex5, ex6, ex7, ex8, Nat.reduceAdd, Nat.reduceMul, Nat.reduceSub, Nat.reduceDiv, Nat.reduceEqDiff, Nat.reduceLT, Nat.reduceGT, Nat.reduceLeDiff, reduceIte, reduceCtorEq, List.length_map, hl', e]
theorem markIntS_ok (ws : List Int) (k0 : Int) (h : ws.length < 1000000000000000) (h0 : 0 ≤ k0) (h1 : k0 + total costInt ws ≤ 1000000000000000000) : L 17 [.sl 1 900000 0 ws.length, .int .i64 k0] [(900000, some (ws.map IntR))] = some ([.int .i64 (k0 + total costInt ws)], [(900000, some ((marks costInt mkInt ws k0).map IntR))]) := by
  have hloop := fill_loop (S := LL 101) (b := b17_0) (n := ws.length) (fun k X => ⟨[(0, .sl 1 900000 0 ws.length), (1, .int .i64 (offs costInt ws k0 k)), (5, .int .i64 (k : Int))], [(900000, some X)]⟩) (ws.map IntR) ((marks costInt mkInt ws k0).map IntR) (by simp) (by simp [marks_length]) (rowsPlain_map (fun _ => rfl) _) (rowsPlain_map (fun _ => rfl) _) (fun k hk X r hX hg hr hp hp' => by
    have hx : ws[k]? = some ws[k] := by simp [hk]
    have ho := offs_le (c := costInt) (fun _ => by simp [costInt]) ws k0 k _ hx
    have hn := offs_succ costInt ws k0 k _ hx
    rw [List.getElem?_map, marks_get, hx] at hr
    obtain rfl := Option.some.inj hr
    rw [List.getElem?_map, hx] at hg
    have hkX : k < X.length := by omega
    have hw : IntKind.i64.wrap ((k : Int) + 1) = ((k + 1 : Nat) : Int) := wrap_succ (by omega)
    simp only [costInt] at ho hn
    have w1 : IntKind.i64.wrap (offs costInt ws k0 k + 1) = offs costInt ws k0 k + 1 := wrap_eq (by omega) (by omega)
    simp only [Option.map_some, IntR, mkInt] at hp' hg
    simp only [b17_0, ex0, ex1, ex2, ex3, ex4, ex5, ex6, ex7, ex8, Nat.reduceAdd, Nat.reduceMul, Nat.reduceSub, Nat.reduceDiv, Nat.reduceEqDiff, Nat.reduceLT, Nat.reduceGT, Nat.reduceLeDiff, reduceIte, reduceCtorEq, hX, Int.ofNat_lt, hk, hw, hg, IntR, mkInt, List.getElem?_set_self hkX, List.length_set, List.set_set, hp', Int.add_assoc, hn, w1, Int.reduceAdd])
  have hfin := hloop.trans (kLoop_exit (i := 0) (s' := ⟨[(9, .bool false), (8, .int .i64 (ws.length : Int)), (7, .sl 1 900000 0 ws.length), (6, .int .i64 (ws.length : Int)), (0, .sl 1 900000 0 ws.length), (1, .int .i64 (offs costInt ws k0 ws.length)), (5, .int .i64 (ws.length : Int))], [(900000, some ((marks costInt mkInt ws k0).map IntR))]⟩) (by
    simp only [b17_0, ex0, ex1, ex2, ex3, ex4, ex5, ex6, ex7, ex8, Nat.reduceAdd, Nat.reduceMul, Nat.reduceSub, Nat.reduceDiv, Nat.reduceEqDiff, Nat.reduceLT, Nat.reduceGT, Nat.reduceLeDiff, reduceIte, reduceCtorEq, Int.lt_irrefl]))
  rw [show ((0 : Nat) : Int) = 0 from rfl, show offs costInt ws k0 0 = k0 by cases ws <;> rfl, offs_end] at hfin
  have hp : rowsPlain (ws.map IntR) = true := rowsPlain_map (fun _ => rfl) _
  have hp2 : rowsPlain ((marks costInt mkInt ws k0).map IntR) = true := rowsPlain_map (fun _ => rfl) _
  rw [e17]
  simp only [c17, runF_eq, ex0, ex1, ex2, ex3, ex4, ex5, ex6, ex7, ex8, Nat.reduceAdd, Nat.reduceMul, Nat.reduceSub, Nat.reduceDiv, Nat.reduceEqDiff, Nat.reduceLT, Nat.reduceGT, Nat.reduceLeDiff, reduceIte, reduceCtorEq, hp, hp2, hfin]
theorem heldIntS_ok (ws : List Int) (k0 : Int) (h : ws.length < 1000000000000000) (h0 : 0 ≤ k0) (h1 : k0 + total costInt ws ≤ 1000000000000000000) : L 63 [.list 1 ((marks costInt mkInt ws k0).map IntR), .int .i64 k0] [] = some ([.int .i64 (k0 + total costInt ws)], []) := by
  have hloop := loop_to (S := LL 107) (b := b63_0) (n := ws.length) (st := fun k => ⟨[(0, .list 1 ((marks costInt mkInt ws k0).map IntR)), (1, .int .i64 (offs costInt ws k0 k)), (5, .int .i64 (k : Int))], []⟩) (fun k hk => by
    have hx : ws[k]? = some ws[k] := by simp [hk]
    have ho := offs_le (c := costInt) (fun _ => by simp [costInt]) ws k0 k _ hx
    have hn := offs_succ costInt ws k0 k _ hx
    have hw : IntKind.i64.wrap ((k : Int) + 1) = ((k + 1 : Nat) : Int) := wrap_succ (by omega)
    simp only [costInt] at ho hn
    have w1 : IntKind.i64.wrap (offs costInt ws k0 k + 1) = offs costInt ws k0 k + 1 := wrap_eq (by omega) (by omega)
    simp only [b63_0, ex0, ex1, ex2, ex3, ex4, ex5, ex6, ex7, ex8, Nat.reduceAdd, Nat.reduceMul, Nat.reduceSub, Nat.reduceDiv, Nat.reduceEqDiff, Nat.reduceLT, Nat.reduceGT, Nat.reduceLeDiff, reduceIte, reduceCtorEq, List.length_map, marks_length, List.getElem?_map, marks_get, hx, Int.ofNat_lt, hk, hw, IntR, mkInt, Int.add_assoc, hn, w1, Int.reduceAdd])
  have hfin := hloop.trans (kLoop_exit (i := 0) (s' := ⟨[(9, .bool false), (8, .int .i64 (ws.length : Int)), (7, .list 1 ((marks costInt mkInt ws k0).map IntR)), (6, .int .i64 (ws.length : Int)), (0, .list 1 ((marks costInt mkInt ws k0).map IntR)), (1, .int .i64 (offs costInt ws k0 ws.length)), (5, .int .i64 (ws.length : Int))], []⟩) (by
    simp only [b63_0, ex0, ex1, ex2, ex3, ex4, ex5, ex6, ex7, ex8, Nat.reduceAdd, Nat.reduceMul, Nat.reduceSub, Nat.reduceDiv, Nat.reduceEqDiff, Nat.reduceLT, Nat.reduceGT, Nat.reduceLeDiff, reduceIte, reduceCtorEq, List.length_map, marks_length, Int.lt_irrefl]))
  rw [show ((0 : Nat) : Int) = 0 from rfl, show offs costInt ws k0 0 = k0 by cases ws <;> rfl, offs_end] at hfin
  rw [e63]
  simp only [c63, runF_eq, ex0, ex1, ex2, ex3, ex4, ex5, ex6, ex7, ex8, Nat.reduceAdd, Nat.reduceMul, Nat.reduceSub, Nat.reduceDiv, Nat.reduceEqDiff, Nat.reduceLT, Nat.reduceGT, Nat.reduceLeDiff, reduceIte, reduceCtorEq, hfin]
end Go.Proofs.YtahjhlnhkoifhaaGreat.Plan
