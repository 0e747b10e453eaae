/- FnExactPlan: for all arguments the law answers true. A text of its proof: what functions of the program and of the reference answer; no conditions but those that each theorem names. -/
import Derived.Test.YtahjhlnhkoifhaaGreatSJPlan
set_option linter.unusedSimpArgs false
set_option linter.unusedVariables false
set_option maxRecDepth 100000
namespace Go.Proofs.YtahjhlnhkoifhaaGreat.Plan
open Go Go.Lev
/-! Tables in new memory. -/
theorem cpy_flat {α : Type} {f : α → Row} (h : ∀ x, (f x).all LV.scalar = true) (xs : List α) : cpy (xs.map f) = xs.map f := by
  rw [cpy, if_pos (rowsScalar_map h xs)]
theorem cloneSlot_ok (xs : List Slot) (h : xs.length * 24 ≤ 140737488355328) : L 81 [.list 3 (xs.map Slot.row)] [] = some ([.arr 3 (xs.map Slot.row)], []) := by
  rw [e81]
  simp only [cloneF, cpy_flat (f := Slot.row) (fun _ => rfl), List.length_map]
  rw [if_pos ⟨trivial, h, rowsPlain_map (fun _ => rfl) xs⟩]
theorem cloneWindow_ok (xs : List Window) (h : xs.length * 24 ≤ 140737488355328) : L 105 [.list 3 (xs.map Window.row)] [] = some ([.arr 3 (xs.map Window.row)], []) := by
  rw [e105]
  simp only [cloneF, cpy_flat (f := Window.row) (fun _ => rfl), List.length_map]
  rw [if_pos ⟨trivial, h, rowsPlain_map (fun _ => rfl) xs⟩]
theorem cloneInt_ok (xs : List Int) (h : xs.length * 8 ≤ 140737488355328) : L 106 [.list 1 (xs.map IntR)] [] = some ([.arr 1 (xs.map IntR)], []) := by
  rw [e106]
  simp only [cloneF, cpy_flat (f := IntR) (fun _ => rfl), List.length_map]
  rw [if_pos ⟨trivial, h, rowsPlain_map (fun _ => rfl) xs⟩]
theorem cloneChan_ok (xs : List ChanRow) (h : xs.length * 32 ≤ 140737488355328) : L 107 [.list 4 (xs.map ChanRow.row)] [] = some ([.arr 4 (xs.map ChanRow.row)], []) := by
  rw [e107]
  simp only [cloneF, cpy_flat (f := ChanRow.row) (fun _ => rfl), List.length_map]
  rw [if_pos ⟨trivial, h, rowsPlain_map (fun _ => rfl) xs⟩]
theorem cpy_part (b : Bool) (xs : List PartRow) : cpy (xs.map (PartRow.row b)) = xs.map (PartRow.row false) := by
  unfold cpy
  cases xs with
  | nil => simp
  | cons p r =>
    rw [if_neg (by cases b <;> simp [rowsScalar, PartRow.row, cell, LV.scalar])]
    rw [List.map_map]
    apply List.map_congr_left
    intro q _
    cases b <;> simp [PartRow.row, cell, ldi]
theorem clonePart_ok (b : Bool) (xs : List PartRow) (h : xs.length * 64 ≤ 140737488355328) : L 104 [.list 5 (xs.map (PartRow.row b))] [] = some ([.arr 5 (xs.map (PartRow.row false))], []) := by
  rw [e104]
  simp only [cloneF, cpy_part, List.length_map]
  rw [if_pos ⟨trivial, h, rowsPlain_map (PartRow.plain _) xs⟩]
theorem foldK_snoc {α : Type} : ∀ (ps : List α) (k : Nat) (s : List α), foldK (fun _ s p => s ++ [p]) k s ps = s ++ ps
  | [], k, s => by simp [foldK]
  | p :: r, k, s => by rw [foldK, foldK_snoc r]; simp
theorem vw_one (r : Row) : vw [r] 0 1 = [r] := rfl
def zero19 : Row := [.int .i64 0, .int .i64 0, .int .i64 0, .int .i64 0, .int .i64 0, .int .i64 0, .int .i64 0, .int .i64 0, .int .i64 0, .int .i64 0, .int .i64 0, .int .i64 0, .int .i64 0, .int .i64 0, .int .i64 0, .nil 5, .nil 1, .nil 4, .nil 3]
theorem l23Copy_ok (b : Bool) (t : Tables) (ss : List Slot) (hf : t.fit) (hs : ss.length ≤ 1000000) : L 43 [.agg (t.row b), .list 3 (ss.map Slot.row)] [] = some ([.agg ({ t with slots := ss } : Tables).own], []) := by
  obtain ⟨fp, f1, f2, f3, f4⟩ := hf
  have hv0 : vw ([] : Lev.Rows) 0 0 = [] := rfl
  have hv1 : vw (ss.map Slot.row) 0 ss.length = ss.map Slot.row := vw_full (by simp)
  have hv2 : vw (t.devs.map IntR) 0 t.devs.length = t.devs.map IntR := vw_full (by simp)
  have hv3 : vw (t.chans.map ChanRow.row) 0 t.chans.length = t.chans.map ChanRow.row := vw_full (by simp)
  have hv4 : vw (t.parts.map (PartRow.row true)) 0 t.parts.length = t.parts.map (PartRow.row true) := vw_full (by simp)
  have q1 : rowsPlain (ss.map Slot.row) = true := rowsPlain_map (fun _ => rfl) _
  have q2 : rowsPlain (t.devs.map IntR) = true := rowsPlain_map (fun _ => rfl) _
  have q3 : rowsPlain (t.chans.map ChanRow.row) = true := rowsPlain_map (fun _ => rfl) _
  have q4 : rowsPlain (t.parts.map (PartRow.row true)) = true := rowsPlain_map (PartRow.plain _) _
  have s1 : rowsScalar (ss.map Slot.row) = true := rowsScalar_map (fun _ => rfl) _
  have s2 : rowsScalar (t.devs.map IntR) = true := rowsScalar_map (fun _ => rfl) _
  have s3 : rowsScalar (t.chans.map ChanRow.row) = true := rowsScalar_map (fun _ => rfl) _
  have c1 : ss.length * 24 ≤ 140737488355328 := by omega
  have hl := fold_loop (S := LL 52) (b := b43_0) t.parts (fun _ s p => s ++ [p])
    (fun k s => ⟨[(2, .ptr 2000 0 0), (4, .ptr 4000 0 0), (5, .ptr 5000 0 0), (6, .int .i64 (k : Int))], [(2000, some [t.row b]), (4000, some [zero19]), (5000, some [t.cells (.sl 5 600515 0 s.length) (.sl 1 600516 0 t.devs.length) (.sl 4 600517 0 t.chans.length) (.sl 3 600518 0 ss.length)]), (600515, some (s.map (PartRow.row true))), (600516, some (t.devs.map IntR)), (600517, some (t.chans.map ChanRow.row)), (600518, some (ss.map Slot.row))]⟩) 0
    (fun s => ⟨[(2, .ptr 2000 0 0), (4, .ptr 4000 0 0), (5, .ptr 5000 0 0), (6, .int .i64 (t.parts.length : Int)), (29, .bool false)], [(2000, some [t.row b]), (4000, some [zero19]), (5000, some [t.cells (.sl 5 600515 0 s.length) (.sl 1 600516 0 t.devs.length) (.sl 4 600517 0 t.chans.length) (.sl 3 600518 0 ss.length)]), (600515, some (s.map (PartRow.row true))), (600516, some (t.devs.map IntR)), (600517, some (t.chans.map ChanRow.row)), (600518, some (ss.map Slot.row))]⟩)
    (fun k s => s.length = k) (fun k p s hx hk' => by
      have hk : k < t.parts.length := (List.getElem?_eq_some_iff.1 hx).1
      have hw : IntKind.i64.wrap ((k : Int) + 1) = ((k + 1 : Nat) : Int) := wrap_succ (by omega)
      obtain ⟨p1, p2⟩ := fp p (List.mem_of_getElem? hx)
      have sw : rowsScalar (p.windows.map Window.row) = true := rowsScalar_map (fun _ => rfl) _
      have pw : rowsPlain (p.windows.map Window.row) = true := rowsPlain_map (fun _ => rfl) _
      have vw1 : vw (p.windows.map Window.row) 0 p.windows.length = p.windows.map Window.row := vw_full (by simp)
      have vs : vw (s.map (PartRow.row true)) 0 s.length = s.map (PartRow.row true) := vw_full (by simp)
      have qs : rowsPlain (s.map (PartRow.row true)) = true := rowsPlain_map (PartRow.plain _) _
      have qs1 : rowsPlain (s.map (PartRow.row true) ++ [[.str p.name, .int .i64 p.entry, .int .i64 p.policy.kind, .int .i64 p.policy.most, .arr 3 (p.windows.map Window.row)]]) = true := by
        have : s.map (PartRow.row true) ++ [[.str p.name, .int .i64 p.entry, .int .i64 p.policy.kind, .int .i64 p.policy.most, .arr 3 (p.windows.map Window.row)]] = (s ++ [p]).map (PartRow.row true) := by simp [PartRow.row, cell_t]
        rw [this]
        exact rowsPlain_map (PartRow.plain _) _
      have hc : (s.length + 1) * 64 ≤ 140737488355328 := by omega
      refine ⟨?_, by rw [List.length_append]; simp; omega⟩
      simp only [b43_0, ex0, ex1, ex2, ex3, ex4, ex5, ex6, ex7, ex8, Nat.reduceAdd, Nat.reduceMul, Nat.reduceSub, Nat.reduceDiv, Nat.reduceEqDiff, Nat.reduceLT, Nat.reduceGT, Nat.reduceLeDiff, reduceIte, reduceCtorEq, Tables.row, Tables.cells, zero19, List.length_map, List.getElem?_map, hx, Int.ofNat_lt, hk, hw, PartRow.row, ldi_cell, cell_t, vw_one, hv0, hv1, hv2, hv3, q1, q2, q3, sw, pw, vw1, vs, qs, qs1, p2, hc, Nat.zero_add, List.nil_append, List.length_append, List.length_cons, List.length_nil, List.map_append, List.map_cons, List.map_nil]) (fun s _ => by
      simp only [b43_0, ex0, ex1, ex2, ex3, ex4, ex5, ex6, ex7, ex8, Nat.reduceAdd, Nat.reduceMul, Nat.reduceSub, Nat.reduceDiv, Nat.reduceEqDiff, Nat.reduceLT, Nat.reduceGT, Nat.reduceLeDiff, reduceIte, reduceCtorEq, Tables.row, Tables.cells, zero19, List.length_map, Int.lt_irrefl]) [] rfl
  obtain ⟨_, hl⟩ := hl
  rw [foldK_snoc, List.nil_append, show ((0 : Nat) : Int) = 0 from rfl] at hl
  simp only [Tables.row, Tables.cells, zero19, List.map_nil, List.length_nil] at hl
  rw [e43]
  simp only [c43, runF_eq, ex0, ex1, ex2, ex3, ex4, ex5, ex6, ex7, ex8, Nat.reduceAdd, Nat.reduceMul, Nat.reduceSub, Nat.reduceDiv, Nat.reduceEqDiff, Nat.reduceLT, Nat.reduceGT, Nat.reduceLeDiff, reduceIte, reduceCtorEq, Tables.row, Tables.own, Tables.cells, List.length_map, hv0, hv1, hv2, hv3, hv4, q1, q2, q3, q4, s1, s2, s3, c1, f2, f3, Nat.zero_add, List.nil_append, hl]
end Go.Proofs.YtahjhlnhkoifhaaGreat.Plan
