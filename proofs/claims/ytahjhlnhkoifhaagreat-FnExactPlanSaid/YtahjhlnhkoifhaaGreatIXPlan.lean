/- FnExactPlan: for all arguments the law answers true. A text of its proof: what functions of the program and of the reference answer; no conditions but those that each theorem names. -/
import Derived.Test.YtahjhlnhkoifhaaGreatSBPlan
set_option linter.unusedSimpArgs false
set_option linter.unusedVariables false
set_option maxRecDepth 100000
namespace Go.Proofs.YtahjhlnhkoifhaaGreat.Plan
open Go Go.Lev
/-! Looking through a list. -/
theorem ren0_pimm {os : List (Nat × Nat)} (cs : List LV) : ren0 os (.pimm cs) = .pimm cs := rfl
theorem frzCell_int {H : Heap} (k : IntKind) (n : Int) : frzCell H (.int k n) = .int k n := rfl
theorem frzCell_str {H : Heap} (s : ByteArray) : frzCell H (.str s) = .str s := rfl
theorem frzCell_bool {H : Heap} (b : Bool) : frzCell H (.bool b) = .bool b := rfl
theorem IndexFuncW_ok (ws : List Window) (g : Nat) (caps : List LV) (hc : caps = [] ∨ ∃ cs, caps = [.pimm cs]) (p : Window → Bool) (h : ws.length < 4000000000000000000) (hp : ∀ x ∈ ws, LL 69 g (.agg [.int .i64 x.base, .int .i64 x.size, .int .i64 x.perm] :: caps) [] = some ([.bool (p x)], [])) :
    L 165 [.list 3 (ws.map Window.row), .fn g caps] [] = some ([.int .i64 (findK p 0 ws)], []) := by
  have hl := find_loop (S := LL 69) (b := b165_0) ws p (fun k => ⟨[(0, .list 3 (ws.map Window.row)), (1, .fn g caps), (7, .int .i64 (ws.length : Int)), (8, .int .i64 (k : Int))], []⟩) (fun k => ⟨[(4, .int .i64 (k : Int))], []⟩) 0 ⟨[(9, .bool false), (0, .list 3 (ws.map Window.row)), (1, .fn g caps), (7, .int .i64 (ws.length : Int)), (8, .int .i64 (ws.length : Int))], []⟩ (fun k x hx => by
      have hk : k < ws.length := (List.getElem?_eq_some_iff.1 hx).1
      have hw : IntKind.i64.wrap ((k : Int) + 1) = ((k + 1 : Nat) : Int) := wrap_succ (by omega)
      have hpx := hp x (List.mem_of_getElem? hx)
      rcases hc with rfl | ⟨cs, rfl⟩ <;> cases hb : p x <;> rw [hb] at hpx <;>
        simp only [b165_0, ex0, ex1, ex2, ex3, ex4, ex5, ex6, ex7, ex8, Nat.reduceAdd, Nat.reduceMul, Nat.reduceSub, Nat.reduceDiv, Nat.reduceEqDiff, Nat.reduceLT, Nat.reduceGT, Nat.reduceLeDiff, reduceIte, reduceCtorEq, ren0_pimm, List.length_map, List.getElem?_map, hx, Int.ofNat_lt, hk, hw, Window.row, ldi_cell, List.append_nil, List.cons_append, List.nil_append, hpx]) (by
      simp only [b165_0, ex0, ex1, ex2, ex3, ex4, ex5, ex6, ex7, ex8, Nat.reduceAdd, Nat.reduceMul, Nat.reduceSub, Nat.reduceDiv, Nat.reduceEqDiff, Nat.reduceLT, Nat.reduceGT, Nat.reduceLeDiff, reduceIte, reduceCtorEq, ren0_pimm, List.length_map, Int.lt_irrefl]) ws 0 rfl (Nat.zero_le _)
  rw [show ((0 : Nat) : Int) = 0 from rfl] at hl
  rw [e165]
  rcases hl with ⟨hf, hl⟩ | ⟨j, hf, hl⟩ <;> rcases hc with rfl | ⟨cs, rfl⟩ <;> simp only [c165, runF_eq, ex0, ex1, ex2, ex3, ex4, ex5, ex6, ex7, ex8, Nat.reduceAdd, Nat.reduceMul, Nat.reduceSub, Nat.reduceDiv, Nat.reduceEqDiff, Nat.reduceLT, Nat.reduceGT, Nat.reduceLeDiff, reduceIte, reduceCtorEq, ren0_pimm, List.length_map, hl, hf]
theorem ContainsFuncW_ok (ws : List Window) (g : Nat) (caps : List LV) (hc : caps = [] ∨ ∃ cs, caps = [.pimm cs]) (p : Window → Bool) (h : ws.length < 4000000000000000000) (hp : ∀ x ∈ ws, LL 69 g (.agg [.int .i64 x.base, .int .i64 x.size, .int .i64 x.perm] :: caps) [] = some ([.bool (p x)], [])) :
    L 142 [.list 3 (ws.map Window.row), .fn g caps] [] = some ([.bool (ws.any p)], []) := by
  have hi := IndexFuncW_ok ws g caps hc p h hp
  have ha := findK_any (p := p) (xs := ws) (k := 0)
  rw [e142]
  rcases hc with rfl | ⟨cs, rfl⟩ <;> simp only [c142, runF_eq, ex0, ex1, ex2, ex3, ex4, ex5, ex6, ex7, ex8, Nat.reduceAdd, Nat.reduceMul, Nat.reduceSub, Nat.reduceDiv, Nat.reduceEqDiff, Nat.reduceLT, Nat.reduceGT, Nat.reduceLeDiff, reduceIte, reduceCtorEq, l165, hi]
  all_goals (apply bool_ok; rw [decide_eq_true_eq]; exact ha)

theorem IndexFuncI_ok (ws : List Int) (g : Nat) (caps : List LV) (hc : caps = [] ∨ ∃ cs, caps = [.pimm cs]) (p : Int → Bool) (h : ws.length < 4000000000000000000) (hp : ∀ x ∈ ws, LL 74 g (.int .i64 x :: caps) [] = some ([.bool (p x)], [])) :
    L 103 [.list 1 (ws.map IntR), .fn g caps] [] = some ([.int .i64 (findK p 0 ws)], []) := by
  have hl := find_loop (S := LL 74) (b := b103_0) ws p (fun k => ⟨[(0, .list 1 (ws.map IntR)), (1, .fn g caps), (7, .int .i64 (ws.length : Int)), (8, .int .i64 (k : Int))], []⟩) (fun k => ⟨[(4, .int .i64 (k : Int))], []⟩) 0 ⟨[(9, .bool false), (0, .list 1 (ws.map IntR)), (1, .fn g caps), (7, .int .i64 (ws.length : Int)), (8, .int .i64 (ws.length : Int))], []⟩ (fun k x hx => by
      have hk : k < ws.length := (List.getElem?_eq_some_iff.1 hx).1
      have hw : IntKind.i64.wrap ((k : Int) + 1) = ((k + 1 : Nat) : Int) := wrap_succ (by omega)
      have hpx := hp x (List.mem_of_getElem? hx)
      rcases hc with rfl | ⟨cs, rfl⟩ <;> cases hb : p x <;> rw [hb] at hpx <;>
        simp only [b103_0, ex0, ex1, ex2, ex3, ex4, ex5, ex6, ex7, ex8, Nat.reduceAdd, Nat.reduceMul, Nat.reduceSub, Nat.reduceDiv, Nat.reduceEqDiff, Nat.reduceLT, Nat.reduceGT, Nat.reduceLeDiff, reduceIte, reduceCtorEq, ren0_pimm, List.length_map, List.getElem?_map, hx, Int.ofNat_lt, hk, hw, IntR, ldi_cell, List.append_nil, List.cons_append, List.nil_append, hpx]) (by
      simp only [b103_0, ex0, ex1, ex2, ex3, ex4, ex5, ex6, ex7, ex8, Nat.reduceAdd, Nat.reduceMul, Nat.reduceSub, Nat.reduceDiv, Nat.reduceEqDiff, Nat.reduceLT, Nat.reduceGT, Nat.reduceLeDiff, reduceIte, reduceCtorEq, ren0_pimm, List.length_map, Int.lt_irrefl]) ws 0 rfl (Nat.zero_le _)
  rw [show ((0 : Nat) : Int) = 0 from rfl] at hl
  rw [e103]
  rcases hl with ⟨hf, hl⟩ | ⟨j, hf, hl⟩ <;> rcases hc with rfl | ⟨cs, rfl⟩ <;> simp only [c103, runF_eq, ex0, ex1, ex2, ex3, ex4, ex5, ex6, ex7, ex8, Nat.reduceAdd, Nat.reduceMul, Nat.reduceSub, Nat.reduceDiv, Nat.reduceEqDiff, Nat.reduceLT, Nat.reduceGT, Nat.reduceLeDiff, reduceIte, reduceCtorEq, ren0_pimm, List.length_map, hl, hf]
theorem ContainsFuncI_ok (ws : List Int) (g : Nat) (caps : List LV) (hc : caps = [] ∨ ∃ cs, caps = [.pimm cs]) (p : Int → Bool) (h : ws.length < 4000000000000000000) (hp : ∀ x ∈ ws, LL 74 g (.int .i64 x :: caps) [] = some ([.bool (p x)], [])) :
    L 50 [.list 1 (ws.map IntR), .fn g caps] [] = some ([.bool (ws.any p)], []) := by
  have hi := IndexFuncI_ok ws g caps hc p h hp
  have ha := findK_any (p := p) (xs := ws) (k := 0)
  rw [e50]
  rcases hc with rfl | ⟨cs, rfl⟩ <;> simp only [c50, runF_eq, ex0, ex1, ex2, ex3, ex4, ex5, ex6, ex7, ex8, Nat.reduceAdd, Nat.reduceMul, Nat.reduceSub, Nat.reduceDiv, Nat.reduceEqDiff, Nat.reduceLT, Nat.reduceGT, Nat.reduceLeDiff, reduceIte, reduceCtorEq, l103, hi]
  all_goals (apply bool_ok; rw [decide_eq_true_eq]; exact ha)

theorem IndexFuncP_ok (b : Bool) (ws : List PartRow) (g : Nat) (caps : List LV) (hc : caps = [] ∨ ∃ cs, caps = [.pimm cs]) (p : PartRow → Bool) (h : ws.length < 4000000000000000000) (hp : ∀ x ∈ ws, LL 65 g (.agg [.str x.name, .int .i64 x.entry, .int .i64 x.policy.kind, .int .i64 x.policy.most, .list 3 (x.windows.map Window.row)] :: caps) [] = some ([.bool (p x)], [])) :
    L 163 [.list 5 (ws.map (PartRow.row b)), .fn g caps] [] = some ([.int .i64 (findK p 0 ws)], []) := by
  have hl := find_loop (S := LL 65) (b := b163_0) ws p (fun k => ⟨[(0, .list 5 (ws.map (PartRow.row b))), (1, .fn g caps), (7, .int .i64 (ws.length : Int)), (8, .int .i64 (k : Int))], []⟩) (fun k => ⟨[(4, .int .i64 (k : Int))], []⟩) 0 ⟨[(9, .bool false), (0, .list 5 (ws.map (PartRow.row b))), (1, .fn g caps), (7, .int .i64 (ws.length : Int)), (8, .int .i64 (ws.length : Int))], []⟩ (fun k x hx => by
      have hk : k < ws.length := (List.getElem?_eq_some_iff.1 hx).1
      have hw : IntKind.i64.wrap ((k : Int) + 1) = ((k + 1 : Nat) : Int) := wrap_succ (by omega)
      have hpx := hp x (List.mem_of_getElem? hx)
      rcases hc with rfl | ⟨cs, rfl⟩ <;> cases hb : p x <;> rw [hb] at hpx <;>
        simp only [b163_0, ex0, ex1, ex2, ex3, ex4, ex5, ex6, ex7, ex8, Nat.reduceAdd, Nat.reduceMul, Nat.reduceSub, Nat.reduceDiv, Nat.reduceEqDiff, Nat.reduceLT, Nat.reduceGT, Nat.reduceLeDiff, reduceIte, reduceCtorEq, ren0_pimm, List.length_map, List.getElem?_map, hx, Int.ofNat_lt, hk, hw, PartRow.row, ldi_cell, List.append_nil, List.cons_append, List.nil_append, hpx]) (by
      simp only [b163_0, ex0, ex1, ex2, ex3, ex4, ex5, ex6, ex7, ex8, Nat.reduceAdd, Nat.reduceMul, Nat.reduceSub, Nat.reduceDiv, Nat.reduceEqDiff, Nat.reduceLT, Nat.reduceGT, Nat.reduceLeDiff, reduceIte, reduceCtorEq, ren0_pimm, List.length_map, Int.lt_irrefl]) ws 0 rfl (Nat.zero_le _)
  rw [show ((0 : Nat) : Int) = 0 from rfl] at hl
  rw [e163]
  rcases hl with ⟨hf, hl⟩ | ⟨j, hf, hl⟩ <;> rcases hc with rfl | ⟨cs, rfl⟩ <;> simp only [c163, runF_eq, ex0, ex1, ex2, ex3, ex4, ex5, ex6, ex7, ex8, Nat.reduceAdd, Nat.reduceMul, Nat.reduceSub, Nat.reduceDiv, Nat.reduceEqDiff, Nat.reduceLT, Nat.reduceGT, Nat.reduceLeDiff, reduceIte, reduceCtorEq, ren0_pimm, List.length_map, hl, hf]

theorem IndexFuncC_ok (ws : List ChanRow) (g : Nat) (caps : List LV) (hc : caps = [] ∨ ∃ cs, caps = [.pimm cs]) (p : ChanRow → Bool) (h : ws.length < 4000000000000000000) (hp : ∀ x ∈ ws, LL 76 g (.agg [.int .i64 x.kind, .int .i64 x.src, .int .i64 x.dst, .int .i64 x.depth] :: caps) [] = some ([.bool (p x)], [])) :
    L 146 [.list 4 (ws.map ChanRow.row), .fn g caps] [] = some ([.int .i64 (findK p 0 ws)], []) := by
  have hl := find_loop (S := LL 76) (b := b146_0) ws p (fun k => ⟨[(0, .list 4 (ws.map ChanRow.row)), (1, .fn g caps), (7, .int .i64 (ws.length : Int)), (8, .int .i64 (k : Int))], []⟩) (fun k => ⟨[(4, .int .i64 (k : Int))], []⟩) 0 ⟨[(9, .bool false), (0, .list 4 (ws.map ChanRow.row)), (1, .fn g caps), (7, .int .i64 (ws.length : Int)), (8, .int .i64 (ws.length : Int))], []⟩ (fun k x hx => by
      have hk : k < ws.length := (List.getElem?_eq_some_iff.1 hx).1
      have hw : IntKind.i64.wrap ((k : Int) + 1) = ((k + 1 : Nat) : Int) := wrap_succ (by omega)
      have hpx := hp x (List.mem_of_getElem? hx)
      rcases hc with rfl | ⟨cs, rfl⟩ <;> cases hb : p x <;> rw [hb] at hpx <;>
        simp only [b146_0, ex0, ex1, ex2, ex3, ex4, ex5, ex6, ex7, ex8, Nat.reduceAdd, Nat.reduceMul, Nat.reduceSub, Nat.reduceDiv, Nat.reduceEqDiff, Nat.reduceLT, Nat.reduceGT, Nat.reduceLeDiff, reduceIte, reduceCtorEq, ren0_pimm, List.length_map, List.getElem?_map, hx, Int.ofNat_lt, hk, hw, ChanRow.row, ldi_cell, List.append_nil, List.cons_append, List.nil_append, hpx]) (by
      simp only [b146_0, ex0, ex1, ex2, ex3, ex4, ex5, ex6, ex7, ex8, Nat.reduceAdd, Nat.reduceMul, Nat.reduceSub, Nat.reduceDiv, Nat.reduceEqDiff, Nat.reduceLT, Nat.reduceGT, Nat.reduceLeDiff, reduceIte, reduceCtorEq, ren0_pimm, List.length_map, Int.lt_irrefl]) ws 0 rfl (Nat.zero_le _)
  rw [show ((0 : Nat) : Int) = 0 from rfl] at hl
  rw [e146]
  rcases hl with ⟨hf, hl⟩ | ⟨j, hf, hl⟩ <;> rcases hc with rfl | ⟨cs, rfl⟩ <;> simp only [c146, runF_eq, ex0, ex1, ex2, ex3, ex4, ex5, ex6, ex7, ex8, Nat.reduceAdd, Nat.reduceMul, Nat.reduceSub, Nat.reduceDiv, Nat.reduceEqDiff, Nat.reduceLT, Nat.reduceGT, Nat.reduceLeDiff, reduceIte, reduceCtorEq, ren0_pimm, List.length_map, hl, hf]
theorem ContainsFuncC_ok (ws : List ChanRow) (g : Nat) (caps : List LV) (hc : caps = [] ∨ ∃ cs, caps = [.pimm cs]) (p : ChanRow → Bool) (h : ws.length < 4000000000000000000) (hp : ∀ x ∈ ws, LL 76 g (.agg [.int .i64 x.kind, .int .i64 x.src, .int .i64 x.dst, .int .i64 x.depth] :: caps) [] = some ([.bool (p x)], [])) :
    L 98 [.list 4 (ws.map ChanRow.row), .fn g caps] [] = some ([.bool (ws.any p)], []) := by
  have hi := IndexFuncC_ok ws g caps hc p h hp
  have ha := findK_any (p := p) (xs := ws) (k := 0)
  rw [e98]
  rcases hc with rfl | ⟨cs, rfl⟩ <;> simp only [c98, runF_eq, ex0, ex1, ex2, ex3, ex4, ex5, ex6, ex7, ex8, Nat.reduceAdd, Nat.reduceMul, Nat.reduceSub, Nat.reduceDiv, Nat.reduceEqDiff, Nat.reduceLT, Nat.reduceGT, Nat.reduceLeDiff, reduceIte, reduceCtorEq, l146, hi]
  all_goals (apply bool_ok; rw [decide_eq_true_eq]; exact ha)

end Go.Proofs.YtahjhlnhkoifhaaGreat.Plan
