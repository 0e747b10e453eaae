/- FnExactPlan: for all arguments the law answers true. A text of its proof: what functions of the program and of the reference answer; no conditions but those that each theorem names. -/
import Derived.Test.YtahjhlnhkoifhaaGreatSFPlan
set_option linter.unusedSimpArgs false
set_option linter.unusedVariables false
set_option maxRecDepth 100000
namespace Go.Lev
theorem foldO_loopQ {S : Sig} {b : LC} {α σ : Type} (xs : List α) (f : Nat → σ → α → Option σ) (st : Nat → σ → St) (Q : Ex × St → Prop) (sE : σ → Ex × St) (P : Nat → σ → Prop)
    (hs : ∀ k x s, xs[k]? = some x → P k s → match f k s x with
      | some s' => runC S b (st k s) = some (.normal, st (k + 1) s') ∧ P (k + 1) s'
      | none => ∃ e, runC S b (st k s) = some e ∧ e.1 ≠ .normal ∧ Q e)
    (he : ∀ s, P xs.length s → runC S b (st xs.length s) = some (sE s) ∧ (sE s).1 ≠ .normal) :
    ∀ (r : List α) (k : Nat) (s : σ), xs.drop k = r → k ≤ xs.length → P k s →
      match foldO f k s r with
      | some s' => P xs.length s' ∧ kLoop S b (st k s) = some (sE s')
      | none => ∃ e, kLoop S b (st k s) = some e ∧ Q e
  | [], k, s, hr, hk, hp => by
    obtain rfl := drop_end hr hk
    simp only [foldO]
    refine ⟨hp, ?_⟩
    obtain ⟨h, hn⟩ := he s hp
    generalize hx : sE s = e at *
    obtain ⟨ex, s'⟩ := e
    cases ex with
    | normal => exact absurd rfl hn
    | ret => exact kLoop_ret h
    | exit i => exact kLoop_exit h
  | x :: r, k, s, hr, hk, hp => by
    obtain ⟨hlt, hx, hr'⟩ := drop_get hr
    have h1 := hs k x s hx hp
    simp only [foldO]
    cases hf : f k s x with
    | some s' =>
      rw [hf] at h1
      obtain ⟨h1, h2⟩ := h1
      rw [kLoop_normal h1]
      exact foldO_loopQ xs f st Q sE P hs he r (k + 1) s' hr' hlt h2
    | none =>
      rw [hf] at h1
      obtain ⟨⟨ex, s'⟩, h, hn, hq⟩ := h1
      refine ⟨⟨ex, s'⟩, ?_, hq⟩
      cases ex with
      | normal => exact absurd rfl hn
      | ret => exact kLoop_ret h
      | exit i => exact kLoop_exit h
end Go.Lev
namespace Go.Proofs.YtahjhlnhkoifhaaGreat.Plan
open Go Go.Lev
/-! The program's rules for tables. -/
theorem isSound1_ok (d n : Int) (h : 0 ≤ n ∧ n ≤ 1000000) : L 97 [.int .i64 d, .pimm [.int .i64 n]] [] = some ([.bool (!(inB d 0 (n - 1)))], []) := by
  have w1 : IntKind.i64.wrap (n - 1) = n - 1 := wrap_eq (by omega) (by omega)
  rw [e97]
  simp only [c97, runF_eq, ex0, ex1, ex2, ex3, ex4, ex5, ex6, ex7, ex8, Nat.reduceAdd, Nat.reduceMul, Nat.reduceSub, Nat.reduceDiv, Nat.reduceEqDiff, Nat.reduceLT, Nat.reduceGT, Nat.reduceLeDiff, reduceIte, reduceCtorEq, l52, within_ok, w1]
theorem isSound2_ok (r : ChanRow) (n : Int) : L 99 [.agg [.int .i64 r.kind, .int .i64 r.src, .int .i64 r.dst, .int .i64 r.depth], .pimm [.int .i64 n]] [] = some ([.bool (!(chanIn n r))], []) := by
  have hc : L 100 [.agg [.int .i64 r.kind, .int .i64 r.src, .int .i64 r.dst, .int .i64 r.depth]] [] = some ([.bool (chanOk r)], []) := isChan_ok _ _ _ _
  rw [e99]
  cases h0 : chanOk r
  · rw [h0] at hc
    simp only [c99, runF_eq, ex0, ex1, ex2, ex3, ex4, ex5, ex6, ex7, ex8, Nat.reduceAdd, Nat.reduceMul, Nat.reduceSub, Nat.reduceDiv, Nat.reduceEqDiff, Nat.reduceLT, Nat.reduceGT, Nat.reduceLeDiff, reduceIte, reduceCtorEq, l100, hc, chanIn, h0, Bool.false_and, Bool.not_false]
  · rw [h0] at hc
    by_cases h1 : n ≤ r.src
    · have h1' : decide (r.src < n) = false := by simp; omega
      simp only [c99, runF_eq, ex0, ex1, ex2, ex3, ex4, ex5, ex6, ex7, ex8, Nat.reduceAdd, Nat.reduceMul, Nat.reduceSub, Nat.reduceDiv, Nat.reduceEqDiff, Nat.reduceLT, Nat.reduceGT, Nat.reduceLeDiff, reduceIte, reduceCtorEq, l100, hc, chanIn, h0, h1, h1', Bool.false_and, Bool.true_and, Bool.not_false]
    · have h1' : decide (r.src < n) = true := by simp; omega
      have h2' : decide (n ≤ r.dst) = !(decide (r.dst < n)) := by
        by_cases h2 : n ≤ r.dst
        · rw [decide_eq_true h2, decide_eq_false (by omega)]; rfl
        · rw [decide_eq_false h2, decide_eq_true (by omega)]; rfl
      simp only [c99, runF_eq, ex0, ex1, ex2, ex3, ex4, ex5, ex6, ex7, ex8, Nat.reduceAdd, Nat.reduceMul, Nat.reduceSub, Nat.reduceDiv, Nat.reduceEqDiff, Nat.reduceLT, Nat.reduceGT, Nat.reduceLeDiff, reduceIte, reduceCtorEq, l100, hc, chanIn, h0, h1, h1', h2', Bool.true_and]
theorem depthOf_ok (r : ChanRow) : L 147 [.agg [.int .i64 r.kind, .int .i64 r.src, .int .i64 r.dst, .int .i64 r.depth]] [] = some ([.int .i64 (max 1 r.depth)], []) := by
  rw [e147, show max 1 r.depth = if 1 < r.depth then r.depth else 1 by split <;> omega]
  simp only [c147, runF_eq, ex0, ex1, ex2, ex3, ex4, ex5, ex6, ex7, ex8, Nat.reduceAdd, Nat.reduceMul, Nat.reduceSub, Nat.reduceDiv, Nat.reduceEqDiff, Nat.reduceLT, Nat.reduceGT, Nat.reduceLeDiff, reduceIte, reduceCtorEq]
theorem worstPad_ok (c : Costs) (s : Shape) (rs : List ChanRow) (hc : costsOk c = true) (hs : shapeOk s = true) (hl : rs.length ≤ 8) (hr : ∀ r ∈ rs, chanOk r = true) :
    L 101 [.agg [.int .i64 c.base, .int .i64 c.mul, .int .i64 c.mem, .int .i64 c.miss, .int .i64 c.walk, .int .i64 c.trap, .int .i64 c.line], .agg [.int .i64 s.sets, .int .i64 s.ways, .int .i64 s.line], .list 4 (rs.map ChanRow.row)] [] = some ([.int .i64 (wpad c s rs)], []) := by
  have hc' := costsOk_iff.1 hc
  obtain ⟨b1, b2, b3⟩ := pad0_bd hc hs
  have hlp := fold_loop (S := LL 79) (b := b101_0) rs (fun _ m r => padStep c m r)
    (fun k m => ⟨[(3, .ptr 3000 0 0), (7, .int .i64 m), (22, .list 4 (rs.map ChanRow.row)), (23, .int .i64 (rs.length : Int)), (24, .int .i64 (k : Int))], [(3000, some [[.int .i64 c.base, .int .i64 c.mul, .int .i64 c.mem, .int .i64 c.miss, .int .i64 c.walk, .int .i64 c.trap, .int .i64 c.line]])]⟩) 0
    (fun m => ⟨[(25, .bool false), (3, .ptr 3000 0 0), (7, .int .i64 m), (22, .list 4 (rs.map ChanRow.row)), (23, .int .i64 (rs.length : Int)), (24, .int .i64 (rs.length : Int))], [(3000, some [[.int .i64 c.base, .int .i64 c.mul, .int .i64 c.mem, .int .i64 c.miss, .int .i64 c.walk, .int .i64 c.trap, .int .i64 c.line]])]⟩)
    (fun k m => 0 ≤ m ∧ m ≤ 4000 + 200 * k) (fun k r m hx hm => by
      have hk : k < rs.length := (List.getElem?_eq_some_iff.1 hx).1
      have hw : IntKind.i64.wrap ((k : Int) + 1) = ((k + 1 : Nat) : Int) := wrap_succ (by omega)
      have hrk := hr r (List.mem_of_getElem? hx)
      obtain ⟨q1, q2⟩ := padStep_bd m hc hrk
      refine ⟨?_, by omega⟩
      have hst : padStep c m r = m + c.base * max 1 r.depth := rfl
      have hd := depthOf_ok r
      have w1 : IntKind.i64.wrap (c.base * max 1 r.depth) = c.base * max 1 r.depth := wrap_eq (by omega) (by omega)
      have w2 : IntKind.i64.wrap (m + c.base * max 1 r.depth) = m + c.base * max 1 r.depth := wrap_eq (by omega) (by omega)
      simp only [b101_0, ex0, ex1, ex2, ex3, ex4, ex5, ex6, ex7, ex8, Nat.reduceAdd, Nat.reduceMul, Nat.reduceSub, Nat.reduceDiv, Nat.reduceEqDiff, Nat.reduceLT, Nat.reduceGT, Nat.reduceLeDiff, reduceIte, reduceCtorEq, List.length_map, List.getElem?_map, hx, Int.ofNat_lt, hk, hw, ChanRow.row, l147, hd, w1, w2, hst]) (fun m _ => by
      simp only [b101_0, ex0, ex1, ex2, ex3, ex4, ex5, ex6, ex7, ex8, Nat.reduceAdd, Nat.reduceMul, Nat.reduceSub, Nat.reduceDiv, Nat.reduceEqDiff, Nat.reduceLT, Nat.reduceGT, Nat.reduceLeDiff, reduceIte, reduceCtorEq, List.length_map, Int.lt_irrefl]) (pad0 c s) (by omega)
  obtain ⟨_, hlp⟩ := hlp
  rw [show ((0 : Nat) : Int) = 0 from rfl] at hlp
  have w1 : IntKind.i64.wrap (16 * c.base) = 16 * c.base := wrap_eq (by omega) (by omega)
  have w2 : IntKind.i64.wrap (s.sets * s.ways) = s.sets * s.ways := wrap_eq (by omega) (by omega)
  have w3 : IntKind.i64.wrap (s.sets * s.ways * c.line) = s.sets * s.ways * c.line := wrap_eq (by omega) (by omega)
  have w4 : IntKind.i64.wrap (16 * c.base + s.sets * s.ways * c.line) = pad0 c s := by
    unfold pad0 at *
    exact wrap_eq (by omega) (by omega)
  rw [e101]
  simp only [c101, runF_eq, ex0, ex1, ex2, ex3, ex4, ex5, ex6, ex7, ex8, Nat.reduceAdd, Nat.reduceMul, Nat.reduceSub, Nat.reduceDiv, Nat.reduceEqDiff, Nat.reduceLT, Nat.reduceGT, Nat.reduceLeDiff, reduceIte, reduceCtorEq, List.length_map, w1, w2, w3, w4, hlp, wpad]
theorem isSlotAt_ok (b : Bool) (t : Tables) (s : Slot) (e : Int) (hh : headOk t = true) (he : 0 ≤ e) : L 148 [.agg (t.row b), .agg [.int .i64 s.part, .int .i64 s.start, .int .i64 s.len], .int .i64 e] [] = some ([.bool (decide (e ≤ s.start ∧ t.pad + t.guard < s.len ∧ s.start + s.len ≤ t.major))], []) := by
  have hh' := headOk_iff.1 hh
  have w1 : IntKind.i64.wrap (t.pad + t.guard) = t.pad + t.guard := wrap_eq (by omega) (by omega)
  rw [e148]
  by_cases hr : t.pad + t.guard < s.len ∧ s.len ≤ t.major
  · have w2 : IntKind.i64.wrap (t.major - s.len) = t.major - s.len := wrap_eq (by omega) (by omega)
    simp only [c148, runF_eq, ex0, ex1, ex2, ex3, ex4, ex5, ex6, ex7, ex8, Nat.reduceAdd, Nat.reduceMul, Nat.reduceSub, Nat.reduceDiv, Nat.reduceEqDiff, Nat.reduceLT, Nat.reduceGT, Nat.reduceLeDiff, reduceIte, reduceCtorEq, Tables.row, Tables.cells, w1, w2]
    (repeat' split) <;> (apply bool_ok; simp only [decide_eq_true_eq, true_iff, false_iff, Bool.false_eq_true] at *; omega)
  · simp only [c148, runF_eq, ex0, ex1, ex2, ex3, ex4, ex5, ex6, ex7, ex8, Nat.reduceAdd, Nat.reduceMul, Nat.reduceSub, Nat.reduceDiv, Nat.reduceEqDiff, Nat.reduceLT, Nat.reduceGT, Nat.reduceLeDiff, reduceIte, reduceCtorEq, Tables.row, Tables.cells, w1]
    (repeat' split) <;> (apply bool_ok; simp only [decide_eq_true_eq, true_iff, false_iff, Bool.false_eq_true] at *; omega)
theorem areSlots_ok (b : Bool) (t : Tables) (hf : t.fit) (hh : headOk t = true) : L 102 [.agg (t.row b)] [] = some ([.bool (slotsOk t)], []) := by
  obtain ⟨fp, f1, f2, f3, f4⟩ := hf
  have hh' := headOk_iff.1 hh
  have hl := foldO_loop (S := LL 81) (b := b102_0) t.slots (fun _ e s => slotStep t e s)
    (fun k e => ⟨[(1, .ptr 1000 0 0), (3, .int .i64 e), (7, .list 3 (t.slots.map Slot.row)), (8, .int .i64 (t.slots.length : Int)), (9, .int .i64 (k : Int))], [(1000, some [t.row b])]⟩)
    (fun k e s => (.ret, ⟨[(2, .bool false)], [(5000, some [[.int .i64 s.part, .int .i64 s.start, .int .i64 s.len]]), (5000, some [[.int .i64 0, .int .i64 0, .int .i64 0]]), (1000, some [t.row b])]⟩))
    (fun e => (.exit 0, ⟨[(10, .bool false), (1, .ptr 1000 0 0), (3, .int .i64 e), (7, .list 3 (t.slots.map Slot.row)), (8, .int .i64 (t.slots.length : Int)), (9, .int .i64 (t.slots.length : Int))], [(1000, some [t.row b])]⟩))
    (fun _ e => 0 ≤ e ∧ e ≤ 5000) (fun k s e hx he => by
      have hk : k < t.slots.length := (List.getElem?_eq_some_iff.1 hx).1
      have hw : IntKind.i64.wrap ((k : Int) + 1) = ((k + 1 : Nat) : Int) := wrap_succ (by omega)
      have w1 : IntKind.i64.wrap ((t.parts.length : Int) - 1) = (t.parts.length : Int) - 1 := wrap_eq (by omega) (by omega)
      have hsl := isSlotAt_ok b t s e hh he.1
      simp only [Tables.row, Tables.cells] at hsl
      cases g1 : inB s.part 0 ((t.parts.length : Int) - 1) with
      | false =>
        have hs : slotStep t e s = none := by
          rw [← Bool.not_eq_true, inB_iff] at g1
          unfold slotStep
          exact if_neg (by omega)
        simp only [hs, b102_0, ex0, ex1, ex2, ex3, ex4, ex5, ex6, ex7, ex8, Nat.reduceAdd, Nat.reduceMul, Nat.reduceSub, Nat.reduceDiv, Nat.reduceEqDiff, Nat.reduceLT, Nat.reduceGT, Nat.reduceLeDiff, reduceIte, reduceCtorEq, Tables.row, Tables.cells, List.length_map, List.getElem?_map, hx, Int.ofNat_lt, hk, hw, Slot.row, w1, l52, within_ok, g1]
      | true =>
        have g1' := inB_iff.1 g1
        by_cases g2 : e ≤ s.start ∧ t.pad + t.guard < s.len ∧ s.start + s.len ≤ t.major
        · rw [decide_eq_true g2] at hsl
          have hs : slotStep t e s = some (s.start + s.len) := by
            unfold slotStep
            exact if_pos (by omega)
          have w4 : IntKind.i64.wrap (s.start + s.len) = s.start + s.len := wrap_eq (by omega) (by omega)
          simp only [hs, b102_0, ex0, ex1, ex2, ex3, ex4, ex5, ex6, ex7, ex8, Nat.reduceAdd, Nat.reduceMul, Nat.reduceSub, Nat.reduceDiv, Nat.reduceEqDiff, Nat.reduceLT, Nat.reduceGT, Nat.reduceLeDiff, reduceIte, reduceCtorEq, Tables.row, Tables.cells, List.length_map, List.getElem?_map, hx, Int.ofNat_lt, hk, hw, Slot.row, w1, w4, l52, within_ok, g1, l148, hsl]
          omega
        · rw [decide_eq_false g2] at hsl
          have hs : slotStep t e s = none := by
            unfold slotStep
            exact if_neg (by omega)
          simp only [hs, b102_0, ex0, ex1, ex2, ex3, ex4, ex5, ex6, ex7, ex8, Nat.reduceAdd, Nat.reduceMul, Nat.reduceSub, Nat.reduceDiv, Nat.reduceEqDiff, Nat.reduceLT, Nat.reduceGT, Nat.reduceLeDiff, reduceIte, reduceCtorEq, Tables.row, Tables.cells, List.length_map, List.getElem?_map, hx, Int.ofNat_lt, hk, hw, Slot.row, w1, l52, within_ok, g1, l148, hsl]) (fun e _ => by
      simp only [b102_0, ex0, ex1, ex2, ex3, ex4, ex5, ex6, ex7, ex8, Nat.reduceAdd, Nat.reduceMul, Nat.reduceSub, Nat.reduceDiv, Nat.reduceEqDiff, Nat.reduceLT, Nat.reduceGT, Nat.reduceLeDiff, reduceIte, reduceCtorEq, Tables.row, Tables.cells, List.length_map, Int.lt_irrefl]) t.slots 0 0 rfl (Nat.zero_le _) (by omega)
  rw [show ((0 : Nat) : Int) = 0 from rfl] at hl
  simp only [Tables.row, Tables.cells] at hl
  rw [e102]
  cases hfo : foldO (fun _ e s => slotStep t e s) 0 0 t.slots with
  | some e =>
    rw [hfo] at hl
    simp only [c102, runF_eq, ex0, ex1, ex2, ex3, ex4, ex5, ex6, ex7, ex8, Nat.reduceAdd, Nat.reduceMul, Nat.reduceSub, Nat.reduceDiv, Nat.reduceEqDiff, Nat.reduceLT, Nat.reduceGT, Nat.reduceLeDiff, reduceIte, reduceCtorEq, Tables.row, Tables.cells, List.length_map, l52, within_ok, hl.2, slotsOk, hfo, Option.isSome_some, Bool.and_true]
  | none =>
    rw [hfo] at hl
    obtain ⟨_, _, _, _, _, _, hl⟩ := hl
    simp only [c102, runF_eq, ex0, ex1, ex2, ex3, ex4, ex5, ex6, ex7, ex8, Nat.reduceAdd, Nat.reduceMul, Nat.reduceSub, Nat.reduceDiv, Nat.reduceEqDiff, Nat.reduceLT, Nat.reduceGT, Nat.reduceLeDiff, reduceIte, reduceCtorEq, Tables.row, Tables.cells, List.length_map, hl, slotsOk, hfo, Option.isSome_none, Bool.and_false]
def winStep (mem : Int) (all : List Window) (w : Window) : Option (List Window) := if fitsB mem w && !(all.any fun v => !(apart v w)) then some (all ++ [w]) else none
theorem areParts_0 (R P' : Row) (mem : Int) (ps : List PartRow) (b : Bool) (i : Nat) (ws all : List Window) (hR : R.head? = some (.int .i64 mem)) (hRp : R.all LV.plain = true) (hPp : P'.all LV.plain = true) (hws : ws.length ≤ 4) (hall : ∀ v ∈ all, windowOk v = true) (hal : all.length ≤ 1000000) :
    match foldO (fun _ => winStep mem) 0 all ws with
    | some all' => ((∀ v ∈ all', windowOk v = true) ∧ all'.length ≤ all.length + 4) ∧ kLoop (LL 73) b96_0 ⟨[(1, .ptr 1000 0 0), (3, .sl 3 500030 0 all.length), (5, .ptr 5000 0 0), (9, .list 5 (ps.map (PartRow.row b))), (10, .int .i64 (ps.length : Int)), (11, .int .i64 (i : Int)), (42, .list 3 (ws.map Window.row)), (43, .int .i64 (ws.length : Int)), (44, .int .i64 0)], [(1000, some [R]), (5000, some [P']), (500030, some (all.map Window.row))]⟩
        = some (.exit 2, ⟨[(45, .bool false), (1, .ptr 1000 0 0), (3, .sl 3 500030 0 all'.length), (5, .ptr 5000 0 0), (9, .list 5 (ps.map (PartRow.row b))), (10, .int .i64 (ps.length : Int)), (11, .int .i64 (i : Int)), (42, .list 3 (ws.map Window.row)), (43, .int .i64 (ws.length : Int)), (44, .int .i64 (ws.length : Int))], [(1000, some [R]), (5000, some [P']), (500030, some (all'.map Window.row))]⟩)
    | none => ∃ e, kLoop (LL 73) b96_0 ⟨[(1, .ptr 1000 0 0), (3, .sl 3 500030 0 all.length), (5, .ptr 5000 0 0), (9, .list 5 (ps.map (PartRow.row b))), (10, .int .i64 (ps.length : Int)), (11, .int .i64 (i : Int)), (42, .list 3 (ws.map Window.row)), (43, .int .i64 (ws.length : Int)), (44, .int .i64 0)], [(1000, some [R]), (5000, some [P']), (500030, some (all.map Window.row))]⟩ = some e ∧ ∃ H, e = (.ret, ⟨[(2, .bool false)], H⟩) := by
  obtain ⟨R', rfl⟩ : ∃ R', R = .int .i64 mem :: R' := by
    cases R with
    | nil => simp at hR
    | cons x r => simp at hR; exact ⟨r, by rw [hR]⟩
  have h := foldO_loopQ (S := LL 73) (b := b96_0) ws (fun _ => winStep mem)
    (fun j all => ⟨[(1, .ptr 1000 0 0), (3, .sl 3 500030 0 all.length), (5, .ptr 5000 0 0), (9, .list 5 (ps.map (PartRow.row b))), (10, .int .i64 (ps.length : Int)), (11, .int .i64 (i : Int)), (42, .list 3 (ws.map Window.row)), (43, .int .i64 (ws.length : Int)), (44, .int .i64 (j : Int))], [(1000, some [.int .i64 mem :: R']), (5000, some [P']), (500030, some (all.map Window.row))]⟩)
    (fun e => ∃ H, e = (.ret, ⟨[(2, .bool false)], H⟩))
    (fun all => (.exit 2, ⟨[(45, .bool false), (1, .ptr 1000 0 0), (3, .sl 3 500030 0 all.length), (5, .ptr 5000 0 0), (9, .list 5 (ps.map (PartRow.row b))), (10, .int .i64 (ps.length : Int)), (11, .int .i64 (i : Int)), (42, .list 3 (ws.map Window.row)), (43, .int .i64 (ws.length : Int)), (44, .int .i64 (ws.length : Int))], [(1000, some [.int .i64 mem :: R']), (5000, some [P']), (500030, some (all.map Window.row))]⟩))
    (fun j a => (∀ v ∈ a, windowOk v = true) ∧ a.length = all.length + j) (fun j w a hx ha => by
      have hk : j < ws.length := (List.getElem?_eq_some_iff.1 hx).1
      have hw : IntKind.i64.wrap ((j : Int) + 1) = ((j + 1 : Nat) : Int) := wrap_succ (by omega)
      have hwo : L 141 [.agg [.int .i64 w.base, .int .i64 w.size, .int .i64 w.perm]] [] = some ([.bool (windowOk w)], []) := isWindow_ok _ _ _
      cases hb : windowOk w with
      | false =>
        have hs : winStep mem a w = none := by simp [winStep, fitsB, hb]
        simp only [hs, b96_0, ex0, ex1, ex2, ex3, ex4, ex5, ex6, ex7, ex8, Nat.reduceAdd, Nat.reduceMul, Nat.reduceSub, Nat.reduceDiv, Nat.reduceEqDiff, Nat.reduceLT, Nat.reduceGT, Nat.reduceLeDiff, reduceIte, reduceCtorEq, List.length_map, List.getElem?_map, hx, Int.ofNat_lt, hk, hw, Window.row, l141, hwo, hb]
        exact ⟨_, rfl, by simp, _, rfl⟩
      | true =>
        have hb' := windowOk_iff.1 hb
        have w1 : IntKind.i64.wrap (w.base + w.size) = w.base + w.size := wrap_eq (by omega) (by omega)
        by_cases hm : mem < w.base + w.size
        · have hs : winStep mem a w = none := by
            have : fitsB mem w = false := by simp [fitsB]; omega
            simp [winStep, this]
          simp only [hs, b96_0, ex0, ex1, ex2, ex3, ex4, ex5, ex6, ex7, ex8, Nat.reduceAdd, Nat.reduceMul, Nat.reduceSub, Nat.reduceDiv, Nat.reduceEqDiff, Nat.reduceLT, Nat.reduceGT, Nat.reduceLeDiff, reduceIte, reduceCtorEq, List.length_map, List.getElem?_map, hx, Int.ofNat_lt, hk, hw, Window.row, l141, hwo, hb, w1, hm]
          exact ⟨_, rfl, by simp, _, rfl⟩
        · have hfb : fitsB mem w = true := by simp [fitsB, hb]; omega
          have hv : vw (a.map Window.row) 0 a.length = a.map Window.row := vw_full (by simp)
          have hcf := ContainsFuncW_ok a 143 [.pimm [.int .i64 w.base, .int .i64 w.size, .int .i64 w.perm]] (.inr ⟨_, rfl⟩) (fun v => !(apart v w)) (by omega) (fun v hv => by
            rw [l143 (by decide)]
            exact areParts1_ok v.base v.size v.perm w.base w.size w.perm (ha.1 v hv) hb)
          cases hany : a.any (fun v => !(apart v w)) with
          | true =>
            rw [hany] at hcf
            have hs : winStep mem a w = none := by simp only [winStep, hfb, hany]; rfl
            simp only [hs, b96_0, ex0, ex1, ex2, ex3, ex4, ex5, ex6, ex7, ex8, Nat.reduceAdd, Nat.reduceMul, Nat.reduceSub, Nat.reduceDiv, Nat.reduceEqDiff, Nat.reduceLT, Nat.reduceGT, Nat.reduceLeDiff, reduceIte, reduceCtorEq, ren0_pimm, frzCell_int, frzCell_str, frzCell_bool, List.length_map, List.getElem?_map, hx, Int.ofNat_lt, hk, hw, Window.row, l141, hwo, hb, w1, hm, l142, hv, hcf]
            exact ⟨_, rfl, by simp, _, rfl⟩
          | false =>
            rw [hany] at hcf
            have hs : winStep mem a w = some (a ++ [w]) := by simp only [winStep, hfb, hany]; rfl
            have hp1 : rowsPlain (a.map Window.row ++ [[.int .i64 w.base, .int .i64 w.size, .int .i64 w.perm]]) = true := by
              have : a.map Window.row ++ [[.int .i64 w.base, .int .i64 w.size, .int .i64 w.perm]] = (a ++ [w]).map Window.row := by simp [Window.row]
              rw [this]
              exact rowsPlain_map (fun _ => rfl) _
            have hc : (a.length + 1) * 24 ≤ 140737488355328 := by omega
            have hRp' : R'.all LV.plain = true := by simpa [LV.plain] using hRp
            simp only [hs, b96_0, ex0, ex1, ex2, ex3, ex4, ex5, ex6, ex7, ex8, Nat.reduceAdd, Nat.reduceMul, Nat.reduceSub, Nat.reduceDiv, Nat.reduceEqDiff, Nat.reduceLT, Nat.reduceGT, Nat.reduceLeDiff, reduceIte, reduceCtorEq, ren0_pimm, frzCell_int, frzCell_str, frzCell_bool, List.length_map, List.getElem?_map, hx, Int.ofNat_lt, hk, hw, Window.row, l141, hwo, hb, w1, hm, l142, hv, hcf, hp1, hc, hRp', hPp, Nat.zero_add, List.length_append, List.map_append, List.map_cons, List.map_nil, List.length_cons, List.length_nil]
            refine ⟨fun v hv => ?_, by omega⟩
            rcases List.mem_append.1 hv with hv | hv
            · exact ha.1 v hv
            · simp at hv; subst hv; exact hb) (fun a _ => by
      simp only [b96_0, ex0, ex1, ex2, ex3, ex4, ex5, ex6, ex7, ex8, Nat.reduceAdd, Nat.reduceMul, Nat.reduceSub, Nat.reduceDiv, Nat.reduceEqDiff, Nat.reduceLT, Nat.reduceGT, Nat.reduceLeDiff, reduceIte, reduceCtorEq, List.length_map, Int.lt_irrefl]) ws 0 all rfl (Nat.zero_le _) ⟨hall, rfl⟩
  rw [show ((0 : Nat) : Int) = 0 from rfl] at h
  split <;> rename_i hfo <;> rw [hfo] at h
  · exact ⟨⟨h.1.1, by have := h.1.2; omega⟩, h.2⟩
  · exact h
end Go.Proofs.YtahjhlnhkoifhaaGreat.Plan
