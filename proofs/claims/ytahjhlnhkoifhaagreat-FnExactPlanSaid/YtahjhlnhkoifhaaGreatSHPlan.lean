/- FnExactPlan: for all arguments the law answers true. A text of its proof: what functions of the program and of the reference answer; no conditions but those that each theorem names. -/
import Derived.Test.YtahjhlnhkoifhaaGreatSGPlan
set_option linter.unusedSimpArgs false
set_option linter.unusedVariables false
set_option maxRecDepth 100000
namespace Go.Proofs.YtahjhlnhkoifhaaGreat.Plan
open Go Go.Lev
/-! The program's isSound. -/
def firstOf (t : Tables) (p : PartRow) : Int := findK (fun q => decide (q.name = p.name)) 0 t.parts
def partStep (t : Tables) (k : Nat) (all : List Window) (p : PartRow) : Option (List Window) :=
  if nameOk p.name && (!(decide (firstOf t p < k)) && (policyOk p.policy && inB p.windows.length 1 4)) then
    match foldO (fun _ => winStep t.mem) 0 all p.windows with
    | some all' => if decide (p.entry.tmod 4 = 0) && runs p p.entry then some all' else none
    | none => none
  else none
theorem winFold_mem {mem : Int} : ∀ (ws : List Window) (k : Nat) (all all' : List Window), foldO (fun _ => winStep mem) k all ws = some all' → ∀ w ∈ ws, windowOk w = true
  | [], _, _, _, _, w, hw => by cases hw
  | v :: r, k, all, all', h, w, hw => by
    simp only [foldO] at h
    cases hs : winStep mem all v with
    | none => rw [hs] at h; cases h
    | some a =>
      rw [hs] at h
      rcases List.mem_cons.1 hw with rfl | hw
      · unfold winStep at hs
        split at hs
        · rename_i hc
          rw [Bool.and_eq_true] at hc
          have := hc.1
          rw [fitsB, Bool.and_eq_true] at this
          exact this.1
        · cases hs
      · exact winFold_mem r (k + 1) a all' h w hw
theorem areParts_ok (b : Bool) (t : Tables) (hf : t.fit) (hlen : t.parts.length ≤ 6) : L 96 [.agg (t.row b)] [] = some ([.bool (foldO (partStep t) 0 [] t.parts).isSome], []) := by
  obtain ⟨fp, f1, f2, f3, f4⟩ := hf
  have n4 : ¬ (4 : Int) = 0 := by decide
  have hl := foldO_loopQ (S := LL 73) (b := b96_1) t.parts (partStep t)
    (fun k all => ⟨[(1, .ptr 1000 0 0), (3, .sl 3 500030 0 all.length), (9, .list 5 (t.parts.map (PartRow.row b))), (10, .int .i64 (t.parts.length : Int)), (11, .int .i64 (k : Int))], [(1000, some [t.row b]), (500030, some (all.map Window.row))]⟩)
    (fun e => ∃ H, e = (.ret, ⟨[(2, .bool false)], H⟩))
    (fun all => (.exit 0, ⟨[(12, .bool false), (1, .ptr 1000 0 0), (3, .sl 3 500030 0 all.length), (9, .list 5 (t.parts.map (PartRow.row b))), (10, .int .i64 (t.parts.length : Int)), (11, .int .i64 (t.parts.length : Int))], [(1000, some [t.row b]), (500030, some (all.map Window.row))]⟩))
    (fun k a => (∀ v ∈ a, windowOk v = true) ∧ a.length ≤ 4 * k) (fun k p a hx ha => by
      have hk : k < t.parts.length := (List.getElem?_eq_some_iff.1 hx).1
      have hw : IntKind.i64.wrap ((k : Int) + 1) = ((k + 1 : Nat) : Int) := wrap_succ (by omega)
      obtain ⟨p1, p2⟩ := fp p (List.mem_of_getElem? hx)
      have hnm := isName_ok p.name p1
      have hpn := partNamed_ok b t p.name (by omega)
      simp only [Tables.row, Tables.cells] at hpn
      have hfo : findK (fun q => decide (q.name = p.name)) 0 t.parts = firstOf t p := rfl
      rw [hfo] at hpn
      have hpo : L 140 [.agg [.int .i64 p.policy.kind, .int .i64 p.policy.most]] [] = some ([.bool (policyOk p.policy)], []) := isPolicy_ok _ _
      have hp2 : rowsPlain (a.map Window.row) = true := rowsPlain_map (fun _ => rfl) _
      cases g1 : nameOk p.name with
      | false =>
        rw [g1] at hnm
        have hs : partStep t k a p = none := by simp only [partStep, g1, Bool.false_and]; rfl
        simp only [hs, b96_1, ex0, ex1, ex2, ex3, ex4, ex5, ex6, ex7, ex8, Nat.reduceAdd, Nat.reduceMul, Nat.reduceSub, Nat.reduceDiv, Nat.reduceEqDiff, Nat.reduceLT, Nat.reduceGT, Nat.reduceLeDiff, reduceIte, reduceCtorEq, Tables.row, Tables.cells, List.length_map, List.getElem?_map, hx, Int.ofNat_lt, hk, hw, PartRow.row, ldi_cell, l138, hnm]
        exact ⟨_, rfl, by simp, _, rfl⟩
      | true =>
      rw [g1] at hnm
      by_cases g2 : firstOf t p < k
      · have hs : partStep t k a p = none := by simp only [partStep, g1, g2, decide_true, Bool.not_true, Bool.false_and, Bool.and_false]; rfl
        simp only [hs, b96_1, ex0, ex1, ex2, ex3, ex4, ex5, ex6, ex7, ex8, Nat.reduceAdd, Nat.reduceMul, Nat.reduceSub, Nat.reduceDiv, Nat.reduceEqDiff, Nat.reduceLT, Nat.reduceGT, Nat.reduceLeDiff, reduceIte, reduceCtorEq, Tables.row, Tables.cells, List.length_map, List.getElem?_map, hx, Int.ofNat_lt, hk, hw, PartRow.row, ldi_cell, l138, hnm, l139, hpn, g2]
        exact ⟨_, rfl, by simp, _, rfl⟩
      cases g3 : policyOk p.policy with
      | false =>
        rw [g3] at hpo
        have hs : partStep t k a p = none := by simp only [partStep, g3, Bool.false_and, Bool.and_false]; rfl
        simp only [hs, b96_1, ex0, ex1, ex2, ex3, ex4, ex5, ex6, ex7, ex8, Nat.reduceAdd, Nat.reduceMul, Nat.reduceSub, Nat.reduceDiv, Nat.reduceEqDiff, Nat.reduceLT, Nat.reduceGT, Nat.reduceLeDiff, reduceIte, reduceCtorEq, Tables.row, Tables.cells, List.length_map, List.getElem?_map, hx, Int.ofNat_lt, hk, hw, PartRow.row, ldi_cell, l138, hnm, l139, hpn, g2, l140, hpo]
        exact ⟨_, rfl, by simp, _, rfl⟩
      | true =>
      rw [g3] at hpo
      cases g4 : inB p.windows.length 1 4 with
      | false =>
        have hs : partStep t k a p = none := by simp only [partStep, g4, Bool.and_false]; rfl
        simp only [hs, b96_1, ex0, ex1, ex2, ex3, ex4, ex5, ex6, ex7, ex8, Nat.reduceAdd, Nat.reduceMul, Nat.reduceSub, Nat.reduceDiv, Nat.reduceEqDiff, Nat.reduceLT, Nat.reduceGT, Nat.reduceLeDiff, reduceIte, reduceCtorEq, Tables.row, Tables.cells, List.length_map, List.getElem?_map, hx, Int.ofNat_lt, hk, hw, PartRow.row, ldi_cell, l138, hnm, l139, hpn, g2, l140, hpo, l52, within_ok, g4]
        exact ⟨_, rfl, by simp, _, rfl⟩
      | true =>
      have g4' := inB_iff.1 g4
      have h0 := areParts_0 (t.row b) [.str p.name, .int .i64 p.entry, .int .i64 p.policy.kind, .int .i64 p.policy.most, .list 3 (p.windows.map Window.row)] t.mem t.parts b k p.windows a rfl rfl rfl (by omega) ha.1 (by omega)
      cases hin : foldO (fun _ => winStep t.mem) 0 a p.windows with
      | none =>
        have hs : partStep t k a p = none := by simp only [partStep, hin]; split <;> rfl
        rw [hin] at h0
        obtain ⟨e, h0, H, rfl⟩ := h0
        simp only [Tables.row, Tables.cells] at h0
        simp only [hs, b96_1, ex0, ex1, ex2, ex3, ex4, ex5, ex6, ex7, ex8, Nat.reduceAdd, Nat.reduceMul, Nat.reduceSub, Nat.reduceDiv, Nat.reduceEqDiff, Nat.reduceLT, Nat.reduceGT, Nat.reduceLeDiff, reduceIte, reduceCtorEq, Tables.row, Tables.cells, List.length_map, List.getElem?_map, hx, Int.ofNat_lt, hk, hw, PartRow.row, ldi_cell, l138, hnm, l139, hpn, g2, l140, hpo, l52, within_ok, g4, hp2, h0]
        exact ⟨_, rfl, by simp, _, rfl⟩
      | some a' =>
        rw [hin] at h0
        obtain ⟨h01, h0⟩ := h0
        simp only [Tables.row, Tables.cells] at h0
        have hp3 : rowsPlain (a'.map Window.row) = true := rowsPlain_map (fun _ => rfl) _
        have hru := runsAt_ok p p.entry (by omega) (winFold_mem p.windows 0 a a' hin)
        have hst : partStep t k a p = if decide (p.entry.tmod 4 = 0) && runs p p.entry then some a' else none := by
          simp only [partStep, g1, g2, g3, g4, hin, decide_false, Bool.not_false, Bool.and_self, if_true]
        by_cases g5 : p.entry.tmod 4 = 0
        · cases g6 : runs p p.entry with
          | true =>
            rw [g6] at hru
            have hs : partStep t k a p = some a' := by rw [hst, decide_eq_true g5, g6]; rfl
            simp only [hs, b96_1, ex0, ex1, ex2, ex3, ex4, ex5, ex6, ex7, ex8, Nat.reduceAdd, Nat.reduceMul, Nat.reduceSub, Nat.reduceDiv, Nat.reduceEqDiff, Nat.reduceLT, Nat.reduceGT, Nat.reduceLeDiff, reduceIte, reduceCtorEq, Tables.row, Tables.cells, List.length_map, List.getElem?_map, hx, Int.ofNat_lt, hk, hw, PartRow.row, ldi_cell, l138, hnm, l139, hpn, g2, l140, hpo, l52, within_ok, g4, hp2, hp3, h0, n4, g5, l145, hru]
            exact ⟨h01.1, by omega⟩
          | false =>
            rw [g6] at hru
            have hs : partStep t k a p = none := by rw [hst, g6, Bool.and_false]; rfl
            simp only [hs, b96_1, ex0, ex1, ex2, ex3, ex4, ex5, ex6, ex7, ex8, Nat.reduceAdd, Nat.reduceMul, Nat.reduceSub, Nat.reduceDiv, Nat.reduceEqDiff, Nat.reduceLT, Nat.reduceGT, Nat.reduceLeDiff, reduceIte, reduceCtorEq, Tables.row, Tables.cells, List.length_map, List.getElem?_map, hx, Int.ofNat_lt, hk, hw, PartRow.row, ldi_cell, l138, hnm, l139, hpn, g2, l140, hpo, l52, within_ok, g4, hp2, hp3, h0, n4, g5, l145, hru]
            exact ⟨_, rfl, by simp, _, rfl⟩
        · have hs : partStep t k a p = none := by rw [hst, decide_eq_false g5, Bool.false_and]; rfl
          simp only [hs, b96_1, ex0, ex1, ex2, ex3, ex4, ex5, ex6, ex7, ex8, Nat.reduceAdd, Nat.reduceMul, Nat.reduceSub, Nat.reduceDiv, Nat.reduceEqDiff, Nat.reduceLT, Nat.reduceGT, Nat.reduceLeDiff, reduceIte, reduceCtorEq, Tables.row, Tables.cells, List.length_map, List.getElem?_map, hx, Int.ofNat_lt, hk, hw, PartRow.row, ldi_cell, l138, hnm, l139, hpn, g2, l140, hpo, l52, within_ok, g4, hp2, hp3, h0, n4, g5]
          exact ⟨_, rfl, by simp, _, rfl⟩) (fun a _ => by
      simp only [b96_1, ex0, ex1, ex2, ex3, ex4, ex5, ex6, ex7, ex8, Nat.reduceAdd, Nat.reduceMul, Nat.reduceSub, Nat.reduceDiv, Nat.reduceEqDiff, Nat.reduceLT, Nat.reduceGT, Nat.reduceLeDiff, reduceIte, reduceCtorEq, Tables.row, Tables.cells, List.length_map, Int.lt_irrefl]) t.parts 0 [] rfl (Nat.zero_le _) ⟨by simp, by simp⟩
  rw [show ((0 : Nat) : Int) = 0 from rfl] at hl
  simp only [Tables.row, Tables.cells, List.map_nil, List.length_nil] at hl
  rw [e96]
  cases hfo : foldO (partStep t) 0 [] t.parts with
  | some a =>
    rw [hfo] at hl
    simp only [c96, runF_eq, ex0, ex1, ex2, ex3, ex4, ex5, ex6, ex7, ex8, Nat.reduceAdd, Nat.reduceMul, Nat.reduceSub, Nat.reduceDiv, Nat.reduceEqDiff, Nat.reduceLT, Nat.reduceGT, Nat.reduceLeDiff, reduceIte, reduceCtorEq, Tables.row, Tables.cells, List.length_map, hl.2, Option.isSome_some]
  | none =>
    rw [hfo] at hl
    obtain ⟨e, hl, H, rfl⟩ := hl
    simp only [c96, runF_eq, ex0, ex1, ex2, ex3, ex4, ex5, ex6, ex7, ex8, Nat.reduceAdd, Nat.reduceMul, Nat.reduceSub, Nat.reduceDiv, Nat.reduceEqDiff, Nat.reduceLT, Nat.reduceGT, Nat.reduceLeDiff, reduceIte, reduceCtorEq, Tables.row, Tables.cells, List.length_map, hl, Option.isSome_none]
end Go.Proofs.YtahjhlnhkoifhaaGreat.Plan
