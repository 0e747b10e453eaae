/- FnExactPlan: for all arguments the law answers true. A text of its proof: what functions of the program and of the reference answer; no conditions but those that each theorem names. -/
import Derived.Test.YtahjhlnhkoifhaaGreatSKPlan
set_option linter.unusedSimpArgs false
set_option linter.unusedVariables false
set_option maxRecDepth 100000
namespace Go.Proofs.YtahjhlnhkoifhaaGreat.Plan
open Go Go.Lev
theorem withSlots_ok (b : Bool) (t : Tables) (ss : List Slot) (hf : t.fit) (hs : ss.length ≤ 1000000) : L 53 [.agg (t.row b), .list 3 (ss.map Slot.row)] [] = some ([.agg ({ t with slots := ss } : Tables).own], []) := by
  obtain ⟨fp, f1, f2, f3, f4⟩ := hf
  have hv1 : vw (ss.map Slot.row) 0 ss.length = ss.map Slot.row := vw_full (by simp)
  have hv2 : vw (t.devs.map IntR) 0 t.devs.length = t.devs.map IntR := vw_full (by simp)
  have hv3 : vw (t.chans.map ChanRow.row) 0 t.chans.length = t.chans.map ChanRow.row := vw_full (by simp)
  have hv4 : vw (t.parts.map (PartRow.row true)) 0 t.parts.length = t.parts.map (PartRow.row true) := vw_full (by simp)
  have q1 : rowsPlain (ss.map Slot.row) = true := rowsPlain_map (fun _ => rfl) _
  have q2 : rowsPlain (t.devs.map IntR) = true := rowsPlain_map (fun _ => rfl) _
  have q3 : rowsPlain (t.chans.map ChanRow.row) = true := rowsPlain_map (fun _ => rfl) _
  have q4 : rowsPlain (t.parts.map (PartRow.row true)) = true := rowsPlain_map (PartRow.plain _) _
  have q5 : rowsPlain (t.parts.map (PartRow.row false)) = true := rowsPlain_map (PartRow.plain _) _
  have k1 := cloneSlot_ok ss (by omega)
  have k2 := cloneInt_ok t.devs f2
  have k3 := cloneChan_ok t.chans f3
  have k4 := clonePart_ok b t.parts f1
  have hloop := fill_loop (S := LL 83) (b := b53_0) (n := t.parts.length) (fun k X => ⟨[(1, .list 3 (ss.map Slot.row)), (2, .ptr 2000 0 0), (4, .ptr 4000 0 0), (5, .sl 5 500050 0 t.parts.length), (11, .sl 5 500050 0 t.parts.length), (12, .int .i64 (t.parts.length : Int)), (13, .int .i64 (k : Int))], [(2000, some [t.row b]), (4000, some [zero19]), (500050, some X)]⟩) (t.parts.map (PartRow.row false)) (t.parts.map (PartRow.row true)) (by simp) (by simp) q5 q4 (fun k hk X r hX hg hr hp hp' => by
    have hx : t.parts[k]? = some t.parts[k] := by simp [hk]
    rw [List.getElem?_map, hx] at hr hg
    obtain rfl := Option.some.inj hr
    obtain ⟨p1, p2⟩ := fp _ (List.getElem_mem hk)
    generalize t.parts[k] = p at *
    have hkX : k < X.length := by omega
    have hw : IntKind.i64.wrap ((k : Int) + 1) = ((k + 1 : Nat) : Int) := wrap_succ (by omega)
    have kw := cloneWindow_ok p.windows p2
    have pw : rowsPlain (p.windows.map Window.row) = true := rowsPlain_map (fun _ => rfl) _
    have vw1 : vw (p.windows.map Window.row) 0 p.windows.length = p.windows.map Window.row := vw_full (by simp)
    simp only [Option.map_some, PartRow.row, cell] at hp' hg
    simp only [b53_0, ex0, ex1, ex2, ex3, ex4, ex5, ex6, ex7, ex8, Nat.reduceAdd, Nat.reduceMul, Nat.reduceSub, Nat.reduceDiv, Nat.reduceEqDiff, Nat.reduceLT, Nat.reduceGT, Nat.reduceLeDiff, reduceIte, reduceCtorEq, Tables.row, Tables.cells, zero19, hX, Int.ofNat_lt, hk, hw, hg, hkX, PartRow.row, cell, l105, kw, pw, vw1, hp', List.length_map, List.length_set, List.getElem?_set_self hkX, List.set_set])
  have hfin := hloop.trans (kLoop_exit (i := 0) (s' := ⟨[(14, .bool false), (1, .list 3 (ss.map Slot.row)), (2, .ptr 2000 0 0), (4, .ptr 4000 0 0), (5, .sl 5 500050 0 t.parts.length), (11, .sl 5 500050 0 t.parts.length), (12, .int .i64 (t.parts.length : Int)), (13, .int .i64 (t.parts.length : Int))], [(2000, some [t.row b]), (4000, some [zero19]), (500050, some (t.parts.map (PartRow.row true)))]⟩) (by
    simp only [b53_0, ex0, ex1, ex2, ex3, ex4, ex5, ex6, ex7, ex8, Nat.reduceAdd, Nat.reduceMul, Nat.reduceSub, Nat.reduceDiv, Nat.reduceEqDiff, Nat.reduceLT, Nat.reduceGT, Nat.reduceLeDiff, reduceIte, reduceCtorEq, Int.lt_irrefl]))
  rw [show ((0 : Nat) : Int) = 0 from rfl] at hfin
  simp only [Tables.row, Tables.cells, zero19] at hfin
  rw [e53]
  simp only [c53, runF_eq, ex0, ex1, ex2, ex3, ex4, ex5, ex6, ex7, ex8, Nat.reduceAdd, Nat.reduceMul, Nat.reduceSub, Nat.reduceDiv, Nat.reduceEqDiff, Nat.reduceLT, Nat.reduceGT, Nat.reduceLeDiff, reduceIte, reduceCtorEq, Tables.row, Tables.own, Tables.cells, List.length_map, l81, k1, l106, k2, l107, k3, l104, k4, hv1, hv2, hv3, hv4, q1, q2, q3, q4, q5, hfin]
theorem pureR_map {α : Type} {f : α → Row} (h : ∀ x, pureC (f x) = true) : ∀ xs : List α, pureR (xs.map f) = true
  | [] => by simp [pureR]
  | x :: r => by simp [pureR, h x, pureR_map h r]
theorem pure_slots (xs : List Slot) : pureR (xs.map Slot.row) = true := pureR_map (fun _ => by simp [Slot.row, pureC, LV.pure]) xs
theorem pure_windows (xs : List Window) : pureR (xs.map Window.row) = true := pureR_map (fun _ => by simp [Window.row, pureC, LV.pure]) xs
theorem pure_ints (xs : List Int) : pureR (xs.map IntR) = true := pureR_map (fun _ => by simp [IntR, pureC, LV.pure]) xs
theorem pure_chans (xs : List ChanRow) : pureR (xs.map ChanRow.row) = true := pureR_map (fun _ => by simp [ChanRow.row, pureC, LV.pure]) xs
theorem pure_parts (xs : List PartRow) : pureR (xs.map (PartRow.row true)) = true := pureR_map (fun p => by simp [PartRow.row, cell, pureC, LV.pure, pure_windows]) xs
/-! Plan. -/
def needStep (t : Tables) (k : Nat) (s : List Slot × Int) (n : Int) : List Slot × Int := if 0 < n then (s.1 ++ [⟨k, s.2, t.pad + t.guard + n⟩], s.2 + (t.pad + t.guard + n)) else s
def planEnd (t : Tables) (needs : List Int) : List Slot × Int := foldK (needStep t) 0 ([], 0) needs
def planOk (t : Tables) (needs : List Int) : Bool := soundOk t && (decide (needs.length = t.parts.length) && (needs.all (fun n => inB n 0 5000) && (!(decide ((planEnd t needs).1 = [])) && decide ((planEnd t needs).2 ≤ t.major))))
def zeroT : Tables := ⟨0, ⟨0, 0, 0⟩, 0, ⟨0, 0, 0, 0, 0, 0, 0⟩, 0, 0, 0, [], [], [], []⟩
def planT (t : Tables) (needs : List Int) : Tables := if planOk t needs then { t with slots := (planEnd t needs).1 } else zeroT
theorem sound_len {t : Tables} (h : soundOk t = true) : 1 ≤ t.parts.length ∧ t.parts.length ≤ 6 ∧ (1 ≤ t.pad ∧ t.pad ≤ 5000) ∧ (1 ≤ t.guard ∧ t.guard ≤ 5000) := by
  simp only [soundOk, partsOk, Bool.and_eq_true, inB_iff] at h
  have := headOk_iff.1 h.1
  omega
theorem foldO_cond {α σ : Type} (c : α → Bool) (f : Nat → σ → α → σ) : ∀ (xs : List α) (k : Nat) (s : σ), foldO (fun k s x => if c x then some (f k s x) else none) k s xs = if xs.all c then some (foldK f k s xs) else none
  | [], k, s => by simp [foldO, foldK]
  | x :: r, k, s => by
    simp only [foldO, foldK, List.all_cons]
    by_cases hc : c x = true
    · simp [hc, foldO_cond c f r]
    · simp [hc]
theorem zeroT_own : zeroT.own = [.int .i64 0, .int .i64 0, .int .i64 0, .int .i64 0, .int .i64 0, .int .i64 0, .int .i64 0, .int .i64 0, .int .i64 0, .int .i64 0, .int .i64 0, .int .i64 0, .int .i64 0, .int .i64 0, .int .i64 0, .arr 5 [], .arr 1 [], .arr 4 [], .arr 3 []] := rfl
theorem needStep_bd {t : Tables} {k : Nat} {s : List Slot × Int} {n : Int} (h : soundOk t = true) (hn : inB n 0 5000 = true) (hs : s.1.length ≤ k ∧ 0 ≤ s.2 ∧ s.2 ≤ 20000 * k) : (needStep t k s n).1.length ≤ k + 1 ∧ 0 ≤ (needStep t k s n).2 ∧ (needStep t k s n).2 ≤ 20000 * ((k + 1 : Nat) : Int) := by
  obtain ⟨h1, h2, h3, h4⟩ := sound_len h
  rw [inB_iff] at hn
  unfold needStep
  split
  · refine ⟨by simp; omega, ?_, ?_⟩ <;> simp only <;> omega
  · omega
set_option maxHeartbeats 4000000 in
theorem specPlan_ok (b : Bool) (t : Tables) (needs : List Int) (hf : t.fit) (hl : needs.length ≤ 1000000000) : L 10 [.agg (t.row b), .list 1 (needs.map IntR)] [] = some ([.agg (planT t needs).own, .bool (planOk t needs)], []) := by
  have hso := Sound_ok b t hf
  have hcp := fun ss hs => l23Copy_ok b t ss hf hs
  simp only [Tables.row, Tables.cells] at hso hcp
  have hpl := hf.parts
  rw [e10]
  cases g1 : soundOk t with
  | false =>
    rw [g1] at hso
    have hp : planOk t needs = false := by simp only [planOk, g1, Bool.false_and]
    simp only [c10, runF_eq, ex0, ex1, ex2, ex3, ex4, ex5, ex6, ex7, ex8, Nat.reduceAdd, Nat.reduceMul, Nat.reduceSub, Nat.reduceDiv, Nat.reduceEqDiff, Nat.reduceLT, Nat.reduceGT, Nat.reduceLeDiff, reduceIte, reduceCtorEq, Tables.row, Tables.cells, List.length_map, l41, hso, planT, hp, zeroT_own, if_false, Bool.false_eq_true]
  | true =>
  rw [g1] at hso
  by_cases g2 : needs.length = t.parts.length
  case neg =>
    have g2' : ¬ ((needs.length : Int) = t.parts.length) := by omega
    have hp : planOk t needs = false := by simp only [planOk, g2, decide_false, Bool.false_and, Bool.and_false]
    simp only [c10, runF_eq, ex0, ex1, ex2, ex3, ex4, ex5, ex6, ex7, ex8, Nat.reduceAdd, Nat.reduceMul, Nat.reduceSub, Nat.reduceDiv, Nat.reduceEqDiff, Nat.reduceLT, Nat.reduceGT, Nat.reduceLeDiff, reduceIte, reduceCtorEq, Tables.row, Tables.cells, List.length_map, l41, hso, g2', planT, hp, zeroT_own, if_false, Bool.false_eq_true]
  have g2' : (needs.length : Int) = t.parts.length := by omega
  obtain ⟨m1, m2, m3, m4⟩ := sound_len g1
  have hlp := foldO_loopQ (S := LL 53) (b := b10_0) needs (fun k s n => if inB n 0 5000 then some (needStep t k s n) else none)
    (fun k s => ⟨[(1, .list 1 (needs.map IntR)), (2, .ptr 2000 0 0), (4, .ptr 4000 0 0), (6, .sl 3 500060 0 s.1.length), (7, .int .i64 s.2), (8, .int .i64 (k : Int))], [(2000, some [t.row b]), (4000, some [zero19]), (500060, some (s.1.map Slot.row))]⟩)
    (fun e => ∃ H, e = (.ret, ⟨[(4, .ptr 4000 0 0), (5, .bool false)], (4000, some [zero19]) :: H⟩))
    (fun s => (.exit 0, ⟨[(26, .bool false), (25, .int .i64 (needs.length : Int)), (24, .list 1 (needs.map IntR)), (23, .int .i64 (needs.length : Int)), (1, .list 1 (needs.map IntR)), (2, .ptr 2000 0 0), (4, .ptr 4000 0 0), (6, .sl 3 500060 0 s.1.length), (7, .int .i64 s.2), (8, .int .i64 (needs.length : Int))], [(2000, some [t.row b]), (4000, some [zero19]), (500060, some (s.1.map Slot.row))]⟩))
    (fun k s => s.1.length ≤ k ∧ 0 ≤ s.2 ∧ s.2 ≤ 20000 * k) (fun k n s hx hs => by
      have hk : k < needs.length := (List.getElem?_eq_some_iff.1 hx).1
      have hw : IntKind.i64.wrap ((k : Int) + 1) = ((k + 1 : Nat) : Int) := wrap_succ (by omega)
      have qs : rowsPlain (s.1.map Slot.row) = true := rowsPlain_map (fun _ => rfl) _
      have vs : vw (s.1.map Slot.row) 0 s.1.length = s.1.map Slot.row := vw_full (by simp)
      cases hin : inB n 0 5000 with
      | false =>
        simp only [b10_0, ex0, ex1, ex2, ex3, ex4, ex5, ex6, ex7, ex8, Nat.reduceAdd, Nat.reduceMul, Nat.reduceSub, Nat.reduceDiv, Nat.reduceEqDiff, Nat.reduceLT, Nat.reduceGT, Nat.reduceLeDiff, reduceIte, reduceCtorEq, Tables.row, Tables.cells, zero19, List.length_map, List.getElem?_map, hx, Int.ofNat_lt, hk, hw, IntR, l42, l01In_ok, hin, if_false, Bool.false_eq_true]
        exact ⟨_, rfl, by simp, _, rfl⟩
      | true =>
        have hbd := needStep_bd (k := k) (s := s) g1 hin hs
        have hin' := inB_iff.1 hin
        simp only [if_true]
        refine ⟨?_, hbd⟩
        by_cases hn : 0 < n
        · have hst : needStep t k s n = (s.1 ++ [⟨k, s.2, t.pad + t.guard + n⟩], s.2 + (t.pad + t.guard + n)) := by rw [needStep, if_pos hn]
          have w1 : IntKind.i64.wrap (t.pad + t.guard) = t.pad + t.guard := wrap_eq (by omega) (by omega)
          have w2 : IntKind.i64.wrap (t.pad + t.guard + n) = t.pad + t.guard + n := wrap_eq (by omega) (by omega)
          have w3 : IntKind.i64.wrap (s.2 + (t.pad + t.guard + n)) = s.2 + (t.pad + t.guard + n) := wrap_eq (by omega) (by omega)
          have hp1 : rowsPlain (s.1.map Slot.row ++ [[.int .i64 k, .int .i64 s.2, .int .i64 (t.pad + t.guard + n)]]) = true := by
            have : s.1.map Slot.row ++ [[.int .i64 k, .int .i64 s.2, .int .i64 (t.pad + t.guard + n)]] = (s.1 ++ [Slot.mk k s.2 (t.pad + t.guard + n)]).map Slot.row := by simp [Slot.row]
            rw [this]
            exact rowsPlain_map (fun _ => rfl) _
          have hc : (s.1.length + 1) * 24 ≤ 140737488355328 := by omega
          simp only [hst, b10_0, ex0, ex1, ex2, ex3, ex4, ex5, ex6, ex7, ex8, Nat.reduceAdd, Nat.reduceMul, Nat.reduceSub, Nat.reduceDiv, Nat.reduceEqDiff, Nat.reduceLT, Nat.reduceGT, Nat.reduceLeDiff, reduceIte, reduceCtorEq, Tables.row, Tables.cells, zero19, List.length_map, List.getElem?_map, hx, Int.ofNat_lt, hk, hw, IntR, Slot.row, l42, l01In_ok, hin, hn, w1, w2, w3, hp1, hc, vs, qs, Nat.zero_add, List.length_append, List.length_cons, List.length_nil, List.map_append, List.map_cons, List.map_nil]
        · have hst : needStep t k s n = s := by rw [needStep, if_neg hn]
          simp only [hst, b10_0, ex0, ex1, ex2, ex3, ex4, ex5, ex6, ex7, ex8, Nat.reduceAdd, Nat.reduceMul, Nat.reduceSub, Nat.reduceDiv, Nat.reduceEqDiff, Nat.reduceLT, Nat.reduceGT, Nat.reduceLeDiff, reduceIte, reduceCtorEq, Tables.row, Tables.cells, zero19, List.length_map, List.getElem?_map, hx, Int.ofNat_lt, hk, hw, IntR, l42, l01In_ok, hin, hn, qs]) (fun s _ => by
      simp only [b10_0, ex0, ex1, ex2, ex3, ex4, ex5, ex6, ex7, ex8, Nat.reduceAdd, Nat.reduceMul, Nat.reduceSub, Nat.reduceDiv, Nat.reduceEqDiff, Nat.reduceLT, Nat.reduceGT, Nat.reduceLeDiff, reduceIte, reduceCtorEq, List.length_map, Int.lt_irrefl]) needs 0 ([], 0) rfl (Nat.zero_le _) ⟨Nat.le_refl _, by simp, by simp⟩
  rw [foldO_cond, show ((0 : Nat) : Int) = 0 from rfl] at hlp
  simp only [Tables.row, Tables.cells, zero19, List.map_nil, List.length_nil] at hlp
  cases g3 : needs.all (fun n => inB n 0 5000) with
  | false =>
    rw [g3] at hlp
    obtain ⟨e, hlp, H, rfl⟩ := hlp
    have hp : planOk t needs = false := by simp only [planOk, g3, Bool.false_and, Bool.and_false]
    simp only [c10, runF_eq, ex0, ex1, ex2, ex3, ex4, ex5, ex6, ex7, ex8, Nat.reduceAdd, Nat.reduceMul, Nat.reduceSub, Nat.reduceDiv, Nat.reduceEqDiff, Nat.reduceLT, Nat.reduceGT, Nat.reduceLeDiff, reduceIte, reduceCtorEq, Tables.row, Tables.cells, List.length_map, l41, hso, g2', hlp, planT, hp, zeroT_own, if_false, Bool.false_eq_true]
  | true =>
    rw [g3] at hlp
    simp only [if_true] at hlp
    obtain ⟨⟨b1, b2, b3⟩, hlp⟩ := hlp
    have he : foldK (needStep t) 0 ([], 0) needs = planEnd t needs := rfl
    rw [he] at b1 b2 b3 hlp
    generalize hE : planEnd t needs = E at *
    obtain ⟨ss, at'⟩ := E
    have qs : rowsPlain (ss.map Slot.row) = true := rowsPlain_map (fun _ => rfl) _
    have vs : vw (ss.map Slot.row) 0 ss.length = ss.map Slot.row := vw_full (by simp)
    simp only at b1 b2 b3 hlp
    by_cases g4 : ss = []
    · have hp : planOk t needs = false := by simp only [planOk, hE, g4, decide_true, Bool.not_true, Bool.false_and, Bool.and_false]
      have g4' : (ss.length : Int) = 0 := by rw [g4]; rfl
      simp only [c10, runF_eq, ex0, ex1, ex2, ex3, ex4, ex5, ex6, ex7, ex8, Nat.reduceAdd, Nat.reduceMul, Nat.reduceSub, Nat.reduceDiv, Nat.reduceEqDiff, Nat.reduceLT, Nat.reduceGT, Nat.reduceLeDiff, reduceIte, reduceCtorEq, Tables.row, Tables.cells, List.length_map, l41, hso, g2', hlp, g4', planT, hp, zeroT_own, if_false, Bool.false_eq_true]
    · have g4' : ¬ (ss.length : Int) = 0 := fun h => g4 (List.eq_nil_of_length_eq_zero (by omega))
      by_cases g5 : t.major < at'
      · have g5' : decide (at' ≤ t.major) = false := by simp; omega
        have hp : planOk t needs = false := by simp only [planOk, hE, g5', Bool.and_false]
        simp only [c10, runF_eq, ex0, ex1, ex2, ex3, ex4, ex5, ex6, ex7, ex8, Nat.reduceAdd, Nat.reduceMul, Nat.reduceSub, Nat.reduceDiv, Nat.reduceEqDiff, Nat.reduceLT, Nat.reduceGT, Nat.reduceLeDiff, reduceIte, reduceCtorEq, Tables.row, Tables.cells, List.length_map, l41, hso, g2', hlp, g4', g5, planT, hp, zeroT_own, if_false, Bool.false_eq_true]
      · have g5' : decide (at' ≤ t.major) = true := by simp; omega
        have hp : planOk t needs = true := by simp only [planOk, hE, g1, g2, g3, g4, g5', decide_true, decide_false, Bool.not_false, Bool.and_self]
        have hcp := hcp ss (by omega)
        simp only [Tables.own, Tables.cells] at hcp
        have hv2 : vw (t.devs.map IntR) 0 t.devs.length = t.devs.map IntR := vw_full (by simp)
        have hv3 : vw (t.chans.map ChanRow.row) 0 t.chans.length = t.chans.map ChanRow.row := vw_full (by simp)
        have hv4 : vw (t.parts.map (PartRow.row true)) 0 t.parts.length = t.parts.map (PartRow.row true) := vw_full (by simp)
        have q2 : rowsPlain (t.devs.map IntR) = true := rowsPlain_map (fun _ => rfl) _
        have q3 : rowsPlain (t.chans.map ChanRow.row) = true := rowsPlain_map (fun _ => rfl) _
        have q4 : rowsPlain (t.parts.map (PartRow.row true)) = true := rowsPlain_map (PartRow.plain _) _
        simp only [c10, runF_eq, ex0, ex1, ex2, ex3, ex4, ex5, ex6, ex7, ex8, Nat.reduceAdd, Nat.reduceMul, Nat.reduceSub, Nat.reduceDiv, Nat.reduceEqDiff, Nat.reduceLT, Nat.reduceGT, Nat.reduceLeDiff, reduceIte, reduceCtorEq, Tables.row, Tables.own, Tables.cells, List.length_map, l41, hso, g2', hlp, g4', g5, vs, qs, l43, hcp, hv2, hv3, hv4, q2, q3, q4, pure_slots, pure_ints, pure_chans, pure_parts, Bool.and_self, planT, hp, hE, if_true]
theorem Plan1_ok (n : Int) : L 51 [.int .i64 n] [] = some ([.bool (!(inB n 0 5000))], []) := by
  rw [e51]
  simp only [c51, runF_eq, ex0, ex1, ex2, ex3, ex4, ex5, ex6, ex7, ex8, Nat.reduceAdd, Nat.reduceMul, Nat.reduceSub, Nat.reduceDiv, Nat.reduceEqDiff, Nat.reduceLT, Nat.reduceGT, Nat.reduceLeDiff, reduceIte, reduceCtorEq, l52, within_ok]
set_option maxHeartbeats 4000000 in
theorem implPlan_ok (b : Bool) (t : Tables) (needs : List Int) (hf : t.fit) (hl : needs.length ≤ 1000000000) : L 13 [.agg (t.row b), .list 1 (needs.map IntR)] [] = some ([.agg (planT t needs).own, .bool (planOk t needs)], []) := by
  have hso := isSound_same b t hf
  have hcp := fun ss hs => withSlots_ok b t ss hf hs
  simp only [Tables.row, Tables.cells] at hso hcp
  have hpl := hf.parts
  rw [e13]
  cases g1 : soundOk t with
  | false =>
    rw [g1] at hso
    have hp : planOk t needs = false := by simp only [planOk, g1, Bool.false_and]
    simp only [c13, runF_eq, ex0, ex1, ex2, ex3, ex4, ex5, ex6, ex7, ex8, Nat.reduceAdd, Nat.reduceMul, Nat.reduceSub, Nat.reduceDiv, Nat.reduceEqDiff, Nat.reduceLT, Nat.reduceGT, Nat.reduceLeDiff, reduceIte, reduceCtorEq, Tables.row, Tables.cells, List.length_map, l49, hso, planT, hp, zeroT_own, if_false, Bool.false_eq_true]
  | true =>
  rw [g1] at hso
  by_cases g2 : needs.length = t.parts.length
  case neg =>
    have g2' : ¬ ((needs.length : Int) = t.parts.length) := by omega
    have hp : planOk t needs = false := by simp only [planOk, g2, decide_false, Bool.false_and, Bool.and_false]
    simp only [c13, runF_eq, ex0, ex1, ex2, ex3, ex4, ex5, ex6, ex7, ex8, Nat.reduceAdd, Nat.reduceMul, Nat.reduceSub, Nat.reduceDiv, Nat.reduceEqDiff, Nat.reduceLT, Nat.reduceGT, Nat.reduceLeDiff, reduceIte, reduceCtorEq, Tables.row, Tables.cells, List.length_map, l49, hso, g2', planT, hp, zeroT_own, if_false, Bool.false_eq_true]
  have g2' : (needs.length : Int) = t.parts.length := by omega
  obtain ⟨m1, m2, m3, m4⟩ := sound_len g1
  have hcf := ContainsFuncI_ok needs 51 [] (.inl rfl) (fun n => !(inB n 0 5000)) (by omega) (fun n _ => by
    rw [l51 (by decide)]
    exact Plan1_ok n)
  rw [any_not] at hcf
  cases g3 : needs.all (fun n => inB n 0 5000) with
  | false =>
    rw [g3] at hcf
    have hp : planOk t needs = false := by simp only [planOk, g3, Bool.false_and, Bool.and_false]
    simp only [c13, runF_eq, ex0, ex1, ex2, ex3, ex4, ex5, ex6, ex7, ex8, Nat.reduceAdd, Nat.reduceMul, Nat.reduceSub, Nat.reduceDiv, Nat.reduceEqDiff, Nat.reduceLT, Nat.reduceGT, Nat.reduceLeDiff, reduceIte, reduceCtorEq, ren0_pimm, frzCell_int, frzCell_str, frzCell_bool, Tables.row, Tables.cells, List.length_map, l49, hso, g2', l50, hcf, planT, hp, zeroT_own, if_false, Bool.false_eq_true]
  | true =>
    rw [g3] at hcf
    have hlp := fold_loop (S := LL 84) (b := b13_0) needs (needStep t)
      (fun k s => ⟨[(2, .ptr 2000 0 0), (4, .ptr 4000 0 0), (6, .sl 3 500060 0 s.1.length), (7, .int .i64 s.2), (27, .list 1 (needs.map IntR)), (28, .int .i64 (needs.length : Int)), (29, .int .i64 (k : Int))], [(2000, some [t.row b]), (4000, some [zero19]), (500060, some (s.1.map Slot.row))]⟩) 0
      (fun s => ⟨[(30, .bool false), (2, .ptr 2000 0 0), (4, .ptr 4000 0 0), (6, .sl 3 500060 0 s.1.length), (7, .int .i64 s.2), (27, .list 1 (needs.map IntR)), (28, .int .i64 (needs.length : Int)), (29, .int .i64 (needs.length : Int))], [(2000, some [t.row b]), (4000, some [zero19]), (500060, some (s.1.map Slot.row))]⟩)
      (fun k s => s.1.length ≤ k ∧ 0 ≤ s.2 ∧ s.2 ≤ 20000 * k) (fun k n s hx hs => by
        have hk : k < needs.length := (List.getElem?_eq_some_iff.1 hx).1
        have hw : IntKind.i64.wrap ((k : Int) + 1) = ((k + 1 : Nat) : Int) := wrap_succ (by omega)
        have qs : rowsPlain (s.1.map Slot.row) = true := rowsPlain_map (fun _ => rfl) _
        have vs : vw (s.1.map Slot.row) 0 s.1.length = s.1.map Slot.row := vw_full (by simp)
        have hin : inB n 0 5000 = true := List.all_eq_true.1 g3 n (List.mem_of_getElem? hx)
        have hbd := needStep_bd (k := k) (s := s) g1 hin hs
        have hin' := inB_iff.1 hin
        refine ⟨?_, hbd⟩
        by_cases hn : 0 < n
        · have hst : needStep t k s n = (s.1 ++ [⟨k, s.2, t.pad + t.guard + n⟩], s.2 + (t.pad + t.guard + n)) := by rw [needStep, if_pos hn]
          have w1 : IntKind.i64.wrap (t.pad + t.guard) = t.pad + t.guard := wrap_eq (by omega) (by omega)
          have w2 : IntKind.i64.wrap (t.pad + t.guard + n) = t.pad + t.guard + n := wrap_eq (by omega) (by omega)
          have w3 : IntKind.i64.wrap (s.2 + (t.pad + t.guard + n)) = s.2 + (t.pad + t.guard + n) := wrap_eq (by omega) (by omega)
          have hp1 : rowsPlain (s.1.map Slot.row ++ [[.int .i64 k, .int .i64 s.2, .int .i64 (t.pad + t.guard + n)]]) = true := by
            have : s.1.map Slot.row ++ [[.int .i64 k, .int .i64 s.2, .int .i64 (t.pad + t.guard + n)]] = (s.1 ++ [Slot.mk k s.2 (t.pad + t.guard + n)]).map Slot.row := by simp [Slot.row]
            rw [this]
            exact rowsPlain_map (fun _ => rfl) _
          have hc : (s.1.length + 1) * 24 ≤ 140737488355328 := by omega
          simp only [hst, b13_0, ex0, ex1, ex2, ex3, ex4, ex5, ex6, ex7, ex8, Nat.reduceAdd, Nat.reduceMul, Nat.reduceSub, Nat.reduceDiv, Nat.reduceEqDiff, Nat.reduceLT, Nat.reduceGT, Nat.reduceLeDiff, reduceIte, reduceCtorEq, Tables.row, Tables.cells, zero19, List.length_map, List.getElem?_map, hx, Int.ofNat_lt, hk, hw, IntR, Slot.row, hn, w1, w2, w3, hp1, hc, vs, qs, Nat.zero_add, List.length_append, List.length_cons, List.length_nil, List.map_append, List.map_cons, List.map_nil]
        · have hst : needStep t k s n = s := by rw [needStep, if_neg hn]
          simp only [hst, b13_0, ex0, ex1, ex2, ex3, ex4, ex5, ex6, ex7, ex8, Nat.reduceAdd, Nat.reduceMul, Nat.reduceSub, Nat.reduceDiv, Nat.reduceEqDiff, Nat.reduceLT, Nat.reduceGT, Nat.reduceLeDiff, reduceIte, reduceCtorEq, Tables.row, Tables.cells, zero19, List.length_map, List.getElem?_map, hx, Int.ofNat_lt, hk, hw, IntR, hn, qs]) (fun s _ => by
        simp only [b13_0, ex0, ex1, ex2, ex3, ex4, ex5, ex6, ex7, ex8, Nat.reduceAdd, Nat.reduceMul, Nat.reduceSub, Nat.reduceDiv, Nat.reduceEqDiff, Nat.reduceLT, Nat.reduceGT, Nat.reduceLeDiff, reduceIte, reduceCtorEq, List.length_map, Int.lt_irrefl]) ([], 0) ⟨Nat.le_refl _, by simp, by simp⟩
    rw [show ((0 : Nat) : Int) = 0 from rfl] at hlp
    simp only [Tables.row, Tables.cells, zero19, List.map_nil, List.length_nil, g2'] at hlp
    obtain ⟨⟨b1, b2, b3⟩, hlp⟩ := hlp
    have he : foldK (needStep t) 0 ([], 0) needs = planEnd t needs := rfl
    rw [he] at b1 b2 b3 hlp
    generalize hE : planEnd t needs = E at *
    obtain ⟨ss, at'⟩ := E
    have qs : rowsPlain (ss.map Slot.row) = true := rowsPlain_map (fun _ => rfl) _
    have vs : vw (ss.map Slot.row) 0 ss.length = ss.map Slot.row := vw_full (by simp)
    simp only at b1 b2 b3 hlp
    by_cases g4 : ss = []
    · have hp : planOk t needs = false := by simp only [planOk, hE, g4, decide_true, Bool.not_true, Bool.false_and, Bool.and_false]
      have g4' : (ss.length : Int) = 0 := by rw [g4]; rfl
      simp only [c13, runF_eq, ex0, ex1, ex2, ex3, ex4, ex5, ex6, ex7, ex8, Nat.reduceAdd, Nat.reduceMul, Nat.reduceSub, Nat.reduceDiv, Nat.reduceEqDiff, Nat.reduceLT, Nat.reduceGT, Nat.reduceLeDiff, reduceIte, reduceCtorEq, ren0_pimm, frzCell_int, frzCell_str, frzCell_bool, Tables.row, Tables.cells, List.length_map, l49, hso, g2', l50, hcf, hlp, g4', planT, hp, zeroT_own, if_false, Bool.false_eq_true]
    · have g4' : ¬ (ss.length : Int) = 0 := fun h => g4 (List.eq_nil_of_length_eq_zero (by omega))
      by_cases g5 : t.major < at'
      · have g5' : decide (at' ≤ t.major) = false := by simp; omega
        have hp : planOk t needs = false := by simp only [planOk, hE, g5', Bool.and_false]
        simp only [c13, runF_eq, ex0, ex1, ex2, ex3, ex4, ex5, ex6, ex7, ex8, Nat.reduceAdd, Nat.reduceMul, Nat.reduceSub, Nat.reduceDiv, Nat.reduceEqDiff, Nat.reduceLT, Nat.reduceGT, Nat.reduceLeDiff, reduceIte, reduceCtorEq, ren0_pimm, frzCell_int, frzCell_str, frzCell_bool, Tables.row, Tables.cells, List.length_map, l49, hso, g2', l50, hcf, hlp, g4', g5, planT, hp, zeroT_own, if_false, Bool.false_eq_true]
      · have g5' : decide (at' ≤ t.major) = true := by simp; omega
        have hp : planOk t needs = true := by simp only [planOk, hE, g1, g2, g3, g4, g5', decide_true, decide_false, Bool.not_false, Bool.and_self]
        have hcp := hcp ss (by omega)
        simp only [Tables.own, Tables.cells] at hcp
        have hv2 : vw (t.devs.map IntR) 0 t.devs.length = t.devs.map IntR := vw_full (by simp)
        have hv3 : vw (t.chans.map ChanRow.row) 0 t.chans.length = t.chans.map ChanRow.row := vw_full (by simp)
        have hv4 : vw (t.parts.map (PartRow.row true)) 0 t.parts.length = t.parts.map (PartRow.row true) := vw_full (by simp)
        have q2 : rowsPlain (t.devs.map IntR) = true := rowsPlain_map (fun _ => rfl) _
        have q3 : rowsPlain (t.chans.map ChanRow.row) = true := rowsPlain_map (fun _ => rfl) _
        have q4 : rowsPlain (t.parts.map (PartRow.row true)) = true := rowsPlain_map (PartRow.plain _) _
        simp only [c13, runF_eq, ex0, ex1, ex2, ex3, ex4, ex5, ex6, ex7, ex8, Nat.reduceAdd, Nat.reduceMul, Nat.reduceSub, Nat.reduceDiv, Nat.reduceEqDiff, Nat.reduceLT, Nat.reduceGT, Nat.reduceLeDiff, reduceIte, reduceCtorEq, ren0_pimm, frzCell_int, frzCell_str, frzCell_bool, Tables.row, Tables.own, Tables.cells, List.length_map, l49, hso, g2', l50, hcf, hlp, g4', g5, vs, qs, l53, hcp, hv2, hv3, hv4, q2, q3, q4, pure_slots, pure_ints, pure_chans, pure_parts, Bool.and_self, planT, hp, hE, if_true]
end Go.Proofs.YtahjhlnhkoifhaaGreat.Plan
