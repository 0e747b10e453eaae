/- FnExactPlan: for all arguments the law answers true. A text of its proof: what functions of the program and of the reference answer; no conditions but those that each theorem names. -/
import Derived.Test.YtahjhlnhkoifhaaGreatSLPlan
set_option linter.unusedSimpArgs false
set_option linter.unusedVariables false
set_option maxRecDepth 100000
namespace Go.Proofs.YtahjhlnhkoifhaaGreat.Plan
open Go Go.Lev
/-! The law. -/
theorem foldK_len {t : Tables} : ∀ (ns : List Int) (k : Nat) (s : List Slot × Int), (foldK (needStep t) k s ns).1.length ≤ s.1.length + ns.length
  | [], k, s => by simp [foldK]
  | n :: r, k, s => by
    simp only [foldK]
    have h := foldK_len (t := t) r (k + 1) (needStep t k s n)
    have : (needStep t k s n).1.length ≤ s.1.length + 1 := by
      unfold needStep
      split <;> simp
    simp only [List.length_cons]
    omega
theorem cost_le (ps : List PartRow) : total PartRow.cost ps ≤ 4 * ps.length + 3 * total PartRow.sz ps := by
  induction ps with
  | nil => simp [total]
  | cons p r ih =>
    have := wtotal p.windows
    simp only [total, List.length_cons, PartRow.cost, PartRow.sz] at *
    omega
theorem planT_fit {t : Tables} {needs : List Int} (hf : t.fit) (hl : needs.length ≤ 1048576) (hz : t.sz ≤ 1048576) : (planT t needs).fit ∧ (planT t needs).cost ≤ 100000000 := by
  have hn := total_nonneg PartRow.sz_nn t.parts
  have hs : t.sz = t.parts.length + total PartRow.sz t.parts + t.devs.length + t.chans.length + t.slots.length := rfl
  unfold planT
  split
  · have h := foldK_len (t := t) needs 0 ([], 0)
    have he : foldK (needStep t) 0 ([], 0) needs = planEnd t needs := rfl
    rw [he] at h
    simp only [List.length_nil, Nat.zero_add] at h
    have hc := cost_le t.parts
    refine ⟨⟨hf.p, hf.parts, hf.devs, hf.chans, by simp only; omega⟩, ?_⟩
    simp only [Tables.cost, itotal, ctotal, stotal]
    omega
  · refine ⟨⟨by intro p hp; simp [zeroT] at hp, by simp [zeroT], by simp [zeroT], by simp [zeroT], by simp [zeroT]⟩, by decide⟩
theorem cost_sz {t : Tables} (hz : t.sz ≤ 1048576) : 0 ≤ t.cost ∧ t.cost ≤ 100000000 := by
  have hn := total_nonneg PartRow.sz_nn t.parts
  have hn2 := total_nonneg PartRow.cost_nn t.parts
  have hs : t.sz = t.parts.length + total PartRow.sz t.parts + t.devs.length + t.chans.length + t.slots.length := rfl
  have hc := cost_le t.parts
  simp only [Tables.cost, itotal, ctotal, stotal]
  omega
set_option maxHeartbeats 16000000 in
theorem law_ok (b : Bool) (t : Tables) (needs : List Int) (hf : t.fit) (hl : needs.length * 8 ≤ 140737488355328) : L 3 [.agg (t.row b), .list 1 (needs.map IntR)] [] = some ([.bool true], []) := by
  rw [e3]
  by_cases g0 : (1048576 : Int) < needs.length
  · simp only [c3, runF_eq, ex0, ex1, ex2, ex3, ex4, ex5, ex6, ex7, ex8, Nat.reduceAdd, Nat.reduceMul, Nat.reduceSub, Nat.reduceDiv, Nat.reduceEqDiff, Nat.reduceLT, Nat.reduceGT, Nat.reduceLeDiff, reduceIte, reduceCtorEq, Tables.row, Tables.cells, List.length_map, g0]
  have hsz := szTables_ok b t 1048576 hf (by omega) (by omega)
  simp only [Tables.row, Tables.cells] at hsz
  by_cases g1 : 1048576 - t.sz < 0
  · rw [if_pos g1] at hsz
    have e1 : (-1 : Int) < 0 := by decide
    simp only [c3, runF_eq, ex0, ex1, ex2, ex3, ex4, ex5, ex6, ex7, ex8, Nat.reduceAdd, Nat.reduceMul, Nat.reduceSub, Nat.reduceDiv, Nat.reduceEqDiff, Nat.reduceLT, Nat.reduceGT, Nat.reduceLeDiff, reduceIte, reduceCtorEq, Tables.row, Tables.cells, List.length_map, g0, l9, hsz, e1]
  rw [if_neg g1] at hsz
  obtain ⟨pf, pc⟩ := planT_fit (needs := needs) hf (by omega) (by omega)
  obtain ⟨tc0, tc⟩ := cost_sz (t := t) (by omega)
  have pc0 : 0 ≤ (planT t needs).cost := by
    have := total_nonneg PartRow.cost_nn (planT t needs).parts
    simp only [Tables.cost, itotal, ctotal, stotal]
    omega
  have h1 := toTables_ok b t hf
  have h2 := toIntS_ok needs hl
  have h3 := specPlan_ok true t needs hf (by omega)
  have h4 := implPlan_ok true t needs hf (by omega)
  generalize planOk t needs = pb at *
  have h5 := eqTables_ok true true (planT t needs) (planT t needs) pf
  have h6 := eqTables_ok true true t t hf
  have h7 := eqIntS_ok needs needs (by omega)
  have h8 := markTables_ok t 1 hf (by omega) (by omega)
  have h9 := markIntS_ok needs (1 + t.cost) (by omega) (by omega) (by rw [itotal]; omega)
  have ha := markTables_ok (planT t needs) 1 pf (by omega) (by omega)
  have hb := heldTables_ok true (planT t needs) 1 pf (by omega) (by omega)
  have k1 : ¬ 1 + t.cost + total costInt needs < 0 := by rw [itotal]; omega
  have k2 : ¬ 1 + (planT t needs).cost < 0 := by omega
  generalize planT t needs = P at *
  rw [decide_eq_true rfl] at h5 h6 h7
  simp only [Tables.row, Tables.own, Tables.cells, Tables.mk'] at h1 h3 h4 h5 h6 h8 ha hb
  have a1 : rowsPlain (t.parts.map (PartRow.row true)) = true := rowsPlain_map (PartRow.plain _) _
  have a2 : rowsPlain (t.devs.map IntR) = true := rowsPlain_map (fun _ => rfl) _
  have a3 : rowsPlain (t.chans.map ChanRow.row) = true := rowsPlain_map (fun _ => rfl) _
  have a4 : rowsPlain (t.slots.map Slot.row) = true := rowsPlain_map (fun _ => rfl) _
  have a5 : rowsPlain (needs.map IntR) = true := rowsPlain_map (fun _ => rfl) _
  have v1 : vw (t.parts.map (PartRow.row true)) 0 t.parts.length = t.parts.map (PartRow.row true) := vw_full (by simp)
  have v2 : vw (t.devs.map IntR) 0 t.devs.length = t.devs.map IntR := vw_full (by simp)
  have v3 : vw (t.chans.map ChanRow.row) 0 t.chans.length = t.chans.map ChanRow.row := vw_full (by simp)
  have v4 : vw (t.slots.map Slot.row) 0 t.slots.length = t.slots.map Slot.row := vw_full (by simp)
  have v5 : vw (needs.map IntR) 0 needs.length = needs.map IntR := vw_full (by simp)
  have b1 : rowsPlain (P.parts.map (PartRow.row true)) = true := rowsPlain_map (PartRow.plain _) _
  have b2 : rowsPlain (P.devs.map IntR) = true := rowsPlain_map (fun _ => rfl) _
  have b3 : rowsPlain (P.chans.map ChanRow.row) = true := rowsPlain_map (fun _ => rfl) _
  have b4 : rowsPlain (P.slots.map Slot.row) = true := rowsPlain_map (fun _ => rfl) _
  have w1 : vw (P.parts.map (PartRow.row true)) 0 P.parts.length = P.parts.map (PartRow.row true) := vw_full (by simp)
  have w2 : vw (P.devs.map IntR) 0 P.devs.length = P.devs.map IntR := vw_full (by simp)
  have w3 : vw (P.chans.map ChanRow.row) 0 P.chans.length = P.chans.map ChanRow.row := vw_full (by simp)
  have w4 : vw (P.slots.map Slot.row) 0 P.slots.length = P.slots.map Slot.row := vw_full (by simp)
  have f1 : ∀ k, vw ((marks PartRow.cost PartRow.mk' P.parts k).map (PartRow.row true)) 0 P.parts.length = (marks PartRow.cost PartRow.mk' P.parts k).map (PartRow.row true) := fun k => vw_full (by simp [marks_length])
  have f2 : ∀ k, vw ((marks costInt mkInt P.devs k).map IntR) 0 P.devs.length = (marks costInt mkInt P.devs k).map IntR := fun k => vw_full (by simp [marks_length])
  have f3 : ∀ k, vw ((marks ChanRow.cost ChanRow.mk' P.chans k).map ChanRow.row) 0 P.chans.length = (marks ChanRow.cost ChanRow.mk' P.chans k).map ChanRow.row := fun k => vw_full (by simp [marks_length])
  have f4 : ∀ k, vw ((marks Slot.cost Slot.mk' P.slots k).map Slot.row) 0 P.slots.length = (marks Slot.cost Slot.mk' P.slots k).map Slot.row := fun k => vw_full (by simp [marks_length])
  have m1 : ∀ k, rowsPlain ((marks PartRow.cost PartRow.mk' P.parts k).map (PartRow.row true)) = true := fun k => rowsPlain_map (PartRow.plain _) _
  have m2 : ∀ k, rowsPlain ((marks costInt mkInt P.devs k).map IntR) = true := fun k => rowsPlain_map (fun _ => rfl) _
  have m3 : ∀ k, rowsPlain ((marks ChanRow.cost ChanRow.mk' P.chans k).map ChanRow.row) = true := fun k => rowsPlain_map (fun _ => rfl) _
  have m4 : ∀ k, rowsPlain ((marks Slot.cost Slot.mk' P.slots k).map Slot.row) = true := fun k => rowsPlain_map (fun _ => rfl) _
  cases pb <;>
  simp only [c3, runF_eq, ex0, ex1, ex2, ex3, ex4, ex5, ex6, ex7, ex8, Nat.reduceAdd, Nat.reduceMul, Nat.reduceSub, Nat.reduceDiv, Nat.reduceEqDiff, Nat.reduceLT, Nat.reduceGT, Nat.reduceLeDiff, reduceIte, reduceCtorEq, Tables.row, Tables.cells, List.length_map, marks_length, g0, g1, l9, hsz, l11, h1, l12, h2, l10, h3, l13, h4, l14, h5, h6, l15, h7, l16, h8, l17, h9, ha, l18, hb, k1, k2, a1, a2, a3, a4, a5, v1, v2, v3, v4, v5, b1, b2, b3, b4, w1, w2, w3, w4, f1, f2, f3, f4, m1, m2, m3, m4, pure_slots, pure_ints, pure_chans, pure_parts, Bool.and_self]
  all_goals rfl
end Go.Proofs.YtahjhlnhkoifhaaGreat.Plan
