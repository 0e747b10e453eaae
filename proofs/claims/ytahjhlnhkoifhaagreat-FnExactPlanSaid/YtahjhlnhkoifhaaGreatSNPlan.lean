/- FnExactPlan: for all arguments the law answers true. A text of its proof: what functions of the program and of the reference answer; no conditions but those that each theorem names. -/
import Derived.Test.YtahjhlnhkoifhaaGreatSMPlan
import Derived.Test.YtahjhlnhkoifhaaGreatZW
set_option linter.unusedSimpArgs false
set_option linter.unusedVariables false
set_option maxRecDepth 100000
namespace Go.Proofs.YtahjhlnhkoifhaaGreat.Plan
open Go Go.Lev
/-! What stands in the law's arguments. -/
theorem rows_of {α : Type} {f : α → Row} {Q : α → Prop} : ∀ {xs : Lev.Rows}, (∀ r, r ∈ xs → ∃ a, r = f a ∧ Q a) → ∃ ws : List α, xs = ws.map f ∧ ∀ a ∈ ws, Q a
  | [], _ => ⟨[], rfl, by simp⟩
  | r :: xs, h => by
    obtain ⟨a, rfl, ha⟩ := h r (by simp)
    obtain ⟨ws, rfl, hw⟩ := rows_of (f := f) (Q := Q) (xs := xs) (fun r hr => h r (by simp [hr]))
    refine ⟨a :: ws, rfl, fun x hx => ?_⟩
    rcases List.mem_cons.1 hx with rfl | hx
    · exact ha
    · exact hw x hx
def shWin : Sh := .sl 3 24 [.int .i64, .int .i64, .int .i64]
def shInts : Sh := .sl 1 8 [.int .i64]
def shTables : List Sh := [.int .i64, .int .i64, .int .i64, .int .i64, .int .i64, .int .i64, .int .i64, .int .i64, .int .i64, .int .i64, .int .i64, .int .i64, .int .i64, .int .i64, .int .i64,
  .sl 5 64 [.str, .int .i64, .int .i64, .int .i64, shWin], shInts, .sl 4 32 [.int .i64, .int .i64, .int .i64, .int .i64], .sl 3 24 [.int .i64, .int .i64, .int .i64]]
theorem reach : reachBytes ≤ 140737488355328 := by decide
theorem int_of {r : Row} (h : ShC [.int .i64] r) : ∃ a : Int, r = IntR a ∧ True := by
  simp only [ShC, ShV] at h
  obtain ⟨c, r, rfl, ⟨n, rfl, _⟩, rfl⟩ := h
  exact ⟨n, rfl, trivial⟩
theorem win_of {r : Row} (h : ShC [.int .i64, .int .i64, .int .i64] r) : ∃ a : Window, r = Window.row a ∧ True := by
  simp only [ShC, ShV] at h
  obtain ⟨_, _, rfl, ⟨x0, rfl, _⟩, _, _, rfl, ⟨x1, rfl, _⟩, _, _, rfl, ⟨x2, rfl, _⟩, rfl⟩ := h
  exact ⟨⟨x0, x1, x2⟩, rfl, trivial⟩
theorem slot_of {r : Row} (h : ShC [.int .i64, .int .i64, .int .i64] r) : ∃ a : Slot, r = Slot.row a ∧ True := by
  simp only [ShC, ShV] at h
  obtain ⟨_, _, rfl, ⟨x0, rfl, _⟩, _, _, rfl, ⟨x1, rfl, _⟩, _, _, rfl, ⟨x2, rfl, _⟩, rfl⟩ := h
  exact ⟨⟨x0, x1, x2⟩, rfl, trivial⟩
theorem chan_of {r : Row} (h : ShC [.int .i64, .int .i64, .int .i64, .int .i64] r) : ∃ a : ChanRow, r = ChanRow.row a ∧ True := by
  simp only [ShC, ShV] at h
  obtain ⟨_, _, rfl, ⟨x0, rfl, _⟩, _, _, rfl, ⟨x1, rfl, _⟩, _, _, rfl, ⟨x2, rfl, _⟩, _, _, rfl, ⟨x3, rfl, _⟩, rfl⟩ := h
  exact ⟨⟨x0, x1, x2, x3⟩, rfl, trivial⟩
theorem list_of {α : Type} {f : α → Row} {Q : α → Prop} {es bytes : Nat} {sh : List Sh} {v : LV} (hr : ∀ r, ShC sh r → ∃ a, r = f a ∧ Q a) (h : ShV (.sl es bytes sh) v) : ∃ ws : List α, v = .list es (ws.map f) ∧ ws.length * bytes ≤ 140737488355328 ∧ ∀ a ∈ ws, Q a := by
  simp only [ShV] at h
  obtain ⟨xs, rfl, hl, h⟩ := h
  obtain ⟨ws, rfl, hq⟩ := rows_of (f := f) (Q := Q) (fun r hm => hr r (h r hm))
  have := reach
  rw [List.length_map] at hl
  exact ⟨ws, rfl, by omega, hq⟩
theorem part_of {r : Row} (h : ShC [.str, .int .i64, .int .i64, .int .i64, shWin] r) : ∃ a : PartRow, r = PartRow.row false a ∧ a.fit := by
  simp only [ShC] at h
  obtain ⟨_, _, rfl, hs, _, _, rfl, h1, _, _, rfl, h2, _, _, rfl, h3, w, _, rfl, hw, rfl⟩ := h
  simp only [ShV] at hs h1 h2 h3
  obtain ⟨s, rfl, hs⟩ := hs
  obtain ⟨x1, rfl, _⟩ := h1
  obtain ⟨x2, rfl, _⟩ := h2
  obtain ⟨x3, rfl, _⟩ := h3
  obtain ⟨ws, rfl, hl, _⟩ := list_of (f := Window.row) (Q := fun _ => True) (fun r => win_of) hw
  have := reach
  exact ⟨⟨s, x1, ⟨x2, x3⟩, ws⟩, rfl, by simp only; omega, hl⟩
theorem tables_of {cs : List LV} (h : ShC shTables cs) : ∃ t : Tables, cs = t.row false ∧ t.fit := by
  simp only [ShC, shTables] at h
  obtain ⟨_, _, rfl, g0, _, _, rfl, g1, _, _, rfl, g2, _, _, rfl, g3, _, _, rfl, g4, _, _, rfl, g5, _, _, rfl, g6, _, _, rfl, g7, _, _, rfl, g8, _, _, rfl, g9, _, _, rfl, ga, _, _, rfl, gb, _, _, rfl, gc, _, _, rfl, gd, _, _, rfl, ge, _, _, rfl, p1, _, _, rfl, p2, _, _, rfl, p3, _, _, rfl, p4, rfl⟩ := h
  simp only [ShV] at g0 g1 g2 g3 g4 g5 g6 g7 g8 g9 ga gb gc gd ge
  obtain ⟨x0, rfl, _⟩ := g0
  obtain ⟨x1, rfl, _⟩ := g1
  obtain ⟨x2, rfl, _⟩ := g2
  obtain ⟨x3, rfl, _⟩ := g3
  obtain ⟨x4, rfl, _⟩ := g4
  obtain ⟨x5, rfl, _⟩ := g5
  obtain ⟨x6, rfl, _⟩ := g6
  obtain ⟨x7, rfl, _⟩ := g7
  obtain ⟨x8, rfl, _⟩ := g8
  obtain ⟨x9, rfl, _⟩ := g9
  obtain ⟨xa, rfl, _⟩ := ga
  obtain ⟨xb, rfl, _⟩ := gb
  obtain ⟨xc, rfl, _⟩ := gc
  obtain ⟨xd, rfl, _⟩ := gd
  obtain ⟨xe, rfl, _⟩ := ge
  obtain ⟨ps, rfl, l1, q1⟩ := list_of (f := PartRow.row false) (Q := PartRow.fit) (fun r => part_of) p1
  obtain ⟨ds, rfl, l2, _⟩ := list_of (f := IntR) (Q := fun _ => True) (fun r => int_of) p2
  obtain ⟨rs, rfl, l3, _⟩ := list_of (f := ChanRow.row) (Q := fun _ => True) (fun r => chan_of) p3
  obtain ⟨ss, rfl, l4, _⟩ := list_of (f := Slot.row) (Q := fun _ => True) (fun r => slot_of) p4
  exact ⟨⟨x0, ⟨x1, x2, x3⟩, x4, ⟨x5, x6, x7, x8, x9, xa, xb⟩, xc, xd, xe, ps, ds, rs, ss⟩, rfl, ⟨q1, l1, l2, l3, l4⟩⟩
theorem law_all (xs : List LV) (h : ArgsSh [(true, shTables), (false, [shInts])] xs) : L 3 xs [] = some ([.bool true], []) := by
  simp only [ArgsSh] at h
  obtain ⟨cs, _, rfl, hc, ds, _, rfl, hd, rfl⟩ := h
  obtain ⟨t, rfl, hf⟩ := tables_of hc
  simp only [ShC] at hd
  obtain ⟨v, _, rfl, hv, rfl⟩ := hd
  obtain ⟨ns, rfl, hl, _⟩ := list_of (f := IntR) (Q := fun _ => True) (fun r => int_of) hv
  exact law_ok false t ns hf hl
end Go.Proofs.YtahjhlnhkoifhaaGreat.Plan
