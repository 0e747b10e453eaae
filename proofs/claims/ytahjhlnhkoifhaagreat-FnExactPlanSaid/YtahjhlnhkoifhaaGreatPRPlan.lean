/- FnExactPlan: for all arguments the law answers true. A text of its proof: what functions of the program and of the reference answer; no conditions but those that each theorem names. -/
import Derived.Test.YtahjhlnhkoifhaaGreatBPPlan
set_option linter.unusedSimpArgs false
set_option linter.unusedVariables false
set_option maxRecDepth 100000
namespace Go.Proofs.YtahjhlnhkoifhaaGreat.Plan
open Go Go.Lev
def cell (b : Bool) (es : Nat) (xs : Lev.Rows) : LV := match b with
  | true => .arr es xs
  | false => .list es xs
theorem ldi_cell (b : Bool) (es : Nat) (xs : Lev.Rows) : ldi (cell b es xs) = .list es xs := by cases b <;> rfl
theorem cell_t (es : Nat) (xs : Lev.Rows) : cell true es xs = .arr es xs := rfl
theorem plain_cell (b : Bool) (es : Nat) (xs : Lev.Rows) : (cell b es xs).plain = true := by cases b <;> rfl
theorem strEq_iff (a b : ByteArray) : strEq a b = decide (a = b) := by
  unfold strEq
  congr 1
  exact propext ⟨fun h => by cases a; cases b; simp_all, fun h => by rw [h]⟩

/-! A mark as a text. -/
def mt : Nat → ByteArray → ByteArray
  | 0, s => s
  | n + 1, s => mt ((n + 1) / 10) (strOf [IntKind.u8.wrap (48 + (((n + 1 : Nat) : Int) % 10))] ++ s)
  termination_by n => n
  decreasing_by omega
def mtext (k : Int) : ByteArray := ⟨#[109]⟩ ++ mt k.toNat ⟨#[]⟩
theorem strOf_one (n : Int) : (strOf [n]).size = 1 := rfl
theorem markText_loop : ∀ (n m : Nat) (s : ByteArray), n ≤ m → n + s.size ≤ 1000000000000000000 →
    kLoop (LL 98) b111_0 ⟨[(0, .int .i64 (n : Int)), (3, .str s)], []⟩ = some (.exit 0, ⟨[(7, .bool false), (6, .int .i64 0), (0, .int .i64 0), (3, .str (mt n s))], []⟩) ∧ (mt n s).size ≤ 1000000000000000000
  | 0, m, s, hm, h => by
    refine ⟨?_, by unfold mt; omega⟩
    refine kLoop_exit ?_
    simp only [b111_0, ex0, ex1, ex2, ex3, ex4, ex5, ex6, ex7, ex8, Nat.reduceAdd, Nat.reduceMul, Nat.reduceSub, Nat.reduceDiv, Nat.reduceEqDiff, Nat.reduceLT, Nat.reduceGT, Nat.reduceLeDiff, reduceIte, reduceCtorEq, mt, Int.natCast_zero, show ((0 : Nat) : Int) = 0 from rfl, Int.lt_irrefl]
  | n + 1, 0, s, hm, h => by omega
  | n + 1, m + 1, s, hm, h => by
    have hlt : (n + 1) / 10 ≤ m := by omega
    have hs : (strOf [IntKind.u8.wrap (48 + (((n + 1 : Nat) : Int) % 10))] ++ s).size = 1 + s.size := by
      rw [ByteArray.size_append, strOf_one]
    obtain ⟨h1, h2⟩ := markText_loop ((n + 1) / 10) m (strOf [IntKind.u8.wrap (48 + (((n + 1 : Nat) : Int) % 10))] ++ s) hlt (by rw [hs]; omega)
    have hpos : (0 : Int) < ((n + 1 : Nat) : Int) := by omega
    have e1 : Int.tmod ((n + 1 : Nat) : Int) 10 = ((n + 1 : Nat) : Int) % 10 := Int.tmod_eq_emod_of_nonneg (by omega)
    have e2 : Int.tdiv ((n + 1 : Nat) : Int) 10 = (((n + 1) / 10 : Nat) : Int) := by
      rw [Int.tdiv_eq_ediv_of_nonneg (by omega)]
      rfl
    have e3 : IntKind.i64.wrap (((n + 1) / 10 : Nat) : Int) = (((n + 1) / 10 : Nat) : Int) := wrap_eq (by omega) (by omega)
    have e4 : IntKind.i64.wrap (48 + ((n + 1 : Nat) : Int) % 10) = 48 + ((n + 1 : Nat) : Int) % 10 := wrap_eq (by omega) (by omega)
    have e5 : 1 + s.size ≤ 9223372036854775807 := by omega
    have hb : ∀ a : Int, bytesOf [[LV.int .u8 a]] = some [a] := fun a => rfl
    refine ⟨?_, by unfold mt; exact h2⟩
    rw [kLoop_normal (s' := ⟨[(0, .int .i64 (((n + 1) / 10 : Nat) : Int)), (3, .str (strOf [IntKind.u8.wrap (48 + (((n + 1 : Nat) : Int) % 10))] ++ s))], []⟩)]
    · rw [h1]
      simp only [mt]
    · have h10 : ¬ ((10 : Int) = 0) := by decide
      simp only [b111_0, ex0, ex1, ex2, ex3, ex4, ex5, ex6, ex7, ex8, Nat.reduceAdd, Nat.reduceMul, Nat.reduceSub, Nat.reduceDiv, Nat.reduceEqDiff, Nat.reduceLT, Nat.reduceGT, Nat.reduceLeDiff, reduceIte, reduceCtorEq, hpos, h10, e1, e2, e3, e4, hb, strOf_one, e5, Nat.div_one]
theorem markText_ok (k : Int) (h0 : 1 ≤ k) (h : k ≤ 100000000000000000) : L 111 [.int .i64 k] [] = some ([.str (mtext k)], []) := by
  obtain ⟨n, rfl⟩ : ∃ n : Nat, k = (n : Int) := ⟨k.toNat, by omega⟩
  obtain ⟨h1, h2⟩ := markText_loop n n ⟨#[]⟩ (Nat.le_refl _) (by show n + 0 ≤ _; omega)
  have h3 : ¬ (n : Int) ≤ 0 := by omega
  have h4 : (⟨#[109]⟩ : ByteArray).size + (mt n ⟨#[]⟩).size ≤ 9223372036854775807 := by
    have : (⟨#[109]⟩ : ByteArray).size = 1 := rfl
    omega
  rw [e111]
  simp only [c111, runF_eq, ex0, ex1, ex2, ex3, ex4, ex5, ex6, ex7, ex8, Nat.reduceAdd, Nat.reduceMul, Nat.reduceSub, Nat.reduceDiv, Nat.reduceEqDiff, Nat.reduceLT, Nat.reduceGT, Nat.reduceLeDiff, reduceIte, reduceCtorEq, h3, h1, h4, mtext]

structure PartRow where
  name : ByteArray
  entry : Int
  policy : Policy
  windows : List Window
  deriving DecidableEq
def PartRow.row (b : Bool) (p : PartRow) : Row := [.str p.name, .int .i64 p.entry, .int .i64 p.policy.kind, .int .i64 p.policy.most, cell b 3 (p.windows.map Window.row)]
theorem PartRow.plain (b : Bool) (p : PartRow) : (p.row b).all LV.plain = true := by
  cases b <;> rfl
def PartRow.sz (p : PartRow) : Int := p.name.size + p.windows.length
/-- No text and no list is longer than memory bears. -/
def PartRow.fit (p : PartRow) : Prop := p.name.size ≤ 140737488355328 ∧ p.windows.length * 24 ≤ 140737488355328

theorem szPartRow_ok (s : ByteArray) (x1 x2 x3 : Int) (ws : List Window) (left : Int) (h : s.size ≤ 140737488355328) (h' : ws.length * 24 ≤ 140737488355328) (h0 : 0 ≤ left) (h1 : left ≤ 1000000000000000000) :
    L 83 [.agg [.str s, .int .i64 x1, .int .i64 x2, .int .i64 x3, .list 3 (ws.map Window.row)], .int .i64 left] [] = some ([.int .i64 (if left - ((s.size : Int) + ws.length) < 0 then -1 else left - ((s.size : Int) + ws.length))], []) := by
  have w1 : IntKind.i64.wrap (left - s.size) = left - s.size := wrap_eq (by omega) (by omega)
  rw [e83]
  by_cases hs : left - (s.size : Int) < 0
  · have e : left - ((s.size : Int) + ws.length) < 0 := by omega
    simp only [c83, runF_eq, ex0, ex1, ex2, ex3, ex4, ex5, ex6, ex7, ex8, Nat.reduceAdd, Nat.reduceMul, Nat.reduceSub, Nat.reduceDiv, Nat.reduceEqDiff, Nat.reduceLT, Nat.reduceGT, Nat.reduceLeDiff, reduceIte, reduceCtorEq, w1, hs, e]
  · have hc := szWindowS_ok (ws.map Window.row) (left - s.size) (by simp; omega) (by omega) (by omega)
    rw [List.length_map] at hc
    by_cases hw : left - (s.size : Int) - ws.length < 0
    · have e : left - ((s.size : Int) + ws.length) < 0 := by omega
      rw [if_pos hw] at hc
      have e1 : (-1 : Int) < 0 := by decide
      simp only [c83, runF_eq, ex0, ex1, ex2, ex3, ex4, ex5, ex6, ex7, ex8, Nat.reduceAdd, Nat.reduceMul, Nat.reduceSub, Nat.reduceDiv, Nat.reduceEqDiff, Nat.reduceLT, Nat.reduceGT, Nat.reduceLeDiff, reduceIte, reduceCtorEq, w1, hs, e, l126, hc, e1]
    · have e : ¬ left - ((s.size : Int) + ws.length) < 0 := by omega
      have e2 : left - (s.size : Int) - ws.length = left - ((s.size : Int) + ws.length) := by omega
      rw [if_neg hw, e2] at hc
      simp only [c83, runF_eq, ex0, ex1, ex2, ex3, ex4, ex5, ex6, ex7, ex8, Nat.reduceAdd, Nat.reduceMul, Nat.reduceSub, Nat.reduceDiv, Nat.reduceEqDiff, Nat.reduceLT, Nat.reduceGT, Nat.reduceLeDiff, reduceIte, reduceCtorEq, w1, hs, l126, hc, e]

theorem szPartRowS_ok (b : Bool) (ps : List PartRow) (left : Int) (hf : ∀ p ∈ ps, p.fit) (h : ps.length * 64 ≤ 140737488355328) (h0 : 0 ≤ left) (h1 : left ≤ 1000000000000000000) :
    L 37 [.list 5 (ps.map (PartRow.row b)), .int .i64 left] [] = some ([.int .i64 (if left - (ps.length + total PartRow.sz ps) < 0 then -1 else left - (ps.length + total PartRow.sz ps))], []) := by
  have hnn : ∀ p : PartRow, 0 ≤ p.sz := fun p => by unfold PartRow.sz; omega
  have w1 : IntKind.i64.wrap (left - ps.length) = left - ps.length := wrap_eq (by omega) (by omega)
  have ht := total_nonneg hnn ps
  rw [e37]
  by_cases hs : left - (ps.length : Int) < 0
  · have e : left - ((ps.length : Int) + total PartRow.sz ps) < 0 := by omega
    simp only [c37, runF_eq, ex0, ex1, ex2, ex3, ex4, ex5, ex6, ex7, ex8, Nat.reduceAdd, Nat.reduceMul, Nat.reduceSub, Nat.reduceDiv, Nat.reduceEqDiff, Nat.reduceLT, Nat.reduceGT, Nat.reduceLeDiff, reduceIte, reduceCtorEq, List.length_map, w1, hs, e]
  · have hloop := loop_list (S := LL 11) (b := b37_0) ps (fun k (l : Int) => ⟨[(0, .list 5 (ps.map (PartRow.row b))), (1, .int .i64 l), (5, .int .i64 (k : Int))], []⟩)
      (fun l p => if l - p.sz < 0 then .inr (none, ⟨[(4, .int .i64 (-1))], []⟩) else .inl (l - p.sz))
      (fun l => (some 0, ⟨[(15, .bool false), (14, .int .i64 (ps.length : Int)), (13, .list 5 (ps.map (PartRow.row b))), (12, .int .i64 (ps.length : Int)), (0, .list 5 (ps.map (PartRow.row b))), (1, .int .i64 l), (5, .int .i64 (ps.length : Int))], []⟩))
      (fun k l => 0 ≤ l ∧ l ≤ 1000000000000000000) (fun k p l hp hl => by
        have hk : k < ps.length := (List.getElem?_eq_some_iff.1 hp).1
        have hw : IntKind.i64.wrap ((k : Int) + 1) = ((k + 1 : Nat) : Int) := wrap_succ (by omega)
        obtain ⟨f1, f2⟩ := hf p (List.mem_of_getElem? hp)
        have hc := szPartRow_ok p.name p.entry p.policy.kind p.policy.most p.windows l f1 f2 hl.1 hl.2
        have hz : (p.name.size : Int) + p.windows.length = p.sz := rfl
        rw [hz] at hc
        refine ⟨?_, ?_⟩
        · by_cases hlt : l - p.sz < 0
          · rw [if_pos hlt] at hc
            have e1 : (-1 : Int) < 0 := by decide
            simp only [b37_0, ex0, ex1, ex2, ex3, ex4, ex5, ex6, ex7, ex8, Nat.reduceAdd, Nat.reduceMul, Nat.reduceSub, Nat.reduceDiv, Nat.reduceEqDiff, Nat.reduceLT, Nat.reduceGT, Nat.reduceLeDiff, reduceIte, reduceCtorEq, List.length_map, List.getElem?_map, hp, Int.ofNat_lt, hk, hw, PartRow.row, ldi_cell, l83, hc, hlt, outE, exO, e1]
          · rw [if_neg hlt] at hc
            simp only [b37_0, ex0, ex1, ex2, ex3, ex4, ex5, ex6, ex7, ex8, Nat.reduceAdd, Nat.reduceMul, Nat.reduceSub, Nat.reduceDiv, Nat.reduceEqDiff, Nat.reduceLT, Nat.reduceGT, Nat.reduceLeDiff, reduceIte, reduceCtorEq, List.length_map, List.getElem?_map, hp, Int.ofNat_lt, hk, hw, PartRow.row, ldi_cell, l83, hc, hlt, outE, exO]
        · intro s' hs'
          split at hs'
          · cases hs'
          · obtain rfl := Sum.inl.inj hs'
            have := hnn p
            omega) (fun l hl => by
        simp only [b37_0, ex0, ex1, ex2, ex3, ex4, ex5, ex6, ex7, ex8, Nat.reduceAdd, Nat.reduceMul, Nat.reduceSub, Nat.reduceDiv, Nat.reduceEqDiff, Nat.reduceLT, Nat.reduceGT, Nat.reduceLeDiff, reduceIte, reduceCtorEq, List.length_map, Int.lt_irrefl, exO]) ps 0 (left - ps.length) rfl (Nat.zero_le _) ⟨by omega, by omega⟩
    rw [sz_fold PartRow.sz hnn _ _ ps _ (by omega), show ((0 : Nat) : Int) = 0 from rfl] at hloop
    by_cases hlt : left - ((ps.length : Int) + total PartRow.sz ps) < 0
    · have e : left - (ps.length : Int) - total PartRow.sz ps < 0 := by omega
      rw [if_pos e] at hloop
      simp only [exO] at hloop
      simp only [c37, runF_eq, ex0, ex1, ex2, ex3, ex4, ex5, ex6, ex7, ex8, Nat.reduceAdd, Nat.reduceMul, Nat.reduceSub, Nat.reduceDiv, Nat.reduceEqDiff, Nat.reduceLT, Nat.reduceGT, Nat.reduceLeDiff, reduceIte, reduceCtorEq, List.length_map, w1, hs, hlt, hloop]
    · have e : ¬ left - (ps.length : Int) - total PartRow.sz ps < 0 := by omega
      rw [if_neg e] at hloop
      simp only [exO] at hloop
      have e2 : left - (ps.length : Int) - total PartRow.sz ps = left - ((ps.length : Int) + total PartRow.sz ps) := by omega
      rw [e2] at hloop
      simp only [c37, runF_eq, ex0, ex1, ex2, ex3, ex4, ex5, ex6, ex7, ex8, Nat.reduceAdd, Nat.reduceMul, Nat.reduceSub, Nat.reduceDiv, Nat.reduceEqDiff, Nat.reduceLT, Nat.reduceGT, Nat.reduceLeDiff, reduceIte, reduceCtorEq, List.length_map, w1, hs, hlt, hloop]

theorem toPartRow_ok (s : ByteArray) (x1 x2 x3 : Int) (ws : List Window) (h' : ws.length * 24 ≤ 140737488355328) :
    L 88 [.agg [.str s, .int .i64 x1, .int .i64 x2, .int .i64 x3, .list 3 (ws.map Window.row)]] [] = some ([.agg [.str s, .int .i64 x1, .int .i64 x2, .int .i64 x3, .arr 3 (ws.map Window.row)]], []) := by
  have hc := toWindowS_ok ws h'
  have hp : rowsPlain (ws.map Window.row) = true := rowsPlain_map (fun _ => rfl) ws
  have hv : vw (ws.map Window.row) 0 ws.length = ws.map Window.row := vw_full (by simp)
  rw [e88]
  simp only [c88, runF_eq, ex0, ex1, ex2, ex3, ex4, ex5, ex6, ex7, ex8, Nat.reduceAdd, Nat.reduceMul, Nat.reduceSub, Nat.reduceDiv, Nat.reduceEqDiff, Nat.reduceLT, Nat.reduceGT, Nat.reduceLeDiff, reduceIte, reduceCtorEq, l134, toPolicy_ok, l135, hc, hp, hv, List.length_map]

theorem toPartRowS_ok (b : Bool) (ws : List PartRow) (hf : ∀ p ∈ ws, p.fit) (h : ws.length * 64 ≤ 140737488355328) : L 46 [.list 5 (ws.map (PartRow.row b))] [] = some ([.arr 5 (ws.map (PartRow.row true))], []) := by
  have hloop := fill_loop (S := LL 22) (b := b46_0) (n := ws.length) (fun k X => ⟨[(0, .list 5 (ws.map (PartRow.row b))), (3, .sl 5 500030 0 ws.length), (4, .int .i64 (k : Int))], [(500030, some X)]⟩) (List.replicate ws.length [.str ⟨#[]⟩, .int .i64 0, .int .i64 0, .int .i64 0, .nil 3]) (ws.map (PartRow.row true)) (by simp) (by simp) (by simp [rowsPlain, LV.plain]) (rowsPlain_map (PartRow.plain _) ws) (fun k hk X r hX hg hr hp hp' => by
    have hx : ws[k]? = some ws[k] := by simp [hk]
    rw [List.getElem?_replicate, if_pos hk] at hg
    rw [List.getElem?_map, hx] at hr
    obtain rfl := Option.some.inj hr
    have hw : IntKind.i64.wrap ((k : Int) + 1) = ((k + 1 : Nat) : Int) := wrap_succ (by omega)
    have hc := toPartRow_ok ws[k].name ws[k].entry ws[k].policy.kind ws[k].policy.most ws[k].windows (hf _ (List.getElem_mem hk)).2
    have hpw : rowsPlain (ws[k].windows.map Window.row) = true := rowsPlain_map (fun _ => rfl) _
    have hv : vw (ws[k].windows.map Window.row) 0 ws[k].windows.length = ws[k].windows.map Window.row := vw_full (by simp)
    simp only [Option.map_some, PartRow.row, cell_t] at hp'
    simp only [b46_0, ex0, ex1, ex2, ex3, ex4, ex5, ex6, ex7, ex8, Nat.reduceAdd, Nat.reduceMul, Nat.reduceSub, Nat.reduceDiv, Nat.reduceEqDiff, Nat.reduceLT, Nat.reduceGT, Nat.reduceLeDiff, reduceIte, reduceCtorEq, List.length_map, List.getElem?_map, hx, Int.ofNat_lt, hk, hw, l88, hc, PartRow.row, ldi_cell, cell_t, hg, hp', hpw, hv])
  have hfin := hloop.trans (kLoop_exit (i := 0) (s' := ⟨[(11, .bool false), (10, .int .i64 (ws.length : Int)), (9, .list 5 (ws.map (PartRow.row b))), (8, .int .i64 (ws.length : Int)), (0, .list 5 (ws.map (PartRow.row b))), (3, .sl 5 500030 0 ws.length), (4, .int .i64 (ws.length : Int))], [(500030, some (ws.map (PartRow.row true)))]⟩) (by
    simp only [b46_0, ex0, ex1, ex2, ex3, ex4, ex5, ex6, ex7, ex8, Nat.reduceAdd, Nat.reduceMul, Nat.reduceSub, Nat.reduceDiv, Nat.reduceEqDiff, Nat.reduceLT, Nat.reduceGT, Nat.reduceLeDiff, reduceIte, reduceCtorEq, List.length_map, Int.lt_irrefl]))
  rw [show ((0 : Nat) : Int) = 0 from rfl] at hfin
  have hp : rowsPlain (List.replicate ws.length [.str ⟨#[]⟩, .int .i64 0, .int .i64 0, .int .i64 0, .nil 3]) = true := by simp [rowsPlain, LV.plain]
  have hp2 : rowsPlain (ws.map (PartRow.row true)) = true := rowsPlain_map (PartRow.plain _) ws
  have hv : vw (ws.map (PartRow.row true)) 0 ws.length = ws.map (PartRow.row true) := vw_full (by simp)
  have h' : (ws.length : Int) * ((64 : Nat) : Int) ≤ 140737488355328 := by omega
  rw [e46]
  simp only [c46, runF_eq, ex0, ex1, ex2, ex3, ex4, ex5, ex6, ex7, ex8, Nat.reduceAdd, Nat.reduceMul, Nat.reduceSub, Nat.reduceDiv, Nat.reduceEqDiff, Nat.reduceLT, Nat.reduceGT, Nat.reduceLeDiff, reduceIte, reduceCtorEq, List.length_map, hp, hp2, hv, h', hfin]

theorem eqPartRow_ok (s s' : ByteArray) (x1 x2 x3 y1 y2 y3 : Int) (ws vs : List Window) (h' : ws.length < 4000000000000000000) :
    L 108 [.agg [.str s, .int .i64 x1, .int .i64 x2, .int .i64 x3, .list 3 (ws.map Window.row)], .agg [.str s', .int .i64 y1, .int .i64 y2, .int .i64 y3, .list 3 (vs.map Window.row)]] [] = some ([.bool (decide (PartRow.mk s x1 ⟨x2, x3⟩ ws = PartRow.mk s' y1 ⟨y2, y3⟩ vs))], []) := by
  have hc := eqWindowS_ok ws vs h'
  rw [e108]
  simp only [c108, runF_eq, ex0, ex1, ex2, ex3, ex4, ex5, ex6, ex7, ex8, Nat.reduceAdd, Nat.reduceMul, Nat.reduceSub, Nat.reduceDiv, Nat.reduceEqDiff, Nat.reduceLT, Nat.reduceGT, Nat.reduceLeDiff, reduceIte, reduceCtorEq, strEq_iff, l149, eqPolicy_ok, l150, hc]
  simp only [PartRow.mk.injEq, Policy.mk.injEq]
  repeat' split
  all_goals first | (simp_all; done) | grind

theorem eqPartRowS_ok (b b' : Bool) (ws vs : List PartRow) (hf : ∀ p ∈ ws, p.fit) (h : ws.length < 4000000000000000000) : L 56 [.list 5 (ws.map (PartRow.row b)), .list 5 (vs.map (PartRow.row b'))] [] = some ([.bool (decide (ws = vs))], []) := by
  rw [e56]
  by_cases hl : ws.length = vs.length
  · have hloop := eq_loop (S := LL 91) (b := b56_0) ws vs hl (fun k => ⟨[(0, .list 5 (ws.map (PartRow.row b))), (1, .list 5 (vs.map (PartRow.row b'))), (5, .int .i64 (k : Int))], []⟩) ⟨[(4, .bool false)], []⟩ ⟨[(14, .bool false), (13, .int .i64 (ws.length : Int)), (12, .list 5 (ws.map (PartRow.row b))), (11, .int .i64 (ws.length : Int)), (0, .list 5 (ws.map (PartRow.row b))), (1, .list 5 (vs.map (PartRow.row b'))), (5, .int .i64 (ws.length : Int))], []⟩ (fun k x y hx hy => by
      have hk : k < ws.length := (List.getElem?_eq_some_iff.1 hx).1
      have hw : IntKind.i64.wrap ((k : Int) + 1) = ((k + 1 : Nat) : Int) := wrap_succ (by omega)
      have hc := eqPartRow_ok x.name y.name x.entry x.policy.kind x.policy.most y.entry y.policy.kind y.policy.most x.windows y.windows (by have := (hf x (List.mem_of_getElem? hx)).2; omega)
      simp only [b56_0, ex0, ex1, ex2, ex3, ex4, ex5, ex6, ex7, ex8, Nat.reduceAdd, Nat.reduceMul, Nat.reduceSub, Nat.reduceDiv, Nat.reduceEqDiff, Nat.reduceLT, Nat.reduceGT, Nat.reduceLeDiff, reduceIte, reduceCtorEq, List.length_map, List.getElem?_map, hx, hy, Int.ofNat_lt, hk, hw, l108, hc, PartRow.row, ldi_cell]
      by_cases e : x = y <;> simp [e]) (by
      simp only [b56_0, ex0, ex1, ex2, ex3, ex4, ex5, ex6, ex7, ex8, Nat.reduceAdd, Nat.reduceMul, Nat.reduceSub, Nat.reduceDiv, Nat.reduceEqDiff, Nat.reduceLT, Nat.reduceGT, Nat.reduceLeDiff, reduceIte, reduceCtorEq, List.length_map, Int.lt_irrefl])
    rw [show ((0 : Nat) : Int) = 0 from rfl] at hloop
    simp only [c56, runF_eq, ex0, ex1, ex2, ex3, ex4, ex5, ex6, ex7, ex8, Nat.reduceAdd, Nat.reduceMul, Nat.reduceSub, Nat.reduceDiv, Nat.reduceEqDiff, Nat.reduceLT, Nat.reduceGT, Nat.reduceLeDiff, reduceIte, reduceCtorEq, List.length_map, hl, hloop]
    by_cases e : ws = vs
    · subst e; simp
    · simp [e]
  · have hl' : ¬ ((ws.length : Int) = (vs.length : Int)) := by omega
    have e : ws ≠ vs := fun e => hl (by rw [e])
    simp only [c56, runF_eq, ex0, ex1, ex2, ex3, ex4, ex5, ex6, ex7, ex8, Nat.reduceAdd, Nat.reduceMul, Nat.reduceSub, Nat.reduceDiv, Nat.reduceEqDiff, Nat.reduceLT, Nat.reduceGT, Nat.reduceLeDiff, reduceIte, reduceCtorEq, List.length_map, hl', e]

def PartRow.cost (p : PartRow) : Int := 4 + total Window.cost p.windows
def PartRow.mk' (p : PartRow) (k : Int) : PartRow := ⟨mtext k, k + 1, ⟨k + 2, k + 3⟩, marks Window.cost Window.mk' p.windows (k + 4)⟩
theorem Window.cost_nn (w : Window) : 0 ≤ w.cost := by simp [Window.cost]
theorem PartRow.cost_nn (p : PartRow) : 0 ≤ p.cost := by
  have := total_nonneg Window.cost_nn p.windows
  unfold PartRow.cost; omega
theorem wtotal : ∀ ws : List Window, total Window.cost ws = 3 * ws.length
  | [] => rfl
  | w :: r => by simp only [total, wtotal r, Window.cost, List.length_cons]; omega

theorem markPartRowS_ok (ws : List PartRow) (k0 : Int) (hf : ∀ p ∈ ws, p.fit) (h : ws.length < 1000000000000000) (h0 : 1 ≤ k0) (h1 : k0 + total PartRow.cost ws ≤ 100000000000000000) : L 59 [.sl 5 900000 0 ws.length, .int .i64 k0] [(900000, some (ws.map (PartRow.row true)))] = some ([.int .i64 (k0 + total PartRow.cost ws)], [(900000, some ((marks PartRow.cost PartRow.mk' ws k0).map (PartRow.row true)))]) := by
  have hloop := fill_loop (S := LL 100) (b := b59_0) (n := ws.length) (fun k X => ⟨[(0, .sl 5 900000 0 ws.length), (1, .int .i64 (offs PartRow.cost ws k0 k)), (5, .int .i64 (k : Int))], [(900000, some X)]⟩) (ws.map (PartRow.row true)) ((marks PartRow.cost PartRow.mk' ws k0).map (PartRow.row true)) (by simp) (by simp [marks_length]) (rowsPlain_map (PartRow.plain _) _) (rowsPlain_map (PartRow.plain _) _) (fun k hk X r hX hg hr hp hp' => by
    have hx : ws[k]? = some ws[k] := by simp [hk]
    have ho := offs_le PartRow.cost_nn ws k0 k _ hx
    have hn := offs_succ PartRow.cost ws k0 k _ hx
    rw [List.getElem?_map, marks_get, hx] at hr
    obtain rfl := Option.some.inj hr
    rw [List.getElem?_map, hx] at hg
    obtain ⟨f1, f2⟩ := hf _ (List.getElem_mem hk)
    generalize ws[k] = p at *
    generalize offs PartRow.cost ws k0 k = kk at *
    have hkX : k < X.length := by omega
    have hw : IntKind.i64.wrap ((k : Int) + 1) = ((k + 1 : Nat) : Int) := wrap_succ (by omega)
    have ht := total_nonneg Window.cost_nn p.windows
    simp only [PartRow.cost] at ho hn
    have w1 : IntKind.i64.wrap (kk + 1) = kk + 1 := wrap_eq (by omega) (by omega)
    have w2 : IntKind.i64.wrap (kk + 2) = kk + 2 := wrap_eq (by omega) (by omega)
    have w3 : IntKind.i64.wrap (kk + 3) = kk + 3 := wrap_eq (by omega) (by omega)
    have w4 : IntKind.i64.wrap (kk + 4) = kk + 4 := wrap_eq (by omega) (by omega)
    have hm := markText_ok kk (by omega) (by omega)
    have hc := markWindowS_ok p.windows (kk + 4) (by omega) (by omega) (by omega)
    have hpw : rowsPlain (p.windows.map Window.row) = true := rowsPlain_map (fun _ => rfl) _
    have hpm : rowsPlain ((marks Window.cost Window.mk' p.windows (kk + 4)).map Window.row) = true := rowsPlain_map (fun _ => rfl) _
    simp only [Option.map_some, PartRow.row, PartRow.mk', cell_t] at hp' hg
    simp only [Int.add_assoc] at hc hn
    simp only [b59_0, ex0, ex1, ex2, ex3, ex4, ex5, ex6, ex7, ex8, Nat.reduceAdd, Nat.reduceMul, Nat.reduceSub, Nat.reduceDiv, Nat.reduceEqDiff, Nat.reduceLT, Nat.reduceGT, Nat.reduceLeDiff, reduceIte, reduceCtorEq, hX, Int.ofNat_lt, hk, hw, hg, PartRow.row, PartRow.mk', cell_t, List.getElem?_set_self hkX, List.length_set, List.set_set, hp', Int.add_assoc, hn, w1, w2, w3, w4, l111, hm, l112, hc, hpw, hpm, Int.reduceAdd, List.length_map, marks_length])
  have hfin := hloop.trans (kLoop_exit (i := 0) (s' := ⟨[(9, .bool false), (8, .int .i64 (ws.length : Int)), (7, .sl 5 900000 0 ws.length), (6, .int .i64 (ws.length : Int)), (0, .sl 5 900000 0 ws.length), (1, .int .i64 (offs PartRow.cost ws k0 ws.length)), (5, .int .i64 (ws.length : Int))], [(900000, some ((marks PartRow.cost PartRow.mk' ws k0).map (PartRow.row true)))]⟩) (by
    simp only [b59_0, ex0, ex1, ex2, ex3, ex4, ex5, ex6, ex7, ex8, Nat.reduceAdd, Nat.reduceMul, Nat.reduceSub, Nat.reduceDiv, Nat.reduceEqDiff, Nat.reduceLT, Nat.reduceGT, Nat.reduceLeDiff, reduceIte, reduceCtorEq, Int.lt_irrefl]))
  rw [show ((0 : Nat) : Int) = 0 from rfl, show offs PartRow.cost ws k0 0 = k0 by cases ws <;> rfl, offs_end] at hfin
  have hp : rowsPlain (ws.map (PartRow.row true)) = true := rowsPlain_map (PartRow.plain _) _
  have hp2 : rowsPlain ((marks PartRow.cost PartRow.mk' ws k0).map (PartRow.row true)) = true := rowsPlain_map (PartRow.plain _) _
  rw [e59]
  simp only [c59, runF_eq, ex0, ex1, ex2, ex3, ex4, ex5, ex6, ex7, ex8, Nat.reduceAdd, Nat.reduceMul, Nat.reduceSub, Nat.reduceDiv, Nat.reduceEqDiff, Nat.reduceLT, Nat.reduceGT, Nat.reduceLeDiff, reduceIte, reduceCtorEq, hp, hp2, hfin]

theorem heldPartRowS_ok (b : Bool) (ws : List PartRow) (k0 : Int) (hf : ∀ p ∈ ws, p.fit) (h : ws.length < 1000000000000000) (h0 : 1 ≤ k0) (h1 : k0 + total PartRow.cost ws ≤ 100000000000000000) : L 62 [.list 5 ((marks PartRow.cost PartRow.mk' ws k0).map (PartRow.row b)), .int .i64 k0] [] = some ([.int .i64 (k0 + total PartRow.cost ws)], []) := by
  have hloop := loop_to (S := LL 106) (b := b62_0) (n := ws.length) (st := fun k => ⟨[(0, .list 5 ((marks PartRow.cost PartRow.mk' ws k0).map (PartRow.row b))), (1, .int .i64 (offs PartRow.cost ws k0 k)), (5, .int .i64 (k : Int))], []⟩) (fun k hk => by
    have hx : ws[k]? = some ws[k] := by simp [hk]
    have ho := offs_le PartRow.cost_nn ws k0 k _ hx
    have hn := offs_succ PartRow.cost ws k0 k _ hx
    obtain ⟨f1, f2⟩ := hf _ (List.getElem_mem hk)
    have hw : IntKind.i64.wrap ((k : Int) + 1) = ((k + 1 : Nat) : Int) := wrap_succ (by omega)
    have hmk := marks_get PartRow.cost PartRow.mk' ws k0 k
    have hml := marks_length PartRow.cost PartRow.mk' ws k0
    rw [hx] at hmk
    generalize marks PartRow.cost PartRow.mk' ws k0 = M at *
    generalize ws[k] = p at *
    generalize offs PartRow.cost ws k0 k = kk at *
    have ht := total_nonneg Window.cost_nn p.windows
    simp only [PartRow.cost] at ho hn
    have w1 : IntKind.i64.wrap (kk + 1) = kk + 1 := wrap_eq (by omega) (by omega)
    have w2 : IntKind.i64.wrap (kk + 2) = kk + 2 := wrap_eq (by omega) (by omega)
    have w3 : IntKind.i64.wrap (kk + 3) = kk + 3 := wrap_eq (by omega) (by omega)
    have w4 : IntKind.i64.wrap (kk + 4) = kk + 4 := wrap_eq (by omega) (by omega)
    have hm := markText_ok kk (by omega) (by omega)
    have hc := heldWindowS_ok p.windows (kk + 4) (by omega) (by omega) (by omega)
    have hneg : ¬ kk + (4 + total Window.cost p.windows) < 0 := by omega
    simp only [Int.add_assoc] at hc hn
    simp only [Option.map_some, PartRow.mk'] at hmk
    simp only [b62_0, ex0, ex1, ex2, ex3, ex4, ex5, ex6, ex7, ex8, Nat.reduceAdd, Nat.reduceMul, Nat.reduceSub, Nat.reduceDiv, Nat.reduceEqDiff, Nat.reduceLT, Nat.reduceGT, Nat.reduceLeDiff, reduceIte, reduceCtorEq, List.length_map, hml, List.getElem?_map, hmk, Int.ofNat_lt, hk, hw, PartRow.row, ldi_cell, Int.add_assoc, hn, w1, w2, w3, w4, l111, hm, l113, hc, hneg, strEq_iff, Int.reduceAdd])
  have hfin := hloop.trans (kLoop_exit (i := 0) (s' := ⟨[(9, .bool false), (8, .int .i64 (ws.length : Int)), (7, .list 5 ((marks PartRow.cost PartRow.mk' ws k0).map (PartRow.row b))), (6, .int .i64 (ws.length : Int)), (0, .list 5 ((marks PartRow.cost PartRow.mk' ws k0).map (PartRow.row b))), (1, .int .i64 (offs PartRow.cost ws k0 ws.length)), (5, .int .i64 (ws.length : Int))], []⟩) (by
    simp only [b62_0, ex0, ex1, ex2, ex3, ex4, ex5, ex6, ex7, ex8, Nat.reduceAdd, Nat.reduceMul, Nat.reduceSub, Nat.reduceDiv, Nat.reduceEqDiff, Nat.reduceLT, Nat.reduceGT, Nat.reduceLeDiff, reduceIte, reduceCtorEq, List.length_map, marks_length, Int.lt_irrefl]))
  rw [show ((0 : Nat) : Int) = 0 from rfl, show offs PartRow.cost ws k0 0 = k0 by cases ws <;> rfl, offs_end] at hfin
  rw [e62]
  simp only [c62, runF_eq, ex0, ex1, ex2, ex3, ex4, ex5, ex6, ex7, ex8, Nat.reduceAdd, Nat.reduceMul, Nat.reduceSub, Nat.reduceDiv, Nat.reduceEqDiff, Nat.reduceLT, Nat.reduceGT, Nat.reduceLeDiff, reduceIte, reduceCtorEq, hfin]
end Go.Proofs.YtahjhlnhkoifhaaGreat.Plan
