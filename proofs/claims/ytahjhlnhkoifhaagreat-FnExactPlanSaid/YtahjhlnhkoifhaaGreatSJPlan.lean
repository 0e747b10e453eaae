/- FnExactPlan: for all arguments the law answers true. A text of its proof: what functions of the program and of the reference answer; no conditions but those that each theorem names. -/
import Derived.Test.YtahjhlnhkoifhaaGreatSIPlan
set_option linter.unusedSimpArgs false
set_option linter.unusedVariables false
set_option maxRecDepth 100000
namespace Go.Proofs.YtahjhlnhkoifhaaGreat.Plan
open Go Go.Lev
/-! Both rules for tables say the same. -/
theorem apart_comm (v w : Window) : apart v w = apart w v := by
  unfold apart
  rw [decide_eq_decide]
  omega
theorem winStep_iff {mem : Int} {all : List Window} {w : Window} {a : List Window} : winStep mem all w = some a ↔ a = all ++ [w] ∧ fitsB mem w = true ∧ ∀ v ∈ all, apart v w = true := by
  unfold winStep
  split
  · rename_i h
    rw [Bool.and_eq_true, any_not, Bool.not_not, List.all_eq_true] at h
    constructor
    · intro e; exact ⟨(Option.some.inj e).symm, h⟩
    · rintro ⟨rfl, _⟩; rfl
  · rename_i h
    rw [Bool.and_eq_true, any_not, Bool.not_not, List.all_eq_true] at h
    constructor
    · intro e; cases e
    · rintro ⟨_, h'⟩; exact absurd h' h
theorem winFold_iff {mem : Int} : ∀ (ws : List Window) (k : Nat) (all a : List Window), foldO (fun _ => winStep mem) k all ws = some a ↔ a = all ++ ws ∧ (∀ w ∈ ws, fitsB mem w = true) ∧ (∀ w ∈ ws, ∀ v ∈ all, apart v w = true) ∧ ws.Pairwise (fun v w => apart v w = true)
  | [], k, all, a => by
    simp [foldO]
    exact eq_comm
  | w :: r, k, all, a => by
    simp only [foldO]
    cases hs : winStep mem all w with
    | none =>
      constructor
      · intro e; cases e
      · rintro ⟨_, h1, h2, h3⟩
        have : winStep mem all w = some (all ++ [w]) := winStep_iff.2 ⟨rfl, h1 w (by simp), h2 w (by simp)⟩
        rw [this] at hs
        cases hs
    | some a' =>
      obtain ⟨rfl, h1, h2⟩ := winStep_iff.1 hs
      simp only
      rw [winFold_iff r (k + 1) (all ++ [w]) a]
      constructor
      · rintro ⟨rfl, g1, g2, g3⟩
        refine ⟨by simp, ?_, ?_, ?_⟩
        · intro x hx
          rcases List.mem_cons.1 hx with rfl | hx
          · exact h1
          · exact g1 x hx
        · intro x hx v hv
          rcases List.mem_cons.1 hx with rfl | hx
          · exact h2 v hv
          · exact g2 x hx v (by simp [hv])
        · rw [List.pairwise_cons]
          exact ⟨fun x hx => g2 x hx w (by simp), g3⟩
      · rintro ⟨rfl, g1, g2, g3⟩
        rw [List.pairwise_cons] at g3
        refine ⟨by simp, fun x hx => g1 x (by simp [hx]), fun x hx v hv => ?_, g3.2⟩
        rcases List.mem_append.1 hv with hv | hv
        · exact g2 x (by simp [hx]) v hv
        · simp at hv; subst hv; exact g3.1 x hx
def loc (t : Tables) (k : Nat) (p : PartRow) : Prop := nameOk p.name = true ∧ ¬ firstOf t p < k ∧ policyOk p.policy = true ∧ inB p.windows.length 1 4 = true ∧ (∀ w ∈ p.windows, fitsB t.mem w = true) ∧ p.entry.tmod 4 = 0 ∧ runs p p.entry = true
theorem partStep_iff {t : Tables} {k : Nat} {all a : List Window} {p : PartRow} : partStep t k all p = some a ↔ a = all ++ p.windows ∧ loc t k p ∧ (∀ w ∈ p.windows, ∀ v ∈ all, apart v w = true) ∧ p.windows.Pairwise (fun v w => apart v w = true) := by
  unfold partStep loc
  split
  · rename_i h
    simp only [Bool.and_eq_true, Bool.not_eq_true', decide_eq_false_iff_not] at h
    obtain ⟨h1, h2, h3, h4⟩ := h
    cases hw : foldO (fun _ => winStep t.mem) 0 all p.windows with
    | none =>
      constructor
      · intro e; cases e
      · rintro ⟨_, ⟨_, _, _, _, g1, _⟩, g2, g3⟩
        rw [(winFold_iff p.windows 0 all (all ++ p.windows)).2 ⟨rfl, g1, g2, g3⟩] at hw
        cases hw
    | some a' =>
      obtain ⟨rfl, g1, g2, g3⟩ := (winFold_iff p.windows 0 all a').1 hw
      simp only
      split
      · rename_i g
        rw [Bool.and_eq_true, decide_eq_true_eq] at g
        constructor
        · intro e; exact ⟨(Option.some.inj e).symm, ⟨h1, h2, h3, h4, g1, g.1, g.2⟩, g2, g3⟩
        · rintro ⟨rfl, _⟩; rfl
      · rename_i g
        rw [Bool.and_eq_true, decide_eq_true_eq] at g
        constructor
        · intro e; cases e
        · rintro ⟨_, ⟨_, _, _, _, _, g4, g5⟩, _⟩; exact absurd ⟨g4, g5⟩ g
  · rename_i h
    simp only [Bool.and_eq_true, Bool.not_eq_true', decide_eq_false_iff_not] at h
    constructor
    · intro e; cases e
    · rintro ⟨_, ⟨g1, g2, g3, g4, _⟩, _⟩; exact absurd ⟨g1, g2, g3, g4⟩ h
theorem partFold_iff {t : Tables} : ∀ (ps : List PartRow) (k : Nat) (all a : List Window), foldO (partStep t) k all ps = some a ↔ a = all ++ allW ps ∧ (∀ (i : Nat) (p : PartRow), ps[i]? = some p → loc t (k + i) p) ∧ (∀ w ∈ allW ps, ∀ v ∈ all, apart v w = true) ∧ (allW ps).Pairwise (fun v w => apart v w = true)
  | [], k, all, a => by
    simp [foldO, allW]
    exact eq_comm
  | p :: r, k, all, a => by
    have hW : allW (p :: r) = p.windows ++ allW r := by simp [allW]
    rw [hW, List.pairwise_append]
    simp only [foldO]
    cases hs : partStep t k all p with
    | none =>
      constructor
      · intro e; cases e
      · rintro ⟨_, h1, h2, h3, _⟩
        have : partStep t k all p = some (all ++ p.windows) := partStep_iff.2 ⟨rfl, h1 0 p rfl, fun w hw => h2 w (by simp [hw]), h3⟩
        rw [this] at hs
        cases hs
    | some a' =>
      obtain ⟨rfl, h1, h2, h3⟩ := partStep_iff.1 hs
      simp only
      rw [partFold_iff r (k + 1) (all ++ p.windows) a]
      constructor
      · rintro ⟨rfl, g1, g2, g3⟩
        refine ⟨by simp, ?_, ?_, h3, g3, ?_⟩
        · intro i q hq
          cases i with
          | zero => simp at hq; subst hq; exact h1
          | succ i => have := g1 i q (by simpa using hq); rwa [Nat.add_right_comm, Nat.add_assoc] at this
        · intro w hw v hv
          rcases List.mem_append.1 hw with hw | hw
          · exact h2 w hw v hv
          · exact g2 w hw v (by simp [hv])
        · intro v hv w hw
          exact g2 w hw v (by simp [hv])
      · rintro ⟨rfl, g1, g2, _, g3, g4⟩
        refine ⟨by simp, fun i q hq => ?_, fun w hw v hv => ?_, g3⟩
        · have := g1 (i + 1) q (by simpa using hq)
          rwa [Nat.add_right_comm, Nat.add_assoc]
        · rcases List.mem_append.1 hv with hv | hv
          · exact g2 w (by simp [hw]) v hv
          · exact g4 v hv w hw
theorem findK_lt {α : Type} {q : α → Bool} : ∀ (xs : List α) (k i : Nat) (x : α), xs[i]? = some x → q x = true → (findK q k xs < ((k + i : Nat) : Int) ↔ ∃ (j : Nat) (y : α), j < i ∧ xs[j]? = some y ∧ q y = true)
  | [], k, i, x, h, _ => by simp at h
  | z :: r, k, 0, x, h, hq => by
    simp at h
    subst h
    simp only [findK, hq, if_true]
    constructor
    · intro h; omega
    · rintro ⟨j, _, hj, _⟩; omega
  | z :: r, k, i + 1, x, h, hq => by
    cases hz : q z with
    | true =>
      simp only [findK, hz, if_true]
      constructor
      · intro _; exact ⟨0, z, by omega, rfl, hz⟩
      · intro _; omega
    | false =>
      have ih := findK_lt r (k + 1) i x (by simpa using h) hq
      simp only [findK, hz, Bool.false_eq_true, if_false]
      rw [show k + (i + 1) = k + 1 + i by omega, ih]
      constructor
      · rintro ⟨j, y, h1, h2, h3⟩; exact ⟨j + 1, y, by omega, by simpa using h2, h3⟩
      · rintro ⟨j, y, h1, h2, h3⟩
        cases j with
        | zero => simp at h2; subst h2; rw [hz] at h3; cases h3
        | succ j => exact ⟨j, y, by omega, by simpa using h2, h3⟩
theorem all_take {α : Type} {q : α → Bool} {xs : List α} {i : Nat} : (xs.take i).all q = true ↔ ∀ (j : Nat) (y : α), j < i → xs[j]? = some y → q y = true := by
  rw [List.all_eq_true]
  constructor
  · intro h j y hj hy
    exact h y (List.mem_iff_getElem?.2 ⟨j, by rw [List.getElem?_take, if_pos hj]; exact hy⟩)
  · intro h y hy
    obtain ⟨j, hj⟩ := List.mem_iff_getElem?.1 hy
    obtain ⟨h1, h2⟩ := take_get hj
    exact h j y h1 h2
theorem first_iff {t : Tables} {i : Nat} {p : PartRow} (hp : t.parts[i]? = some p) : ¬ firstOf t p < i ↔ nameNew t.parts i p = true := by
  have := findK_lt (q := fun q => decide (q.name = p.name)) t.parts 0 i p hp (by simp)
  rw [Nat.zero_add] at this
  unfold firstOf nameNew
  rw [this, all_take]
  simp only [Bool.not_eq_true', decide_eq_false_iff_not, decide_eq_true_eq]
  constructor
  · intro h j y hj hy e; exact h ⟨j, y, hj, hy, e⟩
  · rintro h ⟨j, y, hj, hy, e⟩; exact h j y hj hy e
theorem pw_mem {α : Type} {R : α → α → Prop} : ∀ {xs : List α}, xs.Pairwise R → ∀ {a b : α}, a ∈ xs → b ∈ xs → a = b ∨ R a b ∨ R b a
  | [], _, a, _, ha, _ => by cases ha
  | x :: r, h, a, b, ha, hb => by
    rw [List.pairwise_cons] at h
    rcases List.mem_cons.1 ha with ea | ha'
    · rcases List.mem_cons.1 hb with eb | hb'
      · exact .inl (ea.trans eb.symm)
      · subst ea; exact .inr (.inl (h.1 b hb'))
    · rcases List.mem_cons.1 hb with eb | hb'
      · subst eb; exact .inr (.inr (h.1 a ha'))
      · exact pw_mem h.2 ha' hb'
theorem pw_part {R : Window → Window → Prop} : ∀ {ps : List PartRow}, (allW ps).Pairwise R → ∀ p ∈ ps, p.windows.Pairwise R
  | [], _, p, hp => by cases hp
  | q :: r, h, p, hp => by
    have hW : allW (q :: r) = q.windows ++ allW r := by simp [allW]
    rw [hW, List.pairwise_append] at h
    rcases List.mem_cons.1 hp with rfl | hp
    · exact h.1
    · exact pw_part h.2.1 p hp
theorem runs_iff {p : PartRow} {a : Int} (hpw : p.windows.Pairwise (fun v w => apart v w = true)) (hok : ∀ w ∈ p.windows, windowOk w = true) : runs p a = true ↔ ∃ w ∈ p.windows, has a w = true ∧ w.perm.tdiv 4 = 1 := by
  have hperm : ∀ w ∈ p.windows, (4 ≤ w.perm ↔ w.perm.tdiv 4 = 1) := fun w hw => by
    have := windowOk_iff.1 (hok w hw)
    rw [Int.tdiv_eq_ediv_of_nonneg (by omega)]
    omega
  unfold runs
  cases hf : p.windows.find? (has a) with
  | none =>
    rw [List.find?_eq_none] at hf
    constructor
    · intro h; cases h
    · rintro ⟨w, hw, h, _⟩; exact absurd h (hf w hw)
  | some w' =>
    have hm := List.mem_of_find?_eq_some hf
    have hh := List.find?_some hf
    simp only [decide_eq_true_eq]
    constructor
    · intro h; exact ⟨w', hm, hh, (hperm w' hm).1 h⟩
    · rintro ⟨w, hw, h, h4⟩
      have h4 := (hperm w hw).2 h4
      have o1 := windowOk_iff.1 (hok w hw)
      have o2 := windowOk_iff.1 (hok w' hm)
      rcases pw_mem hpw hw hm with rfl | h' | h'
      · exact h4
      · simp only [apart, has, decide_eq_true_eq] at h h' hh; omega
      · simp only [apart, has, decide_eq_true_eq] at h h' hh; omega
theorem apart_iff {ws : List Window} : allK (apartNew ws) 0 ws = true ↔ ws.Pairwise (fun v w => apart v w = true) := by
  rw [allK_iff, List.pairwise_iff_getElem]
  constructor
  · intro h i j hi hj hij
    have := h j ws[j] (List.getElem?_eq_getElem hj)
    rw [Nat.zero_add] at this
    exact (all_take.1 this) i ws[i] hij (List.getElem?_eq_getElem hi)
  · intro h j w hw
    rw [Nat.zero_add]
    obtain ⟨hj, rfl⟩ := List.getElem?_eq_some_iff.1 hw
    refine all_take.2 fun i v hi hv => ?_
    obtain ⟨hi', rfl⟩ := List.getElem?_eq_some_iff.1 hv
    exact h i j hi' hj hi
theorem parts_same (t : Tables) : (foldO (partStep t) 0 [] t.parts).isSome = (allK (fun k p => partOk t.mem p && nameNew t.parts k p) 0 t.parts && allK (apartNew (allW t.parts)) 0 (allW t.parts)) := by
  rw [Bool.eq_iff_iff, Bool.and_eq_true, apart_iff, allK_iff, Option.isSome_iff_exists]
  have key : (allW t.parts).Pairwise (fun v w => apart v w = true) → ∀ (i : Nat) (p : PartRow), t.parts[i]? = some p → (loc t i p ↔ (partOk t.mem p && nameNew t.parts i p) = true) := fun hpw i p hp => by
    have hpp := pw_part hpw p (List.mem_of_getElem? hp)
    rw [Bool.and_eq_true, partOk_iff, ← first_iff hp]
    have hfit : ∀ w : Window, fitsB t.mem w = true ↔ windowOk w = true ∧ w.base + w.size ≤ t.mem := fun w => by
      rw [fitsB, Bool.and_eq_true, decide_eq_true_eq]
    constructor
    · rintro ⟨h1, h2, h3, h4, h5, h6, h7⟩
      have h5' := fun w hw => (hfit w).1 (h5 w hw)
      exact ⟨⟨h1, h3, inB_iff.1 h4, h5', (runs_iff hpp (fun w hw => (h5' w hw).1)).1 h7, h6⟩, h2⟩
    · rintro ⟨⟨h1, h3, h4, h5, h7, h6⟩, h2⟩
      exact ⟨h1, h2, h3, inB_iff.2 h4, fun w hw => (hfit w).2 (h5 w hw), h6, (runs_iff hpp (fun w hw => (h5 w hw).1)).2 h7⟩
  constructor
  · rintro ⟨a, h⟩
    obtain ⟨_, h1, _, h3⟩ := (partFold_iff t.parts 0 [] a).1 h
    refine ⟨fun i p hp => ?_, h3⟩
    have := h1 i p hp
    rw [Nat.zero_add] at *
    exact (key h3 i p hp).1 this
  · rintro ⟨h1, h3⟩
    refine ⟨_, (partFold_iff t.parts 0 [] _).2 ⟨rfl, fun i p hp => ?_, fun w _ v hv => (by cases hv), h3⟩⟩
    have := h1 i p hp
    rw [Nat.zero_add] at *
    exact (key h3 i p hp).2 this
theorem sound_same (t : Tables) : soundI t = soundOk t := by
  unfold soundI soundOk partsOk chansOk
  rw [parts_same]
  cases headOk t <;> cases inB t.parts.length 1 6 <;> cases allK (fun k p => partOk t.mem p && nameNew t.parts k p) 0 t.parts <;> cases allK (apartNew (allW t.parts)) 0 (allW t.parts) <;> try rfl
  cases decide (t.devs.length ≤ 8) <;> cases decide (t.chans.length ≤ 8) <;> cases t.devs.all (fun d => inB d 0 (t.parts.length - 1)) <;> simp [Bool.and_assoc]
theorem isSound_same (b : Bool) (t : Tables) (hf : t.fit) : L 49 [.agg (t.row b)] [] = some ([.bool (soundOk t)], []) := by
  rw [← sound_same]
  exact isSound_ok b t hf
end Go.Proofs.YtahjhlnhkoifhaaGreat.Plan
