/- Loops over lists, and whole numbers that stay small. -/
import Derived.Test.YtahjhlnhkoifhaaGreatZX
set_option linter.unusedVariables false
namespace Go.Lev

def exO : Option Nat → Ex
  | some i => .exit i
  | none => .ret
/-- What a round comes to: the next state, or a way out. -/
def outE {σ : Type} (st : σ → St) : σ ⊕ (Option Nat × St) → Option (Ex × St)
  | .inl s => some (.normal, st s)
  | .inr e => some (exO e.1, e.2)
def foldE {α σ : Type} (f : σ → α → σ ⊕ (Option Nat × St)) (g : σ → Option Nat × St) : σ → List α → Option Nat × St
  | s, [] => g s
  | s, x :: r => match f s x with
    | .inl s' => foldE f g s' r
    | .inr e => e
theorem loop_list {S : Sig} {b : LC} {α σ : Type} (xs : List α) (st : Nat → σ → St) (f : σ → α → σ ⊕ (Option Nat × St)) (g : σ → Option Nat × St) (P : Nat → σ → Prop)
    (hs : ∀ k x s, xs[k]? = some x → P k s → runC S b (st k s) = outE (st (k + 1)) (f s x) ∧ ∀ s', f s x = .inl s' → P (k + 1) s') (he : ∀ s, P xs.length s → runC S b (st xs.length s) = some (exO (g s).1, (g s).2)) :
    ∀ (r : List α) (k : Nat) (s : σ), xs.drop k = r → k ≤ xs.length → P k s → kLoop S b (st k s) = some (exO (foldE f g s r).1, (foldE f g s r).2)
  | [], k, s, hr, hk, hp => by
    have : k = xs.length := by
      have := congrArg List.length hr
      simp at this
      omega
    subst this
    simp only [foldE]
    have h := he s hp
    cases hg : (g s).1 with
    | none => rw [hg] at h; exact kLoop_ret h
    | some i => rw [hg] at h; exact kLoop_exit h
  | x :: r, k, s, hr, hk, hp => by
    have hlt : k < xs.length := by
      have := congrArg List.length hr
      simp at this
      omega
    have hx : xs[k]? = some x := by
      have : (xs.drop k)[0]? = some x := by rw [hr]; rfl
      simpa using this
    have hr' : xs.drop (k + 1) = r := by
      rw [← List.drop_drop, hr]; rfl
    obtain ⟨h1, h2⟩ := hs k x s hx hp
    simp only [foldE]
    cases hf : f s x with
    | inl s' =>
      rw [hf] at h1
      rw [kLoop_normal h1]
      exact loop_list xs st f g P hs he r (k + 1) s' hr' hlt (h2 s' hf)
    | inr e =>
      rw [hf] at h1
      simp only [outE] at h1
      cases hg : e.1 with
      | none => rw [hg] at h1; simpa [hg, exO] using kLoop_ret h1
      | some i => rw [hg] at h1; simpa [hg, exO] using kLoop_exit h1
/-- A loop that goes to its end. -/
theorem loop_to {S : Sig} {b : LC} {st : Nat → St} {n : Nat} (h : ∀ k, k < n → runC S b (st k) = some (.normal, st (k + 1))) : kLoop S b (st 0) = kLoop S b (st n) := by
  induction n with
  | zero => rfl
  | succ n ih =>
    rw [ih (fun k hk => h k (by omega))]
    exact kLoop_normal (h n (by omega))

theorem rowsPlain_map {α : Type} {f : α → Row} (h : ∀ x, (f x).all LV.plain = true) (xs : List α) : rowsPlain (xs.map f) = true := by
  unfold rowsPlain
  rw [List.all_eq_true]
  intro r hr
  obtain ⟨x, _, rfl⟩ := List.mem_map.1 hr
  exact h x
theorem rowsScalar_map {α : Type} {f : α → Row} (h : ∀ x, (f x).all LV.scalar = true) (xs : List α) : rowsScalar (xs.map f) = true := by
  unfold rowsScalar
  rw [List.all_eq_true]
  intro r hr
  obtain ⟨x, _, rfl⟩ := List.mem_map.1 hr
  exact h x
theorem rowsPlain_set {X : Rows} {i : Nat} {r : Row} (h : rowsPlain X = true) (hr : r.all LV.plain = true) : rowsPlain (X.set i r) = true := by
  unfold rowsPlain at h ⊢
  rw [List.all_eq_true] at h ⊢
  intro y hy
  rcases List.mem_or_eq_of_mem_set hy with hy | rfl
  · exact h y hy
  · exact hr
/-- To keep an object is to keep its rows, whatever its cells, where they name no object. -/
theorem keep_same {os : List (Nat × Nat)} {x : Rows} (h : rowsPlain x = true) : (if rowsPlain x = true then x else x.map (·.map (ren0 os))) = x := by rw [if_pos h]
theorem rowsPlain_mix {A B : Rows} {i : Nat} (hA : rowsPlain A = true) (hB : rowsPlain B = true) : rowsPlain (A.take i ++ B.drop i) = true := by
  unfold rowsPlain at hA hB ⊢
  rw [List.all_eq_true] at hA hB ⊢
  intro y hy
  rcases List.mem_append.1 hy with hy | hy
  · exact hA y (List.mem_of_mem_take hy)
  · exact hB y (List.mem_of_mem_drop hy)
theorem rowsPlain_get {A : Rows} (hA : rowsPlain A = true) {i : Nat} {r : Row} (h : A[i]? = some r) : r.all LV.plain = true := by
  unfold rowsPlain at hA
  rw [List.all_eq_true] at hA
  exact hA r (List.mem_of_getElem? h)
theorem mix_get {α : Type} {A B : List α} {n i : Nat} (hA : A.length = n) (hB : B.length = n) (hi : i < n) : (A.take i ++ B.drop i)[i]? = B[i]? := by
  have hl : (A.take i).length = i := by rw [List.length_take]; omega
  rw [List.getElem?_append_right (by omega), hl, Nat.sub_self, List.getElem?_drop, Nat.add_zero]
theorem mix_set {α : Type} {A B : List α} {n i : Nat} {r : α} (hA : A.length = n) (hB : B.length = n) (hi : i < n) (hr : A[i]? = some r) : (A.take i ++ B.drop i).set i r = A.take (i + 1) ++ B.drop (i + 1) := by
  have hl : (A.take i).length = i := by rw [List.length_take]; omega
  have hd : B.drop i = B[i] :: B.drop (i + 1) := List.drop_eq_getElem_cons (by omega)
  obtain ⟨h1, h2⟩ := List.getElem?_eq_some_iff.1 hr
  rw [List.set_append_right _ _ (by omega), hl, Nat.sub_self, hd, List.set_cons_zero, List.take_succ_eq_append_getElem h1, h2]
  simp
/-- A loop that writes each element of an object anew. -/
theorem fill_loop {S : Sig} {b : LC} {n : Nat} (st : Nat → Rows → St) (X0 A : Rows) (h0 : X0.length = n) (hA : A.length = n) (hp0 : rowsPlain X0 = true) (hpA : rowsPlain A = true)
    (hround : ∀ i, i < n → ∀ X r, X.length = n → X[i]? = X0[i]? → A[i]? = some r → rowsPlain X = true → rowsPlain (X.set i r) = true → runC S b (st i X) = some (.normal, st (i + 1) (X.set i r))) : kLoop S b (st 0 X0) = kLoop S b (st n A) := by
  have := loop_to (S := S) (b := b) (st := fun i => st i (A.take i ++ X0.drop i)) (n := n) (fun k hk => by
    have hr : A[k]? = some A[k] := by simp
    rw [hround k hk _ _ (by rw [List.length_append, List.length_take, List.length_drop]; omega) (mix_get hA h0 hk) hr (rowsPlain_mix hpA hp0) (rowsPlain_set (rowsPlain_mix hpA hp0) (rowsPlain_get hpA hr)), mix_set hA h0 hk hr])
  simp only [List.take_zero, List.drop_zero, List.nil_append] at this
  rw [this, List.take_of_length_le (by omega), List.drop_of_length_le (by omega), List.append_nil]

/-- A loop that compares two lists. -/
theorem eq_loop {S : Sig} {b : LC} {α : Type} [DecidableEq α] (ws vs : List α) (hl : ws.length = vs.length) (st : Nat → St) (sF sE : St)
    (hround : ∀ k x y, ws[k]? = some x → vs[k]? = some y → runC S b (st k) = if x = y then some (.normal, st (k + 1)) else some (.ret, sF)) (hend : runC S b (st ws.length) = some (.exit 0, sE)) :
    kLoop S b (st 0) = if ws = vs then some (.exit 0, sE) else some (.ret, sF) := by
  have key : ∀ (r r' : List α) (k : Nat), k ≤ ws.length → ws.drop k = r → vs.drop k = r' → kLoop S b (st k) = if r = r' then some (.exit 0, sE) else some (.ret, sF) := by
    intro r
    induction r with
    | nil =>
      intro r' k hk h1 h2
      have e1 : k = ws.length := by
        have := congrArg List.length h1
        simp at this
        omega
      have e2 : r' = [] := by
        apply List.eq_nil_of_length_eq_zero
        rw [← h2, List.length_drop]
        omega
      subst e1 e2
      rw [if_pos rfl]
      exact kLoop_exit hend
    | cons x r ih =>
      intro r' k hk h1 h2
      have hlt : k < ws.length := by
        have := congrArg List.length h1
        simp at this
        omega
      have hx : ws[k]? = some x := by
        have : (ws.drop k)[0]? = some x := by rw [h1]; rfl
        simpa using this
      cases r' with
      | nil =>
        have := congrArg List.length h2
        simp at this
        omega
      | cons y r' =>
        have hy : vs[k]? = some y := by
          have : (vs.drop k)[0]? = some y := by rw [h2]; rfl
          simpa using this
        have hr := hround k x y hx hy
        by_cases e : x = y
        · subst e
          rw [if_pos rfl] at hr
          rw [kLoop_normal hr, ih r' (k + 1) hlt (by rw [← List.drop_drop, h1]; rfl) (by rw [← List.drop_drop, h2]; rfl)]
          simp
        · rw [if_neg e] at hr
          rw [kLoop_ret hr, if_neg (by simp [e])]
  exact key ws vs 0 (Nat.zero_le _) rfl rfl
theorem vw_full {x : Rows} {n : Nat} (h : x.length = n) : vw x 0 n = x := by
  subst h
  simp [vw]

/-! Marks: numbers that go up from element to element. -/
def marks {α : Type} (c : α → Int) (mk : α → Int → α) : List α → Int → List α
  | [], _ => []
  | x :: r, k => mk x k :: marks c mk r (k + c x)
def offs {α : Type} (c : α → Int) : List α → Int → Nat → Int
  | _, k, 0 => k
  | [], k, _ + 1 => k
  | x :: r, k, i + 1 => offs c r (k + c x) i
def total {α : Type} (c : α → Int) : List α → Int
  | [] => 0
  | x :: r => c x + total c r
theorem marks_length {α : Type} (c : α → Int) (mk : α → Int → α) : ∀ (ws : List α) (k : Int), (marks c mk ws k).length = ws.length
  | [], _ => rfl
  | x :: r, k => by simp [marks, marks_length c mk r]
theorem marks_get {α : Type} (c : α → Int) (mk : α → Int → α) : ∀ (ws : List α) (k : Int) (i : Nat), (marks c mk ws k)[i]? = (ws[i]?).map fun x => mk x (offs c ws k i)
  | [], _, _ => by simp [marks]
  | x :: r, k, 0 => by simp [marks, offs]
  | x :: r, k, i + 1 => by simp only [marks, offs, List.getElem?_cons_succ]; exact marks_get c mk r (k + c x) i
theorem offs_succ {α : Type} (c : α → Int) : ∀ (ws : List α) (k : Int) (i : Nat) (x : α), ws[i]? = some x → offs c ws k (i + 1) = offs c ws k i + c x
  | [], _, _, _, h => by simp at h
  | y :: r, k, 0, x, h => by
    obtain rfl := Option.some.inj (show some y = some x from h)
    cases r <;> simp [offs]
  | y :: r, k, i + 1, x, h => by
    simp only [offs]
    exact offs_succ c r (k + c y) i x (by simpa using h)
theorem offs_end {α : Type} (c : α → Int) : ∀ (ws : List α) (k : Int), offs c ws k ws.length = k + total c ws
  | [], k => by simp [offs, total]
  | x :: r, k => by simp only [List.length_cons, offs, total]; rw [offs_end c r]; omega
theorem total_nonneg {α : Type} {c : α → Int} (hc : ∀ x, 0 ≤ c x) : ∀ ws : List α, 0 ≤ total c ws
  | [] => by simp [total]
  | x :: r => by simp only [total]; have := hc x; have := total_nonneg hc r; omega
theorem offs_le {α : Type} {c : α → Int} (hc : ∀ x, 0 ≤ c x) : ∀ (ws : List α) (k : Int) (i : Nat) (x : α), ws[i]? = some x → k ≤ offs c ws k i ∧ offs c ws k i + c x ≤ k + total c ws
  | [], _, _, _, h => by simp at h
  | y :: r, k, 0, x, h => by
    obtain rfl := Option.some.inj (show some y = some x from h)
    have := total_nonneg hc r
    simp only [offs, total]
    omega
  | y :: r, k, i + 1, x, h => by
    have := offs_le hc r (k + c y) i x (by simpa using h)
    have := hc y
    simp only [offs, total]
    omega

/-- A loop that takes what each element weighs off a number, and gives up below none. -/
theorem sz_fold {α : Type} (c : α → Int) (hc : ∀ x, 0 ≤ c x) (e : St) (g : Int → St) : ∀ (r : List α) (l : Int), 0 ≤ l →
    foldE (fun l x => if l - c x < 0 then Sum.inr (none, e) else .inl (l - c x)) (fun l => (some 0, g l)) l r = if l - total c r < 0 then (none, e) else (some 0, g (l - total c r))
  | [], l, hl => by
    have h : ¬ l - total c ([] : List α) < 0 := by simp only [total]; omega
    rw [if_neg h]
    simp [foldE, total]
  | x :: r, l, hl => by
    have hr := total_nonneg hc r
    by_cases h : l - c x < 0
    · have h' : l - total c (x :: r) < 0 := by simp only [total]; omega
      rw [if_pos h']
      simp only [foldE]
      rw [if_pos h]
    · have e1 : l - total c (x :: r) = l - c x - total c r := by simp only [total]; omega
      rw [e1, ← sz_fold c hc e g r (l - c x) (by omega)]
      simp only [foldE]
      rw [if_neg h]
theorem wrap_eq {x : Int} (h : -9223372036854775808 ≤ x) (h' : x ≤ 9223372036854775807) : IntKind.i64.wrap x = x := by
  unfold IntKind.wrap
  simp [IntKind.signed, IntKind.bits]
  omega
theorem wrap_succ {k : Nat} (h : k < 9223372036854775807) : IntKind.i64.wrap ((k : Int) + 1) = ((k + 1 : Nat) : Int) := by
  rw [wrap_eq (by omega) (by omega)]
  omega
theorem getElem?_map_row {α : Type} (f : α → Row) (xs : List α) (k : Nat) : (xs.map f)[k]? = (xs[k]?).map f := List.getElem?_map ..
end Go.Lev
