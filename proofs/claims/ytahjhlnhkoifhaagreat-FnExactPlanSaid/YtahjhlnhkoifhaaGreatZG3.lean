/- Loops that look through a list: for all, the first that, and what is gathered. -/
import Derived.Test.YtahjhlnhkoifhaaGreatZG1
set_option linter.unusedVariables false
namespace Go.Lev

theorem drop_get {α : Type} {xs r : List α} {x : α} {k : Nat} (hr : xs.drop k = x :: r) : k < xs.length ∧ xs[k]? = some x ∧ xs.drop (k + 1) = r := by
  refine ⟨?_, ?_, ?_⟩
  · have := congrArg List.length hr
    simp at this
    omega
  · have : (xs.drop k)[0]? = some x := by rw [hr]; rfl
    simpa using this
  · rw [← List.drop_drop, hr]; rfl
theorem drop_end {α : Type} {xs : List α} {k : Nat} (hr : xs.drop k = []) (hk : k ≤ xs.length) : k = xs.length := by
  have := congrArg List.length hr
  simp at this
  omega

/-- What is gathered along a list, till it fails. -/
def foldO {α σ : Type} (f : Nat → σ → α → Option σ) : Nat → σ → List α → Option σ
  | _, s, [] => some s
  | k, s, x :: r => match f k s x with
    | some s' => foldO f (k + 1) s' r
    | none => none
theorem foldO_loop {S : Sig} {b : LC} {α σ : Type} (xs : List α) (f : Nat → σ → α → Option σ) (st : Nat → σ → St) (sF : Nat → σ → α → Ex × St) (sE : σ → Ex × St) (P : Nat → σ → Prop)
    (hs : ∀ k x s, xs[k]? = some x → P k s → match f k s x with
      | some s' => runC S b (st k s) = some (.normal, st (k + 1) s') ∧ P (k + 1) s'
      | none => runC S b (st k s) = some (sF k s x) ∧ (sF k s x).1 ≠ .normal)
    (he : ∀ s, P xs.length s → runC S b (st xs.length s) = some (sE s) ∧ (sE s).1 ≠ .normal) :
    ∀ (r : List α) (k : Nat) (s : σ), xs.drop k = r → k ≤ xs.length → P k s →
      match foldO f k s r with
      | some s' => P xs.length s' ∧ kLoop S b (st k s) = some (sE s')
      | none => ∃ j t y, xs[j]? = some y ∧ P j t ∧ f j t y = none ∧ kLoop S b (st k s) = some (sF j t y)
  | [], k, s, hr, hk, hp => by
    obtain rfl := drop_end hr hk
    simp only [foldO]
    refine ⟨hp, ?_⟩
    obtain ⟨h, hn⟩ := he s hp
    generalize hx : sE s = e at *
    obtain ⟨ex, s'⟩ := e
    cases ex with
    | normal => exact absurd rfl hn
    | ret => exact kLoop_ret h
    | exit i => exact kLoop_exit h
  | x :: r, k, s, hr, hk, hp => by
    obtain ⟨hlt, hx, hr'⟩ := drop_get hr
    have h1 := hs k x s hx hp
    simp only [foldO]
    cases hf : f k s x with
    | some s' =>
      rw [hf] at h1
      obtain ⟨h1, h2⟩ := h1
      rw [kLoop_normal h1]
      exact foldO_loop xs f st sF sE P hs he r (k + 1) s' hr' hlt h2
    | none =>
      rw [hf] at h1
      obtain ⟨h, hn⟩ := h1
      refine ⟨k, s, x, hx, hp, hf, ?_⟩
      generalize hx : sF k s x = e at *
      obtain ⟨ex, s'⟩ := e
      cases ex with
      | normal => exact absurd rfl hn
      | ret => exact kLoop_ret h
      | exit i => exact kLoop_exit h

/-- For all, with their places. -/
def allK {α : Type} (p : Nat → α → Bool) : Nat → List α → Bool
  | _, [] => true
  | k, x :: r => p k x && allK p (k + 1) r
theorem allK_iff {α : Type} {p : Nat → α → Bool} : ∀ {xs : List α} {k : Nat}, allK p k xs = true ↔ ∀ i x, xs[i]? = some x → p (k + i) x = true
  | [], k => by simp [allK]
  | x :: r, k => by
    rw [allK, Bool.and_eq_true, allK_iff]
    constructor
    · rintro ⟨h1, h2⟩ i y hy
      cases i with
      | zero => simp at hy; subst hy; exact h1
      | succ i => have := h2 i y (by simpa using hy); rwa [Nat.add_right_comm, Nat.add_assoc] at this
    · intro h
      refine ⟨h 0 x rfl, fun i y hy => ?_⟩
      have := h (i + 1) y (by simpa using hy)
      rwa [Nat.add_right_comm, Nat.add_assoc]
theorem allK_all {α : Type} {q : α → Bool} : ∀ {xs : List α} {k : Nat}, allK (fun _ => q) k xs = xs.all q
  | [], k => rfl
  | x :: r, k => by rw [allK, allK_all, List.all_cons]
theorem allK_foldO {α : Type} {p : Nat → α → Bool} : ∀ {xs : List α} {k : Nat}, foldO (fun k (_ : Unit) x => if p k x then some () else none) k () xs = if allK p k xs then some () else none
  | [], k => rfl
  | x :: r, k => by
    simp only [foldO, allK]
    by_cases h : p k x = true
    · simp [h, allK_foldO]
    · simp [h]
theorem all_loop {S : Sig} {b : LC} {α : Type} (xs : List α) (p : Nat → α → Bool) (st : Nat → St) (sF : Nat → α → St) (i : Nat) (sE : St)
    (hs : ∀ k x, xs[k]? = some x → runC S b (st k) = some (if p k x then (.normal, st (k + 1)) else (.ret, sF k x)))
    (he : runC S b (st xs.length) = some (.exit i, sE)) :
    (allK p 0 xs = true → kLoop S b (st 0) = some (.exit i, sE)) ∧ (allK p 0 xs = false → ∃ k x, xs[k]? = some x ∧ kLoop S b (st 0) = some (.ret, sF k x)) := by
  have h := foldO_loop xs (fun k (_ : Unit) x => if p k x then some () else none) (fun k _ => st k) (fun k _ x => (.ret, sF k x)) (fun _ => (.exit i, sE)) (fun _ _ => True) (fun k x s hx _ => by
    have h := hs k x hx
    cases hp : p k x with
    | true => rw [hp] at h; simpa using h
    | false => rw [hp] at h; simpa using h) (fun _ _ => ⟨he, by simp⟩) xs 0 () rfl (Nat.zero_le _) trivial
  rw [allK_foldO] at h
  constructor
  · intro ha
    rw [ha] at h
    exact h.2
  · intro ha
    rw [ha] at h
    obtain ⟨k, _, x, hx, _, _, h⟩ := h
    exact ⟨k, x, hx, h⟩

/-- What is gathered along a list. -/
def foldK {α σ : Type} (f : Nat → σ → α → σ) : Nat → σ → List α → σ
  | _, s, [] => s
  | k, s, x :: r => foldK f (k + 1) (f k s x) r
theorem foldK_foldO {α σ : Type} (f : Nat → σ → α → σ) : ∀ (xs : List α) (k : Nat) (s : σ), foldO (fun k s x => some (f k s x)) k s xs = some (foldK f k s xs)
  | [], k, s => rfl
  | x :: r, k, s => by simp only [foldO, foldK]; exact foldK_foldO f r (k + 1) _
theorem foldK_foldl {α σ : Type} (f : σ → α → σ) : ∀ (xs : List α) (k : Nat) (s : σ), foldK (fun _ => f) k s xs = xs.foldl f s
  | [], k, s => rfl
  | x :: r, k, s => by simp only [foldK, List.foldl]; exact foldK_foldl f r (k + 1) _
theorem fold_loop {S : Sig} {b : LC} {α σ : Type} (xs : List α) (f : Nat → σ → α → σ) (st : Nat → σ → St) (i : Nat) (sE : σ → St) (P : Nat → σ → Prop)
    (hs : ∀ k x s, xs[k]? = some x → P k s → runC S b (st k s) = some (.normal, st (k + 1) (f k s x)) ∧ P (k + 1) (f k s x))
    (he : ∀ s, P xs.length s → runC S b (st xs.length s) = some (.exit i, sE s)) (s : σ) (h0 : P 0 s) :
    P xs.length (foldK f 0 s xs) ∧ kLoop S b (st 0 s) = some (.exit i, sE (foldK f 0 s xs)) := by
  have h := foldO_loop xs (fun k s x => some (f k s x)) st (fun k s x => (.ret, st k s)) (fun s => (.exit i, sE s)) P (fun k x s hx hp => hs k x s hx hp) (fun s hp => ⟨he s hp, by simp⟩) xs 0 s rfl (Nat.zero_le _) h0
  rw [foldK_foldO] at h
  exact h

/-- The place of the first that is so. -/
def findK {α : Type} (p : α → Bool) : Nat → List α → Int
  | _, [] => -1
  | k, x :: r => if p x then (k : Int) else findK p (k + 1) r
theorem find_loop {S : Sig} {b : LC} {α : Type} (xs : List α) (p : α → Bool) (st : Nat → St) (sF : Nat → St) (i : Nat) (sE : St)
    (hs : ∀ k x, xs[k]? = some x → runC S b (st k) = some (if p x then (.ret, sF k) else (.normal, st (k + 1))))
    (he : runC S b (st xs.length) = some (.exit i, sE)) :
    ∀ (r : List α) (k : Nat), xs.drop k = r → k ≤ xs.length → (findK p k r = -1 ∧ kLoop S b (st k) = some (.exit i, sE)) ∨ ∃ j : Nat, findK p k r = (j : Int) ∧ kLoop S b (st k) = some (.ret, sF j)
  | [], k, hr, hk => by
    obtain rfl := drop_end hr hk
    exact .inl ⟨rfl, kLoop_exit he⟩
  | x :: r, k, hr, hk => by
    obtain ⟨hlt, hx, hr'⟩ := drop_get hr
    have h1 := hs k x hx
    cases hp : p x with
    | true =>
      rw [hp] at h1
      exact .inr ⟨k, by simp [findK, hp], kLoop_ret (by simpa using h1)⟩
    | false =>
      rw [hp] at h1
      have ih := find_loop xs p st sF i sE hs he r (k + 1) hr' hlt
      rw [kLoop_normal (by simpa using h1)]
      simpa [findK, hp] using ih
theorem findK_any {α : Type} {p : α → Bool} : ∀ {xs : List α} {k : Nat}, (0 ≤ findK p k xs) ↔ xs.any p = true
  | [], k => by simp [findK]
  | x :: r, k => by
    rw [findK, List.any_cons]
    cases p x <;> simp [findK_any]
end Go.Lev
